/-
  CountsNobody: the walk. Counts that no call made: nil, or a struct of a nil slice.
-/
import Derived.Test.YtffbimebgledoaaCntC
import Derived.RangeFuncNested
import Derived.RangeFuncBound
import Derived.RangeFuncCalls
import Derived.RangeFuncLeaves
import Derived.RangeFuncFrom
import Derived.Shelf.Abstract
import Derived.Shelf.RegionOpen
import Derived.OwnWalkIn
import Derived.TacticsInMore
import Derived.LoopNIn
import Derived.LoopIn
namespace Go.Proofs.Ytffbimebgledoaa
open Go.RowKit Go.Shelf
attribute [local go_sem] Oper.semAt_some

/-- A receiver that no call made. -/
def CNobody (w : World) (v : Value) : Prop := v = .pointer none ∨ ∃ g, v = .pointer (some ⟨g, 0, none⟩) ∧ w.cell? ⟨g, 0, none⟩ = some (.slice none 0 0)

theorem cnobody_nil (W : World) : CNobody W (.pointer none) := .inl rfl
theorem cnobody_zero (W : World) (Z : Nat) (h : W.cell? ⟨Z, 0, none⟩ = some (.slice none 0 0)) : CNobody W (.pointer (some ⟨Z, 0, none⟩)) := .inr ⟨Z, rfl, h⟩

set_option maxHeartbeats 400000 in
theorem chas_nobody (v : Value) (n : Int) (w : World) (h : CNobody w v) : Calls Try.prog 32 #[v, .int .i64 n] w fun r w' => r = .returned (.bool false) ∧ w = w' := by
  rcases h with rfl | ⟨g, rfl, hb⟩
  · go_enter Try.func32, Try.ntmps32
    go_wp2
    go_ret
    exact ⟨rfl, rfl⟩
  · by_cases hn : 0 ≤ n
    · have h2 : ¬ n < 0 := by omega
      go_enter Try.func32, Try.ntmps32
      go_wp2
      go_ret
      exact ⟨rfl, rfl⟩
    · have h2 : n < 0 := by omega
      go_enter Try.func32, Try.ntmps32
      go_wp2
      go_ret
      exact ⟨rfl, rfl⟩

set_option maxHeartbeats 400000 in
theorem cadd_nobody (v : Value) (n : Int) (w : World) (h : CNobody w v) : Calls Try.prog 12 #[v, .int .i64 n] w fun r w' => r = .returned (.bool false) ∧ w = w' := by
  go_enter Try.func12, Try.ntmps12
  go_wp2_with fail
  refine (chas_nobody v n _ h).mono ?_
  rintro r w' ⟨rfl, rfl⟩
  go_wp2
  go_ret
  exact ⟨rfl, rfl⟩
set_option maxHeartbeats 400000 in
theorem cget_nobody (v : Value) (n : Int) (w : World) (h : CNobody w v) : Calls Try.prog 14 #[v, .int .i64 n] w fun r w' => r = .returned (.int .i64 0) ∧ w = w' := by
  go_enter Try.func14, Try.ntmps14
  go_wp2_with fail
  refine (chas_nobody v n _ h).mono ?_
  rintro r w' ⟨rfl, rfl⟩
  go_wp2
  go_ret
  exact ⟨rfl, rfl⟩
set_option maxHeartbeats 400000 in
theorem clist_nil (w : World) : Calls Try.prog 18 #[.pointer none] w fun r w' => r = .returned (.slice none 0 0) ∧ w = w' := by
  go_enter Try.func18, Try.ntmps18
  go_wp2
  go_ret
  exact ⟨rfl, rfl⟩
set_option maxHeartbeats 400000 in
theorem ceach_any (p : Option Addr) (w : World) : Calls Try.prog 24 #[.pointer p] w fun r w' => r = .returned (.func (.func 38) #[] #[.pointer (some ⟨w.heap.size, 0, none⟩)]) ∧ w.alloc (.cells #[.pointer p] 24) = w' := by
  go_enter Try.func24, Try.ntmps24
  go_wp2
  go_ret
  exact ⟨rfl, rfl⟩

abbrev pairOf (x : ByteArray × Int) : Array Value := #[.string x.1, .int .i64 x.2]

set_option maxHeartbeats 1000000 in
/-- What Each hands back at nil counts: no round. -/
theorem each_stops_nil (n : Nat) (hn : 1 ≤ n) (B : Nat) (w : World) (hc : w.cell? ⟨B, 0, none⟩ = some (.pointer none)) (hB : B < w.heap.size) (n0 : Nat) :
    SeqStopsK Fence.wide n Try.prog 38 #[.pointer (some ⟨B, 0, none⟩)] pairOf (Below n0) (fun xs => xs = []) (fun _ => False) 0 w := fun l J Jx W hW hJ hJx hY h0 => by
  refine callsIn_of_wp Try.func38 rfl trivial ?_ rfl
  simp only [Try.ntmps38, List.size_toArray, List.length_cons, List.length_nil, Nat.reduceAdd, Nat.reduceSub, Array.replicate_succ, Array.replicate_zero, List.push_toArray, List.append_toArray, List.nil_append, List.cons_append]
  have hc' := (hW.cell (p := ⟨B, 0, none⟩) hB).trans hc
  gi_wp2_with (refine ⟨trivial, ?_⟩; gi_at_call 18; refine (callsIn_wide.2 (clist_nil _)).mono ?_; rintro e w' ⟨rfl, rfl⟩)
  gi_loopw [8] (fun i wr => i = .int .i64 0 ∧ J [] wr) (fun _ _ => 0)
  case atStart => exact ⟨rfl, h0⟩
  case round =>
    obtain ⟨rfl, hJ1⟩ := hrel
    gi_wp2
    go_end0
    exact ⟨⟨_, rfl⟩, .inl ⟨[], rfl, hJ1⟩⟩

/-- A range over an iterator that comes to no round: what holds of one's own cells holds behind it. -/
theorem range_none {α : Type} {F : Fence} {n : Nat} {P : Program} {g : Operand} {ps : Array Tmp} {body : Code} {Q : Exit → Act → World → Prop} {a : Act} {w : World} (hro : F.round = none) (h1 : 1 ≤ n) {gf : Nat} {lb : Array Value} (hg : a.eval g = .func (.func gf) #[] lb) (hFg : F.fn gf)
    (eg : ∀ args w, (callFunc gf args).run P w = .ok (.enter gf args) w) {encs : α → Array Value} (hseq : SeqStopsK F (n - 1) P gf lb encs (Below w.heap.size) (fun xs => xs = []) (fun _ => False) 0 w) (hps : ∀ x, (encs x).size = ps.size)
    (I : World → Prop) (hI : OwnFrom w.heap.size (fun (_ : List α) W => I W)) (h0 : I w)
    (hdone : ∀ (D : Nat) (W : World), w.heap.size ≤ D → I W → W.heap[D]? = some (.deferred (some [])) → Q .normal { a with defers := { target := .collected D, args := #[] } :: a.defers } W) : (Code.rangeFunc g ps .skip body).wpIn F n P Q a w := by
  refine wpIn_rangeFunc_ownF hro h1 hg hFg eg hseq belowK_t (belowK_b (Nat.le_refl _)) (Below.refl _ _) hps (fun _ W => I W) (fun _ _ _ => False) hI (fun _ _ _ _ _ hs _ _ => hs) h0
    (fun x => { tmps := (ps.zip (encs x)).foldl (fun t (p, v) => t.setIfInBounds p v) a.tmps, defers := [] }) ?_ ?_ ?_ ?_
  · intro l x W K hK
    exact wpIn_skip hK
  · intro l pre x W _ hlt
    exact absurd hlt (Nat.not_lt_zero _)
  · intro D xs W hD _ hIW hK
    exact hdone D W hD hIW hK
  · intro D c pre W _ _ h _
    exact h.elim

set_option maxRecDepth 100000 in
set_option maxHeartbeats 4000000 in
theorem cnobody_walk (t : Int) (w : World) : Calls Try.prog 6 #[.int .i64 t] w fun r w' => r = .returned (.bool true) ∧ Below w.heap.size w w' := by
  refine (callsIn_wide (n := 5)).1 ?_
  refine callsIn_of_wp_marks Try.func6 rfl trivial ?_ rfl
  simp only [Try.ntmps6, List.size_toArray, List.length_cons, List.length_nil, Nat.reduceAdd, Nat.reduceSub, Array.replicate_succ, Array.replicate_zero, List.push_toArray, List.append_toArray, List.nil_append, List.cons_append]
  gi_wp2_with fail
  refine ⟨trivial, ?_⟩
  refine (callsIn_wide.2 (cawake_any _)).mono ?_
  rintro r w1 ⟨rfl, hb1⟩
  generalize hG : w.heap.size = G at *
  have HG := Lib.hid hG
  have hs1 : G + 1 ≤ w1.heap.size := by have := hb1.size; simp at this; omega
  have hc1 : w1.cell? ⟨G, 0, none⟩ = some (.bool false) := (hb1.cell (p := ⟨G, 0, none⟩) (by simp; omega)).trans ((Blk.new w 4 #[.bool false]).cell 0 |> fun h => by rw [← hG]; exact h)
  have hf1 : w1.frozen? ⟨G, 0, none⟩ = false := (hb1.frozen (p := ⟨G, 0, none⟩) (by simp; omega)).trans ((Blk.new w 4 #[.bool false]).frozen 0 |> fun h => by rw [← hG]; exact h)
  have hB1 : Below G w w1 := ((Below.refl _ w).alloc (by omega) _).trans (hb1.mono (by simp; omega))
  clear hG hb1
  gi_wp2_with fail
  refine ⟨trivial, ?_⟩
  refine (callsIn_wide.2 (ceach_any _ _)).mono ?_
  rintro r w2 ⟨rfl, rfl⟩
  gi_wp2_with fail
  obtain ⟨Z, hZ⟩ : ∃ Z, w1.heap.size = Z := ⟨_, rfl⟩
  have cz : ((w1.alloc (.cells #[.slice none 0 0] 52)).alloc (.cells #[.pointer none] 24)).cell? ⟨Z, 0, none⟩ = some (.slice none 0 0) := by
    rw [← hZ]
    exact ((Blk.new w1 52 #[.slice none 0 0]).alloc _).cell 0
  have cb : ((w1.alloc (.cells #[.slice none 0 0] 52)).alloc (.cells #[.pointer none] 24)).cell? ⟨Z + 1, 0, none⟩ = some (.pointer none) := by
    have := (Blk.new (w1.alloc (.cells #[.slice none 0 0] 52)) 24 #[.pointer none]).cell 0
    simp only [World.size_alloc, hZ] at this
    exact this
  have hB0 : Below (G + 1) w1 ((w1.alloc (.cells #[.slice none 0 0] 52)).alloc (.cells #[.pointer none] 24)) := ((Below.refl _ w1).alloc hs1 _).alloc (by simp; omega) _
  have hsz : ((w1.alloc (.cells #[.slice none 0 0] 52)).alloc (.cells #[.pointer none] 24)).heap.size = Z + 2 := by simp [hZ]
  generalize (w1.alloc (.cells #[.slice none 0 0] 52)).alloc (.cells #[.pointer none] 24) = W0 at *
  rw [hZ] at hs1 ⊢
  have HS := Lib.hid hsz
  have HZ := Lib.hid hZ
  have hB2 : Below G w W0 := hB1.trans (hB0.mono (by omega))
  have hc2 := (hB0.cell (p := ⟨G, 0, none⟩) (by simp)).trans hc1
  have hf2 := (hB0.frozen (p := ⟨G, 0, none⟩) (by simp)).trans hf1
  refine range_none rfl (by omega) (gf := 38) (lb := #[.pointer (some ⟨Z + 1, 0, none⟩)]) rfl trivial (enters_of Try.func38 (by kernel_rfl) rfl)
    (each_stops_nil 4 (by omega) (Z + 1) W0 cb (by omega) W0.heap.size) (fun _ => rfl)
    (fun W => (W.cell? ⟨G, 0, none⟩ = some (.bool false) ∧ W.frozen? ⟨G, 0, none⟩ = false ∧ W.cell? ⟨Z, 0, none⟩ = some (.slice none 0 0)) ∧ Below G w W)
    (OwnFrom.and (Own.from (fun s A B row hs hg hr => ⟨cell_kept hs.1 hg hr, (frozen_kept hs.1 hg hr).trans hs.2.1, cell_kept hs.2.2 hg hr⟩) _) (ownFrom_below (by have := HG.out; omega) (by omega)))
    ⟨⟨hc2, hf2, cz⟩, hB2⟩ ?_
  intro D W hD hI hK
  obtain ⟨⟨i1, i2, i3⟩, i4⟩ := hI
  clear hc1 hf1 hB1 hZ cz cb hB0 hsz hB2 hc2 hf2
  have N1 := Lib.hid (cnobody_zero W Z i3)
  gi_wp2_with fail
  refine ⟨trivial, ?_⟩
  refine (callsIn_wide.2 (cadd_nobody _ t _ (cnobody_nil _))).mono ?_
  rintro r w2 ⟨rfl, rfl⟩
  gi_wp2_with fail
  refine ⟨trivial, ?_⟩
  refine (callsIn_wide.2 (cadd_nobody _ t _ N1.out)).mono ?_
  rintro r w2 ⟨rfl, rfl⟩
  gi_wp2_with fail
  refine ⟨trivial, ?_⟩
  refine (callsIn_wide.2 (cget_nobody _ t _ (cnobody_nil _))).mono ?_
  rintro r w2 ⟨rfl, rfl⟩
  gi_wp2_with fail
  refine ⟨trivial, ?_⟩
  refine (callsIn_wide.2 (cget_nobody _ t _ N1.out)).mono ?_
  rintro r w2 ⟨rfl, rfl⟩
  gi_wp2_with fail
  refine ⟨trivial, ?_⟩
  refine (callsIn_wide.2 (clist_nil _)).mono ?_
  rintro r w2 ⟨rfl, rfl⟩
  gi_wp2_with fail
  refine ⟨trivial, ?_⟩
  refine (callsIn_wide.2 (cawake_any _)).mono ?_
  rintro r w3 ⟨rfl, hb3⟩
  have hlt : G < W.heap.size := World.block_lt_of_cell? W _ i1
  have j1 := (hb3.cell (p := ⟨G, 0, none⟩) hlt).trans i1
  have j2 := (hb3.frozen (p := ⟨G, 0, none⟩) hlt).trans i2
  have hDl : D < W.heap.size := by
    rcases Nat.lt_or_ge D W.heap.size with h | h
    · exact h
    · rw [Array.getElem?_eq_none h] at hK; cases hK
  have hK3 : w3.heap[D]? = some (.deferred (some [])) := (hb3.block D hDl).trans hK
  gi_wp2
  have hK' := (KeepsOthers.setCell w3 ⟨G, 0, none⟩ (.bool true)).same D _ hK3 rfl
  refine ⟨by simp, .inl ⟨_, _, rfl, run_takeDeferred hK', ?_⟩⟩
  have hc5 := cell_kept (World.cell?_setCell_same' w3 ⟨G, 0, none⟩ (.bool true) (by rw [j1]; rfl)) (grownBy_putObj' _ D (.deferred none)) (fun r e => by cases e; exact ⟨_, hK', rfl⟩)
  have hw : Below G w w3 := i4.trans (hb3.mono (by omega))
  refine ⟨.bool true, ?_, rfl, ?_⟩
  · simp [results, Try.f6, go_sem, hc5]
  · rw [HG.out]
    exact (hw.setCell (p := ⟨G, 0, none⟩) (Nat.le_refl _) _).trans ((belowK_b (w := w) (Nat.le_refl _) _ D _ _ (by have := HS.out; have := HG.out; omega) hK' rfl rfl).mono (by have := HG.out; omega))
end Go.Proofs.Ytffbimebgledoaa
