/-
  NetNobody: the walk.
-/
import Derived.Test.YtffbimebgledoaaNetG
import Derived.RangeFuncNested
import Derived.RangeFuncBound
import Derived.RangeFuncCalls
import Derived.RangeFuncLeaves
import Derived.RangeFuncFrom
import Derived.Shelf.Abstract
import Derived.Shelf.RegionOpen
import Derived.OwnWalkIn
import Derived.TacticsInMore
import Derived.LoopNIn
import Derived.LoopIn
namespace Go.Proofs.Ytffbimebgledoaa
open Go.RowKit Go.Shelf
attribute [local go_sem] Oper.semAt_some

theorem nall_any (p : Option Addr) (w : World) : Calls Try.prog 26 #[.pointer p] w fun r w' => r = .returned (.func (.func 39) #[] #[.pointer (some ⟨w.heap.size, 0, none⟩)]) ∧ w.alloc (.cells #[.pointer p] 35) = w' := by
  go_enter Try.func26, Try.ntmps26
  go_wp2
  go_ret
  exact ⟨rfl, rfl⟩

abbrev entOf (e : Ent) : Array Value := #[e.val]

set_option maxHeartbeats 1000000 in
/-- What All hands back of a nil net: no round. -/
theorem all_stops_nil (n : Nat) (hn : 1 ≤ n) (B : Nat) (w : World) (hc : w.cell? ⟨B, 0, none⟩ = some (.pointer none)) (hB : B < w.heap.size) (n0 : Nat) :
    SeqStopsK Fence.wide n Try.prog 39 #[.pointer (some ⟨B, 0, none⟩)] entOf (Below n0) (fun xs => xs = []) (fun _ => False) 0 w := fun l J Jx W hW hJ hJx hY h0 => by
  refine callsIn_of_wp Try.func39 rfl trivial ?_ rfl
  simp only [Try.ntmps39, List.size_toArray, List.length_cons, List.length_nil, Nat.reduceAdd, Nat.reduceSub, Array.replicate_succ, Array.replicate_zero, List.push_toArray, List.append_toArray, List.nil_append, List.cons_append]
  have hc' := (hW.cell (p := ⟨B, 0, none⟩) hB).trans hc
  gi_wp2_with (refine ⟨trivial, ?_⟩; gi_at_call 34; refine (callsIn_wide.2 (ready_nobody _ _ (.inl rfl))).mono ?_; rintro e w' ⟨rfl, rfl⟩)
  refine bodyPost_ret (v := .tuple #[]) ?_ rfl ⟨⟨_, rfl⟩, .inl ⟨[], rfl, h0⟩⟩
  simp [results, Try.f39]

/-- A range over an iterator that comes to no round: what holds of one's own cells holds behind it. -/
theorem range_none {α : Type} {F : Fence} {n : Nat} {P : Program} {g : Operand} {ps : Array Tmp} {body : Code} {Q : Exit → Act → World → Prop} {a : Act} {w : World} (hro : F.round = none) (h1 : 1 ≤ n) {gf : Nat} {lb : Array Value} (hg : a.eval g = .func (.func gf) #[] lb) (hFg : F.fn gf)
    (eg : ∀ args w, (callFunc gf args).run P w = .ok (.enter gf args) w) {encs : α → Array Value} (hseq : SeqStopsK F (n - 1) P gf lb encs (Below w.heap.size) (fun xs => xs = []) (fun _ => False) 0 w) (hps : ∀ x, (encs x).size = ps.size)
    (I : World → Prop) (hI : OwnFrom w.heap.size (fun (_ : List α) W => I W)) (h0 : I w)
    (hdone : ∀ (D : Nat) (W : World), w.heap.size ≤ D → I W → W.heap[D]? = some (.deferred (some [])) → Q .normal { a with defers := { target := .collected D, args := #[] } :: a.defers } W) : (Code.rangeFunc g ps .skip body).wpIn F n P Q a w := by
  refine wpIn_rangeFunc_ownF hro h1 hg hFg eg hseq belowK_t (belowK_b (Nat.le_refl _)) (Below.refl _ _) hps (fun _ W => I W) (fun _ _ _ => False) hI (fun _ _ _ _ _ hs _ _ => hs) h0
    (fun x => { tmps := (ps.zip (encs x)).foldl (fun t (p, v) => t.setIfInBounds p v) a.tmps, defers := [] }) ?_ ?_ ?_ ?_
  · intro l x W K hK
    exact wpIn_skip hK
  · intro l pre x W _ hlt
    exact absurd hlt (Nat.not_lt_zero _)
  · intro D xs W hD _ hIW hK
    exact hdone D W hD hIW hK
  · intro D c pre W _ _ h _
    exact h.elim


theorem blk_kept {W W' : World} {row : Option Nat} {g t : Nat} {cs : Array Value} (h : Blk W g t cs) (hg : W.grownBy W' row) (hrow : ∀ r, row = some r → ∃ o : Obj, W.heap[r]? = some o ∧ o.isCells = false) : Blk W' g t cs :=
  (grownBy_keeps_cells hg hrow h rfl).trans h

/-- The law's own variables. -/
structure NB (w : World) (x : Array Value) (Z : Nat) (W : World) : Prop where
  arg : Blk W w.heap.size 42 x
  res : Blk W (w.heap.size + 1) 4 #[.bool false]
  zero : Blk W Z 55 #[.slice none 0 0, .int .i64 0, .bool false]
  bel : Below w.heap.size w W
theorem NB.on {w : World} {x : Array Value} {Z : Nat} {W W' : World} (h : NB w x Z W) (hb : Below W.heap.size W W') : NB w x Z W' :=
  ⟨h.arg.below hb h.arg.lt, h.res.below hb h.res.lt, h.zero.below hb h.zero.lt, h.bel.trans (hb.mono h.bel.size)⟩
theorem NB.netz {w : World} {x : Array Value} {Z : Nat} {W : World} (h : NB w x Z W) : NetZ W (.pointer (some ⟨Z, 0, none⟩)) := .inr ⟨Z, rfl, h.zero.cell 2, h.zero.lt⟩
theorem NB.own {w : World} {x : Array Value} {Z B : Nat} {β : Type} (hB : w.heap.size ≤ B) : OwnFrom B (fun (_ : β) W => NB w x Z W) := fun _ _ _ _ hs hg hr =>
  ⟨blk_kept hs.arg hg (fun r e => (hr r e).2), blk_kept hs.res hg (fun r e => (hr r e).2), blk_kept hs.zero hg (fun r e => (hr r e).2), hs.bel.grown hg hs.bel.size (fun r e => Nat.le_trans hB (hr r e).1)⟩

set_option maxRecDepth 100000 in
set_option maxHeartbeats 4000000 in
theorem nnobody_walk (b4 : Int) (up : Bool) (A : Option Addr) (n c : Nat) (at_ : Int) (w : World) :
    Calls Try.prog 7 #[.agg #[.int .i64 b4, .bool up, .slice A n c], .int .i64 at_] w fun r w' => r = .returned (.bool true) ∧ Below w.heap.size w w' := by
  have bw : Below w.heap.size w ((w.alloc (.cells #[.int .i64 b4, .bool up, .slice A n c] 42)).alloc (.cells #[.bool false] 4)) := ((Below.refl _ w).alloc (Nat.le_refl _) _).alloc (by simp) _
  have ka : Blk ((w.alloc (.cells #[.int .i64 b4, .bool up, .slice A n c] 42)).alloc (.cells #[.bool false] 4)) w.heap.size 42 #[.int .i64 b4, .bool up, .slice A n c] := (Blk.new _ _ _).alloc _
  have kr : Blk ((w.alloc (.cells #[.int .i64 b4, .bool up, .slice A n c] 42)).alloc (.cells #[.bool false] 4)) (w.heap.size + 1) 4 #[.bool false] := by simpa using Blk.new (w.alloc (.cells #[.int .i64 b4, .bool up, .slice A n c] 42)) 4 #[.bool false]
  refine (callsIn_wide (n := 5)).1 ?_
  refine callsIn_of_wp_marks Try.func7 rfl trivial ?_ rfl
  simp only [Try.ntmps7, List.size_toArray, List.length_cons, List.length_nil, Nat.reduceAdd, Nat.reduceSub, Array.replicate_succ, Array.replicate_zero, List.push_toArray, List.append_toArray, List.nil_append, List.cons_append]
  gi_wp2_with fail
  refine ⟨trivial, ?_⟩
  refine (callsIn_wide.2 (nawake_any _)).mono ?_
  rintro r w1 ⟨rfl, hb1⟩
  have nb : NB w #[.int .i64 b4, .bool up, .slice A n c] w1.heap.size (w1.alloc (.cells #[.slice none 0 0, .int .i64 0, .bool false] 55)) :=
    ⟨(ka.below hb1 ka.lt).alloc _, (kr.below hb1 kr.lt).alloc _, Blk.new _ _ _, (bw.trans (hb1.mono bw.size)).alloc (by have := (bw.trans (hb1.mono bw.size)).size; omega) _⟩
  have NB1 := Lib.hid nb
  clear bw ka kr hb1 nb
  gi_wp2_with fail
  refine ⟨trivial, ?_⟩
  refine (callsIn_wide.2 (take_none _ at_ _ (fun w' _ => place_nobody _ at_ w' (.inl rfl)))).mono ?_
  rintro r w2 ⟨rfl, hb2⟩
  have NB2 := Lib.hid ((NB1.out.on hb2).on ((Below.refl _ _).alloc (Nat.le_refl _) (.cells zero3.toArray 42)))
  clear hb2 NB1
  gi_wp2_with fail
  refine ⟨trivial, ?_⟩
  refine (callsIn_wide.2 (look_none _ at_ _ (fun w' hb => place_nobody _ at_ w' (NB2.out.netz.below hb)))).mono ?_
  rintro r w3 ⟨rfl, hb3⟩
  have NB3 := Lib.hid ((NB2.out.on hb3).on ((Below.refl _ _).alloc (Nat.le_refl _) (.cells zero3.toArray 42)))
  clear hb3 NB2
  gi_wp2_with fail
  refine ⟨trivial, ?_⟩
  refine (callsIn_wide.2 (nall_any _ _)).mono ?_
  rintro r w4 ⟨rfl, rfl⟩
  have NB4 := Lib.hid (NB3.out.on ((Below.refl _ _).alloc (Nat.le_refl _) (.cells #[.pointer none] 35)))
  have cb : ((w3.alloc (.cells zero3.toArray 42)).alloc (.cells #[.pointer none] 35)).cell? ⟨w3.heap.size + 1, 0, none⟩ = some (.pointer none) := by
    have := (Blk.new (w3.alloc (.cells zero3.toArray 42)) 35 #[.pointer none]).cell 0
    simp only [World.size_alloc] at this
    exact this
  have hsz : ((w3.alloc (.cells zero3.toArray 42)).alloc (.cells #[.pointer none] 35)).heap.size = w3.heap.size + 2 := by simp
  clear NB3
  gi_wp2_with fail
  change Code.wpIn _ _ _ _ _ _ ((w3.alloc (.cells zero3.toArray 42)).alloc (.cells #[.pointer none] 35))
  generalize (w3.alloc (.cells zero3.toArray 42)).alloc (.cells #[.pointer none] 35) = W0 at *
  refine range_none rfl (by omega) (gf := 39) (lb := #[.pointer (some ⟨w3.heap.size + 1, 0, none⟩)]) rfl trivial (enters_of Try.func39 (by kernel_rfl) rfl)
    (all_stops_nil 4 (by omega) (w3.heap.size + 1) W0 cb (by omega) W0.heap.size) (fun _ => rfl)
    (fun W => NB w #[.int .i64 b4, .bool up, .slice A n c] w1.heap.size W) (NB.own (by have := NB4.out.bel.size; omega)) NB4.out ?_
  intro D W hD nbW hK
  have hwD : w.heap.size ≤ D := Nat.le_trans NB4.out.bel.size hD
  have NW := Lib.hid nbW
  have c0 : W.cell? ⟨w.heap.size, 0, none⟩ = some (.int .i64 b4) := nbW.arg.cell 0
  have c1 : W.cell? ⟨w.heap.size, 1, none⟩ = some (.bool up) := nbW.arg.cell 1
  have c2 : W.cell? ⟨w.heap.size, 2, none⟩ = some (.slice A n c) := nbW.arg.cell 2
  have hDl : D < W.heap.size := by
    rcases Nat.lt_or_ge D W.heap.size with h | h
    · exact h
    · rw [Array.getElem?_eq_none h] at hK; cases hK
  have HK := Lib.hid hK
  clear cb hsz NB4 nbW hK
  gi_wp2_with fail
  refine ⟨trivial, ?_⟩
  refine (callsIn_wide.2 (put_nobody _ _ _ (.inl rfl))).mono ?_
  rintro r w5 ⟨rfl, hb5⟩
  have NB5 := Lib.hid (NW.out.on hb5)
  have HK5 := Lib.hid ((hb5.block D hDl).trans HK.out)
  have hDl5 : D < w5.heap.size := Nat.lt_of_lt_of_le hDl hb5.size
  have d0 : w5.cell? ⟨w.heap.size, 0, none⟩ = some (.int .i64 b4) := NB5.out.arg.cell 0
  have d1 : w5.cell? ⟨w.heap.size, 1, none⟩ = some (.bool up) := NB5.out.arg.cell 1
  have d2 : w5.cell? ⟨w.heap.size, 2, none⟩ = some (.slice A n c) := NB5.out.arg.cell 2
  clear hb5 NW HK hDl c0 c1 c2
  gi_wp2_with fail
  refine ⟨trivial, ?_⟩
  refine (callsIn_wide.2 (put_nobody _ _ _ NB5.out.netz)).mono ?_
  rintro r w6 ⟨rfl, hb6⟩
  have NB6 := Lib.hid (NB5.out.on hb6)
  have HK6 := Lib.hid ((hb6.block D hDl5).trans HK5.out)
  have hDl6 : D < w6.heap.size := Nat.lt_of_lt_of_le hDl5 hb6.size
  clear hb6 NB5 HK5 hDl5 d0 d1 d2
  gi_wp2_with fail
  refine ⟨trivial, ?_⟩
  refine (callsIn_wide.2 (len_nobody _ _ (.inl rfl))).mono ?_
  rintro r w7 ⟨rfl, rfl⟩
  gi_wp2_with fail
  refine ⟨trivial, ?_⟩
  refine (callsIn_wide.2 (len_nobody _ _ NB6.out.netz)).mono ?_
  rintro r w7 ⟨rfl, rfl⟩
  gi_wp2_with fail
  refine ⟨trivial, ?_⟩
  refine (callsIn_wide.2 (nawake_any _)).mono ?_
  rintro r w8 ⟨rfl, hb8⟩
  have nb8 := NB6.out.on hb8
  have hK8 := (hb8.block D hDl6).trans HK6.out
  have j1 : w8.cell? ⟨w.heap.size + 1, 0, none⟩ = some (.bool false) := nb8.res.cell 0
  have j2 : w8.frozen? ⟨w.heap.size + 1, 0, none⟩ = false := nb8.res.frozen 0
  have hw := nb8.bel
  clear hb8 NB6 HK6 nb8
  gi_wp2
  have hK' := (KeepsOthers.setCell w8 ⟨w.heap.size + 1, 0, none⟩ (.bool true)).same D _ hK8 rfl
  refine ⟨by simp, .inl ⟨_, _, rfl, run_takeDeferred hK', ?_⟩⟩
  have hc5 := cell_kept (World.cell?_setCell_same' w8 ⟨w.heap.size + 1, 0, none⟩ (.bool true) (by rw [j1]; rfl)) (grownBy_putObj' _ D (.deferred none)) (fun r e => by cases e; exact ⟨_, hK', rfl⟩)
  refine ⟨.bool true, ?_, rfl, ?_⟩
  · simp [results, Try.f7, go_sem, hc5]
  · exact (hw.setCell (p := ⟨w.heap.size + 1, 0, none⟩) (Nat.le_succ _) _).trans (belowK_b (w := w) (Nat.le_refl _) _ D _ _ hwD hK' rfl rfl)
end Go.Proofs.Ytffbimebgledoaa
