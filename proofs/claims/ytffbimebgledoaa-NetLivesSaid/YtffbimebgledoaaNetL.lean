/-
  net: the document's Look and Take: the walks.
-/
import Derived.Test.YtffbimebgledoaaNetF
import Derived.Test.YtffbimebgledoaaNetK
import Derived.Laws.CopyOwn
namespace Go.Proofs.Ytffbimebgledoaa
open Go.RowKit

theorem row_at2 {w : World} {B t : Nat} {A : Option Addr} {c : Nat} {M : List Ent} {k : Nat} {e : Ent} (ho : w.ownsRow B t 3 (.slice A M.length c) M.length (rows M)) (hk : M[k]? = some e) :
    ∃ h cur, A = some ⟨h, 0, none⟩ ∧ B ≤ h ∧ Blk w h t cur ∧ M.length ≤ c ∧ c ≤ 9223372036854775807 ∧ (∀ j u, (rows M)[j]? = some u → w.cell? ⟨h, j, none⟩ = some u) := by
  have hlt : k < M.length := (List.getElem?_eq_some_iff.1 hk).1
  rcases ho.2 with ⟨_, h0⟩ | ⟨h, cap, cur, hv, hB, hh, hn, hc, hs, ht⟩
  · omega
  · injection hv with e1 e2 e3
    subst e3
    refine ⟨h, cur, e1, hB, hh, hn, by unfold maxLen at hc; omega, fun j u hu => ?_⟩
    have hj : j < M.length * 3 := by
      have := (List.getElem?_eq_some_iff.1 hu).1
      rwa [rows_length] at this
    rw [Blk.cell hh j, ← hu, ← ht, List.getElem?_take, if_pos hj, Array.getElem?_toList]

set_option maxHeartbeats 1000000 in
theorem rlook_none (B g : Nat) (most : Int) (at_ : Int) (w : World) (h : RNet w B g most []) :
    Calls Try.prog 28 #[.pointer (some ⟨g, 0, none⟩), .int .i64 at_] w fun e w' => e = .returned (.tuple #[zitem, .bool false]) ∧ Below w.heap.size w w' := by
  have bw : Below w.heap.size w (w.alloc (.cells zero3.toArray 66)) := (Below.refl _ w).alloc (Nat.le_refl _) _
  have kb : Blk (w.alloc (.cells zero3.toArray 66)) w.heap.size 66 #[.int .i64 0, .bool false, .slice none 0 0] := Blk.new _ _ _
  obtain ⟨hB, A, c, hk, ho⟩ := h
  have BW := Lib.hid bw
  have K := Lib.hid kb
  have g0 : (w.alloc (.cells zero3.toArray 66)).cell? ⟨g, 0, none⟩ = some (.slice A 0 c) := (hk.alloc _).cell 0
  have c0 : (w.alloc (.cells zero3.toArray 66)).cell? ⟨w.heap.size, 0, none⟩ = some (.int .i64 0) := kb.cell 0
  have c1 : (w.alloc (.cells zero3.toArray 66)).cell? ⟨w.heap.size, 1, none⟩ = some (.bool false) := kb.cell 1
  have c2 : (w.alloc (.cells zero3.toArray 66)).cell? ⟨w.heap.size, 2, none⟩ = some (.slice none 0 0) := kb.cell 2
  have z0 := kb.frozen 0
  have z1 := kb.frozen 1
  have z2 := kb.frozen 2
  clear bw kb hk ho
  go_enter Try.func28, Try.ntmps28
  go_upto_region 1 with fail
  change Code.wp _ _ _ _ (w.alloc (.cells zero3.toArray 66))
  generalize (w.alloc (.cells zero3.toArray 66)) = W0 at *
  go_wp2
  refine bodyPost_ret (v := .tuple #[zitem, .bool false]) ?_ rfl ?_
  · simp [results, Try.f28, asAddr, run_loadVar_row _ w.heap.size 66 66 #[.int .i64 0, .bool false, .slice none 0 0] (0, 0) _ (K.out.item (.int .i64 0) (.bool false) (.slice none 0 0)) Try.underlying66 rfl ritem_size]
  · exact ⟨rfl, ((BW.out.setCell (by simp) _).setCell (by simp) _).setCell (by simp) _⟩

set_option maxHeartbeats 4000000 in
set_option maxRecDepth 1000000 in
theorem rlook_any (w : World) (B g : Nat) (most : Int) (M : List Ent) (at_ : Int) (k : Nat) (e : Ent) (h : RNet w B g most M) (hk : at_ % (M.length : Int) = k) (hm : M[k]? = some e) (hl : M.length ≤ 100000) :
    Calls Try.prog 28 #[.pointer (some ⟨g, 0, none⟩), .int .i64 at_] w fun r w' => r = .returned (.tuple #[e.val, .bool true]) ∧ Below w.heap.size w w' := by
  have hlt : k < M.length := (List.getElem?_eq_some_iff.1 hm).1
  have bw : Below w.heap.size w (w.alloc (.cells zero3.toArray 66)) := (Below.refl _ w).alloc (Nat.le_refl _) _
  obtain ⟨hB, A, c, hb, ho⟩ := h.below bw
  obtain ⟨hh, cur, rfl, hBh, hcur, hcap, hcapm, hra⟩ := row_at2 ho hm
  have m0 := hra (k * 3) _ ((rows_get M k 0 e hm (by omega)).trans rfl)
  have m1 := hra (k * 3 + 1) _ ((rows_get M k 1 e hm (by omega)).trans rfl)
  have m2 := hra (k * 3 + 2) _ ((rows_get M k 2 e hm (by omega)).trans rfl)
  have BW := Lib.hid bw
  have kb := Blk.new w 66 #[.int .i64 0, .bool false, .slice none 0 0]
  have K := Lib.hid kb
  have c0 : (w.alloc (.cells zero3.toArray 66)).cell? ⟨g, 0, none⟩ = some (.slice (some ⟨hh, 0, none⟩) M.length c) := hb.cell 0
  have d0 : (w.alloc (.cells zero3.toArray 66)).cell? ⟨w.heap.size, 0, none⟩ = some (.int .i64 0) := kb.cell 0
  have d1 : (w.alloc (.cells zero3.toArray 66)).cell? ⟨w.heap.size, 1, none⟩ = some (.bool false) := kb.cell 1
  have d2 : (w.alloc (.cells zero3.toArray 66)).cell? ⟨w.heap.size, 2, none⟩ = some (.slice none 0 0) := kb.cell 2
  have z0 : (w.alloc (.cells zero3.toArray 66)).frozen? ⟨w.heap.size, 0, none⟩ = false := kb.frozen 0
  have z1 : (w.alloc (.cells zero3.toArray 66)).frozen? ⟨w.heap.size, 1, none⟩ = false := kb.frozen 1
  have z2 : (w.alloc (.cells zero3.toArray 66)).frozen? ⟨w.heap.size, 2, none⟩ = false := kb.frozen 2
  have hM : 0 < M.length := by omega
  clear h bw hb ho hcur hra hm kb
  generalize M.length = n at *
  have e1 := place_eq at_ n hM
  rw [hk] at e1
  have e2 := Int.lt_tmod_of_pos at_ (show (0 : Int) < n by omega)
  have e3 := Int.tmod_lt_of_pos at_ (show (0 : Int) < n by omega)
  obtain ⟨r, hr1⟩ : ∃ r, at_.tmod n = r := ⟨_, rfl⟩
  rw [hr1] at e1 e2 e3
  have e4 : IntKind.i64.wrap r = r := IntWalk.i64_in _ (by omega)
  have e5 : IntKind.i64.wrap (r + n) = r + n := IntWalk.i64_in _ (by omega)
  have e6 : IntKind.i64.wrap (k : Int) = k := IntWalk.i64_in _ (by omega)
  clear hk e2 e3 hcap hcapm
  go_enter Try.func28, Try.ntmps28
  go_upto_region 1 with fail
  change Code.wp _ _ _ _ (w.alloc (.cells zero3.toArray 66))
  generalize (w.alloc (.cells zero3.toArray 66)) = W0 at *
  go_upto_region 4 with fail
  go_region
  go_wp2
  have CI : Chg w.heap.size 66 66 W0 _ := Chg.item K.out (.inl rfl) (Nat.le_refl _) (.int .i64 e.b4) (.bool e.up) (.slice e.A e.n e.c)
  refine bodyPost_ret (v := .tuple #[e.val, .bool true]) ?_ rfl ?_
  · simp [results, Try.f28, asAddr, run_loadVar_row _ w.heap.size 66 66 #[.int .i64 e.b4, .bool e.up, .slice e.A e.n e.c] (0, 0) _ (K.out.item (.int .i64 e.b4) (.bool e.up) (.slice e.A e.n e.c)).drew Try.underlying66 rfl ritem_size]
  · exact ⟨rfl, (BW.out.trans CI.bel).drew⟩

theorem rtake_none (B g : Nat) (most : Int) (at_ : Int) (w : World) (h : RNet w B g most []) :
    Calls Try.prog 30 #[.pointer (some ⟨g, 0, none⟩), .int .i64 at_] w fun e w' => e = .returned (.tuple #[zitem, .bool false]) ∧ Below w.heap.size w w' := by
  have bw : Below w.heap.size w (w.alloc (.cells zero3.toArray 66)) := (Below.refl _ w).alloc (Nat.le_refl _) _
  have kb : Blk (w.alloc (.cells zero3.toArray 66)) w.heap.size 66 #[.int .i64 0, .bool false, .slice none 0 0] := Blk.new _ _ _
  have H := Lib.hid (h.below bw)
  have BW := Lib.hid bw
  have KB := Lib.hid kb
  have hgs : w.heap.size < (w.alloc (.cells zero3.toArray 66)).heap.size := by simp
  clear bw kb h
  go_enter Try.func30, Try.ntmps30
  go_wp2_with fail
  change Calls _ _ _ (w.alloc (.cells zero3.toArray 66)) _
  generalize (w.alloc (.cells zero3.toArray 66)) = W0 at *
  refine (rlook_none B g most at_ W0 H.out).mono ?_
  rintro r w1 ⟨rfl, b1⟩
  have al := (Below.refl w1.heap.size w1).alloc (Nat.le_refl _) (.cells zero3.toArray 66)
  have b2 := b1.trans (al.mono b1.size)
  have k2 := KB.out.below b2 hgs
  have K2 := Lib.hid k2
  have B2 := Lib.hid (BW.out.trans (b2.mono BW.out.size))
  have c0 : (w1.alloc (.cells zero3.toArray 66)).cell? ⟨w.heap.size, 0, none⟩ = some (.int .i64 0) := k2.cell 0
  have c1 : (w1.alloc (.cells zero3.toArray 66)).cell? ⟨w.heap.size, 1, none⟩ = some (.bool false) := k2.cell 1
  have c2 : (w1.alloc (.cells zero3.toArray 66)).cell? ⟨w.heap.size, 2, none⟩ = some (.slice none 0 0) := k2.cell 2
  have z0 := k2.frozen 0
  have z1 := k2.frozen 1
  have z2 := k2.frozen 2
  clear al b1 b2 k2 KB H
  go_upto_region 3 with fail
  change Code.wp _ _ _ _ (w1.alloc (.cells zero3.toArray 66))
  generalize (w1.alloc (.cells zero3.toArray 66)) = W2 at *
  go_wp2
  refine bodyPost_ret (v := .tuple #[zitem, .bool false]) ?_ rfl ?_
  · simp [results, Try.f30, asAddr, run_loadVar_row _ w.heap.size 66 66 #[.int .i64 0, .bool false, .slice none 0 0] (0, 0) _ (K2.out.item (.int .i64 0) (.bool false) (.slice none 0 0)) Try.underlying66 rfl ritem_size]
  · exact ⟨rfl, ((B2.out.setCell (by simp) _).setCell (by simp) _).setCell (by simp) _⟩
end Go.Proofs.Ytffbimebgledoaa
