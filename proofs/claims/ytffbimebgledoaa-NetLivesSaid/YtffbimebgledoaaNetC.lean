/-
  net: Put: the walks.
-/
import Derived.Test.YtffbimebgledoaaNetB
import Derived.Deep.QuietTactic
import Derived.BigQuiet
import Derived.Deep.Draws
namespace Go.Proofs.Ytffbimebgledoaa
open Go.RowKit

theorem owns_form {w : World} {base n e size : Nat} {v : Value} {xs : List Value} (ho : w.ownsRow base e size v n xs) : ∃ A c, v = .slice A n c := by
  rcases ho.2 with ⟨h0, h1⟩ | ⟨g, cap, cur, hv, _⟩
  · subst h1
    exact ⟨none, 0, h0⟩
  · exact ⟨_, _, hv⟩
/-- A block of another type is not the row's. -/
theorem owns_ne {w : World} {base n e size g t : Nat} {v : Value} {xs : List Value} {cs : Array Value} (ho : w.ownsRow base e size v n xs) (hg : Blk w g t cs) (ht : t ≠ e) : some g ≠ v.ownBlock := by
  rcases ho.2 with ⟨h0, _⟩ | ⟨g', cap, cur, hv, _, hh, _⟩
  · subst h0
    simp [Value.ownBlock]
  · subst hv
    intro he
    have : g = g' := by simpa [Value.ownBlock] using he
    subst this
    exact (Blk.ne_ hg (show Blk w g e cur from hh) ht) rfl
theorem Chg.of_owns {B T1 T2 : Nat} {w w' : World} {base n e size : Nat} {v : Value} {xs : List Value} (ho : w.ownsRow base e size v n xs) (h : w.grownBy w' v.ownBlock) (he : e = T1 ∨ e = T2) (hB : B ≤ base) (hw : B ≤ w.heap.size) : Chg B T1 T2 w w' := by
  rcases ho.2 with ⟨h0, _⟩ | ⟨g', cap, cur, hv, hg, hh, _⟩
  · subst h0
    exact Chg.of_below ((Below.refl _ _).grown h (Nat.le_refl _) (by simp [Value.ownBlock])) hw
  · subst hv
    exact Chg.of_only (g := g') (t := e) (cs := cur) h hh he (by omega)
theorem reads_new (w : World) (t : TypeId) (x y z : Value) : Reads (w.alloc (.cells #[x, y, z] t)) (w.heap.size + 1) 3 (some ⟨w.heap.size, 0, none⟩) 1 [x, y, z] := by
  refine ⟨rfl, fun _ => ⟨_, rfl, Nat.lt_succ_self _, fun j u hu => ?_⟩⟩
  have hj : j < 3 := (List.getElem?_eq_some_iff.1 hu).1
  rw [Addr.add_lit, Nat.zero_add, (Blk.new w t #[x, y, z]).cell j, ← hu]
  rcases (show j = 0 ∨ j = 1 ∨ j = 2 by omega) with rfl | rfl | rfl <;> rfl

/-- An item put into the list. -/
theorem NetP.put {w0 w w2 : World} {B g : Nat} {most : Int} {M : List Ent} {e : Ent} {A A1 : Option Addr} {c c1 : Nat} (hB : B ≤ g) (hk : Blk w g 55 #[.slice A M.length c, .int .i64 most, .bool true])
    (ho : w.ownsRow B 42 3 (.slice A M.length c) M.length (rows M)) (hc : Chg B 55 42 w0 w)
    (h1 : w2.ownsRow B 42 3 (.slice A1 (M.length + 1) c1) (M.length + 1) (rows M ++ e.cells)) (h2 : w.grownBy w2 (Value.slice A M.length c).ownBlock) (hs : B ≤ w.heap.size) :
    NetP (w2.setCell ⟨g, 0, none⟩ (.slice A1 (M.length + 1) c1)) B g most (M ++ [e]) ∧ Chg B 55 42 w0 (w2.setCell ⟨g, 0, none⟩ (.slice A1 (M.length + 1) c1)) := by
  have k2 := hk.grown h2 (owns_ne ho hk (by decide))
  have c2 : Chg B 55 42 w w2 := Chg.of_owns ho h2 (.inr rfl) (Nat.le_refl _) hs
  have c3 : Chg B 55 55 w2 (w2.setCell ⟨g, 0, none⟩ (.slice A1 (M.length + 1) c1)) := Chg.set_ k2 (.inl rfl) hB 0 _
  refine ⟨⟨hB, A1, c1, ?_, ?_⟩, (hc.trans c2).trans (Chg.set_ k2 (.inl rfl) hB 0 _)⟩
  · rw [List.length_append]
    exact k2.set_ 0 _
  · rw [List.length_append, rows_append, rows_one]
    exact c3.owns h1 (by decide) (by decide)

set_option maxHeartbeats 4000000 in
set_option maxRecDepth 1000000 in
theorem put_ok (B g : Nat) (most : Int) (M : List Ent) (b4 : Int) (up : Bool) (A : Option Addr) (n c : Nat) (xs : List Int) (w : World) (h : NetP w B g most M) (hb : BReads w A n xs) (h0 : 0 ≤ b4) (h1 : b4 < 64) (h2 : n ≤ 65575) (h3 : (M.length : Int) < most) (h4 : M.length ≤ 5000) :
    Calls Try.prog 21 #[.pointer (some ⟨g, 0, none⟩), .agg #[.int .i64 b4, .bool up, .slice A n c]] w fun e w' => ∃ A' c', e = .returned (.int .i64 0) ∧ NetP w' B g most (M ++ [⟨b4, up, A', n, c'⟩]) ∧ TB w' A' n xs ∧ Chg B 55 42 w w' := by
  obtain ⟨i0, hi0, hz0, hz1, hz2⟩ := info_parts item_info
  have bw : Below w.heap.size w (w.alloc (.cells #[.int .i64 b4, .bool up, .slice A n c] 42)) := (Below.refl _ w).alloc (Nat.le_refl _) _
  have hr := Lib.hid (ready_any _ B g most M (h.below bw))
  have HR := Lib.hid (hb.below bw)
  obtain ⟨hB, Av, cv, hk, ho⟩ := h
  have hBs : B ≤ w.heap.size := by have := hk.lt; omega
  have K := Lib.hid (hk.below bw hk.lt)
  have HO := Lib.hid (owns_below ho bw)
  have BW := Lib.hid bw
  have c0 : (w.alloc (.cells #[.int .i64 b4, .bool up, .slice A n c] 42)).cell? ⟨g, 0, none⟩ = some (.slice Av M.length cv) := K.out.cell 0
  have c1 : (w.alloc (.cells #[.int .i64 b4, .bool up, .slice A n c] 42)).cell? ⟨g, 1, none⟩ = some (.int .i64 most) := K.out.cell 1
  have kp := Lib.hid (Blk.new w 42 #[.int .i64 b4, .bool up, .slice A n c])
  have d0 : (w.alloc (.cells #[.int .i64 b4, .bool up, .slice A n c] 42)).cell? ⟨w.heap.size, 0, none⟩ = some (.int .i64 b4) := kp.out.cell 0
  have d1 : (w.alloc (.cells #[.int .i64 b4, .bool up, .slice A n c] 42)).cell? ⟨w.heap.size, 1, none⟩ = some (.bool up) := kp.out.cell 1
  have d2 : (w.alloc (.cells #[.int .i64 b4, .bool up, .slice A n c] 42)).cell? ⟨w.heap.size, 2, none⟩ = some (.slice A n c) := kp.out.cell 2
  clear hk ho hb bw
  go_enter Try.func21, Try.ntmps21
  go_wp2_with fail
  change Calls _ _ _ (w.alloc (.cells #[.int .i64 b4, .bool up, .slice A n c] 42)) _
  generalize (w.alloc (.cells #[.int .i64 b4, .bool up, .slice A n c] 42)) = W0 at *
  refine hr.out.mono ?_
  rintro r w1 ⟨rfl, rfl⟩
  go_wp2_with fail
  go_quiet (fail)
  go_wp2_with fail
  have H0 := Lib.hid h0
  clear h0 h1 h3 hr
  go_region_law (first
    | (go_simp
       go_at_call 35
       refine (copied_any b4 up A n c xs _ (HR.out.below (below_drewN (Below.refl _ _) _)) (by omega)).mono ?_
       rintro r w1 ⟨A', c', rfl, t1, b1⟩
       have T1 := Lib.hid t1
       have B1 := Lib.hid (show Below W0.heap.size W0 w1 from (below_drewN (Below.refl _ W0) _).trans b1)
       have e0 : w1.cell? ⟨g, 0, none⟩ = some (.slice Av M.length cv) := (K.out.below B1.out K.out.lt).cell 0
       have e1 : (w1.alloc (.cells #[.int .i64 b4, .bool up, .slice A' n c'] 42)).cell? ⟨g, 0, none⟩ = some (.slice Av M.length cv) := ((K.out.below B1.out K.out.lt).alloc _).cell 0
       have O1 := Lib.hid (owns_below (owns_below HO.out B1.out) ((Below.refl _ _).alloc (Nat.le_refl _) (.cells #[.int .i64 b4, .bool up, .slice A' n c'] 42)))
       clear t1 b1)
    | (refine step_append_any (w1.alloc (.cells #[.int .i64 b4, .bool up, .slice A' n c'] 42)) rfl (.tmp 36) (.tmp 39) 53 rfl B 42 i0 _ 3 40 Try.underlying53 hi0 hz0 hz1 hz2 rfl (by omega) (.slice Av M.length cv) M.length (rows M) (by simp [Act.eval])
         O1.out (w1.heap.size + 1) (some ⟨w1.heap.size, 0, none⟩) 1 1 [.int .i64 b4, .bool up, .slice A' n c'] (by simp [Act.eval]) (reads_new _ _ _ _ _) (by intro u hu; simp at hu; rcases hu with rfl | rfl | rfl <;> rfl) (by simp only [maxLen]; omega) (by omega) (by have := B1.out.size; have := BW.out.size; simp; omega) ?_
       intro v1 w2 o2 g2 at2
       obtain ⟨A1, cv1, rfl⟩ := owns_form o2
       have O2 := Lib.hid o2
       have G2 := Lib.hid g2
       have k2 := ((K.out.below B1.out K.out.lt).alloc (.cells #[.int .i64 b4, .bool up, .slice A' n c'] 42)).grown g2 (owns_ne O1.out ((K.out.below B1.out K.out.lt).alloc _) (by decide))
       have f0 : w2.cell? ⟨g, 0, none⟩ = some (.slice Av M.length cv) := k2.cell 0
       have f1 : w2.frozen? ⟨g, 0, none⟩ = false := k2.frozen 0
       clear k2 o2 g2 at2))
  all_goals
    go_wp2
    go_ret
    have hs1 : B ≤ w1.heap.size := by have := BW.out.size; have := B1.out.size; omega
    have hp := NetP.put (e := ⟨b4, up, A', n, c'⟩) (w0 := w1) hB ((K.out.below B1.out K.out.lt).alloc (.cells #[.int .i64 b4, .bool up, .slice A' n c'] 42)) O1.out
      (Chg.of_below ((Below.refl _ _).alloc (Nat.le_refl _) _) hs1) O2.out G2.out (by simp; omega)
    exact ⟨A', c', rfl, hp.1, T1.out.chg hp.2 (by decide) (by decide), ((Chg.of_below BW.out hBs).trans (Chg.of_below B1.out (by have := BW.out.size; omega))).trans hp.2⟩
end Go.Proofs.Ytffbimebgledoaa
