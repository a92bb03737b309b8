/-
  six: the document's Less.
-/
import Derived.Test.YtngdomefipcemaaDoorSixJ
namespace Go.Proofs.YtngdomefipcemaaDoor
open Go.RowKit Go.Great

set_option maxRecDepth 100000 in
set_option maxHeartbeats 4000000 in
theorem rless6_any (a b : List UInt8) (ha : a.length = 16) (hb : b.length = 16) (w : World) : Calls Tryd.prog 28 #[.agg (cells6 a), .agg (cells6 b)] w fun r w' => r = .returned (.bool (less6 a b)) ∧ Below w.heap.size w w' := by
  have hat := fun k (h : k < 16) => cells6_at (a := a) (k := k) (by omega)
  have hbt := fun k (h : k < 16) => cells6_at (a := b) (k := k) (by omega)
  go_enter Tryd.func28, Tryd.ntmps28
  go_wp2
  have hb0 : Blk ((w.alloc (.cells (cells6 a) 31)).alloc (.cells (cells6 b) 31)) w.heap.size 31 (cells6 a) := (Blk.new _ _ _).alloc _
  have hb1 : Blk ((w.alloc (.cells (cells6 a) 31)).alloc (.cells (cells6 b) 31)) (w.heap.size + 1) 31 (cells6 b) := by
    have := Blk.new (w.alloc (.cells (cells6 a) 31)) 31 (cells6 b)
    simpa using this
  have hbw : Below w.heap.size w ((w.alloc (.cells (cells6 a) 31)).alloc (.cells (cells6 b) 31)) := ((Below.refl _ _).alloc (Nat.le_refl _) _).alloc (by simp) _
  generalize ((w.alloc (.cells (cells6 a) 31)).alloc (.cells (cells6 b) 31)) = W1 at hb0 hb1 hbw ⊢
  generalize cells6 a = ca at hat hb0 ⊢
  generalize cells6 b = cb at hbt hb1 ⊢
  have HAT := Lib.hid hat
  have HBT := Lib.hid hbt
  have HB0 := Lib.hid hb0
  have HB1 := Lib.hid hb1
  have HBW := Lib.hid hbw
  clear hat hbt hb0 hb1 hbw
  go_loopw [5] (fun i wr => ∃ k : Nat, i = .int .i64 k ∧ k ≤ 16 ∧ a.take k = b.take k ∧ Blk wr w.heap.size 31 ca ∧ Blk wr (w.heap.size + 1) 31 cb ∧ Below w.heap.size w wr) (fun i _ => 16 - (intOf i).toNat)
  case atStart => exact ⟨0, rfl, by omega, rfl, HB0.out, HB1.out, HBW.out⟩
  case round =>
    obtain ⟨k, rfl, hk, ht, hb0, hb1, hbw⟩ := hrel
    clear HB0 HB1 HBW
    have HT := Lib.hid ht
    have HBW := Lib.hid hbw
    clear ht hbw
    by_cases h16 : k < 16
    · have e0 := (hb0.cell k).trans (HAT.out k h16)
      have e1 := (hb1.cell k).trans (HBT.out k h16)
      have HB0 := Lib.hid hb0
      have HB1 := Lib.hid hb1
      obtain ⟨x, hx⟩ : ∃ x : Nat, (a.getD k 0).toNat = x := ⟨_, rfl⟩
      obtain ⟨y, hy⟩ : ∃ y : Nat, (b.getD k 0).toNat = y := ⟨_, rfl⟩
      rw [hx] at e0
      rw [hy] at e1
      by_cases hxy : x = y
      · have htk : a.take (k + 1) = b.take (k + 1) := by
          rw [List.take_add_one, List.take_add_one, HT.out]
          congr 1
          have h1 : k < a.length := by omega
          have h2 : k < b.length := by omega
          have : a.getD k 0 = b.getD k 0 := UInt8.toNat_inj.1 (by omega)
          simp only [List.getD_eq_getElem?_getD, List.getElem?_eq_getElem h1, List.getElem?_eq_getElem h2, Option.getD_some] at this
          rw [List.getElem?_eq_getElem h1, List.getElem?_eq_getElem h2, this]
        subst hxy
        have HTK := Lib.hid htk
        clear hb0 hb1 htk hx hy
        go_wp2_with fail
        go_quiet (fail)
        go_wp2
        exact ⟨⟨k + 1, by go_num, h16, HTK.out, HB0.out.drewN _, HB1.out.drewN _, below_drewN HBW.out _⟩, by simp [intOf]; omega⟩
      · have hl := less_at (a := a) (b := b) (k := k) (by omega) (by omega) HT.out (fun e => hxy (by rw [← hx, ← hy, e]))
        rw [hx, hy] at hl
        have HL := Lib.hid hl
        have hne : ((x : Int) == (y : Int)) = false := by
          rw [Bool.eq_false_iff]
          intro e
          have := eq_of_beq e
          omega
        clear hb0 hb1 hx hy hl
        go_wp2_with fail
        go_quiet (fail)
        go_wp2_with fail
        go_quiet (fail)
        go_wp2
        go_ret
        exact ⟨by rw [HL.out]; simp, below_drewN (below_drewN HBW.out _) _⟩
    · obtain rfl : k = 16 := by omega
      have hl : less6 a b = false := by
        have ht := HT.out
        rw [List.take_of_length_le (by omega), List.take_of_length_le (by omega)] at ht
        unfold less6
        rw [ht, cmp_same]
        rfl
      have HL := Lib.hid hl
      clear hl hb0 hb1
      go_wp2
      go_ret
      exact ⟨by rw [HL.out]; rfl, HBW.out⟩
end Go.Proofs.YtngdomefipcemaaDoor
