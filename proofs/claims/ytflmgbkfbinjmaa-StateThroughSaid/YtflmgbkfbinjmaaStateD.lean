/-
  Through, awake, and the three laws of layer 23: the walks.
-/
import Derived.Test.YtflmgbkfbinjmaaStateB
import Derived.Test.YtflmgbkfbinjmaaStateC
import Derived.Test.YtflmgbkfbinjmaaRows2
namespace Go.Proofs.Ytflmgbkfbinjmaa
open Go.RowKit

set_option maxHeartbeats 400000 in
theorem next_any (n : Int) (out : Bool) (flags : Int) (w : World) :
    Calls Try.prog 6 #[.int .i64 n, .bool out, .int .i64 flags] w fun r w' => r = .returned (.tuple #[.int .i64 (nx n out (low3 flags)).1, .bool (nx n out (low3 flags)).2]) ∧ Below w.heap.size w w' := by
  by_cases h : n < 0 ∨ 6 < n
  · rw [nx_out n out _ h]
    rcases h with h | h
    · go_enter Try.func6, Try.ntmps6
      go_wp2
      go_ret2
      exact ⟨rfl, Below.refl _ _⟩
    · have h' : 0 ≤ n := by omega
      go_enter Try.func6, Try.ntmps6
      go_wp2
      go_ret2
      exact ⟨rfl, Below.refl _ _⟩
  · exact next_in n out flags w (by omega) (by omega)

/-- The state behind several segments, and whether all of them can be. -/
def thr : Int → Bool → List Int → Int × Bool
  | n, _, [] => (n, true)
  | n, out, f :: r => if (nx n out (low3 f)).2 then thr (nx n out (low3 f)).1 (!out) r else (n, false)

theorem drop_at (zs : List Int) (k : Nat) (z : Int) (hk : k < zs.length) (hz : z = zs.getD k 0) : zs.drop k = z :: zs.drop (k + 1) := by
  rw [List.drop_eq_getElem_cons hk, hz]
  congr 1
  simp [List.getD_eq_getElem?_getD, hk]

set_option maxHeartbeats 1000000 in
theorem through_any (n : Int) (a : Option Addr) (len cap : Nat) (zs : List Int) (w : World) (hr : IntRow .i64 w a len zs) :
    Calls Try.prog 10 #[.int .i64 n, .slice a len cap] w fun r w' => r = .returned (.tuple #[.int .i64 (thr n true zs).1, .bool (thr n true zs).2]) ∧ Below w.heap.size w w' := by
  have hl0 := hr.1
  have hz0 := Lib.hid hr.2.1
  obtain ⟨P, hP⟩ : ∃ P, thr n true zs = P := ⟨_, rfl⟩
  have HP := Lib.hid hP
  rw [hP]
  clear hP
  go_enter Try.func10, Try.ntmps10
  go_wp2_with fail
  go_loopw [0, 6, 13] (fun st o i wr => ∃ (k : Nat) (s : Int) (b : Bool), k ≤ len ∧ i = .int .i64 k ∧ st = .int .i64 s ∧ o = .bool b ∧ Hid (thr s b (zs.drop k) = P) ∧ Below w.heap.size w wr) (fun _ _ i _ => len - (intOf i).toNat)
  case atStart => exact ⟨0, n, true, Nat.zero_le _, rfl, rfl, rfl, HP, Below.refl _ _⟩
  case round =>
    obtain ⟨k, s, b, hk, rfl, rfl, rfl, hT, hbel⟩ := hrel
    by_cases hlt : k < len
    · obtain ⟨bk, off, z, rfl, hbk, hcell, hzeq, hz⟩ := hr.at_ hbel hlt
      have hd := drop_at zs k z (by rw [hz0.out]; exact hlt) hzeq
      have hT' := hT.out
      rw [hd] at hT'
      unfold thr at hT'
      have HT := Lib.hid hT'
      clear hT' hd hzeq hz hT
      have hnx := next_any s b z
      generalize hp : nx s b (low3 z) = p at *
      obtain ⟨p1, p2⟩ := p
      have HN := Lib.hid hnx
      clear hnx hp
      cases p2
      · go_wp2_with fail
        refine (HN.out _).mono ?_
        rintro r w2 ⟨rfl, hb2⟩
        go_wp2
        go_ret2
        have e := HT.out
        simp at e
        subst e
        exact ⟨rfl, hbel.trans (hb2.mono hbel.size)⟩
      · go_wp2_with fail
        refine (HN.out _).mono ?_
        rintro r w2 ⟨rfl, hb2⟩
        go_wp2
        go_roundw
        case rel => exact ⟨k + 1, p1, !b, by omega, by go_num, rfl, rfl, by have e := HT.out; simp at e; exact e, hbel.trans (hb2.mono hbel.size)⟩
        case measure => simp [intOf]; omega
    · go_wp2
      go_ret2
      have e := hT.out
      rw [List.drop_eq_nil_of_le (by rw [hz0.out]; omega)] at e
      unfold thr at e
      subst e
      exact ⟨rfl, hbel⟩

set_option maxHeartbeats 1000000 in
theorem rthrough_any (n : Int) (a : Option Addr) (len cap : Nat) (zs : List Int) (w : World) (hr : IntRow .i64 w a len zs) :
    Calls Try.prog 11 #[.int .i64 n, .slice a len cap] w fun r w' => r = .returned (.tuple #[.int .i64 (thr n true zs).1, .bool (thr n true zs).2]) ∧ Below w.heap.size w w' := by
  have hl0 := hr.1
  have hz0 := Lib.hid hr.2.1
  obtain ⟨P, hP⟩ : ∃ P, thr n true zs = P := ⟨_, rfl⟩
  have HP := Lib.hid hP
  rw [hP]
  clear hP
  go_enter Try.func11, Try.ntmps11
  go_wp2_with fail
  go_loopw [0, 6] (fun st i wr => ∃ (k : Nat) (s : Int), k ≤ len ∧ i = .int .i64 k ∧ st = .int .i64 s ∧ Hid (thr s (k % 2 == 0) (zs.drop k) = P) ∧ Below w.heap.size w wr) (fun _ i _ => len - (intOf i).toNat)
  case atStart => exact ⟨0, n, Nat.zero_le _, rfl, rfl, HP, Below.refl _ _⟩
  case round =>
    obtain ⟨k, s, hk, rfl, rfl, hT, hbel⟩ := hrel
    by_cases hlt : k < len
    · obtain ⟨bk, off, z, rfl, hbk, hcell, hzeq, hz⟩ := hr.at_ hbel hlt
      have hd := drop_at zs k z (by rw [hz0.out]; exact hlt) hzeq
      have hT' := hT.out
      rw [hd] at hT'
      unfold thr at hT'
      have hbe : ∃ b : Bool, (k % 2 == 0) = b ∧ ((k + 1) % 2 == 0) = !b ∧ ((k : Int) % 2 == 0) = b := by
        rcases Nat.mod_two_eq_zero_or_one k with h | h
        · refine ⟨true, by simp [h], by simp; omega, by simp; omega⟩
        · refine ⟨false, by simp [h], by simp; omega, by simp; omega⟩
      obtain ⟨b, hb1, hb2, hb3⟩ := hbe
      rw [hb1] at hT'
      have HT := Lib.hid hT'
      have HB := Lib.hid hb2
      clear hT' hd hzeq hz hT hb1 hb2
      have hnx := rnext_any s b z
      generalize hp : nx s b (low3 z) = p at *
      obtain ⟨p1, p2⟩ := p
      have HN := Lib.hid hnx
      clear hnx hp
      cases p2
      · go_wp2_with fail
        refine (HN.out _).mono ?_
        rintro r w2 ⟨rfl, rfl⟩
        go_wp2
        go_ret2
        have e := HT.out
        simp at e
        subst e
        exact ⟨rfl, hbel⟩
      · go_wp2_with fail
        refine (HN.out _).mono ?_
        rintro r w2 ⟨rfl, rfl⟩
        go_wp2
        go_roundw
        case rel => exact ⟨k + 1, p1, by omega, by go_num, rfl, by have e := HT.out; simp only [if_true] at e; rw [HB.out]; exact e, hbel⟩
        case measure => simp [intOf]; omega
    · go_wp2
      go_ret2
      have e := hT.out
      rw [List.drop_eq_nil_of_le (by rw [hz0.out]; omega)] at e
      unfold thr at e
      subst e
      exact ⟨rfl, hbel⟩
end Go.Proofs.Ytflmgbkfbinjmaa
