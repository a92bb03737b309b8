/-
  counts.Counts and the document's Counts: the document's Add, both Get, both Name, List, awake.
-/
import Derived.Test.YtffbimebgledoaaCntA
namespace Go.Proofs.Ytffbimebgledoaa
open Go.RowKit

set_option maxHeartbeats 400000 in
theorem cradd_any (g h : Nat) (L : List Int) (n : Int) (w : World) (k : Cnt w 33 g h L) (hL : ∀ i, 0 ≤ L.getD i 0 ∧ L.getD i 0 ≤ 1000000) :
    Calls Try.prog 13 #[.pointer (some ⟨g, 0, none⟩), .int .i64 n] w fun r w' => r = .returned (.bool (addB n)) ∧ Cnt w' 33 g h (addL n L) ∧ w.grownBy w' (some h) := by
  have c0 : w.cell? ⟨g, 0, none⟩ = some (.slice (some ⟨h, 0, none⟩) 14 14) := k.str.cell 0
  have K := Lib.hid k
  by_cases h1 : 1 ≤ n ∧ n < 14
  · obtain ⟨i, rfl⟩ := Int.eq_ofNat_of_zero_le (show 0 ≤ n by omega)
    obtain ⟨h2, h3⟩ := h1
    have hi : i < 14 := by omega
    have hi1 : 1 ≤ i := by omega
    have c1 : w.cell? ⟨h, i, none⟩ = some (.int .i64 (L.getD i 0)) := (k.row.cell i).trans (cs_get L i (by rw [k.len]; exact hi))
    have f1 := k.row.frozen i
    obtain ⟨b1, b2⟩ := hL i
    have hs := (k.row.set_ i (.int .i64 (L.getD i 0 + 1)))
    rw [cs_set] at hs
    have hst := k.str.far (p := ⟨h, i, none⟩) k.ne (.int .i64 (L.getD i 0 + 1))
    have e1 : addB (i : Int) = true := by simp [addB]; omega
    have HF : Hid (addB (i : Int) = true ∧ Cnt (w.setCell ⟨h, i, none⟩ (.int .i64 (L.getD i 0 + 1))) 33 g h (addL i L)) := ⟨e1, hst, by rw [addL, if_pos e1]; simpa using hs, by rw [addL, if_pos e1]; simpa using k.len, k.ne⟩
    generalize L.getD i 0 = v at *
    clear k hs hst e1 hL
    go_enter Try.func13, Try.ntmps13
    go_wp2
    go_ret
    exact ⟨by rw [HF.out.1]; rfl, HF.out.2, only_setCell (only_refl _ _) (p := ⟨h, i, none⟩) (.inl rfl) _⟩
  · have e2 : addB n = false := by simp [addB]; omega
    have E2 := Lib.hid e2
    clear k e2
    by_cases h2 : n < 1
    · go_enter Try.func13, Try.ntmps13
      go_wp2
      go_ret
      rw [E2.out]
      exact ⟨rfl, by have := E2.out; simpa [addL, this] using K.out, only_refl _ _⟩
    · have h3 : 14 ≤ n := by omega
      go_enter Try.func13, Try.ntmps13
      go_wp2
      go_ret
      rw [E2.out]
      exact ⟨rfl, by have := E2.out; simpa [addL, this] using K.out, only_refl _ _⟩

set_option maxHeartbeats 400000 in
theorem cget_any (g h : Nat) (L : List Int) (n : Int) (w : World) (k : Cnt w 52 g h L) :
    Calls Try.prog 14 #[.pointer (some ⟨g, 0, none⟩), .int .i64 n] w fun r w' => r = .returned (.int .i64 (getN n L)) ∧ w = w' := by
  have c0 : w.cell? ⟨g, 0, none⟩ = some (.slice (some ⟨h, 0, none⟩) 14 14) := k.str.cell 0
  have hh := Lib.hid (chas_any g h L n w k)
  by_cases h1 : 0 ≤ n ∧ n < 14
  · have e2 := Lib.hid (show getN n L = L.getD n.toNat 0 by simp [getN, h1])
    obtain ⟨i, rfl⟩ := Int.eq_ofNat_of_zero_le h1.1
    obtain ⟨h2, h3⟩ := h1
    have hi : i < 14 := by omega
    have c1 : w.cell? ⟨h, i, none⟩ = some (.int .i64 (L.getD i 0)) := (k.row.cell i).trans (cs_get L i (by rw [k.len]; exact hi))
    have d1 : decide ((0 : Int) ≤ (i : Int)) = true := by simp
    have d2 : decide ((i : Int) < 14) = true := by simp; omega
    rw [d1, d2] at hh
    have e3 := Lib.hid (show getN (i : Int) L = L.getD i 0 from by have := e2.out; simpa using this)
    generalize L.getD i 0 = v at *
    clear k d1 d2 e2
    go_enter Try.func14, Try.ntmps14
    go_wp2_with fail
    refine hh.out.mono ?_
    rintro r w' ⟨rfl, rfl⟩
    go_wp2
    go_ret
    rw [e3.out]
    exact ⟨rfl, rfl⟩
  · have e1 : (decide (0 ≤ n) && decide (n < 14)) = false := by simp; omega
    have e2 := Lib.hid (show getN n L = 0 by simp [getN, h1])
    rw [e1] at hh
    clear k e1
    go_enter Try.func14, Try.ntmps14
    go_wp2_with fail
    refine hh.out.mono ?_
    rintro r w' ⟨rfl, rfl⟩
    go_wp2
    go_ret
    rw [e2.out]
    exact ⟨rfl, rfl⟩

set_option maxHeartbeats 400000 in
theorem crget_any (g h : Nat) (L : List Int) (n : Int) (w : World) (k : Cnt w 33 g h L) :
    Calls Try.prog 15 #[.pointer (some ⟨g, 0, none⟩), .int .i64 n] w fun r w' => r = .returned (.int .i64 (getN n L)) ∧ w = w' := by
  have c0 : w.cell? ⟨g, 0, none⟩ = some (.slice (some ⟨h, 0, none⟩) 14 14) := k.str.cell 0
  by_cases h1 : 0 ≤ n ∧ n < 14
  · have e2 := Lib.hid (show getN n L = L.getD n.toNat 0 by simp [getN, h1])
    obtain ⟨i, rfl⟩ := Int.eq_ofNat_of_zero_le h1.1
    obtain ⟨h2, h3⟩ := h1
    have hi : i < 14 := by omega
    have c1 : w.cell? ⟨h, i, none⟩ = some (.int .i64 (L.getD i 0)) := (k.row.cell i).trans (cs_get L i (by rw [k.len]; exact hi))
    have e3 := Lib.hid (show getN (i : Int) L = L.getD i 0 from by have := e2.out; simpa using this)
    generalize L.getD i 0 = v at *
    clear k e2
    go_enter Try.func15, Try.ntmps15
    go_wp2
    go_ret
    rw [e3.out]
    exact ⟨rfl, rfl⟩
  · have e2 := Lib.hid (show getN n L = 0 by simp [getN, h1])
    clear k
    by_cases h2 : n < 0
    · go_enter Try.func15, Try.ntmps15
      go_wp2
      go_ret
      rw [e2.out]
      exact ⟨rfl, rfl⟩
    · have h3 : 14 ≤ n := by omega
      go_enter Try.func15, Try.ntmps15
      go_wp2
      go_ret
      rw [e2.out]
      exact ⟨rfl, rfl⟩

/-- The reasons' names. -/
def names14 : List ByteArray := [⟨#[]⟩, ⟨#[102, 111, 114, 109]⟩, ⟨#[115, 111, 117, 114, 99, 101]⟩, ⟨#[116, 116, 108]⟩, ⟨#[112, 114, 111, 116, 111]⟩, ⟨#[113, 117, 111, 116, 97]⟩, ⟨#[102, 117, 108, 108]⟩, ⟨#[112, 111, 111, 108]⟩,
  ⟨#[115, 116, 97, 116, 101]⟩, ⟨#[98, 105, 110, 100, 105, 110, 103]⟩, ⟨#[102, 105, 108, 116, 101, 114]⟩, ⟨#[108, 111, 110, 103]⟩, ⟨#[111, 118, 101, 114, 108, 97, 112]⟩, ⟨#[119, 97, 121]⟩]
def nameOf (n : Int) : ByteArray := if 0 ≤ n ∧ n < 14 then names14.getD n.toNat ⟨#[]⟩ else ⟨#[]⟩

theorem name_cases (n : Int) : (n < 0 ∧ nameOf n = ⟨#[]⟩) ∨ (13 < n ∧ nameOf n = ⟨#[]⟩) ∨ n = 0 ∨ n = 1 ∨ n = 2 ∨ n = 3 ∨ n = 4 ∨ n = 5 ∨ n = 6 ∨ n = 7 ∨ n = 8 ∨ n = 9 ∨ n = 10 ∨ n = 11 ∨ n = 12 ∨ n = 13 := by
  by_cases h1 : n < 0
  · exact .inl ⟨h1, by unfold nameOf; rw [if_neg (by omega)]⟩
  · by_cases h2 : 13 < n
    · exact .inr (.inl ⟨h2, by unfold nameOf; rw [if_neg (by omega)]⟩)
    · omega

set_option maxHeartbeats 2000000 in
theorem cname_any (n : Int) (w : World) : Calls Try.prog 16 #[.int .i64 n] w fun r w' => r = .returned (.string (nameOf n)) ∧ w = w' := by
  rcases name_cases n with ⟨h, he⟩ | ⟨h, he⟩ | rfl | rfl | rfl | rfl | rfl | rfl | rfl | rfl | rfl | rfl | rfl | rfl | rfl | rfl
  · rw [he]
    clear he
    go_enter Try.func16, Try.ntmps16
    go_wp2
    go_ret
    exact ⟨rfl, rfl⟩
  · rw [he]
    clear he
    go_enter Try.func16, Try.ntmps16
    go_wp2
    go_ret
    exact ⟨rfl, rfl⟩
  all_goals
    go_enter Try.func16, Try.ntmps16
    go_wp2
    go_ret
    exact ⟨rfl, rfl⟩

set_option maxHeartbeats 2000000 in
theorem crname_any (n : Int) (w : World) : Calls Try.prog 17 #[.int .i64 n] w fun r w' => r = .returned (.string (nameOf n)) ∧ Below w.heap.size w w' := by
  rcases name_cases n with ⟨h, he⟩ | ⟨h, he⟩ | rfl | rfl | rfl | rfl | rfl | rfl | rfl | rfl | rfl | rfl | rfl | rfl | rfl | rfl
  · rw [he]
    clear he
    go_enter Try.func17, Try.ntmps17
    go_wp2
    go_ret
    exact ⟨rfl, (Below.refl _ _).alloc (Nat.le_refl _) _⟩
  · rw [he]
    clear he
    go_enter Try.func17, Try.ntmps17
    go_wp2
    go_ret
    exact ⟨rfl, (Below.refl _ _).alloc (Nat.le_refl _) _⟩
  all_goals
    go_enter Try.func17, Try.ntmps17
    go_wp2
    go_ret
    exact ⟨rfl, (Below.refl _ _).alloc (Nat.le_refl _) _⟩
end Go.Proofs.Ytffbimebgledoaa
