/-
  The document's Next, and states that are none: the walks.
-/
import Derived.Test.YtflmgbkfbinjmaaStateA
namespace Go.Proofs.Ytflmgbkfbinjmaa
open Go.RowKit

set_option maxHeartbeats 400000 in
theorem rbegins_any (flags : Int) (w : World) : Calls Try.prog 15 #[.int .i64 flags] w fun r w' => r = .returned (.bool (beg (low3 flags))) ∧ w = w' := by
  have h2 := and_low flags 2 (by decide)
  have h4 := and_low flags 4 (by decide)
  have hl := low3_lt flags
  generalize low3 flags = F at *
  have hF : F = 0 ∨ F = 1 ∨ F = 2 ∨ F = 3 ∨ F = 4 ∨ F = 5 ∨ F = 6 ∨ F = 7 := by omega
  rcases hF with rfl | rfl | rfl | rfl | rfl | rfl | rfl | rfl
  all_goals
    simp at h2 h4
    go_enter Try.func15, Try.ntmps15
    go_wp2
    go_ret
    exact ⟨rfl, rfl⟩

set_option maxHeartbeats 400000 in
theorem side_any (out : Bool) (a b : Int) (w : World) : Calls Try.prog 16 #[.bool out, .int .i64 a, .int .i64 b] w fun r w' => r = .returned (.int .i64 (if out then a else b)) ∧ w = w' := by
  cases out
  all_goals
    go_enter Try.func16, Try.ntmps16
    go_wp2
    go_ret
    exact ⟨rfl, rfl⟩

set_option maxHeartbeats 4000000 in
theorem rnext_in (n : Int) (out : Bool) (flags : Int) (w : World) (h0 : 0 ≤ n) (h1 : n ≤ 6) :
    Calls Try.prog 7 #[.int .i64 n, .bool out, .int .i64 flags] w fun r w' => r = .returned (.tuple #[.int .i64 (nx n out (low3 flags)).1, .bool (nx n out (low3 flags)).2]) ∧ w = w' := by
  have k1 := and_low flags 1 (by decide)
  have k4 := and_low flags 4 (by decide)
  have kb := fun w => rbegins_any flags w
  have hl := low3_lt flags
  generalize low3 flags = F at *
  have hF : F = 0 ∨ F = 1 ∨ F = 2 ∨ F = 3 ∨ F = 4 ∨ F = 5 ∨ F = 6 ∨ F = 7 := by omega
  have hn : n = 0 ∨ n = 1 ∨ n = 2 ∨ n = 3 ∨ n = 4 ∨ n = 5 ∨ n = 6 := by omega
  clear h0 h1 hl
  rcases hF with rfl | rfl | rfl | rfl | rfl | rfl | rfl | rfl
  all_goals
    simp at k1 k4
    simp only [show beg 0 = false from rfl, show beg 1 = false from rfl, show beg 2 = true from rfl, show beg 3 = true from rfl, show beg 4 = false from rfl, show beg 5 = false from rfl, show beg 6 = false from rfl, show beg 7 = false from rfl] at kb
    have KB := Lib.hid kb
    clear kb
    cases out
    all_goals
      rcases hn with rfl | rfl | rfl | rfl | rfl | rfl | rfl
      all_goals
        go_enter Try.func7, Try.ntmps7
        go_wp2_with (first
          | (go_at_call 15; refine (KB.out _).mono ?_; rintro r w' ⟨rfl, rfl⟩)
          | (go_at_call 16; refine (side_any _ _ _ _).mono ?_; rintro r w' ⟨rfl, rfl⟩))
        go_ret2
        exact ⟨rfl, rfl⟩

theorem nx_out (n : Int) (out : Bool) (F : Nat) (h : n < 0 ∨ 6 < n) : nx n out F = (0, false) := by
  unfold nx
  rw [if_pos (by simpa using h)]

set_option maxHeartbeats 400000 in
theorem rnext_any (n : Int) (out : Bool) (flags : Int) (w : World) :
    Calls Try.prog 7 #[.int .i64 n, .bool out, .int .i64 flags] w fun r w' => r = .returned (.tuple #[.int .i64 (nx n out (low3 flags)).1, .bool (nx n out (low3 flags)).2]) ∧ w = w' := by
  by_cases h : n < 0 ∨ 6 < n
  · rw [nx_out n out _ h]
    rcases h with h | h
    · go_enter Try.func7, Try.ntmps7
      go_wp2
      go_ret2
      exact ⟨rfl, rfl⟩
    · have h' : 0 ≤ n := by omega
      go_enter Try.func7, Try.ntmps7
      go_wp2
      go_ret2
      exact ⟨rfl, rfl⟩
  · exact rnext_in n out flags w (by omega) (by omega)
end Go.Proofs.Ytflmgbkfbinjmaa
