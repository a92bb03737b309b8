/-
  state.Next and the document's Next: the walks, each state, each direction, each value of the lowest bits.
-/
import Derived.Test.YtflmgbkfbinjmaaStateA
namespace Go.Proofs.Ytflmgbkfbinjmaa
open Go.RowKit

def opensF (n : Int) (out : Bool) : Int := if n == 0 || n == 6 then (if out then 1 else 2) else if n == 1 then (if out then 1 else 3) else if n == 2 then (if out then 3 else 2) else n
def finishF (n : Int) (out : Bool) : Int := if n == 3 then (if out then 4 else 5) else if n == 4 then (if out then 4 else 6) else if n == 5 then (if out then 6 else 5) else n

set_option maxHeartbeats 1000000 in
theorem opens_any (n : Int) (out : Bool) (w : World) (h0 : 0 ≤ n) (h1 : n ≤ 6) : Calls Try.prog 13 #[.int .i64 n, .bool out] w fun r w' => r = .returned (.int .i64 (opensF n out)) ∧ Below w.heap.size w w' := by
  have hn : n = 0 ∨ n = 1 ∨ n = 2 ∨ n = 3 ∨ n = 4 ∨ n = 5 ∨ n = 6 := by omega
  clear h0 h1
  cases out
  all_goals
    rcases hn with rfl | rfl | rfl | rfl | rfl | rfl | rfl
    all_goals
      go_enter Try.func13, Try.ntmps13
      go_wp2
      go_ret
      exact ⟨rfl, by first | exact Below.refl _ _ | exact (Below.refl _ _).alloc (Nat.le_refl _) _⟩

set_option maxHeartbeats 1000000 in
theorem finish_any (n : Int) (out : Bool) (w : World) (h0 : 0 ≤ n) (h1 : n ≤ 6) : Calls Try.prog 14 #[.int .i64 n, .bool out] w fun r w' => r = .returned (.int .i64 (finishF n out)) ∧ Below w.heap.size w w' := by
  have hn : n = 0 ∨ n = 1 ∨ n = 2 ∨ n = 3 ∨ n = 4 ∨ n = 5 ∨ n = 6 := by omega
  clear h0 h1
  cases out
  all_goals
    rcases hn with rfl | rfl | rfl | rfl | rfl | rfl | rfl
    all_goals
      go_enter Try.func14, Try.ntmps14
      go_wp2
      go_ret
      exact ⟨rfl, by first | exact Below.refl _ _ | exact (Below.refl _ _).alloc (Nat.le_refl _) _⟩

set_option maxHeartbeats 400000 in
theorem open_any (n : Int) (w : World) : Calls Try.prog 8 #[.int .i64 n] w fun r w' => r = .returned (.bool (n == 3)) ∧ w = w' := by
  go_enter Try.func8, Try.ntmps8
  go_wp2
  go_ret
  exact ⟨rfl, rfl⟩

attribute [local go_sem] opensF finishF
set_option maxHeartbeats 4000000 in
theorem next_in (n : Int) (out : Bool) (flags : Int) (w : World) (h0 : 0 ≤ n) (h1 : n ≤ 6) :
    Calls Try.prog 6 #[.int .i64 n, .bool out, .int .i64 flags] w fun r w' => r = .returned (.tuple #[.int .i64 (nx n out (low3 flags)).1, .bool (nx n out (low3 flags)).2]) ∧ Below w.heap.size w w' := by
  have k1 := and_low flags 1 (by decide)
  have k4 := and_low flags 4 (by decide)
  have kb := fun w => begins_any flags w
  have hl := low3_lt flags
  generalize low3 flags = F at *
  have hF : F = 0 ∨ F = 1 ∨ F = 2 ∨ F = 3 ∨ F = 4 ∨ F = 5 ∨ F = 6 ∨ F = 7 := by omega
  have hn : n = 0 ∨ n = 1 ∨ n = 2 ∨ n = 3 ∨ n = 4 ∨ n = 5 ∨ n = 6 := by omega
  clear h0 h1 hl
  rcases hF with rfl | rfl | rfl | rfl | rfl | rfl | rfl | rfl
  all_goals
    simp at k1 k4
    simp only [show beg 0 = false from rfl, show beg 1 = false from rfl, show beg 2 = true from rfl, show beg 3 = true from rfl, show beg 4 = false from rfl, show beg 5 = false from rfl, show beg 6 = false from rfl, show beg 7 = false from rfl] at kb
    have KB := Lib.hid kb
    clear kb
    cases out
    all_goals
      rcases hn with rfl | rfl | rfl | rfl | rfl | rfl | rfl
      all_goals
        go_enter Try.func6, Try.ntmps6
        go_wp2_with (first
          | (go_at_call 12; refine (KB.out _).mono ?_; rintro r w' ⟨rfl, rfl⟩)
          | (go_at_call 13; refine (opens_any _ _ _ (by omega) (by omega)).mono ?_; rintro r w2 ⟨rfl, hb2⟩)
          | (go_at_call 14; refine (finish_any _ _ _ (by omega) (by omega)).mono ?_; rintro r w3 ⟨rfl, hb3⟩))
        go_ret2
        exact ⟨rfl, by first | exact Below.refl _ _ | exact hb2 | exact hb3 | exact hb2.trans (hb3.mono hb2.size)⟩
end Go.Proofs.Ytflmgbkfbinjmaa
