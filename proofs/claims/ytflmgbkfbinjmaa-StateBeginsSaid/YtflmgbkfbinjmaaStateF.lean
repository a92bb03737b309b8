/-
  StateBegins: the walk.
-/
import Derived.Test.YtflmgbkfbinjmaaStateE
namespace Go.Proofs.Ytflmgbkfbinjmaa
open Go.RowKit

attribute [local go_sem] nx beg syn rst fin
set_option maxRecDepth 100000 in
set_option maxHeartbeats 8000000 in
theorem begins_walk (n : Int) (out : Bool) (flags : Int) (w : World) (hn1 : 0 ≤ n) (hn2 : n ≤ 255) : Calls Try.prog 5 #[.int .u8 n, .bool out, .int .i64 flags] w fun r w' => r = .returned (.bool true) ∧ Below w.heap.size w w' := by
  have k2 := and_low flags 2 (by decide)
  have k4 := and_low flags 4 (by decide)
  have ko := low3_or4 flags
  have hl := low3_lt flags
  obtain ⟨F, hF⟩ : ∃ F, low3 flags = F := ⟨_, rfl⟩
  rw [hF] at k2 k4 ko hl
  obtain ⟨K, hK⟩ : ∃ K, 1 + n % 6 = K := ⟨_, rfl⟩
  have hn3 : 0 ≤ n % 6 := by omega
  have hn4 : n % 6 < 6 := by omega
  have hk : K = 1 ∨ K = 2 ∨ K = 3 ∨ K = 4 ∨ K = 5 ∨ K = 6 := by omega
  have hF8 : F = 0 ∨ F = 1 ∨ F = 2 ∨ F = 3 ∨ F = 4 ∨ F = 5 ∨ F = 6 ∨ F = 7 := by omega
  clear hl
  rcases hF8 with rfl | rfl | rfl | rfl | rfl | rfl | rfl | rfl
  all_goals
    simp at k2 k4 ko
    cases out
    all_goals
      rcases hk with rfl | rfl | rfl | rfl | rfl | rfl
      all_goals
        go_enter Try.func5, Try.ntmps5
        go_wp2_with fail
        refine (next_any _ _ _ _).mono ?_
        rintro r w2 ⟨rfl, hb2⟩
        go_wp2_with fail
        refine (next_any _ _ _ _).mono ?_
        rintro r w3 ⟨rfl, hb3⟩
        go_wp2_with fail
        refine (next_any _ _ _ _).mono ?_
        rintro r w4 ⟨rfl, hb4⟩
        go_wp2_with fail
        refine (awake_any _).mono ?_
        rintro r w5 ⟨rfl, hb5⟩
        go_wp2
        go_ret
        exact ⟨rfl, ((hb2.trans (hb3.mono hb2.size)).trans (hb4.mono (Nat.le_trans hb2.size hb3.size))).trans (hb5.mono (Nat.le_trans hb2.size (Nat.le_trans hb3.size hb4.size)))⟩
end Go.Proofs.Ytflmgbkfbinjmaa
