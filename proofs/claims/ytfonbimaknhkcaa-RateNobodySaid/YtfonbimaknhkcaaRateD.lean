/-
  RateNobody: the walk. A bucket that no call made: nil, or all its cells 0.
-/
import Derived.Test.YtfonbimaknhkcaaRateC
namespace Go.Proofs.Ytfonbimaknhkcaa
open Go.RowKit

set_option maxHeartbeats 400000 in
theorem ready_nil (w : World) : Calls Try.prog 18 #[.pointer none] w fun r w' => r = .returned (.bool false) ∧ w = w' := by
  go_enter Try.func18, Try.ntmps18
  go_wp2
  go_ret
  exact ⟨rfl, rfl⟩
set_option maxHeartbeats 400000 in
theorem ready_zero (g : Nat) (w : World) (hb : Blk w g 42 (B4 0 0 0 0)) : Calls Try.prog 18 #[.pointer (some ⟨g, 0, none⟩)] w fun r w' => r = .returned (.bool false) ∧ w = w' := by
  have c0 : w.cell? ⟨g, 0, none⟩ = some (.int .i64 0) := hb.cell 0
  go_enter Try.func18, Try.ntmps18
  go_wp2
  go_ret
  exact ⟨rfl, rfl⟩

/-- A receiver that no call made. -/
def Nobody (w : World) (v : Value) : Prop := v = .pointer none ∨ ∃ g, v = .pointer (some ⟨g, 0, none⟩) ∧ Blk w g 42 (B4 0 0 0 0)

theorem ready_nobody (v : Value) (w : World) (h : Nobody w v) : Calls Try.prog 18 #[v] w fun r w' => r = .returned (.bool false) ∧ w = w' := by
  rcases h with rfl | ⟨g, rfl, hb⟩
  · exact ready_nil w
  · exact ready_zero g w hb

set_option maxHeartbeats 400000 in
theorem left_nobody (v : Value) (t : Int) (w : World) (h : Nobody w v) : Calls Try.prog 11 #[v, .int .i64 t] w fun r w' => r = .returned (.int .i64 0) ∧ w = w' := by
  go_enter Try.func11, Try.ntmps11
  go_wp2_with fail
  refine (ready_nobody v _ h).mono ?_
  rintro r w' ⟨rfl, rfl⟩
  go_wp2
  go_ret
  exact ⟨rfl, rfl⟩
set_option maxHeartbeats 400000 in
theorem take_nobody (v : Value) (t : Int) (w : World) (h : Nobody w v) : Calls Try.prog 9 #[v, .int .i64 t] w fun r w' => r = .returned (.bool false) ∧ w = w' := by
  go_enter Try.func9, Try.ntmps9
  go_wp2_with fail
  refine (left_nobody v t _ h).mono ?_
  rintro r w' ⟨rfl, rfl⟩
  go_wp2
  go_ret
  exact ⟨rfl, rfl⟩
set_option maxHeartbeats 400000 in
theorem wait_nobody (v : Value) (t : Int) (w : World) (h : Nobody w v) : Calls Try.prog 13 #[v, .int .i64 t] w fun r w' => r = .returned (.int .i64 0) ∧ w = w' := by
  go_enter Try.func13, Try.ntmps13
  go_wp2_with fail
  refine (ready_nobody v _ h).mono ?_
  rintro r w' ⟨rfl, rfl⟩
  go_wp2
  go_ret
  exact ⟨rfl, rfl⟩

set_option maxHeartbeats 1000000 in
theorem nobody_walk (t : Int) (w : World) : Calls Try.prog 6 #[.int .i64 t] w fun r w' => r = .returned (.bool true) ∧ Below w.heap.size w w' := by
  have hz : Blk (w.alloc (.cells (B4 0 0 0 0) 42)) w.heap.size 42 (B4 0 0 0 0) := Blk.new _ _ _
  have n0 : ∀ w : World, Nobody w (.pointer none) := fun _ => .inl rfl
  have n1 : Nobody (w.alloc (.cells (B4 0 0 0 0) 42)) (.pointer (some ⟨w.heap.size, 0, none⟩)) := .inr ⟨_, rfl, hz⟩
  have N0 := Lib.hid n0
  have N1 := Lib.hid n1
  clear n0 n1 hz
  go_enter Try.func6, Try.ntmps6
  go_wp2_with fail
  refine (take_nobody _ t _ (N0.out _)).mono ?_
  rintro r w' ⟨rfl, rfl⟩
  go_wp2_with fail
  refine (take_nobody _ t _ N1.out).mono ?_
  rintro r w' ⟨rfl, rfl⟩
  go_wp2_with fail
  refine (left_nobody _ t _ (N0.out _)).mono ?_
  rintro r w' ⟨rfl, rfl⟩
  go_wp2_with fail
  refine (left_nobody _ t _ N1.out).mono ?_
  rintro r w' ⟨rfl, rfl⟩
  go_wp2_with fail
  refine (wait_nobody _ t _ (N0.out _)).mono ?_
  rintro r w' ⟨rfl, rfl⟩
  go_wp2_with fail
  refine (wait_nobody _ t _ N1.out).mono ?_
  rintro r w' ⟨rfl, rfl⟩
  go_wp2_with fail
  refine (awake_any _).mono ?_
  rintro r w' ⟨rfl, hb⟩
  go_wp2
  go_ret
  exact ⟨rfl, ((Below.refl _ _).alloc (Nat.le_refl _) _).trans (hb.mono (by simp))⟩
end Go.Proofs.Ytfonbimaknhkcaa
