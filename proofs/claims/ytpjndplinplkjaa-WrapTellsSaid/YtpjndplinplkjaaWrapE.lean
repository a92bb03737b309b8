/-
  wrap: Hop of a packet that holds no bytes (for awake): the walk.
-/
import Derived.Test.YtpjndplinplkjaaWrapD
namespace Go.Proofs.Ytpjndplinplkjaa
open Go.RowKit Go.Great

set_option maxHeartbeats 400000 in
theorem clone_nil (w : World) : Calls Try.prog 17 #[.slice none 0 0] w fun r w' => r = .returned (.slice none 0 0) ∧ w = w' := by
  have hnil := fun w : World => Lib.run_eql_slice_nil (P := Try.prog) w 24 5 none 0 0 0 0 Try.underlying24
  go_enter Try.func17, Try.ntmps17
  go_wp2
  go_ret
  exact ⟨rfl, rfl⟩

abbrev four4 (ttl : Int) : Array Value := #[.int .i64 0, .int .i64 0, .int .i64 0, .int .i64 ttl, .int .i64 0, .int .i64 0, .int .i64 0, .bool false, .bool false, .slice none 0 0, .slice none 0 0]

theorem v4_size : (Try.prog.info? 28).map (·.size) = some 11 := by kernel_rfl

set_option maxRecDepth 100000 in
set_option maxHeartbeats 4000000 in
theorem hop_nil (w : World) : Calls Try.prog 10 #[.agg (four4 2)] w fun r w' => r = .returned (.tuple #[.agg (four4 1), .bool true]) ∧ Below w.heap.size w w' := by
  go_enter Try.func10, Try.ntmps10
  go_wp2_with fail
  go_region_with (go_at_call 17; refine (clone_nil _).mono ?_; rintro r w' ⟨rfl, rfl⟩)
  all_goals
    go_wp2_with fail
    refine bodyPost_ret (v := .tuple #[.agg (four4 1), .bool true]) ?_ rfl ⟨rfl, ?_⟩
    · have hb : Blk (((w.alloc (.cells (four4 1) 28)).alloc (.cells (four4 1) 28)).drew) (w.heap.size + 1) 28 (four4 1) := (Blk.at_ (by simp)).drew
      simp [results, Try.f10, asAddr, run_loadVar_row _ (w.heap.size + 1) 28 28 (four4 1) (0, 0) _ hb Try.underlying28 rfl v4_size]
    · exact (((Below.refl _ _).alloc (Nat.le_refl _) _).alloc (by simp) _).drew

/-- The example of the law's package: its answer is true. -/
theorem room_1500 (w : World) : Calls Try.prog 15 #[.int .i64 1500] w fun r w' => r = .returned (.int .i64 1460) ∧ w = w' := room_any 1500 w (by decide) (by decide)
end Go.Proofs.Ytpjndplinplkjaa
