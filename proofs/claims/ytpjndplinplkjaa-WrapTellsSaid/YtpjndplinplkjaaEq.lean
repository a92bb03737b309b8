/-
  Equality of two arrays of sixteen bytes that are alike.
-/
import Derived.Test.YtpjndplinplkjaaWrapA
import Derived.ChangeKeysEq
namespace Go.Proofs.Ytpjndplinplkjaa
open Go.RowKit

theorem byte_size : (Try.prog.info? 5).map (fun i => i.size) = some 1 := by kernel_rfl

set_option maxRecDepth 100000 in
set_option maxHeartbeats 4000000 in
theorem eq16 (s : Nat → Int) (w : World) : (Op.equalIn 10000 23 (.agg #[.int .u8 (s 0), .int .u8 (s 1), .int .u8 (s 2), .int .u8 (s 3), .int .u8 (s 4), .int .u8 (s 5), .int .u8 (s 6), .int .u8 (s 7), .int .u8 (s 8), .int .u8 (s 9), .int .u8 (s 10), .int .u8 (s 11), .int .u8 (s 12), .int .u8 (s 13), .int .u8 (s 14), .int .u8 (s 15)]) (.agg #[.int .u8 (s 0), .int .u8 (s 1), .int .u8 (s 2), .int .u8 (s 3), .int .u8 (s 4), .int .u8 (s 5), .int .u8 (s 6), .int .u8 (s 7), .int .u8 (s 8), .int .u8 (s 9), .int .u8 (s 10), .int .u8 (s 11), .int .u8 (s 12), .int .u8 (s 13), .int .u8 (s 14), .int .u8 (s 15)])).run Try.prog w = .ok true w := by
  obtain ⟨i, hi, h1⟩ := Option.map_eq_some_iff.1 byte_size
  have hc : Try.prog.cellsOf 5 = 1 := by kernel_rfl
  have hin : ∀ (a : Int) (w : World), (Op.equalIn 9999 5 (.int .u8 a) (.int .u8 a)).run Try.prog w = .ok true w := fun a w => by
    rw [run_equalIn_int w 9998 5 .u8 .u8 a a Try.underlying5]; simp
  rw [Go.run_equalIn_array w 9999 (n := 16) _ _ Try.underlying23 hi, hc]
  simp [List.range_succ, Op.eqItems, part, isAgg, run_underlying Try.underlying5, hin]
end Go.Proofs.Ytpjndplinplkjaa
