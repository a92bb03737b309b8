/-
  report: ReportBack at whatever arguments.
-/
import Derived.Test.YtkbbkddepcjoaaaDoorRepJ
import Derived.Test.YtkbbkddepcjoaaaDoorOpenE
namespace Go.Proofs.YtkbbkddepcjoaaaDoor
open Go.ChangeShapes Go.WideShapes Go.ChangeAt Go.RowKit

theorem wf_u8 {n : Int} (h : (Lit.int .u8 n).wf = true) : 0 ≤ n ∧ n ≤ 255 := by
  simpa [Lit.wf, IntKind.min, IntKind.max, IntKind.bits, IntKind.signed] using h
theorem rback_arg (n q a y q2 a2 y2 : Int) (st : Bool) (g1 : IntKind.i64.has n) (g4 : IntKind.i64.has y) (g7 : IntKind.i64.has y2) (r : Int) (hr : (Lit.int .u8 r).wf = true) (w : World) (htab : TabW w) : Calls Tryd.prog 4 #[.agg #[.int .i64 n, .int .i64 q, .int .i64 a, .int .i64 y, .int .i64 q2, .int .i64 a2, .int .i64 y2, .bool st], .int .u8 r] w fun e w' => e = .returned (.bool true) ∧ Below w.heap.size w w' := by
  have h1 := wf_u8 hr
  obtain ⟨k, rfl⟩ : ∃ k : Nat, r = k := ⟨r.toNat, by omega⟩
  have hm : ((k : Int)).tmod 3 = ((k % 3 : Nat) : Int) := by
    rw [Int.tmod_eq_emod_of_nonneg (by omega)]; omega
  rcases (show k % 3 = 0 ∨ k % 3 = 1 ∨ k % 3 = 2 by omega) with h | h | h
  · exact rback_one n q a y q2 a2 y2 st g1 g4 g7 k (k % 3) hm (by omega) 1 (Or.inl ⟨h, rfl⟩) w htab
  · exact rback_one n q a y q2 a2 y2 st g1 g4 g7 k (k % 3) hm (by omega) 6 (Or.inr (Or.inl ⟨h, rfl⟩)) w htab
  · exact rback_one n q a y q2 a2 y2 st g1 g4 g7 k (k % 3) hm (by omega) 17 (Or.inr (Or.inr ⟨h, rfl⟩)) w htab
end Go.Proofs.YtkbbkddepcjoaaaDoor
