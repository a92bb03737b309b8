/-
  Runs of the program that were looked at once. Printed by wip/gen/memoTexts.py.
-/
import Derived.Test.YtampcckdbjbllaaGreatDoorHc
import Derived.Test.YtampcckdbjbllaaGreatDoorMmIn
set_option linter.unusedVariables false
set_option linter.unusedSectionVars false
set_option maxRecDepth 100000
namespace Go.Proofs.YtampcckdbjbllaaGreatDoor.Ev
noncomputable section
open Go.RowKit
theorem inm_yes [Given] (h : Xraw (tbl.getD 8 ⟨0, [], 0⟩) = 0) : MemoOK Tryz.prog inm :=
  have hX : XX 8 = 65535 := XX_full (j := 8) rfl rfl h
  letI := knF 8
  haveI : KnOK := knF_ok hX
  haveI : Tbl tblT zk0 := tblT_ok hX
  memo_run (Tb := tblT) (nzJ_ok (j := 8) (b := true) rfl (decide_eq_true h).symm) (by kernel_rfl)
theorem inm_ok [Given] : MemoOK Tryz.prog inm := by
  by_cases h : Xraw (tbl.getD 8 ⟨0, [], 0⟩) = 0
  · exact inm_yes h
  · exact inm_no h
end
end Go.Proofs.YtampcckdbjbllaaGreatDoor.Ev
