/-
  Runs of the program that were looked at once. Printed by wip/gen/memoTexts.py.
-/
import Derived.Test.YtampcckdbjbllaaGreatDoorHc
import Derived.Test.YtampcckdbjbllaaGreatDoorMmBuild
import Derived.Test.YtampcckdbjbllaaGreatDoorMmFew
import Derived.Test.YtampcckdbjbllaaGreatDoorMmAdo1
import Derived.Test.YtampcckdbjbllaaGreatDoorMmAdo2
import Derived.Test.YtampcckdbjbllaaGreatDoorMmAdo3
import Derived.Test.YtampcckdbjbllaaGreatDoorMmAdo4
set_option linter.unusedVariables false
set_option linter.unusedSectionVars false
set_option maxRecDepth 100000
namespace Go.Proofs.YtampcckdbjbllaaGreatDoor.Ev
noncomputable section
open Go.RowKit
def awm : Memo := ⟨4, [], [], 1, [], 1429, .bool true⟩
theorem awm_ok [Given] : MemoOK Tryz.prog awm :=
  letI := kn0
  haveI : KnOK := kn0_ok
  memo_runs (Tb := tbl) (ms := [buildm, adgm, ado1m, ado2m, adg2m, ado3m, ado4m]) nzN_ok (memos_cons buildm_ok (memos_cons adgm_ok (memos_cons ado1m_ok (memos_cons ado2m_ok (memos_cons adg2m_ok (memos_cons ado3m_ok (memos_cons ado4m_ok memos_nil))))))) (by kernel_rfl)
end
end Go.Proofs.YtampcckdbjbllaaGreatDoor.Ev
