/-
  TopFaults: the row's closed facts, one a theorem (Fc).
-/
import Derived.Test.YtampcckdbjbllaaGreatDoorRows
import Derived.JoinedOf
import Derived.SevenTiedAt
import Derived.ProofKit
set_option linter.unusedVariables false
namespace Go.Proofs.YtampcckdbjbllaaGreatDoor.topFaults
open Go
theorem j_un : (Rows.topFaultsRow.unfollowed == Tryz.pinned.checked.prog.unfollowed 3) = true := by kernel_rfl
theorem j_re : (Rows.topFaultsRow.recurses == Tryz.pinned.checked.prog.recurses 3) = true := by kernel_rfl
end Go.Proofs.YtampcckdbjbllaaGreatDoor.topFaults
