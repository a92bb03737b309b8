/-
  TopFaults: the row's closed facts, one a theorem (Fb).
-/
import Derived.Test.YtampcckdbjbllaaGreatDoorRows
import Derived.JoinedOf
import Derived.SevenTiedAt
import Derived.ProofKit
set_option linter.unusedVariables false
namespace Go.Proofs.YtampcckdbjbllaaGreatDoor.topFaults
open Go
theorem j_ip : (Rows.topFaultsRow.inPlace == Tryz.pinned.checked.prog.inPlace 3) = true := by kernel_rfl
theorem j_pk : (Rows.topFaultsRow.plainKeys == Tryz.pinned.checked.prog.plainKeys) = true := by kernel_rfl
theorem j_li : (Rows.topFaultsRow.lifted == Tryz.pinned.checked.prog.liftsFinal) = true := by kernel_rfl
theorem j_mk : (Tryz.pinned.checked.prog.make == some Rows.topFaultsRow.make) = true := by kernel_rfl
theorem j_sd : Tryz.pinned.checked.prog.stopsHeard = true := by kernel_rfl
theorem j_me : Tryz.pinned.checked.prog.mayEnter = true := by kernel_rfl
theorem j_mn : Tryz.pinned.checked.prog.mainIs = some (true, "7f74a1a87c239812ac6eb6062e01086fac2a06b1667c7d85a214ea3c877b2254".toList) := by kernel_rfl
end Go.Proofs.YtampcckdbjbllaaGreatDoor.topFaults
