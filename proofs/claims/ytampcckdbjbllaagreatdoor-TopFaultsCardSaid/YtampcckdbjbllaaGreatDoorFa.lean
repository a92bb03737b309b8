/-
  TopFaults: the row's closed facts, one a theorem (Fa).
-/
import Derived.Test.YtampcckdbjbllaaGreatDoorRows
import Derived.JoinedOf
import Derived.SevenTiedAt
import Derived.ProofKit
set_option linter.unusedVariables false
namespace Go.Proofs.YtampcckdbjbllaaGreatDoor.topFaults
open Go
theorem j_na : (Rows.topFaultsRow.named == Tryz.pinned.checked.prog.varsNamed 3) = true := by kernel_rfl
theorem j_lo1 : (List.range Tryz.pinned.checked.prog.types.size).all (rowFine Tryz.pinned.checked.prog) = true := by kernel_rfl
theorem j_lo2 : Tryz.pinned.checked.prog.globals.all (fun g => decide (g.type < Tryz.pinned.checked.prog.types.size)) = true := by kernel_rfl
theorem j_lo3 : Tryz.pinned.checked.prog.funcs.all (fun f => f.params.all fun t => decide (t < Tryz.pinned.checked.prog.types.size)) = true := by kernel_rfl
theorem j_mr : mapsRowed Tryz.pinned.checked.prog = true := by kernel_rfl
end Go.Proofs.YtampcckdbjbllaaGreatDoor.topFaults
