/-
  DERIVED. GIVEN WITH THE SEED: THE CARDS: each row of YtampcckdbjbllaaGreatDoorRows.lean that lists a variable, with what it lists TIED to the program's text (the seventh form; the later family's looks); each row that meets fmt, with fmt's text TOLD by the authors' own Lean function (tested against real Go, not proved from fmt's source: count such statements apart). THE CARD IS WHAT COUNTS. Prove the row's statement (the work); the ties are given (YtampcckdbjbllaaGreatDoorTie.lean); close each card by the builder's one call (the guide's Derived/Test/ToyasCard.lean, 'card_holds'). Laid BY PROGRAM, IN A SANDBOX (cutbox-door.mjs). By AI agents, Wed Nov 11 2026. No macro, syntax, notation, axiom, sorry.
-/
import Derived.Test.YtampcckdbjbllaaGreatDoorRows
import GoSem.ClaimSeven
namespace Go.Proofs.YtampcckdbjbllaaGreatDoor
namespace Rows

/-- THE TIED CARD OF 'goosepondtop.TopFaults'. -/
def topFaultsCard : Claim7 := { stood := { row := topFaultsRow, standIns := [], harness := (true, "7f74a1a87c239812ac6eb6062e01086fac2a06b1667c7d85a214ea3c877b2254"), looks := true }, kinds := [], alts := [], laidByText := true, laidKinds := [.handle, .pinned, .data, .data, .data, .data], laidTests := true, laidLooks := .later }
def TopFaultsCardSaid : Prop := Claim7.holds Tryz.pinned (.plain (OpenSpec.ofChange topFaultsSpec)) topFaultsCard

/-- THE SECOND FORM's CARD OF 'goosepondtop.TopFaults'. -/
def topFaultsUptoCard : Claim7 := { stood := { row := topFaultsUptoRow, standIns := [], harness := (true, "7f74a1a87c239812ac6eb6062e01086fac2a06b1667c7d85a214ea3c877b2254"), looks := true }, kinds := [], alts := [], laidByText := true, laidKinds := [.handle, .pinned, .data, .data, .data, .data], laidTests := true, laidLooks := .later }
def TopFaultsUptoCardSaid : Prop := Claim7.holds Tryz.pinned (.plain (OpenSpec.upto topFaultsSpec)) topFaultsUptoCard
end Rows
end Go.Proofs.YtampcckdbjbllaaGreatDoor
