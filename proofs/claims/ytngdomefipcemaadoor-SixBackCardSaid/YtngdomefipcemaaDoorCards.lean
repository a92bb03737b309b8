/-
  DERIVED. GIVEN WITH THE SEED: THE CARDS: each row of YtngdomefipcemaaDoorRows.lean that lists a variable, with what it lists TIED to the program's text (the seventh form; the later family's looks); each row that meets fmt, with fmt's text TOLD by the authors' own Lean function (tested against real Go, not proved from fmt's source: count such statements apart). THE CARD IS WHAT COUNTS. Prove the row's statement (the work); the ties are given (YtngdomefipcemaaDoorTie.lean); close each card by the builder's one call (the guide's Derived/Test/ToyasCard.lean, 'card_holds'). Laid BY PROGRAM, IN A SANDBOX (cutbox-door.mjs). By AI agents, Wed Nov 11 2026. No macro, syntax, notation, axiom, sorry.
-/
import Derived.Test.YtngdomefipcemaaDoorRows
import GoSem.ClaimSeven
namespace Go.Proofs.YtngdomefipcemaaDoor
namespace Rows

/-- THE TIED CARD OF 'goosepondlaw03.FourTells'. -/
def fourTellsCard : Claim7 := { stood := { row := fourTellsRow, standIns := [], harness := (true, "16bff9d82fafb7f61010695fd996e65ef6a3e1ad5c60bc4e583564fbe361066f"), looks := false }, kinds := [], alts := [], laidByText := true, laidKinds := [.data, .data, .data, .data, .pinned], laidTests := true, laidLooks := .later }
def FourTellsCardSaid : Prop := Claim7.holds Tryd.pinned (.plain (OpenSpec.ofChange fourTellsSpec)) fourTellsCard

/-- THE TIED CARD OF 'goosepondlaw03.FourParses'. -/
def fourParsesCard : Claim7 := { stood := { row := fourParsesRow, standIns := [], harness := (true, "16bff9d82fafb7f61010695fd996e65ef6a3e1ad5c60bc4e583564fbe361066f"), looks := false }, kinds := [], alts := [], laidByText := true, laidKinds := [.data, .data, .data, .data, .pinned], laidTests := true, laidLooks := .later }
def FourParsesCardSaid : Prop := Claim7.holds Tryd.pinned (.plain (OpenSpec.ofChange fourParsesSpec)) fourParsesCard

/-- THE TIED CARD OF 'goosepondlaw03.FourBack'. -/
def fourBackCard : Claim7 := { stood := { row := fourBackRow, standIns := [], harness := (true, "16bff9d82fafb7f61010695fd996e65ef6a3e1ad5c60bc4e583564fbe361066f"), looks := false }, kinds := [], alts := [], laidByText := true, laidKinds := [.data, .data, .data, .data, .pinned], laidTests := true, laidLooks := .later }
def FourBackCardSaid : Prop := Claim7.holds Tryd.pinned (.plain (OpenSpec.ofChange fourBackSpec)) fourBackCard

/-- THE TIED CARD OF 'goosepondlaw04.SixParses'. -/
def sixParsesCard : Claim7 := { stood := { row := sixParsesRow, standIns := [], harness := (true, "16bff9d82fafb7f61010695fd996e65ef6a3e1ad5c60bc4e583564fbe361066f"), looks := false }, kinds := [], alts := [], laidByText := true, laidKinds := [.data, .data, .data, .data, .pinned], laidTests := true, laidLooks := .later }
def SixParsesCardSaid : Prop := Claim7.holds Tryd.pinned (.plain (OpenSpec.ofChange sixParsesSpec)) sixParsesCard

/-- THE TIED CARD OF 'goosepondlaw04.SixTells'. -/
def sixTellsCard : Claim7 := { stood := { row := sixTellsRow, standIns := [], harness := (true, "16bff9d82fafb7f61010695fd996e65ef6a3e1ad5c60bc4e583564fbe361066f"), looks := false }, kinds := [], alts := [], laidByText := true, laidKinds := [.data, .data, .data, .data, .pinned], laidTests := true, laidLooks := .later }
def SixTellsCardSaid : Prop := Claim7.holds Tryd.pinned (.plain (OpenSpec.ofChange sixTellsSpec)) sixTellsCard

/-- THE TIED CARD OF 'goosepondlaw04.SixBack'. -/
def sixBackCard : Claim7 := { stood := { row := sixBackRow, standIns := [], harness := (true, "16bff9d82fafb7f61010695fd996e65ef6a3e1ad5c60bc4e583564fbe361066f"), looks := false }, kinds := [], alts := [], laidByText := true, laidKinds := [.data, .data, .data, .data, .pinned], laidTests := true, laidLooks := .later }
def SixBackCardSaid : Prop := Claim7.holds Tryd.pinned (.plain (OpenSpec.ofChange sixBackSpec)) sixBackCard

/-- THE SECOND FORM's CARD OF 'goosepondlaw03.FourTells'. -/
def fourTellsUptoCard : Claim7 := { stood := { row := fourTellsUptoRow, standIns := [], harness := (true, "16bff9d82fafb7f61010695fd996e65ef6a3e1ad5c60bc4e583564fbe361066f"), looks := false }, kinds := [], alts := [], laidByText := true, laidKinds := [.data, .data, .data, .data, .pinned], laidTests := true, laidLooks := .later }
def FourTellsUptoCardSaid : Prop := Claim7.holds Tryd.pinned (.plain (OpenSpec.upto fourTellsSpec)) fourTellsUptoCard

/-- THE SECOND FORM's CARD OF 'goosepondlaw03.FourParses'. -/
def fourParsesUptoCard : Claim7 := { stood := { row := fourParsesUptoRow, standIns := [], harness := (true, "16bff9d82fafb7f61010695fd996e65ef6a3e1ad5c60bc4e583564fbe361066f"), looks := false }, kinds := [], alts := [], laidByText := true, laidKinds := [.data, .data, .data, .data, .pinned], laidTests := true, laidLooks := .later }
def FourParsesUptoCardSaid : Prop := Claim7.holds Tryd.pinned (.plain (OpenSpec.upto fourParsesSpec)) fourParsesUptoCard

/-- THE SECOND FORM's CARD OF 'goosepondlaw03.FourBack'. -/
def fourBackUptoCard : Claim7 := { stood := { row := fourBackUptoRow, standIns := [], harness := (true, "16bff9d82fafb7f61010695fd996e65ef6a3e1ad5c60bc4e583564fbe361066f"), looks := false }, kinds := [], alts := [], laidByText := true, laidKinds := [.data, .data, .data, .data, .pinned], laidTests := true, laidLooks := .later }
def FourBackUptoCardSaid : Prop := Claim7.holds Tryd.pinned (.plain (OpenSpec.upto fourBackSpec)) fourBackUptoCard

/-- THE SECOND FORM's CARD OF 'goosepondlaw04.SixParses'. -/
def sixParsesUptoCard : Claim7 := { stood := { row := sixParsesUptoRow, standIns := [], harness := (true, "16bff9d82fafb7f61010695fd996e65ef6a3e1ad5c60bc4e583564fbe361066f"), looks := false }, kinds := [], alts := [], laidByText := true, laidKinds := [.data, .data, .data, .data, .pinned], laidTests := true, laidLooks := .later }
def SixParsesUptoCardSaid : Prop := Claim7.holds Tryd.pinned (.plain (OpenSpec.upto sixParsesSpec)) sixParsesUptoCard

/-- THE SECOND FORM's CARD OF 'goosepondlaw04.SixTells'. -/
def sixTellsUptoCard : Claim7 := { stood := { row := sixTellsUptoRow, standIns := [], harness := (true, "16bff9d82fafb7f61010695fd996e65ef6a3e1ad5c60bc4e583564fbe361066f"), looks := false }, kinds := [], alts := [], laidByText := true, laidKinds := [.data, .data, .data, .data, .pinned], laidTests := true, laidLooks := .later }
def SixTellsUptoCardSaid : Prop := Claim7.holds Tryd.pinned (.plain (OpenSpec.upto sixTellsSpec)) sixTellsUptoCard

/-- THE SECOND FORM's CARD OF 'goosepondlaw04.SixBack'. -/
def sixBackUptoCard : Claim7 := { stood := { row := sixBackUptoRow, standIns := [], harness := (true, "16bff9d82fafb7f61010695fd996e65ef6a3e1ad5c60bc4e583564fbe361066f"), looks := false }, kinds := [], alts := [], laidByText := true, laidKinds := [.data, .data, .data, .data, .pinned], laidTests := true, laidLooks := .later }
def SixBackUptoCardSaid : Prop := Claim7.holds Tryd.pinned (.plain (OpenSpec.upto sixBackSpec)) sixBackUptoCard
end Rows
end Go.Proofs.YtngdomefipcemaaDoor
