/-
  A world that meets TopFaults' row: its tables laid, and one handle of a type.
-/
import Derived.Test.YtampcckdbjbllaaGreatDoorRows
import Derived.Lay
import Derived.LaidHandle
import Derived.LaidLaws
import Derived.JoinedOf
import Derived.ProofKit
set_option linter.unusedVariables false
namespace Go.Proofs.YtampcckdbjbllaaGreatDoor.topFaults
open Go
noncomputable section
theorem laidMet_lay {P : Program} {w0 w' : World} {laid : List (String × DataW Unit)} (hh : w'.heap = (w0.layVars P laid).heap) (hf : w0.layFits P laid [] = true) (hi : w0.layIfaces P laid w' = true) : laidMet P laid w' := by
  have e1 : (laid.filter fun x => (laid.map (·.1)).contains x.1) = laid := List.filter_eq_self.2 fun x hx => List.contains_iff_mem.2 (List.mem_map.2 ⟨x, hx, rfl⟩)
  have e2 : (laid.filter fun x => !(laid.map (·.1)).contains x.1) = [] := List.filter_eq_nil_iff.2 fun x hx => by rw [List.contains_iff_mem.2 (List.mem_map.2 ⟨x, hx, rfl⟩)]; simp
  exact laidMet_layVars (w0 := w0) (laid.map (·.1)) [] (by rw [e1]; exact hh) (by rw [e1]; exact hf) (by rw [e1]; exact hi) (by rw [e2]; exact LaidIn.none)
/-- The listed variables but for the handle. -/
def dl : List (String × DataW Unit) := Rows.topFaultsRow.laid.filter fun x => x.2.handleName?.isNone
/-- The first world, with the handle laid. -/
def base (P : Program) (os : Os) : World :=
  { World.holding P os ⟨#[], #[], []⟩ with heap := ⟨(World.holding P os ⟨#[], #[], []⟩).heap.toList.set 0 (.cells #[.iface 581 (.agg #[typeHandle P 416])] 519 (0, 0))⟩ }
def W0 (P : Program) (os : Os) : World := (base P os).layVars P dl
def wargs : Array Value := #[.int .u8 0, .int .u8 0, .slice none 0 0]
def V (P : Program) (os : Os) : World := (W0 P os).forCall (fun _ _ => 0) ⟨#[], wargs, []⟩
theorem w_os (os : Os) : (W0 Tryz.prog os).os = os := World.layVars_os _ _ _
theorem w_zip (os : Os) : (V Tryz.prog os).variablesZipB Tryz.prog = true := by kernel_rfl
theorem w_rows (os : Os) : ((V Tryz.prog os).heap.toList.drop Tryz.prog.globals.size).take ((begin Tryz.prog (fun _ _ => 0) default).world.heap.size - Tryz.prog.globals.size) = (begin Tryz.prog (fun _ _ => 0) default).world.heap.toList.drop Tryz.prog.globals.size := by kernel_rfl
theorem w_ok (os : Os) : Input.okWideB Tryz.prog (V Tryz.prog os) 3 ⟨#[], wargs, []⟩ = true := by kernel_rfl
theorem w_pre (os : Os) {H : Type} (enc : TypeId × Value → H) : Rows.topFaultsSpec.preB enc Tryz.prog Tryz.f3 [] false (V Tryz.prog os).memory wargs 8 = true := by kernel_rfl
theorem w_sized (os : Os) {H : Type} (enc : TypeId × Value → H) : Rows.topFaultsSpec.sizedB enc Tryz.prog Tryz.f3 false (V Tryz.prog os).memory wargs 8 = true := by kernel_rfl
theorem w_fits (os : Os) : (base Tryz.prog os).layFits Tryz.prog dl [] = true := by kernel_rfl
theorem w_ifaces (os : Os) : (base Tryz.prog os).layIfaces Tryz.prog dl (V Tryz.prog os).memory = true := by kernel_rfl
theorem w_handle (os : Os) : (Rows.topFaultsRow.laid.filter fun x => x.2.handleName?.isSome).all (handleAtB Tryz.prog (V Tryz.prog os).memory) = true := by kernel_rfl
theorem w_laid (os : Os) : laidMetH Tryz.prog Rows.topFaultsRow.laid (V Tryz.prog os).memory :=
  laidMetH_of_parts (laidMet_lay (w0 := base Tryz.prog os) (laid := dl) (by simp [V, W0, World.memory, World.forCall, Input.heap]) (w_fits os) (w_ifaces os)) (w_handle os)
end
end Go.Proofs.YtampcckdbjbllaaGreatDoor.topFaults
