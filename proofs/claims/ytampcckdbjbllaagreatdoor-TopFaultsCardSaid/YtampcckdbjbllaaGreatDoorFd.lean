/-
  TopFaults: the row's closed facts, one a theorem (Fd).
-/
import Derived.Test.YtampcckdbjbllaaGreatDoorRows
import Derived.JoinedOf
import Derived.SevenTiedAt
import Derived.ProofKit
set_option linter.unusedVariables false
namespace Go.Proofs.YtampcckdbjbllaaGreatDoor.topFaults
open Go
theorem j_wf : Rows.topFaultsRow.wf (OpenSpec.ofChange Rows.topFaultsSpec) = true := by kernel_rfl
theorem j_pr : Tryz.f3.params.all (Tryz.pinned.checked.prog.readableRec ·) = true := by kernel_rfl
theorem j_nt : namedTie Tryz.pinned.checked.prog Rows.topFaultsRow.named Rows.topFaultsSpec.vars = true := by kernel_rfl
theorem j_st1 : (Rows.topFaultsRow.stops == []) = true := by kernel_rfl
theorem j_st2 : (Tryz.pinned.checked.prog.stops == []) = true := by kernel_rfl
theorem j_st3 : (Rows.topFaultsRow.knobs == []) = true := by kernel_rfl
theorem j_st4 : (Tryz.pinned.checked.prog.stopKnobs == []) = true := by kernel_rfl
theorem j_ma : (Rows.topFaultsRow.maps == (Tryz.f3.params.toList ++ Rows.topFaultsSpec.plain.varTypes Tryz.pinned.checked.prog).any (Tryz.pinned.checked.prog.mapsRec ·)) = true := by kernel_rfl
theorem j_if : (Rows.topFaultsRow.ifaces == (Tryz.f3.params.toList ++ Rows.topFaultsSpec.plain.varTypes Tryz.pinned.checked.prog).any (Tryz.pinned.checked.prog.ifacesRec ·)) = true := by kernel_rfl
theorem j_mo : (Rows.topFaultsRow.mapsOut == Tryz.pinned.checked.prog.mapsAmong Tryz.f3.resultTypes.toList) = true := by kernel_rfl
theorem j_lp : (Rows.topFaultsRow.loops == (Tryz.f3.params.toList ++ Rows.topFaultsSpec.plain.varTypes Tryz.pinned.checked.prog).any (Tryz.pinned.checked.prog.loopsFrom ·)) = true := by kernel_rfl
theorem j_wk : (Rows.topFaultsRow.wideKeys == (Tryz.f3.params.toList ++ Rows.topFaultsSpec.plain.varTypes Tryz.pinned.checked.prog ++ Tryz.f3.resultTypes.toList).any (Tryz.pinned.checked.prog.wideKeysFrom ·)) = true := by kernel_rfl
theorem j_vr : Rows.topFaultsSpec.vars.all (Tryz.pinned.checked.prog.varReadable ·) = true := by kernel_rfl
theorem j_rr : Tryz.f3.resultTypes.all (fun t => Tryz.pinned.checked.prog.readableRec t && decide (t < Tryz.pinned.checked.prog.types.size)) = true := by kernel_rfl
theorem j_io : (Rows.topFaultsRow.ifacesOut == Tryz.f3.resultTypes.toList.any (Tryz.pinned.checked.prog.ifacesRec ·)) = true := by kernel_rfl
theorem j_lt : (Rows.topFaultsRow.loopsOut == Tryz.f3.resultTypes.toList.any (Tryz.pinned.checked.prog.loopsFrom ·)) = true := by kernel_rfl
theorem j_sh : Rows.topFaultsRow.shortTexts.isNone = true := by kernel_rfl
theorem j_ki : (Rows.topFaultsRow.kinds == (if Rows.topFaultsRow.domain.isEmpty then [] else Tryz.f3.params.toList.map fun t => match Tryz.pinned.checked.prog.underlying t with | some (.int k) => some k | _ => none)) = true := by kernel_rfl
theorem j_pi : (Rows.topFaultsRow.pinned == Rows.topFaultsRow.pinnedBy) = true := by kernel_rfl
theorem j_ve : (Rows.topFaultsRow.veiled == (Tryz.f3.params.toList ++ Rows.topFaultsSpec.plain.varTypes Tryz.pinned.checked.prog ++ Tryz.f3.resultTypes.toList).any (Tryz.pinned.checked.prog.veiledRec ·)) = true := by kernel_rfl
theorem j_vf : Rows.topFaultsRow.veiledFits Tryz.pinned.checked.prog Tryz.f3.params.toList (Tryz.f3.params.toList ++ Rows.topFaultsSpec.plain.varTypes Tryz.pinned.checked.prog ++ Tryz.f3.resultTypes.toList) = true := by kernel_rfl
theorem j_is : Func.isInstance Tryz.pinned.checked.prog Tryz.f3 Rows.topFaultsRow.origin Rows.topFaultsRow.targs := of_decide_eq_true (by kernel_rfl)
theorem j_fnm : Tryz.pinned.checked.prog.funcNamed Rows.topFaultsRow.func = some 3 := by kernel_rfl
theorem j_wt : Rows.topFaultsRow.wfByText (OpenSpec.ofChange Rows.topFaultsSpec) = true := by kernel_rfl
theorem j_lk : true = Tryz.pinned.checked.prog.looks [] := by kernel_rfl
theorem j_sw : ([5, 22].all fun u => !Tryz.pinned.checked.prog.wantsStandIn u) = true := by kernel_rfl
theorem j_go : Tryz.pinned.checked.prog.funcs.any Func.goes = false := by kernel_rfl
theorem j_own : ownKnob Tryz.pinned.checked.prog.godebug = none := by kernel_rfl
theorem j_ni : Tryz.pinned.checked.prog.inits.idxOf? 3 = none := by kernel_rfl
theorem j_rd : Tryz.pinned.checked.prog.readableRec 22 = true := by kernel_rfl
theorem j_tz : (22 : Nat) < Tryz.pinned.checked.prog.types.size := of_decide_eq_true (by kernel_rfl)
theorem j_c5 : Tryz.pinned.checked.prog.cellsOf 5 = 1 := by kernel_rfl
theorem j_fi : Tryz.pinned.checked.prog.funcs[3]? = some Tryz.f3 := Tryz.func3
theorem goes_none {P : Program} (h : P.funcs.any Func.goes = false) (f : FuncId) : P.goes f = false := by
  unfold Program.goes
  rw [h, Bool.and_false, Bool.or_false, List.any_eq_false]
  intro g _
  cases hg : P.funcs[g]? with
  | none => simp
  | some fn =>
    have := Array.any_eq_false.1 h
    obtain ⟨hlt, e⟩ := Array.getElem?_eq_some_iff.1 hg
    have := this g hlt
    rw [e] at this
    simpa using this
theorem j_gb : false = Rows.topFaultsRow.goesBy Tryz.pinned.checked.prog := by
  unfold OpenClaim.goesBy Program.goesAt Program.goesFrom
  cases Tryz.pinned.checked.prog.funcNamed Rows.topFaultsRow.func with
  | none => rfl
  | some f => simp only [Option.any_some, goes_none j_go]; rfl
end Go.Proofs.YtampcckdbjbllaaGreatDoor.topFaults
