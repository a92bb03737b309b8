/-
  six: an argument that is an address: sixteen bytes.
-/
import Derived.Test.YtngdomefipcemaaDoorSixV
import Derived.WalkKit
import Derived.ProofKit
import Derived.OpenShut
namespace Go.Proofs.YtngdomefipcemaaDoor
open Go.ChangeShapes Go.WideShapes Go.ChangeAt Go.RowKit

theorem six_types : Tryd.prog.cellTypes Tryd.prog.depth 31 = some (List.replicate 16 5) := by kernel_rfl
theorem six_cells : Tryd.prog.cellsOf 31 = 16 := by kernel_rfl

set_option maxRecDepth 100000 in
theorem open_six {W : World} {base : Nat} {v : Value} (h : Value.okWide Tryd.prog W .any base 31 v) : ∃ a : List UInt8, a.length = 16 ∧ v = .agg (cells6 a) := by
  simp only [Value.okWide, Tryd.underlying31] at h
  obtain ⟨cs, rfl, hsz, ts, hts, _, hall⟩ := h
  rw [six_cells] at hsz
  rw [six_types] at hts
  injection hts with hts
  subst hts
  have hv : ∀ i, ∃ n : UInt8, i < 16 → cs[i]? = some (.int .u8 (n.toNat : Int)) := fun i => by
    by_cases hi : i < 16
    · have hi' : i < cs.size := by omega
      obtain ⟨u, hu, hok⟩ := hall i cs[i] (Array.getElem?_eq_getElem hi')
      obtain rfl : u = 5 := by
        have := List.mem_of_getElem? hu
        exact List.eq_of_mem_replicate this
      have hw : Value.okWide Tryd.prog W .any base 5 cs[i] := by
        simp only [Value.okWide, Tryd.underlying5]
        exact hok
      obtain ⟨n, e⟩ := okWide_int Tryd.underlying5 hw
      rw [e] at hok
      have hr : IntKind.u8.has n := by
        simp only [Cell.okWide, Cell.ok, Tryd.underlying5] at hok
        exact hok.2
      have h0 : 0 ≤ n := hr.1
      have h1 : n ≤ 255 := hr.2
      refine ⟨UInt8.ofNat n.toNat, fun _ => ?_⟩
      rw [Array.getElem?_eq_getElem hi', e]
      congr 2
      simp
      omega
    · exact ⟨0, fun h => absurd h hi⟩
  refine ⟨(List.range 16).map fun i => Classical.choose (hv i), by simp, ?_⟩
  have hs := fun i => Classical.choose_spec (hv i)
  congr 1
  apply Array.ext_getElem?
  intro i
  by_cases hi : i < 16
  · rw [hs i hi]
    simp [cells6, nums, hi]
  · rw [Array.getElem?_eq_none (by omega), Array.getElem?_eq_none (by simp [cells6, nums]; omega)]
end Go.Proofs.YtngdomefipcemaaDoor
