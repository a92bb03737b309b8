/-
  A slice of integers that came in, as a walk wants it: in a round, at index i below the length, its address and its cell.
-/
import Derived.Test.YtkbbkddepcjoaaaDoorRows
import Derived.Test.YtkbbkddepcjoaaaDoorBase
import Derived.WalkKit
import Derived.ProofKit
import Derived.OpenShut
namespace Go.Proofs.YtkbbkddepcjoaaaDoor
open Go.ChangeShapes Go.WideShapes Go.ChangeAt Go.RowKit

/-- nil, or a row of integers: at each index below the length there is its address, an old block, its cell and its bounds. -/
def IntRow (k : IntKind) (w : World) (a : Option Addr) (len : Nat) (zs : List Int) : Prop :=
  len ≤ 9223372036854775807 ∧ zs.length = len ∧ ∀ i, i < len → ∃ b off, a = some ⟨b, off, none⟩ ∧ b < w.heap.size ∧ w.cell? ⟨b, off + i, none⟩ = some (.int k (zs.getD i 0)) ∧ (Lit.int k (zs.getD i 0)).wf = true

theorem IntRow.at_ {k : IntKind} {w : World} {a : Option Addr} {len : Nat} {zs : List Int} (h : IntRow k w a len zs) {w' : World} (hb : Below w.heap.size w w') {i : Nat} (hi : i < len) :
    ∃ b off z, a = some ⟨b, off, none⟩ ∧ b < w.heap.size ∧ w'.cell? ⟨b, off + i, none⟩ = some (.int k z) ∧ z = zs.getD i 0 ∧ (Lit.int k z).wf = true := by
  obtain ⟨b, off, h1, h2, h3, h4⟩ := h.2.2 i hi
  exact ⟨b, off, _, h1, h2, (hb.cell (p := ⟨b, off + i, none⟩) h2).trans h3, rfl, h4⟩

theorem intRow_of {H : Type} {enc : TypeId × Value → H} {P : Program} {w : World} {base : Nat} {spare : Nat → Bool} {held : Bool} {t e : TypeId} {k : IntKind} {a : Option Addr} {len cap : Nat} {d : DataW H} {p : List MemPlace}
    (ht : P.underlying t = some (.slice e)) (he : P.underlying e = some (.int k)) (hs : P.cellsOf e = 1) (h : DataW.Trod enc P w base spare held t (.slice a len cap) d p) : ∃ zs, IntRow k w a len zs := by
  obtain ⟨fuel, hf⟩ := h
  rcases open_ints ht he hs hf with ⟨hcs, _⟩ | ⟨x, l, c, zs, hcs, _, hl, hm, hz, _, hcell, hwz⟩
  · simp [Value.cells] at hcs
    obtain ⟨rfl, rfl, rfl⟩ := hcs
    exact ⟨[], by omega, rfl, fun i hi => absurd hi (by omega)⟩
  · simp [Value.cells] at hcs
    obtain ⟨rfl, rfl, rfl⟩ := hcs
    unfold maxLen at hm
    have hle : len ≤ zs.length := by
      rw [hz]
      first | exact Nat.le_refl _ | exact hl | (split <;> first | exact hl | exact Nat.le_refl _)
    refine ⟨zs.take len, by omega, by rw [List.length_take]; omega, fun i hi => ?_⟩
    obtain ⟨b, off, rfl, hc⟩ := ints_at hcell (by omega)
    have hc2 := hc i (by omega)
    have hi' : i < zs.length := by omega
    have e1 : (zs.take len).getD i 0 = zs.getD i 0 := by simp [List.getD_eq_getElem?_getD, hi]
    refine ⟨b, off, rfl, World.block_lt_of_cell? w _ hc2, by rw [e1]; exact hc2, ?_⟩
    rw [e1]
    exact hwz _ (by
      have : zs.getD i 0 = zs[i] := by simp [List.getD_eq_getElem?_getD, hi']
      rw [this]
      exact List.getElem_mem hi')
end Go.Proofs.YtkbbkddepcjoaaaDoor
