/-
  An argument that is a slice of bytes: the bytes as such; its length is within its capacity.
-/
import Derived.Test.YtfgcbpchapkjbaaRows2
import Derived.Test.YtfgcbpchapkjbaaNamH
namespace Go.Proofs.Ytfgcbpchapkjbaa
open Go.ChangeShapes Go.WideShapes Go.ChangeAt Go.RowKit

theorem breads_row {w : World} {a : Option Addr} {n : Nat} {zs : List Int} (h : IntRow .u8 w a n zs) : BReads w a n zs := by
  refine ⟨⟨by simp [h.2.1], fun hn => ?_⟩, fun e => ?_⟩
  · obtain ⟨b, off, e, hb, _, _⟩ := h.2.2 0 hn
    refine ⟨_, e, hb, fun j u hu => ?_⟩
    have hj : j < zs.length := by simpa using (List.getElem?_eq_some_iff.1 hu).1
    obtain ⟨b', off', e', _, hc, _⟩ := h.2.2 j (by have := h.2.1; omega)
    rw [e] at e'
    injection e' with e'
    injection e' with e1 e2
    subst e1
    subst e2
    rw [Addr.add_mid, hc, ← hu]
    simp [List.getD_eq_getElem?_getD, hj]
  · rcases Nat.eq_zero_or_pos n with h0 | h0
    · exact h0
    · obtain ⟨b, off, e', _⟩ := h.2.2 0 h0
      rw [e] at e'
      cases e'

theorem nums_of : ∀ (zs : List Int), (∀ z ∈ zs, 0 ≤ z ∧ z ≤ 255) → ∃ d : List UInt8, zs = nums d
  | [], _ => ⟨[], rfl⟩
  | z :: zs, h => by
    obtain ⟨d, rfl⟩ := nums_of zs (fun y hy => h y (by simp [hy]))
    have hz := h z (by simp)
    refine ⟨UInt8.ofNat z.toNat :: d, ?_⟩
    simp [nums]
    omega

theorem bytesArg_of {H : Type} {enc : TypeId × Value → H} {P : Program} {w : World} {base : Nat} {spare : Nat → Bool} {held : Bool} {t e : TypeId} {a : Option Addr} {len cap : Nat} {d : DataW H} {p : List MemPlace}
    (ht : P.underlying t = some (.slice e)) (he : P.underlying e = some (.int .u8)) (hs : P.cellsOf e = 1) (h : DataW.Trod enc P w base spare held t (.slice a len cap) d p) :
    ∃ l : List UInt8, BReads w a len (nums l) ∧ len ≤ cap ∧ len ≤ 9223372036854775807 := by
  obtain ⟨zs, hz⟩ := intRow_of ht he hs h
  have hc : len ≤ cap := by
    obtain ⟨fuel, hf⟩ := h
    rcases open_ints ht he hs hf with ⟨hcs, _⟩ | ⟨x, l, c, zs, hcs, _, hl, _⟩
    · simp [Value.cells] at hcs
      obtain ⟨rfl, rfl, rfl⟩ := hcs
      exact Nat.le_refl _
    · simp [Value.cells] at hcs
      obtain ⟨rfl, rfl, rfl⟩ := hcs
      exact hl
  obtain ⟨l, rfl⟩ := nums_of zs (fun z hz' => by
    obtain ⟨i, hi⟩ := List.mem_iff_getElem?.1 hz'
    obtain ⟨hlt, e⟩ := List.getElem?_eq_some_iff.1 hi
    obtain ⟨b, off, _, _, _, hwf⟩ := hz.2.2 i (by have := hz.2.1; omega)
    have : zs.getD i 0 = z := by simp [List.getD_eq_getElem?_getD, hi]
    rw [this] at hwf
    simpa [Lit.wf, IntKind.min, IntKind.max, IntKind.bits, IntKind.signed] using hwf)
  exact ⟨l, breads_row hz, hc, hz.1⟩
end Go.Proofs.Ytfgcbpchapkjbaa
