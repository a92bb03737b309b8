/-
  wrap: arguments that are arrays of sixteen bytes, and slices of bytes, opened.
-/
import Derived.Test.YtpjndplinplkjaaWrapG
import Derived.Test.YtpjndplinplkjaaRows2
namespace Go.Proofs.Ytpjndplinplkjaa
open Go.ChangeShapes Go.WideShapes Go.ChangeAt Go.RowKit

theorem six_types : Try.prog.cellTypes Try.prog.depth 23 = some (List.replicate 16 5) := by kernel_rfl
theorem six_cells : Try.prog.cellsOf 23 = 16 := by kernel_rfl

theorem open_six {W : World} {base : Nat} {v : Value} (h : Value.okWide Try.prog W .any base 23 v) : ∃ s : Nat → Int, v = .agg #[.int .u8 (s 0), .int .u8 (s 1), .int .u8 (s 2), .int .u8 (s 3), .int .u8 (s 4), .int .u8 (s 5), .int .u8 (s 6), .int .u8 (s 7), .int .u8 (s 8), .int .u8 (s 9), .int .u8 (s 10), .int .u8 (s 11), .int .u8 (s 12), .int .u8 (s 13), .int .u8 (s 14), .int .u8 (s 15)] := by
  simp only [Value.okWide, Try.underlying23] at h
  obtain ⟨cs, rfl, hsz, ts, hts, _, hall⟩ := h
  rw [six_cells] at hsz
  rw [six_types] at hts
  injection hts with hts
  subst hts
  have hv : ∀ i, ∃ n : Int, i < 16 → cs[i]? = some (.int .u8 n) := fun i => by
    by_cases hi : i < 16
    · have hi' : i < cs.size := by omega
      obtain ⟨u, hu, hok⟩ := hall i cs[i] (Array.getElem?_eq_getElem hi')
      obtain rfl : u = 5 := by
        have := List.mem_of_getElem? hu
        exact List.eq_of_mem_replicate this
      have hw : Value.okWide Try.prog W .any base 5 cs[i] := by
        simp only [Value.okWide, Try.underlying5]
        exact hok
      obtain ⟨n, e⟩ := okWide_int Try.underlying5 hw
      exact ⟨n, fun _ => by rw [Array.getElem?_eq_getElem hi', e]⟩
    · exact ⟨0, fun h => absurd h hi⟩
  refine ⟨fun i => Classical.choose (hv i), ?_⟩
  have hs := fun i => Classical.choose_spec (hv i)
  congr 1
  apply Array.ext_getElem?
  intro i
  by_cases hi : i < 16
  · rw [hs i hi]
    have hc : i = 0 ∨ i = 1 ∨ i = 2 ∨ i = 3 ∨ i = 4 ∨ i = 5 ∨ i = 6 ∨ i = 7 ∨ i = 8 ∨ i = 9 ∨ i = 10 ∨ i = 11 ∨ i = 12 ∨ i = 13 ∨ i = 14 ∨ i = 15 := by omega
    rcases hc with rfl | rfl | rfl | rfl | rfl | rfl | rfl | rfl | rfl | rfl | rfl | rfl | rfl | rfl | rfl | rfl <;> rfl
  · rw [Array.getElem?_eq_none (by omega), Array.getElem?_eq_none (by simp; omega)]

theorem breads_of_row {w : World} {a : Option Addr} {n : Nat} {zs : List Int} (h : IntRow .u8 w a n zs) : BReads w a n zs := by
  refine ⟨⟨by simp [h.2.1], fun hn => ?_⟩, fun e => ?_⟩
  · obtain ⟨b, off, e, hb, _, _⟩ := h.2.2 0 hn
    refine ⟨_, e, hb, fun j u hu => ?_⟩
    have hj : j < zs.length := by simpa using (List.getElem?_eq_some_iff.1 hu).1
    obtain ⟨b', off', e', _, hc, _⟩ := h.2.2 j (by have := h.2.1; omega)
    rw [e] at e'
    injection e' with e'
    injection e' with e1 e2
    subst e1
    subst e2
    rw [Addr.add_mid, hc, ← hu]
    simp [List.getD_eq_getElem?_getD, hj]
  · rcases Nat.eq_zero_or_pos n with h0 | h0
    · exact h0
    · obtain ⟨b, off, e', _⟩ := h.2.2 0 h0
      rw [e] at e'
      cases e'

theorem u8_range {n : Int} (h : (Lit.int .u8 n).wf = true) : 0 ≤ n ∧ n ≤ 255 := by
  simpa [Lit.wf, IntKind.min, IntKind.max, IntKind.bits, IntKind.signed] using h
end Go.Proofs.Ytpjndplinplkjaa
