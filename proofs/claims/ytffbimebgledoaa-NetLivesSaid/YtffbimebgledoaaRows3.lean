/-
  An argument that is a struct, opened: its cells one by one; a field that is a slice of bytes.
-/
import Derived.Test.YtffbimebgledoaaRows2
import Derived.Test.YtffbimebgledoaaBytes
import Derived.Deep.Fields
import Derived.Deep.MidRow
namespace Go.Proofs.Ytffbimebgledoaa
open Go.ChangeShapes Go.WideShapes Go.ChangeAt Go.RowKit

theorem breads_of_row {w : World} {a : Option Addr} {n : Nat} {zs : List Int} (h : IntRow .u8 w a n zs) : BReads w a n zs := by
  refine ⟨⟨by simp [h.2.1], fun hn => ?_⟩, fun e => ?_⟩
  · obtain ⟨b, off, e, hb, _, _⟩ := h.2.2 0 hn
    refine ⟨_, e, hb, fun j u hu => ?_⟩
    have hj : j < zs.length := by simpa using (List.getElem?_eq_some_iff.1 hu).1
    obtain ⟨b', off', e', _, hc, _⟩ := h.2.2 j (by have := h.2.1; omega)
    rw [e] at e'
    injection e' with e'
    injection e' with e1 e2
    subst e1
    subst e2
    rw [Addr.add_mid, hc, ← hu]
    simp [List.getD_eq_getElem?_getD, hj]
  · rcases Nat.eq_zero_or_pos n with h0 | h0
    · exact h0
    · obtain ⟨b, off, e', _⟩ := h.2.2 0 h0
      rw [e] at e'
      cases e'

theorem u8_range {n : Int} (h : (Lit.int .u8 n).wf = true) : 0 ≤ n ∧ n ≤ 255 := by
  simpa [Lit.wf, IntKind.min, IntKind.max, IntKind.bits, IntKind.signed] using h

theorem i64_range {n : Int} (h : (Lit.int .i64 n).wf = true) : -9223372036854775808 ≤ n ∧ n ≤ 9223372036854775807 := by
  simpa [Lit.wf, IntKind.min, IntKind.max, IntKind.bits, IntKind.signed] using h

theorem row_cells {P : Program} {W : World} {base : Nat} {t : TypeId} {v : Value} {fs : Array Field} {ts : List TypeId} (hu : P.underlying t = some (.struct fs)) (hc : P.cellsOf t = ts.length) (ht : P.cellTypes P.depth t = some ts)
    (h : Value.okWide P W .any base t v) : ∃ cs : Array Value, v = .agg cs ∧ cs.size = ts.length ∧ ∀ (i : Nat) (u : TypeId), ts[i]? = some u → ∃ x, cs[i]? = some x ∧ Cell.okWide P W .any base u x := by
  simp only [Value.okWide, hu] at h
  obtain ⟨cs, rfl, hsz, ts', hts, _, hall⟩ := h
  rw [ht] at hts
  injection hts with hts
  subst hts
  refine ⟨cs, rfl, by omega, fun i u hi => ?_⟩
  have hl : i < ts.length := (List.getElem?_eq_some_iff.1 hi).1
  have hi' : i < cs.size := by omega
  obtain ⟨u', hu', hok⟩ := hall i cs[i] (Array.getElem?_eq_getElem hi')
  rw [Nat.mod_eq_of_lt hl, hi] at hu'
  injection hu' with hu'
  subst hu'
  exact ⟨_, Array.getElem?_eq_getElem hi', hok⟩

theorem cell_int {P : Program} {W : World} {base : Nat} {t : TypeId} {k : IntKind} {v : Value} (ht : P.underlying t = some (.int k)) (h : Cell.okWide P W .any base t v) : ∃ n : Int, v = .int k n ∧ k.has n := by
  simp only [ht, Cell.okWide] at h
  cases v <;> simp_all [Cell.ok]
theorem cell_bool {P : Program} {W : World} {base : Nat} {t : TypeId} {v : Value} (ht : P.underlying t = some .bool) (h : Cell.okWide P W .any base t v) : ∃ b, v = .bool b := by
  simp only [ht, Cell.okWide] at h
  cases v <;> simp_all [Cell.ok]
theorem cell_slice {P : Program} {W : World} {base : Nat} {t e : TypeId} {v : Value} (ht : P.underlying t = some (.slice e)) (h : Cell.okWide P W .any base t v) : ∃ a len cap, v = .slice a len cap := by
  simp only [ht, Cell.okWide] at h
  cases v <;> simp_all [Cell.ok]

theorem pick_ints {k : IntKind} {cs : Array Value} (a b : Nat) (h : ∀ i, i < b → ∃ n : Int, cs[a + i]? = some (.int k n) ∧ k.has n) : ∃ f : Nat → Int, ∀ i, i < b → cs[a + i]? = some (.int k (f i)) ∧ k.has (f i) := by
  have hv : ∀ i, ∃ n : Int, i < b → cs[a + i]? = some (.int k n) ∧ k.has n := fun i => by
    by_cases hi : i < b
    · obtain ⟨n, hn⟩ := h i hi
      exact ⟨n, fun _ => hn⟩
    · exact ⟨0, fun h => absurd h hi⟩
  exact ⟨fun i => Classical.choose (hv i), fun i hi => Classical.choose_spec (hv i) hi⟩

/-- A slice of bytes that is a field of a struct that came in. -/
theorem field_bytes {H : Type} {enc : TypeId × Value → H} {P : Program} {W : World} {base : Nat} {spare : Nat → Bool} {held : Bool} {t ft e : TypeId} {fs : Array Field} {cs : Array Value} {d : DataW H} {p : List MemPlace} {A : Option Addr} {n c : Nat}
    (ht : P.underlying t = some (.struct fs)) (i : Nat) (f : Field) (hf : fs[i]? = some f) (htf : f.type = ft) (hs : P.underlying ft = some (.slice e)) (he : P.underlying e = some (.int .u8)) (hc : P.cellsOf e = 1) (hc2 : P.cellsOf ft = 1)
    (hcell : cs[f.offset]? = some (.slice A n c)) (h : DataW.Trod enc P W base spare held t (.agg cs) d p) : ∃ xs : List Int, BReads W A n xs ∧ n ≤ 9223372036854775807 := by
  obtain ⟨fuel, h⟩ := h
  obtain ⟨xs, m, _, _, _, hl, hall⟩ := DataW.trod_struct ht h
  have h1 := hall i f hf
  rw [htf, hc2] at h1
  have hlt : f.offset < cs.size := (Array.getElem?_eq_some_iff.1 hcell).1
  have e1 : ((Value.agg cs).cells.toList.drop f.offset).take 1 = [Value.slice A n c] := by
    have : (Value.agg cs).cells = cs := rfl
    rw [this, Go.Deep.take1_drop _ _ (.slice A n c) (by simpa using hlt)]
    simp [List.getD_eq_getElem?_getD, hcell]
  have hi : i < xs.length := by
    have := (Array.getElem?_eq_some_iff.1 hf).1
    omega
  rw [e1, List.getElem?_eq_getElem hi] at h1
  obtain ⟨zs, hz⟩ := intRow_of hs he hc (⟨m, h1⟩ : DataW.Trod enc P W base spare held ft (.slice A n c) xs[i].1 xs[i].2)
  exact ⟨zs, breads_of_row hz, hz.1⟩
end Go.Proofs.Ytffbimebgledoaa
