/-
  wrap: arguments that are packets, opened. (Printed by wip/gen/wrapP.py.)
-/
import Derived.Test.YtpjndplinplkjaaWrapO
import Derived.Deep.Fields
namespace Go.Proofs.Ytpjndplinplkjaa
open Go.ChangeShapes Go.WideShapes Go.ChangeAt Go.RowKit

theorem i64_range {n : Int} (h : (Lit.int .i64 n).wf = true) : -9223372036854775808 ≤ n ∧ n ≤ 9223372036854775807 := by
  simpa [Lit.wf, IntKind.min, IntKind.max, IntKind.bits, IntKind.signed] using h

theorem row_cells {P : Program} {W : World} {base : Nat} {t : TypeId} {v : Value} {fs : Array Field} {ts : List TypeId} (hu : P.underlying t = some (.struct fs)) (hc : P.cellsOf t = ts.length) (ht : P.cellTypes P.depth t = some ts)
    (h : Value.okWide P W .any base t v) : ∃ cs : Array Value, v = .agg cs ∧ cs.size = ts.length ∧ ∀ (i : Nat) (u : TypeId), ts[i]? = some u → ∃ x, cs[i]? = some x ∧ Cell.okWide P W .any base u x := by
  simp only [Value.okWide, hu] at h
  obtain ⟨cs, rfl, hsz, ts', hts, _, hall⟩ := h
  rw [ht] at hts
  injection hts with hts
  subst hts
  refine ⟨cs, rfl, by omega, fun i u hi => ?_⟩
  have hl : i < ts.length := (List.getElem?_eq_some_iff.1 hi).1
  have hi' : i < cs.size := by omega
  obtain ⟨u', hu', hok⟩ := hall i cs[i] (Array.getElem?_eq_getElem hi')
  rw [Nat.mod_eq_of_lt hl, hi] at hu'
  injection hu' with hu'
  subst hu'
  exact ⟨_, Array.getElem?_eq_getElem hi', hok⟩

theorem cell_int {P : Program} {W : World} {base : Nat} {t : TypeId} {k : IntKind} {v : Value} (ht : P.underlying t = some (.int k)) (h : Cell.okWide P W .any base t v) : ∃ n : Int, v = .int k n ∧ k.has n := by
  simp only [ht, Cell.okWide] at h
  cases v <;> simp_all [Cell.ok]
theorem cell_bool {P : Program} {W : World} {base : Nat} {t : TypeId} {v : Value} (ht : P.underlying t = some .bool) (h : Cell.okWide P W .any base t v) : ∃ b, v = .bool b := by
  simp only [ht, Cell.okWide] at h
  cases v <;> simp_all [Cell.ok]
theorem cell_slice {P : Program} {W : World} {base : Nat} {t e : TypeId} {v : Value} (ht : P.underlying t = some (.slice e)) (h : Cell.okWide P W .any base t v) : ∃ a len cap, v = .slice a len cap := by
  simp only [ht, Cell.okWide] at h
  cases v <;> simp_all [Cell.ok]

theorem pick_ints {k : IntKind} {cs : Array Value} (a b : Nat) (h : ∀ i, i < b → ∃ n : Int, cs[a + i]? = some (.int k n) ∧ k.has n) : ∃ f : Nat → Int, ∀ i, i < b → cs[a + i]? = some (.int k (f i)) ∧ k.has (f i) := by
  have hv : ∀ i, ∃ n : Int, i < b → cs[a + i]? = some (.int k n) ∧ k.has n := fun i => by
    by_cases hi : i < b
    · obtain ⟨n, hn⟩ := h i hi
      exact ⟨n, fun _ => hn⟩
    · exact ⟨0, fun h => absurd h hi⟩
  exact ⟨fun i => Classical.choose (hv i), fun i hi => Classical.choose_spec (hv i) hi⟩

/-- A slice of bytes that is a field of a struct that came in. -/
theorem field_bytes {H : Type} {enc : TypeId × Value → H} {P : Program} {W : World} {base : Nat} {spare : Nat → Bool} {held : Bool} {t ft e : TypeId} {fs : Array Field} {cs : Array Value} {d : DataW H} {p : List MemPlace} {A : Option Addr} {n c : Nat}
    (ht : P.underlying t = some (.struct fs)) (i : Nat) (f : Field) (hf : fs[i]? = some f) (htf : f.type = ft) (hs : P.underlying ft = some (.slice e)) (he : P.underlying e = some (.int .u8)) (hc : P.cellsOf e = 1) (hc2 : P.cellsOf ft = 1)
    (hcell : cs[f.offset]? = some (.slice A n c)) (h : DataW.Trod enc P W base spare held t (.agg cs) d p) : ∃ xs : List Int, BReads W A n xs ∧ n ≤ 9223372036854775807 := by
  obtain ⟨fuel, h⟩ := h
  obtain ⟨xs, m, _, _, _, hl, hall⟩ := DataW.trod_struct ht h
  have h1 := hall i f hf
  rw [htf, hc2] at h1
  have hlt : f.offset < cs.size := (Array.getElem?_eq_some_iff.1 hcell).1
  have e1 : ((Value.agg cs).cells.toList.drop f.offset).take 1 = [Value.slice A n c] := by
    have : (Value.agg cs).cells = cs := rfl
    rw [this, Go.Deep.take1_drop _ _ (.slice A n c) (by simpa using hlt)]
    simp [List.getD_eq_getElem?_getD, hcell]
  have hi : i < xs.length := by
    have := (Array.getElem?_eq_some_iff.1 hf).1
    omega
  rw [e1, List.getElem?_eq_getElem hi] at h1
  obtain ⟨zs, hz⟩ := intRow_of hs he hc (⟨m, h1⟩ : DataW.Trod enc P W base spare held ft (.slice A n c) xs[i].1 xs[i].2)
  exact ⟨zs, breads_of_row hz, hz.1⟩

theorem v6_types : Try.prog.cellTypes Try.prog.depth 26 = some ([3, 3, 3, 3] ++ List.replicate 32 5 ++ [24]) := by kernel_rfl
theorem v6_cells : Try.prog.cellsOf 26 = ([3, 3, 3, 3] ++ List.replicate 32 5 ++ [24]).length := by kernel_rfl
theorem v4_types : Try.prog.cellTypes Try.prog.depth 28 = some ([3, 3, 3, 3, 3, 3, 3, 4, 4, 24, 24]) := by kernel_rfl
theorem v4_cells : Try.prog.cellsOf 28 = [3, 3, 3, 3, 3, 3, 3, 4, 4, 24, 24].length := by kernel_rfl
theorem byte_cells : Try.prog.cellsOf 5 = 1 := by kernel_rfl
theorem bytes_cells : Try.prog.cellsOf 24 = 1 := by kernel_rfl

set_option maxRecDepth 100000 in
theorem open_v6 {H : Type} {enc : TypeId × Value → H} {W : World} {base b0 : Nat} {spare : Nat → Bool} {held : Bool} {v : Value} {dt : DataW H} {pl : List MemPlace} (h : Value.okWide Try.prog W .any base 26 v) (hT : DataW.Trod enc Try.prog W b0 spare held 26 v dt pl) :
    ∃ (t f x h : Int) (s d : Nat → Int) (B : Option Addr) (m b : Nat) (ys : List Int), v = .agg (six6 t f x h s d (.slice B m b)) ∧ BReads W B m ys ∧ m ≤ 9223372036854775807 := by
  obtain ⟨cs, rfl, hsz, hall⟩ := row_cells Try.underlying26 v6_cells v6_types h
  have hsz' : cs.size = 37 := hsz
  obtain ⟨f0, h0⟩ := pick_ints (k := .i64) (cs := cs) 0 4 fun i hi => by
    obtain ⟨x, hx, hok⟩ := hall (0 + i) 3 (by rcases (show i = 0 ∨ i = 1 ∨ i = 2 ∨ i = 3 by omega) with rfl | rfl | rfl | rfl <;> rfl)
    obtain ⟨n, rfl, hn⟩ := cell_int Try.underlying3 hok
    exact ⟨n, hx, hn⟩
  obtain ⟨s, hs⟩ := pick_ints (k := .u8) (cs := cs) 4 16 fun i hi => by
    obtain ⟨x, hx, hok⟩ := hall (4 + i) 5 (by rcases (show i = 0 ∨ i = 1 ∨ i = 2 ∨ i = 3 ∨ i = 4 ∨ i = 5 ∨ i = 6 ∨ i = 7 ∨ i = 8 ∨ i = 9 ∨ i = 10 ∨ i = 11 ∨ i = 12 ∨ i = 13 ∨ i = 14 ∨ i = 15 by omega) with rfl | rfl | rfl | rfl | rfl | rfl | rfl | rfl | rfl | rfl | rfl | rfl | rfl | rfl | rfl | rfl <;> rfl)
    obtain ⟨n, rfl, hn⟩ := cell_int Try.underlying5 hok
    exact ⟨n, hx, hn⟩
  obtain ⟨d, hd⟩ := pick_ints (k := .u8) (cs := cs) 20 16 fun i hi => by
    obtain ⟨x, hx, hok⟩ := hall (20 + i) 5 (by rcases (show i = 0 ∨ i = 1 ∨ i = 2 ∨ i = 3 ∨ i = 4 ∨ i = 5 ∨ i = 6 ∨ i = 7 ∨ i = 8 ∨ i = 9 ∨ i = 10 ∨ i = 11 ∨ i = 12 ∨ i = 13 ∨ i = 14 ∨ i = 15 by omega) with rfl | rfl | rfl | rfl | rfl | rfl | rfl | rfl | rfl | rfl | rfl | rfl | rfl | rfl | rfl | rfl <;> rfl)
    obtain ⟨n, rfl, hn⟩ := cell_int Try.underlying5 hok
    exact ⟨n, hx, hn⟩
  obtain ⟨x, hx, hok⟩ := hall 36 24 rfl
  obtain ⟨B, m, b, rfl⟩ := cell_slice Try.underlying24 hok
  obtain ⟨ys, hr, hm⟩ := field_bytes Try.underlying26 6 _ rfl rfl Try.underlying24 Try.underlying5 byte_cells bytes_cells hx hT
  refine ⟨f0 0, f0 1, f0 2, f0 3, s, d, B, m, b, ys, ?_, hr, hm⟩
  congr 1
  apply Array.ext_getElem?
  intro i
  by_cases hi : i < 37
  · by_cases g0 : i < 4
    · rcases (show i = 0 ∨ i = 1 ∨ i = 2 ∨ i = 3 by omega) with rfl | rfl | rfl | rfl
      · exact (h0 0 (by omega)).1
      · exact (h0 1 (by omega)).1
      · exact (h0 2 (by omega)).1
      · exact (h0 3 (by omega)).1
    · by_cases g1 : i < 20
      · obtain ⟨j, rfl⟩ : ∃ j, i = 4 + j := ⟨i - 4, by omega⟩
        rw [(hs j (by omega)).1]
        rcases (show j = 0 ∨ j = 1 ∨ j = 2 ∨ j = 3 ∨ j = 4 ∨ j = 5 ∨ j = 6 ∨ j = 7 ∨ j = 8 ∨ j = 9 ∨ j = 10 ∨ j = 11 ∨ j = 12 ∨ j = 13 ∨ j = 14 ∨ j = 15 by omega) with rfl | rfl | rfl | rfl | rfl | rfl | rfl | rfl | rfl | rfl | rfl | rfl | rfl | rfl | rfl | rfl <;> rfl
      · by_cases g2 : i < 36
        · obtain ⟨j, rfl⟩ : ∃ j, i = 20 + j := ⟨i - 20, by omega⟩
          rw [(hd j (by omega)).1]
          rcases (show j = 0 ∨ j = 1 ∨ j = 2 ∨ j = 3 ∨ j = 4 ∨ j = 5 ∨ j = 6 ∨ j = 7 ∨ j = 8 ∨ j = 9 ∨ j = 10 ∨ j = 11 ∨ j = 12 ∨ j = 13 ∨ j = 14 ∨ j = 15 by omega) with rfl | rfl | rfl | rfl | rfl | rfl | rfl | rfl | rfl | rfl | rfl | rfl | rfl | rfl | rfl | rfl <;> rfl
        · obtain rfl : i = 36 := by omega
          exact hx
  · rw [Array.getElem?_eq_none (by omega), Array.getElem?_eq_none (by simp; omega)]

set_option maxRecDepth 100000 in
theorem open_v4 {H : Type} {enc : TypeId × Value → H} {W : World} {base b0 : Nat} {spare : Nat → Bool} {held : Bool} {v : Value} {dt : DataW H} {pl : List MemPlace} (h : Value.okWide Try.prog W .any base 28 v) (hT : DataW.Trod enc Try.prog W b0 spare held 28 v dt pl) :
    ∃ (u : Nat → Int) (p q : Bool) (C : Option Addr) (k e : Nat) (zs : List Int) (D : Option Addr) (l e' : Nat) (us : List Int), v = .agg (cells4 u p q (.slice C k e) (.slice D l e')) ∧ BReads W C k zs ∧ k ≤ 9223372036854775807 ∧ BReads W D l us ∧ l ≤ 9223372036854775807 ∧ u 3 ≤ 9223372036854775807 := by
  obtain ⟨cs, rfl, hsz, hall⟩ := row_cells Try.underlying28 v4_cells v4_types h
  have hsz' : cs.size = 11 := hsz
  obtain ⟨f0, h0⟩ := pick_ints (k := .i64) (cs := cs) 0 7 fun i hi => by
    obtain ⟨x, hx, hok⟩ := hall (0 + i) 3 (by rcases (show i = 0 ∨ i = 1 ∨ i = 2 ∨ i = 3 ∨ i = 4 ∨ i = 5 ∨ i = 6 by omega) with rfl | rfl | rfl | rfl | rfl | rfl | rfl <;> rfl)
    obtain ⟨n, rfl, hn⟩ := cell_int Try.underlying3 hok
    exact ⟨n, hx, hn⟩
  obtain ⟨x7, hx7, hok⟩ := hall 7 4 rfl
  obtain ⟨p, rfl⟩ := cell_bool Try.underlying4 hok
  obtain ⟨x8, hx8, hok⟩ := hall 8 4 rfl
  obtain ⟨q, rfl⟩ := cell_bool Try.underlying4 hok
  obtain ⟨x9, hx9, hok⟩ := hall 9 24 rfl
  obtain ⟨C, k, e, rfl⟩ := cell_slice Try.underlying24 hok
  obtain ⟨xa, hxa, hok⟩ := hall 10 24 rfl
  obtain ⟨D, l, e', rfl⟩ := cell_slice Try.underlying24 hok
  obtain ⟨zs, hr, hm⟩ := field_bytes Try.underlying28 9 _ rfl rfl Try.underlying24 Try.underlying5 byte_cells bytes_cells hx9 hT
  obtain ⟨us, hr2, hm2⟩ := field_bytes Try.underlying28 10 _ rfl rfl Try.underlying24 Try.underlying5 byte_cells bytes_cells hxa hT
  refine ⟨f0, p, q, C, k, e, zs, D, l, e', us, ?_, hr, hm, hr2, hm2, ?_⟩
  · congr 1
    apply Array.ext_getElem?
    intro i
    by_cases hi : i < 11
    · by_cases g0 : i < 7
      · have := (h0 i g0).1
        rw [Nat.zero_add] at this
        rw [this]
        rcases (show i = 0 ∨ i = 1 ∨ i = 2 ∨ i = 3 ∨ i = 4 ∨ i = 5 ∨ i = 6 by omega) with rfl | rfl | rfl | rfl | rfl | rfl | rfl <;> rfl
      · rcases (show i = 7 ∨ i = 8 ∨ i = 9 ∨ i = 10 by omega) with rfl | rfl | rfl | rfl
        · exact hx7
        · exact hx8
        · exact hx9
        · exact hxa
    · rw [Array.getElem?_eq_none (by omega), Array.getElem?_eq_none (by simp; omega)]
  · have := (h0 3 (by omega)).2
    simpa [IntKind.has, IntKind.min, IntKind.max, IntKind.bits, IntKind.signed] using this.2
end Go.Proofs.Ytpjndplinplkjaa
