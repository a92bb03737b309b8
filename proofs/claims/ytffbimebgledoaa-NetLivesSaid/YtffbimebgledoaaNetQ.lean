/-
  NetLives: a slice of calls that came in, opened.
-/
import Derived.Test.YtffbimebgledoaaNetP
import Derived.Deep.Slices
namespace Go.Proofs.Ytffbimebgledoaa
open Go.RowKit Go.ChangeShapes Go.WideShapes Go.Deep

def DoRow (w : World) (a : Option Addr) (len : Nat) : Prop := len ≤ 9223372036854775807 ∧ ∀ i, i < len → ∃ (b off : Nat) (tke : Bool) (at_ b4 : Int) (up : Bool) (A : Option Addr) (n c : Nat) (bs : List Int),
  a = some ⟨b, off, none⟩ ∧ b < w.heap.size ∧ w.cell? ⟨b, off + i * 5, none⟩ = some (.bool tke) ∧ w.cell? ⟨b, off + i * 5 + 1, none⟩ = some (.int .i64 at_) ∧ w.cell? ⟨b, off + i * 5 + 2, none⟩ = some (.int .i64 b4) ∧
  w.cell? ⟨b, off + i * 5 + 3, none⟩ = some (.bool up) ∧ w.cell? ⟨b, off + i * 5 + 4, none⟩ = some (.slice A n c) ∧ BReads w A n bs ∧ n ≤ 9223372036854775807

theorem addr_off (b off i : Nat) : (⟨b, off, none⟩ : Addr).add i = ⟨b, off + i, none⟩ := by
  unfold Addr.add
  split
  · rename_i h; subst h; rfl
  · rfl
theorem do_cells : Try.prog.cellsOf 65 = 5 := by kernel_rfl

/-- One field of a struct that was read. -/
theorem field_at {H : Type} {enc : TypeId × Value → H} {P : Program} {w : World} {base : Nat} {spare : Nat → Bool} {held : Bool} {fuel : Nat} {t : TypeId} {fs : Array Field} {cs : List Value} {x : DataW H × List MemPlace}
    (ht : P.underlying t = some (.struct fs)) (h : DataW.trod enc P w base spare held fuel t cs = some x) (i : Nat) (f : Field) (hf : fs[i]? = some f) (ft : TypeId) (htf : f.type = ft) (off : Nat) (hoff : f.offset = off) (sz : Nat) (hc : P.cellsOf ft = sz) :
    ∃ n y, DataW.trod enc P w base spare held n ft ((cs.drop off).take sz) = some y := by
  obtain ⟨xs, n, _, _, _, hl, hall⟩ := DataW.trod_struct ht h
  have h1 := hall i f hf
  rw [htf, hoff, hc] at h1
  have hi : i < xs.length := by
    have := (Array.getElem?_eq_some_iff.1 hf).1
    omega
  rw [List.getElem?_eq_getElem hi] at h1
  exact ⟨n, _, h1⟩

theorem list5 {cs : List Value} (h : cs.length = 5) : ∃ c0 c1 c2 c3 c4, cs = [c0, c1, c2, c3, c4] := by
  match cs, h with
  | [c0, c1, c2, c3, c4], _ => exact ⟨c0, c1, c2, c3, c4, rfl⟩

theorem doRow_of {H : Type} {enc : TypeId × Value → H} {w : World} {base : Nat} {spare : Nat → Bool} {held : Bool} {a : Option Addr} {len cap : Nat} {d : DataW H} {p : List MemPlace}
    (h : DataW.Trod enc Try.prog w base spare held 60 (.slice a len cap) d p) : DoRow w a len := by
  obtain ⟨fuel, hf⟩ := h
  rcases open_slice Try.underlying60 hf with ⟨hcs, _⟩ | ⟨x, l, c, m, n, D, Pl, hcs, _, hl, hm, hmm, _, hi⟩
  · simp [Value.cells] at hcs
    obtain ⟨rfl, rfl, rfl⟩ := hcs
    exact ⟨by omega, fun i hi => absurd hi (by omega)⟩
  · simp [Value.cells] at hcs
    obtain ⟨rfl, rfl, rfl⟩ := hcs
    unfold maxLen at hm
    have hlm : len ≤ m := by rw [hmm]; split <;> omega
    refine ⟨by omega, fun i hil => ?_⟩
    obtain ⟨bx, off, spot⟩ := x
    have hspot : spot = none := by
      obtain ⟨cs', h1, _⟩ := hi 0 (by omega)
      rw [do_cells] at h1
      obtain ⟨_, h2, h3⟩ := World.cells?_some h1
      have h4 := h3 0 (by omega)
      obtain ⟨c0, c1, c2, c3, c4, rfl⟩ := list5 h2
      simpa [Addr.add] using World.cell?_spot h4
    subst hspot
    obtain ⟨cs', h1, ht⟩ := hi i (by omega)
    rw [do_cells, addr_off] at h1
    obtain ⟨_, h2, h3⟩ := World.cells?_some h1
    obtain ⟨c0, c1, c2, c3, c4, rfl⟩ := list5 h2
    have g0 := h3 0 (by omega)
    have g1 := h3 1 (by omega)
    have g2 := h3 2 (by omega)
    have g3 := h3 3 (by omega)
    have g4 := h3 4 (by omega)
    rw [addr_off] at g0 g1 g2 g3 g4
    replace g0 : w.cell? ⟨bx, off + i * 5, none⟩ = some c0 := g0
    replace g1 : w.cell? ⟨bx, off + i * 5 + 1, none⟩ = some c1 := g1
    replace g2 : w.cell? ⟨bx, off + i * 5 + 2, none⟩ = some c2 := g2
    replace g3 : w.cell? ⟨bx, off + i * 5 + 3, none⟩ = some c3 := g3
    replace g4 : w.cell? ⟨bx, off + i * 5 + 4, none⟩ = some c4 := g4
    obtain ⟨q0, y0, f0⟩ := field_at Try.underlying65 ht 0 _ rfl 4 rfl 0 rfl 1 (by kernel_rfl)
    obtain ⟨q1, y1, f1⟩ := field_at Try.underlying65 ht 1 _ rfl 3 rfl 1 rfl 1 (by kernel_rfl)
    obtain ⟨q2, y2, f2⟩ := field_at Try.underlying65 ht 2 _ rfl 42 rfl 2 rfl 3 (by kernel_rfl)
    obtain ⟨tke, e0, _⟩ := DataW.trod_bool Try.underlying4 f0
    obtain ⟨at_, e1, _, _⟩ := DataW.trod_int Try.underlying3 f1
    obtain ⟨q3, y3, k0⟩ := field_at Try.underlying42 f2 0 _ rfl 3 rfl 0 rfl 1 (by kernel_rfl)
    obtain ⟨q4, y4, k1⟩ := field_at Try.underlying42 f2 1 _ rfl 4 rfl 1 rfl 1 (by kernel_rfl)
    obtain ⟨q5, y5, k2⟩ := field_at Try.underlying42 f2 2 _ rfl 40 rfl 2 rfl 1 (by kernel_rfl)
    obtain ⟨b4, e2, _, _⟩ := DataW.trod_int Try.underlying3 k0
    obtain ⟨up, e3, _⟩ := DataW.trod_bool Try.underlying4 k1
    replace k2 : DataW.trod enc Try.prog w base spare held q5 40 [c4] = some y5 := k2
    have e4 : ∃ A n' c', c4 = .slice A n' c' := by
      rcases DataW.trod_slice Try.underlying40 k2 with ⟨h0, _⟩ | ⟨a', len', cap', _, _, _, _, h0, _⟩
      · exact ⟨none, 0, 0, by simpa using h0⟩
      · exact ⟨some a', len', cap', by simpa using h0⟩
    obtain ⟨A, n', c', rfl⟩ := e4
    obtain rfl : c0 = .bool tke := by simpa using e0
    obtain rfl : c1 = .int .i64 at_ := by simpa using e1
    obtain rfl : c2 = .int .i64 b4 := by simpa using e2
    obtain rfl : c3 = .bool up := by simpa using e3
    obtain ⟨bs, hb⟩ := intRow_of Try.underlying40 Try.underlying5 (by kernel_rfl) (⟨q5, k2⟩ : DataW.Trod enc Try.prog w base spare held 40 (.slice A n' c') y5.1 y5.2)
    exact ⟨bx, off, tke, at_, b4, up, A, n', c', bs, rfl, World.block_lt_of_cell? w _ g0, g0, g1, g2, g3, g4, breads_of_row hb, hb.1⟩
end Go.Proofs.Ytffbimebgledoaa
