/-
  net: an item that came in as an argument, opened.
-/
import Derived.Test.YtffbimebgledoaaNetH
import Derived.Test.YtffbimebgledoaaRows3
namespace Go.Proofs.Ytffbimebgledoaa
open Go.ChangeShapes Go.WideShapes Go.ChangeAt Go.RowKit

theorem item_types : Try.prog.cellTypes Try.prog.depth 42 = some [3, 4, 40] := by kernel_rfl
theorem item_cells : Try.prog.cellsOf 42 = [3, 4, 40].length := by kernel_rfl

theorem open_item {W : World} {base : Nat} {v : Value} (h : Value.okWide Try.prog W .any base 42 v) : ∃ (b4 : Int) (up : Bool) (A : Option Addr) (n c : Nat), v = .agg #[.int .i64 b4, .bool up, .slice A n c] := by
  obtain ⟨cs, rfl, hsz, hall⟩ := row_cells Try.underlying42 item_cells item_types h
  obtain ⟨x0, h0, k0⟩ := hall 0 _ rfl
  obtain ⟨x1, h1, k1⟩ := hall 1 _ rfl
  obtain ⟨x2, h2, k2⟩ := hall 2 _ rfl
  obtain ⟨b4, rfl, _⟩ := cell_int Try.underlying3 k0
  obtain ⟨up, rfl⟩ := cell_bool Try.underlying4 k1
  obtain ⟨A, n, c, rfl⟩ := cell_slice Try.underlying40 k2
  refine ⟨b4, up, A, n, c, ?_⟩
  congr 1
  apply Array.ext_getElem?
  intro i
  have hsz' : cs.size = 3 := hsz
  by_cases hi : i < 3
  · rcases (show i = 0 ∨ i = 1 ∨ i = 2 by omega) with rfl | rfl | rfl
    · exact h0
    · exact h1
    · exact h2
  · rw [Array.getElem?_eq_none (by omega), Array.getElem?_eq_none (by simp; omega)]
end Go.Proofs.Ytffbimebgledoaa
