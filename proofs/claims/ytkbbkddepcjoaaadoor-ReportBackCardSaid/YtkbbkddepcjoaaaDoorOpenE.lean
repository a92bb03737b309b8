/-
  report: arguments that are bindings, sessions, views.
-/
import Derived.Test.YtkbbkddepcjoaaaDoorOpenC
namespace Go.Proofs.YtkbbkddepcjoaaaDoor
open Go.ChangeShapes Go.WideShapes Go.ChangeAt Go.RowKit

set_option maxRecDepth 100000 in
theorem cell_bool {W : World} {base : Nat} {x : Value} (hok : Cell.okWide Tryd.prog W .any base 4 x) : ∃ b : Bool, x = .bool b := by
  have hw : Value.okWide Tryd.prog W .any base 4 x := by
    simp only [Value.okWide, Tryd.underlying4]
    exact hok
  exact okWide_bool Tryd.underlying4 hw
set_option maxRecDepth 100000 in
theorem cell_slice {W : World} {base : Nat} {t e : TypeId} {x : Value} (ht : Tryd.prog.underlying t = some (.slice e)) (hok : Cell.okWide Tryd.prog W .any base t x) : ∃ a len cap, x = .slice a len cap := by
  have hw : Value.okWide Tryd.prog W .any base t x := by
    simp only [Value.okWide, ht]
    exact hok
  exact okWide_slice ht hw
theorem bd_types : Tryd.prog.cellTypes Tryd.prog.depth 28 = some [3, 3, 3, 3, 3, 3, 3, 4] := by kernel_rfl
theorem bd_cells : Tryd.prog.cellsOf 28 = 8 := by kernel_rfl
theorem ss_types : Tryd.prog.cellTypes Tryd.prog.depth 64 = some [3, 3, 3, 3, 3] := by kernel_rfl
theorem ss_cells : Tryd.prog.cellsOf 64 = 5 := by kernel_rfl
theorem vw_types : Tryd.prog.cellTypes Tryd.prog.depth 56 = some [3, 53, 54, 3, 3, 3, 34] := by kernel_rfl
theorem vw_cells : Tryd.prog.cellsOf 56 = 7 := by kernel_rfl

set_option maxRecDepth 100000 in
theorem open_cells {W : World} {base m : Nat} {t : TypeId} {fs : Array Field} {ts : List TypeId} {x : Value} (hu : Tryd.prog.underlying t = some (.struct fs)) (hc : Tryd.prog.cellsOf t = m) (ht : Tryd.prog.cellTypes Tryd.prog.depth t = some ts) (h : Value.okWide Tryd.prog W .any base t x) :
    ∃ cs : Array Value, x = .agg cs ∧ cs.size = m ∧ ∀ (i : Nat) u, ts[i]? = some u → i < m → ∃ v, cs[i]? = some v ∧ Cell.okWide Tryd.prog W .any base u v := by
  simp only [Value.okWide, hu] at h
  obtain ⟨cs, rfl, hsz, ts', hts, _, hall⟩ := h
  rw [hc] at hsz
  rw [ht] at hts
  injection hts with hts
  subst hts
  refine ⟨cs, rfl, hsz, fun i u hi hm => ?_⟩
  have hi' : i < cs.size := by omega
  obtain ⟨u', hu', hok⟩ := hall i cs[i] (Array.getElem?_eq_getElem hi')
  rw [Nat.mod_eq_of_lt (List.getElem?_eq_some_iff.1 hi).1, hi] at hu'
  injection hu' with hu'
  subst hu'
  exact ⟨_, Array.getElem?_eq_getElem hi', hok⟩
theorem cells_lit {cs : Array Value} {L : List Value} (h : ∀ i, i < L.length → cs[i]? = L[i]?) (hs : cs.size = L.length) : cs = L.toArray := by
  apply Array.ext_getElem?
  intro i
  rcases Nat.lt_or_ge i L.length with hi | hi
  · rw [h i hi]; simp
  · rw [Array.getElem?_eq_none (by omega), Array.getElem?_eq_none (by simpa using hi)]

set_option maxRecDepth 100000 in
theorem open_bd {W : World} {base : Nat} {x : Value} (h : Value.okWide Tryd.prog W .any base 28 x) : ∃ (n p a y p2 a2 y2 : Int) (st : Bool), x = .agg #[.int .i64 n, .int .i64 p, .int .i64 a, .int .i64 y, .int .i64 p2, .int .i64 a2, .int .i64 y2, .bool st] ∧ IntKind.i64.has n ∧ IntKind.i64.has p ∧ IntKind.i64.has y ∧ IntKind.i64.has y2 := by
  obtain ⟨cs, rfl, hsz, hv⟩ := open_cells Tryd.underlying28 bd_cells bd_types h
  obtain ⟨v0, e0, k0⟩ := hv 0 _ rfl (by omega)
  obtain ⟨v1, e1, k1⟩ := hv 1 _ rfl (by omega)
  obtain ⟨v2, e2, k2⟩ := hv 2 _ rfl (by omega)
  obtain ⟨v3, e3, k3⟩ := hv 3 _ rfl (by omega)
  obtain ⟨v4, e4, k4⟩ := hv 4 _ rfl (by omega)
  obtain ⟨v5, e5, k5⟩ := hv 5 _ rfl (by omega)
  obtain ⟨v6, e6, k6⟩ := hv 6 _ rfl (by omega)
  obtain ⟨v7, e7, k7⟩ := hv 7 _ rfl (by omega)
  obtain ⟨n, rfl, g0⟩ := cell_int k0
  obtain ⟨p, rfl, g1⟩ := cell_int k1
  obtain ⟨a, rfl, _⟩ := cell_int k2
  obtain ⟨y, rfl, g3⟩ := cell_int k3
  obtain ⟨p2, rfl, _⟩ := cell_int k4
  obtain ⟨a2, rfl, _⟩ := cell_int k5
  obtain ⟨y2, rfl, g6⟩ := cell_int k6
  obtain ⟨st, rfl⟩ := cell_bool k7
  refine ⟨n, p, a, y, p2, a2, y2, st, ?_, g0, g1, g3, g6⟩
  congr 1
  refine cells_lit (L := [.int .i64 n, .int .i64 p, .int .i64 a, .int .i64 y, .int .i64 p2, .int .i64 a2, .int .i64 y2, .bool st]) (fun i hi => ?_) hsz
  rcases (show i = 0 ∨ i = 1 ∨ i = 2 ∨ i = 3 ∨ i = 4 ∨ i = 5 ∨ i = 6 ∨ i = 7 by simp at hi; omega) with rfl | rfl | rfl | rfl | rfl | rfl | rfl | rfl
  · exact e0
  · exact e1
  · exact e2
  · exact e3
  · exact e4
  · exact e5
  · exact e6
  · exact e7
set_option maxRecDepth 100000 in
theorem open_ss {W : World} {base : Nat} {x : Value} (h : Value.okWide Tryd.prog W .any base 64 x) : ∃ (b s u a p : Int), x = .agg #[.int .i64 b, .int .i64 s, .int .i64 u, .int .i64 a, .int .i64 p] ∧ IntKind.i64.has b ∧ IntKind.i64.has s ∧ IntKind.i64.has u ∧ IntKind.i64.has p := by
  obtain ⟨cs, rfl, hsz, hv⟩ := open_cells Tryd.underlying64 ss_cells ss_types h
  obtain ⟨v0, e0, k0⟩ := hv 0 _ rfl (by omega)
  obtain ⟨v1, e1, k1⟩ := hv 1 _ rfl (by omega)
  obtain ⟨v2, e2, k2⟩ := hv 2 _ rfl (by omega)
  obtain ⟨v3, e3, k3⟩ := hv 3 _ rfl (by omega)
  obtain ⟨v4, e4, k4⟩ := hv 4 _ rfl (by omega)
  obtain ⟨b, rfl, g0⟩ := cell_int k0
  obtain ⟨s, rfl, g1⟩ := cell_int k1
  obtain ⟨u, rfl, g2⟩ := cell_int k2
  obtain ⟨a, rfl, _⟩ := cell_int k3
  obtain ⟨p, rfl, g4⟩ := cell_int k4
  refine ⟨b, s, u, a, p, ?_, g0, g1, g2, g4⟩
  congr 1
  refine cells_lit (L := [.int .i64 b, .int .i64 s, .int .i64 u, .int .i64 a, .int .i64 p]) (fun i hi => ?_) hsz
  rcases (show i = 0 ∨ i = 1 ∨ i = 2 ∨ i = 3 ∨ i = 4 by simp at hi; omega) with rfl | rfl | rfl | rfl | rfl
  · exact e0
  · exact e1
  · exact e2
  · exact e3
  · exact e4
set_option maxRecDepth 100000 in
theorem open_vw {W : World} {base : Nat} {x : Value} (h : Value.okWide Tryd.prog W .any base 56 x) : ∃ (now : Int) (A1 : Option Addr) (n1 c1 : Nat) (A2 : Option Addr) (n2 c2 : Nat) (x3 x4 x5 : Int) (A3 : Option Addr) (n3 c3 : Nat), x = .agg #[.int .i64 now, .slice A1 n1 c1, .slice A2 n2 c2, .int .i64 x3, .int .i64 x4, .int .i64 x5, .slice A3 n3 c3] ∧ IntKind.i64.has now := by
  obtain ⟨cs, rfl, hsz, hv⟩ := open_cells Tryd.underlying56 vw_cells vw_types h
  obtain ⟨v0, e0, k0⟩ := hv 0 _ rfl (by omega)
  obtain ⟨v1, e1, k1⟩ := hv 1 _ rfl (by omega)
  obtain ⟨v2, e2, k2⟩ := hv 2 _ rfl (by omega)
  obtain ⟨v3, e3, k3⟩ := hv 3 _ rfl (by omega)
  obtain ⟨v4, e4, k4⟩ := hv 4 _ rfl (by omega)
  obtain ⟨v5, e5, k5⟩ := hv 5 _ rfl (by omega)
  obtain ⟨v6, e6, k6⟩ := hv 6 _ rfl (by omega)
  obtain ⟨now, rfl, g0⟩ := cell_int k0
  obtain ⟨A1, n1, c1, rfl⟩ := cell_slice Tryd.underlying53 k1
  obtain ⟨A2, n2, c2, rfl⟩ := cell_slice Tryd.underlying54 k2
  obtain ⟨x3, rfl, _⟩ := cell_int k3
  obtain ⟨x4, rfl, _⟩ := cell_int k4
  obtain ⟨x5, rfl, _⟩ := cell_int k5
  obtain ⟨A3, n3, c3, rfl⟩ := cell_slice Tryd.underlying34 k6
  refine ⟨now, A1, n1, c1, A2, n2, c2, x3, x4, x5, A3, n3, c3, ?_, g0⟩
  congr 1
  refine cells_lit (L := [.int .i64 now, .slice A1 n1 c1, .slice A2 n2 c2, .int .i64 x3, .int .i64 x4, .int .i64 x5, .slice A3 n3 c3]) (fun i hi => ?_) hsz
  rcases (show i = 0 ∨ i = 1 ∨ i = 2 ∨ i = 3 ∨ i = 4 ∨ i = 5 ∨ i = 6 by simp at hi; omega) with rfl | rfl | rfl | rfl | rfl | rfl | rfl
  · exact e0
  · exact e1
  · exact e2
  · exact e3
  · exact e4
  · exact e5
  · exact e6
end Go.Proofs.YtkbbkddepcjoaaaDoor
