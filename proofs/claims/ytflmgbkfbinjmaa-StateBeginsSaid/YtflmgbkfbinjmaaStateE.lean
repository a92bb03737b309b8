/-
  awake, and the three laws of layer 23: the walks.
-/
import Derived.Test.YtflmgbkfbinjmaaStateD
namespace Go.Proofs.Ytflmgbkfbinjmaa
open Go.RowKit

theorem two_row (w : World) (x y : Int) (hx : (Lit.int .i64 x).wf = true) (hy : (Lit.int .i64 y).wf = true) (t : TypeId) :
    IntRow .i64 (w.alloc (.cells #[.int .i64 x, .int .i64 y] t)) (some ⟨w.heap.size, 0, none⟩) 2 [x, y] := by
  refine ⟨by omega, rfl, fun i hi => ?_⟩
  have hb : Blk (w.alloc (.cells #[.int .i64 x, .int .i64 y] t)) w.heap.size t #[.int .i64 x, .int .i64 y] := Blk.new _ _ _
  have hi' : i = 0 ∨ i = 1 := by omega
  rcases hi' with rfl | rfl
  · exact ⟨w.heap.size, 0, rfl, hb.lt, hb.cell 0, hx⟩
  · exact ⟨w.heap.size, 0, rfl, hb.lt, hb.cell 1, hy⟩

set_option maxHeartbeats 1000000 in
theorem awake_any (w : World) : Calls Try.prog 9 #[] w fun r w' => r = .returned (.bool true) ∧ Below w.heap.size w w' := by
  have ht := fun t => two_row w 2 18 (by decide) (by decide) t
  have HT := Lib.hid ht
  clear ht
  have he : thr 0 true [2, 18] = (3, true) := by decide
  go_enter Try.func9, Try.ntmps9
  go_wp2_with fail
  refine (through_any 0 _ 2 2 [2, 18] _ (HT.out _)).mono ?_
  rintro r w2 ⟨rfl, hb⟩
  rw [he]
  go_wp2
  go_ret
  exact ⟨rfl, ((Below.refl _ _).alloc (Nat.le_refl _) _).trans (hb.mono (by simp))⟩

set_option maxHeartbeats 1000000 in
theorem tells_walk (n : Int) (out : Bool) (flags : Int) (w : World) : Calls Try.prog 3 #[.int .i64 n, .bool out, .int .i64 flags] w fun r w' => r = .returned (.bool true) ∧ Below w.heap.size w w' := by
  have h1 := next_any n out flags
  have h2 := rnext_any n out flags
  generalize nx n out (low3 flags) = p at *
  obtain ⟨p1, p2⟩ := p
  have H1 := Lib.hid h1
  have H2 := Lib.hid h2
  clear h1 h2
  go_enter Try.func3, Try.ntmps3
  go_wp2_with fail
  refine (H1.out _).mono ?_
  rintro r w2 ⟨rfl, hb2⟩
  go_wp2_with fail
  refine (H2.out _).mono ?_
  rintro r w3 ⟨rfl, rfl⟩
  go_wp2_with fail
  refine (open_any n _).mono ?_
  rintro r w3 ⟨rfl, rfl⟩
  go_wp2_with fail
  refine (awake_any _).mono ?_
  rintro r w4 ⟨rfl, hb4⟩
  go_wp2
  go_ret
  exact ⟨rfl, hb2.trans (hb4.mono hb2.size)⟩

set_option maxHeartbeats 1000000 in
theorem through_walk (n : Int) (a : Option Addr) (len cap : Nat) (zs : List Int) (w : World) (hr : IntRow .i64 w a len zs) :
    Calls Try.prog 4 #[.int .i64 n, .slice a len cap] w fun r w' => r = .returned (.bool true) ∧ Below w.heap.size w w' := by
  have hl0 := hr.1
  have h1 := through_any n a len cap zs w hr
  have h2 := fun w2 (hb : Below w.heap.size w w2) => rthrough_any n a len cap zs w2 ⟨hr.1, hr.2.1, fun i hi => by
    obtain ⟨b, off, e1, e2, e3, e4⟩ := hr.2.2 i hi
    exact ⟨b, off, e1, by have := hb.size; omega, (hb.cell (p := ⟨b, off + i, none⟩) e2).trans e3, e4⟩⟩
  generalize thr n true zs = p at *
  obtain ⟨p1, p2⟩ := p
  have H1 := Lib.hid h1
  have H2 := Lib.hid h2
  clear h1 h2
  by_cases hl : 300 < len
  · go_enter Try.func4, Try.ntmps4
    go_wp2_with fail
    refine (awake_any _).mono ?_
    rintro r w4 ⟨rfl, hb4⟩
    go_wp2
    go_ret
    exact ⟨rfl, hb4⟩
  · go_enter Try.func4, Try.ntmps4
    go_wp2_with fail
    refine H1.out.mono ?_
    rintro r w2 ⟨rfl, hb2⟩
    go_wp2_with fail
    refine (H2.out _ hb2).mono ?_
    rintro r w3 ⟨rfl, hb3⟩
    go_wp2_with fail
    refine (awake_any _).mono ?_
    rintro r w4 ⟨rfl, hb4⟩
    go_wp2
    go_ret
    exact ⟨rfl, (hb2.trans (hb3.mono hb2.size)).trans (hb4.mono (Nat.le_trans hb2.size hb3.size))⟩
end Go.Proofs.Ytflmgbkfbinjmaa
