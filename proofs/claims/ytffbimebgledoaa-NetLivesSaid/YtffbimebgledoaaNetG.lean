/-
  net: the law's awake: the walk.
-/
import Derived.Test.YtffbimebgledoaaNetF
import Derived.Lib.SlBytesConst
namespace Go.Proofs.Ytffbimebgledoaa
open Go.RowKit

theorem breads_1 (w : World) (t : TypeId) (x : Int) : BReads (w.alloc (.cells #[.int .u8 x] t)) (some ⟨w.heap.size, 0, none⟩) 1 [x] :=
  ⟨Reads.of_blk (Blk.new w t _) rfl rfl (by simp), fun e => by cases e⟩

theorem breads_m (w : World) (x : Int) : BReads (w.alloc (.cells #[.int .u8 x] 5 (1, 2))) (some ⟨w.heap.size, 0, none⟩) 1 [x] := by
  refine ⟨⟨rfl, fun _ => ⟨_, rfl, by simp, fun j u hu => ?_⟩⟩, fun e => by cases e⟩
  have hj : j < 1 := (List.getElem?_eq_some_iff.1 hu).1
  obtain rfl : j = 0 := by omega
  have : (w.alloc (.cells #[.int .u8 x] 5 (1, 2))).heap[w.heap.size]? = some (.cells #[.int .u8 x] 5 (1, 2)) := heap_alloc_new w _
  rw [Addr.add_lit]
  exact (cell_of_row _ w.heap.size 0 _ _ _ this).trans hu

set_option maxHeartbeats 4000000 in
set_option maxRecDepth 1000000 in
theorem nawake_any (w : World) : Calls Try.prog 19 #[] w fun r w' => r = .returned (.bool true) ∧ Below w.heap.size w w' := by
  have kc := fun (w : World) (C : Array Value) (n c : Nat) => Lib.run_convert_bytes_const (P := Try.prog) w 40 5 C n c Try.underlying40 Try.underlying5
  go_enter Try.func19, Try.ntmps19
  go_wp2_with fail
  refine (new_ok 3 w (by decide) (by decide)).mono ?_
  rintro r w1 ⟨g, rfl, hn, b1⟩
  have HN := Lib.hid hn
  have B1 := Lib.hid b1
  clear hn b1
  go_wp2_with fail
  refine (put_ok w.heap.size g 3 [] 1 false _ 1 1 [97] _ (HN.out.below ((Below.refl _ _).alloc (Nat.le_refl _) _)) (breads_m w1 97) (by decide) (by decide) (by decide) (by simp) (by simp)).mono ?_
  rintro r w2 ⟨A2, c2, rfl, hn2, t2, h2⟩
  have HN2 := Lib.hid hn2
  have C2 := Lib.hid (show Chg w.heap.size 55 42 w w2 from ((Chg.of_below B1.out (Nat.le_refl _)).trans (Chg.of_below ((Below.refl _ _).alloc (Nat.le_refl _) _) B1.out.size)).trans h2)
  clear hn2 t2 h2 HN
  go_wp2_with fail
  refine (put_ok w.heap.size g 3 _ 2 true _ 1 1 [98] _ (HN2.out.below ((Below.refl _ _).alloc (Nat.le_refl _) _)) (breads_m w2 98) (by decide) (by decide) (by decide) (by simp) (by simp)).mono ?_
  rintro r w3 ⟨A3, c3, rfl, hn3, t3, h3⟩
  have HN3 := Lib.hid hn3
  have T3 := Lib.hid t3
  have C3 := Lib.hid (show Chg w.heap.size 55 42 w w3 from (C2.out.trans (Chg.of_below ((Below.refl _ _).alloc (Nat.le_refl _) _) C2.out.bel.size)).trans h3)
  clear hn3 t3 h3 HN2 C2
  go_wp2_with fail
  refine (take_any w3 w.heap.size g 3 _ 3 1 ⟨2, true, A3, 1, c3⟩ HN3.out (by simp) rfl (by simp)).mono ?_
  rintro r w4 ⟨rfl, hn4, h4⟩
  have HN4 := Lib.hid hn4
  have C4 := Lib.hid (C3.out.trans h4)
  have T4 := Lib.hid (T3.out.chg h4 (by decide) (by decide))
  clear hn4 h4 HN3 T3 C3
  have k1 := run_convert_reads (c := c3) Try.underlying40 Try.underlying5 Try.underlying9 (T4.out.1.below ((Below.refl _ _).alloc (Nat.le_refl _) (.cells #[.int .i64 2, .bool true, .slice A3 1 c3] 42)))
  have e1 : strOfNums [98] = ⟨#[98]⟩ := by kernel_rfl
  rw [e1] at k1
  go_wp2_with fail
  refine (len_any _ w.heap.size g 3 _ (HN4.out.below ((Below.refl _ _).alloc (Nat.le_refl _) _))).mono ?_
  rintro r w5 ⟨rfl, rfl⟩
  go_wp2
  go_ret
  exact ⟨rfl, C4.out.bel.alloc C4.out.bel.size _⟩
end Go.Proofs.Ytffbimebgledoaa
