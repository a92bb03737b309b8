/-
  name: awake, and NameTakes: the walks.
-/
import Derived.Test.YtfgcbpchapkjbaaNamJ
namespace Go.Proofs.Ytfgcbpchapkjbaa
open Go.RowKit

def abc : List UInt8 := [97, 46, 98, 99]
def abcP : List UInt8 := [1, 97, 2, 98, 99, 0]
theorem abc_fits : fits (labels abc) := by constructor <;> decide
theorem abc_pack : [] ++ packL (labels abc) ++ [0] = nums abcP := by decide
theorem abc_take : takeFrom abcP 0 [] = (abc, 6, 0) := by
  rw [take_next (m := 1) (by decide) (by decide) (by decide) (by decide) (by decide) (by decide), take_next (m := 2) (by decide) (by decide) (by decide) (by decide) (by decide) (by decide), take_zero (m := 0) (by decide) (by decide) (by decide)]
  rfl

set_option maxRecDepth 100000 in
set_option maxHeartbeats 2000000 in
theorem nameawake_any (w : World) : Calls Try.prog 9 #[] w fun r w' => r = .returned (.bool true) ∧ Below w.heap.size w w' := by
  go_enter Try.func9, Try.ntmps9
  go_wp2_with fail
  refine (nput_ok none 0 0 [] abc (by decide) abc_fits _ ⟨Reads.none_, fun _ => rfl⟩ (by omega)).mono ?_
  rintro r w1 ⟨A1, n1, c1, rfl, hb1, hc1, bel1⟩
  rw [abc_pack] at hb1
  obtain rfl : n1 = 6 := by have := hb1.len; simpa [nums, abcP] using this.symm
  have HB1 := Lib.hid hb1
  have BEL1 := Lib.hid bel1
  clear hb1 bel1
  go_wp2_with fail
  refine (ntake_any A1 6 c1 abcP _ HB1.out hc1 (by omega)).mono ?_
  rintro r w2 ⟨rfl, bel2⟩
  rw [abc_take]
  have HB2 := Lib.hid (HB1.out.below bel2)
  have BEL2 := Lib.hid (BEL1.out.trans (bel2.mono BEL1.out.size))
  have heq : (bs abc).toList = [97, 46, 98, 99] := by rw [ByteArray.toList_eq]; rfl
  clear bel2 HB1 BEL1
  unfold tkV
  go_wp2_with fail
  have bel3 : Below w2.heap.size w2 (w2.alloc (.cells #[.int .u8 1, .int .u8 97, .int .u8 2, .int .u8 98, .int .u8 99, .int .u8 0] 5)) := (Below.refl _ _).alloc (Nat.le_refl _) _
  have hk3 : BReads (w2.alloc (.cells #[.int .u8 1, .int .u8 97, .int .u8 2, .int .u8 98, .int .u8 99, .int .u8 0] 5)) (some ⟨w2.heap.size, 0, none⟩) 6 (nums abcP) :=
    ⟨Reads.of_blk (Blk.new w2 5 #[.int .u8 1, .int .u8 97, .int .u8 2, .int .u8 98, .int .u8 99, .int .u8 0]) (by simp [nums, abcP]) (by decide) (by simp), fun e => by cases e⟩
  refine (equal_same A1 (some ⟨w2.heap.size, 0, none⟩) 6 6 c1 6 (nums abcP) _ (HB2.out.below bel3) hk3).mono ?_
  rintro r w3 ⟨rfl, rfl⟩
  have BEL3 := Lib.hid (BEL2.out.trans (bel3.mono BEL2.out.size))
  clear hk3 bel3 HB2 BEL2
  go_wp2_with fail
  refine (nright_any [] (by decide) _).mono ?_
  rintro r w4 ⟨rfl, bel4⟩
  rw [show rgt [] = true from by decide]
  go_wp2
  go_ret
  exact ⟨rfl, BEL3.out.trans (bel4.mono BEL3.out.size)⟩

set_option maxHeartbeats 2000000 in
theorem ntakes_walk (A : Option Addr) (n c : Nat) (d : List UInt8) (w : World) (h : BReads w A n (nums d)) (hc : n ≤ c) (hn : n ≤ 9223372036854775807) :
    Calls Try.prog 3 #[.slice A n c] w fun r w' => r = .returned (.bool true) ∧ Below w.heap.size w w' := by
  by_cases hl : 2000 < n
  · clear h
    go_enter Try.func3, Try.ntmps3
    go_wp2_with (go_at_call 9; refine (nameawake_any _).mono ?_; rintro r w' ⟨rfl, hb⟩)
    go_ret
    exact ⟨rfl, hb⟩
  · have H := Lib.hid h
    clear h
    go_enter Try.func3, Try.ntmps3
    go_wp2_with fail
    refine (ntake_any A n c d _ H.out hc (by omega)).mono ?_
    rintro r w1 ⟨rfl, bel1⟩
    have H1 := Lib.hid (H.out.below bel1)
    have BEL1 := Lib.hid bel1
    clear bel1 H
    obtain ⟨⟨r1, r2, r3⟩, hr⟩ : ∃ r, takeFrom d 0 [] = r := ⟨_, rfl⟩
    rw [hr]
    unfold tkV
    go_wp2_with fail
    refine (rtake_any A n c d _ H1.out hc (by omega)).mono ?_
    rintro r w2 ⟨rfl, rfl⟩
    rw [hr]
    unfold tkV
    go_wp2_with fail
    refine (nameawake_any _).mono ?_
    rintro r w3 ⟨rfl, bel3⟩
    go_wp2
    go_ret
    exact ⟨rfl, BEL1.out.trans (bel3.mono BEL1.out.size)⟩
end Go.Proofs.Ytfgcbpchapkjbaa
