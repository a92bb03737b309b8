/-
  wrap: Check of the document, the two Rooms, Same of packets of IPv6: the walks. (Printed by wip/gen/wrapB.py.)
-/
import Derived.Test.YtpjndplinplkjaaWrapA
import Derived.Test.YtpjndplinplkjaaEq
namespace Go.Proofs.Ytpjndplinplkjaa
open Go.RowKit

/-- A packet of IPv6: its cells. -/
abbrev six6 (t f n h : Int) (s d : Nat → Int) (x : Value) : Array Value := #[.int .i64 t, .int .i64 f, .int .i64 n, .int .i64 h, .int .u8 (s 0), .int .u8 (s 1), .int .u8 (s 2), .int .u8 (s 3), .int .u8 (s 4), .int .u8 (s 5), .int .u8 (s 6), .int .u8 (s 7), .int .u8 (s 8), .int .u8 (s 9), .int .u8 (s 10), .int .u8 (s 11), .int .u8 (s 12), .int .u8 (s 13), .int .u8 (s 14), .int .u8 (s 15), .int .u8 (d 0), .int .u8 (d 1), .int .u8 (d 2), .int .u8 (d 3), .int .u8 (d 4), .int .u8 (d 5), .int .u8 (d 6), .int .u8 (d 7), .int .u8 (d 8), .int .u8 (d 9), .int .u8 (d 10), .int .u8 (d 11), .int .u8 (d 12), .int .u8 (d 13), .int .u8 (d 14), .int .u8 (d 15), x]

set_option maxRecDepth 100000 in
set_option maxHeartbeats 1000000 in
theorem rcheck_any (h : Int) (s d : Nat → Int) (A : Option Addr) (n c : Nat) (w : World) (hn : n ≤ 3000) :
    Calls Try.prog 19 #[.agg (wrapped h s d (.slice A n c))] w fun r w' => r = .returned (.int .i64 (chk h)) ∧ Below w.heap.size w w' := by
  have f0 := fun w => rfits_any 0 w
  have f4 := fun w => rfits_any 4 w
  have fh := fun w => rfits_any h w
  rw [show fit1 0 = true from rfl] at f0
  rw [show fit1 4 = true from rfl] at f4
  cases hf : fit1 h
  all_goals
    rw [hf] at fh
    have e := Lib.hid hf
    have F0 := Lib.hid f0
    have F4 := Lib.hid f4
    have FH := Lib.hid fh
    clear f0 f4 fh hf
    go_enter Try.func19, Try.ntmps19
    go_wp2_with fail
    refine (F0.out _).mono ?_
    rintro r w' ⟨rfl, rfl⟩
    go_wp2_with fail
    refine (F4.out _).mono ?_
    rintro r w' ⟨rfl, rfl⟩
    go_wp2_with fail
    refine (FH.out _).mono ?_
    rintro r w' ⟨rfl, rfl⟩
    go_wp2
    go_ret
    exact ⟨by unfold chk; rw [e.out]; rfl, (Below.refl _ _).alloc (Nat.le_refl _) _⟩

/-- How many bytes go within. -/
def roomOf (n : Int) : Int := if n ≤ 40 then 0 else n - 40

set_option maxHeartbeats 400000 in
theorem room_any (n : Int) (w : World) (h1 : -9223372036854775808 ≤ n) (h2 : n ≤ 9223372036854775807) : Calls Try.prog 15 #[.int .i64 n] w fun r w' => r = .returned (.int .i64 (roomOf n)) ∧ w = w' := by
  by_cases h : n ≤ 40
  · rw [show roomOf n = 0 from if_pos h]
    go_enter Try.func15, Try.ntmps15
    go_wp2
    go_ret
    exact ⟨rfl, rfl⟩
  · rw [show roomOf n = n - 40 from if_neg h]
    go_enter Try.func15, Try.ntmps15
    go_wp2
    go_ret
    exact ⟨rfl, rfl⟩

set_option maxHeartbeats 400000 in
theorem rroom_any (n : Int) (w : World) (h1 : -9223372036854775808 ≤ n) (h2 : n ≤ 9223372036854775807) : Calls Try.prog 16 #[.int .i64 n] w fun r w' => r = .returned (.int .i64 (roomOf n)) ∧ w = w' := by
  obtain ⟨v, hv⟩ : ∃ v, (if n < 0 then 0 else n) = v := ⟨_, rfl⟩
  have a1 : 0 ≤ v := by rw [← hv]; split <;> omega
  have a2 : v ≤ 9223372036854775807 := by rw [← hv]; split <;> omega
  obtain ⟨u, hu⟩ : ∃ u, (if v - 40 < 0 then 0 else v - 40) = u := ⟨_, rfl⟩
  have e : roomOf n = u := by
    rw [← hu, ← hv]
    unfold roomOf
    repeat' split
    all_goals omega
  rw [e]
  clear e
  go_enter Try.func16, Try.ntmps16
  go_wp2
  go_ret
  exact ⟨rfl, rfl⟩

set_option maxRecDepth 100000 in
set_option maxHeartbeats 4000000 in
theorem same6_any (t f n h : Int) (s d : Nat → Int) (A B : Option Addr) (m m' c c' : Nat) (xs : List Int) (w : World) (h1 : BReads w A m xs) (h2 : BReads w B m' xs) :
    Calls Try.prog 12 #[.agg (six6 t f n h s d (.slice A m c)), .agg (six6 t f n h s d (.slice B m' c'))] w fun r w' => r = .returned (.bool true) ∧ Below w.heap.size w w' := by
  have bel : Below w.heap.size w ((w.alloc (.cells (six6 t f n h s d (.slice A m c)) 26)).alloc (.cells (six6 t f n h s d (.slice B m' c')) 26)) := ((Below.refl _ _).alloc (Nat.le_refl _) _).alloc (by simp) _
  have k1 := run_convert_reads (c := c) Try.underlying24 Try.underlying5 Try.underlying9 (h1.below bel)
  have k2 := run_convert_reads (c := c') Try.underlying24 Try.underlying5 Try.underlying9 (h2.below bel)
  have q1 := fun w => eq16 s w
  have q2 := fun w => eq16 d w
  clear h1 h2
  go_enter Try.func12, Try.ntmps12
  go_wp2
  go_ret
  exact ⟨rfl, bel⟩
end Go.Proofs.Ytpjndplinplkjaa
