/-
  wrap: Fits, Check, Wrap, Unwrap of the program and of the document: the walks. (Printed by wip/gen/wrapA.py.)
-/
import Derived.Test.YtpjndplinplkjaaBytes
import Derived.Test.YtpjndplinplkjaaQuiet
import Derived.Test.YtpjndplinplkjaaBase
import Derived.Deep.MidRow
import Derived.Handy
namespace Go.Proofs.Ytpjndplinplkjaa
open Go.RowKit

/-- Whether a number has one byte. -/
def fit1 (n : Int) : Bool := decide (0 ≤ n) && decide (n < 256)

set_option maxHeartbeats 400000 in
theorem fits_any (n : Int) (w : World) (hn : n ≤ 9223372036854775807) : Calls Try.prog 20 #[.int .i64 n, .int .i64 1] w fun r w' => r = .returned (.bool (fit1 n)) ∧ w = w' := by
  by_cases h0 : 0 ≤ n
  · by_cases h1 : n < 256
    · rw [show fit1 n = true by simp [fit1, h0, h1]]
      have e : (n / 256 == 0) = true := by simp; omega
      go_enter Try.func20, Try.ntmps20
      go_wp2
      go_ret
      exact ⟨rfl, rfl⟩
    · rw [show fit1 n = false by simp [fit1]; omega]
      have e : (n / 256 == 0) = false := by simp; omega
      go_enter Try.func20, Try.ntmps20
      go_wp2
      go_ret
      exact ⟨rfl, rfl⟩
  · rw [show fit1 n = false by simp [fit1]; omega]
    go_enter Try.func20, Try.ntmps20
    go_wp2
    go_ret
    exact ⟨rfl, rfl⟩

set_option maxHeartbeats 400000 in
theorem pow1_any (w : World) : Calls Try.prog 23 #[.int .i64 1] w fun r w' => r = .returned (.int .i64 256) ∧ w = w' := by
  go_enter Try.func23, Try.ntmps23
  go_wp2
  go_rounds 3
  go_ret
  exact ⟨rfl, rfl⟩

set_option maxHeartbeats 400000 in
theorem rfits_any (n : Int) (w : World) : Calls Try.prog 21 #[.int .i64 n, .int .i64 1] w fun r w' => r = .returned (.bool (fit1 n)) ∧ w = w' := by
  by_cases h0 : 0 ≤ n
  · by_cases h1 : n < 256
    · rw [show fit1 n = true by simp [fit1, h0, h1]]
      go_enter Try.func21, Try.ntmps21
      go_wp2_with (go_at_call 23; refine (pow1_any _).mono ?_; rintro r w' ⟨rfl, rfl⟩)
      go_ret
      exact ⟨rfl, rfl⟩
    · rw [show fit1 n = false by simp [fit1]; omega]
      go_enter Try.func21, Try.ntmps21
      go_wp2_with (go_at_call 23; refine (pow1_any _).mono ?_; rintro r w' ⟨rfl, rfl⟩)
      go_ret
      refine ⟨?_, rfl⟩
      show Ending.returned (Value.bool (decide (n < 256))) = _
      rw [decide_eq_false (show ¬ n < 256 by omega)]
  · rw [show fit1 n = false by simp [fit1]; omega]
    go_enter Try.func21, Try.ntmps21
    go_wp2_with (go_at_call 23; refine (pow1_any _).mono ?_; rintro r w' ⟨rfl, rfl⟩)
    go_ret
    exact ⟨rfl, rfl⟩

/-- A packet of IPv6 that wraps: its cells. -/
abbrev wrapped (h : Int) (s d : Nat → Int) (x : Value) : Array Value := #[.int .i64 0, .int .i64 0, .int .i64 4, .int .i64 h, .int .u8 (s 0), .int .u8 (s 1), .int .u8 (s 2), .int .u8 (s 3), .int .u8 (s 4), .int .u8 (s 5), .int .u8 (s 6), .int .u8 (s 7), .int .u8 (s 8), .int .u8 (s 9), .int .u8 (s 10), .int .u8 (s 11), .int .u8 (s 12), .int .u8 (s 13), .int .u8 (s 14), .int .u8 (s 15), .int .u8 (d 0), .int .u8 (d 1), .int .u8 (d 2), .int .u8 (d 3), .int .u8 (d 4), .int .u8 (d 5), .int .u8 (d 6), .int .u8 (d 7), .int .u8 (d 8), .int .u8 (d 9), .int .u8 (d 10), .int .u8 (d 11), .int .u8 (d 12), .int .u8 (d 13), .int .u8 (d 14), .int .u8 (d 15), x]
abbrev none6 : Array Value := #[.int .i64 0, .int .i64 0, .int .i64 0, .int .i64 0, .int .u8 0, .int .u8 0, .int .u8 0, .int .u8 0, .int .u8 0, .int .u8 0, .int .u8 0, .int .u8 0, .int .u8 0, .int .u8 0, .int .u8 0, .int .u8 0, .int .u8 0, .int .u8 0, .int .u8 0, .int .u8 0, .int .u8 0, .int .u8 0, .int .u8 0, .int .u8 0, .int .u8 0, .int .u8 0, .int .u8 0, .int .u8 0, .int .u8 0, .int .u8 0, .int .u8 0, .int .u8 0, .int .u8 0, .int .u8 0, .int .u8 0, .int .u8 0, .slice none 0 0]
/-- 0 where the hop fits, else 1. -/
def chk (h : Int) : Int := if fit1 h then 0 else 1

set_option maxRecDepth 100000 in
set_option maxHeartbeats 1000000 in
theorem check_any (h : Int) (s d : Nat → Int) (A : Option Addr) (n c : Nat) (w : World) (hn : n ≤ 3000) (hh : h ≤ 9223372036854775807) :
    Calls Try.prog 18 #[.agg (wrapped h s d (.slice A n c))] w fun r w' => r = .returned (.int .i64 (chk h)) ∧ Below w.heap.size w w' := by
  have f0 := fun w => fits_any 0 w (by omega)
  have f4 := fun w => fits_any 4 w (by omega)
  have fh := fun w => fits_any h w hh
  rw [show fit1 0 = true from rfl] at f0
  rw [show fit1 4 = true from rfl] at f4
  cases hf : fit1 h
  all_goals
    rw [hf] at fh
    have e := Lib.hid hf
    have F0 := Lib.hid f0
    have F4 := Lib.hid f4
    have FH := Lib.hid fh
    clear f0 f4 fh hf
    go_enter Try.func18, Try.ntmps18
    go_wp2_with fail
    refine (F0.out _).mono ?_
    rintro r w' ⟨rfl, rfl⟩
    go_wp2_with fail
    refine (F4.out _).mono ?_
    rintro r w' ⟨rfl, rfl⟩
    go_wp2_with fail
    refine (FH.out _).mono ?_
    rintro r w' ⟨rfl, rfl⟩
    go_wp2
    go_ret
    exact ⟨by unfold chk; rw [e.out]; rfl, (Below.refl _ _).alloc (Nat.le_refl _) _⟩
end Go.Proofs.Ytpjndplinplkjaa
