/-
  four: what kind of address a number is.
-/
import Derived.Test.YtngdomefipcemaaDoorFourC
import Derived.Deep.QuietTactic
import Derived.BigQuiet
namespace Go.Proofs.YtngdomefipcemaaDoor
open Go.RowKit

def in_h0 (a : Int) : Bool := right a && (a / 16777216 == 0)
set_option maxRecDepth 100000 in
set_option maxHeartbeats 2000000 in
theorem has_h0 (a : Int) (w : World) : Calls Tryd.prog 48 #[.agg #[.int .i64 0, .int .i64 8], .int .i64 a] w fun r w' => r = .returned (.bool (in_h0 a)) ∧ Below w.heap.size w w' := by
  have k0 := Blk.new w 47 #[.int .i64 0, .int .i64 8]
  have c0 : (w.alloc (.cells #[.int .i64 0, .int .i64 8] 47)).cell? ⟨w.heap.size, 0, none⟩ = some (.int .i64 0) := k0.cell 0
  have c1 : (w.alloc (.cells #[.int .i64 0, .int .i64 8] 47)).cell? ⟨w.heap.size, 1, none⟩ = some (.int .i64 8) := k0.cell 1
  have hb : Below w.heap.size w (w.alloc (.cells #[.int .i64 0, .int .i64 8] 47)) := (Below.refl _ _).alloc (Nat.le_refl _) _
  cases hr : right a with
  | false =>
    have hv : in_h0 a = false := by unfold in_h0; rw [hr]; rfl
    rw [hv]
    have BEL := Lib.hid hb
    clear hv k0 hb
    go_enter Tryd.func48, Tryd.ntmps48
    go_wp2_with fail
    generalize w.alloc (.cells #[.int .i64 0, .int .i64 8] 47) = W0 at *
    go_quiet ((go_at_call 9; refine Calls.quiet_of_same ((fright_any a _).mono fun e w' h => ⟨by rw [h.1, hr], h.2.symm⟩)))
    go_wp2
    go_ret
    exact ⟨rfl, below_drewN BEL.out _⟩
  | true =>
    obtain ⟨h0, h1⟩ := right_spec hr
    have hv : in_h0 a = (a / 16777216 == 0) := by unfold in_h0; rw [hr]; rfl
    rw [hv]
    have BEL := Lib.hid hb
    clear hv k0 hb
    go_enter Tryd.func48, Tryd.ntmps48
    go_wp2_with fail
    generalize w.alloc (.cells #[.int .i64 0, .int .i64 8] 47) = W0 at *
    go_quiet ((go_at_call 9; refine Calls.quiet_of_same ((fright_any a _).mono fun e w' h => ⟨by rw [h.1, hr], h.2.symm⟩)))
    go_wp2
    go_ret
    exact ⟨rfl, below_drewN BEL.out _⟩

def in_h1 (a : Int) : Bool := right a && (a / 16777216 == 127)
set_option maxRecDepth 100000 in
set_option maxHeartbeats 2000000 in
theorem has_h1 (a : Int) (w : World) : Calls Tryd.prog 48 #[.agg #[.int .i64 2130706432, .int .i64 8], .int .i64 a] w fun r w' => r = .returned (.bool (in_h1 a)) ∧ Below w.heap.size w w' := by
  have k0 := Blk.new w 47 #[.int .i64 2130706432, .int .i64 8]
  have c0 : (w.alloc (.cells #[.int .i64 2130706432, .int .i64 8] 47)).cell? ⟨w.heap.size, 0, none⟩ = some (.int .i64 2130706432) := k0.cell 0
  have c1 : (w.alloc (.cells #[.int .i64 2130706432, .int .i64 8] 47)).cell? ⟨w.heap.size, 1, none⟩ = some (.int .i64 8) := k0.cell 1
  have hb : Below w.heap.size w (w.alloc (.cells #[.int .i64 2130706432, .int .i64 8] 47)) := (Below.refl _ _).alloc (Nat.le_refl _) _
  cases hr : right a with
  | false =>
    have hv : in_h1 a = false := by unfold in_h1; rw [hr]; rfl
    rw [hv]
    have BEL := Lib.hid hb
    clear hv k0 hb
    go_enter Tryd.func48, Tryd.ntmps48
    go_wp2_with fail
    generalize w.alloc (.cells #[.int .i64 2130706432, .int .i64 8] 47) = W0 at *
    go_quiet ((go_at_call 9; refine Calls.quiet_of_same ((fright_any a _).mono fun e w' h => ⟨by rw [h.1, hr], h.2.symm⟩)))
    go_wp2
    go_ret
    exact ⟨rfl, below_drewN BEL.out _⟩
  | true =>
    obtain ⟨h0, h1⟩ := right_spec hr
    have hv : in_h1 a = (a / 16777216 == 127) := by unfold in_h1; rw [hr]; rfl
    rw [hv]
    have BEL := Lib.hid hb
    clear hv k0 hb
    go_enter Tryd.func48, Tryd.ntmps48
    go_wp2_with fail
    generalize w.alloc (.cells #[.int .i64 2130706432, .int .i64 8] 47) = W0 at *
    go_quiet ((go_at_call 9; refine Calls.quiet_of_same ((fright_any a _).mono fun e w' h => ⟨by rw [h.1, hr], h.2.symm⟩)))
    go_wp2
    go_ret
    exact ⟨rfl, below_drewN BEL.out _⟩

def in_h2 (a : Int) : Bool := right a && (a / 536870912 == 7)
set_option maxRecDepth 100000 in
set_option maxHeartbeats 2000000 in
theorem has_h2 (a : Int) (w : World) : Calls Tryd.prog 48 #[.agg #[.int .i64 3758096384, .int .i64 3], .int .i64 a] w fun r w' => r = .returned (.bool (in_h2 a)) ∧ Below w.heap.size w w' := by
  have k0 := Blk.new w 47 #[.int .i64 3758096384, .int .i64 3]
  have c0 : (w.alloc (.cells #[.int .i64 3758096384, .int .i64 3] 47)).cell? ⟨w.heap.size, 0, none⟩ = some (.int .i64 3758096384) := k0.cell 0
  have c1 : (w.alloc (.cells #[.int .i64 3758096384, .int .i64 3] 47)).cell? ⟨w.heap.size, 1, none⟩ = some (.int .i64 3) := k0.cell 1
  have hb : Below w.heap.size w (w.alloc (.cells #[.int .i64 3758096384, .int .i64 3] 47)) := (Below.refl _ _).alloc (Nat.le_refl _) _
  cases hr : right a with
  | false =>
    have hv : in_h2 a = false := by unfold in_h2; rw [hr]; rfl
    rw [hv]
    have BEL := Lib.hid hb
    clear hv k0 hb
    go_enter Tryd.func48, Tryd.ntmps48
    go_wp2_with fail
    generalize w.alloc (.cells #[.int .i64 3758096384, .int .i64 3] 47) = W0 at *
    go_quiet ((go_at_call 9; refine Calls.quiet_of_same ((fright_any a _).mono fun e w' h => ⟨by rw [h.1, hr], h.2.symm⟩)))
    go_wp2
    go_ret
    exact ⟨rfl, below_drewN BEL.out _⟩
  | true =>
    obtain ⟨h0, h1⟩ := right_spec hr
    have hv : in_h2 a = (a / 536870912 == 7) := by unfold in_h2; rw [hr]; rfl
    rw [hv]
    have BEL := Lib.hid hb
    clear hv k0 hb
    go_enter Tryd.func48, Tryd.ntmps48
    go_wp2_with fail
    generalize w.alloc (.cells #[.int .i64 3758096384, .int .i64 3] 47) = W0 at *
    go_quiet ((go_at_call 9; refine Calls.quiet_of_same ((fright_any a _).mono fun e w' h => ⟨by rw [h.1, hr], h.2.symm⟩)))
    go_wp2
    go_ret
    exact ⟨rfl, below_drewN BEL.out _⟩

def in_p0 (a : Int) : Bool := right a && (a / 16777216 == 10)
set_option maxRecDepth 100000 in
set_option maxHeartbeats 2000000 in
theorem has_p0 (a : Int) (w : World) : Calls Tryd.prog 48 #[.agg #[.int .i64 167772160, .int .i64 8], .int .i64 a] w fun r w' => r = .returned (.bool (in_p0 a)) ∧ Below w.heap.size w w' := by
  have k0 := Blk.new w 47 #[.int .i64 167772160, .int .i64 8]
  have c0 : (w.alloc (.cells #[.int .i64 167772160, .int .i64 8] 47)).cell? ⟨w.heap.size, 0, none⟩ = some (.int .i64 167772160) := k0.cell 0
  have c1 : (w.alloc (.cells #[.int .i64 167772160, .int .i64 8] 47)).cell? ⟨w.heap.size, 1, none⟩ = some (.int .i64 8) := k0.cell 1
  have hb : Below w.heap.size w (w.alloc (.cells #[.int .i64 167772160, .int .i64 8] 47)) := (Below.refl _ _).alloc (Nat.le_refl _) _
  cases hr : right a with
  | false =>
    have hv : in_p0 a = false := by unfold in_p0; rw [hr]; rfl
    rw [hv]
    have BEL := Lib.hid hb
    clear hv k0 hb
    go_enter Tryd.func48, Tryd.ntmps48
    go_wp2_with fail
    generalize w.alloc (.cells #[.int .i64 167772160, .int .i64 8] 47) = W0 at *
    go_quiet ((go_at_call 9; refine Calls.quiet_of_same ((fright_any a _).mono fun e w' h => ⟨by rw [h.1, hr], h.2.symm⟩)))
    go_wp2
    go_ret
    exact ⟨rfl, below_drewN BEL.out _⟩
  | true =>
    obtain ⟨h0, h1⟩ := right_spec hr
    have hv : in_p0 a = (a / 16777216 == 10) := by unfold in_p0; rw [hr]; rfl
    rw [hv]
    have BEL := Lib.hid hb
    clear hv k0 hb
    go_enter Tryd.func48, Tryd.ntmps48
    go_wp2_with fail
    generalize w.alloc (.cells #[.int .i64 167772160, .int .i64 8] 47) = W0 at *
    go_quiet ((go_at_call 9; refine Calls.quiet_of_same ((fright_any a _).mono fun e w' h => ⟨by rw [h.1, hr], h.2.symm⟩)))
    go_wp2
    go_ret
    exact ⟨rfl, below_drewN BEL.out _⟩

def in_p1 (a : Int) : Bool := right a && (a / 1048576 == 2753)
set_option maxRecDepth 100000 in
set_option maxHeartbeats 2000000 in
theorem has_p1 (a : Int) (w : World) : Calls Tryd.prog 48 #[.agg #[.int .i64 2886729728, .int .i64 12], .int .i64 a] w fun r w' => r = .returned (.bool (in_p1 a)) ∧ Below w.heap.size w w' := by
  have k0 := Blk.new w 47 #[.int .i64 2886729728, .int .i64 12]
  have c0 : (w.alloc (.cells #[.int .i64 2886729728, .int .i64 12] 47)).cell? ⟨w.heap.size, 0, none⟩ = some (.int .i64 2886729728) := k0.cell 0
  have c1 : (w.alloc (.cells #[.int .i64 2886729728, .int .i64 12] 47)).cell? ⟨w.heap.size, 1, none⟩ = some (.int .i64 12) := k0.cell 1
  have hb : Below w.heap.size w (w.alloc (.cells #[.int .i64 2886729728, .int .i64 12] 47)) := (Below.refl _ _).alloc (Nat.le_refl _) _
  cases hr : right a with
  | false =>
    have hv : in_p1 a = false := by unfold in_p1; rw [hr]; rfl
    rw [hv]
    have BEL := Lib.hid hb
    clear hv k0 hb
    go_enter Tryd.func48, Tryd.ntmps48
    go_wp2_with fail
    generalize w.alloc (.cells #[.int .i64 2886729728, .int .i64 12] 47) = W0 at *
    go_quiet ((go_at_call 9; refine Calls.quiet_of_same ((fright_any a _).mono fun e w' h => ⟨by rw [h.1, hr], h.2.symm⟩)))
    go_wp2
    go_ret
    exact ⟨rfl, below_drewN BEL.out _⟩
  | true =>
    obtain ⟨h0, h1⟩ := right_spec hr
    have hv : in_p1 a = (a / 1048576 == 2753) := by unfold in_p1; rw [hr]; rfl
    rw [hv]
    have BEL := Lib.hid hb
    clear hv k0 hb
    go_enter Tryd.func48, Tryd.ntmps48
    go_wp2_with fail
    generalize w.alloc (.cells #[.int .i64 2886729728, .int .i64 12] 47) = W0 at *
    go_quiet ((go_at_call 9; refine Calls.quiet_of_same ((fright_any a _).mono fun e w' h => ⟨by rw [h.1, hr], h.2.symm⟩)))
    go_wp2
    go_ret
    exact ⟨rfl, below_drewN BEL.out _⟩

def in_p2 (a : Int) : Bool := right a && (a / 65536 == 49320)
set_option maxRecDepth 100000 in
set_option maxHeartbeats 2000000 in
theorem has_p2 (a : Int) (w : World) : Calls Tryd.prog 48 #[.agg #[.int .i64 3232235520, .int .i64 16], .int .i64 a] w fun r w' => r = .returned (.bool (in_p2 a)) ∧ Below w.heap.size w w' := by
  have k0 := Blk.new w 47 #[.int .i64 3232235520, .int .i64 16]
  have c0 : (w.alloc (.cells #[.int .i64 3232235520, .int .i64 16] 47)).cell? ⟨w.heap.size, 0, none⟩ = some (.int .i64 3232235520) := k0.cell 0
  have c1 : (w.alloc (.cells #[.int .i64 3232235520, .int .i64 16] 47)).cell? ⟨w.heap.size, 1, none⟩ = some (.int .i64 16) := k0.cell 1
  have hb : Below w.heap.size w (w.alloc (.cells #[.int .i64 3232235520, .int .i64 16] 47)) := (Below.refl _ _).alloc (Nat.le_refl _) _
  cases hr : right a with
  | false =>
    have hv : in_p2 a = false := by unfold in_p2; rw [hr]; rfl
    rw [hv]
    have BEL := Lib.hid hb
    clear hv k0 hb
    go_enter Tryd.func48, Tryd.ntmps48
    go_wp2_with fail
    generalize w.alloc (.cells #[.int .i64 3232235520, .int .i64 16] 47) = W0 at *
    go_quiet ((go_at_call 9; refine Calls.quiet_of_same ((fright_any a _).mono fun e w' h => ⟨by rw [h.1, hr], h.2.symm⟩)))
    go_wp2
    go_ret
    exact ⟨rfl, below_drewN BEL.out _⟩
  | true =>
    obtain ⟨h0, h1⟩ := right_spec hr
    have hv : in_p2 a = (a / 65536 == 49320) := by unfold in_p2; rw [hr]; rfl
    rw [hv]
    have BEL := Lib.hid hb
    clear hv k0 hb
    go_enter Tryd.func48, Tryd.ntmps48
    go_wp2_with fail
    generalize w.alloc (.cells #[.int .i64 3232235520, .int .i64 16] 47) = W0 at *
    go_quiet ((go_at_call 9; refine Calls.quiet_of_same ((fright_any a _).mono fun e w' h => ⟨by rw [h.1, hr], h.2.symm⟩)))
    go_wp2
    go_ret
    exact ⟨rfl, below_drewN BEL.out _⟩

end Go.Proofs.YtngdomefipcemaaDoor
