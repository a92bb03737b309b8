/-
  The three lowest bits of flags, and what a segment of such flags does to a state.
-/
import Derived.Test.YtflmgbkfbinjmaaRows
import Derived.Test.YtflmgbkfbinjmaaBase
import Derived.WalkKit
import Derived.WalkSpells
import Derived.WalkLawsBesides
import Derived.Deep.QuietTactic
import Derived.BigQuiet
import Derived.Lib.Hide
namespace Go.Proofs.Ytflmgbkfbinjmaa
open Go.RowKit

def low3 (x : Int) : Nat := (BitVec.ofInt 64 x).toNat % 8
theorem low3_lt (x : Int) : low3 x < 8 := Nat.mod_lt _ (by decide)

theorem and_low (x : Int) (k : Nat) (hk : k < 8) : bits .and .i64 x (k : Int) = ((low3 x &&& k : Nat) : Int) := by
  have h1 : (BitVec.ofInt 64 (k : Int)).toNat = k := by
    rw [BitVec.ofInt_natCast, BitVec.toNat_ofNat]; exact Nat.mod_eq_of_lt (by omega)
  have h2 : (BitVec.ofInt 64 x).toNat &&& k = low3 x &&& k := by
    have e : k = 7 &&& k := by
      have : ∀ j, j < 8 → j = 7 &&& j := by decide
      exact this k hk
    unfold low3
    conv => lhs; rw [e, ← Nat.and_assoc]
    rw [show (7 : Nat) = 2 ^ 3 - 1 from rfl, Nat.and_two_pow_sub_one_eq_mod]
  have h3 : low3 x &&& k < 8 := Nat.and_lt_two_pow (n := 3) _ (by omega)
  show IntKind.i64.wrap ((BitVec.ofInt 64 x &&& BitVec.ofInt 64 (k : Int)).toNat : Int) = _
  rw [BitVec.toNat_and, h1, h2, IntKind.wrap_i64]
  omega

/-- Setting the bit of 4. -/
theorem low3_or4 (x : Int) : low3 (bits .or .i64 x 4) = low3 x ||| 4 := by
  have h1 : (BitVec.ofInt 64 (4 : Int)).toNat = 4 := by decide
  have e : bits .or .i64 x 4 = IntKind.i64.wrap ((BitVec.ofInt 64 x ||| BitVec.ofInt 64 (4 : Int)).toNat : Int) := rfl
  unfold low3
  rw [e]
  generalize hb : BitVec.ofInt 64 x = b
  have h4 : (BitVec.ofInt 64 (IntKind.i64.wrap ((b ||| BitVec.ofInt 64 (4 : Int)).toNat : Int))).toNat = (b ||| BitVec.ofInt 64 (4 : Int)).toNat := by
    generalize (b ||| BitVec.ofInt 64 (4 : Int)) = c
    have := c.isLt
    rw [IntKind.wrap_i64, BitVec.toNat_ofInt]
    omega
  rw [h4, BitVec.toNat_or, h1]
  have := Nat.or_mod_two_pow (a := b.toNat) (b := 4) (n := 3)
  simpa using this

def syn (F : Nat) : Bool := F / 2 % 2 == 1
def rst (F : Nat) : Bool := F / 4 == 1
def fin (F : Nat) : Bool := F % 2 == 1
def beg (F : Nat) : Bool := syn F && !rst F
/-- The state behind a segment whose flags have the lowest bits F. -/
def nx (n : Int) (out : Bool) (F : Nat) : Int × Bool :=
  if n < 0 || 6 < n then (0, false)
  else if n == 0 && !beg F then (0, false)
  else if n == 0 then (if out then 1 else 2, true)
  else if rst F then (6, true)
  else if n == 6 && beg F then (if out then 1 else 2, true)
  else if (n == 1 && !out || n == 2 && out) && beg F then (3, true)
  else if n == 3 && fin F then (if out then 4 else 5, true)
  else if (n == 4 && !out || n == 5 && out) && fin F then (6, true)
  else (n, true)

set_option maxHeartbeats 400000 in
theorem begins_any (flags : Int) (w : World) : Calls Try.prog 12 #[.int .i64 flags] w fun r w' => r = .returned (.bool (beg (low3 flags))) ∧ w = w' := by
  have h6 := and_low flags 6 (by decide)
  have hl := low3_lt flags
  generalize low3 flags = F at *
  have hF : F = 0 ∨ F = 1 ∨ F = 2 ∨ F = 3 ∨ F = 4 ∨ F = 5 ∨ F = 6 ∨ F = 7 := by omega
  rcases hF with rfl | rfl | rfl | rfl | rfl | rfl | rfl | rfl
  all_goals
    simp at h6
    go_enter Try.func12, Try.ntmps12
    go_wp2
    go_ret
    exact ⟨rfl, rfl⟩
end Go.Proofs.Ytflmgbkfbinjmaa
