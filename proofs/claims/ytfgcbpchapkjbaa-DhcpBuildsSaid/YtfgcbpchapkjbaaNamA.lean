/-
  name: what a label is; the two tests for it (name.right, ref label), and name.sign.
-/
import Derived.Test.YtfgcbpchapkjbaaBytes
import Derived.Test.YtfgcbpchapkjbaaQuiet
import Derived.Test.YtfgcbpchapkjbaaShelf
import Derived.Lib.ConvBytes
import Derived.Lib.Walk
import Derived.Lib.Strings
import Derived.Laws.Strings3
import Derived.Lib.CutLaws
import Derived.Shelf.RegionOpenPlain
namespace Go.Proofs.Ytfgcbpchapkjbaa
open Go.RowKit

/-- A byte that a label may have; a label. -/
def sgI (c : Int) : Bool := decide (97 ≤ c ∧ c ≤ 122) || decide (48 ≤ c ∧ c ≤ 57) || decide (c = 45)
def sg (b : UInt8) : Bool := sgI b.toNat
def lab (l : List UInt8) : Bool := decide (1 ≤ l.length) && decide (l.length ≤ 63) && decide (l.getD 0 0 ≠ 45) && decide (l.getD (l.length - 1) 0 ≠ 45) && l.all sg

set_option maxHeartbeats 400000 in
theorem sign_any (c : Int) (w : World) : Calls Try.prog 49 #[.int .u8 c] w fun e w' => e = .returned (.bool (sgI c)) ∧ w = w' := by
  go_enter Try.func49, Try.ntmps49
  go_wp2
  all_goals (go_ret; refine ⟨?_, rfl⟩; refine congrArg (fun b => Ending.returned (.bool b)) ?_; rw [Bool.eq_iff_iff]; simp [sgI]; try omega)

theorem byte_ne (b : UInt8) : ((b.toNat : Int) = 45) ↔ b = 45 := by
  constructor
  · intro h
    apply UInt8.toNat_inj.1
    have : b.toNat = 45 := by omega
    exact this
  · rintro rfl; rfl

/-- What the first test says. -/
def lab0 (l : List UInt8) : Bool := decide (1 ≤ l.length) && decide (l.length ≤ 63) && decide (l.getD 0 0 ≠ 45) && decide (l.getD (l.length - 1) 0 ≠ 45)
theorem lab_eq (l : List UInt8) : lab l = (lab0 l && l.all sg) := rfl
end Go.Proofs.Ytfgcbpchapkjbaa
