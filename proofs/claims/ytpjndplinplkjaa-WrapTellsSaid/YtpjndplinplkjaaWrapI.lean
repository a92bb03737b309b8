/-
  wrap: Same of packets of IPv4: the walk.
-/
import Derived.Test.YtpjndplinplkjaaWrapH
namespace Go.Proofs.Ytpjndplinplkjaa
open Go.RowKit

/-- A packet of IPv4: its cells. -/
abbrev cells4 (f : Nat → Int) (p q : Bool) (x y : Value) : Array Value := #[.int .i64 (f 0), .int .i64 (f 1), .int .i64 (f 2), .int .i64 (f 3), .int .i64 (f 4), .int .i64 (f 5), .int .i64 (f 6), .bool p, .bool q, x, y]

set_option maxRecDepth 100000 in
set_option maxHeartbeats 4000000 in
theorem same4_any (f : Nat → Int) (p q : Bool) (A B A' B' : Option Addr) (n m n' m' a b a' b' : Nat) (xs ys : List Int) (w : World) (h1 : BReads w A n xs) (h2 : BReads w B m ys) (h3 : BReads w A' n' xs) (h4 : BReads w B' m' ys) :
    Calls Try.prog 14 #[.agg (cells4 f p q (.slice A n a) (.slice B m b)), .agg (cells4 f p q (.slice A' n' a') (.slice B' m' b'))] w fun r w' => r = .returned (.bool true) ∧ Below w.heap.size w w' := by
  have bel : Below w.heap.size w ((w.alloc (.cells (cells4 f p q (.slice A n a) (.slice B m b)) 28)).alloc (.cells (cells4 f p q (.slice A' n' a') (.slice B' m' b')) 28)) := ((Below.refl _ _).alloc (Nat.le_refl _) _).alloc (by simp) _
  have k1 := run_convert_reads (c := a) Try.underlying24 Try.underlying5 Try.underlying9 (h1.below bel)
  have k2 := run_convert_reads (c := b) Try.underlying24 Try.underlying5 Try.underlying9 (h2.below bel)
  have k3 := run_convert_reads (c := a') Try.underlying24 Try.underlying5 Try.underlying9 (h3.below bel)
  have k4 := run_convert_reads (c := b') Try.underlying24 Try.underlying5 Try.underlying9 (h4.below bel)
  clear h1 h2 h3 h4
  go_enter Try.func14, Try.ntmps14
  go_wp2
  go_ret
  exact ⟨rfl, bel⟩
end Go.Proofs.Ytpjndplinplkjaa
