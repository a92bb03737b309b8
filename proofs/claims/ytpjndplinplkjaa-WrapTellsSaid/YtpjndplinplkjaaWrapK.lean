/-
  wrap: Hop of a packet whose time is over, of the program and of the document: the walks.
-/
import Derived.Test.YtpjndplinplkjaaWrapJ
namespace Go.Proofs.Ytpjndplinplkjaa
open Go.RowKit Go.Great

set_option maxRecDepth 100000 in
set_option maxHeartbeats 4000000 in
theorem hop_done (f : Nat → Int) (p q : Bool) (A B : Option Addr) (n m a b : Nat) (w : World) (ht : f 3 ≤ 1) :
    Calls Try.prog 10 #[.agg (cells4 f p q (.slice A n a) (.slice B m b))] w fun r w' => r = .returned (.tuple #[.agg (four4 0), .bool false]) ∧ Below w.heap.size w w' := by
  go_enter Try.func10, Try.ntmps10
  go_wp2_with fail
  refine bodyPost_ret (v := .tuple #[.agg (four4 0), .bool false]) ?_ rfl ⟨rfl, ?_⟩
  · have hb : Blk ((w.alloc (.cells (cells4 f p q (.slice A n a) (.slice B m b)) 28)).alloc (.cells (four4 0) 28)) (w.heap.size + 1) 28 (four4 0) := Blk.at_ (by simp)
    simp [results, Try.f10, asAddr, run_loadVar_row _ (w.heap.size + 1) 28 28 (four4 0) (0, 0) _ hb Try.underlying28 rfl v4_size]
  · exact ((Below.refl _ _).alloc (Nat.le_refl _) _).alloc (by simp) _

set_option maxRecDepth 100000 in
set_option maxHeartbeats 4000000 in
theorem rhop_done (f : Nat → Int) (p q : Bool) (A B : Option Addr) (n m a b : Nat) (w : World) (ht : f 3 ≤ 1) :
    Calls Try.prog 11 #[.agg (cells4 f p q (.slice A n a) (.slice B m b))] w fun r w' => r = .returned (.tuple #[.agg (four4 0), .bool false]) ∧ Below w.heap.size w w' := by
  go_enter Try.func11, Try.ntmps11
  go_wp2_with fail
  refine bodyPost_ret (v := .tuple #[.agg (four4 0), .bool false]) ?_ rfl ⟨rfl, ?_⟩
  · have hb : Blk ((w.alloc (.cells (cells4 f p q (.slice A n a) (.slice B m b)) 28)).alloc (.cells (four4 0) 28)) (w.heap.size + 1) 28 (four4 0) := Blk.at_ (by simp)
    simp [results, Try.f11, asAddr, run_loadVar_row _ (w.heap.size + 1) 28 28 (four4 0) (0, 0) _ hb Try.underlying28 rfl v4_size]
  · exact ((Below.refl _ _).alloc (Nat.le_refl _) _).alloc (by simp) _
end Go.Proofs.Ytpjndplinplkjaa
