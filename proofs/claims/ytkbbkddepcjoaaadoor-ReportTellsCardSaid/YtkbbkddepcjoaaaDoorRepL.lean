/-
  report: a reason's name, by the program and by the document. Printed by wip/gen/repL.py.
-/
import Derived.Test.YtkbbkddepcjoaaaDoorCmdT
namespace Go.Proofs.YtkbbkddepcjoaaaDoor
open Go.RowKit

set_option maxRecDepth 100000 in
set_option maxHeartbeats 4000000 in
theorem name_any (k : Nat) (hk : k < 14) (w : World) : Calls Tryd.prog 47 #[.int .i64 (k : Int)] w fun r w' => r = .returned (.string (bs (nameV k))) ∧ Below w.heap.size w w' := by
  rcases (show k = 0 ∨ k = 1 ∨ k = 2 ∨ k = 3 ∨ k = 4 ∨ k = 5 ∨ k = 6 ∨ k = 7 ∨ k = 8 ∨ k = 9 ∨ k = 10 ∨ k = 11 ∨ k = 12 ∨ k = 13 by omega) with rfl | rfl | rfl | rfl | rfl | rfl | rfl | rfl | rfl | rfl | rfl | rfl | rfl | rfl
  · show Calls Tryd.prog 47 #[.int .i64 0] w fun r w' => r = .returned (.string ⟨#[]⟩) ∧ Below w.heap.size w w'
    go_enter Tryd.func47, Tryd.ntmps47
    go_wp2
    go_ret
    exact ⟨rfl, Below.refl _ _⟩
  · show Calls Tryd.prog 47 #[.int .i64 1] w fun r w' => r = .returned (.string ⟨#[102, 111, 114, 109]⟩) ∧ Below w.heap.size w w'
    go_enter Tryd.func47, Tryd.ntmps47
    go_wp2
    go_ret
    exact ⟨rfl, Below.refl _ _⟩
  · show Calls Tryd.prog 47 #[.int .i64 2] w fun r w' => r = .returned (.string ⟨#[115, 111, 117, 114, 99, 101]⟩) ∧ Below w.heap.size w w'
    go_enter Tryd.func47, Tryd.ntmps47
    go_wp2
    go_ret
    exact ⟨rfl, Below.refl _ _⟩
  · show Calls Tryd.prog 47 #[.int .i64 3] w fun r w' => r = .returned (.string ⟨#[116, 116, 108]⟩) ∧ Below w.heap.size w w'
    go_enter Tryd.func47, Tryd.ntmps47
    go_wp2
    go_ret
    exact ⟨rfl, Below.refl _ _⟩
  · show Calls Tryd.prog 47 #[.int .i64 4] w fun r w' => r = .returned (.string ⟨#[112, 114, 111, 116, 111]⟩) ∧ Below w.heap.size w w'
    go_enter Tryd.func47, Tryd.ntmps47
    go_wp2
    go_ret
    exact ⟨rfl, Below.refl _ _⟩
  · show Calls Tryd.prog 47 #[.int .i64 5] w fun r w' => r = .returned (.string ⟨#[113, 117, 111, 116, 97]⟩) ∧ Below w.heap.size w w'
    go_enter Tryd.func47, Tryd.ntmps47
    go_wp2
    go_ret
    exact ⟨rfl, Below.refl _ _⟩
  · show Calls Tryd.prog 47 #[.int .i64 6] w fun r w' => r = .returned (.string ⟨#[102, 117, 108, 108]⟩) ∧ Below w.heap.size w w'
    go_enter Tryd.func47, Tryd.ntmps47
    go_wp2
    go_ret
    exact ⟨rfl, Below.refl _ _⟩
  · show Calls Tryd.prog 47 #[.int .i64 7] w fun r w' => r = .returned (.string ⟨#[112, 111, 111, 108]⟩) ∧ Below w.heap.size w w'
    go_enter Tryd.func47, Tryd.ntmps47
    go_wp2
    go_ret
    exact ⟨rfl, Below.refl _ _⟩
  · show Calls Tryd.prog 47 #[.int .i64 8] w fun r w' => r = .returned (.string ⟨#[115, 116, 97, 116, 101]⟩) ∧ Below w.heap.size w w'
    go_enter Tryd.func47, Tryd.ntmps47
    go_wp2
    go_ret
    exact ⟨rfl, Below.refl _ _⟩
  · show Calls Tryd.prog 47 #[.int .i64 9] w fun r w' => r = .returned (.string ⟨#[98, 105, 110, 100, 105, 110, 103]⟩) ∧ Below w.heap.size w w'
    go_enter Tryd.func47, Tryd.ntmps47
    go_wp2
    go_ret
    exact ⟨rfl, Below.refl _ _⟩
  · show Calls Tryd.prog 47 #[.int .i64 10] w fun r w' => r = .returned (.string ⟨#[102, 105, 108, 116, 101, 114]⟩) ∧ Below w.heap.size w w'
    go_enter Tryd.func47, Tryd.ntmps47
    go_wp2
    go_ret
    exact ⟨rfl, Below.refl _ _⟩
  · show Calls Tryd.prog 47 #[.int .i64 11] w fun r w' => r = .returned (.string ⟨#[108, 111, 110, 103]⟩) ∧ Below w.heap.size w w'
    go_enter Tryd.func47, Tryd.ntmps47
    go_wp2
    go_ret
    exact ⟨rfl, Below.refl _ _⟩
  · show Calls Tryd.prog 47 #[.int .i64 12] w fun r w' => r = .returned (.string ⟨#[111, 118, 101, 114, 108, 97, 112]⟩) ∧ Below w.heap.size w w'
    go_enter Tryd.func47, Tryd.ntmps47
    go_wp2
    go_ret
    exact ⟨rfl, Below.refl _ _⟩
  · show Calls Tryd.prog 47 #[.int .i64 13] w fun r w' => r = .returned (.string ⟨#[119, 97, 121]⟩) ∧ Below w.heap.size w w'
    go_enter Tryd.func47, Tryd.ntmps47
    go_wp2
    go_ret
    exact ⟨rfl, Below.refl _ _⟩

set_option maxRecDepth 100000 in
set_option maxHeartbeats 4000000 in
theorem rname_any (k : Nat) (hk : k < 14) (w : World) : Calls Tryd.prog 52 #[.int .i64 (k : Int)] w fun r w' => r = .returned (.string (bs (nameV k))) ∧ Below w.heap.size w w' := by
  rcases (show k = 0 ∨ k = 1 ∨ k = 2 ∨ k = 3 ∨ k = 4 ∨ k = 5 ∨ k = 6 ∨ k = 7 ∨ k = 8 ∨ k = 9 ∨ k = 10 ∨ k = 11 ∨ k = 12 ∨ k = 13 by omega) with rfl | rfl | rfl | rfl | rfl | rfl | rfl | rfl | rfl | rfl | rfl | rfl | rfl | rfl
  · show Calls Tryd.prog 52 #[.int .i64 0] w fun r w' => r = .returned (.string ⟨#[]⟩) ∧ Below w.heap.size w w'
    go_enter Tryd.func52, Tryd.ntmps52
    go_wp2
    go_ret
    exact ⟨rfl, (Below.refl _ _).alloc (Nat.le_refl _) _⟩
  · show Calls Tryd.prog 52 #[.int .i64 1] w fun r w' => r = .returned (.string ⟨#[102, 111, 114, 109]⟩) ∧ Below w.heap.size w w'
    go_enter Tryd.func52, Tryd.ntmps52
    go_wp2
    go_ret
    exact ⟨rfl, (Below.refl _ _).alloc (Nat.le_refl _) _⟩
  · show Calls Tryd.prog 52 #[.int .i64 2] w fun r w' => r = .returned (.string ⟨#[115, 111, 117, 114, 99, 101]⟩) ∧ Below w.heap.size w w'
    go_enter Tryd.func52, Tryd.ntmps52
    go_wp2
    go_ret
    exact ⟨rfl, (Below.refl _ _).alloc (Nat.le_refl _) _⟩
  · show Calls Tryd.prog 52 #[.int .i64 3] w fun r w' => r = .returned (.string ⟨#[116, 116, 108]⟩) ∧ Below w.heap.size w w'
    go_enter Tryd.func52, Tryd.ntmps52
    go_wp2
    go_ret
    exact ⟨rfl, (Below.refl _ _).alloc (Nat.le_refl _) _⟩
  · show Calls Tryd.prog 52 #[.int .i64 4] w fun r w' => r = .returned (.string ⟨#[112, 114, 111, 116, 111]⟩) ∧ Below w.heap.size w w'
    go_enter Tryd.func52, Tryd.ntmps52
    go_wp2
    go_ret
    exact ⟨rfl, (Below.refl _ _).alloc (Nat.le_refl _) _⟩
  · show Calls Tryd.prog 52 #[.int .i64 5] w fun r w' => r = .returned (.string ⟨#[113, 117, 111, 116, 97]⟩) ∧ Below w.heap.size w w'
    go_enter Tryd.func52, Tryd.ntmps52
    go_wp2
    go_ret
    exact ⟨rfl, (Below.refl _ _).alloc (Nat.le_refl _) _⟩
  · show Calls Tryd.prog 52 #[.int .i64 6] w fun r w' => r = .returned (.string ⟨#[102, 117, 108, 108]⟩) ∧ Below w.heap.size w w'
    go_enter Tryd.func52, Tryd.ntmps52
    go_wp2
    go_ret
    exact ⟨rfl, (Below.refl _ _).alloc (Nat.le_refl _) _⟩
  · show Calls Tryd.prog 52 #[.int .i64 7] w fun r w' => r = .returned (.string ⟨#[112, 111, 111, 108]⟩) ∧ Below w.heap.size w w'
    go_enter Tryd.func52, Tryd.ntmps52
    go_wp2
    go_ret
    exact ⟨rfl, (Below.refl _ _).alloc (Nat.le_refl _) _⟩
  · show Calls Tryd.prog 52 #[.int .i64 8] w fun r w' => r = .returned (.string ⟨#[115, 116, 97, 116, 101]⟩) ∧ Below w.heap.size w w'
    go_enter Tryd.func52, Tryd.ntmps52
    go_wp2
    go_ret
    exact ⟨rfl, (Below.refl _ _).alloc (Nat.le_refl _) _⟩
  · show Calls Tryd.prog 52 #[.int .i64 9] w fun r w' => r = .returned (.string ⟨#[98, 105, 110, 100, 105, 110, 103]⟩) ∧ Below w.heap.size w w'
    go_enter Tryd.func52, Tryd.ntmps52
    go_wp2
    go_ret
    exact ⟨rfl, (Below.refl _ _).alloc (Nat.le_refl _) _⟩
  · show Calls Tryd.prog 52 #[.int .i64 10] w fun r w' => r = .returned (.string ⟨#[102, 105, 108, 116, 101, 114]⟩) ∧ Below w.heap.size w w'
    go_enter Tryd.func52, Tryd.ntmps52
    go_wp2
    go_ret
    exact ⟨rfl, (Below.refl _ _).alloc (Nat.le_refl _) _⟩
  · show Calls Tryd.prog 52 #[.int .i64 11] w fun r w' => r = .returned (.string ⟨#[108, 111, 110, 103]⟩) ∧ Below w.heap.size w w'
    go_enter Tryd.func52, Tryd.ntmps52
    go_wp2
    go_ret
    exact ⟨rfl, (Below.refl _ _).alloc (Nat.le_refl _) _⟩
  · show Calls Tryd.prog 52 #[.int .i64 12] w fun r w' => r = .returned (.string ⟨#[111, 118, 101, 114, 108, 97, 112]⟩) ∧ Below w.heap.size w w'
    go_enter Tryd.func52, Tryd.ntmps52
    go_wp2
    go_ret
    exact ⟨rfl, (Below.refl _ _).alloc (Nat.le_refl _) _⟩
  · show Calls Tryd.prog 52 #[.int .i64 13] w fun r w' => r = .returned (.string ⟨#[119, 97, 121]⟩) ∧ Below w.heap.size w w'
    go_enter Tryd.func52, Tryd.ntmps52
    go_wp2
    go_ret
    exact ⟨rfl, (Below.refl _ _).alloc (Nat.le_refl _) _⟩
end Go.Proofs.YtkbbkddepcjoaaaDoor
