/-
  report: an endpoint that two words say; what a text says.
-/
import Derived.Test.YtkbbkddepcjoaaaDoorRepC
import Derived.Test.YtkbbkddepcjoaaaDoorCmdL
namespace Go.Proofs.YtkbbkddepcjoaaaDoor
open Go.RowKit Go.Great

def reC (a n : Int) : Array Value := #[.int .i64 a, .int .i64 n]
theorem re_size {a n : Int} : (Tryd.prog.info? 62).map (·.size) = some (reC a n).size := (by kernel_rfl : (Tryd.prog.info? 62).map (·.size) = some 2)
theorem re_one (a n : Int) : (reC a n).all (·.oneCell') = true := by simp [reC, Value.oneCell']
def bdC (b : Bd) : Array Value := #[.int .i64 b.1.1, .int .i64 b.1.2.1, .int .i64 b.1.2.2.1, .int .i64 b.1.2.2.2, .int .i64 b.2.1.1, .int .i64 b.2.1.2.1, .int .i64 b.2.1.2.2, .bool b.2.2]
theorem bd_size {b : Bd} : (Tryd.prog.info? 28).map (·.size) = some (bdC b).size := (by kernel_rfl : (Tryd.prog.info? 28).map (·.size) = some 8)
theorem bd_one (b : Bd) : (bdC b).all (·.oneCell') = true := by simp [bdC, Value.oneCell']
def readO (s : List UInt8) : Bd × Int := if 200 < s.length then (zeroB, 6) else match parseBd (piecesB [] s) with | some c => (c, 0) | none => (zeroB, 13)
def readOV (s : List UInt8) : Value := .tuple #[.agg (bdC (readO s).1), .int .i64 (readO s).2]
theorem readO_none {s : List UInt8} (h : ¬ 200 < s.length) (hp : parseBd (piecesB [] s) = none) : readO s = (zeroB, 13) := by unfold readO; rw [if_neg h, hp]
theorem readO_some {s : List UInt8} {b : Bd} (h : ¬ 200 < s.length) (hp : parseBd (piecesB [] s) = some b) : readO s = (b, 0) := by unfold readO; rw [if_neg h, hp]
theorem readO_long {s : List UInt8} (h : 200 < s.length) : readO s = (zeroB, 6) := by unfold readO; rw [if_pos h]
theorem parseBd_len {L : List (List UInt8)} (h : L.length ≠ 8) : parseBd L = none := by
  unfold parseBd
  split
  · exact absurd rfl h
  · rfl

theorem end_ret {w W : World} {a : Act} {x n : Int} {z : Bool} {R : Ending → World → Prop} (h2 : a.tmps[4]?.getD undef = .pointer (some ⟨w.heap.size, 0, none⟩)) (h3 : a.tmps[5]?.getD undef = .bool z) (hd : a.defers = [])
    (hb : Blk W w.heap.size 62 (reC x n)) (hR : R (.returned (.tuple #[.agg (reC x n), .bool z])) W) : bodyPost Tryd.prog Tryd.f33 R .ret a W := by
  refine bodyPost_ret (v := .tuple #[.agg (reC x n), .bool z]) ?_ hd hR
  simp [results, Tryd.f33, asAddr, h2, h3, run_loadVar_row _ w.heap.size 62 62 (reC x n) (0, 0) _ hb Tryd.underlying62 rfl re_size]

set_option maxRecDepth 100000 in
set_option maxHeartbeats 4000000 in
theorem endpoint_any (c d : List UInt8) (hc : c.length ≤ 1048576) (hd : d.length ≤ 1048576) (w : World) : Calls Tryd.prog 33 #[.string (bs c), .string (bs d)] w fun e w' => e = .returned (.tuple #[.agg (reC ((parseV c).getD 0 : Nat) ((numV d 65535).getD 0 : Nat)), .bool (outerL c d).isSome]) ∧ Below w.heap.size w w' := by
  have c3 := fun W => fparse_any c hc W
  have c4 := fun W => cnum_any d 65535 hd W
  have hO : (outerL c d).isSome = ((numV d 65535).isSome && (parseV c).isSome) := by
    unfold outerL
    cases parseV c <;> cases numV d 65535 <;> rfl
  rw [hO]
  obtain ⟨N3, hN3⟩ : ∃ N, (parseV c).getD 0 = N := ⟨_, rfl⟩
  obtain ⟨N4, hN4⟩ : ∃ N, (numV d 65535).getD 0 = N := ⟨_, rfl⟩
  obtain ⟨B3, hB3⟩ : ∃ B, (parseV c).isSome = B := ⟨_, rfl⟩
  obtain ⟨B4, hB4⟩ : ∃ B, (numV d 65535).isSome = B := ⟨_, rfl⟩
  unfold numR at c4
  unfold pvV at c3
  rw [hN3, hB3] at c3
  rw [hN4, hB4] at c4
  rw [hN3, hN4, hB3, hB4]
  obtain ⟨E3, hE3⟩ : ∃ E : Int, (if B3 = true then 0 else 4) = E := ⟨_, rfl⟩
  rw [hE3] at c3
  have e3 : (E3 == 0) = B3 := by rw [← hE3]; cases B3 <;> rfl
  clear hN3 hN4 hB3 hB4 hE3 hO
  have C3 := Lib.hid c3
  have C4 := Lib.hid c4
  have bk0 := Lib.hid (Blk.new w 62 (reC 0 0))
  have hb0 := Lib.hid ((Below.refl w.heap.size w).alloc (Nat.le_refl _) (.cells (reC 0 0) 62))
  clear c3 c4
  unfold reC at bk0 hb0
  go_enter Tryd.func33, Tryd.ntmps33
  go_upto_region 3 with (first
    | (go_at_call 54; refine (C3.out _).mono ?_; rintro e w2 ⟨rfl, b2⟩; have K2 := Lib.hid (bk0.out.on b2); have L2 := Lib.hid (hb0.out.trans (b2.mono hb0.out.size)); clear b2)
    | (go_at_call 17; refine (C4.out _).mono ?_; rintro e w3 ⟨rfl, b3⟩; have K3 := Lib.hid (K2.out.on b3); have L3 := Lib.hid (L2.out.trans (b3.mono L2.out.size)); clear b3))
  have k0 := K3.out.cell 0
  have k1 := K3.out.cell 1
  have f0 := K3.out.frozen 0
  have f1 := K3.out.frozen 1
  simp only [List.getElem?_toArray, List.getElem?_cons_zero, List.getElem?_cons_succ] at k0 k1
  go_wp2
  all_goals
    refine end_ret (w := w) rfl rfl rfl ((K3.out.set_ 0 (.int .i64 N3)).set_ 1 (.int .i64 N4)) ⟨?_, (L3.out.setCell (p := ⟨w.heap.size, 0, none⟩) (Nat.le_refl _) _).setCell (p := ⟨w.heap.size, 1, none⟩) (Nat.le_refl _) _⟩
    simp [*]
end Go.Proofs.YtkbbkddepcjoaaaDoor
