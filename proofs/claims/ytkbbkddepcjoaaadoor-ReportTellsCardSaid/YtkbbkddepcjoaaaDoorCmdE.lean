/-
  cmd: protocols and their words, by the program and by the document.
-/
import Derived.Test.YtkbbkddepcjoaaaDoorCmdD
namespace Go.Proofs.YtkbbkddepcjoaaaDoor
open Go.RowKit

theorem toList_bs (l : List UInt8) : (bs l).toList = l := by rw [ByteArray.toList_eq, bs_data]
theorem list_eq (T l : List UInt8) : ((bs T).toList == (bs l).toList) = decide (T = l) := by
  rw [toList_bs, toList_bs]
  by_cases h : T = l
  · subst h; simp
  · simp [h]

set_option maxRecDepth 100000 in
theorem cword_any (p : Int) (w : World) : Calls Tryd.prog 43 #[.int .i64 p] w fun r w' => r = .returned (.string (bs (wordV p))) ∧ w = w' := by
  by_cases h1 : p = 1
  · subst h1
    go_enter Tryd.func43, Tryd.ntmps43
    go_wp2
    go_ret
    exact ⟨rfl, rfl⟩
  · by_cases h6 : p = 6
    · subst h6
      go_enter Tryd.func43, Tryd.ntmps43
      go_wp2
      go_ret
      exact ⟨rfl, rfl⟩
    · by_cases h17 : p = 17
      · subst h17
        go_enter Tryd.func43, Tryd.ntmps43
        go_wp2
        go_ret
        exact ⟨rfl, rfl⟩
      · have hv : wordV p = [45] := by unfold wordV; rw [if_neg h1, if_neg h6, if_neg h17]
        have e1 : (p == 1) = false := by simpa using h1
        have e6 : (p == 6) = false := by simpa using h6
        have e17 : (p == 17) = false := by simpa using h17
        rw [hv]
        clear hv h1 h6 h17
        go_enter Tryd.func43, Tryd.ntmps43
        go_wp2
        go_ret
        exact ⟨rfl, rfl⟩

set_option maxRecDepth 100000 in
theorem rword_any (p : Int) (w : World) : Calls Tryd.prog 69 #[.int .i64 p] w fun r w' => r = .returned (.string (bs (wordR p))) ∧ w = w' := by
  by_cases h1 : p = 1
  · subst h1
    go_enter Tryd.func69, Tryd.ntmps69
    go_wp2
    go_ret
    exact ⟨rfl, rfl⟩
  · by_cases h6 : p = 6
    · subst h6
      go_enter Tryd.func69, Tryd.ntmps69
      go_wp2
      go_ret
      exact ⟨rfl, rfl⟩
    · by_cases h17 : p = 17
      · subst h17
        go_enter Tryd.func69, Tryd.ntmps69
        go_wp2
        go_ret
        exact ⟨rfl, rfl⟩
      · have hv : wordR p = [] := by unfold wordR; rw [if_neg h1, if_neg h6, if_neg h17]
        have e1 : (p == 1) = false := by simpa using h1
        have e6 : (p == 6) = false := by simpa using h6
        have e17 : (p == 17) = false := by simpa using h17
        rw [hv]
        clear hv h1 h6 h17
        go_enter Tryd.func69, Tryd.ntmps69
        go_wp2
        go_ret
        exact ⟨rfl, rfl⟩

set_option maxRecDepth 100000 in
theorem rproto_any (l : List UInt8) (w : World) : Calls Tryd.prog 20 #[.string (bs l)] w fun r w' => r = .returned (numR (protoV l)) ∧ w = w' := by
  have q1 := list_eq l wIcmp
  have q6 := list_eq l wTcp
  have q17 := list_eq l wUdp
  rw [toList_bs wIcmp] at q1
  rw [toList_bs wTcp] at q6
  rw [toList_bs wUdp] at q17
  by_cases h1 : l = wIcmp
  · have hv := Lib.hid (show protoV l = some 1 by unfold protoV; rw [if_pos h1])
    rw [decide_eq_true h1] at q1
    unfold wIcmp at q1
    clear h1 q6 q17
    go_enter Tryd.func20, Tryd.ntmps20
    go_wp2
    go_ret2
    exact ⟨by rw [hv.out]; rfl, rfl⟩
  · rw [decide_eq_false h1] at q1
    unfold wIcmp at q1
    by_cases h6 : l = wTcp
    · have hv := Lib.hid (show protoV l = some 6 by unfold protoV; rw [if_neg h1, if_pos h6])
      rw [decide_eq_true h6] at q6
      unfold wTcp at q6
      clear h1 h6 q17
      go_enter Tryd.func20, Tryd.ntmps20
      go_wp2
      go_ret2
      exact ⟨by rw [hv.out]; rfl, rfl⟩
    · rw [decide_eq_false h6] at q6
      unfold wTcp at q6
      by_cases h17 : l = wUdp
      · have hv := Lib.hid (show protoV l = some 17 by unfold protoV; rw [if_neg h1, if_neg h6, if_pos h17])
        rw [decide_eq_true h17] at q17
        unfold wUdp at q17
        clear h1 h6 h17
        go_enter Tryd.func20, Tryd.ntmps20
        go_wp2
        go_ret2
        exact ⟨by rw [hv.out]; rfl, rfl⟩
      · have hv := Lib.hid (show protoV l = none by unfold protoV; rw [if_neg h1, if_neg h6, if_neg h17])
        rw [decide_eq_false h17] at q17
        unfold wUdp at q17
        clear h1 h6 h17
        go_enter Tryd.func20, Tryd.ntmps20
        go_wp2
        go_ret2
        exact ⟨by rw [hv.out]; rfl, rfl⟩

def pn (k : Nat) : Nat := if k = 0 then 1 else if k = 1 then 6 else 17
theorem proto_at {l : List UInt8} {k : Nat} (hk : k < 3) (h : ∀ j, j < k → wordV (pn j) ≠ l) (e : wordV (pn k) = l) : protoV l = some (pn k) := by
  unfold protoV
  have h0 : wordV (pn 0) = wIcmp := rfl
  have h1 : wordV (pn 1) = wTcp := rfl
  have h2 : wordV (pn 2) = wUdp := rfl
  rcases (show k = 0 ∨ k = 1 ∨ k = 2 by omega) with rfl | rfl | rfl
  · rw [if_pos (e.symm.trans h0)]; rfl
  · rw [if_neg (by intro h'; exact h 0 (by omega) (by rw [h0, h'])), if_pos (e.symm.trans h1)]; rfl
  · rw [if_neg (by intro h'; exact h 0 (by omega) (by rw [h0, h'])), if_neg (by intro h'; exact h 1 (by omega) (by rw [h1, h'])), if_pos (e.symm.trans h2)]; rfl
theorem proto_no {l : List UInt8} (h : ∀ j, j < 3 → wordV (pn j) ≠ l) : protoV l = none := by
  unfold protoV
  rw [if_neg (by intro h'; exact h 0 (by omega) h'.symm), if_neg (by intro h'; exact h 1 (by omega) h'.symm), if_neg (by intro h'; exact h 2 (by omega) h'.symm)]

set_option maxRecDepth 100000 in
set_option maxHeartbeats 2000000 in
theorem cproto_any (l : List UInt8) (w : World) : Calls Tryd.prog 19 #[.string (bs l)] w fun r w' => r = .returned (numR (protoV l)) ∧ Below w.heap.size w w' := by
  have hb : Below w.heap.size w (w.alloc (.cells #[.int .i64 1, .int .i64 6, .int .i64 17] 3)) := (Below.refl _ _).alloc (Nat.le_refl _) _
  have blk := Blk.new w 3 #[.int .i64 1, .int .i64 6, .int .i64 17]
  obtain ⟨W, hW⟩ : ∃ W, w.alloc (.cells #[.int .i64 1, .int .i64 6, .int .i64 17] 3) = W := ⟨_, rfl⟩
  rw [hW] at hb blk
  have HW := Lib.hid hW
  have HB := Lib.hid hb
  have HBLK := Lib.hid blk
  clear hb hW blk
  go_enter Tryd.func19, Tryd.ntmps19
  go_wp2
  rw [HW.out]
  go_loopw [8] (fun i wr => ∃ k : Nat, k ≤ 3 ∧ i = .int .i64 k ∧ (∀ j, j < k → wordV (pn j) ≠ l) ∧ W = wr) (fun i _ => 3 - (intOf i).toNat)
  case atStart => exact ⟨0, by omega, rfl, fun j hj => absurd hj (by omega), rfl⟩
  case round =>
    obtain ⟨k, hk, rfl, hno, rfl⟩ := hrel
    have HNO := Lib.hid hno
    clear hno
    by_cases hlt : k < 3
    · have hcell : W.cell? ⟨w.heap.size, k, none⟩ = some (.int .i64 (pn k : Nat)) := by
        rw [HBLK.out.cell k]
        rcases (show k = 0 ∨ k = 1 ∨ k = 2 by omega) with rfl | rfl | rfl <;> rfl
      have hq := list_eq (wordV (pn k)) l
      have hcw := fun W => cword_any (pn k : Nat) W
      obtain ⟨P, hP⟩ : ∃ P, pn k = P := ⟨_, rfl⟩
      rw [hP] at hcell hq hcw
      obtain ⟨T, hT⟩ : ∃ T, wordV (P : Nat) = T := ⟨_, rfl⟩
      rw [hT] at hq hcw
      have HCW := Lib.hid hcw
      by_cases he : T = l
      · have hres := Lib.hid (show protoV l = some P by rw [← hP]; exact proto_at hlt HNO.out (by rw [hP, hT]; exact he))
        rw [decide_eq_true he] at hq
        clear he hT hP hcw
        go_wp2_with (go_at_call 43; refine (HCW.out _).mono ?_; rintro r w' ⟨rfl, rfl⟩)
        go_ret2
        exact ⟨by rw [hres.out]; rfl, HB.out⟩
      · have hnext := Lib.hid (show ∀ j, j < k + 1 → wordV (pn j) ≠ l by
          intro j hj
          by_cases hjk : j = k
          · subst hjk; rw [hP, hT]; exact he
          · exact HNO.out j (by omega))
        rw [decide_eq_false he] at hq
        clear he hT hP hcw
        go_wp2_with (go_at_call 43; refine (HCW.out _).mono ?_; rintro r w' ⟨rfl, rfl⟩)
        exact ⟨⟨k + 1, by omega, by go_num, hnext.out, trivial⟩, by simp [intOf]; omega⟩
    · obtain rfl : k = 3 := by omega
      have hres := Lib.hid (proto_no HNO.out)
      go_wp2
      go_ret2
      exact ⟨by rw [hres.out]; rfl, HB.out⟩
end Go.Proofs.YtkbbkddepcjoaaaDoor
