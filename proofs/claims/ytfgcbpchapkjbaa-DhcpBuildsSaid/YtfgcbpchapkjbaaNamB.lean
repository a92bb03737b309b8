/-
  name: the two tests for a label say the same.
-/
import Derived.Test.YtfgcbpchapkjbaaNamA
namespace Go.Proofs.Ytfgcbpchapkjbaa
open Go.RowKit

theorem idx_string {P : Program} {t : TypeId} (s : ByteArray) (k : Nat) (h : P.underlying t = some .string) (hk : k < s.size) (w : World) :
    (Instr.index t (.string s) (.int .i64 (k : Int))).run P w = .ok (.int .u8 ((s.data.toList.getD k 0).toNat : Int)) w := by
  rw [run_index_string w t s .i64 k h, dif_pos ⟨by omega, by omega⟩]
  congr 3
  have hk' : k < s.data.toList.length := by simpa using hk
  simp only [List.getD_eq_getElem?_getD, List.getElem?_eq_getElem hk', Option.getD_some, Int.toNat_natCast]
  rfl

theorem size_data (s : ByteArray) : s.data.toList.length = s.size := by simp

set_option maxHeartbeats 1000000 in
theorem label_any (s : ByteArray) (hs : s.size ≤ 1099511627776) (w : World) : Calls Try.prog 36 #[.string s] w fun e w' => e = .returned (.bool (lab s.data.toList)) ∧ w = w' := by
  have hl := size_data s
  by_cases h1 : s.size < 1
  · go_enter Try.func36, Try.ntmps36
    go_wp2
    go_ret
    refine ⟨?_, rfl⟩
    simp [lab, hl]
    omega
  · by_cases h2 : 63 < s.size
    · go_enter Try.func36, Try.ntmps36
      go_wp2
      go_ret
      refine ⟨?_, rfl⟩
      simp [lab, hl]
      omega
    · obtain ⟨x0, hx0⟩ : ∃ x : Int, ((s.data.toList.getD 0 0).toNat : Int) = x := ⟨_, rfl⟩
      obtain ⟨x1, hx1⟩ : ∃ x : Int, ((s.data.toList.getD (s.size - 1) 0).toNat : Int) = x := ⟨_, rfl⟩
      have i0 : ∀ w, (Instr.index 9 (.string s) (.int .i64 0)).run Try.prog w = .ok (.int .u8 x0) w := hx0 ▸ idx_string (P := Try.prog) s 0 Try.underlying9 (by omega)
      have i1 := idx_string (P := Try.prog) s (s.size - 1) Try.underlying9 (by omega)
      have e1 : (((s.size - 1 : Nat) : Int)) = (s.size : Int) - 1 := by omega
      rw [e1, hx1] at i1
      have hlab : lab s.data.toList = (!decide (x0 = 45) && !decide (x1 = 45) && s.data.toList.all sg) := by
        simp only [lab, hl]
        rw [show decide (1 ≤ s.size) = true by simp; omega, show decide (s.size ≤ 63) = true by simp; omega]
        simp only [Bool.true_and, decide_not]
        congr 2
        · congr 1; rw [decide_eq_decide, ← hx0]; exact (byte_ne _).symm
        · congr 1; rw [decide_eq_decide, ← hx1]; exact (byte_ne _).symm
      rw [hlab]
      clear hx0 hx1 hlab e1
      by_cases c0 : x0 = 45
      · go_enter Try.func36, Try.ntmps36
        go_wp2
        go_ret
        simp [c0]
      · by_cases c1 : x1 = 45
        · go_enter Try.func36, Try.ntmps36
          go_wp2
          go_ret
          simp [c1]
        · simp only [c0, c1, decide_false, Bool.not_false, Bool.true_and]
          obtain ⟨R, hR⟩ : ∃ R, s.data.toList.all sg = R := ⟨_, rfl⟩
          rw [hR]
          have d0 : (x0 == 45) = false := by simp [c0]
          have d1 : (x1 == 45) = false := by simp [c1]
          have d2 : decide ((s.size : Int) < 1) = false := by simp; omega
          have d3 : decide (63 < (s.size : Int)) = false := by simp; omega
          go_enter Try.func36, Try.ntmps36
          go_wp2
          go_loopw [3] (fun i wr => ∃ k : Nat, k ≤ s.size ∧ i = .int .i64 k ∧ (s.data.toList.take k).all sg = true ∧ w = wr) (fun i _ => s.size - (intOf i).toNat)
          case atStart => exact ⟨0, by omega, rfl, by simp, rfl⟩
          case round =>
            obtain ⟨k, hk, rfl, hall, rfl⟩ := hrel
            clear i0 i1 c0 c1 d0 d1 d2 d3
            by_cases hlt : k < s.size
            · have ik := idx_string (P := Try.prog) s k Try.underlying9 hlt
              obtain ⟨c, hc⟩ : ∃ c : Int, ((s.data.toList.getD k 0).toNat : Int) = c := ⟨_, rfl⟩
              rw [hc] at ik
              have hnx : (s.data.toList.take (k + 1)).all sg = sgI c := by
                rw [List.take_add_one, List.all_append, hall, ← hc]
                have hk' : k < s.data.toList.length := by omega
                simp [sg, List.getD_eq_getElem?_getD, List.getElem?_eq_getElem hk']
              have hno : sgI c = false → s.data.toList.all sg = false := by
                intro h
                rw [← hnx] at h
                rw [← List.take_append_drop (k + 1) s.data.toList, List.all_append, h, Bool.false_and]
              by_cases hs : sgI c = true
              · have hs' := hs
                simp [sgI] at hs'
                clear hno hc
                rcases hs' with (hs' | hs') | hs'
                · go_wp2
                  all_goals (try omega)
                  all_goals go_roundw
                  case rel => exact ⟨k + 1, by omega, by go_num, by rw [hnx, hs], by trivial⟩
                  case measure => simp [intOf]; omega
                · go_wp2
                  all_goals (try omega)
                  all_goals go_roundw
                  case rel => exact ⟨k + 1, by omega, by go_num, by rw [hnx, hs], by trivial⟩
                  case measure => simp [intOf]; omega
                · subst hs'
                  go_wp2
                  all_goals go_roundw
                  case rel => exact ⟨k + 1, by omega, by go_num, by rw [hnx, hs], by trivial⟩
                  case measure => simp [intOf]; omega
              · have hs' := hs
                simp [sgI] at hs'
                obtain ⟨⟨g1, g2⟩, g3⟩ := hs'
                have d0 : (c == 45) = false := by simp [g3]
                have hn := hno (by simpa using hs)
                clear hnx hno hc g3 hs
                obtain rfl : R = false := hR.symm.trans hn
                clear hR hn
                have hw : c < 48 ∨ (57 < c ∧ c < 97) ∨ 122 < c := by omega
                clear g1 g2
                rcases hw with hw | hw | hw
                · go_wp2
                  all_goals (try omega)
                  all_goals (go_ret; exact ⟨rfl, rfl⟩)
                · have d1 : decide (c ≤ 57) = false := by simp; omega
                  go_wp2
                  all_goals (try omega)
                  all_goals (go_ret; exact ⟨rfl, rfl⟩)
                · have d1 : decide (c ≤ 57) = false := by simp; omega
                  have d2 : decide (c ≤ 122) = false := by simp; omega
                  go_wp2
                  all_goals (try omega)
                  all_goals (go_ret; exact ⟨rfl, rfl⟩)
            · obtain rfl : k = s.size := by omega
              have hall' : s.data.toList.all sg = true := by rw [← hl, List.take_length] at hall; exact hall
              obtain rfl : R = true := hR.symm.trans hall'
              clear hR hall' hall
              go_wp2
              go_ret
              exact ⟨rfl, rfl⟩
end Go.Proofs.Ytfgcbpchapkjbaa
