/-
  name: the test for a label (name.right).
-/
import Derived.Test.YtfgcbpchapkjbaaNamB
namespace Go.Proofs.Ytfgcbpchapkjbaa
open Go.RowKit

theorem below_bytes (w : World) (e : TypeId) (s : ByteArray) : Below w.heap.size w (Lib.bytesWorld w e s) :=
  ⟨by simp [Lib.bytesWorld, World.freeze, World.alloc, World.drew, -World.alloc_eq, -World.drew_eq], by simp [Lib.bytesWorld, World.freeze, World.alloc, World.drew, -World.alloc_eq, -World.drew_eq],
    by simp [Lib.bytesWorld, World.freeze, World.alloc, World.drew, -World.alloc_eq, -World.drew_eq], by rw [Lib.bytesWorld_size]; omega, fun i hi => Lib.bytesWorld_at_old w e s i hi⟩

set_option maxHeartbeats 2000000 in
theorem right_any (s : ByteArray) (hs : s.size ≤ 1099511627776) (w : World) : Calls Try.prog 34 #[.string s] w fun e w' => e = .returned (.bool (lab s.data.toList)) ∧ Below w.heap.size w w' := by
  have hl := size_data s
  by_cases h1 : s.data.toList = []
  · obtain rfl : s = ⟨#[]⟩ := by
      cases s with | mk d => congr 1; simpa using h1
    go_enter Try.func34, Try.ntmps34
    go_wp2
    go_ret
    exact ⟨rfl, Below.refl _ _⟩
  · have h0 : 0 < s.size := by rw [← hl]; exact List.length_pos_iff.2 h1
    have he : ¬ s.toList = [] := by rw [ByteArray.toList_eq]; exact h1
    have he2 : (s.toList == []) = false := by simpa using he
    clear h1
    by_cases h2 : 63 < s.size
    · go_enter Try.func34, Try.ntmps34
      go_wp2
      go_ret
      exact ⟨by simp [lab, hl]; omega, Below.refl _ _⟩
    · obtain ⟨x0, hx0⟩ : ∃ x : Int, ((s.data.toList.getD 0 0).toNat : Int) = x := ⟨_, rfl⟩
      obtain ⟨x1, hx1⟩ : ∃ x : Int, ((s.data.toList.getD (s.size - 1) 0).toNat : Int) = x := ⟨_, rfl⟩
      have i0 : ∀ w, (Instr.index 9 (.string s) (.int .i64 0)).run Try.prog w = .ok (.int .u8 x0) w := hx0 ▸ idx_string (P := Try.prog) s 0 Try.underlying9 (by omega)
      have i1 := idx_string (P := Try.prog) s (s.size - 1) Try.underlying9 (by omega)
      have e1 : (((s.size - 1 : Nat) : Int)) = (s.size : Int) - 1 := by omega
      rw [e1, hx1] at i1
      have hlab : lab s.data.toList = (!decide (x0 = 45) && !decide (x1 = 45) && s.data.toList.all sg) := by
        simp only [lab, hl]
        rw [show decide (1 ≤ s.size) = true by simp; omega, show decide (s.size ≤ 63) = true by simp; omega]
        simp only [Bool.true_and, decide_not]
        congr 2
        · congr 1; rw [decide_eq_decide, ← hx0]; exact (byte_ne _).symm
        · congr 1; rw [decide_eq_decide, ← hx1]; exact (byte_ne _).symm
      rw [hlab]
      clear hx0 hx1 hlab e1
      by_cases c0 : x0 = 45
      · go_enter Try.func34, Try.ntmps34
        go_wp2
        go_ret
        exact ⟨by simp [c0], Below.refl _ _⟩
      · by_cases c1 : x1 = 45
        · go_enter Try.func34, Try.ntmps34
          go_wp2
          go_ret
          exact ⟨by simp [c1], Below.refl _ _⟩
        · simp only [c0, c1, decide_false, Bool.not_false, Bool.true_and]
          obtain ⟨R, hR⟩ : ∃ R, s.data.toList.all sg = R := ⟨_, rfl⟩
          rw [hR]
          have d0 : (x0 == 45) = false := by simp [c0]
          have d1 : (x1 == 45) = false := by simp [c1]
          have d3 : decide (63 < (s.size : Int)) = false := by simp; omega
          have hcv := fun w : World => Lib.run_convert_string_bytes (P := Try.prog) w 9 22 5 s Try.underlying9 Try.underlying22 Try.underlying5
          have hb := below_bytes w 5 s
          have hc := fun j => Lib.bytesWorld_cell w 5 s j
          go_enter Try.func34, Try.ntmps34
          go_wp2
          change Code.wp _ _ _ _ (Lib.bytesWorld w 5 s)
          generalize Lib.bytesWorld w 5 s = W at hb hc ⊢
          generalize grownCap w s.size 0 5 = cp at *
          clear hcv i0 i1 c0 c1 d0 d1 d3
          go_loopw [28] (fun i wr => ∃ k : Nat, k ≤ s.size ∧ i = .int .i64 k ∧ (s.data.toList.take k).all sg = true ∧ W = wr) (fun i _ => s.size - (intOf i).toNat)
          case atStart => exact ⟨0, by omega, rfl, by simp, rfl⟩
          case round =>
            obtain ⟨k, hk, rfl, hall, rfl⟩ := hrel
            by_cases hlt : k < s.size
            · have hcc := hc k hlt
              clear hc
              obtain ⟨c, hc⟩ : ∃ c : Int, ((s.data.toList.getD k 0).toNat : Int) = c := ⟨_, rfl⟩
              rw [hc] at hcc
              have hnx : (s.data.toList.take (k + 1)).all sg = sgI c := by
                rw [List.take_add_one, List.all_append, hall, ← hc]
                have hk' : k < s.data.toList.length := by omega
                simp [sg, List.getD_eq_getElem?_getD, List.getElem?_eq_getElem hk']
              have hno : sgI c = false → s.data.toList.all sg = false := by
                intro h
                rw [← hnx] at h
                rw [← List.take_append_drop (k + 1) s.data.toList, List.all_append, h, Bool.false_and]
              by_cases hs : sgI c = true
              · clear hno hc
                go_wp2_with (go_at_call 49; refine (sign_any _ _).mono ?_; rintro r w' ⟨rfl, rfl⟩; rw [hs])
                go_roundw
                case rel => exact ⟨k + 1, by omega, by go_num, by rw [hnx, hs], by trivial⟩
                case measure => simp [intOf]; omega
              · have hs' : sgI c = false := by simpa using hs
                obtain rfl : R = false := hR.symm.trans (hno hs')
                clear hR hnx hno hc hs
                go_wp2_with (go_at_call 49; refine (sign_any _ _).mono ?_; rintro r w' ⟨rfl, rfl⟩; rw [hs'])
                go_ret
                exact ⟨rfl, hb⟩
            · obtain rfl : k = s.size := by omega
              have hall' : s.data.toList.all sg = true := by rw [← hl, List.take_length] at hall; exact hall
              obtain rfl : R = true := hR.symm.trans hall'
              clear hR hall' hall
              go_wp2
              go_ret
              exact ⟨rfl, hb⟩
end Go.Proofs.Ytfgcbpchapkjbaa
