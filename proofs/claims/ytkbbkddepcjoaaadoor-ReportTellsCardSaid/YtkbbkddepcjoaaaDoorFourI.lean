/-
  four: the address that a text says, by the document.
-/
import Derived.Test.YtkbbkddepcjoaaaDoorFourH
namespace Go.Proofs.YtkbbkddepcjoaaaDoor
open Go.RowKit

theorem run_snoc (q : Nat × Nat) (x : List UInt8) (c : UInt8) : run q (x ++ [c]) = (run q x).bind fun p => step p c := by
  rw [run_append]
  congr 1
  funext p
  show (step p c).bind (fun q' => run q' []) = step p c
  cases step p c <;> rfl
theorem run_dead {x r : List UInt8} (h : run (0, 0) x = none) : run (0, 0) (x ++ r) = none := by rw [run_append, h]; rfl
theorem ref_dead {s x r : List UInt8} (hs : s = x ++ r) (h : run (0, 0) x = none) : refV s = none := by
  unfold refV
  split
  · rfl
  · rw [hs, run_dead h]; rfl

set_option maxRecDepth 100000 in
set_option maxHeartbeats 4000000 in
theorem rparse_any (l : List UInt8) (hl : l.length ≤ 1048576) (w : World) : Calls Tryd.prog 55 #[.string (bs l)] w fun r w' => r = .returned (pvV (parseV l)) ∧ w = w' := by
  have hsz : (bs l).size = l.length := rfl
  rw [← ref_eq]
  by_cases h15 : 15 < l.length
  · have hv : refV l = none := by unfold refV; rw [if_pos h15]
    rw [hv]
    clear hv
    go_enter Tryd.func55, Tryd.ntmps55
    go_wp2
    go_ret2
    exact ⟨rfl, rfl⟩
  · obtain ⟨R, hR⟩ : ∃ R, refV l = R := ⟨_, rfl⟩
    have hrun := show refV l = (run (0, 0) l).bind fun q => if text (q.1 * 256 + q.2) = l then some (q.1 * 256 + q.2) else none by unfold refV; rw [if_neg h15]
    rw [hR] at hrun ⊢
    have HRUN := Lib.hid hrun
    have HR := Lib.hid hR
    clear hrun hR
    go_enter Tryd.func55, Tryd.ntmps55
    go_wp2
    go_loopw [4, 5, 6] (fun n p i wr => ∃ (k N P : Nat), i = .int .i64 k ∧ n = .int .i64 N ∧ p = .int .i64 P ∧ k ≤ l.length ∧ N ≤ 16777215 ∧ P ≤ 255 ∧ run (0, 0) (l.take k) = some (N, P) ∧ w = wr) (fun _ _ i _ => l.length - (intOf i).toNat)
    case atStart => exact ⟨0, 0, 0, rfl, rfl, rfl, by omega, by omega, by omega, rfl, rfl⟩
    case round =>
      obtain ⟨k, N, P, rfl, rfl, rfl, hk, hN, hP, hst, rfl⟩ := hrel
      by_cases hlt : k < l.length
      · have ik := idx_string (P := Tryd.prog) (bs l) k Tryd.underlying9 (by rw [hsz]; exact hlt)
        rw [bs_data] at ik
        obtain ⟨c, hc⟩ : ∃ c, l[k]? = some c := ⟨_, List.getElem?_eq_getElem hlt⟩
        have hgd : l.getD k 0 = c := by simp [List.getD_eq_getElem?_getD, hc]
        rw [hgd] at ik
        have htk : l.take (k + 1) = l.take k ++ [c] := by rw [List.take_add_one, hc]; rfl
        have hst2 : run (0, 0) (l.take (k + 1)) = step (N, P) c := by rw [htk, run_snoc, hst]; rfl
        have hdead : step (N, P) c = none → R = none := fun h => by
          rw [← HR.out]
          exact ref_dead (List.take_append_drop (k + 1) l).symm (hst2.trans h)
        have hcl := c.toNat_lt
        have H2 := Lib.hid hst2
        have HD := Lib.hid hdead
        clear hgd hc htk hst hst2 hdead
        by_cases hdot : c = 46
        · subst hdot
          by_cases hbig : N * 256 + P > 16777215
          · have hdd := Lib.hid (HD.out (by unfold step; rw [if_pos rfl, if_pos hbig]))
            have hd : decide ((16777215 : Int) < (N : Int) * 256 + (P : Int)) = true := by simp; omega
            go_wp2
            go_ret2
            exact ⟨by rw [hdd.out]; rfl, rfl⟩
          · have hnx := Lib.hid (show run (0, 0) (l.take (k + 1)) = some (N * 256 + P, 0) by rw [H2.out]; unfold step; rw [if_pos rfl, if_neg hbig])
            have hd : decide ((16777215 : Int) < (N : Int) * 256 + (P : Int)) = false := by simp; omega
            go_wp2
            exact ⟨⟨k + 1, N * 256 + P, 0, by go_num, by go_num, by go_num, hlt, by omega, by omega, hnx.out, trivial⟩, by simp [intOf]; omega⟩
        · have hne : ((c.toNat : Int) == 46) = false := by
            have : ¬ c.toNat = 46 := fun h => hdot ((byte_ne c 46 (by omega)).1 (by omega))
            simp
            omega
          cases hdg : isDig c with
          | false =>
            have hdd := Lib.hid (HD.out (by unfold step; rw [if_neg hdot, hdg]; rfl))
            have hout : c.toNat < 48 ∨ 57 < c.toNat := by
              unfold isDig at hdg
              have := of_decide_eq_false hdg
              omega
            obtain ⟨X, hX⟩ : ∃ X, c.toNat = X := ⟨_, rfl⟩
            rw [hX] at hout hcl hne ik
            clear hX hdot
            rcases hout with hout | hout
            · go_wp2
              go_ret2
              exact ⟨by rw [hdd.out]; rfl, rfl⟩
            · go_wp2
              go_ret2
              exact ⟨by rw [hdd.out]; rfl, rfl⟩
          | true =>
            obtain ⟨c0, c1⟩ := dig_le hdg
            by_cases hbig : P * 10 + (c.toNat - 48) > 255
            · have hdd := Lib.hid (HD.out (by unfold step; rw [if_neg hdot, hdg, if_pos rfl, if_pos (Or.inl hbig)]))
              obtain ⟨X, hX⟩ : ∃ X, c.toNat = X := ⟨_, rfl⟩
              rw [hX] at c0 c1 hcl hne ik hbig
              have hsub : ((X : Int) - 48) % 256 = (X : Int) - 48 := by omega
              have hd : decide ((255 : Int) < (P : Int) * 10 + ((X : Int) - 48)) = true := by simp; omega
              clear hX hdot
              go_wp2
              go_ret2
              exact ⟨by rw [hdd.out]; rfl, rfl⟩
            · have hnx := Lib.hid (show run (0, 0) (l.take (k + 1)) = some (N, P * 10 + (c.toNat - 48)) by rw [H2.out]; unfold step; rw [if_neg hdot, hdg, if_pos rfl, if_neg (by simp only; omega)])
              obtain ⟨X, hX⟩ : ∃ X, c.toNat = X := ⟨_, rfl⟩
              rw [hX] at c0 c1 hcl hne ik hbig hnx
              have hsub : ((X : Int) - 48) % 256 = (X : Int) - 48 := by omega
              have hd : decide ((255 : Int) < (P : Int) * 10 + ((X : Int) - 48)) = false := by simp; omega
              clear hX hdot
              go_wp2
              refine ⟨⟨k + 1, N, P * 10 + (X - 48), by go_num, by go_num, ?_, hlt, hN, by omega, hnx.out, trivial⟩, by simp [intOf]; omega⟩
              congr 1
              omega
      · obtain rfl : k = l.length := by omega
        rw [List.take_length] at hst
        have hfin := Lib.hid (show R = if text (N * 256 + P) = l then some (N * 256 + P) else none by rw [HRUN.out, hst]; rfl)
        have hrt : right ((N : Int) * 256 + P) = true := by unfold right; simp; omega
        have htv : textV ((N : Int) * 256 + P) = text (N * 256 + P) := by
          unfold textV
          rw [hrt, if_pos rfl]
          congr 1
        have hty := fun W => rtext_any ((N : Int) * 256 + P) W
        rw [htv] at hty
        obtain ⟨T, hT⟩ : ∃ T, text (N * 256 + P) = T := ⟨_, rfl⟩
        rw [hT] at hfin hty
        have HTY := Lib.hid hty
        have hlist : ((bs T).toList == (bs l).toList) = decide (T = l) := by
          rw [ByteArray.toList_eq, ByteArray.toList_eq, bs_data, bs_data]
          by_cases h : T = l
          · subst h; simp
          · simp [h]
        clear hst hrt htv hty hT
        by_cases hTl : T = l
        · subst hTl
          go_wp2_with fail
          refine (HTY.out _).mono ?_
          rintro r w1 ⟨rfl, rfl⟩
          go_wp2
          go_ret2
          refine ⟨?_, rfl⟩
          have hRs : R = some (N * 256 + P) := by rw [hfin.out]; simp
          rw [hRs]
          show Ending.returned (.tuple #[.int .i64 ((N : Int) * 256 + P), .int .i64 0]) = _
          unfold pvV
          simp
        · have hne : decide (T = l) = false := by simp [hTl]
          rw [hne] at hlist
          have hnb : ¬ bs T = bs l := fun h => hTl (by have := congrArg (fun b : ByteArray => b.data.toList) h; simpa [bs_data] using this)
          go_wp2_with fail
          refine (HTY.out _).mono ?_
          rintro r w1 ⟨rfl, rfl⟩
          go_wp2
          go_ret2
          exact ⟨by rw [hfin.out, if_neg hTl]; rfl, rfl⟩
end Go.Proofs.YtkbbkddepcjoaaaDoor
