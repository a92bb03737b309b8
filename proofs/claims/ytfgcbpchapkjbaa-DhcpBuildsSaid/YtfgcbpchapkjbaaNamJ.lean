/-
  name: the name with which bytes begin, by the document (ref Take).
-/
import Derived.Test.YtfgcbpchapkjbaaNamI
namespace Go.Proofs.Ytfgcbpchapkjbaa
open Go.RowKit

theorem bs_append (a b : List UInt8) : bs a ++ bs b = bs (a ++ b) := by
  apply ByteArray.ext
  simp [bs]

set_option maxRecDepth 100000 in
set_option maxHeartbeats 4000000 in
theorem rtake_any (A : Option Addr) (n c : Nat) (d : List UInt8) (w : World) (h : BReads w A n (nums d)) (hc : n ≤ c) (hn : n ≤ 1048576) :
    Calls Try.prog 11 #[.slice A n c] w fun e w' => e = .returned (tkV (takeFrom d 0 [])) ∧ w = w' := by
  obtain rfl : d.length = n := by have := h.len; rw [nums_length] at this; exact this
  obtain ⟨R, hR⟩ : ∃ R, takeFrom d 0 [] = R := ⟨_, rfl⟩
  rw [hR]
  have H := Lib.hid h
  clear h
  go_enter Try.func11, Try.ntmps11
  go_wp2
  go_loopw [5, 6] (fun v i wr => ∃ (k : Nat) (acc : List UInt8), i = .int .i64 k ∧ k ≤ d.length ∧ v = .string (bs acc) ∧ takeFrom d k acc = R ∧ acc.length ≤ k ∧ w = wr) (fun _ i _ => d.length - (intOf i).toNat)
  case atStart => exact ⟨0, [], rfl, by omega, rfl, hR, by simp, rfl⟩
  case round =>
    obtain ⟨k, acc, rfl, hk, rfl, hT, hal, rfl⟩ := hrel
    clear hR
    have HT := Lib.hid hT
    clear hT
    by_cases hlt : k < d.length
    · obtain ⟨ad, u, rfl, had, hu, hcw⟩ := H.out.1.at_ hlt
      obtain ⟨m, hm⟩ : ∃ m, (d.getD k 0).toNat = m := ⟨_, rfl⟩
      have hub : m < 256 := by rw [← hm]; exact (d.getD k 0).toNat_lt
      obtain rfl : u = .int .u8 (m : Int) := by
        have hk' : k < d.length := hlt
        simp [nums, hk'] at hu
        rw [← hu, ← hm]
        simp [List.getD_eq_getElem?_getD, hk']
      by_cases h0 : m = 0
      · subst h0
        have hRR := HT.out
        rw [take_zero hm hlt rfl] at hRR
        subst hRR
        go_wp2_with fail
        go_ret3
        exact ⟨by rfl, rfl⟩
      · by_cases h1 : 63 < m ∨ 255 < k + m + 2
        · have hRR := HT.out
          rw [take_long hm hlt h0 h1] at hRR
          subst hRR
          rcases Nat.lt_or_ge 63 m with h2 | h2
          · clear h1
            go_wp2_with fail
            go_ret3
            exact ⟨rfl, rfl⟩
          · have h3 : 255 < k + m + 2 := by omega
            clear h1
            go_wp2_with fail
            go_ret3
            exact ⟨rfl, rfl⟩
        · have h2 : m ≤ 63 := by omega
          have h3 : k + m + 2 ≤ 255 := by omega
          by_cases h4 : d.length - k - 1 < m
          · have hRR := HT.out
            rw [take_short hm hlt h0 h1 h4] at hRR
            subst hRR
            have h5 : d.length < k + 1 + m := by omega
            clear h1 h4
            go_wp2_with fail
            go_ret3
            exact ⟨rfl, rfl⟩
          · have h5 : k + 1 + m ≤ d.length := by omega
            obtain ⟨A2, c2, hsl, hcv⟩ := piece_runs (P := Try.prog) (w := w) (t := 22) (e := 5) (s := 9) Try.underlying22 Try.underlying5 Try.underlying9 byte_size H.out hc (k + 1) m h5 (by omega)
            have hcv' := hcv w (Below.refl _ _)
            rw [show ((k + 1 : Nat) : Int) = (k : Int) + 1 by omega] at hsl
            obtain ⟨x, hx⟩ : ∃ x, (d.drop (k + 1)).take m = x := ⟨_, rfl⟩
            have hxl : x.length = m := by rw [← hx, List.length_take, List.length_drop]; omega
            rw [hx] at hcv'
            clear hcv
            cases hlx : lab x with
            | false =>
              have hRR := HT.out
              rw [take_bad hm hlt h0 h1 h4 (by rw [hx]; exact hlx)] at hRR
              subst hRR
              clear h1 h4
              go_wp2_with (go_at_call 36; refine (label_any (bs x) (by rw [bs_size]; omega) _).mono ?_; rintro r w5 ⟨rfl, rfl⟩; rw [bs_data, hlx])
              go_ret3
              exact ⟨rfl, rfl⟩
            | true =>
              have hnext := HT.out
              rw [take_next hm hlt h0 h1 h4 (by rw [hx]; exact hlx), hx] at hnext
              have HN := Lib.hid hnext
              clear h1 h4 hnext
              have hs0 : (bs acc).size = acc.length := rfl
              have hs1 : (bs acc ++ ⟨#[46]⟩).size = acc.length + 1 := by rw [show (⟨#[46]⟩ : ByteArray) = bs [46] from rfl, bs_append]; simp [bs_size]
              have hs2 : (bs x).size = m := hxl
              by_cases hk0 : 0 < k
              · rw [if_pos hk0] at HN
                go_wp2_with (go_at_call 36; refine (label_any (bs x) (by rw [bs_size]; omega) _).mono ?_; rintro r w5 ⟨rfl, rfl⟩; rw [bs_data, hlx])
                all_goals (try omega)
                refine ⟨⟨k + 1 + m, acc ++ [46] ++ x, by go_num, h5, ?_, HN.out, by simp; omega, by trivial⟩, by simp [intOf]; omega⟩
                rw [← bs_append, ← bs_append]; rfl
              · rw [if_neg hk0] at HN
                have hd : decide ((0 : Int) < (k : Int)) = false := by simp; omega
                go_wp2_with (go_at_call 36; refine (label_any (bs x) (by rw [bs_size]; omega) _).mono ?_; rintro r w5 ⟨rfl, rfl⟩; rw [bs_data, hlx])
                all_goals (try omega)
                refine ⟨⟨k + 1 + m, acc ++ x, by go_num, h5, ?_, HN.out, by simp; omega, by trivial⟩, by simp [intOf]; omega⟩
                rw [← bs_append]
    · obtain rfl : k = d.length := by omega
      have hRR := HT.out
      rw [take_end (Nat.le_refl _)] at hRR
      subst hRR
      go_wp2
      go_ret3
      exact ⟨rfl, rfl⟩
end Go.Proofs.Ytfgcbpchapkjbaa
