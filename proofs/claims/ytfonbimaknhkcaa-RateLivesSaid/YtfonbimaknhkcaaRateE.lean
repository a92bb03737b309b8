/-
  RateBounds: the walk.
-/
import Derived.Test.YtfonbimaknhkcaaRateC
import Derived.Test.YtfonbimaknhkcaaRows2
namespace Go.Proofs.Ytfonbimaknhkcaa
open Go.RowKit

theorem bound_step (E M l n N T : Int) (h : Bd E M l n) (hn : n ≤ N) (hN : N ≤ 1099511627776) (hT : T + l ≤ M + n / E) : nowOf n N = N ∧ T + leftOf E M l n N ≤ M + N / E ∧ Bd E M (leftOf E M l n N) N := by
  have e : nowOf n N = N := by unfold nowOf; omega
  have h2 := h.pass N
  rw [e] at h2
  refine ⟨e, ?_, h2⟩
  unfold leftOf
  rw [e]
  omega
theorem bound_take (E M L N T : Int) (h : Bd E M L N) (hT : T + L ≤ M + N / E) : (L = 0 ∧ tookB L = false ∧ takenOf L = 0) ∨ (1 ≤ L ∧ tookB L = true ∧ takenOf L = L - 1) := by
  obtain ⟨h1, h2, h3, h4, h5, h6, h7, h8⟩ := h
  rcases Int.lt_or_le 0 L with h0 | h0
  · exact .inr ⟨by omega, by simp [tookB]; omega, by simp [takenOf]; omega⟩
  · obtain rfl : L = 0 := by omega
    exact .inl ⟨rfl, rfl, rfl⟩

theorem left_again (E M L N : Int) (h : Bd E M L N) : leftOf E M L N N = L ∧ nowOf N N = N := by
  obtain ⟨h1, h2, h3, h4, h5, h6, h7, h8⟩ := h
  have e : nowOf N N = N := by unfold nowOf; omega
  exact ⟨by unfold leftOf; rw [e]; omega, e⟩

def BRel (w : World) (g : Nat) (E M N T : Int) (wr : World) : Prop := ∃ l n, Blk wr g 42 (B4 E M l n) ∧ Bd E M l n ∧ n ≤ N ∧ T + l ≤ M + n / E ∧ Below w.heap.size w wr

set_option maxHeartbeats 1000000 in
theorem bounds_walk (e m : Int) (a : Option Addr) (len cap : Nat) (zs : List Int) (w : World) (he : 0 ≤ e ∧ e ≤ 255) (hm : 0 ≤ m ∧ m ≤ 255) (hr : IntRow .u8 w a len zs) :
    Calls Try.prog 4 #[.int .u8 e, .int .u8 m, .slice a len cap] w fun r w' => r = .returned (.bool true) ∧ Below w.heap.size w w' := by
  obtain ⟨he1, he2⟩ := he
  obtain ⟨hm1, hm2⟩ := hm
  have hl0 := hr.1
  by_cases hl : 200 < len
  · go_enter Try.func4, Try.ntmps4
    go_wp2_with fail
    refine (awake_any _).mono ?_
    rintro r w' ⟨rfl, hb⟩
    go_wp2
    go_ret
    exact ⟨rfl, hb⟩
  · have hl2 : len ≤ 200 := by omega
    have hm3 : 0 ≤ m % 20 := by omega
    have hm4 : m % 20 < 20 := by omega
    obtain ⟨E, hE⟩ : ∃ E, 1 + e = E := ⟨_, rfl⟩
    obtain ⟨M, hM⟩ : ∃ M, 1 + m % 20 = M := ⟨_, rfl⟩
    have okE : OkNum E := ⟨by omega, by omega⟩
    have okM : OkNum M := ⟨by omega, by omega⟩
    have hM1 : 1 ≤ M := by omega
    have hM2 : M ≤ 20 := by omega
    have hE1 : 1 ≤ E := by omega
    have hE2 : E ≤ 256 := by omega
    go_enter Try.func4, Try.ntmps4
    go_wp2_with fail
    refine (new_ok E M _ okE okM).mono ?_
    clear hE hM he1 he2 hm1 hm2 hm3 hm4
    rintro r w1 ⟨rfl, hb, hw⟩
    generalize hG : w.heap.size = g at *
    have HG := Lib.hid hG
    clear hG
    go_wp2_with fail
    go_loopw [11, 12, 40] (fun now took i wr => ∃ (k : Nat) (N T : Int), k ≤ len ∧ i = .int .i64 k ∧ now = .int .i64 N ∧ took = .int .i64 T ∧ 0 ≤ N ∧ N ≤ 255 * k ∧ 0 ≤ T ∧ BRel w g E M N T wr) (fun _ _ i _ => len - (intOf i).toNat)
    case atStart => exact ⟨0, 0, 0, Nat.zero_le _, rfl, rfl, rfl, by omega, by omega, by omega, M, 0, hb, ⟨okE.1, okE.2, by omega, by omega, okM.1, okM.2, by omega, by omega⟩, by omega, by simp, by rw [HG.out]; exact hw⟩
    case round =>
      obtain ⟨k, N, T, hk, rfl, rfl, rfl, hN1, hN2, hT1, l, n, hb', hbd, hn, hT, hbel⟩ := hrel
      have hbG : Below w.heap.size w wr := hbel
      by_cases hlt : k < len
      · obtain ⟨b, off, z, rfl, hbk, hcell, hzeq, hz⟩ := hr.at_ hbG hlt
        clear hzeq
        have hz' := bounds_u8 hz
        obtain ⟨hz1, hz2⟩ := hz'
        obtain ⟨N', hN'⟩ : ∃ N', N + z = N' := ⟨_, rfl⟩
        have n1 : 0 ≤ N' := by omega
        have n2 : N' ≤ 255 * (k + 1) := by omega
        have n3 : n ≤ N' := by omega
        have HB := Lib.hid hb'
        clear hb' hb hz
        go_wp2_with fail
        clear hN' hcell
        obtain ⟨wo, rfl⟩ : ∃ wo : World, wo = wr := ⟨_, rfl⟩
        go_loopw [12, 48] (fun took j wi => ∃ (c : Nat) (T : Int), c ≤ 3 ∧ j = .int .i64 c ∧ took = .int .i64 T ∧ 0 ≤ T ∧ BRel w g E M N' T wi) (fun _ j _ => 3 - (intOf j).toNat)
        case atStart => exact ⟨0, T, by omega, rfl, rfl, hT1, l, n, HB.out, hbd, n3, hT, hbG⟩
        case round =>
          obtain ⟨c, T2, hc, rfl, rfl, hT2, l2, n2', hb2, hbd2, hn2, hTT2, hbel2⟩ := hrel
          obtain ⟨eN, hTL, hbd3⟩ := bound_step E M l2 n2' N' T2 hbd2 hn2 (by omega) hTT2
          have q1 : N' / E ≤ N' := Int.ediv_le_self _ n1
          have q2 : 0 ≤ N' / E := Int.ediv_nonneg n1 (by omega)
          have hgl : w.heap.size ≤ g := by rw [HG.out]; exact Nat.le_refl _
          by_cases hc3 : c < 3
          · have ht := take_any g E M l2 n2' N' wr hb2 hbd2
            rw [eN] at ht
            clear eN hTT2 hbd2 hb2 hn2
            generalize leftOf E M l2 n2' N' = L at *
            have hbt := bound_take E M L N' T2 hbd3 hTL
            have hL0 : 0 ≤ L := hbd3.2.2.1
            have t1 : T2 ≤ 100000 := by omega
            rcases hbt with ⟨hL, hk1, hk2⟩ | ⟨hL, hk1, hk2⟩
            · rw [hk1, hk2] at ht
              have HT := Lib.hid ht
              have HL := Lib.hid hL
              clear ht hk1 hk2 hL
              go_wp2_with fail
              refine HT.out.mono ?_
              rintro r w2 ⟨rfl, hb2, hg2⟩
              go_wp2
              go_roundw
              case rel => exact ⟨c + 1, T2, by omega, by go_num, rfl, hT2, 0, N', hb2, by have := HL.out; subst this; exact hbd3, by omega, by have := HL.out; omega, hbel2.trans (below_only hg2 hbel2.size hgl)⟩
              case measure => simp [intOf]; omega
            · rw [hk1, hk2] at ht
              have HT := Lib.hid ht
              clear ht hk1 hk2
              go_wp2_with fail
              refine HT.out.mono ?_
              rintro r w2 ⟨rfl, hb2, hg2⟩
              go_wp2
              go_roundw
              case rel => exact ⟨c + 1, T2 + 1, by omega, by go_num, rfl, by omega, L - 1, N', hb2, ⟨hbd3.1, hbd3.2.1, by omega, by have := hbd3.2.2.2.1; omega, hbd3.2.2.2.2⟩, by omega, by omega, hbel2.trans (below_only hg2 hbel2.size hgl)⟩
              case measure => simp [intOf]; omega
          · have ht := left_any g E M l2 n2' N' wr hb2 hbd2
            rw [eN] at ht
            clear eN hTT2 hbd2 hb2 hn2
            generalize leftOf E M l2 n2' N' = L at *
            have hL0 : 0 ≤ L := hbd3.2.2.1
            have hL1 : L ≤ M := hbd3.2.2.2.1
            have t1 : T2 ≤ M + N' / E := by omega
            have t2 : T2 ≤ 100000 := by omega
            obtain ⟨a1, a2⟩ := left_again E M L N' hbd3
            have HA1 := Lib.hid a1
            have HA2 := Lib.hid a2
            have HT := Lib.hid ht
            clear ht a1 a2
            go_wp2_with fail
            refine HT.out.mono ?_
            rintro r w2 ⟨rfl, hb2, hg2⟩
            go_wp2_with fail
            refine (left_any g E M L N' N' w2 hb2 hbd3).mono ?_
            rintro r w3 ⟨rfl, hb3, hg3⟩
            rw [HA1.out, HA2.out] at hb3
            rw [HA1.out]
            go_wp2
            go_roundw
            case rel => exact ⟨k + 1, N', T2, by omega, by go_num, rfl, rfl, n1, by omega, hT2, L, N', hb3, hbd3, by omega, hTL, hbel2.trans (below_only (only_trans hg2 hg3) hbel2.size hgl)⟩
            case measure => simp [intOf]; omega
      · go_wp2_with fail
        refine (awake_any _).mono ?_
        rintro r w2 ⟨rfl, hb2⟩
        go_wp2
        go_ret
        exact ⟨rfl, hbG.trans (hb2.mono hbG.size)⟩
end Go.Proofs.Ytfonbimaknhkcaa
