/-
  RateWaits: the walk.
-/
import Derived.Test.YtfonbimaknhkcaaRateE
namespace Go.Proofs.Ytfonbimaknhkcaa
open Go.RowKit

theorem wait_div (E N : Int) (hE : 1 ≤ E) : 1 ≤ E - N % E ∧ E - N % E ≤ E ∧ (N + (E - N % E)) / E = N / E + 1 ∧ (N + (E - N % E) - 1) / E = N / E := by
  have h1 := Int.emod_nonneg N (show E ≠ 0 by omega)
  have h2 := Int.emod_lt_of_pos N (show 0 < E by omega)
  have h3 := Int.emod_add_mul_ediv N E
  refine ⟨by omega, by omega, ?_, ?_⟩
  · have e : N + (E - N % E) = E * (N / E + 1) := by rw [Int.mul_add]; omega
    rw [e]
    exact Int.mul_ediv_cancel_left _ (by omega)
  · have e : N + (E - N % E) - 1 = (E - 1) + E * (N / E) := by omega
    rw [e, Int.add_mul_ediv_left _ _ (by omega), Int.ediv_eq_zero_of_lt (by omega) (by omega)]
    omega

/-- What a bucket of which nothing is left answers from then on: D is how long one waits. -/
theorem wait_after (E N : Int) (hE : 1 ≤ E) (hE2 : E ≤ 1048576) (hN : 0 ≤ N) (hN2 : N ≤ 1000000) : ∃ D, 1 ≤ D ∧ D ≤ E ∧ waitOf E 0 N = D ∧
    (leftOf E 2 0 N (N + D - 1) = 0 ∧ nowOf N (N + D - 1) = N + D - 1) ∧ (leftOf E 2 0 (N + D - 1) (N + D) = 1 ∧ nowOf (N + D - 1) (N + D) = N + D) := by
  obtain ⟨a, b, c, d⟩ := wait_div E N hE
  generalize hD : E - N % E = D at *
  refine ⟨D, a, b, by unfold waitOf; rw [if_neg (by omega)]; exact hD, ⟨?_, ?_⟩, ?_, ?_⟩
  · have : nowOf N (N + D - 1) = N + D - 1 := by unfold nowOf; omega
    unfold leftOf; rw [this, d]; omega
  · unfold nowOf; omega
  · have : nowOf (N + D - 1) (N + D) = N + D := by unfold nowOf; omega
    unfold leftOf; rw [this, c, d]; omega
  · unfold nowOf; omega

def WRel (w : World) (g : Nat) (E N : Int) (wr : World) : Prop := ∃ l n, Blk wr g 42 (B4 E 2 l n) ∧ Bd E 2 l n ∧ n ≤ N ∧ Below w.heap.size w wr

set_option maxHeartbeats 1000000 in
theorem waits_walk (e : Int) (a : Option Addr) (len cap : Nat) (zs : List Int) (w : World) (he : 0 ≤ e ∧ e ≤ 255) (hr : IntRow .u8 w a len zs) :
    Calls Try.prog 5 #[.int .u8 e, .slice a len cap] w fun r w' => r = .returned (.bool true) ∧ Below w.heap.size w w' := by
  obtain ⟨he1, he2⟩ := he
  have hl0 := hr.1
  obtain ⟨E, hE⟩ : ∃ E, 1 + e = E := ⟨_, rfl⟩
  have okE : OkNum E := ⟨by omega, by omega⟩
  have hE1 : 1 ≤ E := by omega
  have hE2 : E ≤ 256 := by omega
  by_cases hl : 100 < len
  · go_enter Try.func5, Try.ntmps5
    go_wp2_with fail
    refine (new_ok E 2 _ okE (by decide)).mono ?_
    rintro r w1 ⟨rfl, hb, hw⟩
    go_wp2_with fail
    refine (awake_any _).mono ?_
    rintro r w' ⟨rfl, hb⟩
    go_wp2
    go_ret
    exact ⟨rfl, hw.trans (hb.mono hw.size)⟩
  · have hl2 : len ≤ 100 := by omega
    go_enter Try.func5, Try.ntmps5
    go_wp2_with fail
    refine (new_ok E 2 _ okE (by decide)).mono ?_
    rintro r w1 ⟨rfl, hb, hw⟩
    generalize hG : w.heap.size = g at *
    have HG := Lib.hid hG
    clear hG
    go_wp2_with fail
    go_loopw [7, 37] (fun now i wr => ∃ (k : Nat) (N : Int), k ≤ len ∧ i = .int .i64 k ∧ now = .int .i64 N ∧ 0 ≤ N ∧ N ≤ 259 * k ∧ WRel w g E N wr) (fun _ i _ => len - (intOf i).toNat)
    case atStart => exact ⟨0, 0, Nat.zero_le _, rfl, rfl, by omega, by omega, 2, 0, hb, ⟨okE.1, okE.2, by omega, by omega, by omega, by omega, by omega, by omega⟩, by omega, by rw [HG.out]; exact hw⟩
    case round =>
      obtain ⟨k, N, hk, rfl, rfl, hN1, hN2, l, n, hb', hbd, hn, hbel⟩ := hrel
      have hbG : Below w.heap.size w wr := hbel
      have hgl : w.heap.size ≤ g := by rw [HG.out]; exact Nat.le_refl _
      by_cases hlt : k < len
      · obtain ⟨b, off, z, rfl, hbk, hcell, hzeq, hz⟩ := hr.at_ hbG hlt
        clear hzeq
        have hz' := bounds_u8 hz
        obtain ⟨hz1, hz2⟩ := hz'
        have hz3 : 0 ≤ z % 4 := by omega
        have hz4 : z % 4 < 4 := by omega
        obtain ⟨N', hN'⟩ : ∃ N', N + z % 4 = N' := ⟨_, rfl⟩
        have n1 : 0 ≤ N' := by omega
        have n2 : N' ≤ 259 * k + 3 := by omega
        have n3 : n ≤ N' := by omega
        obtain ⟨eN, _, hbd3⟩ := bound_step E 2 l n N' (2 + n / E - l) hbd n3 (by omega) (by omega)
        have ht := take_any g E 2 l n N' wr hb' hbd
        rw [eN] at ht
        generalize leftOf E 2 l n N' = L at *
        have hbt := bound_take E 2 L N' (2 + N' / E - L) hbd3 (by omega)
        clear eN hb' hb hz
        rcases hbt with ⟨hL, hk1, hk2⟩ | ⟨hL, hk1, hk2⟩
        · rw [hk1, hk2] at ht
          subst hL
          obtain ⟨D, hD1, hD2, hD3, ⟨x1, x2⟩, y1, y2⟩ := wait_after E N' hE1 (by omega) n1 (by omega)
          have HT := Lib.hid ht
          have HD := Lib.hid hD3
          have X1 := Lib.hid x1
          have X2 := Lib.hid x2
          have Y1 := Lib.hid y1
          have Y2 := Lib.hid y2
          clear ht hk1 hk2 hD3 x1 x2 y1 y2
          have hA := left_again E 2 0 N' hbd3
          have A1 := Lib.hid hA.1
          have A2 := Lib.hid hA.2
          clear hA
          go_wp2_with fail
          refine HT.out.mono ?_
          rintro r w2 ⟨rfl, hb2, hg2⟩
          go_wp2_with fail
          refine (wait_any g E 2 0 N' N' w2 hb2 hbd3).mono ?_
          rintro r w3 ⟨rfl, hb3, hg3⟩
          rw [A1.out, A2.out] at hb3
          rw [A1.out, A2.out, HD.out]
          by_cases hd : D = 1
          · subst hd
            go_wp2_with fail
            have hbd4 : Bd E 2 0 N' := hbd3
            have e1 : N' + 1 - 1 = N' := by omega
            rw [e1] at Y1 Y2
            refine (take_any g E 2 0 N' (N' + 1) w3 hb3 hbd3).mono ?_
            rintro r w4 ⟨rfl, hb4, hg4⟩
            rw [Y1.out, Y2.out] at hb4
            rw [Y1.out]
            rw [show tookB 1 = true from by decide]
            rw [show takenOf 1 = 0 from by decide] at hb4
            clear e1
            go_wp2
            go_roundw
            case rel => exact ⟨k + 1, N' + 1, by omega, by go_num, rfl, by omega, by omega, 0, N' + 1, hb4, ⟨okE.1, okE.2, by omega, by omega, by omega, by omega, by omega, by omega⟩, by omega, hbG.trans (below_only (only_trans (only_trans hg2 hg3) hg4) hbG.size hgl)⟩
            case measure => simp [intOf]; omega
          · have hd2 : 1 < D := by omega
            clear hd
            go_wp2_with fail
            refine (take_any g E 2 0 N' (N' + D - 1) w3 hb3 hbd3).mono ?_
            rintro r w4 ⟨rfl, hb4, hg4⟩
            rw [X1.out, X2.out] at hb4
            rw [X1.out]
            rw [show tookB 0 = false from by decide]
            rw [show takenOf 0 = 0 from by decide] at hb4
            go_wp2_with fail
            refine (take_any g E 2 0 (N' + D - 1) (N' + D) w4 hb4 ⟨okE.1, okE.2, by omega, by omega, by omega, by omega, by omega, by omega⟩).mono ?_
            rintro r w5 ⟨rfl, hb5, hg5⟩
            rw [Y1.out, Y2.out] at hb5
            rw [Y1.out]
            rw [show tookB 1 = true from by decide]
            rw [show takenOf 1 = 0 from by decide] at hb5
            go_wp2
            go_roundw
            case rel => exact ⟨k + 1, N' + D, by omega, by go_num, rfl, by omega, by omega, 0, N' + D, hb5, ⟨okE.1, okE.2, by omega, by omega, by omega, by omega, by omega, by omega⟩, by omega, hbG.trans (below_only (only_trans (only_trans (only_trans hg2 hg3) hg4) hg5) hbG.size hgl)⟩
            case measure => simp [intOf]; omega
        · rw [hk1, hk2] at ht
          have HT := Lib.hid ht
          clear ht hk1 hk2
          go_wp2_with fail
          refine HT.out.mono ?_
          rintro r w2 ⟨rfl, hb2, hg2⟩
          go_wp2
          go_roundw
          case rel => exact ⟨k + 1, N', by omega, by go_num, rfl, by omega, by omega, L - 1, N', hb2, ⟨hbd3.1, hbd3.2.1, by omega, by have := hbd3.2.2.2.1; omega, hbd3.2.2.2.2⟩, by omega, hbG.trans (below_only hg2 hbG.size hgl)⟩
          case measure => simp [intOf]; omega
      · go_wp2_with fail
        refine (awake_any _).mono ?_
        rintro r w2 ⟨rfl, hb2⟩
        go_wp2
        go_ret
        exact ⟨rfl, hbG.trans (hb2.mono hbG.size)⟩
end Go.Proofs.Ytfonbimaknhkcaa
