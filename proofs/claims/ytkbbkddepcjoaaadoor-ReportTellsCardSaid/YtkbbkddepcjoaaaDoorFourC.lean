/-
  four: the document's digits and text.
-/
import Derived.Test.YtkbbkddepcjoaaaDoorFourB
namespace Go.Proofs.YtkbbkddepcjoaaaDoor
open Go.RowKit

def digs : ByteArray := ⟨#[48, 49, 50, 51, 52, 53, 54, 55, 56, 57]⟩
theorem dig_ex : ∀ k : Fin 10, (digs.extract k.val (k.val + 1)).data.toList = [UInt8.ofNat (48 + k.val)] := by decide +kernel
theorem dig_bs (k : Nat) (h : k < 10) : digs.extract k (k + 1) = bs [UInt8.ofNat (48 + k)] := by
  have := dig_ex ⟨k, h⟩
  rw [← bs_of (digs.extract k (k + 1))]
  simp only at this
  rw [this]

theorem bs_append (a b : List UInt8) : bs a ++ bs b = bs (a ++ b) := by
  apply ByteArray.ext
  simp [bs]

theorem dec_last (n : Nat) (h : 10 ≤ n) (h2 : n < 1000) : dec n = dec (n / 10) ++ [UInt8.ofNat (48 + n % 10)] := by
  rw [← dec_eq n h2, ← dec_eq (n / 10) (by omega), Lib.decDigits, dif_neg (by omega)]

set_option maxRecDepth 100000 in
set_option maxHeartbeats 2000000 in
theorem rdigits_step (x : Int) (n : Nat) (hx : x = n) (hn : n < 1000) (rec : 10 ≤ n → ∀ (x : Int) (w : World), x = (n / 10 : Nat) → Calls Tryd.prog 71 #[.int .i64 x] w fun r w' => r = .returned (.string (bs (dec (n / 10)))) ∧ w = w') (w : World) : Calls Tryd.prog 71 #[.int .i64 x] w fun r w' => r = .returned (.string (bs (dec n))) ∧ w = w' := by
  subst hx
  have hb := dig_bs (n % 10) (by omega)
  unfold digs at hb
  by_cases h10 : n < 10
  · have hv : dec n = [UInt8.ofNat (48 + n % 10)] := by unfold dec; rw [if_pos h10, show n % 10 = n by omega]
    rw [hv]
    have HB := Lib.hid hb
    clear hv hb rec
    go_enter Tryd.func71, Tryd.ntmps71
    go_wp2
    go_ret
    exact ⟨by rw [← HB.out]; rfl, rfl⟩
  · have hv := dec_last n (by omega) hn
    have REC := Lib.hid (rec (by omega))
    have HB := Lib.hid hb
    have HV := Lib.hid hv
    have h10' : (10 : Int) ≤ (n : Int) := by omega
    have hlen : ¬ 9223372036854775807 < (bs (dec (n / 10))).size + (min (n % 10 + 1) 10 - n % 10) := by
      have h1 := dec_len (n := n / 10) (by omega)
      rw [bs_size]
      omega
    clear hv hb rec
    go_enter Tryd.func71, Tryd.ntmps71
    go_wp2_with fail
    refine (REC.out _ _ (by omega)).mono ?_
    rintro r w' ⟨rfl, rfl⟩
    go_wp2
    go_ret
    refine ⟨?_, rfl⟩
    rw [HV.out, ← bs_append, ← HB.out]
    rfl

theorem rdigits_any (x : Int) (n : Nat) (hx : x = n) (hn : n < 1000) (w : World) : Calls Tryd.prog 71 #[.int .i64 x] w fun r w' => r = .returned (.string (bs (dec n))) ∧ w = w' :=
  rdigits_step x n hx hn (fun _ y w hy => rdigits_step y (n / 10) hy (by omega) (fun _ z w hz => rdigits_step z (n / 10 / 10) hz (by omega) (fun h _ _ _ => absurd h (by omega)) w) w) w

theorem four_parts (x0 x1 x2 x3 : List UInt8) : x0 ++ [46] ++ x1 ++ [46] ++ x2 ++ [46] ++ x3 = x0 ++ 46 :: (x1 ++ 46 :: (x2 ++ 46 :: x3)) := by simp

set_option maxRecDepth 100000 in
set_option maxHeartbeats 4000000 in
theorem rtext_any (a : Int) (w : World) : Calls Tryd.prog 51 #[.int .i64 a] w fun r w' => r = .returned (.string (bs (textV a))) ∧ w = w' := by
  cases hr : right a with
  | false =>
    have hv : textV a = [] := by unfold textV; rw [hr]; rfl
    rw [hv]
    clear hv
    go_enter Tryd.func51, Tryd.ntmps51
    go_wp2_with (go_at_call 70; refine (rright_any a _).mono ?_; rintro r w' ⟨rfl, rfl⟩; rw [hr])
    go_ret
    exact ⟨rfl, rfl⟩
  | true =>
    obtain ⟨h0, h1⟩ := right_spec hr
    obtain ⟨N, rfl⟩ := Int.eq_ofNat_of_zero_le h0
    have hv : textV (N : Int) = text N := by unfold textV; rw [hr]; rfl
    have HV := Lib.hid hv
    have hN : N < 4294967296 := by omega
    clear hv
    have hb : ∀ k : Nat, k < 256 → ∃ T : ByteArray, bs (dec k) = T ∧ T.size ≤ 3 := fun k hk => ⟨_, rfl, by rw [bs_size]; exact dec_len hk⟩
    obtain ⟨T0, h00, z0⟩ := hb (N / 16777216) (by omega)
    obtain ⟨T1, h11, z1⟩ := hb (N / 65536 % 256) (by omega)
    obtain ⟨T2, h22, z2⟩ := hb (N / 256 % 256) (by omega)
    obtain ⟨T3, h33, z3⟩ := hb (N % 256) (by omega)
    have d0 := fun W => rdigits_any ((N : Int) / 16777216) (N / 16777216) (by omega) (by omega) W
    have d1 := fun W => rdigits_any ((N : Int) / 65536 % 256) (N / 65536 % 256) (by omega) (by omega) W
    have d2 := fun W => rdigits_any ((N : Int) / 256 % 256) (N / 256 % 256) (by omega) (by omega) W
    have d3 := fun W => rdigits_any ((N : Int) % 256) (N % 256) (by omega) (by omega) W
    rw [h00] at d0
    rw [h11] at d1
    rw [h22] at d2
    rw [h33] at d3
    have hT : T0 ++ ⟨#[46]⟩ ++ T1 ++ ⟨#[46]⟩ ++ T2 ++ ⟨#[46]⟩ ++ T3 = bs (text N) := by
      rw [← h00, ← h11, ← h22, ← h33, show (⟨#[46]⟩ : ByteArray) = bs [46] from rfl]
      simp only [bs_append]
      exact congrArg bs (four_parts _ _ _ _)
    have HT := Lib.hid hT
    have D0 := Lib.hid d0
    have D1 := Lib.hid d1
    have D2 := Lib.hid d2
    have D3 := Lib.hid d3
    clear hb h00 h11 h22 h33 d0 d1 d2 d3 hT
    go_enter Tryd.func51, Tryd.ntmps51
    go_wp2_with (go_at_call 70; refine (rright_any (N : Int) _).mono ?_; rintro r w' ⟨rfl, rfl⟩; rw [hr])
    refine (D0.out _).mono ?_
    rintro r w1 ⟨rfl, rfl⟩
    go_wp2_with fail
    refine (D1.out _).mono ?_
    rintro r w1 ⟨rfl, rfl⟩
    go_wp2_with fail
    refine (D2.out _).mono ?_
    rintro r w1 ⟨rfl, rfl⟩
    go_wp2_with fail
    refine (D3.out _).mono ?_
    rintro r w1 ⟨rfl, rfl⟩
    go_wp2
    go_ret
    exact ⟨by rw [HV.out, ← HT.out]; rfl, rfl⟩
end Go.Proofs.YtkbbkddepcjoaaaDoor
