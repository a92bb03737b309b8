/-
  six: the document's digits.
-/
import Derived.Test.YtngdomefipcemaaDoorSixB
import Derived.Test.YtngdomefipcemaaDoorStr
namespace Go.Proofs.YtngdomefipcemaaDoor
open Go.RowKit

def digs16 : ByteArray := ⟨#[48, 49, 50, 51, 52, 53, 54, 55, 56, 57, 97, 98, 99, 100, 101, 102]⟩
theorem dig16_ex : ∀ k : Fin 16, (digs16.extract k.val (k.val + 1)).data.toList = [hexd k.val] := by decide +kernel
theorem dig16_bs (k : Nat) (h : k < 16) : digs16.extract k (k + 1) = bs [hexd k] := by
  have := dig16_ex ⟨k, h⟩
  rw [← bs_of (digs16.extract k (k + 1))]
  simp only at this
  rw [this]
theorem bs_app (a b : List UInt8) : bs a ++ bs b = bs (a ++ b) := by
  apply ByteArray.ext
  simp [bs]

set_option maxRecDepth 100000 in
set_option maxHeartbeats 2000000 in
theorem rhex_step (x : Int) (n : Nat) (hx : x = n) (hn : n < 65536) (rec : 16 ≤ n → ∀ (x : Int) (w : World), x = (n / 16 : Nat) → Calls Tryd.prog 42 #[.int .i64 x] w fun r w' => r = .returned (.string (bs (hex (n / 16)))) ∧ w = w') (w : World) : Calls Tryd.prog 42 #[.int .i64 x] w fun r w' => r = .returned (.string (bs (hex n))) ∧ w = w' := by
  subst hx
  have hb := dig16_bs (n % 16) (by omega)
  unfold digs16 at hb
  by_cases h10 : n < 16
  · have hv : hex n = [hexd (n % 16)] := by unfold hex; rw [if_pos h10, show n % 16 = n by omega]
    rw [hv]
    have HB := Lib.hid hb
    clear hv hb rec
    go_enter Tryd.func42, Tryd.ntmps42
    go_wp2
    go_ret
    exact ⟨by rw [← HB.out]; rfl, rfl⟩
  · have hv := hex_last n (by omega) hn
    have REC := Lib.hid (rec (by omega))
    have HB := Lib.hid hb
    have HV := Lib.hid hv
    have h10' : (16 : Int) ≤ (n : Int) := by omega
    have hlen : ¬ 9223372036854775807 < (bs (hex (n / 16))).size + (min (n % 16 + 1) 16 - n % 16) := by
      have h1 := hex_len (n / 16)
      rw [bs_size]
      omega
    clear hv hb rec
    go_enter Tryd.func42, Tryd.ntmps42
    go_wp2_with fail
    refine (REC.out _ _ (by omega)).mono ?_
    rintro r w' ⟨rfl, rfl⟩
    go_wp2
    go_ret
    refine ⟨?_, rfl⟩
    rw [HV.out, ← bs_app, ← HB.out]
    rfl
theorem rhex_any (x : Int) (n : Nat) (hx : x = n) (hn : n < 65536) (w : World) : Calls Tryd.prog 42 #[.int .i64 x] w fun r w' => r = .returned (.string (bs (hex n))) ∧ w = w' :=
  rhex_step x n hx hn (fun _ y w hy => rhex_step y (n / 16) hy (by omega) (fun _ z w hz => rhex_step z (n / 16 / 16) hz (by omega) (fun _ u w hu => rhex_step u (n / 16 / 16 / 16) hu (by omega) (fun h _ _ _ => absurd h (by omega)) w) w) w) w
end Go.Proofs.YtngdomefipcemaaDoor
