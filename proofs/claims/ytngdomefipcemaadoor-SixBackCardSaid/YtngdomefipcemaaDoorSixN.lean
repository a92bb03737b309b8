/-
  six: digits' values; the word that digits say.
-/
import Derived.Test.YtngdomefipcemaaDoorSixM
import Derived.Lib.ConvBytes
namespace Go.Proofs.YtngdomefipcemaaDoor
open Go.RowKit Go.Great

set_option maxRecDepth 100000 in
set_option maxHeartbeats 2000000 in
theorem digit_any (c : UInt8) (w : World) : Calls Tryd.prog 50 #[.int .u8 (c.toNat : Int)] w fun r w' => r = .returned (.tuple #[.int .i64 ((hv c).getD 0 : Nat), .bool (hv c).isSome]) ∧ w = w' := by
  have hl := c.toNat_lt
  have hd : hv c = if 48 ≤ c.toNat ∧ c.toNat ≤ 57 then some (c.toNat - 48) else if 97 ≤ c.toNat ∧ c.toNat ≤ 102 then some (c.toNat - 87) else none := rfl
  generalize c.toNat = X at hl hd ⊢
  rcases (show X < 48 ∨ (48 ≤ X ∧ X ≤ 57) ∨ (57 < X ∧ X < 97) ∨ (97 ≤ X ∧ X ≤ 102) ∨ 102 < X by omega) with h | ⟨h, h'⟩ | ⟨h, h'⟩ | ⟨h, h'⟩ | h
  · rw [if_neg (by omega), if_neg (by omega)] at hd
    rw [hd]
    clear hd
    go_enter Tryd.func50, Tryd.ntmps50
    go_wp2
    go_ret2
    exact ⟨rfl, rfl⟩
  · rw [if_pos ⟨h, h'⟩] at hd
    rw [hd]
    clear hd
    have e : ((X : Int) - 48) % 256 = ((X - 48 : Nat) : Int) := by omega
    have E := Lib.hid (show ((X : Int) - 48) = ((X - 48 : Nat) : Int) by omega)
    go_enter Tryd.func50, Tryd.ntmps50
    go_wp2
    go_ret2
    refine ⟨?_, rfl⟩
    first
      | rfl
      | (simp [E.out])
  · rw [if_neg (by omega), if_neg (by omega)] at hd
    rw [hd]
    clear hd
    go_enter Tryd.func50, Tryd.ntmps50
    go_wp2
    go_ret2
    exact ⟨rfl, rfl⟩
  · rw [if_neg (by omega), if_pos ⟨h, h'⟩] at hd
    rw [hd]
    clear hd
    have E := Lib.hid (show ((X : Int) - 97) + 10 = ((X - 87 : Nat) : Int) by omega)
    go_enter Tryd.func50, Tryd.ntmps50
    go_wp2
    go_ret2
    refine ⟨?_, rfl⟩
    simp [E.out]
  · rw [if_neg (by omega), if_neg (by omega)] at hd
    rw [hd]
    clear hd
    go_enter Tryd.func50, Tryd.ntmps50
    go_wp2
    go_ret2
    exact ⟨rfl, rfl⟩

def hvI (c : UInt8) : Int := match hv c with | some d => (d : Int) | none => -1
set_option maxRecDepth 100000 in
set_option maxHeartbeats 2000000 in
theorem value_any (c : UInt8) (w : World) : Calls Tryd.prog 39 #[.int .u8 (c.toNat : Int)] w fun r w' => r = .returned (.int .i64 (hvI c)) ∧ w = w' := by
  have hl := c.toNat_lt
  unfold hvI
  have hd : hv c = if 48 ≤ c.toNat ∧ c.toNat ≤ 57 then some (c.toNat - 48) else if 97 ≤ c.toNat ∧ c.toNat ≤ 102 then some (c.toNat - 87) else none := rfl
  generalize c.toNat = X at hl hd ⊢
  rcases (show X < 48 ∨ (48 ≤ X ∧ X ≤ 57) ∨ (57 < X ∧ X < 97) ∨ (97 ≤ X ∧ X ≤ 102) ∨ 102 < X by omega) with h | ⟨h, h'⟩ | ⟨h, h'⟩ | ⟨h, h'⟩ | h
  · rw [if_neg (by omega), if_neg (by omega)] at hd
    rw [hd]
    clear hd
    go_enter Tryd.func39, Tryd.ntmps39
    go_wp2
    go_ret
    exact ⟨rfl, rfl⟩
  · rw [if_pos ⟨h, h'⟩] at hd
    rw [hd]
    clear hd
    have E := Lib.hid (show ((X : Int) - 48) = ((X - 48 : Nat) : Int) by omega)
    go_enter Tryd.func39, Tryd.ntmps39
    go_wp2
    go_ret
    refine ⟨?_, rfl⟩
    simp [E.out]
  · rw [if_neg (by omega), if_neg (by omega)] at hd
    rw [hd]
    clear hd
    go_enter Tryd.func39, Tryd.ntmps39
    go_wp2
    go_ret
    exact ⟨rfl, rfl⟩
  · rw [if_neg (by omega), if_pos ⟨h, h'⟩] at hd
    rw [hd]
    clear hd
    have E := Lib.hid (show ((X : Int) - 97) + 10 = ((X - 87 : Nat) : Int) by omega)
    go_enter Tryd.func39, Tryd.ntmps39
    go_wp2
    go_ret
    refine ⟨?_, rfl⟩
    simp [E.out]
  · rw [if_neg (by omega), if_neg (by omega)] at hd
    rw [hd]
    clear hd
    go_enter Tryd.func39, Tryd.ntmps39
    go_wp2
    go_ret
    exact ⟨rfl, rfl⟩

theorem hvs_append (u v : List UInt8) (n : Nat) : hvs n (u ++ v) = (hvs n u).bind fun m => hvs m v := by
  induction u generalizing n with
  | nil => rfl
  | cons c u ih =>
    show (hv c).bind (fun d => hvs (n * 16 + d) (u ++ v)) = ((hv c).bind fun d => hvs (n * 16 + d) u).bind _
    cases hv c with
    | none => rfl
    | some d => exact ih _
theorem hvs_bound : ∀ (l : List UInt8) (n m : Nat), hvs n l = some m → m < (n + 1) * 16 ^ l.length
  | [], n, m, h => by injection h with h; subst h; simp
  | c :: l, n, m, h => by
    unfold hvs at h
    obtain ⟨d, h1, h2⟩ := Option.bind_eq_some_iff.1 h
    have hd := hv_lt h1
    have h3 := hvs_bound l _ _ h2
    have h4 : (n * 16 + d + 1) * 16 ^ l.length ≤ ((n + 1) * 16) * 16 ^ l.length := Nat.mul_le_mul_right _ (by omega)
    rw [List.length_cons, Nat.pow_succ, show (n + 1) * (16 ^ l.length * 16) = ((n + 1) * 16) * 16 ^ l.length by rw [Nat.mul_assoc, Nat.mul_comm 16]]
    omega
theorem or_nib (a d : Nat) (ha : a < 65536) (hd : d < 16) : bits .or .i64 ((a : Int) * 16) (d : Int) = (a : Int) * 16 + d := by
  have hj : (a * 16) ||| d = a * 16 + d := nat_join 4 (a * 16) d (by omega) (by omega)
  have := or_i64 (a * 16) d (by omega) (by omega) (by rw [hj]; omega)
  rw [hj] at this
  have e1 : ((a * 16 : Nat) : Int) = (a : Int) * 16 := by omega
  have e2 : ((a * 16 + d : Nat) : Int) = (a : Int) * 16 + d := by omega
  rw [e1, e2] at this
  exact this
end Go.Proofs.YtngdomefipcemaaDoor
