/-
  six: the document's text of an address.
-/
import Derived.Test.YtngdomefipcemaaDoorSixG
namespace Go.Proofs.YtngdomefipcemaaDoor
open Go.RowKit Go.Great

theorem join_snoc (d : UInt8) (x : List UInt8) : ∀ L : List (List UInt8), L ≠ [] → Lib.join (L ++ [x]) [d] = Lib.join L [d] ++ d :: x
  | [], h => absurd rfl h
  | [y], _ => by rw [List.singleton_append, join_cons _ _ _ (by simp), join_one, join_one]
  | y :: z :: r, _ => by
    have ih := join_snoc d x (z :: r) (by simp)
    rw [List.cons_append, join_cons _ _ _ (by simp), join_cons _ _ _ (by simp), ih]
    simp
theorem bs_length (a b : ByteArray) : (a ++ b).size = a.size + b.size := ByteArray.size_append

set_option maxRecDepth 100000 in
set_option maxHeartbeats 4000000 in
theorem rtext6_any (a : List UInt8) (ha : a.length = 16) (w : World) : Calls Tryd.prog 24 #[.agg (cells6 a)] w fun r w' => r = .returned (.string (bs (text6 a))) ∧ Below w.heap.size w w' := by
  have hat := fun k (h : k < 16) => cells6_at (a := a) (k := k) (by omega)
  have hwl := wordsOf_len 8 a (by omega)
  have hwb := wordsOf_lt a
  have hwa := fun k (h : k < 8) => wordsOf_at a k (by omega)
  unfold text6 textW at *
  obtain ⟨ws, hws⟩ : ∃ ws, wordsOf a = ws := ⟨_, rfl⟩
  obtain ⟨cs, hcs⟩ : ∃ cs, cells6 a = cs := ⟨_, rfl⟩
  obtain ⟨D, hD⟩ : ∃ D, ws.map hex = D := ⟨_, rfl⟩
  rw [hws] at hwl hwb hwa ⊢
  rw [hcs] at hat ⊢
  rw [hD]
  have hDl : D.length = 8 := by rw [← hD, List.length_map, hwl]
  have hDk : ∀ k, k < 8 → D[k]? = some (hex ((a.getD (2 * k) 0).toNat * 256 + (a.getD (2 * k + 1) 0).toNat)) := fun k hk => by
    rw [← hD, List.getElem?_map, hwa k hk]
    rfl
  have hDs : ∀ k, (Lib.join (D.take k) [58]).length ≤ 5 * k := fun k => by
    have := join_len 58 (D.take k) (fun x hx => by
      rw [← hD] at hx
      obtain ⟨n, _, rfl⟩ := List.mem_map.1 (List.mem_of_mem_take hx)
      exact (hex_len n).2)
    rw [List.length_take] at this
    omega
  have HAT := Lib.hid hat
  have HDK := Lib.hid hDk
  have HDS := Lib.hid hDs
  clear hat hwl hwb hwa hws hcs hD hDk hDs
  go_enter Tryd.func24, Tryd.ntmps24
  go_wp2
  have hb0 : Blk (w.alloc (.cells cs 31)) w.heap.size 31 cs := Blk.new _ _ _
  have hbw : Below w.heap.size w (w.alloc (.cells cs 31)) := (Below.refl _ _).alloc (Nat.le_refl _) _
  generalize w.alloc (.cells cs 31) = W1 at hb0 hbw ⊢
  have HB0 := Lib.hid hb0
  have HBW := Lib.hid hbw
  clear hb0 hbw
  go_loopw [3, 4] (fun v i wr => ∃ (k : Nat) (T : ByteArray), i = .int .i64 k ∧ k ≤ 8 ∧ v = .string T ∧ T = bs (Lib.join (D.take k) [58]) ∧ Blk wr w.heap.size 31 cs ∧ Below w.heap.size w wr) (fun _ i _ => 8 - (intOf i).toNat)
  case atStart => exact ⟨0, _, rfl, by omega, rfl, rfl, HB0.out, HBW.out⟩
  case round =>
    obtain ⟨k, T, rfl, hk, rfl, hT, hb0, hbw⟩ := hrel
    clear HB0 HBW
    have HB0 := Lib.hid hb0
    have HBW := Lib.hid hbw
    have hTs : T.size ≤ 5 * k := by rw [hT, bs_size]; exact HDS.out k
    have HT := Lib.hid hT
    clear hbw hT
    by_cases h8 : k < 8
    · have e0 := (hb0.cell (2 * k)).trans (HAT.out (2 * k) (by omega))
      have e1 := (hb0.cell (2 * k + 1)).trans (HAT.out (2 * k + 1) (by omega))
      have hdk := HDK.out k h8
      obtain ⟨x, hx⟩ : ∃ x : Nat, (a.getD (2 * k) 0).toNat = x := ⟨_, rfl⟩
      obtain ⟨y, hy⟩ : ∃ y : Nat, (a.getD (2 * k + 1) 0).toNat = y := ⟨_, rfl⟩
      have hxl : x < 256 := by rw [← hx]; exact UInt8.toNat_lt _
      have hyl : y < 256 := by rw [← hy]; exact UInt8.toNat_lt _
      rw [hx] at e0 hdk
      rw [hy] at e1 hdk
      obtain ⟨N, hN⟩ : ∃ N, x * 256 + y = N := ⟨_, rfl⟩
      obtain ⟨X, hX⟩ : ∃ X, bs (hex N) = X := ⟨_, rfl⟩
      have hXs : X.size ≤ 4 := by rw [← hX, bs_size]; exact (hex_len N).2
      have hcall := fun W => rhex_any ((x : Int) * 256 + y) N (by omega) (by omega) W
      rw [hX] at hcall
      rw [hN] at hdk
      have HDk := Lib.hid hdk
      have HX := Lib.hid hX
      have HCALL := Lib.hid hcall
      clear hb0 hx hy hN hX hdk hcall
      have hcolon : (⟨#[58]⟩ : ByteArray).size = 1 := rfl
      by_cases h0 : 0 < k
      · have hs1 : ¬ 9223372036854775807 < T.size + 1 := by omega
        have hs2 : ¬ 9223372036854775807 < T.size + 1 + X.size := by omega
        go_wp2_with fail
        go_quiet ((go_at_call 42; refine Calls.quiet_of_same ((HCALL.out _).mono fun e w' h => ⟨h.1, h.2.symm⟩)))
        go_wp2
        refine ⟨⟨k + 1, T ++ ⟨#[58]⟩ ++ X, by go_num, h8, rfl, ?_, HB0.out.drewN _, below_drewN HBW.out nq⟩, by simp [intOf]; omega⟩
        rw [HT.out, ← HX.out, show (⟨#[58]⟩ : ByteArray) = bs [58] from rfl, bs_app, bs_app, List.take_add_one, HDk.out]
        have hne : D.take k ≠ [] := fun e => by
          have := congrArg List.length e
          rw [List.length_take, List.length_nil] at this
          omega
        simp only [Option.toList_some]
        rw [join_snoc _ _ _ hne]
        simp
      · obtain rfl : k = 0 := by omega
        have hs2 : ¬ 9223372036854775807 < T.size + X.size := by omega
        simp only [Nat.mul_zero, Nat.zero_add] at e0 e1
        go_wp2_with fail
        go_quiet ((go_at_call 42; refine Calls.quiet_of_same ((HCALL.out _).mono fun e w' h => ⟨h.1, h.2.symm⟩)))
        go_wp2
        refine ⟨⟨1, T ++ X, by go_num, h8, rfl, ?_, HB0.out.drewN _, below_drewN HBW.out nq⟩, by simp [intOf]⟩
        rw [HT.out, ← HX.out, bs_app, List.take_add_one, HDk.out]
        simp [Lib.join, List.intercalate]
    · obtain rfl : k = 8 := by omega
      go_wp2
      go_ret
      refine ⟨?_, HBW.out⟩
      rw [HT.out, List.take_of_length_le (by omega)]
      rfl
end Go.Proofs.YtngdomefipcemaaDoor
