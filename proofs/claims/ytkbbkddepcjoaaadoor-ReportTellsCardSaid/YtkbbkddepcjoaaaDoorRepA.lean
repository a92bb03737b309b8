/-
  report: words in a line, a protocol's word.
-/
import Derived.Test.YtkbbkddepcjoaaaDoorCmdT
namespace Go.Proofs.YtkbbkddepcjoaaaDoor
open Go.RowKit Go.Great

theorem cells_of_row {w : World} {g c : Nat} {L : List (List UInt8)} (h : TRow w g 0 L) (hc : L.length ≤ c) : 0 < L.length → ∃ g', (some ⟨g, 0, none⟩ : Option Addr) = some ⟨g', 0, none⟩ ∧ g' < w.heap.size ∧ L.length ≤ c ∧ ∀ j u, (strs L)[j]? = some u → w.cell? ⟨g', 0 + j, none⟩ = some u :=
  fun _ => ⟨g, rfl, h.1, hc, fun j u hu => by obtain ⟨x, hx, rfl⟩ := strs_get hu; exact h.2 j x hx⟩
set_option maxRecDepth 100000 in
theorem line_any (g c : Nat) (L : List (List UInt8)) (w : World) (h : TRow w g 0 L) (hc : L.length ≤ c) (hl : (Lib.join L [32]).length ≤ 140737488355328) (hN : L.length ≤ 140737488355328) : Calls Tryd.prog 37 #[.slice (some ⟨g, 0, none⟩) L.length c] w fun e w' => e = .returned (.string (bs (Lib.join L [32]))) ∧ Below w.heap.size w w' := by
  have c1 := Lib.hid (join32_any (some ⟨g, 0, none⟩) c L w (cells_of_row h hc) hl hN)
  obtain ⟨N, hN⟩ : ∃ N, L.length = N := ⟨_, rfl⟩
  have c1 := c1.out
  rw [hN] at c1 ⊢
  have C1 := Lib.hid c1
  clear c1 h hc hl
  go_enter Tryd.func37, Tryd.ntmps37
  go_wp2_with (go_at_call 44; refine C1.out.mono ?_; rintro e w1 ⟨rfl, b1⟩)
  go_ret
  exact ⟨rfl, b1⟩
set_option maxRecDepth 100000 in
theorem num_any (n : Int) (h : IntKind.i64.has n) (w : World) (htab : TabW w) : Calls Tryd.prog 38 #[.int .i64 n] w fun e w' => e = .returned (.string (bs (Lib.itoa n))) ∧ Below w.heap.size w w' := by
  have c1 := itoa_any n h w htab
  obtain ⟨T, hT⟩ : ∃ T, Lib.itoa n = T := ⟨_, rfl⟩
  rw [hT] at c1 ⊢
  have C1 := Lib.hid c1
  clear c1 htab h hT
  go_enter Tryd.func38, Tryd.ntmps38
  go_wp2_with (go_at_call 56; refine C1.out.mono ?_; rintro e w1 ⟨rfl, b1⟩)
  go_ret
  exact ⟨rfl, b1⟩

def pwL : List (List UInt8) := [wIcmp, wTcp, wUdp]
theorem protoW_at {n : Int} {k : Nat} (hk : k < 3) (e : (pn k : Int) = n) : protoW n = wordV (pn k : Nat) := by
  subst e
  rcases (show k = 0 ∨ k = 1 ∨ k = 2 by omega) with rfl | rfl | rfl <;> rfl
theorem protoW_no {n : Int} (h : ∀ j, j < 3 → (pn j : Int) ≠ n) : protoW n = Lib.itoa n := by
  have h0 := h 0 (by omega)
  have h1 := h 1 (by omega)
  have h2 := h 2 (by omega)
  simp only [pn] at h0 h1 h2
  unfold protoW
  rw [if_neg (by simpa using fun e => h0 e.symm), if_neg (by simpa using fun e => h1 e.symm), if_neg (by simpa using fun e => h2 e.symm)]

set_option maxRecDepth 100000 in
set_option maxHeartbeats 2000000 in
theorem pproto_any (n : Int) (h : IntKind.i64.has n) (w : World) (htab : TabW w) : Calls Tryd.prog 39 #[.int .i64 n] w fun r w' => r = .returned (.string (bs (protoW n))) ∧ Below w.heap.size w w' := by
  have hb : Below w.heap.size w (w.alloc (.cells #[.string (bs wIcmp), .string (bs wTcp), .string (bs wUdp)] 9)) := (Below.refl _ _).alloc (Nat.le_refl _) _
  have blk := Blk.new w 9 #[.string (bs wIcmp), .string (bs wTcp), .string (bs wUdp)]
  have c9 := fun W ht => num_any n h W ht
  obtain ⟨TN, hTN⟩ : ∃ T, Lib.itoa n = T := ⟨_, rfl⟩
  rw [hTN] at c9
  have HTN := Lib.hid hTN
  have C9 := Lib.hid c9
  have HB := Lib.hid hb
  have HBLK := Lib.hid blk
  have HT0 := Lib.hid htab
  clear hb blk htab h c9 hTN
  unfold wIcmp wTcp wUdp at HB HBLK
  go_enter Tryd.func39, Tryd.ntmps39
  go_wp2
  go_loopw [9] (fun i wr => ∃ k : Nat, k ≤ 3 ∧ i = .int .i64 k ∧ (∀ j, j < k → (pn j : Int) ≠ n) ∧ Blk wr w.heap.size 9 #[.string (bs wIcmp), .string (bs wTcp), .string (bs wUdp)] ∧ Below w.heap.size w wr) (fun i _ => 3 - (intOf i).toNat)
  case atStart => exact ⟨0, by omega, rfl, fun j hj => absurd hj (by omega), HBLK.out, HB.out⟩
  case round =>
    obtain ⟨k, hk, rfl, hno, blk, hb⟩ := hrel
    have NO := Lib.hid hno
    have BLK := Lib.hid blk
    have HBW := Lib.hid hb
    clear hno blk hb HBLK HB
    by_cases hlt : k < 3
    · have hcell : wr.cell? ⟨w.heap.size, k, none⟩ = some (.string (bs (wordV (pn k : Nat)))) := by
        rw [BLK.out.cell k]
        rcases (show k = 0 ∨ k = 1 ∨ k = 2 by omega) with rfl | rfl | rfl <;> rfl
      have hq : protoV (wordV (pn k : Nat)) = some (pn k) := by
        rcases (show k = 0 ∨ k = 1 ∨ k = 2 by omega) with rfl | rfl | rfl <;> rfl
      have hc := fun W => cproto_any (wordV (pn k : Nat)) W
      rw [hq] at hc
      have PA := Lib.hid (fun (e : (pn k : Int) = n) => protoW_at hlt e)
      obtain ⟨T, hT⟩ : ∃ T, wordV (pn k : Nat) = T := ⟨_, rfl⟩
      rw [hT] at hcell hc PA
      obtain ⟨P, hP⟩ : ∃ P, pn k = P := ⟨_, rfl⟩
      rw [hP] at hc PA
      have hc : ∀ W, Calls Tryd.prog 19 #[.string (bs T)] W fun r w' => r = .returned (.tuple #[.int .i64 (P : Int), .bool true]) ∧ Below W.heap.size W w' := hc
      have HP := Lib.hid hP
      have HC := Lib.hid hc
      clear hq hT hP hc
      by_cases he : (P : Int) = n
      · have hd : ((P : Int) == n) = true := by simpa using he
        have hr := Lib.hid (PA.out he)
        clear he
        go_wp2_with (go_at_call 19; refine (HC.out _).mono ?_; rintro e w2 ⟨rfl, b2⟩; have B2 := Lib.hid (HBW.out.trans (b2.mono HBW.out.size)); clear b2)
        go_ret
        exact ⟨by rw [hr.out]; first | done | rfl, B2.out⟩
      · have hd : ((P : Int) == n) = false := by simpa using he
        have NX := Lib.hid (show ∀ j, j < k + 1 → (pn j : Int) ≠ n by
          intro j hj
          by_cases hjk : j = k
          · subst hjk; rw [HP.out]; exact he
          · exact NO.out j (by omega))
        clear he
        go_wp2_with (go_at_call 19; refine (HC.out _).mono ?_; rintro e w2 ⟨rfl, b2⟩; have B2 := Lib.hid (HBW.out.trans (b2.mono HBW.out.size)); have K2 := Lib.hid (BLK.out.on b2); clear b2)
        exact ⟨⟨k + 1, by omega, by go_num, NX.out, K2.out, B2.out⟩, by simp [intOf]; omega⟩
    · obtain rfl : k = 3 := by omega
      have hr := Lib.hid ((protoW_no NO.out).trans HTN.out)
      have ht := tab_below HT0.out HBW.out
      have HTT := Lib.hid ht
      clear ht
      go_wp2_with (go_at_call 38; refine (C9.out _ HTT.out).mono ?_; rintro e w2 ⟨rfl, b2⟩)
      go_ret
      exact ⟨by rw [hr.out]; first | done | rfl, HBW.out.trans (b2.mono HBW.out.size)⟩
end Go.Proofs.YtkbbkddepcjoaaaDoor
