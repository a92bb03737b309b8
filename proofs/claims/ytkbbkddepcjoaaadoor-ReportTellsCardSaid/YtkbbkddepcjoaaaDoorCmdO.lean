/-
  cmd: a command's words, by the document.
-/
import Derived.Test.YtkbbkddepcjoaaaDoorCmdN
import Derived.BigQuiet
import Derived.Test.YtkbbkddepcjoaaaDoorQuiet
namespace Go.Proofs.YtkbbkddepcjoaaaDoor
open Go.RowKit Go.Great

theorem decD_len {n : Nat} (h : n ≤ 9223372036854775808) : (Lib.decDigits n).length ≤ 19 := by
  rw [Lib.decDigits_length]
  exact nDigits_le 19 n (by omega) (by omega)
theorem decD_last (n : Nat) (h : ¬ n < 10) : Lib.decDigits n = Lib.decDigits (n / 10) ++ [UInt8.ofNat (48 + n % 10)] := by
  rw [Lib.decDigits, dif_neg h]

set_option maxRecDepth 100000 in
set_option maxHeartbeats 2000000 in
theorem rdig_step (x : Int) (n : Nat) (hx : x = n) (hn : n ≤ 9223372036854775807) (rec : 10 ≤ n → ∀ (x : Int) (w : World), x = (n / 10 : Nat) → Calls Tryd.prog 66 #[.int .i64 x] w fun r w' => r = .returned (.string (bs (Lib.decDigits (n / 10)))) ∧ w = w') (w : World) : Calls Tryd.prog 66 #[.int .i64 x] w fun r w' => r = .returned (.string (bs (Lib.decDigits n))) ∧ w = w' := by
  subst hx
  have hb := dig_bs (n % 10) (by omega)
  unfold digs at hb
  by_cases h10 : n < 10
  · have hv : Lib.decDigits n = [UInt8.ofNat (48 + n % 10)] := by rw [Lib.decDigits, dif_pos h10, show n % 10 = n by omega]
    rw [hv]
    have HB := Lib.hid hb
    clear hv hb rec
    go_enter Tryd.func66, Tryd.ntmps66
    go_wp2
    go_ret
    exact ⟨by rw [← HB.out]; rfl, rfl⟩
  · have hv := decD_last n h10
    have REC := Lib.hid (rec (by omega))
    have HB := Lib.hid hb
    have HV := Lib.hid hv
    have h10' : (10 : Int) ≤ (n : Int) := by omega
    have hlen : ¬ 9223372036854775807 < (bs (Lib.decDigits (n / 10))).size + (min (n % 10 + 1) 10 - n % 10) := by
      have h1 := decD_len (n := n / 10) (by omega)
      rw [bs_size]
      omega
    clear hv hb rec
    go_enter Tryd.func66, Tryd.ntmps66
    go_wp2_with fail
    refine (REC.out _ _ (by omega)).mono ?_
    rintro r w' ⟨rfl, rfl⟩
    go_wp2
    go_ret
    refine ⟨?_, rfl⟩
    rw [HV.out, ← bs_append, ← HB.out]
    rfl
theorem rdig_all : ∀ (k n : Nat), n < k → ∀ (x : Int), x = n → n ≤ 9223372036854775807 → ∀ (w : World), Calls Tryd.prog 66 #[.int .i64 x] w fun r w' => r = .returned (.string (bs (Lib.decDigits n))) ∧ w = w'
  | 0, n, h => absurd h (by omega)
  | k + 1, n, h => fun x hx hn w => rdig_step x n hx hn (fun h10 y w hy => rdig_all k (n / 10) (by omega) y hy (by omega) w) w
theorem rdig_any (x : Int) (h0 : 0 ≤ x) (h1 : x ≤ 9223372036854775807) (w : World) : Calls Tryd.prog 66 #[.int .i64 x] w fun r w' => r = .returned (.string (bs (Lib.decDigits x.toNat))) ∧ w = w' :=
  rdig_all (x.toNat + 1) x.toNat (by omega) x (by omega) (by omega) w

theorem wordR_len (p : Int) : (wordR p).length ≤ 4 := by
  unfold wordR
  split
  · decide
  · split
    · decide
    · split <;> decide

set_option maxRecDepth 100000 in
set_option maxHeartbeats 4000000 in
theorem rinnerT_any (q : Int × Int × Int × Int) (h1 : q.1 ≤ 9223372036854775807) (h4 : q.2.2.2 ≤ 9223372036854775807) (w : World) : Calls Tryd.prog 67 #[.agg (inC q)] w fun r w' => r = .returned (.string (bs (innerR q))) ∧ Below w.heap.size w w' := by
  obtain ⟨n, p, a, y⟩ := q
  simp only at h1 h4
  unfold inC
  simp only
  by_cases hn : n < 0
  · have hv := Lib.hid (show innerR (n, p, a, y) = [63] by unfold innerR; rw [if_pos (.inl hn)])
    go_enter Tryd.func67, Tryd.ntmps67
    go_wp2
    go_ret
    exact ⟨by rw [hv.out]; rfl, (Below.refl _ _).alloc (Nat.le_refl _) _⟩
  · have d1 : decide (n < 0) = false := by simpa using hn
    by_cases hy : y < 0
    · have hv := Lib.hid (show innerR (n, p, a, y) = [63] by unfold innerR; rw [if_pos (.inr hy)])
      clear hn
      go_enter Tryd.func67, Tryd.ntmps67
      go_wp2
      go_ret
      exact ⟨by rw [hv.out]; rfl, (Below.refl _ _).alloc (Nat.le_refl _) _⟩
    · have d2 : decide (y < 0) = false := by simpa using hy
      have hv : innerR (n, p, a, y) = Lib.decDigits n.toNat ++ [32] ++ wordR p ++ [32] ++ textV a ++ [32] ++ Lib.decDigits y.toNat := by unfold innerR; rw [if_neg (by simp only; omega)]
      have c1 := fun W => rdig_any n (by omega) h1 W
      have c2 := fun W => rword_any p W
      have c3 := fun W => rtext_any a W
      have c4 := fun W => rdig_any y (by omega) h4 W
      obtain ⟨T1, h11, z1⟩ : ∃ T : ByteArray, bs (Lib.decDigits n.toNat) = T ∧ T.size ≤ 20 := ⟨_, rfl, by rw [bs_size]; have := decD_len (n := n.toNat) (by omega); omega⟩
      obtain ⟨T2, h22, z2⟩ : ∃ T : ByteArray, bs (wordR p) = T ∧ T.size ≤ 20 := ⟨_, rfl, by rw [bs_size]; have := wordR_len p; omega⟩
      obtain ⟨T3, h33, z3⟩ : ∃ T : ByteArray, bs (textV a) = T ∧ T.size ≤ 20 := ⟨_, rfl, by rw [bs_size]; have := textV_len a; omega⟩
      obtain ⟨T4, h44, z4⟩ : ∃ T : ByteArray, bs (Lib.decDigits y.toNat) = T ∧ T.size ≤ 20 := ⟨_, rfl, by rw [bs_size]; have := decD_len (n := y.toNat) (by omega); omega⟩
      have hT : T1 ++ ⟨#[32]⟩ ++ T2 ++ ⟨#[32]⟩ ++ T3 ++ ⟨#[32]⟩ ++ T4 = bs (innerR (n, p, a, y)) := by
        rw [hv, ← h11, ← h22, ← h33, ← h44, show (⟨#[32]⟩ : ByteArray) = bs [32] from rfl]
        simp only [bs_append]
      rw [h11] at c1
      rw [h22] at c2
      rw [h33] at c3
      rw [h44] at c4
      have HT := Lib.hid hT
      have C1 := Lib.hid c1
      have C2 := Lib.hid c2
      have C3 := Lib.hid c3
      have C4 := Lib.hid c4
      clear h11 h22 h33 h44 c1 c2 c3 c4 hT hv hn hy
      go_enter Tryd.func67, Tryd.ntmps67
      go_wp2_with fail
      go_quiet ((first
        | (go_at_call 66; first | (with_reducible refine Calls.quiet_of_same ((C1.out _).mono fun e w' h => ⟨by rw [h.1], h.2.symm⟩)) | (with_reducible refine Calls.quiet_of_same ((C4.out _).mono fun e w' h => ⟨by rw [h.1], h.2.symm⟩)))
        | (go_at_call 69; refine Calls.quiet_of_same ((C2.out _).mono fun e w' h => ⟨by rw [h.1], h.2.symm⟩))
        | (go_at_call 51; refine Calls.quiet_of_same ((C3.out _).mono fun e w' h => ⟨by rw [h.1], h.2.symm⟩))))
      go_wp2
      go_ret
      exact ⟨by rw [← HT.out]; rfl, below_drewN ((Below.refl _ _).alloc (Nat.le_refl _) _) _⟩

theorem innerR_len (q : Int × Int × Int × Int) (h1 : q.1 ≤ 9223372036854775807) (h4 : q.2.2.2 ≤ 9223372036854775807) : (innerR q).length ≤ 100 := by
  unfold innerR
  split
  · decide
  · have e1 := decD_len (n := q.1.toNat) (by omega)
    have e2 := wordR_len q.2.1
    have e3 := textV_len q.2.2.1
    have e4 := decD_len (n := q.2.2.2.toNat) (by omega)
    simp only [List.length_append, List.length_cons, List.length_nil]
    omega

set_option maxRecDepth 100000 in
set_option maxHeartbeats 4000000 in
theorem rtextC_any (v n p a y p2 a2 y2 : Int) (h1 : n ≤ 9223372036854775807) (h4 : y ≤ 9223372036854775807) (h8 : y2 ≤ 9223372036854775807) (w : World) : Calls Tryd.prog 46 #[.agg #[.int .i64 v, .int .i64 n, .int .i64 p, .int .i64 a, .int .i64 y, .int .i64 p2, .int .i64 a2, .int .i64 y2]] w fun r w' => r = .returned (.string (bs (textR (v, (n, p, a, y), p2, a2, y2)))) ∧ Below w.heap.size w w' := by
  have hb := (Below.refl w.heap.size w).alloc (Nat.le_refl _) (.cells #[.int .i64 v, .int .i64 n, .int .i64 p, .int .i64 a, .int .i64 y, .int .i64 p2, .int .i64 a2, .int .i64 y2] 40)
  have hBE := Lib.hid hb
  clear hb
  by_cases e1 : v = 1
  · subst e1
    by_cases hn : 0 ≤ n
    · have hv : textR (1, (n, p, a, y), p2, a2, y2) = wFlush ++ 32 :: Lib.decDigits n.toNat := by rw [textR_1]; exact if_pos hn
      have c1 := fun W => rdig_any n hn h1 W
      obtain ⟨T1, h11, z1⟩ : ∃ T : ByteArray, bs (Lib.decDigits n.toNat) = T ∧ T.size ≤ 20 := ⟨_, rfl, by rw [bs_size]; have := decD_len (n := n.toNat) (by omega); omega⟩
      have hT : (⟨#[102, 108, 117, 115, 104, 32]⟩ : ByteArray) ++ T1 = bs (textR (1, (n, p, a, y), p2, a2, y2)) := by
        rw [hv, ← h11, show (⟨#[102, 108, 117, 115, 104, 32]⟩ : ByteArray) = bs (wFlush ++ [32]) from rfl, bs_append]
        simp
      rw [h11] at c1
      have HT := Lib.hid hT
      have C1 := Lib.hid c1
      clear h11 c1 hT hv
      go_enter Tryd.func46, Tryd.ntmps46
      go_wp2_with (go_at_call 66; refine (C1.out _).mono ?_; rintro r w' ⟨rfl, rfl⟩)
      go_ret
      exact ⟨by rw [← HT.out]; rfl, hBE.out⟩
    · have hv := Lib.hid (show textR (1, (n, p, a, y), p2, a2, y2) = [63] by rw [textR_1]; exact if_neg hn)
      go_enter Tryd.func46, Tryd.ntmps46
      go_wp2
      go_ret
      exact ⟨by rw [hv.out]; rfl, hBE.out⟩
  · have b1 : (v == 1) = false := by simpa using e1
    by_cases e2 : v = 2
    · subst e2
      by_cases hn : 0 ≤ y2
      · have hv : textR (2, (n, p, a, y), p2, a2, y2) = wMap ++ 32 :: (innerR (n, p, a, y) ++ 32 :: (textV a2 ++ 32 :: Lib.decDigits y2.toNat)) := by rw [textR_2]; exact if_pos hn
        have c1 := fun W => rinnerT_any (n, p, a, y) h1 h4 W
        have c2 := fun W => rtext_any a2 W
        have c3 := fun W => rdig_any y2 hn h8 W
        unfold inC at c1
        obtain ⟨T1, h11, z1⟩ : ∃ T : ByteArray, bs (innerR (n, p, a, y)) = T ∧ T.size ≤ 100 := ⟨_, rfl, by rw [bs_size]; exact innerR_len _ h1 h4⟩
        obtain ⟨T2, h22, z2⟩ : ∃ T : ByteArray, bs (textV a2) = T ∧ T.size ≤ 20 := ⟨_, rfl, by rw [bs_size]; have := textV_len a2; omega⟩
        obtain ⟨T3, h33, z3⟩ : ∃ T : ByteArray, bs (Lib.decDigits y2.toNat) = T ∧ T.size ≤ 20 := ⟨_, rfl, by rw [bs_size]; have := decD_len (n := y2.toNat) (by omega); omega⟩
        have hT : (⟨#[109, 97, 112, 32]⟩ : ByteArray) ++ T1 ++ ⟨#[32]⟩ ++ T2 ++ ⟨#[32]⟩ ++ T3 = bs (textR (2, (n, p, a, y), p2, a2, y2)) := by
          rw [hv, ← h11, ← h22, ← h33, show (⟨#[109, 97, 112, 32]⟩ : ByteArray) = bs (wMap ++ [32]) from rfl, show (⟨#[32]⟩ : ByteArray) = bs [32] from rfl]
          simp only [bs_append]
          simp
        rw [h11] at c1
        rw [h22] at c2
        rw [h33] at c3
        have HT := Lib.hid hT
        have C1 := Lib.hid c1
        have C2 := Lib.hid (fun W => (c2 W).mono fun e w' (h : e = _ ∧ W = w') => (⟨h.1, h.2 ▸ Below.refl _ _⟩ : e = _ ∧ Below W.heap.size W w'))
        have C3 := Lib.hid (fun W => (c3 W).mono fun e w' (h : e = _ ∧ W = w') => (⟨h.1, h.2 ▸ Below.refl _ _⟩ : e = _ ∧ Below W.heap.size W w'))
        clear h11 h22 h33 c1 c2 c3 hT hv b1 e1
        go_enter Tryd.func46, Tryd.ntmps46
        go_upto_region 7 with fail
        have bk := Blk.new w 40 #[.int .i64 2, .int .i64 n, .int .i64 p, .int .i64 a, .int .i64 y, .int .i64 p2, .int .i64 a2, .int .i64 y2]
        obtain ⟨V, hV⟩ : ∃ V, w.heap.size = V := ⟨_, rfl⟩
        have HBE := Lib.hid hBE.out
        clear hBE
        rw [hV] at bk ⊢
        have HV := Lib.hid hV
        generalize (w.alloc (.cells #[.int .i64 2, .int .i64 n, .int .i64 p, .int .i64 a, .int .i64 y, .int .i64 p2, .int .i64 a2, .int .i64 y2] 40)) = w1 at bk HBE ⊢
        have k1 := bk.cell 1
        have k2 := bk.cell 2
        have k3 := bk.cell 3
        have k4 := bk.cell 4
        have k6 := bk.cell 6
        have k7 := bk.cell 7
        simp only [List.getElem?_toArray, List.getElem?_cons_zero, List.getElem?_cons_succ] at k1 k2 k3 k4 k6 k7
        have d1 := fun p : After w1 => p.read k1
        have d2 := fun p : After w1 => p.read k2
        have d3 := fun p : After w1 => p.read k3
        have d4 := fun p : After w1 => p.read k4
        have d6 := fun p : After w1 => p.read k6
        have d7 := fun p : After w1 => p.read k7
        clear k1 k2 k3 k4 k6 k7 bk hV
        refine wp_after (by kernel_rfl) (by kernel_rfl) ?_
        repeat (go_big_quiet_step ((first
          | (go_at_call 67; exact calls_after (C1.out _))
          | (go_at_call 51; exact calls_after (C2.out _))
          | (go_at_call 66; exact calls_after (C3.out _)))))
        refine wpQuiet_nil ?_
        intro w' hw'
        obtain ⟨p, rfl⟩ := hw'
        go_wp2
        go_ret
        exact ⟨by rw [← HT.out]; rfl, HBE.out.trans (p.below.mono HBE.out.size)⟩
      · have hv := Lib.hid (show textR (2, (n, p, a, y), p2, a2, y2) = [63] by rw [textR_2]; exact if_neg hn)
        clear e1
        go_enter Tryd.func46, Tryd.ntmps46
        go_wp2
        go_ret
        exact ⟨by rw [hv.out]; rfl, hBE.out⟩
    · have b2 : (v == 2) = false := by simpa using e2
      by_cases e3 : v = 3
      · subst e3
        have hv : textR (3, (n, p, a, y), p2, a2, y2) = wUnmap ++ 32 :: innerR (n, p, a, y) := by rw [textR_3]
        have c1 := fun W => rinnerT_any (n, p, a, y) h1 h4 W
        unfold inC at c1
        obtain ⟨T1, h11, z1⟩ : ∃ T : ByteArray, bs (innerR (n, p, a, y)) = T ∧ T.size ≤ 100 := ⟨_, rfl, by rw [bs_size]; exact innerR_len _ h1 h4⟩
        have hT : (⟨#[117, 110, 109, 97, 112, 32]⟩ : ByteArray) ++ T1 = bs (textR (3, (n, p, a, y), p2, a2, y2)) := by
          rw [hv, ← h11, show (⟨#[117, 110, 109, 97, 112, 32]⟩ : ByteArray) = bs (wUnmap ++ [32]) from rfl, bs_append]
          simp
        rw [h11] at c1
        have HT := Lib.hid hT
        have C1 := Lib.hid c1
        clear h11 c1 hT hv e1 e2
        go_enter Tryd.func46, Tryd.ntmps46
        go_wp2_with (go_at_call 67; refine (C1.out _).mono ?_; rintro r w2 ⟨rfl, b5⟩; have B5 := Lib.hid (hBE.out.trans (b5.mono hBE.out.size)); clear b5)
        go_ret
        exact ⟨by rw [← HT.out]; rfl, B5.out⟩
      · have b3 : (v == 3) = false := by simpa using e3
        by_cases e4 : v = 4
        · subst e4
          have hv := Lib.hid (show textR (4, (n, p, a, y), p2, a2, y2) = wShow by simp [textR])
          clear e1 e2 e3
          go_enter Tryd.func46, Tryd.ntmps46
          go_wp2
          go_ret
          exact ⟨by rw [hv.out]; rfl, hBE.out⟩
        · have b4 : (v == 4) = false := by simpa using e4
          have hv := Lib.hid (show textR (v, (n, p, a, y), p2, a2, y2) = [63] by simp [textR, e1, e2, e3, e4])
          clear e1 e2 e3 e4
          go_enter Tryd.func46, Tryd.ntmps46
          go_wp2
          go_ret
          exact ⟨by rw [hv.out]; rfl, hBE.out⟩
end Go.Proofs.YtkbbkddepcjoaaaDoor
