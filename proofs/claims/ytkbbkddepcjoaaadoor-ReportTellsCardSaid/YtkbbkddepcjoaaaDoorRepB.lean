/-
  report: numbers, protocols, bindings in words, by the document.
-/
import Derived.Test.YtkbbkddepcjoaaaDoorRepA
namespace Go.Proofs.YtkbbkddepcjoaaaDoor
open Go.RowKit Go.Great

theorem itoa_neg (m : Nat) (h : 1 ≤ m) : Lib.itoa (-(m : Int)) = 45 :: Lib.decDigits m := by
  unfold Lib.itoa
  rw [if_pos (by omega)]
  simp
set_option maxRecDepth 100000 in
set_option maxHeartbeats 2000000 in
theorem rnumber_any (n : Int) (h : IntKind.i64.has n) (w : World) : Calls Tryd.prog 49 #[.int .i64 n] w fun r w' => r = .returned (.string (bs (Lib.itoa n))) ∧ w = w' := by
  obtain ⟨g0, g1⟩ := i64_le h
  by_cases h0 : 0 ≤ n
  · have c1 := fun W => rdig_any n h0 g1 W
    rw [← itoa_pos h0] at c1
    obtain ⟨T, hT⟩ : ∃ T, Lib.itoa n = T := ⟨_, rfl⟩
    rw [hT] at c1 ⊢
    have C1 := Lib.hid c1
    clear c1 hT h
    go_enter Tryd.func49, Tryd.ntmps49
    go_wp2_with (go_at_call 66; refine (C1.out _).mono ?_; rintro e w1 ⟨rfl, rfl⟩)
    go_ret
    exact ⟨rfl, rfl⟩
  · obtain ⟨m, rfl⟩ : ∃ m : Nat, n = -(m : Int) := ⟨n.natAbs, by omega⟩
    have hm : 1 ≤ m := by omega
    have d0 : decide (0 ≤ -(m : Int)) = false := by simp; omega
    rw [itoa_neg m hm]
    by_cases h10 : m < 10
    · have c1 := fun W => rdig_any (m : Int) (by omega) (by omega) W
      simp only [Int.toNat_natCast] at c1
      obtain ⟨T, hT, zT⟩ : ∃ T, bs (Lib.decDigits m) = T ∧ T.size ≤ 20 := ⟨_, rfl, by rw [bs_size]; have := decD_len (n := m) (by omega); omega⟩
      have hR : (⟨#[45]⟩ : ByteArray) ++ T = bs (45 :: Lib.decDigits m) := by rw [← hT, show (⟨#[45]⟩ : ByteArray) = bs [45] from rfl, bs_append]; rfl
      rw [← hR]
      rw [hT] at c1
      have C1 := Lib.hid c1
      clear c1 hT h hR h0
      have d1 : decide (-10 < -(m : Int)) = true := by simp; omega
      have hng : IntKind.i64.wrap (-(-(m : Int))) = (m : Int) := by rw [Int.neg_neg]; exact IntWalk.i64_in _ (by omega)
      go_enter Tryd.func49, Tryd.ntmps49
      go_wp2_with (go_at_call 66; refine (C1.out _).mono ?_; rintro e w1 ⟨rfl, rfl⟩)
      go_ret
      exact ⟨rfl, rfl⟩
    · have d1 : decide (-10 < -(m : Int)) = false := by simp; omega
      have c1 := fun W => rdig_any ((m : Int) / 10) (by omega) (by omega) W
      have c2 := fun W => rdig_any ((m : Int) % 10) (by omega) (by omega) W
      rw [show ((m : Int) / 10).toNat = m / 10 by omega] at c1
      rw [show ((m : Int) % 10).toNat = m % 10 by omega] at c2
      obtain ⟨T1, h11, z1⟩ : ∃ T, bs (Lib.decDigits (m / 10)) = T ∧ T.size ≤ 20 := ⟨_, rfl, by rw [bs_size]; have := decD_len (n := m / 10) (by omega); omega⟩
      obtain ⟨T2, h22, z2⟩ : ∃ T, bs (Lib.decDigits (m % 10)) = T ∧ T.size ≤ 20 := ⟨_, rfl, by rw [bs_size]; have := decD_len (n := m % 10) (by omega); omega⟩
      have hR : (⟨#[45]⟩ : ByteArray) ++ T1 ++ T2 = bs (45 :: Lib.decDigits m) := by
        rw [← h11, ← h22, show (⟨#[45]⟩ : ByteArray) = bs [45] from rfl]
        simp only [bs_append]
        congr 1
        rw [decD_last m h10, show Lib.decDigits (m % 10) = [UInt8.ofNat (48 + m % 10)] by rw [Lib.decDigits, dif_pos (by omega)]]
        rfl
      rw [← hR]
      rw [h11] at c1
      rw [h22] at c2
      have C1 := Lib.hid c1
      have C2 := Lib.hid c2
      clear c1 c2 h11 h22 hR h
      go_enter Tryd.func49, Tryd.ntmps49
      go_wp2_with (go_at_call 66; first | (with_reducible refine (C1.out _).mono ?_) | (with_reducible refine (C2.out _).mono ?_); rintro e w1 ⟨rfl, rfl⟩)
      go_ret
      exact ⟨rfl, rfl⟩

set_option maxRecDepth 100000 in
theorem rproto40_any (n : Int) (h : IntKind.i64.has n) (w : World) : Calls Tryd.prog 50 #[.int .i64 n] w fun r w' => r = .returned (.string (bs (protoW n))) ∧ w = w' := by
  have c1 := fun W => rword_any n W
  have c2 := fun W => rnumber_any n h W
  by_cases hg : n = 1 ∨ n = 6 ∨ n = 17
  · have hv : protoW n = wordR n := by rw [word_eq hg, protoW_good hg]
    have hq : ((bs (wordR n)).toList == []) = false := by
      rw [bs_nil]
      rcases hg with rfl | rfl | rfl <;> rfl
    rw [hv]
    obtain ⟨T, hT⟩ : ∃ T, wordR n = T := ⟨_, rfl⟩
    rw [hT] at c1 hq ⊢
    have C1 := Lib.hid c1
    clear c1 c2 hT hv h hg
    go_enter Tryd.func50, Tryd.ntmps50
    go_wp2_with (go_at_call 69; refine (C1.out _).mono ?_; rintro e w1 ⟨rfl, rfl⟩)
    go_ret
    exact ⟨rfl, rfl⟩
  · have hv : protoW n = Lib.itoa n := by unfold protoW; rw [if_neg (fun e => hg (.inl e)), if_neg (fun e => hg (.inr (.inl e))), if_neg (fun e => hg (.inr (.inr e)))]
    have h0 : wordR n = [] := by unfold wordR; rw [if_neg (fun e => hg (.inl e)), if_neg (fun e => hg (.inr (.inl e))), if_neg (fun e => hg (.inr (.inr e)))]
    rw [h0] at c1
    have hq : ((bs ([] : List UInt8)).toList == []) = true := by rw [bs_nil]; rfl
    rw [hv]
    obtain ⟨E, hE⟩ : ∃ E : ByteArray, bs ([] : List UInt8) = E := ⟨_, rfl⟩
    rw [hE] at c1 hq
    obtain ⟨T, hT⟩ : ∃ T, Lib.itoa n = T := ⟨_, rfl⟩
    rw [hT] at c2 ⊢
    have C1 := Lib.hid c1
    have C2 := Lib.hid c2
    clear c1 c2 hT hv h hg h0 hE
    go_enter Tryd.func50, Tryd.ntmps50
    go_wp2_with (first
      | (go_at_call 69; refine (C1.out _).mono ?_; rintro e w1 ⟨rfl, rfl⟩)
      | (go_at_call 49; refine (C2.out _).mono ?_; rintro e w1 ⟨rfl, rfl⟩))
    go_ret
    exact ⟨rfl, rfl⟩

theorem bindT_eq (n p a y p2 a2 y2 : Int) (st : Bool) : bindT ((n, p, a, y), (p2, a2, y2), st) = firstW st ++ [32] ++ Lib.itoa n ++ [32] ++ protoW p ++ [32] ++ textV a ++ [32] ++ Lib.itoa y ++ [32, 97, 115, 32] ++ textV a2 ++ [32] ++ Lib.itoa y2 := by
  unfold bindT wordsB
  simp only
  rw [join2, join2, join2, join2, join2, join2, join2, Lib.join_one]
  simp [wAs]
theorem sz_itoa (n : Int) (h : IntKind.i64.has n) : ∃ T : ByteArray, bs (Lib.itoa n) = T ∧ T.size ≤ 20 := ⟨_, rfl, by rw [bs_size]; exact itoa_len (i64_le h).1 (i64_le h).2⟩
theorem sz_proto (n : Int) (h : IntKind.i64.has n) : ∃ T : ByteArray, bs (protoW n) = T ∧ T.size ≤ 20 := ⟨_, rfl, by rw [bs_size]; exact protoW_len (i64_le h).1 (i64_le h).2⟩
theorem sz_text (n : Int) : ∃ T : ByteArray, bs (textV n) = T ∧ T.size ≤ 20 := ⟨_, rfl, by rw [bs_size]; have := textV_len n; omega⟩

set_option maxRecDepth 100000 in
set_option maxHeartbeats 4000000 in
theorem rbind_any (n p a y p2 a2 y2 : Int) (st : Bool) (h1 : IntKind.i64.has n) (h2 : IntKind.i64.has p) (h4 : IntKind.i64.has y) (h7 : IntKind.i64.has y2) (w : World) : Calls Tryd.prog 26 #[.agg #[.int .i64 n, .int .i64 p, .int .i64 a, .int .i64 y, .int .i64 p2, .int .i64 a2, .int .i64 y2, .bool st]] w fun r w' => r = .returned (.string (bs (bindT ((n, p, a, y), (p2, a2, y2), st)))) ∧ Below w.heap.size w w' := by
  have hb := Lib.hid ((Below.refl w.heap.size w).alloc (Nat.le_refl _) (.cells #[.int .i64 n, .int .i64 p, .int .i64 a, .int .i64 y, .int .i64 p2, .int .i64 a2, .int .i64 y2, .bool st] 28))
  have c1 := fun W => rnumber_any n h1 W
  have c2 := fun W => rproto40_any p h2 W
  have c3 := fun W => rtext_any a W
  have c4 := fun W => rnumber_any y h4 W
  have c5 := fun W => rtext_any a2 W
  have c6 := fun W => rnumber_any y2 h7 W
  have hv := bindT_eq n p a y p2 a2 y2 st
  obtain ⟨T1, h11, z1⟩ := sz_itoa n h1
  obtain ⟨T2, h22, z2⟩ := sz_proto p h2
  obtain ⟨T3, h33, z3⟩ := sz_text a
  obtain ⟨T4, h44, z4⟩ := sz_itoa y h4
  obtain ⟨T5, h55, z5⟩ := sz_text a2
  obtain ⟨T6, h66, z6⟩ := sz_itoa y2 h7
  obtain ⟨T0, h00, z0⟩ : ∃ T : ByteArray, bs (firstW st ++ [32]) = T ∧ T.size ≤ 20 := ⟨_, rfl, by cases st <;> decide⟩
  have hT : T0 ++ T1 ++ ⟨#[32]⟩ ++ T2 ++ ⟨#[32]⟩ ++ T3 ++ ⟨#[32]⟩ ++ T4 ++ ⟨#[32, 97, 115, 32]⟩ ++ T5 ++ ⟨#[32]⟩ ++ T6 = bs (bindT ((n, p, a, y), (p2, a2, y2), st)) := by
    rw [hv, ← h00, ← h11, ← h22, ← h33, ← h44, ← h55, ← h66, show (⟨#[32]⟩ : ByteArray) = bs [32] from rfl, show (⟨#[32, 97, 115, 32]⟩ : ByteArray) = bs [32, 97, 115, 32] from rfl]
    simp only [bs_append]
  rw [h11] at c1
  rw [h22] at c2
  rw [h33] at c3
  rw [h44] at c4
  rw [h55] at c5
  rw [h66] at c6
  have HT := Lib.hid hT
  have C1 := Lib.hid c1
  have C2 := Lib.hid c2
  have C3 := Lib.hid c3
  have C4 := Lib.hid c4
  have C5 := Lib.hid c5
  have C6 := Lib.hid c6
  have T0E := Lib.hid h00
  clear h00 h11 h22 h33 h44 h55 h66 c1 c2 c3 c4 c5 c6 hT hv h1 h2 h4 h7
  cases st with
  | false =>
    obtain rfl := T0E.out
    clear T0E
    go_enter Tryd.func26, Tryd.ntmps26
    go_upto_region 4 with fail
    go_quiet ((first
      | (go_at_call 49; first | (with_reducible refine Calls.quiet_of_same ((C1.out _).mono fun e w' h => ⟨by rw [h.1], h.2.symm⟩)) | (with_reducible refine Calls.quiet_of_same ((C4.out _).mono fun e w' h => ⟨by rw [h.1], h.2.symm⟩)))
      | (go_at_call 50; refine Calls.quiet_of_same ((C2.out _).mono fun e w' h => ⟨by rw [h.1], h.2.symm⟩))
      | (go_at_call 51; refine Calls.quiet_of_same ((C3.out _).mono fun e w' h => ⟨by rw [h.1], h.2.symm⟩))))
    go_upto_region 5 with fail
    have bk : Blk ((w.alloc (.cells #[.int .i64 n, .int .i64 p, .int .i64 a, .int .i64 y, .int .i64 p2, .int .i64 a2, .int .i64 y2, .bool false] 28)).drewN nq) w.heap.size 28 #[.int .i64 n, .int .i64 p, .int .i64 a, .int .i64 y, .int .i64 p2, .int .i64 a2, .int .i64 y2, .bool false] := (Blk.new w 28 #[.int .i64 n, .int .i64 p, .int .i64 a, .int .i64 y, .int .i64 p2, .int .i64 a2, .int .i64 y2, .bool false]).drewN nq
    have hl : Below w.heap.size w ((w.alloc (.cells #[.int .i64 n, .int .i64 p, .int .i64 a, .int .i64 y, .int .i64 p2, .int .i64 a2, .int .i64 y2, .bool false] 28)).drewN nq) := below_drewN hb.out nq
    obtain ⟨V, hV⟩ : ∃ V, w.heap.size = V := ⟨_, rfl⟩
    have HL := Lib.hid hl
    clear hl
    rw [hV] at bk ⊢
    have HV := Lib.hid hV
    generalize ((w.alloc (.cells #[.int .i64 n, .int .i64 p, .int .i64 a, .int .i64 y, .int .i64 p2, .int .i64 a2, .int .i64 y2, .bool false] 28)).drewN nq) = w4 at bk HL ⊢
    have k5 := bk.cell 5
    have k6 := bk.cell 6
    simp only [List.getElem?_toArray, List.getElem?_cons_zero, List.getElem?_cons_succ] at k5 k6
    clear bk hV hb
    go_quiet ((first
      | (go_at_call 49; refine Calls.quiet_of_same ((C6.out _).mono fun e w' h => ⟨by rw [h.1], h.2.symm⟩))
      | (go_at_call 50; refine Calls.quiet_of_same ((C2.out _).mono fun e w' h => ⟨by rw [h.1], h.2.symm⟩))
      | (go_at_call 51; refine Calls.quiet_of_same ((C5.out _).mono fun e w' h => ⟨by rw [h.1], h.2.symm⟩))))
    go_wp2
    go_ret
    exact ⟨by rw [← HT.out]; rfl, below_drewN HL.out _⟩
  | true =>
    obtain rfl := T0E.out
    clear T0E
    go_enter Tryd.func26, Tryd.ntmps26
    go_upto_region 4 with fail
    go_quiet ((first
      | (go_at_call 49; first | (with_reducible refine Calls.quiet_of_same ((C1.out _).mono fun e w' h => ⟨by rw [h.1], h.2.symm⟩)) | (with_reducible refine Calls.quiet_of_same ((C4.out _).mono fun e w' h => ⟨by rw [h.1], h.2.symm⟩)))
      | (go_at_call 50; refine Calls.quiet_of_same ((C2.out _).mono fun e w' h => ⟨by rw [h.1], h.2.symm⟩))
      | (go_at_call 51; refine Calls.quiet_of_same ((C3.out _).mono fun e w' h => ⟨by rw [h.1], h.2.symm⟩))))
    go_upto_region 5 with fail
    have bk : Blk ((w.alloc (.cells #[.int .i64 n, .int .i64 p, .int .i64 a, .int .i64 y, .int .i64 p2, .int .i64 a2, .int .i64 y2, .bool true] 28)).drewN nq) w.heap.size 28 #[.int .i64 n, .int .i64 p, .int .i64 a, .int .i64 y, .int .i64 p2, .int .i64 a2, .int .i64 y2, .bool true] := (Blk.new w 28 #[.int .i64 n, .int .i64 p, .int .i64 a, .int .i64 y, .int .i64 p2, .int .i64 a2, .int .i64 y2, .bool true]).drewN nq
    have hl : Below w.heap.size w ((w.alloc (.cells #[.int .i64 n, .int .i64 p, .int .i64 a, .int .i64 y, .int .i64 p2, .int .i64 a2, .int .i64 y2, .bool true] 28)).drewN nq) := below_drewN hb.out nq
    obtain ⟨V, hV⟩ : ∃ V, w.heap.size = V := ⟨_, rfl⟩
    have HL := Lib.hid hl
    clear hl
    rw [hV] at bk ⊢
    have HV := Lib.hid hV
    generalize ((w.alloc (.cells #[.int .i64 n, .int .i64 p, .int .i64 a, .int .i64 y, .int .i64 p2, .int .i64 a2, .int .i64 y2, .bool true] 28)).drewN nq) = w4 at bk HL ⊢
    have k5 := bk.cell 5
    have k6 := bk.cell 6
    simp only [List.getElem?_toArray, List.getElem?_cons_zero, List.getElem?_cons_succ] at k5 k6
    clear bk hV hb
    go_quiet ((first
      | (go_at_call 49; refine Calls.quiet_of_same ((C6.out _).mono fun e w' h => ⟨by rw [h.1], h.2.symm⟩))
      | (go_at_call 50; refine Calls.quiet_of_same ((C2.out _).mono fun e w' h => ⟨by rw [h.1], h.2.symm⟩))
      | (go_at_call 51; refine Calls.quiet_of_same ((C5.out _).mono fun e w' h => ⟨by rw [h.1], h.2.symm⟩))))
    go_wp2
    go_ret
    exact ⟨by rw [← HT.out]; rfl, below_drewN HL.out _⟩
end Go.Proofs.YtkbbkddepcjoaaaDoor
