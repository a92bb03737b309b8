/-
  report: a binding in words. Printed by wip/gen/repC.py.
-/
import Derived.Test.YtkbbkddepcjoaaaDoorRepB
namespace Go.Proofs.YtkbbkddepcjoaaaDoor
open Go.RowKit Go.Great

theorem bindT_two (n p a y p2 a2 y2 : Int) (st : Bool) : Lib.join [firstW st, Lib.join [Lib.itoa n, protoW p, textV a, Lib.itoa y] [32], wAs, textV a2, Lib.itoa y2] [32] = bindT ((n, p, a, y), (p2, a2, y2), st) := by
  unfold bindT wordsB
  simp only
  simp only [join2, Lib.join_one]
  simp
theorem join_small {L : List (List UInt8)} {k N : Nat} (hL : L.length ≤ k) (h : ∀ x ∈ L, x.length ≤ N) (hk : k * (N + 1) ≤ 140737488355328) : (Lib.join L [32]).length ≤ 140737488355328 := by
  have e1 := join_len L N h
  have e2 : L.length * (N + 1) ≤ k * (N + 1) := Nat.mul_le_mul_right _ hL
  omega

set_option maxRecDepth 100000 in
set_option maxHeartbeats 4000000 in
theorem bind_any (n p a y p2 a2 y2 : Int) (st : Bool) (h1 : IntKind.i64.has n) (h2 : IntKind.i64.has p) (h4 : IntKind.i64.has y) (h7 : IntKind.i64.has y2) (w : World) (htab : TabW w) : Calls Tryd.prog 13 #[.agg #[.int .i64 n, .int .i64 p, .int .i64 a, .int .i64 y, .int .i64 p2, .int .i64 a2, .int .i64 y2, .bool st]] w fun r w' => r = .returned (.string (bs (bindT ((n, p, a, y), (p2, a2, y2), st)))) ∧ Below w.heap.size w w' := by
  have c1 := fun W ht => num_any n h1 W ht
  have c2 := fun W ht => pproto_any p h2 W ht
  have c3 := fun W ht => ftext_any a W ht
  have c4 := fun W ht => num_any y h4 W ht
  have c5 := fun W ht => ftext_any a2 W ht
  have c6 := fun W ht => num_any y2 h7 W ht
  have hv := bindT_two n p a y p2 a2 y2 st
  have z1 := itoa_len (i64_le h1).1 (i64_le h1).2
  have z2 := protoW_len (i64_le h2).1 (i64_le h2).2
  have z3 := textV_len a
  have z4 := itoa_len (i64_le h4).1 (i64_le h4).2
  have z5 := textV_len a2
  have z6 := itoa_len (i64_le h7).1 (i64_le h7).2
  obtain ⟨T1, h11⟩ : ∃ T, Lib.itoa n = T := ⟨_, rfl⟩
  obtain ⟨T2, h22⟩ : ∃ T, protoW p = T := ⟨_, rfl⟩
  obtain ⟨T3, h33⟩ : ∃ T, textV a = T := ⟨_, rfl⟩
  obtain ⟨T4, h44⟩ : ∃ T, Lib.itoa y = T := ⟨_, rfl⟩
  obtain ⟨T5, h55⟩ : ∃ T, textV a2 = T := ⟨_, rfl⟩
  obtain ⟨T6, h66⟩ : ∃ T, Lib.itoa y2 = T := ⟨_, rfl⟩
  rw [h11, h22, h33, h44, h55, h66] at hv
  rw [h11] at c1 z1
  rw [h22] at c2 z2
  rw [h33] at c3 z3
  rw [h44] at c4 z4
  rw [h55] at c5 z5
  rw [h66] at c6 z6
  have j4 : (Lib.join [T1, T2, T3, T4] [32]).length ≤ 84 := by
    have := join_len [T1, T2, T3, T4] 20 (by intro x hx; simp only [List.mem_cons, List.not_mem_nil, or_false] at hx; rcases hx with rfl | rfl | rfl | rfl <;> omega)
    simpa using this
  have HJ4 := Lib.hid (show (Lib.join [T1, T2, T3, T4] [32]).length ≤ 140737488355328 by omega)
  have HJ5 := Lib.hid (show (Lib.join [firstW st, Lib.join [T1, T2, T3, T4] [32], wAs, T5, T6] [32]).length ≤ 140737488355328 by
    have e0 : (firstW st).length ≤ 6 := by cases st <;> decide
    have e1 : wAs.length ≤ 6 := by decide
    exact join_small (k := 5) (N := 100) (by simp) (by intro x hx; simp only [List.mem_cons, List.not_mem_nil, or_false] at hx; rcases hx with rfl | rfl | rfl | rfl | rfl <;> omega) (by omega))
  have HV := Lib.hid hv
  have C1 := Lib.hid c1
  have C2 := Lib.hid c2
  have C3 := Lib.hid c3
  have C4 := Lib.hid c4
  have C5 := Lib.hid c5
  have C6 := Lib.hid c6
  have HT0 := Lib.hid htab
  clear h11 h22 h33 h44 h55 h66 c1 c2 c3 c4 c5 c6 hv h1 h2 h4 h7 z1 z2 z3 z4 z5 z6 j4 htab
  cases st with
  | false =>
    have HB := Lib.hid ((Below.refl w.heap.size w).alloc (Nat.le_refl _) (.cells #[.int .i64 n, .int .i64 p, .int .i64 a, .int .i64 y, .int .i64 p2, .int .i64 a2, .int .i64 y2, .bool false] 28))
    have bk0 := Blk.new w 28 #[.int .i64 n, .int .i64 p, .int .i64 a, .int .i64 y, .int .i64 p2, .int .i64 a2, .int .i64 y2, .bool false]
    go_enter Tryd.func13, Tryd.ntmps13
    go_upto_region 4 with fail
    have bk := bk0
    have hb := HB.out
    have HVW := Lib.hid bk0.lt
    obtain ⟨V, hV⟩ : ∃ V, w.heap.size = V := ⟨_, rfl⟩
    rw [hV] at bk ⊢
    have hV1 := HVW.out
    rw [hV] at hV1
    generalize (w.alloc (.cells #[.int .i64 n, .int .i64 p, .int .i64 a, .int .i64 y, .int .i64 p2, .int .i64 a2, .int .i64 y2, .bool false] 28)) = w1 at bk hb hV1 ⊢
    have BK := Lib.hid bk
    have L1 := Lib.hid hb
    clear hV hb bk0 HB HVW
    have k0 := bk.cell 0
    have k1 := bk.cell 1
    have k2 := bk.cell 2
    have k3 := bk.cell 3
    simp only [List.getElem?_toArray, List.getElem?_cons_zero, List.getElem?_cons_succ] at k0 k1 k2 k3
    have d0 := fun p : After w1 => p.read k0
    have d1 := fun p : After w1 => p.read k1
    have d2 := fun p : After w1 => p.read k2
    have d3 := fun p : After w1 => p.read k3
    clear bk k0 k1 k2 k3
    refine wp_after_tail 16 (by kernel_rfl) (by kernel_rfl) ?_
    simp only [List.take_succ_cons, List.take_zero, List.drop_succ_cons, List.drop_zero]
    repeat (go_big_quiet_step ((first
      | (go_at_call 39; exact calls_after (C2.out _ (tab_below HT0.out (L1.out.trans ((After.below _).mono L1.out.size)))))
      | (go_at_call 40; exact calls_after (C3.out _ (tab_below HT0.out (L1.out.trans ((After.below _).mono L1.out.size)))))
      | (go_at_call 38; first | (with_reducible exact calls_after (C1.out _ (tab_below HT0.out (L1.out.trans ((After.below _).mono L1.out.size))))) | (with_reducible exact calls_after (C4.out _ (tab_below HT0.out (L1.out.trans ((After.below _).mono L1.out.size)))))))))
    refine wpQuiet_nil ?_
    intro w' hw'
    obtain ⟨q, rfl⟩ := hw'
    have PB := Lib.hid q.below
    obtain ⟨w2, hw2⟩ : ∃ w2, q.world = w2 := ⟨_, rfl⟩
    rw [hw2] at PB ⊢
    clear hw2 q d0 d1 d2 d3
    have TR2 : TRow (w2.alloc (.cells (strs [T1, T2, T3, T4]).toArray 9)) w2.heap.size 0 [T1, T2, T3, T4] := TRow.of_blk (Blk.new w2 9 (strs [T1, T2, T3, T4]).toArray)
    go_wp2_with (go_at_call 37; refine (line_any w2.heap.size 4 [T1, T2, T3, T4] _ TR2 (by simp) HJ4.out (by simp)).mono ?_; rintro e w3 ⟨rfl, b3⟩)
    have L2 := Lib.hid (L1.out.trans (PB.out.mono L1.out.size))
    have hs3 : w.heap.size ≤ w2.heap.size := L2.out.size
    have l3 := (L2.out.alloc (o := .cells #[.string (bs T1), .string (bs T2), .string (bs T3), .string (bs T4)] 9) hs3).trans (b3.mono (by simp; omega))
    have bk := (((BK.out.on PB.out).alloc (.cells #[.string (bs T1), .string (bs T2), .string (bs T3), .string (bs T4)] 9)).on b3)
    have L3 := Lib.hid l3
    clear l3 b3
    go_upto_region 5 with fail
    have k5 := bk.cell 5
    have k6 := bk.cell 6
    simp only [List.getElem?_toArray, List.getElem?_cons_zero, List.getElem?_cons_succ] at k5 k6
    have d5 := fun p : After w3 => p.read k5
    have d6 := fun p : After w3 => p.read k6
    clear bk k5 k6
    refine wp_after_tail 10 (by kernel_rfl) (by kernel_rfl) ?_
    simp only [List.take_succ_cons, List.take_zero, List.drop_succ_cons, List.drop_zero]
    repeat (go_big_quiet_step ((first
      | (go_at_call 40; exact calls_after (C5.out _ (tab_below HT0.out (L3.out.trans ((After.below _).mono L3.out.size)))))
      | (go_at_call 38; exact calls_after (C6.out _ (tab_below HT0.out (L3.out.trans ((After.below _).mono L3.out.size))))))))
    refine wpQuiet_nil ?_
    intro w' hw'
    obtain ⟨q, rfl⟩ := hw'
    have PB' := Lib.hid q.below
    obtain ⟨w4, hw4⟩ : ∃ w4, q.world = w4 := ⟨_, rfl⟩
    rw [hw4] at PB' ⊢
    clear hw4 q d5 d6
    obtain ⟨J, hJ⟩ : ∃ J, Lib.join [T1, T2, T3, T4] [32] = J := ⟨_, rfl⟩
    rw [hJ]
    have TR4 : TRow (w4.alloc (.cells (strs [firstW false, J, wAs, T5, T6]).toArray 9)) w4.heap.size 0 [firstW false, J, wAs, T5, T6] := TRow.of_blk (Blk.new w4 9 (strs [firstW false, J, wAs, T5, T6]).toArray)
    go_wp2_with (go_at_call 37; refine (line_any w4.heap.size 5 [firstW false, J, wAs, T5, T6] _ TR4 (by simp) (by rw [← hJ]; exact HJ5.out) (by simp)).mono ?_; rintro e w5 ⟨rfl, b5⟩)
    have L4 := Lib.hid (L3.out.trans (PB'.out.mono L3.out.size))
    have hs5 : w.heap.size ≤ w4.heap.size := L4.out.size
    have l5 := (L4.out.alloc (o := .cells (strs [firstW false, J, wAs, T5, T6]).toArray 9) hs5).trans (b5.mono (by simp; omega))
    go_wp2
    go_ret
    exact ⟨by rw [← HV.out, ← hJ]; first | done | rfl, l5⟩
  | true =>
    have HB := Lib.hid ((Below.refl w.heap.size w).alloc (Nat.le_refl _) (.cells #[.int .i64 n, .int .i64 p, .int .i64 a, .int .i64 y, .int .i64 p2, .int .i64 a2, .int .i64 y2, .bool true] 28))
    have bk0 := Blk.new w 28 #[.int .i64 n, .int .i64 p, .int .i64 a, .int .i64 y, .int .i64 p2, .int .i64 a2, .int .i64 y2, .bool true]
    go_enter Tryd.func13, Tryd.ntmps13
    go_upto_region 4 with fail
    have bk := bk0
    have hb := HB.out
    have HVW := Lib.hid bk0.lt
    obtain ⟨V, hV⟩ : ∃ V, w.heap.size = V := ⟨_, rfl⟩
    rw [hV] at bk ⊢
    have hV1 := HVW.out
    rw [hV] at hV1
    generalize (w.alloc (.cells #[.int .i64 n, .int .i64 p, .int .i64 a, .int .i64 y, .int .i64 p2, .int .i64 a2, .int .i64 y2, .bool true] 28)) = w1 at bk hb hV1 ⊢
    have BK := Lib.hid bk
    have L1 := Lib.hid hb
    clear hV hb bk0 HB HVW
    have k0 := bk.cell 0
    have k1 := bk.cell 1
    have k2 := bk.cell 2
    have k3 := bk.cell 3
    simp only [List.getElem?_toArray, List.getElem?_cons_zero, List.getElem?_cons_succ] at k0 k1 k2 k3
    have d0 := fun p : After w1 => p.read k0
    have d1 := fun p : After w1 => p.read k1
    have d2 := fun p : After w1 => p.read k2
    have d3 := fun p : After w1 => p.read k3
    clear bk k0 k1 k2 k3
    refine wp_after_tail 16 (by kernel_rfl) (by kernel_rfl) ?_
    simp only [List.take_succ_cons, List.take_zero, List.drop_succ_cons, List.drop_zero]
    repeat (go_big_quiet_step ((first
      | (go_at_call 39; exact calls_after (C2.out _ (tab_below HT0.out (L1.out.trans ((After.below _).mono L1.out.size)))))
      | (go_at_call 40; exact calls_after (C3.out _ (tab_below HT0.out (L1.out.trans ((After.below _).mono L1.out.size)))))
      | (go_at_call 38; first | (with_reducible exact calls_after (C1.out _ (tab_below HT0.out (L1.out.trans ((After.below _).mono L1.out.size))))) | (with_reducible exact calls_after (C4.out _ (tab_below HT0.out (L1.out.trans ((After.below _).mono L1.out.size)))))))))
    refine wpQuiet_nil ?_
    intro w' hw'
    obtain ⟨q, rfl⟩ := hw'
    have PB := Lib.hid q.below
    obtain ⟨w2, hw2⟩ : ∃ w2, q.world = w2 := ⟨_, rfl⟩
    rw [hw2] at PB ⊢
    clear hw2 q d0 d1 d2 d3
    have TR2 : TRow (w2.alloc (.cells (strs [T1, T2, T3, T4]).toArray 9)) w2.heap.size 0 [T1, T2, T3, T4] := TRow.of_blk (Blk.new w2 9 (strs [T1, T2, T3, T4]).toArray)
    go_wp2_with (go_at_call 37; refine (line_any w2.heap.size 4 [T1, T2, T3, T4] _ TR2 (by simp) HJ4.out (by simp)).mono ?_; rintro e w3 ⟨rfl, b3⟩)
    have L2 := Lib.hid (L1.out.trans (PB.out.mono L1.out.size))
    have hs3 : w.heap.size ≤ w2.heap.size := L2.out.size
    have l3 := (L2.out.alloc (o := .cells #[.string (bs T1), .string (bs T2), .string (bs T3), .string (bs T4)] 9) hs3).trans (b3.mono (by simp; omega))
    have bk := (((BK.out.on PB.out).alloc (.cells #[.string (bs T1), .string (bs T2), .string (bs T3), .string (bs T4)] 9)).on b3)
    have L3 := Lib.hid l3
    clear l3 b3
    go_upto_region 5 with fail
    have k5 := bk.cell 5
    have k6 := bk.cell 6
    simp only [List.getElem?_toArray, List.getElem?_cons_zero, List.getElem?_cons_succ] at k5 k6
    have d5 := fun p : After w3 => p.read k5
    have d6 := fun p : After w3 => p.read k6
    clear bk k5 k6
    refine wp_after_tail 10 (by kernel_rfl) (by kernel_rfl) ?_
    simp only [List.take_succ_cons, List.take_zero, List.drop_succ_cons, List.drop_zero]
    repeat (go_big_quiet_step ((first
      | (go_at_call 40; exact calls_after (C5.out _ (tab_below HT0.out (L3.out.trans ((After.below _).mono L3.out.size)))))
      | (go_at_call 38; exact calls_after (C6.out _ (tab_below HT0.out (L3.out.trans ((After.below _).mono L3.out.size))))))))
    refine wpQuiet_nil ?_
    intro w' hw'
    obtain ⟨q, rfl⟩ := hw'
    have PB' := Lib.hid q.below
    obtain ⟨w4, hw4⟩ : ∃ w4, q.world = w4 := ⟨_, rfl⟩
    rw [hw4] at PB' ⊢
    clear hw4 q d5 d6
    obtain ⟨J, hJ⟩ : ∃ J, Lib.join [T1, T2, T3, T4] [32] = J := ⟨_, rfl⟩
    rw [hJ]
    have TR4 : TRow (w4.alloc (.cells (strs [firstW true, J, wAs, T5, T6]).toArray 9)) w4.heap.size 0 [firstW true, J, wAs, T5, T6] := TRow.of_blk (Blk.new w4 9 (strs [firstW true, J, wAs, T5, T6]).toArray)
    go_wp2_with (go_at_call 37; refine (line_any w4.heap.size 5 [firstW true, J, wAs, T5, T6] _ TR4 (by simp) (by rw [← hJ]; exact HJ5.out) (by simp)).mono ?_; rintro e w5 ⟨rfl, b5⟩)
    have L4 := Lib.hid (L3.out.trans (PB'.out.mono L3.out.size))
    have hs5 : w.heap.size ≤ w4.heap.size := L4.out.size
    have l5 := (L4.out.alloc (o := .cells (strs [firstW true, J, wAs, T5, T6]).toArray 9) hs5).trans (b5.mono (by simp; omega))
    go_wp2
    go_ret
    exact ⟨by rw [← HV.out, ← hJ]; first | done | rfl, l5⟩
end Go.Proofs.YtkbbkddepcjoaaaDoor
