/-
  report: a session in words, by the program and by the document. Printed by wip/gen/repK.py.
-/
import Derived.Test.YtkbbkddepcjoaaaDoorRepC
namespace Go.Proofs.YtkbbkddepcjoaaaDoor
open Go.RowKit Go.Great

theorem sessT_eq (b s u a p : Int) : sessT (b, s, u, a, p) = [115, 101, 115, 115, 105, 111, 110, 32] ++ Lib.itoa b ++ [32] ++ Lib.itoa s ++ [32] ++ textV a ++ [32] ++ Lib.itoa p ++ [32] ++ Lib.itoa u := by
  unfold sessT wordsS
  simp only
  rw [join2, join2, join2, join2, join2, Lib.join_one]
  simp [wSession]

set_option maxRecDepth 100000 in
set_option maxHeartbeats 4000000 in
theorem sess_any (b s u a p : Int) (h1 : IntKind.i64.has b) (h2 : IntKind.i64.has s) (h3 : IntKind.i64.has u) (h5 : IntKind.i64.has p) (w : World) (htab : TabW w) : Calls Tryd.prog 27 #[.agg #[.int .i64 b, .int .i64 s, .int .i64 u, .int .i64 a, .int .i64 p]] w fun r w' => r = .returned (.string (bs (sessT (b, s, u, a, p)))) ∧ Below w.heap.size w w' := by
  have c1 := fun W ht => num_any b h1 W ht
  have c2 := fun W ht => num_any s h2 W ht
  have c3 := fun W ht => ftext_any a W ht
  have c4 := fun W ht => num_any p h5 W ht
  have c5 := fun W ht => num_any u h3 W ht
  have hv : Lib.join [wSession, Lib.itoa b, Lib.itoa s, textV a, Lib.itoa p, Lib.itoa u] [32] = sessT (b, s, u, a, p) := rfl
  have hl := sessT_len (b, s, u, a, p) h1 h2 h5 h3
  obtain ⟨T1, h11⟩ : ∃ T, Lib.itoa b = T := ⟨_, rfl⟩
  obtain ⟨T2, h22⟩ : ∃ T, Lib.itoa s = T := ⟨_, rfl⟩
  obtain ⟨T3, h33⟩ : ∃ T, textV a = T := ⟨_, rfl⟩
  obtain ⟨T4, h44⟩ : ∃ T, Lib.itoa p = T := ⟨_, rfl⟩
  obtain ⟨T5, h55⟩ : ∃ T, Lib.itoa u = T := ⟨_, rfl⟩
  rw [h11, h22, h33, h44, h55] at hv
  rw [h11] at c1
  rw [h22] at c2
  rw [h33] at c3
  rw [h44] at c4
  rw [h55] at c5
  rw [← hv] at hl ⊢
  have HJ := Lib.hid (show (Lib.join [wSession, T1, T2, T3, T4, T5] [32]).length ≤ 140737488355328 by omega)
  have C1 := Lib.hid c1
  have C2 := Lib.hid c2
  have C3 := Lib.hid c3
  have C4 := Lib.hid c4
  have C5 := Lib.hid c5
  have HT0 := Lib.hid htab
  clear h11 h22 h33 h44 h55 c1 c2 c3 c4 c5 hv hl h1 h2 h3 h5 htab
  have hb := (Below.refl w.heap.size w).alloc (Nat.le_refl _) (.cells #[.int .i64 b, .int .i64 s, .int .i64 u, .int .i64 a, .int .i64 p] 64)
  have bk := Blk.new w 64 #[.int .i64 b, .int .i64 s, .int .i64 u, .int .i64 a, .int .i64 p]
  go_enter Tryd.func27, Tryd.ntmps27
  go_upto_region 1 with fail
  have HVW := Lib.hid bk.lt
  obtain ⟨V, hV⟩ : ∃ V, w.heap.size = V := ⟨_, rfl⟩
  rw [hV] at bk ⊢
  have hV1 := HVW.out
  rw [hV] at hV1
  generalize (w.alloc (.cells #[.int .i64 b, .int .i64 s, .int .i64 u, .int .i64 a, .int .i64 p] 64)) = w1 at bk hb hV1 ⊢
  have L1 := Lib.hid hb
  have k0 := bk.cell 0
  have k1 := bk.cell 1
  have k2 := bk.cell 2
  have k3 := bk.cell 3
  have k4 := bk.cell 4
  simp only [List.getElem?_toArray, List.getElem?_cons_zero, List.getElem?_cons_succ] at k0 k1 k2 k3 k4
  have d0 := fun p : After w1 => p.read k0
  have d1 := fun p : After w1 => p.read k1
  have d2 := fun p : After w1 => p.read k2
  have d3 := fun p : After w1 => p.read k3
  have d4 := fun p : After w1 => p.read k4
  clear hV hb HVW bk k0 k1 k2 k3 k4
  refine wp_after_tail 17 (by kernel_rfl) (by kernel_rfl) ?_
  simp only [List.take_succ_cons, List.take_zero, List.drop_succ_cons, List.drop_zero]
  repeat (go_big_quiet_step ((first
    | (go_at_call 40; exact calls_after (C3.out _ (tab_below HT0.out (L1.out.trans ((After.below _).mono L1.out.size)))))
    | (go_at_call 38; first | (with_reducible exact calls_after (C1.out _ (tab_below HT0.out (L1.out.trans ((After.below _).mono L1.out.size))))) | (with_reducible exact calls_after (C2.out _ (tab_below HT0.out (L1.out.trans ((After.below _).mono L1.out.size))))) | (with_reducible exact calls_after (C4.out _ (tab_below HT0.out (L1.out.trans ((After.below _).mono L1.out.size))))) | (with_reducible exact calls_after (C5.out _ (tab_below HT0.out (L1.out.trans ((After.below _).mono L1.out.size)))))))))
  refine wpQuiet_nil ?_
  intro w' hw'
  obtain ⟨q, rfl⟩ := hw'
  have PB := Lib.hid q.below
  obtain ⟨w2, hw2⟩ : ∃ w2, q.world = w2 := ⟨_, rfl⟩
  rw [hw2] at PB ⊢
  clear hw2 q d0 d1 d2 d3 d4
  have TR2 : TRow (w2.alloc (.cells (strs [wSession, T1, T2, T3, T4, T5]).toArray 9)) w2.heap.size 0 [wSession, T1, T2, T3, T4, T5] := TRow.of_blk (Blk.new w2 9 (strs [wSession, T1, T2, T3, T4, T5]).toArray)
  go_wp2_with (go_at_call 37; refine (line_any w2.heap.size 6 [wSession, T1, T2, T3, T4, T5] _ TR2 (by simp) HJ.out (by simp)).mono ?_; rintro e w3 ⟨rfl, b3⟩)
  have L2 := Lib.hid (L1.out.trans (PB.out.mono L1.out.size))
  have hs3 : w.heap.size ≤ w2.heap.size := L2.out.size
  have l3 := (L2.out.alloc (o := .cells (strs [wSession, T1, T2, T3, T4, T5]).toArray 9) hs3).trans (b3.mono (by simp; omega))
  go_wp2
  go_ret
  exact ⟨rfl, l3⟩

set_option maxRecDepth 100000 in
set_option maxHeartbeats 4000000 in
theorem rsess_any (b s u a p : Int) (h1 : IntKind.i64.has b) (h2 : IntKind.i64.has s) (h3 : IntKind.i64.has u) (h5 : IntKind.i64.has p) (w : World) : Calls Tryd.prog 28 #[.agg #[.int .i64 b, .int .i64 s, .int .i64 u, .int .i64 a, .int .i64 p]] w fun r w' => r = .returned (.string (bs (sessT (b, s, u, a, p)))) ∧ Below w.heap.size w w' := by
  have hb := Lib.hid ((Below.refl w.heap.size w).alloc (Nat.le_refl _) (.cells #[.int .i64 b, .int .i64 s, .int .i64 u, .int .i64 a, .int .i64 p] 64))
  have c1 := fun W => rnumber_any b h1 W
  have c2 := fun W => rnumber_any s h2 W
  have c3 := fun W => rtext_any a W
  have c4 := fun W => rnumber_any p h5 W
  have c5 := fun W => rnumber_any u h3 W
  have hv := sessT_eq b s u a p
  obtain ⟨T1, h11, z1⟩ := sz_itoa b h1
  obtain ⟨T2, h22, z2⟩ := sz_itoa s h2
  obtain ⟨T3, h33, z3⟩ := sz_text a
  obtain ⟨T4, h44, z4⟩ := sz_itoa p h5
  obtain ⟨T5, h55, z5⟩ := sz_itoa u h3
  have hT : (⟨#[115, 101, 115, 115, 105, 111, 110, 32]⟩ : ByteArray) ++ T1 ++ ⟨#[32]⟩ ++ T2 ++ ⟨#[32]⟩ ++ T3 ++ ⟨#[32]⟩ ++ T4 ++ ⟨#[32]⟩ ++ T5 = bs (sessT (b, s, u, a, p)) := by
    rw [hv, ← h11, ← h22, ← h33, ← h44, ← h55, show (⟨#[32]⟩ : ByteArray) = bs [32] from rfl, show (⟨#[115, 101, 115, 115, 105, 111, 110, 32]⟩ : ByteArray) = bs [115, 101, 115, 115, 105, 111, 110, 32] from rfl]
    simp only [bs_append]
  rw [h11] at c1
  rw [h22] at c2
  rw [h33] at c3
  rw [h44] at c4
  rw [h55] at c5
  have HT := Lib.hid hT
  have C1 := Lib.hid c1
  have C2 := Lib.hid c2
  have C3 := Lib.hid c3
  have C4 := Lib.hid c4
  have C5 := Lib.hid c5
  clear h11 h22 h33 h44 h55 c1 c2 c3 c4 c5 hT hv h1 h2 h3 h5
  have bk := Blk.new w 64 #[.int .i64 b, .int .i64 s, .int .i64 u, .int .i64 a, .int .i64 p]
  go_enter Tryd.func28, Tryd.ntmps28
  go_upto_region 1 with fail
  obtain ⟨V, hV⟩ : ∃ V, w.heap.size = V := ⟨_, rfl⟩
  have HV := Lib.hid hV
  rw [hV] at bk ⊢
  generalize (w.alloc (.cells #[.int .i64 b, .int .i64 s, .int .i64 u, .int .i64 a, .int .i64 p] 64)) = w4 at bk hb ⊢
  have k0 := bk.cell 0
  have k1 := bk.cell 1
  have k2 := bk.cell 2
  have k3 := bk.cell 3
  have k4 := bk.cell 4
  simp only [List.getElem?_toArray, List.getElem?_cons_zero, List.getElem?_cons_succ] at k0 k1 k2 k3 k4
  clear bk hV
  go_quiet ((first
    | (go_at_call 49; first | (with_reducible refine Calls.quiet_of_same ((C1.out _).mono fun e w' h => ⟨by rw [h.1], h.2.symm⟩)) | (with_reducible refine Calls.quiet_of_same ((C2.out _).mono fun e w' h => ⟨by rw [h.1], h.2.symm⟩)) | (with_reducible refine Calls.quiet_of_same ((C4.out _).mono fun e w' h => ⟨by rw [h.1], h.2.symm⟩)) | (with_reducible refine Calls.quiet_of_same ((C5.out _).mono fun e w' h => ⟨by rw [h.1], h.2.symm⟩)))
    | (go_at_call 51; refine Calls.quiet_of_same ((C3.out _).mono fun e w' h => ⟨by rw [h.1], h.2.symm⟩))))
  go_wp2
  go_ret
  exact ⟨by rw [← HT.out]; rfl, below_drewN hb.out _⟩
end Go.Proofs.YtkbbkddepcjoaaaDoor
