/-
  cmd: a command's words. Printed by wip/gen/cmdR.py.
-/
import Derived.Test.YtkbbkddepcjoaaaDoorCmdQ
namespace Go.Proofs.YtkbbkddepcjoaaaDoor
open Go.RowKit Go.Great

set_option linter.unusedSimpArgs false in
set_option linter.unusedVariables false in
set_option maxRecDepth 100000 in
set_option maxHeartbeats 4000000 in
theorem cwords_4 (n p a y p2 a2 y2 : Int) (h1 : IntKind.i64.has n) (h4 : IntKind.i64.has y) (h8 : IntKind.i64.has y2) (w : World) (htab : TabW w) : Calls Tryd.prog 45 #[.agg #[.int .i64 4, .int .i64 n, .int .i64 p, .int .i64 a, .int .i64 y, .int .i64 p2, .int .i64 a2, .int .i64 y2]] w (WordsP w (wordsC (4, (n, p, a, y), p2, a2, y2))) := by
  obtain ⟨i0, hi0, hz0, hz1, hz2⟩ := info_parts str_info
  have hb := (Below.refl w.heap.size w).alloc (Nat.le_refl _) (.cells #[.int .i64 4, .int .i64 n, .int .i64 p, .int .i64 a, .int .i64 y, .int .i64 p2, .int .i64 a2, .int .i64 y2] 37)
  have bk := Blk.new w 37 #[.int .i64 4, .int .i64 n, .int .i64 p, .int .i64 a, .int .i64 y, .int .i64 p2, .int .i64 a2, .int .i64 y2]
  have HT := Lib.hid (tab_below htab hb)
  have HT0 := Lib.hid htab
  have HB := Lib.hid hb
  have BK := Lib.hid bk
  clear htab hb bk
  have hv := Lib.hid (verbOf_any 4 (by omega))
  have hw := Lib.hid (wordsC_4 (n, p, a, y) (p2, a2, y2))
  obtain ⟨T, hT⟩ : ∃ T, vW 4 = T := ⟨_, rfl⟩
  obtain ⟨M, hM⟩ : ∃ M : Int, ((vM 4 : Nat) : Int) = M := ⟨_, rfl⟩
  have hv := Lib.hid (show ∀ W, Calls Tryd.prog 41 #[.int .i64 4] W fun r w' => r = .returned (.tuple #[.agg #[.string (bs T), .int .i64 M], .bool true]) ∧ Below W.heap.size W w' from fun W => by rw [← hT, ← hM]; exact hv.out W)
  have HTT := Lib.hid hT
  clear hT hM
  go_enter Tryd.func45, Tryd.ntmps45
  go_upto_region 3 with (go_at_call 41; refine (hv.out _).mono ?_; rintro e w1 ⟨rfl, b1⟩; have B1 := Lib.hid (BK.out.on b1); have L1 := Lib.hid (HB.out.trans (b1.mono HB.out.size)); have T1 := Lib.hid (tab_below HT.out b1); clear b1)
  have hlt1 := B1.out.lt
  obtain ⟨w2, hw2⟩ : ∃ w2, w1.alloc (.cells #[.string (bs T), .int .i64 M] 79) = w2 := ⟨_, rfl⟩
  have b2 : Blk w2 w.heap.size 37 #[.int .i64 4, .int .i64 n, .int .i64 p, .int .i64 a, .int .i64 y, .int .i64 p2, .int .i64 a2, .int .i64 y2] := by rw [← hw2]; exact B1.out.alloc _
  have l2 : Below w.heap.size w w2 := by rw [← hw2]; exact L1.out.alloc (by omega) _
  have t2 : TabW w2 := by rw [← hw2]; exact tab_below T1.out ((Below.refl _ _).alloc (Nat.le_refl _) _)
  have hs2 : w2.heap.size = w1.heap.size + 1 := by rw [← hw2]; simp
  rw [hw2, ← hs2]
  have own3 : (w2.alloc (.cells #[.string (bs T)] 9)).ownsRow w2.heap.size 9 1 (.slice (some ⟨w2.heap.size, 0, none⟩) 1 1) 1 (strs [T]) := World.ownsRow_lit w2 #[.string (bs T)] 1 (Nat.le_refl _) (by decide) rfl
  have b3 := b2.alloc (.cells #[.string (bs T)] 9)
  have l3 := l2.alloc (o := .cells #[.string (bs T)] 9) (by omega)
  have t3 := tab_below t2 ((Below.refl _ _).alloc (Nat.le_refl _) (.cells #[.string (bs T)] 9))
  have hs3 : (w2.alloc (.cells #[.string (bs T)] 9)).heap.size = w2.heap.size + 1 := by simp
  obtain ⟨V2, hV2⟩ : ∃ V2, w2.heap.size = V2 := ⟨_, rfl⟩
  rw [hV2] at own3 hs3 hs2 ⊢
  have hlt2 : w.heap.size < V2 := by omega
  generalize (w2.alloc (.cells #[.string (bs T)] 9)) = w3 at own3 b3 l3 t3 hs3 ⊢
  have hlt3 : V2 ≤ w3.heap.size := by omega
  have k0 := b3.cell 0
  have k1 := b3.cell 1
  have k2 := b3.cell 2
  have k3 := b3.cell 3
  have k4 := b3.cell 4
  have k6 := b3.cell 6
  have k7 := b3.cell 7
  simp only [List.getElem?_toArray, List.getElem?_cons_zero, List.getElem?_cons_succ] at k0 k1 k2 k3 k4 k6 k7
  have OWN3 := Lib.hid own3
  have B3 := Lib.hid b3
  have L3 := Lib.hid l3
  have T3 := Lib.hid t3
  clear own3 b3 l3 t3 hs3 hV2 hs2 hw2 b2 l2 t2 B1 L1 T1 BK HB HT hlt1
  go_wp2
  go_ret
  rw [hw.out]
  exact words_end (n := 1) (L := [wShow]) rfl (by omega) (by rw [show wShow = T from HTT.out]; exact OWN3.out) L3.out
set_option linter.unusedSimpArgs false in
set_option linter.unusedVariables false in
set_option maxRecDepth 100000 in
set_option maxHeartbeats 4000000 in
theorem cwords_else (v n p a y p2 a2 y2 : Int) (e1 : v ≠ 1) (e2 : v ≠ 2) (e3 : v ≠ 3) (e4 : v ≠ 4) (h1 : IntKind.i64.has n) (h4 : IntKind.i64.has y) (h8 : IntKind.i64.has y2) (w : World) (htab : TabW w) : Calls Tryd.prog 45 #[.agg #[.int .i64 v, .int .i64 n, .int .i64 p, .int .i64 a, .int .i64 y, .int .i64 p2, .int .i64 a2, .int .i64 y2]] w (WordsP w (wordsC (v, (n, p, a, y), p2, a2, y2))) := by
  obtain ⟨i0, hi0, hz0, hz1, hz2⟩ := info_parts str_info
  have hb := (Below.refl w.heap.size w).alloc (Nat.le_refl _) (.cells #[.int .i64 v, .int .i64 n, .int .i64 p, .int .i64 a, .int .i64 y, .int .i64 p2, .int .i64 a2, .int .i64 y2] 37)
  have bk := Blk.new w 37 #[.int .i64 v, .int .i64 n, .int .i64 p, .int .i64 a, .int .i64 y, .int .i64 p2, .int .i64 a2, .int .i64 y2]
  have HT := Lib.hid (tab_below htab hb)
  have HT0 := Lib.hid htab
  have HB := Lib.hid hb
  have BK := Lib.hid bk
  clear htab hb bk
  have hv := Lib.hid (verbOf_else v e1 e2 e3 e4)
  have hw := Lib.hid (show wordsC (v, (n, p, a, y), p2, a2, y2) = [[]] by simp [wordsC, e1, e2, e3, e4])
  have n1 : (v == 1) = false := by simpa using e1
  have n2 : (v == 2) = false := by simpa using e2
  have n3 : (v == 3) = false := by simpa using e3
  have n4 : (v == 4) = false := by simpa using e4
  obtain ⟨T, hT⟩ : ∃ T : List UInt8, [] = T := ⟨_, rfl⟩
  obtain ⟨M, hM⟩ : ∃ M : Int, 0 = M := ⟨_, rfl⟩
  have hv := Lib.hid (show ∀ W, Calls Tryd.prog 41 #[.int .i64 v] W fun r w' => r = .returned (.tuple #[.agg #[.string (bs T), .int .i64 M], .bool false]) ∧ Below W.heap.size W w' from fun W => by rw [← hT, ← hM]; exact hv.out W)
  have HTT := Lib.hid hT
  clear hT hM e1 e2 e3 e4
  go_enter Tryd.func45, Tryd.ntmps45
  go_upto_region 3 with (go_at_call 41; refine (hv.out _).mono ?_; rintro e w1 ⟨rfl, b1⟩; have B1 := Lib.hid (BK.out.on b1); have L1 := Lib.hid (HB.out.trans (b1.mono HB.out.size)); have T1 := Lib.hid (tab_below HT.out b1); clear b1)
  have hlt1 := B1.out.lt
  obtain ⟨w2, hw2⟩ : ∃ w2, w1.alloc (.cells #[.string (bs T), .int .i64 M] 79) = w2 := ⟨_, rfl⟩
  have b2 : Blk w2 w.heap.size 37 #[.int .i64 v, .int .i64 n, .int .i64 p, .int .i64 a, .int .i64 y, .int .i64 p2, .int .i64 a2, .int .i64 y2] := by rw [← hw2]; exact B1.out.alloc _
  have l2 : Below w.heap.size w w2 := by rw [← hw2]; exact L1.out.alloc (by omega) _
  have t2 : TabW w2 := by rw [← hw2]; exact tab_below T1.out ((Below.refl _ _).alloc (Nat.le_refl _) _)
  have hs2 : w2.heap.size = w1.heap.size + 1 := by rw [← hw2]; simp
  rw [hw2, ← hs2]
  have own3 : (w2.alloc (.cells #[.string (bs T)] 9)).ownsRow w2.heap.size 9 1 (.slice (some ⟨w2.heap.size, 0, none⟩) 1 1) 1 (strs [T]) := World.ownsRow_lit w2 #[.string (bs T)] 1 (Nat.le_refl _) (by decide) rfl
  have b3 := b2.alloc (.cells #[.string (bs T)] 9)
  have l3 := l2.alloc (o := .cells #[.string (bs T)] 9) (by omega)
  have t3 := tab_below t2 ((Below.refl _ _).alloc (Nat.le_refl _) (.cells #[.string (bs T)] 9))
  have hs3 : (w2.alloc (.cells #[.string (bs T)] 9)).heap.size = w2.heap.size + 1 := by simp
  obtain ⟨V2, hV2⟩ : ∃ V2, w2.heap.size = V2 := ⟨_, rfl⟩
  rw [hV2] at own3 hs3 hs2 ⊢
  have hlt2 : w.heap.size < V2 := by omega
  generalize (w2.alloc (.cells #[.string (bs T)] 9)) = w3 at own3 b3 l3 t3 hs3 ⊢
  have hlt3 : V2 ≤ w3.heap.size := by omega
  have k0 := b3.cell 0
  have k1 := b3.cell 1
  have k2 := b3.cell 2
  have k3 := b3.cell 3
  have k4 := b3.cell 4
  have k6 := b3.cell 6
  have k7 := b3.cell 7
  simp only [List.getElem?_toArray, List.getElem?_cons_zero, List.getElem?_cons_succ] at k0 k1 k2 k3 k4 k6 k7
  have OWN3 := Lib.hid own3
  have B3 := Lib.hid b3
  have L3 := Lib.hid l3
  have T3 := Lib.hid t3
  clear own3 b3 l3 t3 hs3 hV2 hs2 hw2 b2 l2 t2 B1 L1 T1 BK HB HT hlt1
  go_wp2
  go_ret
  rw [hw.out]
  exact words_end (n := 1) (L := [[]]) rfl (by omega) (by rw [HTT.out]; exact OWN3.out) L3.out
set_option linter.unusedSimpArgs false in
set_option linter.unusedVariables false in
set_option maxRecDepth 100000 in
set_option maxHeartbeats 4000000 in
theorem cwords_1 (n p a y p2 a2 y2 : Int) (h1 : IntKind.i64.has n) (h4 : IntKind.i64.has y) (h8 : IntKind.i64.has y2) (w : World) (htab : TabW w) : Calls Tryd.prog 45 #[.agg #[.int .i64 1, .int .i64 n, .int .i64 p, .int .i64 a, .int .i64 y, .int .i64 p2, .int .i64 a2, .int .i64 y2]] w (WordsP w (wordsC (1, (n, p, a, y), p2, a2, y2))) := by
  obtain ⟨i0, hi0, hz0, hz1, hz2⟩ := info_parts str_info
  have hb := (Below.refl w.heap.size w).alloc (Nat.le_refl _) (.cells #[.int .i64 1, .int .i64 n, .int .i64 p, .int .i64 a, .int .i64 y, .int .i64 p2, .int .i64 a2, .int .i64 y2] 37)
  have bk := Blk.new w 37 #[.int .i64 1, .int .i64 n, .int .i64 p, .int .i64 a, .int .i64 y, .int .i64 p2, .int .i64 a2, .int .i64 y2]
  have HT := Lib.hid (tab_below htab hb)
  have HT0 := Lib.hid htab
  have HB := Lib.hid hb
  have BK := Lib.hid bk
  clear htab hb bk
  have hv := Lib.hid (verbOf_any 1 (by omega))
  obtain ⟨T, hT⟩ : ∃ T, vW 1 = T := ⟨_, rfl⟩
  obtain ⟨M, hM⟩ : ∃ M : Int, ((vM 1 : Nat) : Int) = M := ⟨_, rfl⟩
  have hv := Lib.hid (show ∀ W, Calls Tryd.prog 41 #[.int .i64 1] W fun r w' => r = .returned (.tuple #[.agg #[.string (bs T), .int .i64 M], .bool true]) ∧ Below W.heap.size W w' from fun W => by rw [← hT, ← hM]; exact hv.out W)
  have HTT := Lib.hid hT
  clear hT hM
  have hw := Lib.hid (wordsC_1 (n, p, a, y) (p2, a2, y2))
  have C1 := Lib.hid (fun W ht => itoa_any n h1 W ht)
  go_enter Tryd.func45, Tryd.ntmps45
  go_upto_region 3 with (go_at_call 41; refine (hv.out _).mono ?_; rintro e w1 ⟨rfl, b1⟩; have B1 := Lib.hid (BK.out.on b1); have L1 := Lib.hid (HB.out.trans (b1.mono HB.out.size)); have T1 := Lib.hid (tab_below HT.out b1); clear b1)
  have hlt1 := B1.out.lt
  obtain ⟨w2, hw2⟩ : ∃ w2, w1.alloc (.cells #[.string (bs T), .int .i64 M] 79) = w2 := ⟨_, rfl⟩
  have b2 : Blk w2 w.heap.size 37 #[.int .i64 1, .int .i64 n, .int .i64 p, .int .i64 a, .int .i64 y, .int .i64 p2, .int .i64 a2, .int .i64 y2] := by rw [← hw2]; exact B1.out.alloc _
  have l2 : Below w.heap.size w w2 := by rw [← hw2]; exact L1.out.alloc (by omega) _
  have t2 : TabW w2 := by rw [← hw2]; exact tab_below T1.out ((Below.refl _ _).alloc (Nat.le_refl _) _)
  have hs2 : w2.heap.size = w1.heap.size + 1 := by rw [← hw2]; simp
  rw [hw2, ← hs2]
  have own3 : (w2.alloc (.cells #[.string (bs T)] 9)).ownsRow w2.heap.size 9 1 (.slice (some ⟨w2.heap.size, 0, none⟩) 1 1) 1 (strs [T]) := World.ownsRow_lit w2 #[.string (bs T)] 1 (Nat.le_refl _) (by decide) rfl
  have b3 := b2.alloc (.cells #[.string (bs T)] 9)
  have l3 := l2.alloc (o := .cells #[.string (bs T)] 9) (by omega)
  have t3 := tab_below t2 ((Below.refl _ _).alloc (Nat.le_refl _) (.cells #[.string (bs T)] 9))
  have hs3 : (w2.alloc (.cells #[.string (bs T)] 9)).heap.size = w2.heap.size + 1 := by simp
  obtain ⟨V2, hV2⟩ : ∃ V2, w2.heap.size = V2 := ⟨_, rfl⟩
  rw [hV2] at own3 hs3 hs2 ⊢
  have hlt2 : w.heap.size < V2 := by omega
  generalize (w2.alloc (.cells #[.string (bs T)] 9)) = w3 at own3 b3 l3 t3 hs3 ⊢
  have hlt3 : V2 ≤ w3.heap.size := by omega
  have k0 := b3.cell 0
  have k1 := b3.cell 1
  have k2 := b3.cell 2
  have k3 := b3.cell 3
  have k4 := b3.cell 4
  have k6 := b3.cell 6
  have k7 := b3.cell 7
  simp only [List.getElem?_toArray, List.getElem?_cons_zero, List.getElem?_cons_succ] at k0 k1 k2 k3 k4 k6 k7
  have OWN3 := Lib.hid own3
  have B3 := Lib.hid b3
  have L3 := Lib.hid l3
  have T3 := Lib.hid t3
  clear own3 b3 l3 t3 hs3 hV2 hs2 hw2 b2 l2 t2 B1 L1 T1 BK HB HT hlt1
  go_wp2_with (first
    | (go_at_call 56; refine (C1.out _ T3.out).mono ?_; rintro e w4 ⟨rfl, b4⟩; have OWN4 := Lib.hid (owns_below OWN3.out b4); have L4 := Lib.hid (L3.out.trans (b4.mono L3.out.size)); have hw4 : V2 ≤ w4.heap.size := Nat.le_trans hlt3 b4.size; clear b4)
    | (at_builtin; refine wpList_append_any _ rfl (.tmp 19) (.tmp 24) _ rfl V2 9 i0 _ 1 16 Tryd.underlying57 hi0 hz0 hz1 hz2 rfl (by omega) _ 1 (strs [T]) rfl
                       (OWN4.out.alloc _) (w4.heap.size + 1) (some ⟨w4.heap.size, 0, none⟩) 1 1 [.string (bs (Lib.itoa n))] rfl (reads_one _ _ _) (by simp [Value.oneCell']) (by simp only [maxLen]; omega) (by omega) (by simp; omega) ?_; intro v6 w6 own6 grow6 _))
  have hbt : Below w4.heap.size w4 (w4.alloc (.cells #[.string (bs (Lib.itoa n))] 9)) := (Below.refl _ _).alloc (Nat.le_refl _) _
  have hb6 := (app_others hbt OWN4.out hw4 grow6).2
  go_ret
  rw [hw.out]
  exact words_end (n := 2) (L := [wFlush, Lib.itoa n]) rfl (by omega) (by rw [show wFlush = T from HTT.out]; exact own6) (L4.out.trans (hb6.mono (by omega)))
set_option linter.unusedSimpArgs false in
set_option linter.unusedVariables false in
set_option maxRecDepth 100000 in
set_option maxHeartbeats 4000000 in
theorem cwords_3 (n p a y p2 a2 y2 : Int) (h1 : IntKind.i64.has n) (h4 : IntKind.i64.has y) (h8 : IntKind.i64.has y2) (w : World) (htab : TabW w) : Calls Tryd.prog 45 #[.agg #[.int .i64 3, .int .i64 n, .int .i64 p, .int .i64 a, .int .i64 y, .int .i64 p2, .int .i64 a2, .int .i64 y2]] w (WordsP w (wordsC (3, (n, p, a, y), p2, a2, y2))) := by
  obtain ⟨i0, hi0, hz0, hz1, hz2⟩ := info_parts str_info
  have hb := (Below.refl w.heap.size w).alloc (Nat.le_refl _) (.cells #[.int .i64 3, .int .i64 n, .int .i64 p, .int .i64 a, .int .i64 y, .int .i64 p2, .int .i64 a2, .int .i64 y2] 37)
  have bk := Blk.new w 37 #[.int .i64 3, .int .i64 n, .int .i64 p, .int .i64 a, .int .i64 y, .int .i64 p2, .int .i64 a2, .int .i64 y2]
  have HT := Lib.hid (tab_below htab hb)
  have HT0 := Lib.hid htab
  have HB := Lib.hid hb
  have BK := Lib.hid bk
  clear htab hb bk
  have hv := Lib.hid (verbOf_any 3 (by omega))
  obtain ⟨T, hT⟩ : ∃ T, vW 3 = T := ⟨_, rfl⟩
  obtain ⟨M, hM⟩ : ∃ M : Int, ((vM 3 : Nat) : Int) = M := ⟨_, rfl⟩
  have hv := Lib.hid (show ∀ W, Calls Tryd.prog 41 #[.int .i64 3] W fun r w' => r = .returned (.tuple #[.agg #[.string (bs T), .int .i64 M], .bool true]) ∧ Below W.heap.size W w' from fun W => by rw [← hT, ← hM]; exact hv.out W)
  have HTT := Lib.hid hT
  clear hT hM
  have hw := Lib.hid (wordsC_3 (n, p, a, y) (p2, a2, y2))
  have C1 := Lib.hid (fun W ht => cinner_any n p a y h1 h4 W ht)
  go_enter Tryd.func45, Tryd.ntmps45
  go_upto_region 3 with (go_at_call 41; refine (hv.out _).mono ?_; rintro e w1 ⟨rfl, b1⟩; have B1 := Lib.hid (BK.out.on b1); have L1 := Lib.hid (HB.out.trans (b1.mono HB.out.size)); have T1 := Lib.hid (tab_below HT.out b1); clear b1)
  have hlt1 := B1.out.lt
  obtain ⟨w2, hw2⟩ : ∃ w2, w1.alloc (.cells #[.string (bs T), .int .i64 M] 79) = w2 := ⟨_, rfl⟩
  have b2 : Blk w2 w.heap.size 37 #[.int .i64 3, .int .i64 n, .int .i64 p, .int .i64 a, .int .i64 y, .int .i64 p2, .int .i64 a2, .int .i64 y2] := by rw [← hw2]; exact B1.out.alloc _
  have l2 : Below w.heap.size w w2 := by rw [← hw2]; exact L1.out.alloc (by omega) _
  have t2 : TabW w2 := by rw [← hw2]; exact tab_below T1.out ((Below.refl _ _).alloc (Nat.le_refl _) _)
  have hs2 : w2.heap.size = w1.heap.size + 1 := by rw [← hw2]; simp
  rw [hw2, ← hs2]
  have own3 : (w2.alloc (.cells #[.string (bs T)] 9)).ownsRow w2.heap.size 9 1 (.slice (some ⟨w2.heap.size, 0, none⟩) 1 1) 1 (strs [T]) := World.ownsRow_lit w2 #[.string (bs T)] 1 (Nat.le_refl _) (by decide) rfl
  have b3 := b2.alloc (.cells #[.string (bs T)] 9)
  have l3 := l2.alloc (o := .cells #[.string (bs T)] 9) (by omega)
  have t3 := tab_below t2 ((Below.refl _ _).alloc (Nat.le_refl _) (.cells #[.string (bs T)] 9))
  have hs3 : (w2.alloc (.cells #[.string (bs T)] 9)).heap.size = w2.heap.size + 1 := by simp
  obtain ⟨V2, hV2⟩ : ∃ V2, w2.heap.size = V2 := ⟨_, rfl⟩
  rw [hV2] at own3 hs3 hs2 ⊢
  have hlt2 : w.heap.size < V2 := by omega
  generalize (w2.alloc (.cells #[.string (bs T)] 9)) = w3 at own3 b3 l3 t3 hs3 ⊢
  have hlt3 : V2 ≤ w3.heap.size := by omega
  have k0 := b3.cell 0
  have k1 := b3.cell 1
  have k2 := b3.cell 2
  have k3 := b3.cell 3
  have k4 := b3.cell 4
  have k6 := b3.cell 6
  have k7 := b3.cell 7
  simp only [List.getElem?_toArray, List.getElem?_cons_zero, List.getElem?_cons_succ] at k0 k1 k2 k3 k4 k6 k7
  have OWN3 := Lib.hid own3
  have B3 := Lib.hid b3
  have L3 := Lib.hid l3
  have T3 := Lib.hid t3
  clear own3 b3 l3 t3 hs3 hV2 hs2 hw2 b2 l2 t2 B1 L1 T1 BK HB HT hlt1
  go_wp2_with (first
    | (go_at_call 65; refine (C1.out _ T3.out).mono ?_; rintro e w4 ⟨g4, rfl, k4, b4⟩; have K4 := Lib.hid k4; have OWN4 := Lib.hid (owns_below OWN3.out b4); have L4 := Lib.hid (L3.out.trans (b4.mono L3.out.size)); have B4 := Lib.hid (B3.out.on b4); have T4 := Lib.hid (tab_below T3.out b4); have hw4 : V2 ≤ w4.heap.size := Nat.le_trans hlt3 b4.size; clear b4 k4)
    | (at_builtin; refine wpList_append_any _ rfl (.tmp 28) (.tmp 31) _ rfl V2 9 i0 _ 1 16 Tryd.underlying57 hi0 hz0 hz1 hz2 rfl (by omega) _ 1 (strs [T]) rfl
                       (OWN4.out) w4.heap.size (some ⟨g4, 0, none⟩) 4 4 (strs (innerW (n, p, a, y))) rfl (blk_reads K4.out rfl) (by simp [strs, innerW, Value.oneCell']) (by simp only [maxLen]; omega) (by omega) (hw4) ?_; intro v6 w6 own6 grow6 _))
  have hb6 := (app_others (Below.refl _ _) OWN4.out hw4 grow6).2
  go_ret
  rw [hw.out]
  exact words_end (n := 5) (L := wUnmap :: innerW (n, p, a, y)) rfl (by omega) (by rw [show wUnmap = T from HTT.out]; exact own6) (L4.out.trans (hb6.mono (by omega)))
set_option linter.unusedSimpArgs false in
set_option linter.unusedVariables false in
set_option maxRecDepth 100000 in
set_option maxHeartbeats 4000000 in
theorem cwords_2 (n p a y p2 a2 y2 : Int) (h1 : IntKind.i64.has n) (h4 : IntKind.i64.has y) (h8 : IntKind.i64.has y2) (w : World) (htab : TabW w) : Calls Tryd.prog 45 #[.agg #[.int .i64 2, .int .i64 n, .int .i64 p, .int .i64 a, .int .i64 y, .int .i64 p2, .int .i64 a2, .int .i64 y2]] w (WordsP w (wordsC (2, (n, p, a, y), p2, a2, y2))) := by
  obtain ⟨i0, hi0, hz0, hz1, hz2⟩ := info_parts str_info
  have hb := (Below.refl w.heap.size w).alloc (Nat.le_refl _) (.cells #[.int .i64 2, .int .i64 n, .int .i64 p, .int .i64 a, .int .i64 y, .int .i64 p2, .int .i64 a2, .int .i64 y2] 37)
  have bk := Blk.new w 37 #[.int .i64 2, .int .i64 n, .int .i64 p, .int .i64 a, .int .i64 y, .int .i64 p2, .int .i64 a2, .int .i64 y2]
  have HT := Lib.hid (tab_below htab hb)
  have HT0 := Lib.hid htab
  have HB := Lib.hid hb
  have BK := Lib.hid bk
  clear htab hb bk
  have hv := Lib.hid (verbOf_any 2 (by omega))
  obtain ⟨T, hT⟩ : ∃ T, vW 2 = T := ⟨_, rfl⟩
  obtain ⟨M, hM⟩ : ∃ M : Int, ((vM 2 : Nat) : Int) = M := ⟨_, rfl⟩
  have hv := Lib.hid (show ∀ W, Calls Tryd.prog 41 #[.int .i64 2] W fun r w' => r = .returned (.tuple #[.agg #[.string (bs T), .int .i64 M], .bool true]) ∧ Below W.heap.size W w' from fun W => by rw [← hT, ← hM]; exact hv.out W)
  have HTT := Lib.hid hT
  clear hT hM
  have hw := Lib.hid (wordsC_2 (n, p, a, y) (p2, a2, y2))
  have C1 := Lib.hid (fun W ht => cinner_any n p a y h1 h4 W ht)
  have C2 := Lib.hid (fun W ht => ftext_any a2 W ht)
  have C3 := Lib.hid (fun W ht => itoa_any y2 h8 W ht)
  go_enter Tryd.func45, Tryd.ntmps45
  go_upto_region 3 with (go_at_call 41; refine (hv.out _).mono ?_; rintro e w1 ⟨rfl, b1⟩; have B1 := Lib.hid (BK.out.on b1); have L1 := Lib.hid (HB.out.trans (b1.mono HB.out.size)); have T1 := Lib.hid (tab_below HT.out b1); clear b1)
  have hlt1 := B1.out.lt
  obtain ⟨w2, hw2⟩ : ∃ w2, w1.alloc (.cells #[.string (bs T), .int .i64 M] 79) = w2 := ⟨_, rfl⟩
  have b2 : Blk w2 w.heap.size 37 #[.int .i64 2, .int .i64 n, .int .i64 p, .int .i64 a, .int .i64 y, .int .i64 p2, .int .i64 a2, .int .i64 y2] := by rw [← hw2]; exact B1.out.alloc _
  have l2 : Below w.heap.size w w2 := by rw [← hw2]; exact L1.out.alloc (by omega) _
  have t2 : TabW w2 := by rw [← hw2]; exact tab_below T1.out ((Below.refl _ _).alloc (Nat.le_refl _) _)
  have hs2 : w2.heap.size = w1.heap.size + 1 := by rw [← hw2]; simp
  rw [hw2, ← hs2]
  have own3 : (w2.alloc (.cells #[.string (bs T)] 9)).ownsRow w2.heap.size 9 1 (.slice (some ⟨w2.heap.size, 0, none⟩) 1 1) 1 (strs [T]) := World.ownsRow_lit w2 #[.string (bs T)] 1 (Nat.le_refl _) (by decide) rfl
  have b3 := b2.alloc (.cells #[.string (bs T)] 9)
  have l3 := l2.alloc (o := .cells #[.string (bs T)] 9) (by omega)
  have t3 := tab_below t2 ((Below.refl _ _).alloc (Nat.le_refl _) (.cells #[.string (bs T)] 9))
  have hs3 : (w2.alloc (.cells #[.string (bs T)] 9)).heap.size = w2.heap.size + 1 := by simp
  obtain ⟨V2, hV2⟩ : ∃ V2, w2.heap.size = V2 := ⟨_, rfl⟩
  rw [hV2] at own3 hs3 hs2 ⊢
  have hlt2 : w.heap.size < V2 := by omega
  generalize (w2.alloc (.cells #[.string (bs T)] 9)) = w3 at own3 b3 l3 t3 hs3 ⊢
  have hlt3 : V2 ≤ w3.heap.size := by omega
  have k0 := b3.cell 0
  have k1 := b3.cell 1
  have k2 := b3.cell 2
  have k3 := b3.cell 3
  have k4 := b3.cell 4
  have k6 := b3.cell 6
  have k7 := b3.cell 7
  simp only [List.getElem?_toArray, List.getElem?_cons_zero, List.getElem?_cons_succ] at k0 k1 k2 k3 k4 k6 k7
  have OWN3 := Lib.hid own3
  have B3 := Lib.hid b3
  have L3 := Lib.hid l3
  have T3 := Lib.hid t3
  clear own3 b3 l3 t3 hs3 hV2 hs2 hw2 b2 l2 t2 B1 L1 T1 BK HB HT hlt1
  go_upto_region 10 with (first
    | (go_at_call 65; refine (C1.out _ T3.out).mono ?_; rintro e w4 ⟨g4, rfl, k4, b4⟩; have K4 := Lib.hid k4; have OWN4 := Lib.hid (owns_below OWN3.out b4); have L4 := Lib.hid (L3.out.trans (b4.mono L3.out.size)); have B4 := Lib.hid (B3.out.on b4); have T4 := Lib.hid (tab_below T3.out b4); have hw4 : V2 ≤ w4.heap.size := Nat.le_trans hlt3 b4.size; clear b4 k4)
    | (at_builtin; refine wpList_append_any _ rfl (.tmp 35) (.tmp 38) _ rfl V2 9 i0 _ 1 16 Tryd.underlying57 hi0 hz0 hz1 hz2 rfl (by omega) _ 1 (strs [T]) rfl
                       (OWN4.out) w4.heap.size (some ⟨g4, 0, none⟩) 4 4 (strs (innerW (n, p, a, y))) rfl (blk_reads K4.out rfl) (by simp [strs, innerW, Value.oneCell']) (by simp only [maxLen]; omega) (by omega) (hw4) ?_; intro v6 w6 own6 grow6 _))
  have hb6 := (app_others (Below.refl _ _) OWN4.out hw4 grow6).2
  have B6 := B4.out.below hb6 hlt2
  have L6 := Lib.hid (L4.out.trans (hb6.mono (by omega)))
  have T6 := Lib.hid (tab_below HT0.out L6.out)
  have hw6 : V2 ≤ w6.heap.size := Nat.le_trans hw4 hb6.size
  have OWN6 := Lib.hid own6
  clear k0 k1 k2 k3 k4 k6 k7
  have k6 := B6.cell 6
  have k7 := B6.cell 7
  simp only [List.getElem?_toArray, List.getElem?_cons_zero, List.getElem?_cons_succ] at k6 k7
  have B6' := Lib.hid B6
  obtain ⟨A6, c6, rfl, _⟩ := own_slice' own6
  clear B6 own6 grow6 hb6 OWN3 OWN4 L3 L4 B3 B4 T3 T4 K4 C1
  obtain ⟨X1, hX1⟩ : ∃ X, textV a2 = X := ⟨_, rfl⟩
  obtain ⟨X2, hX2⟩ : ∃ X, Lib.itoa y2 = X := ⟨_, rfl⟩
  have c2 := C2.out
  have c3 := C3.out
  rw [hX1] at c2
  rw [hX2] at c3
  have HX1 := Lib.hid hX1
  have HX2 := Lib.hid hX2
  have D2 := Lib.hid c2
  have D3 := Lib.hid c3
  clear c2 c3 C2 C3 hX1 hX2
  refine wp_region_held_drew (S := (fun W' : World => W'.cell? ⟨w.heap.size, 6, none⟩ = some (.int .i64 a2) ∧ W'.cell? ⟨w.heap.size, 7, none⟩ = some (.int .i64 y2))) (by kernel_rfl) ⟨k6, k7⟩ (fun H0 => ?_)
  refine wpAnyH_take (i := 0) (v := .slice A6 5 c6) rfl (by kernel_rfl) (by kernel_rfl) (by kernel_rfl) (fun _ _ _ h => h) (.inl ⟨rfl, fun w hS => by go_simp⟩) H0 ?_
  simp only [Act.put, List.getElem_toArray, List.getElem_cons_zero, List.setIfInBounds_toArray, List.set_cons_zero, List.set_cons_succ]
  refine wpAnyH_take (i := 1) (v := .pointer (some ⟨w.heap.size, 5, none⟩)) rfl (by kernel_rfl) (by kernel_rfl) (by kernel_rfl) (fun _ _ _ h => h) (.inl ⟨rfl, fun w hS => by go_simp⟩) H0 ?_
  simp only [Act.put, List.getElem_toArray, List.getElem_cons_succ, List.getElem_cons_zero, List.setIfInBounds_toArray, List.set_cons_zero, List.set_cons_succ]
  refine wpAnyH_take (i := 2) (v := .pointer (some ⟨w.heap.size, 6, none⟩)) rfl (by kernel_rfl) (by kernel_rfl) (by kernel_rfl) (fun _ _ _ h => h) (.inl ⟨rfl, fun w hS => by go_simp⟩) H0 ?_
  simp only [Act.put, List.getElem_toArray, List.getElem_cons_succ, List.getElem_cons_zero, List.setIfInBounds_toArray, List.set_cons_zero, List.set_cons_succ]
  refine wpAnyH_take (i := 3) (v := .int .i64 a2) rfl (by kernel_rfl) (by kernel_rfl) (by kernel_rfl) (fun _ _ _ h => h) (.inl ⟨rfl, fun w hS => by obtain ⟨m6, m7⟩ := hS; go_simp⟩) H0 ?_
  simp only [Act.put, List.getElem_toArray, List.getElem_cons_succ, List.getElem_cons_zero, List.setIfInBounds_toArray, List.set_cons_zero, List.set_cons_succ]
  refine wpAnyH_take (i := 5) (v := .pointer (some ⟨w.heap.size, 5, none⟩)) rfl (by kernel_rfl) (by kernel_rfl) (by kernel_rfl) (fun _ _ _ h => h) (.inl ⟨rfl, fun w hS => by go_simp⟩) H0 ?_
  simp only [Act.put, List.getElem_toArray, List.getElem_cons_succ, List.getElem_cons_zero, List.setIfInBounds_toArray, List.set_cons_zero, List.set_cons_succ]
  refine wpAnyH_take (i := 6) (v := .pointer (some ⟨w.heap.size, 7, none⟩)) rfl (by kernel_rfl) (by kernel_rfl) (by kernel_rfl) (fun _ _ _ h => h) (.inl ⟨rfl, fun w hS => by go_simp⟩) H0 ?_
  simp only [Act.put, List.getElem_toArray, List.getElem_cons_succ, List.getElem_cons_zero, List.setIfInBounds_toArray, List.set_cons_zero, List.set_cons_succ]
  refine wpAnyH_take (i := 7) (v := .int .i64 y2) rfl (by kernel_rfl) (by kernel_rfl) (by kernel_rfl) (fun _ _ _ h => h) (.inl ⟨rfl, fun w hS => by obtain ⟨m6, m7⟩ := hS; go_simp⟩) H0 ?_
  simp only [Act.put, List.getElem_toArray, List.getElem_cons_succ, List.getElem_cons_zero, List.setIfInBounds_toArray, List.set_cons_zero, List.set_cons_succ]
  refine wpAnyH_ready (rs := [4]) (by kernel_rfl) (by simp) ?_
  refine AllReadyH.cons rfl (fun KK hK => ?_) AllReadyH.nil
  refine step_call rfl 40 #[.tmp 43] #[3] rfl #[.int .i64 a2] (by simp [Act.eval]) (enters_of Tryd.func40 (by kernel_rfl) rfl) ?_
  refine (D2.out _ (show TabW w6.drew from T6.out)).mono ?_
  rintro r w7 ⟨rfl, b7⟩
  have b7 : Below w6.heap.size w6 w7 := ⟨b7.os, b7.tape, b7.output, b7.size, b7.block⟩
  have OWN7 := Lib.hid (owns_below OWN6.out b7)
  have B7 := Lib.hid (B6'.out.on b7)
  have L7 := Lib.hid (L6.out.trans (b7.mono L6.out.size))
  have T7 := Lib.hid (tab_below T6.out b7)
  have hw7 : V2 ≤ w7.heap.size := Nat.le_trans hw6 b7.size
  have m6 : w7.cell? ⟨w.heap.size, 6, none⟩ = some (.int .i64 a2) := B7.out.cell 6
  have m7 : w7.cell? ⟨w.heap.size, 7, none⟩ = some (.int .i64 y2) := B7.out.cell 7
  clear b7
  refine ⟨_, rfl, hK.out _ _ ⟨m6, m7⟩ (fun _ => ?_)⟩
  clear hK KK
  simp only [Act.put, List.getElem_toArray, List.getElem_cons_succ, List.getElem_cons_zero, List.setIfInBounds_toArray, List.set_cons_zero, List.set_cons_succ]
  refine wpAnyH_ready (rs := [8]) (by kernel_rfl) (by simp) ?_
  refine AllReadyH.cons rfl (fun KK hK => ?_) AllReadyH.nil
  refine step_call rfl 56 #[.tmp 47] #[3] rfl #[.int .i64 y2] (by simp [Act.eval]) (enters_of Tryd.func56 (by kernel_rfl) rfl) ?_
  refine (D3.out _ T7.out).mono ?_
  rintro r w8 ⟨rfl, b8⟩
  have OWN8 := Lib.hid (owns_below OWN7.out b8)
  have B8 := Lib.hid (B7.out.on b8)
  have L8 := Lib.hid (L7.out.trans (b8.mono L7.out.size))
  have hw8 : V2 ≤ w8.heap.size := Nat.le_trans hw7 b8.size
  clear b8 m6 m7
  have m6 : w8.cell? ⟨w.heap.size, 6, none⟩ = some (.int .i64 a2) := B8.out.cell 6
  have m7 : w8.cell? ⟨w.heap.size, 7, none⟩ = some (.int .i64 y2) := B8.out.cell 7
  refine ⟨_, rfl, hK.out _ _ ⟨m6, m7⟩ (fun _ => ?_)⟩
  clear hK KK
  simp only [Act.put, List.getElem_toArray, List.getElem_cons_succ, List.getElem_cons_zero, List.setIfInBounds_toArray, List.set_cons_zero, List.set_cons_succ]
  refine wpAnyH_ready (rs := [9]) (by kernel_rfl) (by simp) ?_
  refine AllReadyH.cons rfl (fun KK hK => ?_) AllReadyH.nil
  rw [if_pos (by rfl)]
  go_simp
  have own9 := OWN8.out.alloc (.cells #[.string (bs X1), .string (bs X2)] 9)
  have b9 := B8.out.alloc (.cells #[.string (bs X1), .string (bs X2)] 9)
  have l9 := L8.out.alloc L8.out.size (.cells #[.string (bs X1), .string (bs X2)] 9)
  have x9 := Blk.new w8 9 #[.string (bs X1), .string (bs X2)]
  have hs9 : (w8.alloc (.cells #[.string (bs X1), .string (bs X2)] 9)).heap.size = w8.heap.size + 1 := by simp
  obtain ⟨V8, hV8⟩ : ∃ V8, w8.heap.size = V8 := ⟨_, rfl⟩
  rw [hV8] at x9 ⊢
  generalize (w8.alloc (.cells #[.string (bs X1), .string (bs X2)] 9)) = w9 at own9 b9 l9 x9 hs9 ⊢
  have hw9 : V2 ≤ w9.heap.size := by omega
  have OWN9 := Lib.hid own9
  have B9 := Lib.hid b9
  have L9 := Lib.hid l9
  have X9 := Lib.hid x9
  clear own9 b9 l9 x9 hs9 hV8 m6 m7 OWN8 OWN7 L7 L8 B7 B8 T7
  have m6 : w9.cell? ⟨w.heap.size, 6, none⟩ = some (.int .i64 a2) := B9.out.cell 6
  have m7 : w9.cell? ⟨w.heap.size, 7, none⟩ = some (.int .i64 y2) := B9.out.cell 7
  refine hK.out _ _ ⟨m6, m7⟩ (fun _ => ?_)
  clear hK KK
  try simp only [Act.put, List.getElem_toArray, List.getElem_cons_succ, List.getElem_cons_zero, List.setIfInBounds_toArray, List.set_cons_zero, List.set_cons_succ]
  refine wpAnyH_ready (rs := [10]) (by kernel_rfl) (by simp) ?_
  refine AllReadyH.cons rfl (fun KK hK => ?_) AllReadyH.nil
  refine step_append_any _ rfl (.tmp 40) (.tmp 49) _ rfl V2 9 i0 _ 1 16 Tryd.underlying57 hi0 hz0 hz1 hz2 rfl (by omega) _ 5 (strs (T :: innerW (n, p, a, y))) rfl
    OWN9.out w9.heap.size (some ⟨V8, 0, none⟩) 2 2 (strs [X1, X2]) rfl (blk_reads X9.out rfl) (by simp [strs, Value.oneCell']) (by simp only [maxLen]; omega) (by omega) hw9 ?_
  intro v8 w10 own8 grow8 _
  have hb8 := (app_others (Below.refl _ _) OWN9.out hw9 grow8).2
  have B10 := B9.out.below hb8 hlt2
  clear m6 m7
  have m6 : w10.cell? ⟨w.heap.size, 6, none⟩ = some (.int .i64 a2) := B10.cell 6
  have m7 : w10.cell? ⟨w.heap.size, 7, none⟩ = some (.int .i64 y2) := B10.cell 7
  refine hK.out _ _ ⟨m6, m7⟩ (fun _ => ?_)
  clear hK KK
  try simp only [Act.put, List.getElem_toArray, List.getElem_cons_succ, List.getElem_cons_zero, List.setIfInBounds_toArray, List.set_cons_zero, List.set_cons_succ]
  refine wpAnyH_take (i := 11) (v := v8) rfl (by kernel_rfl) (by kernel_rfl) (by kernel_rfl) (fun _ _ _ h => h) (.inl ⟨rfl, fun w hS => by go_simp⟩) ⟨m6, m7⟩ ?_
  simp only [Act.put, List.getElem_toArray, List.getElem_cons_succ, List.getElem_cons_zero, List.setIfInBounds_toArray, List.set_cons_zero, List.set_cons_succ]
  refine wpAnyH_done (by kernel_rfl) ?_ _
  go_wp2
  go_ret
  rw [hw.out]
  simp only
  rw [HX1.out, HX2.out]
  exact words_end (n := 7) (L := wMap :: (innerW (n, p, a, y) ++ [X1, X2])) rfl (by omega) (by rw [show wMap = T from HTT.out]; exact own8) (L9.out.trans (hb8.mono (by omega)))

theorem cwords_any (v n p a y p2 a2 y2 : Int) (h1 : IntKind.i64.has n) (h4 : IntKind.i64.has y) (h8 : IntKind.i64.has y2) (w : World) (htab : TabW w) : Calls Tryd.prog 45 #[.agg #[.int .i64 v, .int .i64 n, .int .i64 p, .int .i64 a, .int .i64 y, .int .i64 p2, .int .i64 a2, .int .i64 y2]] w (WordsP w (wordsC (v, (n, p, a, y), p2, a2, y2))) := by
  by_cases e1 : v = 1
  · subst e1; exact cwords_1 n p a y p2 a2 y2 h1 h4 h8 w htab
  · by_cases e2 : v = 2
    · subst e2; exact cwords_2 n p a y p2 a2 y2 h1 h4 h8 w htab
    · by_cases e3 : v = 3
      · subst e3; exact cwords_3 n p a y p2 a2 y2 h1 h4 h8 w htab
      · by_cases e4 : v = 4
        · subst e4; exact cwords_4 n p a y p2 a2 y2 h1 h4 h8 w htab
        · exact cwords_else v n p a y p2 a2 y2 e1 e2 e3 e4 h1 h4 h8 w htab
end Go.Proofs.YtkbbkddepcjoaaaDoor
