/-
  cmd: Parse, by the document. Printed by wip/gen/cmdL.py.
-/
import Derived.Test.YtkbbkddepcjoaaaDoorCmdK
namespace Go.Proofs.YtkbbkddepcjoaaaDoor
open Go.RowKit Go.Great

theorem rcm_size {q : Cm} : (Tryd.prog.info? 40).map (·.size) = some (cmC q).size := (by kernel_rfl : (Tryd.prog.info? 40).map (·.size) = some 8)
theorem rcparse_ret {w W : World} {a : Act} {q : Cm} {z : Int} {R : Ending → World → Prop} (h2 : a.tmps[2]?.getD undef = .pointer (some ⟨w.heap.size, 0, none⟩)) (h3 : a.tmps[3]?.getD undef = .int .i64 z) (hd : a.defers = [])
    (hb : Blk W w.heap.size 40 (cmC q)) (hR : R (.returned (.tuple #[cmV q, .int .i64 z])) W) : bodyPost Tryd.prog Tryd.f16 R .ret a W := by
  refine bodyPost_ret (v := .tuple #[cmV q, .int .i64 z]) ?_ hd hR
  simp [results, Tryd.f16, asAddr, h2, h3, run_loadVar_row _ w.heap.size 40 40 (cmC q) (0, 0) _ hb Tryd.underlying40 rfl rcm_size]
  rfl
/-- 'l[1:5]'. -/
theorem TS.mid {B : Nat} {A : Option Addr} {n c : Nat} (hc : n ≤ c) (hn : 5 ≤ n) : ∃ A', (∀ w' : World, (Instr.slice 57 (.slice A n c) (some (.int .i64 1)) (some (.int .i64 5)) none).run Tryd.prog w' = .ok (.slice A' 4 (c - 1)) w') ∧ ∀ (w : World) (L : List (List UInt8)), TS B w A n c L → TS B w A' 4 (c - 1) ((L.drop 1).take 4) := by
  refine ⟨if c = 1 then A else A.map (·.add (1 * 1)), fun w' => ?_, fun w L h => ⟨?_, by omega, by have := h.2.2.1; omega, fun h0 => ?_⟩⟩
  · have hel : Tryd.prog.elem 57 = 9 := by simp [Program.elem, Tryd.underlying57]
    rw [run_slice_lh w' 57 A n c (by rw [hel]; exact Tryd.underlying57) .i64 .i64 1 5 (by omega) (by omega) (by omega), hel]
    obtain ⟨i, hi, hz'⟩ := Option.map_eq_some_iff.1 str_size
    have e1 : (1 : Int).toNat = 1 := rfl
    have e2 : (5 : Int).toNat = 5 := rfl
    simp [sizeOf, typeInfo, hi, hz', Result.andThen, sliced, e1, e2]
  · have := h.1
    simp
    omega
  · obtain ⟨g, o, e, hg, ht⟩ := h.2.2.2 (by omega)
    refine ⟨g, o + 1, ?_, hg, (ht.drop 1).1, fun j x hx => (ht.drop 1).2 j x (by rw [List.getElem?_take] at hx; split at hx; exact hx; cases hx)⟩
    rw [e, if_neg (by omega)]
    simp [Addr.add]
theorem words_row (L : List (List UInt8)) (N : Nat) (s : List UInt8) (h : piecesB [] s = L) (hN : L.length = N) (hs : s.length ≤ 1048576) (w : World) : Calls Tryd.prog 34 #[.string (bs s)] w fun r w' => ∃ g c, r = .returned (.slice (some ⟨g, 0, none⟩) N c) ∧ N ≤ c ∧ c ≤ maxLen ∧ TRow w' g 0 L ∧ Below w.heap.size w w' := by
  have := rwords_any s hs w
  rw [h, hN] at this
  exact this
theorem strs_ne {a T : List UInt8} (h : a ≠ T) : ((bs a).toList == T) = false := by
  rw [toList_bs]
  simpa using h
theorem strs_eq {a T : List UInt8} (h : a = T) : ((bs a).toList == T) = true := by
  rw [toList_bs]
  simpa using h
set_option linter.unusedSimpArgs false in
set_option maxRecDepth 100000 in
set_option maxHeartbeats 4000000 in
theorem rcparse_else (s : List UInt8) (L : List (List UInt8)) (N : Nat) (hs : s.length ≤ 200) (hl : piecesB [] s = L) (hN : L.length = N) (h1 : N ≠ 1) (h2 : N ≠ 2) (h5 : N ≠ 5) (h7 : N ≠ 7) (w : World) : Calls Tryd.prog 16 #[.string (bs s)] w fun e w' => e = .returned (parseOV s) ∧ Below w.heap.size w w' := by
  have hsz : (bs s).size = s.length := rfl
  unfold parseOV
  have hd : decide ((200 : Int) < (s.length : Int)) = false := by simp; omega
  have hw := words_row L N s hl (by exact hN) (by omega) (w.alloc (.cells (cmC zeroC) 40))
  have hsz0 : (w.alloc (.cells (cmC zeroC) 40)).heap.size = w.heap.size + 1 := by simp
  have BL0 := Lib.hid (show Below w.heap.size w (w.alloc (.cells (cmC zeroC) 40)) from (Below.refl _ _).alloc (Nat.le_refl _) _)
  have hv : parseO s = match parseC (piecesB [] s) with | some c => (c, 0) | none => (zeroC, 13) := by unfold parseO; rw [if_neg (by omega)]; cases parseC (piecesB [] s) <;> rfl
  rw [hl] at hv
  have HV := Lib.hid hv
  have HW := Lib.hid hw
  clear hw hv
  have n1 : ((N : Int) == 1) = false := by simp; omega
  have n2 : ((N : Int) == 2) = false := by simp; omega
  have n5 : ((N : Int) == 5) = false := by simp; omega
  have n7 : ((N : Int) == 7) = false := by simp; omega
  have hno : parseC L = none := by
    apply nofit_parse
    intro k hk1 hk5 hf
    have := hf.2
    rcases (show k = 1 ∨ k = 2 ∨ k = 3 ∨ k = 4 by omega) with rfl | rfl | rfl | rfl <;> simp [vM] at this <;> omega
  have HNO := Lib.hid hno
  clear hno hN hl
  have HR := Lib.hid (show parseO s = (zeroC, 13) by rw [HV.out]; rw [HNO.out])
  clear HV
  go_enter Tryd.func16, Tryd.ntmps16
  go_wp2_with (first
    | (go_at_call 34; refine HW.out.mono ?_; rintro e w1 ⟨g, c, rfl, hc1, hc2, tr, b1⟩; have HB := Lib.hid ((Blk.new w 40 (cmC zeroC)).on b1); have BL := Lib.hid (BL0.out.trans (b1.mono (by omega))); skip; clear tr b1 hc1 hc2)
    | (refine wpList_store_row rfl 40 (.tmp 2) (.tmp 101) rfl w.heap.size (cmC zeroC) rfl rfl 40 (cmC zeroC) HB.out rcm_size rfl (cm_one _) ?_))
  refine rcparse_ret (w := w) (q := zeroC) (z := 13) rfl rfl rfl (setRow_heap _ _ _ _ _ _ HB.out) ⟨by rw [HR.out], below_setRow BL.out (Nat.le_refl _) _⟩
set_option linter.unusedSimpArgs false in
set_option maxRecDepth 100000 in
set_option maxHeartbeats 4000000 in
theorem rcparse_1 (s : List UInt8) (a : List UInt8) (hs : s.length ≤ 200) (hl : piecesB [] s = [a])  (w : World) : Calls Tryd.prog 16 #[.string (bs s)] w fun e w' => e = .returned (parseOV s) ∧ Below w.heap.size w w' := by
  have hsz : (bs s).size = s.length := rfl
  unfold parseOV
  have hd : decide ((200 : Int) < (s.length : Int)) = false := by simp; omega
  have hw := words_row [a] 1 s hl (by rfl) (by omega) (w.alloc (.cells (cmC zeroC) 40))
  have hsz0 : (w.alloc (.cells (cmC zeroC) 40)).heap.size = w.heap.size + 1 := by simp
  have BL0 := Lib.hid (show Below w.heap.size w (w.alloc (.cells (cmC zeroC) 40)) from (Below.refl _ _).alloc (Nat.le_refl _) _)
  have hv : parseO s = match parseC (piecesB [] s) with | some c => (c, 0) | none => (zeroC, 13) := by unfold parseO; rw [if_neg (by omega)]; cases parseC (piecesB [] s) <;> rfl
  rw [hl] at hv
  have HV := Lib.hid hv
  have HW := Lib.hid hw
  clear hw hv
  clear hl
  by_cases ha : a = wShow
  · have hq := strs_eq ha
    unfold wShow at hq
    have HR := Lib.hid (show parseO s = ((4, (0, 0, 0, 0), 0, 0, 0), 0) by rw [HV.out, ha]; rfl)
    clear HV ha
    go_enter Tryd.func16, Tryd.ntmps16
    go_wp2_with (first
      | (go_at_call 34; refine HW.out.mono ?_; rintro e w1 ⟨g, c, rfl, hc1, hc2, tr, b1⟩; have HB := Lib.hid ((Blk.new w 40 (cmC zeroC)).on b1); have BL := Lib.hid (BL0.out.trans (b1.mono (by omega))); have x0 := tr.cell (k := 0) rfl; simp only [Nat.add_zero] at x0; skip; clear tr b1 hc1 hc2)
      | (refine wpList_store_row rfl 40 (.tmp 2) (.tmp 29) rfl w.heap.size (cmC (4, (0, 0, 0, 0), 0, 0, 0)) rfl rfl 40 (cmC zeroC) HB.out rcm_size rfl (cm_one _) ?_))
    refine rcparse_ret (w := w) (q := (4, (0, 0, 0, 0), 0, 0, 0)) (z := 0) rfl rfl rfl (setRow_heap _ _ _ _ _ _ HB.out) ⟨by rw [HR.out], below_setRow BL.out (Nat.le_refl _) _⟩
  · have hq := strs_ne ha
    unfold wShow at hq
    have HA := Lib.hid ha
    clear ha
    have HR := Lib.hid (show parseO s = (zeroC, 13) by rw [HV.out]; unfold parseC; simp only; rw [if_neg HA.out])
    clear HV
    go_enter Tryd.func16, Tryd.ntmps16
    go_wp2_with (first
      | (go_at_call 34; refine HW.out.mono ?_; rintro e w1 ⟨g, c, rfl, hc1, hc2, tr, b1⟩; have HB := Lib.hid ((Blk.new w 40 (cmC zeroC)).on b1); have BL := Lib.hid (BL0.out.trans (b1.mono (by omega))); have x0 := tr.cell (k := 0) rfl; simp only [Nat.add_zero] at x0; skip; clear tr b1 hc1 hc2)
      | (refine wpList_store_row rfl 40 (.tmp 2) (.tmp 101) rfl w.heap.size (cmC zeroC) rfl rfl 40 (cmC zeroC) HB.out rcm_size rfl (cm_one _) ?_))
    refine rcparse_ret (w := w) (q := zeroC) (z := 13) rfl rfl rfl (setRow_heap _ _ _ _ _ _ HB.out) ⟨by rw [HR.out], below_setRow BL.out (Nat.le_refl _) _⟩
set_option linter.unusedSimpArgs false in
set_option maxRecDepth 100000 in
set_option maxHeartbeats 4000000 in
theorem rcparse_2 (s : List UInt8) (a b : List UInt8) (hs : s.length ≤ 200) (hl : piecesB [] s = [a, b])  (w : World) : Calls Tryd.prog 16 #[.string (bs s)] w fun e w' => e = .returned (parseOV s) ∧ Below w.heap.size w w' := by
  have hsz : (bs s).size = s.length := rfl
  unfold parseOV
  have hd : decide ((200 : Int) < (s.length : Int)) = false := by simp; omega
  have hw := words_row [a, b] 2 s hl (by rfl) (by omega) (w.alloc (.cells (cmC zeroC) 40))
  have hsz0 : (w.alloc (.cells (cmC zeroC) 40)).heap.size = w.heap.size + 1 := by simp
  have BL0 := Lib.hid (show Below w.heap.size w (w.alloc (.cells (cmC zeroC) 40)) from (Below.refl _ _).alloc (Nat.le_refl _) _)
  have hv : parseO s = match parseC (piecesB [] s) with | some c => (c, 0) | none => (zeroC, 13) := by unfold parseO; rw [if_neg (by omega)]; cases parseC (piecesB [] s) <;> rfl
  rw [hl] at hv
  have HV := Lib.hid hv
  have HW := Lib.hid hw
  clear hw hv
  have hb : b.length ≤ 1048576 := by
    have := piecesB_mem s [] b (by rw [hl]; simp)
    simp at this
    omega
  clear hl
  by_cases ha : a = wFlush
  · have hq := strs_eq ha
    unfold wFlush at hq
    have hn := fun W => rnum_any b 63 hb W
    have hv := HV.out
    rw [ha, show parseC [wFlush, b] = readV 1 [b] from fit_parse (k := 1) (by omega) ⟨rfl, rfl⟩, readV_1] at hv
    obtain ⟨R, hR⟩ : ∃ R, numV b 63 = R := ⟨_, rfl⟩
    rw [hR] at hn hv
    have HV2 := Lib.hid hv
    have HN := Lib.hid hn
    clear HV ha hv hn hR
    cases R with
    | none =>
      have HR := Lib.hid (show parseO s = (zeroC, 13) from HV2.out)
      have HN := Lib.hid (show ∀ W, Calls Tryd.prog 18 #[.string (bs b), .int .i64 63] W fun r w' => r = .returned (.tuple #[.int .i64 0, .bool false]) ∧ W = w' from HN.out)
      clear HV2
      go_enter Tryd.func16, Tryd.ntmps16
      go_wp2_with (first
        | (go_at_call 34; refine HW.out.mono ?_; rintro e w1 ⟨g, c, rfl, hc1, hc2, tr, b1⟩; have HB := Lib.hid ((Blk.new w 40 (cmC zeroC)).on b1); have BL := Lib.hid (BL0.out.trans (b1.mono (by omega))); have x0 := tr.cell (k := 0) rfl; simp only [Nat.add_zero] at x0; have x1 := tr.cell (k := 1) rfl; simp only [Nat.zero_add] at x1; clear tr b1 hc1 hc2)
        | (go_at_call 18; refine (HN.out _).mono ?_; rintro e w2 ⟨rfl, rfl⟩)
        | (refine wpList_store_row rfl 40 (.tmp 2) (.tmp 101) rfl w.heap.size (cmC zeroC) rfl rfl 40 (cmC zeroC) HB.out rcm_size rfl (cm_one _) ?_))
      refine rcparse_ret (w := w) (q := zeroC) (z := 13) rfl rfl rfl (setRow_heap _ _ _ _ _ _ HB.out) ⟨by rw [HR.out], below_setRow BL.out (Nat.le_refl _) _⟩
    | some v =>
      have HR := Lib.hid (show parseO s = ((1, ((v : Int), 0, 0, 0), 0, 0, 0), 0) from HV2.out)
      have HN := Lib.hid (show ∀ W, Calls Tryd.prog 18 #[.string (bs b), .int .i64 63] W fun r w' => r = .returned (.tuple #[.int .i64 (v : Int), .bool true]) ∧ W = w' from HN.out)
      clear HV2
      go_enter Tryd.func16, Tryd.ntmps16
      go_wp2_with (first
        | (go_at_call 34; refine HW.out.mono ?_; rintro e w1 ⟨g, c, rfl, hc1, hc2, tr, b1⟩; have HB := Lib.hid ((Blk.new w 40 (cmC zeroC)).on b1); have BL := Lib.hid (BL0.out.trans (b1.mono (by omega))); have x0 := tr.cell (k := 0) rfl; simp only [Nat.add_zero] at x0; have x1 := tr.cell (k := 1) rfl; simp only [Nat.zero_add] at x1; clear tr b1 hc1 hc2)
        | (go_at_call 18; refine (HN.out _).mono ?_; rintro e w2 ⟨rfl, rfl⟩)
        | (refine wpList_store_row rfl 40 (.tmp 2) (.tmp 50) rfl w.heap.size (cmC (1, ((v : Int), 0, 0, 0), 0, 0, 0)) rfl rfl 40 (cmC zeroC) HB.out rcm_size rfl (cm_one _) ?_))
      refine rcparse_ret (w := w) (q := (1, ((v : Int), 0, 0, 0), 0, 0, 0)) (z := 0) rfl rfl rfl (setRow_heap _ _ _ _ _ _ HB.out) ⟨by rw [HR.out], below_setRow BL.out (Nat.le_refl _) _⟩
  · have hq := strs_ne ha
    unfold wFlush at hq
    have HA := Lib.hid ha
    clear ha
    have HR := Lib.hid (show parseO s = (zeroC, 13) by rw [HV.out]; unfold parseC; simp only; rw [if_neg HA.out])
    clear HV
    go_enter Tryd.func16, Tryd.ntmps16
    go_wp2_with (first
      | (go_at_call 34; refine HW.out.mono ?_; rintro e w1 ⟨g, c, rfl, hc1, hc2, tr, b1⟩; have HB := Lib.hid ((Blk.new w 40 (cmC zeroC)).on b1); have BL := Lib.hid (BL0.out.trans (b1.mono (by omega))); have x0 := tr.cell (k := 0) rfl; simp only [Nat.add_zero] at x0; skip; clear tr b1 hc1 hc2)
      | (refine wpList_store_row rfl 40 (.tmp 2) (.tmp 101) rfl w.heap.size (cmC zeroC) rfl rfl 40 (cmC zeroC) HB.out rcm_size rfl (cm_one _) ?_))
    refine rcparse_ret (w := w) (q := zeroC) (z := 13) rfl rfl rfl (setRow_heap _ _ _ _ _ _ HB.out) ⟨by rw [HR.out], below_setRow BL.out (Nat.le_refl _) _⟩
end Go.Proofs.YtkbbkddepcjoaaaDoor
