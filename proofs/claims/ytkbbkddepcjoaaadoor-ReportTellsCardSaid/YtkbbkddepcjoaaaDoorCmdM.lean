/-
  cmd: Parse of five and of seven words, by the document. Printed by wip/gen/cmdM.py.
-/
import Derived.Test.YtkbbkddepcjoaaaDoorCmdL
namespace Go.Proofs.YtkbbkddepcjoaaaDoor
open Go.RowKit Go.Great

set_option linter.unusedSimpArgs false in
set_option maxRecDepth 100000 in
set_option maxHeartbeats 4000000 in
theorem rcparse_5 (s : List UInt8) (a b c' d e : List UInt8) (hs : s.length ≤ 200) (hl : piecesB [] s = [a, b, c', d, e])  (w : World) : Calls Tryd.prog 16 #[.string (bs s)] w fun e w' => e = .returned (parseOV s) ∧ Below w.heap.size w w' := by
  have hsz : (bs s).size = s.length := rfl
  unfold parseOV
  have hd : decide ((200 : Int) < (s.length : Int)) = false := by simp; omega
  have hw := words_row [a, b, c', d, e] 5 s hl (by rfl) (by omega) (w.alloc (.cells (cmC zeroC) 40))
  have hsz0 : (w.alloc (.cells (cmC zeroC) 40)).heap.size = w.heap.size + 1 := by simp
  have BL0 := Lib.hid (show Below w.heap.size w (w.alloc (.cells (cmC zeroC) 40)) from (Below.refl _ _).alloc (Nat.le_refl _) _)
  have hv : parseO s = match parseC (piecesB [] s) with | some c => (c, 0) | none => (zeroC, 13) := by unfold parseO; rw [if_neg (by omega)]; cases parseC (piecesB [] s) <;> rfl
  rw [hl] at hv
  have HV := Lib.hid hv
  have HW := Lib.hid hw
  clear hw hv
  have hb : b.length ≤ 1048576 := by
    have := piecesB_mem s [] b (by rw [hl]; simp)
    simp at this
    omega
  have hd_ : d.length ≤ 1048576 := by
    have := piecesB_mem s [] d (by rw [hl]; simp)
    simp at this
    omega
  have he : e.length ≤ 1048576 := by
    have := piecesB_mem s [] e (by rw [hl]; simp)
    simp at this
    omega
  clear hl
  by_cases ha : a = wUnmap
  · have hq := strs_eq ha
    unfold wUnmap at hq
    have hv := HV.out
    rw [ha, show parseC [wUnmap, b, c', d, e] = readV 3 [b, c', d, e] from fit_parse (k := 3) (by omega) ⟨rfl, rfl⟩, readV_3] at hv
    have hin := fun A m W h => rinner_any A 4 m b c' d e [] hb hd_ he W h
    obtain ⟨R, hR⟩ : ∃ R, innerL b c' d e = R := ⟨_, rfl⟩
    rw [hR] at hin hv
    have HV2 := Lib.hid hv
    have HIN := Lib.hid hin
    clear HV ha hv hin hR
    cases R with
    | none =>
      have HR := Lib.hid (show parseO s = (zeroC, 13) from HV2.out)
      have HIN := Lib.hid (show ∀ A m W, TS W.heap.size W A 4 m [b, c', d, e] → Calls Tryd.prog 35 #[.slice A 4 m] W (InP W none) from HIN.out)
      clear HV2
      go_enter Tryd.func16, Tryd.ntmps16
      go_wp2_with (first
        | (go_at_call 34; refine HW.out.mono ?_; rintro e w1 ⟨g, c, rfl, hc1, hc2, tr, b1⟩; have HB := Lib.hid ((Blk.new w 40 (cmC zeroC)).on b1); have BL := Lib.hid (BL0.out.trans (b1.mono (by omega))); have x0 := tr.cell (k := 0) rfl; simp only [Nat.add_zero] at x0; obtain ⟨A', hsl, htl⟩ := TS.tail (B := w1.heap.size) (A := some ⟨g, 0, none⟩) hc1 1 (by omega); have hsl : ∀ w' : World, (Instr.slice 57 (.slice (some ⟨g, 0, none⟩) 5 c) (some (.int .i64 1)) none none).run Tryd.prog w' = .ok (.slice A' 4 (c - 1)) w' := hsl; have HTS := Lib.hid (htl _ _ (TS.of tr tr.1 hc1 hc2)); clear htl; clear tr b1 hc1 hc2)
        | (go_at_call 35; refine (HIN.out _ _ _ HTS.out).mono ?_; rintro e' w2 ⟨q, rfl, hq2, b2⟩; have HQ := Lib.hid hq2; have HB2 := Lib.hid (HB.out.on b2); have BL2 := Lib.hid (BL.out.trans (b2.mono BL.out.size)); clear HB BL hq2; have HB := HB2; have BL := BL2; clear b2; unfold inC)
        | (refine wpList_store_row rfl 40 (.tmp 2) (.tmp 101) rfl w.heap.size (cmC zeroC) rfl rfl 40 (cmC zeroC) (HB2.out.alloc _) rcm_size rfl (cm_one _) ?_))
      refine rcparse_ret (w := w) (q := zeroC) (z := 13) rfl rfl rfl (setRow_heap _ _ _ _ _ _ (HB2.out.alloc _)) ⟨by rw [HR.out], below_setRow (BL2.out.alloc BL2.out.size _) (Nat.le_refl _) _⟩
    | some v =>
      have HR := Lib.hid (show parseO s = ((3, innerI v, 0, 0, 0), 0) from HV2.out)
      clear HV2
      go_enter Tryd.func16, Tryd.ntmps16
      go_wp2_with (first
        | (go_at_call 34; refine HW.out.mono ?_; rintro e w1 ⟨g, c, rfl, hc1, hc2, tr, b1⟩; have HB := Lib.hid ((Blk.new w 40 (cmC zeroC)).on b1); have BL := Lib.hid (BL0.out.trans (b1.mono (by omega))); have x0 := tr.cell (k := 0) rfl; simp only [Nat.add_zero] at x0; obtain ⟨A', hsl, htl⟩ := TS.tail (B := w1.heap.size) (A := some ⟨g, 0, none⟩) hc1 1 (by omega); have hsl : ∀ w' : World, (Instr.slice 57 (.slice (some ⟨g, 0, none⟩) 5 c) (some (.int .i64 1)) none none).run Tryd.prog w' = .ok (.slice A' 4 (c - 1)) w' := hsl; have HTS := Lib.hid (htl _ _ (TS.of tr tr.1 hc1 hc2)); clear htl; clear tr b1 hc1 hc2)
        | (go_at_call 35; refine (HIN.out _ _ _ HTS.out).mono ?_; rintro e' w2 ⟨q, rfl, hq2, b2⟩; have HQ := Lib.hid hq2; have HB2 := Lib.hid (HB.out.on b2); have BL2 := Lib.hid (BL.out.trans (b2.mono BL.out.size)); clear HB BL hq2; have HB := HB2; have BL := BL2; clear b2; unfold inC)
        | (refine wpList_store_row rfl 40 (.tmp 2) (.tmp 69) rfl w.heap.size (cmC (3, q, 0, 0, 0)) rfl rfl 40 (cmC zeroC) (HB2.out.alloc _) rcm_size rfl (cm_one _) ?_))
      refine rcparse_ret (w := w) (q := (3, q, 0, 0, 0)) (z := 0) rfl rfl rfl (setRow_heap _ _ _ _ _ _ (HB2.out.alloc _)) ⟨by rw [HR.out, HQ.out v rfl], below_setRow (BL2.out.alloc BL2.out.size _) (Nat.le_refl _) _⟩
  · have hq := strs_ne ha
    unfold wUnmap at hq
    have HA := Lib.hid ha
    clear ha
    have HR := Lib.hid (show parseO s = (zeroC, 13) by rw [HV.out]; unfold parseC; simp only; rw [if_neg HA.out])
    clear HV
    go_enter Tryd.func16, Tryd.ntmps16
    go_wp2_with (first
      | (go_at_call 34; refine HW.out.mono ?_; rintro e w1 ⟨g, c, rfl, hc1, hc2, tr, b1⟩; have HB := Lib.hid ((Blk.new w 40 (cmC zeroC)).on b1); have BL := Lib.hid (BL0.out.trans (b1.mono (by omega))); have x0 := tr.cell (k := 0) rfl; simp only [Nat.add_zero] at x0; clear tr b1 hc1 hc2)
      | (refine wpList_store_row rfl 40 (.tmp 2) (.tmp 101) rfl w.heap.size (cmC zeroC) rfl rfl 40 (cmC zeroC) HB.out rcm_size rfl (cm_one _) ?_))
    refine rcparse_ret (w := w) (q := zeroC) (z := 13) rfl rfl rfl (setRow_heap _ _ _ _ _ _ HB.out) ⟨by rw [HR.out], below_setRow BL.out (Nat.le_refl _) _⟩
end Go.Proofs.YtkbbkddepcjoaaaDoor
