/-
  cmd: Parse of seven words, by the document. Printed by wip/gen/cmdN.py.
-/
import Derived.Test.YtkbbkddepcjoaaaDoorCmdM
namespace Go.Proofs.YtkbbkddepcjoaaaDoor
open Go.RowKit Go.Great

theorem ou_one (q : Int × Int × Int) : (ouC q).all (·.oneCell') = true := by simp [ouC, Value.oneCell']
set_option linter.unusedSimpArgs false in
set_option maxRecDepth 100000 in
set_option maxHeartbeats 4000000 in
theorem rcparse_7 (s : List UInt8) (a b c' d e f k : List UInt8) (hs : s.length ≤ 200) (hl : piecesB [] s = [a, b, c', d, e, f, k])  (w : World) : Calls Tryd.prog 16 #[.string (bs s)] w fun e w' => e = .returned (parseOV s) ∧ Below w.heap.size w w' := by
  have hsz : (bs s).size = s.length := rfl
  unfold parseOV
  have hd : decide ((200 : Int) < (s.length : Int)) = false := by simp; omega
  have hw := words_row [a, b, c', d, e, f, k] 7 s hl (by rfl) (by omega) (w.alloc (.cells (cmC zeroC) 40))
  have hsz0 : (w.alloc (.cells (cmC zeroC) 40)).heap.size = w.heap.size + 1 := by simp
  have BL0 := Lib.hid (show Below w.heap.size w (w.alloc (.cells (cmC zeroC) 40)) from (Below.refl _ _).alloc (Nat.le_refl _) _)
  have hv : parseO s = match parseC (piecesB [] s) with | some c => (c, 0) | none => (zeroC, 13) := by unfold parseO; rw [if_neg (by omega)]; cases parseC (piecesB [] s) <;> rfl
  rw [hl] at hv
  have HV := Lib.hid hv
  have HW := Lib.hid hw
  clear hw hv
  have hb : b.length ≤ 1048576 := by
    have := piecesB_mem s [] b (by rw [hl]; simp)
    simp at this
    omega
  have hd_ : d.length ≤ 1048576 := by
    have := piecesB_mem s [] d (by rw [hl]; simp)
    simp at this
    omega
  have he : e.length ≤ 1048576 := by
    have := piecesB_mem s [] e (by rw [hl]; simp)
    simp at this
    omega
  have hf : f.length ≤ 1048576 := by
    have := piecesB_mem s [] f (by rw [hl]; simp)
    simp at this
    omega
  have hk : k.length ≤ 1048576 := by
    have := piecesB_mem s [] k (by rw [hl]; simp)
    simp at this
    omega
  clear hl
  by_cases ha : a = wMap
  · have hq := strs_eq ha
    unfold wMap at hq
    have hv := HV.out
    rw [ha, show parseC [wMap, b, c', d, e, f, k] = readV 2 [b, c', d, e, f, k] from fit_parse (k := 2) (by omega) ⟨rfl, rfl⟩, readV_2] at hv
    have hin := fun A m W h => rinner_any A 4 m b c' d e [] hb hd_ he W h
    have hou := fun A m p W h => router_any A 2 m p f k [] hf hk W h
    obtain ⟨R, hR⟩ : ∃ R, innerL b c' d e = R := ⟨_, rfl⟩
    obtain ⟨O, hO⟩ : ∃ O, outerL f k = O := ⟨_, rfl⟩
    rw [hR] at hin hv
    rw [hO] at hou hv
    have HV2 := Lib.hid hv
    have HIN := Lib.hid hin
    have HOU := Lib.hid hou
    clear HV ha hv hin hou hR hO
    rcases R with _ | x
    · rcases O with _ | y
      · have HR := Lib.hid (show parseO s = (zeroC, 13) from HV2.out)
        clear HV2
        have HIN := Lib.hid (show ∀ A m W, TS W.heap.size W A 4 m [b, c', d, e] → Calls Tryd.prog 35 #[.slice A 4 m] W (InP W (none)) from HIN.out)
        have HOU := Lib.hid (show ∀ A m p W, TS W.heap.size W A 2 m [f, k] → Calls Tryd.prog 36 #[.slice A 2 m, .int .i64 p] W (OuP W p (none)) from HOU.out)
        go_enter Tryd.func16, Tryd.ntmps16
        go_upto_region 16 with (first
          | (go_at_call 34; refine HW.out.mono ?_; rintro e w1 ⟨g, c, rfl, hc1, hc2, tr, b1⟩; have HB := Lib.hid ((Blk.new w 40 (cmC zeroC)).on b1); have BL := Lib.hid (BL0.out.trans (b1.mono (by omega))); have x0 := tr.cell (k := 0) rfl; simp only [Nat.add_zero] at x0; obtain ⟨A', hsl, htl⟩ := TS.mid (B := w1.heap.size) (A := some ⟨g, 0, none⟩) hc1 (by omega); obtain ⟨A5, hs5, ht5⟩ := TS.tail (B := w1.heap.size) (A := some ⟨g, 0, none⟩) hc1 5 (by omega); have hs5 : ∀ w' : World, (Instr.slice 57 (.slice (some ⟨g, 0, none⟩) 7 c) (some (.int .i64 5)) none none).run Tryd.prog w' = .ok (.slice A5 2 (c - 5)) w' := hs5; have HTS := Lib.hid (htl _ _ (TS.of tr tr.1 hc1 hc2)); have HT5 := Lib.hid (ht5 _ _ (TS.of tr tr.1 hc1 hc2)); clear htl ht5; clear tr b1 hc1 hc2)
          | (go_at_call 35; refine (HIN.out _ _ _ HTS.out).mono ?_; rintro e' w2 ⟨q, rfl, hq2, b2⟩; have HQ := Lib.hid hq2; have HB2 := Lib.hid (HB.out.on b2); have BL2 := Lib.hid (BL.out.trans (b2.mono BL.out.size)); have hsz12 : w1.heap.size ≤ w2.heap.size := b2.size; have HT6 := Lib.hid (HT5.out.kept b2); clear HB BL hq2; clear b2; unfold inC))
        have b9 : Blk (w2.alloc (.cells (inC q) 24)) w2.heap.size 24 (inC q) := Blk.new _ _ _
        have hb3 := HB2.out.alloc (.cells (inC q) 24)
        have bl3 := BL2.out.alloc BL2.out.size (.cells (inC q) 24)
        have t3 := (HT6.out.kept ((Below.refl w1.heap.size w2).alloc (o := .cells (inC q) 24) hsz12)).in_
        obtain ⟨V9, hV9⟩ : ∃ V9, w2.heap.size = V9 := ⟨_, rfl⟩
        rw [hV9] at b9 ⊢
        unfold inC at b9 hb3 bl3 t3
        generalize (w2.alloc (.cells _ 24)) = w3 at b9 hb3 bl3 t3 ⊢
        have B9 := Lib.hid b9
        have HB3 := Lib.hid hb3
        have BL3 := Lib.hid bl3
        have T3 := Lib.hid t3
        have m0 : w3.cell? ⟨V9, 1, none⟩ = some (.int .i64 q.2.1) := b9.cell 1
        clear b9 hb3 bl3 t3 HT6 HB2 BL2 hV9 HW hsl HTS HT5
        refine wp_region_held_drew (S := fun W' : World => W'.cell? ⟨V9, 1, none⟩ = some (.int .i64 q.2.1)) (by kernel_rfl) m0 (fun H0 => ?_)
        refine wpAnyH_take (i := 0) (v := .slice (some ⟨g, 0, none⟩) 7 c) rfl (by kernel_rfl) (by kernel_rfl) (by kernel_rfl) (fun _ _ _ h => h) (.inl ⟨rfl, fun w hS => by go_simp⟩) H0 ?_
        simp only [Act.put, List.getElem_toArray, List.getElem_cons_zero, List.setIfInBounds_toArray, List.set_cons_zero, List.set_cons_succ]
        refine wpAnyH_take (i := 1) (v := .slice A5 2 (c - 5)) rfl (by kernel_rfl) (by kernel_rfl) (by kernel_rfl) (fun _ _ _ h => h) (.inl ⟨rfl, fun w hS => by go_simp⟩) H0 ?_
        simp only [Act.put, List.getElem_toArray, List.getElem_cons_succ, List.getElem_cons_zero, List.setIfInBounds_toArray, List.set_cons_zero, List.set_cons_succ]
        refine wpAnyH_take (i := 2) (v := .pointer (some ⟨V9, 1, none⟩)) rfl (by kernel_rfl) (by kernel_rfl) (by kernel_rfl) (fun _ _ _ h => h) (.inl ⟨rfl, fun w hS => by go_simp⟩) H0 ?_
        simp only [Act.put, List.getElem_toArray, List.getElem_cons_succ, List.getElem_cons_zero, List.setIfInBounds_toArray, List.set_cons_zero, List.set_cons_succ]
        refine wpAnyH_take (i := 3) (v := .int .i64 q.2.1) rfl (by kernel_rfl) (by kernel_rfl) (by kernel_rfl) (fun _ _ _ h => h) (.inl ⟨rfl, fun w hS => by go_simp⟩) H0 ?_
        simp only [Act.put, List.getElem_toArray, List.getElem_cons_succ, List.getElem_cons_zero, List.setIfInBounds_toArray, List.set_cons_zero, List.set_cons_succ]
        refine wpAnyH_ready (rs := [4, 8]) (by kernel_rfl) (by simp) ?_
        refine AllReadyH.cons rfl (fun KK hK => ?_) (AllReadyH.cons rfl (fun KK hK => ?_) AllReadyH.nil)
        · refine step_call rfl 36 #[.tmp 88, .tmp 90] #[57, 3] rfl #[.slice A5 2 (c - 5), .int .i64 q.2.1] (by simp [Act.eval]) (enters_of Tryd.func36 (by kernel_rfl) rfl) ?_
          refine (HOU.out A5 (c - 5) q.2.1 w3.drew T3.out).mono ?_
          rintro r w4 ⟨q5, rfl, hq5, b4⟩
          have b4 : Below w3.heap.size w3 w4 := ⟨b4.os, b4.tape, b4.output, b4.size, b4.block⟩
          have B4 := Lib.hid (B9.out.on b4)
          have HB4 := Lib.hid (HB3.out.on b4)
          have BL4 := Lib.hid (BL3.out.trans (b4.mono BL3.out.size))
          have HQ5 := Lib.hid hq5
          have m4 : w4.cell? ⟨V9, 1, none⟩ = some (.int .i64 q.2.1) := B4.out.cell 1
          clear b4 hq5 hs5 B9 HB3 BL3 T3 m0 H0
          refine ⟨_, rfl, hK.out _ _ m4 (fun _ => ?_)⟩
          clear hK KK
          simp only [Act.put, List.getElem_toArray, List.getElem_cons_succ, List.getElem_cons_zero, List.setIfInBounds_toArray, List.set_cons_zero, List.set_cons_succ]
          refine wpAnyH_take (i := 5) (v := .tuple #[.agg (ouC q5), .bool false]) rfl (by kernel_rfl) (by kernel_rfl) (by kernel_rfl) (fun _ _ _ h => h) (.inl ⟨rfl, fun w hS => by go_simp⟩) m4 ?_
          simp only [Act.put, List.getElem_toArray, List.getElem_cons_succ, List.getElem_cons_zero, List.setIfInBounds_toArray, List.set_cons_zero, List.set_cons_succ]
          refine wpAnyH_take (i := 6) (v := .agg (ouC q5)) rfl (by kernel_rfl) (by kernel_rfl) (by kernel_rfl) (fun _ _ _ h => h) (.inl ⟨rfl, fun w hS => by go_simp⟩) m4 ?_
          simp only [Act.put, List.getElem_toArray, List.getElem_cons_succ, List.getElem_cons_zero, List.setIfInBounds_toArray, List.set_cons_zero, List.set_cons_succ]
          refine wpAnyH_take (i := 7) (v := .bool false) rfl (by kernel_rfl) (by kernel_rfl) (by kernel_rfl) (fun _ _ _ h => h) (.inl ⟨rfl, fun w hS => by go_simp⟩) m4 ?_
          simp only [Act.put, List.getElem_toArray, List.getElem_cons_succ, List.getElem_cons_zero, List.setIfInBounds_toArray, List.set_cons_zero, List.set_cons_succ]
          refine wpAnyH_ready (rs := [8]) (by kernel_rfl) (by simp) ?_
          refine AllReadyH.cons rfl (fun KK hK => ?_) AllReadyH.nil
          go_simp
          have b5 : Blk (w4.alloc (.cells (ouC (0, 0, 0)) 26)) w4.heap.size 26 (ouC (0, 0, 0)) := Blk.new _ _ _
          have b9 := (show Blk w4 V9 _ _ from B4.out).alloc (.cells (ouC (0, 0, 0)) 26)
          have hb5 := (show Blk w4 w.heap.size _ _ from HB4.out).alloc (.cells (ouC (0, 0, 0)) 26)
          have bl5 := (BL4.out).alloc BL4.out.size (.cells (ouC (0, 0, 0)) 26)
          have v9 := B4.out.lt
          have v0 := BL4.out.size
          have v2 := HB4.out.lt
          obtain ⟨V11, hV11⟩ : ∃ V11, w4.heap.size = V11 := ⟨_, rfl⟩
          rw [hV11] at b5 v9 v0 v2 ⊢
          unfold ouC at b5 b9 hb5 bl5
          generalize (w4.alloc (.cells _ 26)) = w5 at b5 b9 hb5 bl5 ⊢
          have B5 := Lib.hid b5
          have C9 := Lib.hid b9
          have HB5 := Lib.hid hb5
          have BL5 := Lib.hid bl5
          have m5 : w5.cell? ⟨V9, 1, none⟩ = some (.int .i64 q.2.1) := b9.cell 1
          clear b5 b9 hb5 bl5 B4 HB4 BL4 m4 hV11
          refine hK.out _ _ m5 (fun _ => ?_)
          clear hK KK
          try simp only [Act.put, List.getElem_toArray, List.getElem_cons_succ, List.getElem_cons_zero, List.setIfInBounds_toArray, List.set_cons_zero, List.set_cons_succ]
          refine wpAnyH_ready (rs := [9]) (by kernel_rfl) (by simp) ?_
          refine AllReadyH.cons rfl (fun KK hK => ?_) AllReadyH.nil
          refine (if_pos (show Region.wanted _ _ = true by rfl)).mpr ?_
          refine wp_store_row 26 (.tmp 11) (.tmp 92) rfl V11 (ouC q5) rfl rfl 26 (ouC (0, 0, 0)) B5.out ou_size rfl (ou_one q5) ?_
          have b6 : Blk (w5.setRow V11 (ouC q5)) V11 26 (ouC q5) := setRow_heap _ _ _ _ _ _ B5.out
          have c6 : Blk (w5.setRow V11 (ouC q5)) V9 24 (inC q) := (setRow_other w5 V11 V9 _ (by omega)).trans C9.out
          have hb6 : Blk (w5.setRow V11 (ouC q5)) w.heap.size 40 (cmC zeroC) := (setRow_other w5 V11 w.heap.size _ (by omega)).trans HB5.out
          have bl6 : Below w.heap.size w (w5.setRow V11 (ouC q5)) := below_setRow BL5.out v0 _
          generalize w5.setRow V11 (ouC q5) = w6 at b6 c6 hb6 bl6 ⊢
          have B6 := Lib.hid b6
          have C6 := Lib.hid c6
          have HB6 := Lib.hid hb6
          have BL6 := Lib.hid bl6
          have m6 : w6.cell? ⟨V9, 1, none⟩ = some (.int .i64 q.2.1) := c6.cell 1
          clear b6 c6 hb6 bl6 B5 C9 HB5 BL5 m5
          refine hK.out _ _ m6 (fun _ => ?_)
          clear hK KK
          try simp only [Act.put, List.getElem_toArray, List.getElem_cons_succ, List.getElem_cons_zero, List.setIfInBounds_toArray, List.set_cons_zero, List.set_cons_succ]
          refine wpAnyH_take (i := 10) (v := .bool false) rfl (by kernel_rfl) (by kernel_rfl) (by kernel_rfl) (fun _ _ _ h => h) (.inl ⟨rfl, fun w hS => by go_simp⟩) m6 ?_
          simp only [Act.put, List.getElem_toArray, List.getElem_cons_succ, List.getElem_cons_zero, List.setIfInBounds_toArray, List.set_cons_zero, List.set_cons_succ]
          refine wpAnyH_done (by kernel_rfl) ?_ _
          go_wp2_with (refine wpList_store_row rfl 40 (.tmp 2) (.tmp 101) rfl w.heap.size (cmC zeroC) rfl rfl 40 (cmC zeroC) HB6.out rcm_size rfl (cm_one _) ?_)
          refine rcparse_ret (w := w) (q := zeroC) (z := 13) rfl rfl rfl (setRow_heap _ _ _ _ _ _ HB6.out) ⟨by rw [HR.out], below_setRow BL6.out (Nat.le_refl _) _⟩
        · go_simp
          have b5 : Blk (w3.alloc (.cells (ouC (0, 0, 0)) 26)) w3.heap.size 26 (ouC (0, 0, 0)) := Blk.new _ _ _
          have b9 := (show Blk w3 V9 _ _ from B9.out).alloc (.cells (ouC (0, 0, 0)) 26)
          have hb5 := (show Blk w3 w.heap.size _ _ from HB3.out).alloc (.cells (ouC (0, 0, 0)) 26)
          have bl5 := (BL3.out).alloc BL3.out.size (.cells (ouC (0, 0, 0)) 26)
          have v9 := B9.out.lt
          have v0 := BL3.out.size
          have v2 := HB3.out.lt
          have t4 := (T3.out.kept (w' := w3.alloc (.cells (ouC (0, 0, 0)) 26)) ((Below.refl w3.heap.size w3).alloc (o := (.cells (ouC (0, 0, 0)) 26)) (Nat.le_refl _))).in_
          obtain ⟨V11, hV11⟩ : ∃ V11, w3.heap.size = V11 := ⟨_, rfl⟩
          rw [hV11] at b5 v9 v0 v2 ⊢
          obtain ⟨w4, hw4⟩ : ∃ w4, (w3.alloc (.cells (ouC (0, 0, 0)) 26)).drew = w4 := ⟨_, rfl⟩
          have b5 : Blk w4 V11 26 (ouC (0, 0, 0)) := by rw [← hw4]; exact b5
          have b9 : Blk w4 V9 24 (inC q) := by rw [← hw4]; exact b9
          have hb5 : Blk w4 w.heap.size 40 (cmC zeroC) := by rw [← hw4]; exact hb5
          have bl5 : Below w.heap.size w w4 := by rw [← hw4]; exact bl5.drew
          have t4 : TS w4.heap.size w4 A5 2 (c - 5) [f, k] := by rw [← hw4]; exact t4
          unfold ouC at hw4 b5
          rw [hw4]
          have E5 := Lib.hid b5
          have E9 := Lib.hid b9
          have HE5 := Lib.hid hb5
          have BE5 := Lib.hid bl5
          have T4 := Lib.hid t4
          have m4 : w4.cell? ⟨V9, 1, none⟩ = some (.int .i64 q.2.1) := b9.cell 1
          clear b5 b9 hb5 bl5 t4 B9 HB3 BL3 T3 hV11 hw4 m0 H0
          refine hK.out _ _ m4 (fun _ => ?_)
          clear hK KK
          try simp only [Act.put, List.getElem_toArray, List.getElem_cons_succ, List.getElem_cons_zero, List.setIfInBounds_toArray, List.set_cons_zero, List.set_cons_succ]
          refine wpAnyH_ready (rs := [4]) (by kernel_rfl) (by simp) ?_
          refine AllReadyH.cons rfl (fun KK hK => ?_) AllReadyH.nil
          refine step_call rfl 36 #[.tmp 88, .tmp 90] #[57, 3] rfl #[.slice A5 2 (c - 5), .int .i64 q.2.1] (by simp [Act.eval]) (enters_of Tryd.func36 (by kernel_rfl) rfl) ?_
          refine (HOU.out A5 (c - 5) q.2.1 _ T4.out).mono ?_
          rintro r w5 ⟨q5, rfl, hq5, b4⟩
          have B5 := Lib.hid (E5.out.on b4)
          have C9 := Lib.hid (E9.out.on b4)
          have HB5 := Lib.hid (HE5.out.on b4)
          have BL5 := Lib.hid (BE5.out.trans (b4.mono BE5.out.size))
          have HQ5 := Lib.hid hq5
          have m5 : w5.cell? ⟨V9, 1, none⟩ = some (.int .i64 q.2.1) := C9.out.cell 1
          clear b4 hq5 hs5 m4
          refine ⟨_, rfl, hK.out _ _ m5 (fun _ => ?_)⟩
          clear hK KK
          simp only [Act.put, List.getElem_toArray, List.getElem_cons_succ, List.getElem_cons_zero, List.setIfInBounds_toArray, List.set_cons_zero, List.set_cons_succ]
          refine wpAnyH_take (i := 5) (v := .tuple #[.agg (ouC q5), .bool false]) rfl (by kernel_rfl) (by kernel_rfl) (by kernel_rfl) (fun _ _ _ h => h) (.inl ⟨rfl, fun w hS => by go_simp⟩) m5 ?_
          simp only [Act.put, List.getElem_toArray, List.getElem_cons_succ, List.getElem_cons_zero, List.setIfInBounds_toArray, List.set_cons_zero, List.set_cons_succ]
          refine wpAnyH_take (i := 6) (v := .agg (ouC q5)) rfl (by kernel_rfl) (by kernel_rfl) (by kernel_rfl) (fun _ _ _ h => h) (.inl ⟨rfl, fun w hS => by go_simp⟩) m5 ?_
          simp only [Act.put, List.getElem_toArray, List.getElem_cons_succ, List.getElem_cons_zero, List.setIfInBounds_toArray, List.set_cons_zero, List.set_cons_succ]
          refine wpAnyH_take (i := 7) (v := .bool false) rfl (by kernel_rfl) (by kernel_rfl) (by kernel_rfl) (fun _ _ _ h => h) (.inl ⟨rfl, fun w hS => by go_simp⟩) m5 ?_
          simp only [Act.put, List.getElem_toArray, List.getElem_cons_succ, List.getElem_cons_zero, List.setIfInBounds_toArray, List.set_cons_zero, List.set_cons_succ]
          refine wpAnyH_ready (rs := [9]) (by kernel_rfl) (by simp) ?_
          refine AllReadyH.cons rfl (fun KK hK => ?_) AllReadyH.nil
          refine (if_pos (show Region.wanted _ _ = true by rfl)).mpr ?_
          refine wp_store_row 26 (.tmp 11) (.tmp 92) rfl V11 (ouC q5) rfl rfl 26 (ouC (0, 0, 0)) B5.out ou_size rfl (ou_one q5) ?_
          have b6 : Blk (w5.setRow V11 (ouC q5)) V11 26 (ouC q5) := setRow_heap _ _ _ _ _ _ B5.out
          have c6 : Blk (w5.setRow V11 (ouC q5)) V9 24 (inC q) := (setRow_other w5 V11 V9 _ (by omega)).trans C9.out
          have hb6 : Blk (w5.setRow V11 (ouC q5)) w.heap.size 40 (cmC zeroC) := (setRow_other w5 V11 w.heap.size _ (by omega)).trans HB5.out
          have bl6 : Below w.heap.size w (w5.setRow V11 (ouC q5)) := below_setRow BL5.out v0 _
          generalize w5.setRow V11 (ouC q5) = w6 at b6 c6 hb6 bl6 ⊢
          have B6 := Lib.hid b6
          have C6 := Lib.hid c6
          have HB6 := Lib.hid hb6
          have BL6 := Lib.hid bl6
          have m6 : w6.cell? ⟨V9, 1, none⟩ = some (.int .i64 q.2.1) := c6.cell 1
          clear b6 c6 hb6 bl6 B5 C9 HB5 BL5 m5
          refine hK.out _ _ m6 (fun _ => ?_)
          clear hK KK
          try simp only [Act.put, List.getElem_toArray, List.getElem_cons_succ, List.getElem_cons_zero, List.setIfInBounds_toArray, List.set_cons_zero, List.set_cons_succ]
          refine wpAnyH_take (i := 10) (v := .bool false) rfl (by kernel_rfl) (by kernel_rfl) (by kernel_rfl) (fun _ _ _ h => h) (.inl ⟨rfl, fun w hS => by go_simp⟩) m6 ?_
          simp only [Act.put, List.getElem_toArray, List.getElem_cons_succ, List.getElem_cons_zero, List.setIfInBounds_toArray, List.set_cons_zero, List.set_cons_succ]
          refine wpAnyH_done (by kernel_rfl) ?_ _
          go_wp2_with (refine wpList_store_row rfl 40 (.tmp 2) (.tmp 101) rfl w.heap.size (cmC zeroC) rfl rfl 40 (cmC zeroC) HB6.out rcm_size rfl (cm_one _) ?_)
          refine rcparse_ret (w := w) (q := zeroC) (z := 13) rfl rfl rfl (setRow_heap _ _ _ _ _ _ HB6.out) ⟨by rw [HR.out], below_setRow BL6.out (Nat.le_refl _) _⟩
      · have HR := Lib.hid (show parseO s = (zeroC, 13) from HV2.out)
        clear HV2
        have HIN := Lib.hid (show ∀ A m W, TS W.heap.size W A 4 m [b, c', d, e] → Calls Tryd.prog 35 #[.slice A 4 m] W (InP W (none)) from HIN.out)
        have HOU := Lib.hid (show ∀ A m p W, TS W.heap.size W A 2 m [f, k] → Calls Tryd.prog 36 #[.slice A 2 m, .int .i64 p] W (OuP W p (some y)) from HOU.out)
        go_enter Tryd.func16, Tryd.ntmps16
        go_upto_region 16 with (first
          | (go_at_call 34; refine HW.out.mono ?_; rintro e w1 ⟨g, c, rfl, hc1, hc2, tr, b1⟩; have HB := Lib.hid ((Blk.new w 40 (cmC zeroC)).on b1); have BL := Lib.hid (BL0.out.trans (b1.mono (by omega))); have x0 := tr.cell (k := 0) rfl; simp only [Nat.add_zero] at x0; obtain ⟨A', hsl, htl⟩ := TS.mid (B := w1.heap.size) (A := some ⟨g, 0, none⟩) hc1 (by omega); obtain ⟨A5, hs5, ht5⟩ := TS.tail (B := w1.heap.size) (A := some ⟨g, 0, none⟩) hc1 5 (by omega); have hs5 : ∀ w' : World, (Instr.slice 57 (.slice (some ⟨g, 0, none⟩) 7 c) (some (.int .i64 5)) none none).run Tryd.prog w' = .ok (.slice A5 2 (c - 5)) w' := hs5; have HTS := Lib.hid (htl _ _ (TS.of tr tr.1 hc1 hc2)); have HT5 := Lib.hid (ht5 _ _ (TS.of tr tr.1 hc1 hc2)); clear htl ht5; clear tr b1 hc1 hc2)
          | (go_at_call 35; refine (HIN.out _ _ _ HTS.out).mono ?_; rintro e' w2 ⟨q, rfl, hq2, b2⟩; have HQ := Lib.hid hq2; have HB2 := Lib.hid (HB.out.on b2); have BL2 := Lib.hid (BL.out.trans (b2.mono BL.out.size)); have hsz12 : w1.heap.size ≤ w2.heap.size := b2.size; have HT6 := Lib.hid (HT5.out.kept b2); clear HB BL hq2; clear b2; unfold inC))
        have b9 : Blk (w2.alloc (.cells (inC q) 24)) w2.heap.size 24 (inC q) := Blk.new _ _ _
        have hb3 := HB2.out.alloc (.cells (inC q) 24)
        have bl3 := BL2.out.alloc BL2.out.size (.cells (inC q) 24)
        have t3 := (HT6.out.kept ((Below.refl w1.heap.size w2).alloc (o := .cells (inC q) 24) hsz12)).in_
        obtain ⟨V9, hV9⟩ : ∃ V9, w2.heap.size = V9 := ⟨_, rfl⟩
        rw [hV9] at b9 ⊢
        unfold inC at b9 hb3 bl3 t3
        generalize (w2.alloc (.cells _ 24)) = w3 at b9 hb3 bl3 t3 ⊢
        have B9 := Lib.hid b9
        have HB3 := Lib.hid hb3
        have BL3 := Lib.hid bl3
        have T3 := Lib.hid t3
        have m0 : w3.cell? ⟨V9, 1, none⟩ = some (.int .i64 q.2.1) := b9.cell 1
        clear b9 hb3 bl3 t3 HT6 HB2 BL2 hV9 HW hsl HTS HT5
        refine wp_region_held_drew (S := fun W' : World => W'.cell? ⟨V9, 1, none⟩ = some (.int .i64 q.2.1)) (by kernel_rfl) m0 (fun H0 => ?_)
        refine wpAnyH_take (i := 0) (v := .slice (some ⟨g, 0, none⟩) 7 c) rfl (by kernel_rfl) (by kernel_rfl) (by kernel_rfl) (fun _ _ _ h => h) (.inl ⟨rfl, fun w hS => by go_simp⟩) H0 ?_
        simp only [Act.put, List.getElem_toArray, List.getElem_cons_zero, List.setIfInBounds_toArray, List.set_cons_zero, List.set_cons_succ]
        refine wpAnyH_take (i := 1) (v := .slice A5 2 (c - 5)) rfl (by kernel_rfl) (by kernel_rfl) (by kernel_rfl) (fun _ _ _ h => h) (.inl ⟨rfl, fun w hS => by go_simp⟩) H0 ?_
        simp only [Act.put, List.getElem_toArray, List.getElem_cons_succ, List.getElem_cons_zero, List.setIfInBounds_toArray, List.set_cons_zero, List.set_cons_succ]
        refine wpAnyH_take (i := 2) (v := .pointer (some ⟨V9, 1, none⟩)) rfl (by kernel_rfl) (by kernel_rfl) (by kernel_rfl) (fun _ _ _ h => h) (.inl ⟨rfl, fun w hS => by go_simp⟩) H0 ?_
        simp only [Act.put, List.getElem_toArray, List.getElem_cons_succ, List.getElem_cons_zero, List.setIfInBounds_toArray, List.set_cons_zero, List.set_cons_succ]
        refine wpAnyH_take (i := 3) (v := .int .i64 q.2.1) rfl (by kernel_rfl) (by kernel_rfl) (by kernel_rfl) (fun _ _ _ h => h) (.inl ⟨rfl, fun w hS => by go_simp⟩) H0 ?_
        simp only [Act.put, List.getElem_toArray, List.getElem_cons_succ, List.getElem_cons_zero, List.setIfInBounds_toArray, List.set_cons_zero, List.set_cons_succ]
        refine wpAnyH_ready (rs := [4, 8]) (by kernel_rfl) (by simp) ?_
        refine AllReadyH.cons rfl (fun KK hK => ?_) (AllReadyH.cons rfl (fun KK hK => ?_) AllReadyH.nil)
        · refine step_call rfl 36 #[.tmp 88, .tmp 90] #[57, 3] rfl #[.slice A5 2 (c - 5), .int .i64 q.2.1] (by simp [Act.eval]) (enters_of Tryd.func36 (by kernel_rfl) rfl) ?_
          refine (HOU.out A5 (c - 5) q.2.1 w3.drew T3.out).mono ?_
          rintro r w4 ⟨q5, rfl, hq5, b4⟩
          have b4 : Below w3.heap.size w3 w4 := ⟨b4.os, b4.tape, b4.output, b4.size, b4.block⟩
          have B4 := Lib.hid (B9.out.on b4)
          have HB4 := Lib.hid (HB3.out.on b4)
          have BL4 := Lib.hid (BL3.out.trans (b4.mono BL3.out.size))
          have HQ5 := Lib.hid hq5
          have m4 : w4.cell? ⟨V9, 1, none⟩ = some (.int .i64 q.2.1) := B4.out.cell 1
          clear b4 hq5 hs5 B9 HB3 BL3 T3 m0 H0
          refine ⟨_, rfl, hK.out _ _ m4 (fun _ => ?_)⟩
          clear hK KK
          simp only [Act.put, List.getElem_toArray, List.getElem_cons_succ, List.getElem_cons_zero, List.setIfInBounds_toArray, List.set_cons_zero, List.set_cons_succ]
          refine wpAnyH_take (i := 5) (v := .tuple #[.agg (ouC q5), .bool true]) rfl (by kernel_rfl) (by kernel_rfl) (by kernel_rfl) (fun _ _ _ h => h) (.inl ⟨rfl, fun w hS => by go_simp⟩) m4 ?_
          simp only [Act.put, List.getElem_toArray, List.getElem_cons_succ, List.getElem_cons_zero, List.setIfInBounds_toArray, List.set_cons_zero, List.set_cons_succ]
          refine wpAnyH_take (i := 6) (v := .agg (ouC q5)) rfl (by kernel_rfl) (by kernel_rfl) (by kernel_rfl) (fun _ _ _ h => h) (.inl ⟨rfl, fun w hS => by go_simp⟩) m4 ?_
          simp only [Act.put, List.getElem_toArray, List.getElem_cons_succ, List.getElem_cons_zero, List.setIfInBounds_toArray, List.set_cons_zero, List.set_cons_succ]
          refine wpAnyH_take (i := 7) (v := .bool true) rfl (by kernel_rfl) (by kernel_rfl) (by kernel_rfl) (fun _ _ _ h => h) (.inl ⟨rfl, fun w hS => by go_simp⟩) m4 ?_
          simp only [Act.put, List.getElem_toArray, List.getElem_cons_succ, List.getElem_cons_zero, List.setIfInBounds_toArray, List.set_cons_zero, List.set_cons_succ]
          refine wpAnyH_ready (rs := [8]) (by kernel_rfl) (by simp) ?_
          refine AllReadyH.cons rfl (fun KK hK => ?_) AllReadyH.nil
          go_simp
          have b5 : Blk (w4.alloc (.cells (ouC (0, 0, 0)) 26)) w4.heap.size 26 (ouC (0, 0, 0)) := Blk.new _ _ _
          have b9 := (show Blk w4 V9 _ _ from B4.out).alloc (.cells (ouC (0, 0, 0)) 26)
          have hb5 := (show Blk w4 w.heap.size _ _ from HB4.out).alloc (.cells (ouC (0, 0, 0)) 26)
          have bl5 := (BL4.out).alloc BL4.out.size (.cells (ouC (0, 0, 0)) 26)
          have v9 := B4.out.lt
          have v0 := BL4.out.size
          have v2 := HB4.out.lt
          obtain ⟨V11, hV11⟩ : ∃ V11, w4.heap.size = V11 := ⟨_, rfl⟩
          rw [hV11] at b5 v9 v0 v2 ⊢
          unfold ouC at b5 b9 hb5 bl5
          generalize (w4.alloc (.cells _ 26)) = w5 at b5 b9 hb5 bl5 ⊢
          have B5 := Lib.hid b5
          have C9 := Lib.hid b9
          have HB5 := Lib.hid hb5
          have BL5 := Lib.hid bl5
          have m5 : w5.cell? ⟨V9, 1, none⟩ = some (.int .i64 q.2.1) := b9.cell 1
          clear b5 b9 hb5 bl5 B4 HB4 BL4 m4 hV11
          refine hK.out _ _ m5 (fun _ => ?_)
          clear hK KK
          try simp only [Act.put, List.getElem_toArray, List.getElem_cons_succ, List.getElem_cons_zero, List.setIfInBounds_toArray, List.set_cons_zero, List.set_cons_succ]
          refine wpAnyH_ready (rs := [9]) (by kernel_rfl) (by simp) ?_
          refine AllReadyH.cons rfl (fun KK hK => ?_) AllReadyH.nil
          refine (if_pos (show Region.wanted _ _ = true by rfl)).mpr ?_
          refine wp_store_row 26 (.tmp 11) (.tmp 92) rfl V11 (ouC q5) rfl rfl 26 (ouC (0, 0, 0)) B5.out ou_size rfl (ou_one q5) ?_
          have b6 : Blk (w5.setRow V11 (ouC q5)) V11 26 (ouC q5) := setRow_heap _ _ _ _ _ _ B5.out
          have c6 : Blk (w5.setRow V11 (ouC q5)) V9 24 (inC q) := (setRow_other w5 V11 V9 _ (by omega)).trans C9.out
          have hb6 : Blk (w5.setRow V11 (ouC q5)) w.heap.size 40 (cmC zeroC) := (setRow_other w5 V11 w.heap.size _ (by omega)).trans HB5.out
          have bl6 : Below w.heap.size w (w5.setRow V11 (ouC q5)) := below_setRow BL5.out v0 _
          generalize w5.setRow V11 (ouC q5) = w6 at b6 c6 hb6 bl6 ⊢
          have B6 := Lib.hid b6
          have C6 := Lib.hid c6
          have HB6 := Lib.hid hb6
          have BL6 := Lib.hid bl6
          have m6 : w6.cell? ⟨V9, 1, none⟩ = some (.int .i64 q.2.1) := c6.cell 1
          clear b6 c6 hb6 bl6 B5 C9 HB5 BL5 m5
          refine hK.out _ _ m6 (fun _ => ?_)
          clear hK KK
          try simp only [Act.put, List.getElem_toArray, List.getElem_cons_succ, List.getElem_cons_zero, List.setIfInBounds_toArray, List.set_cons_zero, List.set_cons_succ]
          refine wpAnyH_take (i := 10) (v := .bool true) rfl (by kernel_rfl) (by kernel_rfl) (by kernel_rfl) (fun _ _ _ h => h) (.inl ⟨rfl, fun w hS => by go_simp⟩) m6 ?_
          simp only [Act.put, List.getElem_toArray, List.getElem_cons_succ, List.getElem_cons_zero, List.setIfInBounds_toArray, List.set_cons_zero, List.set_cons_succ]
          refine wpAnyH_done (by kernel_rfl) ?_ _
          go_wp2_with (refine wpList_store_row rfl 40 (.tmp 2) (.tmp 101) rfl w.heap.size (cmC zeroC) rfl rfl 40 (cmC zeroC) HB6.out rcm_size rfl (cm_one _) ?_)
          refine rcparse_ret (w := w) (q := zeroC) (z := 13) rfl rfl rfl (setRow_heap _ _ _ _ _ _ HB6.out) ⟨by rw [HR.out], below_setRow BL6.out (Nat.le_refl _) _⟩
        · go_simp
          have b5 : Blk (w3.alloc (.cells (ouC (0, 0, 0)) 26)) w3.heap.size 26 (ouC (0, 0, 0)) := Blk.new _ _ _
          have b9 := (show Blk w3 V9 _ _ from B9.out).alloc (.cells (ouC (0, 0, 0)) 26)
          have hb5 := (show Blk w3 w.heap.size _ _ from HB3.out).alloc (.cells (ouC (0, 0, 0)) 26)
          have bl5 := (BL3.out).alloc BL3.out.size (.cells (ouC (0, 0, 0)) 26)
          have v9 := B9.out.lt
          have v0 := BL3.out.size
          have v2 := HB3.out.lt
          have t4 := (T3.out.kept (w' := w3.alloc (.cells (ouC (0, 0, 0)) 26)) ((Below.refl w3.heap.size w3).alloc (o := (.cells (ouC (0, 0, 0)) 26)) (Nat.le_refl _))).in_
          obtain ⟨V11, hV11⟩ : ∃ V11, w3.heap.size = V11 := ⟨_, rfl⟩
          rw [hV11] at b5 v9 v0 v2 ⊢
          obtain ⟨w4, hw4⟩ : ∃ w4, (w3.alloc (.cells (ouC (0, 0, 0)) 26)).drew = w4 := ⟨_, rfl⟩
          have b5 : Blk w4 V11 26 (ouC (0, 0, 0)) := by rw [← hw4]; exact b5
          have b9 : Blk w4 V9 24 (inC q) := by rw [← hw4]; exact b9
          have hb5 : Blk w4 w.heap.size 40 (cmC zeroC) := by rw [← hw4]; exact hb5
          have bl5 : Below w.heap.size w w4 := by rw [← hw4]; exact bl5.drew
          have t4 : TS w4.heap.size w4 A5 2 (c - 5) [f, k] := by rw [← hw4]; exact t4
          unfold ouC at hw4 b5
          rw [hw4]
          have E5 := Lib.hid b5
          have E9 := Lib.hid b9
          have HE5 := Lib.hid hb5
          have BE5 := Lib.hid bl5
          have T4 := Lib.hid t4
          have m4 : w4.cell? ⟨V9, 1, none⟩ = some (.int .i64 q.2.1) := b9.cell 1
          clear b5 b9 hb5 bl5 t4 B9 HB3 BL3 T3 hV11 hw4 m0 H0
          refine hK.out _ _ m4 (fun _ => ?_)
          clear hK KK
          try simp only [Act.put, List.getElem_toArray, List.getElem_cons_succ, List.getElem_cons_zero, List.setIfInBounds_toArray, List.set_cons_zero, List.set_cons_succ]
          refine wpAnyH_ready (rs := [4]) (by kernel_rfl) (by simp) ?_
          refine AllReadyH.cons rfl (fun KK hK => ?_) AllReadyH.nil
          refine step_call rfl 36 #[.tmp 88, .tmp 90] #[57, 3] rfl #[.slice A5 2 (c - 5), .int .i64 q.2.1] (by simp [Act.eval]) (enters_of Tryd.func36 (by kernel_rfl) rfl) ?_
          refine (HOU.out A5 (c - 5) q.2.1 _ T4.out).mono ?_
          rintro r w5 ⟨q5, rfl, hq5, b4⟩
          have B5 := Lib.hid (E5.out.on b4)
          have C9 := Lib.hid (E9.out.on b4)
          have HB5 := Lib.hid (HE5.out.on b4)
          have BL5 := Lib.hid (BE5.out.trans (b4.mono BE5.out.size))
          have HQ5 := Lib.hid hq5
          have m5 : w5.cell? ⟨V9, 1, none⟩ = some (.int .i64 q.2.1) := C9.out.cell 1
          clear b4 hq5 hs5 m4
          refine ⟨_, rfl, hK.out _ _ m5 (fun _ => ?_)⟩
          clear hK KK
          simp only [Act.put, List.getElem_toArray, List.getElem_cons_succ, List.getElem_cons_zero, List.setIfInBounds_toArray, List.set_cons_zero, List.set_cons_succ]
          refine wpAnyH_take (i := 5) (v := .tuple #[.agg (ouC q5), .bool true]) rfl (by kernel_rfl) (by kernel_rfl) (by kernel_rfl) (fun _ _ _ h => h) (.inl ⟨rfl, fun w hS => by go_simp⟩) m5 ?_
          simp only [Act.put, List.getElem_toArray, List.getElem_cons_succ, List.getElem_cons_zero, List.setIfInBounds_toArray, List.set_cons_zero, List.set_cons_succ]
          refine wpAnyH_take (i := 6) (v := .agg (ouC q5)) rfl (by kernel_rfl) (by kernel_rfl) (by kernel_rfl) (fun _ _ _ h => h) (.inl ⟨rfl, fun w hS => by go_simp⟩) m5 ?_
          simp only [Act.put, List.getElem_toArray, List.getElem_cons_succ, List.getElem_cons_zero, List.setIfInBounds_toArray, List.set_cons_zero, List.set_cons_succ]
          refine wpAnyH_take (i := 7) (v := .bool true) rfl (by kernel_rfl) (by kernel_rfl) (by kernel_rfl) (fun _ _ _ h => h) (.inl ⟨rfl, fun w hS => by go_simp⟩) m5 ?_
          simp only [Act.put, List.getElem_toArray, List.getElem_cons_succ, List.getElem_cons_zero, List.setIfInBounds_toArray, List.set_cons_zero, List.set_cons_succ]
          refine wpAnyH_ready (rs := [9]) (by kernel_rfl) (by simp) ?_
          refine AllReadyH.cons rfl (fun KK hK => ?_) AllReadyH.nil
          refine (if_pos (show Region.wanted _ _ = true by rfl)).mpr ?_
          refine wp_store_row 26 (.tmp 11) (.tmp 92) rfl V11 (ouC q5) rfl rfl 26 (ouC (0, 0, 0)) B5.out ou_size rfl (ou_one q5) ?_
          have b6 : Blk (w5.setRow V11 (ouC q5)) V11 26 (ouC q5) := setRow_heap _ _ _ _ _ _ B5.out
          have c6 : Blk (w5.setRow V11 (ouC q5)) V9 24 (inC q) := (setRow_other w5 V11 V9 _ (by omega)).trans C9.out
          have hb6 : Blk (w5.setRow V11 (ouC q5)) w.heap.size 40 (cmC zeroC) := (setRow_other w5 V11 w.heap.size _ (by omega)).trans HB5.out
          have bl6 : Below w.heap.size w (w5.setRow V11 (ouC q5)) := below_setRow BL5.out v0 _
          generalize w5.setRow V11 (ouC q5) = w6 at b6 c6 hb6 bl6 ⊢
          have B6 := Lib.hid b6
          have C6 := Lib.hid c6
          have HB6 := Lib.hid hb6
          have BL6 := Lib.hid bl6
          have m6 : w6.cell? ⟨V9, 1, none⟩ = some (.int .i64 q.2.1) := c6.cell 1
          clear b6 c6 hb6 bl6 B5 C9 HB5 BL5 m5
          refine hK.out _ _ m6 (fun _ => ?_)
          clear hK KK
          try simp only [Act.put, List.getElem_toArray, List.getElem_cons_succ, List.getElem_cons_zero, List.setIfInBounds_toArray, List.set_cons_zero, List.set_cons_succ]
          refine wpAnyH_take (i := 10) (v := .bool true) rfl (by kernel_rfl) (by kernel_rfl) (by kernel_rfl) (fun _ _ _ h => h) (.inl ⟨rfl, fun w hS => by go_simp⟩) m6 ?_
          simp only [Act.put, List.getElem_toArray, List.getElem_cons_succ, List.getElem_cons_zero, List.setIfInBounds_toArray, List.set_cons_zero, List.set_cons_succ]
          refine wpAnyH_done (by kernel_rfl) ?_ _
          go_wp2_with (refine wpList_store_row rfl 40 (.tmp 2) (.tmp 101) rfl w.heap.size (cmC zeroC) rfl rfl 40 (cmC zeroC) HB6.out rcm_size rfl (cm_one _) ?_)
          refine rcparse_ret (w := w) (q := zeroC) (z := 13) rfl rfl rfl (setRow_heap _ _ _ _ _ _ HB6.out) ⟨by rw [HR.out], below_setRow BL6.out (Nat.le_refl _) _⟩
    · rcases O with _ | y
      · have HR := Lib.hid (show parseO s = (zeroC, 13) from HV2.out)
        clear HV2
        have HIN := Lib.hid (show ∀ A m W, TS W.heap.size W A 4 m [b, c', d, e] → Calls Tryd.prog 35 #[.slice A 4 m] W (InP W (some x)) from HIN.out)
        have HOU := Lib.hid (show ∀ A m p W, TS W.heap.size W A 2 m [f, k] → Calls Tryd.prog 36 #[.slice A 2 m, .int .i64 p] W (OuP W p (none)) from HOU.out)
        go_enter Tryd.func16, Tryd.ntmps16
        go_upto_region 16 with (first
          | (go_at_call 34; refine HW.out.mono ?_; rintro e w1 ⟨g, c, rfl, hc1, hc2, tr, b1⟩; have HB := Lib.hid ((Blk.new w 40 (cmC zeroC)).on b1); have BL := Lib.hid (BL0.out.trans (b1.mono (by omega))); have x0 := tr.cell (k := 0) rfl; simp only [Nat.add_zero] at x0; obtain ⟨A', hsl, htl⟩ := TS.mid (B := w1.heap.size) (A := some ⟨g, 0, none⟩) hc1 (by omega); obtain ⟨A5, hs5, ht5⟩ := TS.tail (B := w1.heap.size) (A := some ⟨g, 0, none⟩) hc1 5 (by omega); have hs5 : ∀ w' : World, (Instr.slice 57 (.slice (some ⟨g, 0, none⟩) 7 c) (some (.int .i64 5)) none none).run Tryd.prog w' = .ok (.slice A5 2 (c - 5)) w' := hs5; have HTS := Lib.hid (htl _ _ (TS.of tr tr.1 hc1 hc2)); have HT5 := Lib.hid (ht5 _ _ (TS.of tr tr.1 hc1 hc2)); clear htl ht5; clear tr b1 hc1 hc2)
          | (go_at_call 35; refine (HIN.out _ _ _ HTS.out).mono ?_; rintro e' w2 ⟨q, rfl, hq2, b2⟩; have HQ := Lib.hid hq2; have HB2 := Lib.hid (HB.out.on b2); have BL2 := Lib.hid (BL.out.trans (b2.mono BL.out.size)); have hsz12 : w1.heap.size ≤ w2.heap.size := b2.size; have HT6 := Lib.hid (HT5.out.kept b2); clear HB BL hq2; clear b2; unfold inC))
        have b9 : Blk (w2.alloc (.cells (inC q) 24)) w2.heap.size 24 (inC q) := Blk.new _ _ _
        have hb3 := HB2.out.alloc (.cells (inC q) 24)
        have bl3 := BL2.out.alloc BL2.out.size (.cells (inC q) 24)
        have t3 := (HT6.out.kept ((Below.refl w1.heap.size w2).alloc (o := .cells (inC q) 24) hsz12)).in_
        obtain ⟨V9, hV9⟩ : ∃ V9, w2.heap.size = V9 := ⟨_, rfl⟩
        rw [hV9] at b9 ⊢
        unfold inC at b9 hb3 bl3 t3
        generalize (w2.alloc (.cells _ 24)) = w3 at b9 hb3 bl3 t3 ⊢
        have B9 := Lib.hid b9
        have HB3 := Lib.hid hb3
        have BL3 := Lib.hid bl3
        have T3 := Lib.hid t3
        have m0 : w3.cell? ⟨V9, 1, none⟩ = some (.int .i64 q.2.1) := b9.cell 1
        clear b9 hb3 bl3 t3 HT6 HB2 BL2 hV9 HW hsl HTS HT5
        refine wp_region_held_drew (S := fun W' : World => W'.cell? ⟨V9, 1, none⟩ = some (.int .i64 q.2.1)) (by kernel_rfl) m0 (fun H0 => ?_)
        refine wpAnyH_take (i := 0) (v := .slice (some ⟨g, 0, none⟩) 7 c) rfl (by kernel_rfl) (by kernel_rfl) (by kernel_rfl) (fun _ _ _ h => h) (.inl ⟨rfl, fun w hS => by go_simp⟩) H0 ?_
        simp only [Act.put, List.getElem_toArray, List.getElem_cons_zero, List.setIfInBounds_toArray, List.set_cons_zero, List.set_cons_succ]
        refine wpAnyH_take (i := 1) (v := .slice A5 2 (c - 5)) rfl (by kernel_rfl) (by kernel_rfl) (by kernel_rfl) (fun _ _ _ h => h) (.inl ⟨rfl, fun w hS => by go_simp⟩) H0 ?_
        simp only [Act.put, List.getElem_toArray, List.getElem_cons_succ, List.getElem_cons_zero, List.setIfInBounds_toArray, List.set_cons_zero, List.set_cons_succ]
        refine wpAnyH_take (i := 2) (v := .pointer (some ⟨V9, 1, none⟩)) rfl (by kernel_rfl) (by kernel_rfl) (by kernel_rfl) (fun _ _ _ h => h) (.inl ⟨rfl, fun w hS => by go_simp⟩) H0 ?_
        simp only [Act.put, List.getElem_toArray, List.getElem_cons_succ, List.getElem_cons_zero, List.setIfInBounds_toArray, List.set_cons_zero, List.set_cons_succ]
        refine wpAnyH_take (i := 3) (v := .int .i64 q.2.1) rfl (by kernel_rfl) (by kernel_rfl) (by kernel_rfl) (fun _ _ _ h => h) (.inl ⟨rfl, fun w hS => by go_simp⟩) H0 ?_
        simp only [Act.put, List.getElem_toArray, List.getElem_cons_succ, List.getElem_cons_zero, List.setIfInBounds_toArray, List.set_cons_zero, List.set_cons_succ]
        refine wpAnyH_ready (rs := [4, 8]) (by kernel_rfl) (by simp) ?_
        refine AllReadyH.cons rfl (fun KK hK => ?_) (AllReadyH.cons rfl (fun KK hK => ?_) AllReadyH.nil)
        · refine step_call rfl 36 #[.tmp 88, .tmp 90] #[57, 3] rfl #[.slice A5 2 (c - 5), .int .i64 q.2.1] (by simp [Act.eval]) (enters_of Tryd.func36 (by kernel_rfl) rfl) ?_
          refine (HOU.out A5 (c - 5) q.2.1 w3.drew T3.out).mono ?_
          rintro r w4 ⟨q5, rfl, hq5, b4⟩
          have b4 : Below w3.heap.size w3 w4 := ⟨b4.os, b4.tape, b4.output, b4.size, b4.block⟩
          have B4 := Lib.hid (B9.out.on b4)
          have HB4 := Lib.hid (HB3.out.on b4)
          have BL4 := Lib.hid (BL3.out.trans (b4.mono BL3.out.size))
          have HQ5 := Lib.hid hq5
          have m4 : w4.cell? ⟨V9, 1, none⟩ = some (.int .i64 q.2.1) := B4.out.cell 1
          clear b4 hq5 hs5 B9 HB3 BL3 T3 m0 H0
          refine ⟨_, rfl, hK.out _ _ m4 (fun _ => ?_)⟩
          clear hK KK
          simp only [Act.put, List.getElem_toArray, List.getElem_cons_succ, List.getElem_cons_zero, List.setIfInBounds_toArray, List.set_cons_zero, List.set_cons_succ]
          refine wpAnyH_take (i := 5) (v := .tuple #[.agg (ouC q5), .bool false]) rfl (by kernel_rfl) (by kernel_rfl) (by kernel_rfl) (fun _ _ _ h => h) (.inl ⟨rfl, fun w hS => by go_simp⟩) m4 ?_
          simp only [Act.put, List.getElem_toArray, List.getElem_cons_succ, List.getElem_cons_zero, List.setIfInBounds_toArray, List.set_cons_zero, List.set_cons_succ]
          refine wpAnyH_take (i := 6) (v := .agg (ouC q5)) rfl (by kernel_rfl) (by kernel_rfl) (by kernel_rfl) (fun _ _ _ h => h) (.inl ⟨rfl, fun w hS => by go_simp⟩) m4 ?_
          simp only [Act.put, List.getElem_toArray, List.getElem_cons_succ, List.getElem_cons_zero, List.setIfInBounds_toArray, List.set_cons_zero, List.set_cons_succ]
          refine wpAnyH_take (i := 7) (v := .bool false) rfl (by kernel_rfl) (by kernel_rfl) (by kernel_rfl) (fun _ _ _ h => h) (.inl ⟨rfl, fun w hS => by go_simp⟩) m4 ?_
          simp only [Act.put, List.getElem_toArray, List.getElem_cons_succ, List.getElem_cons_zero, List.setIfInBounds_toArray, List.set_cons_zero, List.set_cons_succ]
          refine wpAnyH_ready (rs := [8]) (by kernel_rfl) (by simp) ?_
          refine AllReadyH.cons rfl (fun KK hK => ?_) AllReadyH.nil
          go_simp
          have b5 : Blk (w4.alloc (.cells (ouC (0, 0, 0)) 26)) w4.heap.size 26 (ouC (0, 0, 0)) := Blk.new _ _ _
          have b9 := (show Blk w4 V9 _ _ from B4.out).alloc (.cells (ouC (0, 0, 0)) 26)
          have hb5 := (show Blk w4 w.heap.size _ _ from HB4.out).alloc (.cells (ouC (0, 0, 0)) 26)
          have bl5 := (BL4.out).alloc BL4.out.size (.cells (ouC (0, 0, 0)) 26)
          have v9 := B4.out.lt
          have v0 := BL4.out.size
          have v2 := HB4.out.lt
          obtain ⟨V11, hV11⟩ : ∃ V11, w4.heap.size = V11 := ⟨_, rfl⟩
          rw [hV11] at b5 v9 v0 v2 ⊢
          unfold ouC at b5 b9 hb5 bl5
          generalize (w4.alloc (.cells _ 26)) = w5 at b5 b9 hb5 bl5 ⊢
          have B5 := Lib.hid b5
          have C9 := Lib.hid b9
          have HB5 := Lib.hid hb5
          have BL5 := Lib.hid bl5
          have m5 : w5.cell? ⟨V9, 1, none⟩ = some (.int .i64 q.2.1) := b9.cell 1
          clear b5 b9 hb5 bl5 B4 HB4 BL4 m4 hV11
          refine hK.out _ _ m5 (fun _ => ?_)
          clear hK KK
          try simp only [Act.put, List.getElem_toArray, List.getElem_cons_succ, List.getElem_cons_zero, List.setIfInBounds_toArray, List.set_cons_zero, List.set_cons_succ]
          refine wpAnyH_ready (rs := [9]) (by kernel_rfl) (by simp) ?_
          refine AllReadyH.cons rfl (fun KK hK => ?_) AllReadyH.nil
          refine (if_pos (show Region.wanted _ _ = true by rfl)).mpr ?_
          refine wp_store_row 26 (.tmp 11) (.tmp 92) rfl V11 (ouC q5) rfl rfl 26 (ouC (0, 0, 0)) B5.out ou_size rfl (ou_one q5) ?_
          have b6 : Blk (w5.setRow V11 (ouC q5)) V11 26 (ouC q5) := setRow_heap _ _ _ _ _ _ B5.out
          have c6 : Blk (w5.setRow V11 (ouC q5)) V9 24 (inC q) := (setRow_other w5 V11 V9 _ (by omega)).trans C9.out
          have hb6 : Blk (w5.setRow V11 (ouC q5)) w.heap.size 40 (cmC zeroC) := (setRow_other w5 V11 w.heap.size _ (by omega)).trans HB5.out
          have bl6 : Below w.heap.size w (w5.setRow V11 (ouC q5)) := below_setRow BL5.out v0 _
          generalize w5.setRow V11 (ouC q5) = w6 at b6 c6 hb6 bl6 ⊢
          have B6 := Lib.hid b6
          have C6 := Lib.hid c6
          have HB6 := Lib.hid hb6
          have BL6 := Lib.hid bl6
          have m6 : w6.cell? ⟨V9, 1, none⟩ = some (.int .i64 q.2.1) := c6.cell 1
          clear b6 c6 hb6 bl6 B5 C9 HB5 BL5 m5
          refine hK.out _ _ m6 (fun _ => ?_)
          clear hK KK
          try simp only [Act.put, List.getElem_toArray, List.getElem_cons_succ, List.getElem_cons_zero, List.setIfInBounds_toArray, List.set_cons_zero, List.set_cons_succ]
          refine wpAnyH_take (i := 10) (v := .bool false) rfl (by kernel_rfl) (by kernel_rfl) (by kernel_rfl) (fun _ _ _ h => h) (.inl ⟨rfl, fun w hS => by go_simp⟩) m6 ?_
          simp only [Act.put, List.getElem_toArray, List.getElem_cons_succ, List.getElem_cons_zero, List.setIfInBounds_toArray, List.set_cons_zero, List.set_cons_succ]
          refine wpAnyH_done (by kernel_rfl) ?_ _
          go_wp2_with (refine wpList_store_row rfl 40 (.tmp 2) (.tmp 101) rfl w.heap.size (cmC zeroC) rfl rfl 40 (cmC zeroC) HB6.out rcm_size rfl (cm_one _) ?_)
          refine rcparse_ret (w := w) (q := zeroC) (z := 13) rfl rfl rfl (setRow_heap _ _ _ _ _ _ HB6.out) ⟨by rw [HR.out], below_setRow BL6.out (Nat.le_refl _) _⟩
        · go_simp
          have b5 : Blk (w3.alloc (.cells (ouC (0, 0, 0)) 26)) w3.heap.size 26 (ouC (0, 0, 0)) := Blk.new _ _ _
          have b9 := (show Blk w3 V9 _ _ from B9.out).alloc (.cells (ouC (0, 0, 0)) 26)
          have hb5 := (show Blk w3 w.heap.size _ _ from HB3.out).alloc (.cells (ouC (0, 0, 0)) 26)
          have bl5 := (BL3.out).alloc BL3.out.size (.cells (ouC (0, 0, 0)) 26)
          have v9 := B9.out.lt
          have v0 := BL3.out.size
          have v2 := HB3.out.lt
          have t4 := (T3.out.kept (w' := w3.alloc (.cells (ouC (0, 0, 0)) 26)) ((Below.refl w3.heap.size w3).alloc (o := (.cells (ouC (0, 0, 0)) 26)) (Nat.le_refl _))).in_
          obtain ⟨V11, hV11⟩ : ∃ V11, w3.heap.size = V11 := ⟨_, rfl⟩
          rw [hV11] at b5 v9 v0 v2 ⊢
          obtain ⟨w4, hw4⟩ : ∃ w4, (w3.alloc (.cells (ouC (0, 0, 0)) 26)).drew = w4 := ⟨_, rfl⟩
          have b5 : Blk w4 V11 26 (ouC (0, 0, 0)) := by rw [← hw4]; exact b5
          have b9 : Blk w4 V9 24 (inC q) := by rw [← hw4]; exact b9
          have hb5 : Blk w4 w.heap.size 40 (cmC zeroC) := by rw [← hw4]; exact hb5
          have bl5 : Below w.heap.size w w4 := by rw [← hw4]; exact bl5.drew
          have t4 : TS w4.heap.size w4 A5 2 (c - 5) [f, k] := by rw [← hw4]; exact t4
          unfold ouC at hw4 b5
          rw [hw4]
          have E5 := Lib.hid b5
          have E9 := Lib.hid b9
          have HE5 := Lib.hid hb5
          have BE5 := Lib.hid bl5
          have T4 := Lib.hid t4
          have m4 : w4.cell? ⟨V9, 1, none⟩ = some (.int .i64 q.2.1) := b9.cell 1
          clear b5 b9 hb5 bl5 t4 B9 HB3 BL3 T3 hV11 hw4 m0 H0
          refine hK.out _ _ m4 (fun _ => ?_)
          clear hK KK
          try simp only [Act.put, List.getElem_toArray, List.getElem_cons_succ, List.getElem_cons_zero, List.setIfInBounds_toArray, List.set_cons_zero, List.set_cons_succ]
          refine wpAnyH_ready (rs := [4]) (by kernel_rfl) (by simp) ?_
          refine AllReadyH.cons rfl (fun KK hK => ?_) AllReadyH.nil
          refine step_call rfl 36 #[.tmp 88, .tmp 90] #[57, 3] rfl #[.slice A5 2 (c - 5), .int .i64 q.2.1] (by simp [Act.eval]) (enters_of Tryd.func36 (by kernel_rfl) rfl) ?_
          refine (HOU.out A5 (c - 5) q.2.1 _ T4.out).mono ?_
          rintro r w5 ⟨q5, rfl, hq5, b4⟩
          have B5 := Lib.hid (E5.out.on b4)
          have C9 := Lib.hid (E9.out.on b4)
          have HB5 := Lib.hid (HE5.out.on b4)
          have BL5 := Lib.hid (BE5.out.trans (b4.mono BE5.out.size))
          have HQ5 := Lib.hid hq5
          have m5 : w5.cell? ⟨V9, 1, none⟩ = some (.int .i64 q.2.1) := C9.out.cell 1
          clear b4 hq5 hs5 m4
          refine ⟨_, rfl, hK.out _ _ m5 (fun _ => ?_)⟩
          clear hK KK
          simp only [Act.put, List.getElem_toArray, List.getElem_cons_succ, List.getElem_cons_zero, List.setIfInBounds_toArray, List.set_cons_zero, List.set_cons_succ]
          refine wpAnyH_take (i := 5) (v := .tuple #[.agg (ouC q5), .bool false]) rfl (by kernel_rfl) (by kernel_rfl) (by kernel_rfl) (fun _ _ _ h => h) (.inl ⟨rfl, fun w hS => by go_simp⟩) m5 ?_
          simp only [Act.put, List.getElem_toArray, List.getElem_cons_succ, List.getElem_cons_zero, List.setIfInBounds_toArray, List.set_cons_zero, List.set_cons_succ]
          refine wpAnyH_take (i := 6) (v := .agg (ouC q5)) rfl (by kernel_rfl) (by kernel_rfl) (by kernel_rfl) (fun _ _ _ h => h) (.inl ⟨rfl, fun w hS => by go_simp⟩) m5 ?_
          simp only [Act.put, List.getElem_toArray, List.getElem_cons_succ, List.getElem_cons_zero, List.setIfInBounds_toArray, List.set_cons_zero, List.set_cons_succ]
          refine wpAnyH_take (i := 7) (v := .bool false) rfl (by kernel_rfl) (by kernel_rfl) (by kernel_rfl) (fun _ _ _ h => h) (.inl ⟨rfl, fun w hS => by go_simp⟩) m5 ?_
          simp only [Act.put, List.getElem_toArray, List.getElem_cons_succ, List.getElem_cons_zero, List.setIfInBounds_toArray, List.set_cons_zero, List.set_cons_succ]
          refine wpAnyH_ready (rs := [9]) (by kernel_rfl) (by simp) ?_
          refine AllReadyH.cons rfl (fun KK hK => ?_) AllReadyH.nil
          refine (if_pos (show Region.wanted _ _ = true by rfl)).mpr ?_
          refine wp_store_row 26 (.tmp 11) (.tmp 92) rfl V11 (ouC q5) rfl rfl 26 (ouC (0, 0, 0)) B5.out ou_size rfl (ou_one q5) ?_
          have b6 : Blk (w5.setRow V11 (ouC q5)) V11 26 (ouC q5) := setRow_heap _ _ _ _ _ _ B5.out
          have c6 : Blk (w5.setRow V11 (ouC q5)) V9 24 (inC q) := (setRow_other w5 V11 V9 _ (by omega)).trans C9.out
          have hb6 : Blk (w5.setRow V11 (ouC q5)) w.heap.size 40 (cmC zeroC) := (setRow_other w5 V11 w.heap.size _ (by omega)).trans HB5.out
          have bl6 : Below w.heap.size w (w5.setRow V11 (ouC q5)) := below_setRow BL5.out v0 _
          generalize w5.setRow V11 (ouC q5) = w6 at b6 c6 hb6 bl6 ⊢
          have B6 := Lib.hid b6
          have C6 := Lib.hid c6
          have HB6 := Lib.hid hb6
          have BL6 := Lib.hid bl6
          have m6 : w6.cell? ⟨V9, 1, none⟩ = some (.int .i64 q.2.1) := c6.cell 1
          clear b6 c6 hb6 bl6 B5 C9 HB5 BL5 m5
          refine hK.out _ _ m6 (fun _ => ?_)
          clear hK KK
          try simp only [Act.put, List.getElem_toArray, List.getElem_cons_succ, List.getElem_cons_zero, List.setIfInBounds_toArray, List.set_cons_zero, List.set_cons_succ]
          refine wpAnyH_take (i := 10) (v := .bool false) rfl (by kernel_rfl) (by kernel_rfl) (by kernel_rfl) (fun _ _ _ h => h) (.inl ⟨rfl, fun w hS => by go_simp⟩) m6 ?_
          simp only [Act.put, List.getElem_toArray, List.getElem_cons_succ, List.getElem_cons_zero, List.setIfInBounds_toArray, List.set_cons_zero, List.set_cons_succ]
          refine wpAnyH_done (by kernel_rfl) ?_ _
          go_wp2_with (refine wpList_store_row rfl 40 (.tmp 2) (.tmp 101) rfl w.heap.size (cmC zeroC) rfl rfl 40 (cmC zeroC) HB6.out rcm_size rfl (cm_one _) ?_)
          refine rcparse_ret (w := w) (q := zeroC) (z := 13) rfl rfl rfl (setRow_heap _ _ _ _ _ _ HB6.out) ⟨by rw [HR.out], below_setRow BL6.out (Nat.le_refl _) _⟩
      · have HR := Lib.hid (show parseO s = ((2, innerI x, (innerI x).2.1, (y.1 : Int), (y.2 : Int)), 0) from HV2.out)
        clear HV2
        have HIN := Lib.hid (show ∀ A m W, TS W.heap.size W A 4 m [b, c', d, e] → Calls Tryd.prog 35 #[.slice A 4 m] W (InP W (some x)) from HIN.out)
        have HOU := Lib.hid (show ∀ A m p W, TS W.heap.size W A 2 m [f, k] → Calls Tryd.prog 36 #[.slice A 2 m, .int .i64 p] W (OuP W p (some y)) from HOU.out)
        go_enter Tryd.func16, Tryd.ntmps16
        go_upto_region 16 with (first
          | (go_at_call 34; refine HW.out.mono ?_; rintro e w1 ⟨g, c, rfl, hc1, hc2, tr, b1⟩; have HB := Lib.hid ((Blk.new w 40 (cmC zeroC)).on b1); have BL := Lib.hid (BL0.out.trans (b1.mono (by omega))); have x0 := tr.cell (k := 0) rfl; simp only [Nat.add_zero] at x0; obtain ⟨A', hsl, htl⟩ := TS.mid (B := w1.heap.size) (A := some ⟨g, 0, none⟩) hc1 (by omega); obtain ⟨A5, hs5, ht5⟩ := TS.tail (B := w1.heap.size) (A := some ⟨g, 0, none⟩) hc1 5 (by omega); have hs5 : ∀ w' : World, (Instr.slice 57 (.slice (some ⟨g, 0, none⟩) 7 c) (some (.int .i64 5)) none none).run Tryd.prog w' = .ok (.slice A5 2 (c - 5)) w' := hs5; have HTS := Lib.hid (htl _ _ (TS.of tr tr.1 hc1 hc2)); have HT5 := Lib.hid (ht5 _ _ (TS.of tr tr.1 hc1 hc2)); clear htl ht5; clear tr b1 hc1 hc2)
          | (go_at_call 35; refine (HIN.out _ _ _ HTS.out).mono ?_; rintro e' w2 ⟨q, rfl, hq2, b2⟩; have HQ := Lib.hid hq2; have HB2 := Lib.hid (HB.out.on b2); have BL2 := Lib.hid (BL.out.trans (b2.mono BL.out.size)); have hsz12 : w1.heap.size ≤ w2.heap.size := b2.size; have HT6 := Lib.hid (HT5.out.kept b2); clear HB BL hq2; clear b2; unfold inC))
        have b9 : Blk (w2.alloc (.cells (inC q) 24)) w2.heap.size 24 (inC q) := Blk.new _ _ _
        have hb3 := HB2.out.alloc (.cells (inC q) 24)
        have bl3 := BL2.out.alloc BL2.out.size (.cells (inC q) 24)
        have t3 := (HT6.out.kept ((Below.refl w1.heap.size w2).alloc (o := .cells (inC q) 24) hsz12)).in_
        obtain ⟨V9, hV9⟩ : ∃ V9, w2.heap.size = V9 := ⟨_, rfl⟩
        rw [hV9] at b9 ⊢
        unfold inC at b9 hb3 bl3 t3
        generalize (w2.alloc (.cells _ 24)) = w3 at b9 hb3 bl3 t3 ⊢
        have B9 := Lib.hid b9
        have HB3 := Lib.hid hb3
        have BL3 := Lib.hid bl3
        have T3 := Lib.hid t3
        have m0 : w3.cell? ⟨V9, 1, none⟩ = some (.int .i64 q.2.1) := b9.cell 1
        clear b9 hb3 bl3 t3 HT6 HB2 BL2 hV9 HW hsl HTS HT5
        refine wp_region_held_drew (S := fun W' : World => W'.cell? ⟨V9, 1, none⟩ = some (.int .i64 q.2.1)) (by kernel_rfl) m0 (fun H0 => ?_)
        refine wpAnyH_take (i := 0) (v := .slice (some ⟨g, 0, none⟩) 7 c) rfl (by kernel_rfl) (by kernel_rfl) (by kernel_rfl) (fun _ _ _ h => h) (.inl ⟨rfl, fun w hS => by go_simp⟩) H0 ?_
        simp only [Act.put, List.getElem_toArray, List.getElem_cons_zero, List.setIfInBounds_toArray, List.set_cons_zero, List.set_cons_succ]
        refine wpAnyH_take (i := 1) (v := .slice A5 2 (c - 5)) rfl (by kernel_rfl) (by kernel_rfl) (by kernel_rfl) (fun _ _ _ h => h) (.inl ⟨rfl, fun w hS => by go_simp⟩) H0 ?_
        simp only [Act.put, List.getElem_toArray, List.getElem_cons_succ, List.getElem_cons_zero, List.setIfInBounds_toArray, List.set_cons_zero, List.set_cons_succ]
        refine wpAnyH_take (i := 2) (v := .pointer (some ⟨V9, 1, none⟩)) rfl (by kernel_rfl) (by kernel_rfl) (by kernel_rfl) (fun _ _ _ h => h) (.inl ⟨rfl, fun w hS => by go_simp⟩) H0 ?_
        simp only [Act.put, List.getElem_toArray, List.getElem_cons_succ, List.getElem_cons_zero, List.setIfInBounds_toArray, List.set_cons_zero, List.set_cons_succ]
        refine wpAnyH_take (i := 3) (v := .int .i64 q.2.1) rfl (by kernel_rfl) (by kernel_rfl) (by kernel_rfl) (fun _ _ _ h => h) (.inl ⟨rfl, fun w hS => by go_simp⟩) H0 ?_
        simp only [Act.put, List.getElem_toArray, List.getElem_cons_succ, List.getElem_cons_zero, List.setIfInBounds_toArray, List.set_cons_zero, List.set_cons_succ]
        refine wpAnyH_ready (rs := [4, 8]) (by kernel_rfl) (by simp) ?_
        refine AllReadyH.cons rfl (fun KK hK => ?_) (AllReadyH.cons rfl (fun KK hK => ?_) AllReadyH.nil)
        · refine step_call rfl 36 #[.tmp 88, .tmp 90] #[57, 3] rfl #[.slice A5 2 (c - 5), .int .i64 q.2.1] (by simp [Act.eval]) (enters_of Tryd.func36 (by kernel_rfl) rfl) ?_
          refine (HOU.out A5 (c - 5) q.2.1 w3.drew T3.out).mono ?_
          rintro r w4 ⟨q5, rfl, hq5, b4⟩
          have b4 : Below w3.heap.size w3 w4 := ⟨b4.os, b4.tape, b4.output, b4.size, b4.block⟩
          have B4 := Lib.hid (B9.out.on b4)
          have HB4 := Lib.hid (HB3.out.on b4)
          have BL4 := Lib.hid (BL3.out.trans (b4.mono BL3.out.size))
          have HQ5 := Lib.hid hq5
          have m4 : w4.cell? ⟨V9, 1, none⟩ = some (.int .i64 q.2.1) := B4.out.cell 1
          clear b4 hq5 hs5 B9 HB3 BL3 T3 m0 H0
          refine ⟨_, rfl, hK.out _ _ m4 (fun _ => ?_)⟩
          clear hK KK
          simp only [Act.put, List.getElem_toArray, List.getElem_cons_succ, List.getElem_cons_zero, List.setIfInBounds_toArray, List.set_cons_zero, List.set_cons_succ]
          refine wpAnyH_take (i := 5) (v := .tuple #[.agg (ouC q5), .bool true]) rfl (by kernel_rfl) (by kernel_rfl) (by kernel_rfl) (fun _ _ _ h => h) (.inl ⟨rfl, fun w hS => by go_simp⟩) m4 ?_
          simp only [Act.put, List.getElem_toArray, List.getElem_cons_succ, List.getElem_cons_zero, List.setIfInBounds_toArray, List.set_cons_zero, List.set_cons_succ]
          refine wpAnyH_take (i := 6) (v := .agg (ouC q5)) rfl (by kernel_rfl) (by kernel_rfl) (by kernel_rfl) (fun _ _ _ h => h) (.inl ⟨rfl, fun w hS => by go_simp⟩) m4 ?_
          simp only [Act.put, List.getElem_toArray, List.getElem_cons_succ, List.getElem_cons_zero, List.setIfInBounds_toArray, List.set_cons_zero, List.set_cons_succ]
          refine wpAnyH_take (i := 7) (v := .bool true) rfl (by kernel_rfl) (by kernel_rfl) (by kernel_rfl) (fun _ _ _ h => h) (.inl ⟨rfl, fun w hS => by go_simp⟩) m4 ?_
          simp only [Act.put, List.getElem_toArray, List.getElem_cons_succ, List.getElem_cons_zero, List.setIfInBounds_toArray, List.set_cons_zero, List.set_cons_succ]
          refine wpAnyH_ready (rs := [8]) (by kernel_rfl) (by simp) ?_
          refine AllReadyH.cons rfl (fun KK hK => ?_) AllReadyH.nil
          go_simp
          have b5 : Blk (w4.alloc (.cells (ouC (0, 0, 0)) 26)) w4.heap.size 26 (ouC (0, 0, 0)) := Blk.new _ _ _
          have b9 := (show Blk w4 V9 _ _ from B4.out).alloc (.cells (ouC (0, 0, 0)) 26)
          have hb5 := (show Blk w4 w.heap.size _ _ from HB4.out).alloc (.cells (ouC (0, 0, 0)) 26)
          have bl5 := (BL4.out).alloc BL4.out.size (.cells (ouC (0, 0, 0)) 26)
          have v9 := B4.out.lt
          have v0 := BL4.out.size
          have v2 := HB4.out.lt
          obtain ⟨V11, hV11⟩ : ∃ V11, w4.heap.size = V11 := ⟨_, rfl⟩
          rw [hV11] at b5 v9 v0 v2 ⊢
          unfold ouC at b5 b9 hb5 bl5
          generalize (w4.alloc (.cells _ 26)) = w5 at b5 b9 hb5 bl5 ⊢
          have B5 := Lib.hid b5
          have C9 := Lib.hid b9
          have HB5 := Lib.hid hb5
          have BL5 := Lib.hid bl5
          have m5 : w5.cell? ⟨V9, 1, none⟩ = some (.int .i64 q.2.1) := b9.cell 1
          clear b5 b9 hb5 bl5 B4 HB4 BL4 m4 hV11
          refine hK.out _ _ m5 (fun _ => ?_)
          clear hK KK
          try simp only [Act.put, List.getElem_toArray, List.getElem_cons_succ, List.getElem_cons_zero, List.setIfInBounds_toArray, List.set_cons_zero, List.set_cons_succ]
          refine wpAnyH_ready (rs := [9]) (by kernel_rfl) (by simp) ?_
          refine AllReadyH.cons rfl (fun KK hK => ?_) AllReadyH.nil
          refine (if_pos (show Region.wanted _ _ = true by rfl)).mpr ?_
          refine wp_store_row 26 (.tmp 11) (.tmp 92) rfl V11 (ouC q5) rfl rfl 26 (ouC (0, 0, 0)) B5.out ou_size rfl (ou_one q5) ?_
          have b6 : Blk (w5.setRow V11 (ouC q5)) V11 26 (ouC q5) := setRow_heap _ _ _ _ _ _ B5.out
          have c6 : Blk (w5.setRow V11 (ouC q5)) V9 24 (inC q) := (setRow_other w5 V11 V9 _ (by omega)).trans C9.out
          have hb6 : Blk (w5.setRow V11 (ouC q5)) w.heap.size 40 (cmC zeroC) := (setRow_other w5 V11 w.heap.size _ (by omega)).trans HB5.out
          have bl6 : Below w.heap.size w (w5.setRow V11 (ouC q5)) := below_setRow BL5.out v0 _
          generalize w5.setRow V11 (ouC q5) = w6 at b6 c6 hb6 bl6 ⊢
          have B6 := Lib.hid b6
          have C6 := Lib.hid c6
          have HB6 := Lib.hid hb6
          have BL6 := Lib.hid bl6
          have m6 : w6.cell? ⟨V9, 1, none⟩ = some (.int .i64 q.2.1) := c6.cell 1
          clear b6 c6 hb6 bl6 B5 C9 HB5 BL5 m5
          refine hK.out _ _ m6 (fun _ => ?_)
          clear hK KK
          try simp only [Act.put, List.getElem_toArray, List.getElem_cons_succ, List.getElem_cons_zero, List.setIfInBounds_toArray, List.set_cons_zero, List.set_cons_succ]
          refine wpAnyH_take (i := 10) (v := .bool true) rfl (by kernel_rfl) (by kernel_rfl) (by kernel_rfl) (fun _ _ _ h => h) (.inl ⟨rfl, fun w hS => by go_simp⟩) m6 ?_
          simp only [Act.put, List.getElem_toArray, List.getElem_cons_succ, List.getElem_cons_zero, List.setIfInBounds_toArray, List.set_cons_zero, List.set_cons_succ]
          refine wpAnyH_done (by kernel_rfl) ?_ _
          obtain rfl := HQ.out _ rfl
          obtain rfl := HQ5.out _ rfl
          go_upto_region 18 with fail
          apply wp_region_lit
          refine wpList_load_row rfl 24 (.tmp 9) rfl V9 rfl 24 (inC (innerI x)) (0, 0) _ C6.out Tryd.underlying24 rfl in_size ?_
          refine wpList_load_row rfl 26 (.tmp 11) rfl V11 rfl 26 (ouC ((innerI x).2.1, (y.1 : Int), (y.2 : Int))) (0, 0) _ B6.out Tryd.underlying26 rfl ou_size ?_
          unfold inC ouC
          go_wp2_with (refine wpList_store_row rfl 40 (.tmp 2) (.tmp 100) rfl w.heap.size (cmC (2, innerI x, (innerI x).2.1, (y.1 : Int), (y.2 : Int))) rfl rfl 40 (cmC zeroC) HB6.out rcm_size rfl (cm_one _) ?_)
          refine rcparse_ret (w := w) (q := (2, innerI x, (innerI x).2.1, (y.1 : Int), (y.2 : Int))) (z := 0) rfl rfl rfl (setRow_heap _ _ _ _ _ _ HB6.out) ⟨by rw [HR.out], below_setRow BL6.out (Nat.le_refl _) _⟩
        · go_simp
          have b5 : Blk (w3.alloc (.cells (ouC (0, 0, 0)) 26)) w3.heap.size 26 (ouC (0, 0, 0)) := Blk.new _ _ _
          have b9 := (show Blk w3 V9 _ _ from B9.out).alloc (.cells (ouC (0, 0, 0)) 26)
          have hb5 := (show Blk w3 w.heap.size _ _ from HB3.out).alloc (.cells (ouC (0, 0, 0)) 26)
          have bl5 := (BL3.out).alloc BL3.out.size (.cells (ouC (0, 0, 0)) 26)
          have v9 := B9.out.lt
          have v0 := BL3.out.size
          have v2 := HB3.out.lt
          have t4 := (T3.out.kept (w' := w3.alloc (.cells (ouC (0, 0, 0)) 26)) ((Below.refl w3.heap.size w3).alloc (o := (.cells (ouC (0, 0, 0)) 26)) (Nat.le_refl _))).in_
          obtain ⟨V11, hV11⟩ : ∃ V11, w3.heap.size = V11 := ⟨_, rfl⟩
          rw [hV11] at b5 v9 v0 v2 ⊢
          obtain ⟨w4, hw4⟩ : ∃ w4, (w3.alloc (.cells (ouC (0, 0, 0)) 26)).drew = w4 := ⟨_, rfl⟩
          have b5 : Blk w4 V11 26 (ouC (0, 0, 0)) := by rw [← hw4]; exact b5
          have b9 : Blk w4 V9 24 (inC q) := by rw [← hw4]; exact b9
          have hb5 : Blk w4 w.heap.size 40 (cmC zeroC) := by rw [← hw4]; exact hb5
          have bl5 : Below w.heap.size w w4 := by rw [← hw4]; exact bl5.drew
          have t4 : TS w4.heap.size w4 A5 2 (c - 5) [f, k] := by rw [← hw4]; exact t4
          unfold ouC at hw4 b5
          rw [hw4]
          have E5 := Lib.hid b5
          have E9 := Lib.hid b9
          have HE5 := Lib.hid hb5
          have BE5 := Lib.hid bl5
          have T4 := Lib.hid t4
          have m4 : w4.cell? ⟨V9, 1, none⟩ = some (.int .i64 q.2.1) := b9.cell 1
          clear b5 b9 hb5 bl5 t4 B9 HB3 BL3 T3 hV11 hw4 m0 H0
          refine hK.out _ _ m4 (fun _ => ?_)
          clear hK KK
          try simp only [Act.put, List.getElem_toArray, List.getElem_cons_succ, List.getElem_cons_zero, List.setIfInBounds_toArray, List.set_cons_zero, List.set_cons_succ]
          refine wpAnyH_ready (rs := [4]) (by kernel_rfl) (by simp) ?_
          refine AllReadyH.cons rfl (fun KK hK => ?_) AllReadyH.nil
          refine step_call rfl 36 #[.tmp 88, .tmp 90] #[57, 3] rfl #[.slice A5 2 (c - 5), .int .i64 q.2.1] (by simp [Act.eval]) (enters_of Tryd.func36 (by kernel_rfl) rfl) ?_
          refine (HOU.out A5 (c - 5) q.2.1 _ T4.out).mono ?_
          rintro r w5 ⟨q5, rfl, hq5, b4⟩
          have B5 := Lib.hid (E5.out.on b4)
          have C9 := Lib.hid (E9.out.on b4)
          have HB5 := Lib.hid (HE5.out.on b4)
          have BL5 := Lib.hid (BE5.out.trans (b4.mono BE5.out.size))
          have HQ5 := Lib.hid hq5
          have m5 : w5.cell? ⟨V9, 1, none⟩ = some (.int .i64 q.2.1) := C9.out.cell 1
          clear b4 hq5 hs5 m4
          refine ⟨_, rfl, hK.out _ _ m5 (fun _ => ?_)⟩
          clear hK KK
          simp only [Act.put, List.getElem_toArray, List.getElem_cons_succ, List.getElem_cons_zero, List.setIfInBounds_toArray, List.set_cons_zero, List.set_cons_succ]
          refine wpAnyH_take (i := 5) (v := .tuple #[.agg (ouC q5), .bool true]) rfl (by kernel_rfl) (by kernel_rfl) (by kernel_rfl) (fun _ _ _ h => h) (.inl ⟨rfl, fun w hS => by go_simp⟩) m5 ?_
          simp only [Act.put, List.getElem_toArray, List.getElem_cons_succ, List.getElem_cons_zero, List.setIfInBounds_toArray, List.set_cons_zero, List.set_cons_succ]
          refine wpAnyH_take (i := 6) (v := .agg (ouC q5)) rfl (by kernel_rfl) (by kernel_rfl) (by kernel_rfl) (fun _ _ _ h => h) (.inl ⟨rfl, fun w hS => by go_simp⟩) m5 ?_
          simp only [Act.put, List.getElem_toArray, List.getElem_cons_succ, List.getElem_cons_zero, List.setIfInBounds_toArray, List.set_cons_zero, List.set_cons_succ]
          refine wpAnyH_take (i := 7) (v := .bool true) rfl (by kernel_rfl) (by kernel_rfl) (by kernel_rfl) (fun _ _ _ h => h) (.inl ⟨rfl, fun w hS => by go_simp⟩) m5 ?_
          simp only [Act.put, List.getElem_toArray, List.getElem_cons_succ, List.getElem_cons_zero, List.setIfInBounds_toArray, List.set_cons_zero, List.set_cons_succ]
          refine wpAnyH_ready (rs := [9]) (by kernel_rfl) (by simp) ?_
          refine AllReadyH.cons rfl (fun KK hK => ?_) AllReadyH.nil
          refine (if_pos (show Region.wanted _ _ = true by rfl)).mpr ?_
          refine wp_store_row 26 (.tmp 11) (.tmp 92) rfl V11 (ouC q5) rfl rfl 26 (ouC (0, 0, 0)) B5.out ou_size rfl (ou_one q5) ?_
          have b6 : Blk (w5.setRow V11 (ouC q5)) V11 26 (ouC q5) := setRow_heap _ _ _ _ _ _ B5.out
          have c6 : Blk (w5.setRow V11 (ouC q5)) V9 24 (inC q) := (setRow_other w5 V11 V9 _ (by omega)).trans C9.out
          have hb6 : Blk (w5.setRow V11 (ouC q5)) w.heap.size 40 (cmC zeroC) := (setRow_other w5 V11 w.heap.size _ (by omega)).trans HB5.out
          have bl6 : Below w.heap.size w (w5.setRow V11 (ouC q5)) := below_setRow BL5.out v0 _
          generalize w5.setRow V11 (ouC q5) = w6 at b6 c6 hb6 bl6 ⊢
          have B6 := Lib.hid b6
          have C6 := Lib.hid c6
          have HB6 := Lib.hid hb6
          have BL6 := Lib.hid bl6
          have m6 : w6.cell? ⟨V9, 1, none⟩ = some (.int .i64 q.2.1) := c6.cell 1
          clear b6 c6 hb6 bl6 B5 C9 HB5 BL5 m5
          refine hK.out _ _ m6 (fun _ => ?_)
          clear hK KK
          try simp only [Act.put, List.getElem_toArray, List.getElem_cons_succ, List.getElem_cons_zero, List.setIfInBounds_toArray, List.set_cons_zero, List.set_cons_succ]
          refine wpAnyH_take (i := 10) (v := .bool true) rfl (by kernel_rfl) (by kernel_rfl) (by kernel_rfl) (fun _ _ _ h => h) (.inl ⟨rfl, fun w hS => by go_simp⟩) m6 ?_
          simp only [Act.put, List.getElem_toArray, List.getElem_cons_succ, List.getElem_cons_zero, List.setIfInBounds_toArray, List.set_cons_zero, List.set_cons_succ]
          refine wpAnyH_done (by kernel_rfl) ?_ _
          obtain rfl := HQ.out _ rfl
          obtain rfl := HQ5.out _ rfl
          go_upto_region 18 with fail
          apply wp_region_lit
          refine wpList_load_row rfl 24 (.tmp 9) rfl V9 rfl 24 (inC (innerI x)) (0, 0) _ C6.out Tryd.underlying24 rfl in_size ?_
          refine wpList_load_row rfl 26 (.tmp 11) rfl V11 rfl 26 (ouC ((innerI x).2.1, (y.1 : Int), (y.2 : Int))) (0, 0) _ B6.out Tryd.underlying26 rfl ou_size ?_
          unfold inC ouC
          go_wp2_with (refine wpList_store_row rfl 40 (.tmp 2) (.tmp 100) rfl w.heap.size (cmC (2, innerI x, (innerI x).2.1, (y.1 : Int), (y.2 : Int))) rfl rfl 40 (cmC zeroC) HB6.out rcm_size rfl (cm_one _) ?_)
          refine rcparse_ret (w := w) (q := (2, innerI x, (innerI x).2.1, (y.1 : Int), (y.2 : Int))) (z := 0) rfl rfl rfl (setRow_heap _ _ _ _ _ _ HB6.out) ⟨by rw [HR.out], below_setRow BL6.out (Nat.le_refl _) _⟩
  · have hq := strs_ne ha
    unfold wMap at hq
    have HA := Lib.hid ha
    clear ha
    have HR := Lib.hid (show parseO s = (zeroC, 13) by rw [HV.out]; unfold parseC; simp only; rw [if_neg HA.out])
    clear HV
    go_enter Tryd.func16, Tryd.ntmps16
    go_wp2_with (first
      | (go_at_call 34; refine HW.out.mono ?_; rintro e w1 ⟨g, c, rfl, hc1, hc2, tr, b1⟩; have HB := Lib.hid ((Blk.new w 40 (cmC zeroC)).on b1); have BL := Lib.hid (BL0.out.trans (b1.mono (by omega))); have x0 := tr.cell (k := 0) rfl; simp only [Nat.add_zero] at x0; clear tr b1 hc1 hc2)
      | (refine wpList_store_row rfl 40 (.tmp 2) (.tmp 101) rfl w.heap.size (cmC zeroC) rfl rfl 40 (cmC zeroC) HB.out rcm_size rfl (cm_one _) ?_))
    refine rcparse_ret (w := w) (q := zeroC) (z := 13) rfl rfl rfl (setRow_heap _ _ _ _ _ _ HB.out) ⟨by rw [HR.out], below_setRow BL.out (Nat.le_refl _) _⟩

theorem rcparse_any (s : List UInt8) (hs : s.length ≤ 1048576) (w : World) : Calls Tryd.prog 16 #[.string (bs s)] w fun e w' => e = .returned (parseOV s) ∧ Below w.heap.size w w' := by
  by_cases h200 : 200 < s.length
  · unfold parseOV
    have hsz : (bs s).size = s.length := rfl
    have HR := Lib.hid (show parseO s = (zeroC, 6) by unfold parseO; rw [if_pos h200])
    have hd : decide ((200 : Int) < (s.length : Int)) = true := by simp; omega
    go_enter Tryd.func16, Tryd.ntmps16
    go_wp2
    exact rcparse_ret (w := w) (q := zeroC) (z := 6) rfl rfl rfl (Blk.new _ _ _) ⟨by rw [HR.out], (Below.refl _ _).alloc (Nat.le_refl _) _⟩
  · by_cases h1 : (piecesB [] s).length = 1
    · obtain ⟨a, hl⟩ := List.length_eq_one_iff.1 h1
      exact rcparse_1 s a (by omega) hl w
    · by_cases h2 : (piecesB [] s).length = 2
      · rcases hl : piecesB [] s with _ | ⟨a, _ | ⟨b, _ | ⟨c, r⟩⟩⟩ <;> rw [hl] at h2 <;> simp at h2
        exact rcparse_2 s a b (by omega) hl w
      · by_cases h5 : (piecesB [] s).length = 5
        · rcases hl : piecesB [] s with _ | ⟨a, _ | ⟨b, _ | ⟨c, _ | ⟨d, _ | ⟨e, _ | ⟨f, r⟩⟩⟩⟩⟩⟩ <;> rw [hl] at h5 <;> simp at h5
          exact rcparse_5 s a b c d e (by omega) hl w
        · by_cases h7 : (piecesB [] s).length = 7
          · rcases hl : piecesB [] s with _ | ⟨a, _ | ⟨b, _ | ⟨c, _ | ⟨d, _ | ⟨e, _ | ⟨f, _ | ⟨g, _ | ⟨z, r⟩⟩⟩⟩⟩⟩⟩⟩ <;> rw [hl] at h7 <;> simp at h7
            exact rcparse_7 s a b c d e f g (by omega) hl w
          · exact rcparse_else s _ _ (by omega) rfl rfl h1 h2 h5 h7 w
end Go.Proofs.YtkbbkddepcjoaaaDoor
