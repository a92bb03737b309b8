/-
  report: Read, by the document. Printed by wip/gen/repF.py.
-/
import Derived.Test.YtkbbkddepcjoaaaDoorRepE
import Derived.Test.YtkbbkddepcjoaaaDoorCmdN
namespace Go.Proofs.YtkbbkddepcjoaaaDoor
open Go.RowKit Go.Great

theorem rread_ret {w W : World} {a : Act} {q : Bd} {z : Int} {R : Ending → World → Prop} (h2 : a.tmps[2]?.getD undef = .pointer (some ⟨w.heap.size, 0, none⟩)) (h3 : a.tmps[3]?.getD undef = .int .i64 z) (hd : a.defers = [])
    (hb : Blk W w.heap.size 28 (bdC q)) (hR : R (.returned (.tuple #[.agg (bdC q), .int .i64 z])) W) : bodyPost Tryd.prog Tryd.f12 R .ret a W := by
  refine bodyPost_ret (v := .tuple #[.agg (bdC q), .int .i64 z]) ?_ hd hR
  simp [results, Tryd.f12, asAddr, h2, h3, run_loadVar_row _ w.heap.size 28 28 (bdC q) (0, 0) _ hb Tryd.underlying28 rfl bd_size]
theorem in_one (q : Int × Int × Int × Int) : (inC q).all (·.oneCell') = true := by simp [inC, Value.oneCell']
theorem parseBd_main (a0 a1 a2 a3 a4 a5 a6 a7 : List UInt8) (st : Bool) (h0 : a0 = firstW st) (h5 : a5 = wAs) : parseBd [a0, a1, a2, a3, a4, a5, a6, a7] = (innerL a1 a2 a3 a4).bind fun q => (outerL a6 a7).map fun r => (innerI q, ((q.2.1 : Int), (r.1 : Int), (r.2 : Int)), st) := by
  have hst : decide (a0 = wStatic) = st := by subst h0; cases st <;> decide
  have hc : (a0 = wBound ∨ a0 = wStatic) ∧ a5 = wAs := ⟨by subst h0; cases st; exact .inl rfl; exact .inr rfl, h5⟩
  unfold parseBd
  simp only
  rw [if_pos hc, hst]
set_option linter.unusedSimpArgs false in
set_option maxRecDepth 100000 in
set_option maxHeartbeats 8000000 in
theorem rread_else (s : List UInt8) (M : List (List UInt8)) (N : Nat) (hs : s.length ≤ 200) (hl : piecesB [] s = M) (hN : M.length = N) (h8 : N ≠ 8) (w : World) : Calls Tryd.prog 12 #[.string (bs s)] w fun e w' => e = .returned (readOV s) ∧ Below w.heap.size w w' := by
  have hsz : (bs s).size = s.length := rfl
  unfold readOV
  have hd : decide ((200 : Int) < (s.length : Int)) = false := by simp; omega
  have hw := words_row M N s hl (hN) (by omega) (w.alloc (.cells (bdC zeroB) 28))
  have hsz0 : (w.alloc (.cells (bdC zeroB) 28)).heap.size = w.heap.size + 1 := by simp
  have BL0 := Lib.hid (show Below w.heap.size w (w.alloc (.cells (bdC zeroB) 28)) from (Below.refl _ _).alloc (Nat.le_refl _) _)
  have HW := Lib.hid hw
  clear hw
  have HR := Lib.hid (readO_none (s := s) (by omega) (by rw [hl]; exact parseBd_len (by rw [hN]; exact h8)))
  have n8 : ((N : Int) != 8) = true := by simp; omega
  clear hl hN
  go_enter Tryd.func12, Tryd.ntmps12
  go_wp2_with (first
    | (go_at_call 34; refine HW.out.mono ?_; rintro e w1 ⟨g, c, rfl, hc1, hc2, tr, b1⟩; have HB := Lib.hid ((Blk.new w 28 (bdC zeroB)).on b1); have BL := Lib.hid (BL0.out.trans (b1.mono (by omega))); skip; clear tr b1 hc1 hc2)
    | (refine wpList_store_row rfl 28 (.tmp 2) (.tmp 36) rfl w.heap.size (bdC zeroB) rfl rfl 28 (bdC zeroB) HB.out bd_size rfl (bd_one _) ?_))
  refine rread_ret (w := w) (q := zeroB) (z := 13) rfl rfl rfl (setRow_heap _ _ _ _ _ _ HB.out) ⟨by rw [HR.out], below_setRow BL.out (Nat.le_refl _) _⟩
set_option linter.unusedSimpArgs false in
set_option maxRecDepth 100000 in
set_option maxHeartbeats 8000000 in
theorem rread_first (s : List UInt8) (a0 a1 a2 a3 a4 a5 a6 a7 : List UInt8) (hs : s.length ≤ 200) (hl : piecesB [] s = [a0, a1, a2, a3, a4, a5, a6, a7]) (h1 : a0 ≠ wBound) (h2 : a0 ≠ wStatic) (w : World) : Calls Tryd.prog 12 #[.string (bs s)] w fun e w' => e = .returned (readOV s) ∧ Below w.heap.size w w' := by
  have hsz : (bs s).size = s.length := rfl
  unfold readOV
  have hd : decide ((200 : Int) < (s.length : Int)) = false := by simp; omega
  have hw := words_row [a0, a1, a2, a3, a4, a5, a6, a7] 8 s hl (rfl) (by omega) (w.alloc (.cells (bdC zeroB) 28))
  have hsz0 : (w.alloc (.cells (bdC zeroB) 28)).heap.size = w.heap.size + 1 := by simp
  have BL0 := Lib.hid (show Below w.heap.size w (w.alloc (.cells (bdC zeroB) 28)) from (Below.refl _ _).alloc (Nat.le_refl _) _)
  have HW := Lib.hid hw
  clear hw
  have HR := Lib.hid (readO_none (s := s) (by omega) (by rw [hl]; unfold parseBd; simp only; rw [if_neg (by intro h; rcases h.1 with h | h; exact h1 h; exact h2 h)]))
  have q1 := strs_ne h1
  have q2 := strs_ne h2
  unfold wBound at q1
  unfold wStatic at q2
  clear hl h1 h2
  go_enter Tryd.func12, Tryd.ntmps12
  go_wp2_with (first
    | (go_at_call 34; refine HW.out.mono ?_; rintro e w1 ⟨g, c, rfl, hc1, hc2, tr, b1⟩; have HB := Lib.hid ((Blk.new w 28 (bdC zeroB)).on b1); have BL := Lib.hid (BL0.out.trans (b1.mono (by omega))); have x0 := tr.cell (k := 0) rfl; simp only [Nat.zero_add, Nat.add_zero] at x0; clear tr b1 hc1 hc2)
    | (refine wpList_store_row rfl 28 (.tmp 2) (.tmp 36) rfl w.heap.size (bdC zeroB) rfl rfl 28 (bdC zeroB) HB.out bd_size rfl (bd_one _) ?_))
  refine rread_ret (w := w) (q := zeroB) (z := 13) rfl rfl rfl (setRow_heap _ _ _ _ _ _ HB.out) ⟨by rw [HR.out], below_setRow BL.out (Nat.le_refl _) _⟩
set_option linter.unusedSimpArgs false in
set_option maxRecDepth 100000 in
set_option maxHeartbeats 8000000 in
theorem rread_as (s : List UInt8) (a0 a1 a2 a3 a4 a5 a6 a7 : List UInt8) (hs : s.length ≤ 200) (hl : piecesB [] s = [a0, a1, a2, a3, a4, a5, a6, a7]) (st : Bool) (h0 : a0 = firstW st) (h5 : a5 ≠ wAs) (w : World) : Calls Tryd.prog 12 #[.string (bs s)] w fun e w' => e = .returned (readOV s) ∧ Below w.heap.size w w' := by
  have hsz : (bs s).size = s.length := rfl
  unfold readOV
  have hd : decide ((200 : Int) < (s.length : Int)) = false := by simp; omega
  have hw := words_row [a0, a1, a2, a3, a4, a5, a6, a7] 8 s hl (rfl) (by omega) (w.alloc (.cells (bdC zeroB) 28))
  have hsz0 : (w.alloc (.cells (bdC zeroB) 28)).heap.size = w.heap.size + 1 := by simp
  have BL0 := Lib.hid (show Below w.heap.size w (w.alloc (.cells (bdC zeroB) 28)) from (Below.refl _ _).alloc (Nat.le_refl _) _)
  have HW := Lib.hid hw
  clear hw
  have HR := Lib.hid (readO_none (s := s) (by omega) (by rw [hl]; unfold parseBd; simp only; rw [if_neg (fun h => h5 h.2)]))
  have q5 := strs_ne h5
  unfold wAs at q5
  clear hl h5
  cases st
  · have q1 : ((bs a0).toList == [98, 111, 117, 110, 100]) = true := strs_eq h0
    clear h0
    go_enter Tryd.func12, Tryd.ntmps12
    go_wp2_with (first
      | (go_at_call 34; refine HW.out.mono ?_; rintro e w1 ⟨g, c, rfl, hc1, hc2, tr, b1⟩; have HB := Lib.hid ((Blk.new w 28 (bdC zeroB)).on b1); have BL := Lib.hid (BL0.out.trans (b1.mono (by omega))); have x0 := tr.cell (k := 0) rfl; simp only [Nat.zero_add, Nat.add_zero] at x0; have x5 := tr.cell (k := 5) rfl; simp only [Nat.zero_add, Nat.add_zero] at x5; clear tr b1 hc1 hc2)
      | (refine wpList_store_row rfl 28 (.tmp 2) (.tmp 36) rfl w.heap.size (bdC zeroB) rfl rfl 28 (bdC zeroB) HB.out bd_size rfl (bd_one _) ?_))
    refine rread_ret (w := w) (q := zeroB) (z := 13) rfl rfl rfl (setRow_heap _ _ _ _ _ _ HB.out) ⟨by rw [HR.out], below_setRow BL.out (Nat.le_refl _) _⟩
  · have q1 : ((bs a0).toList == [98, 111, 117, 110, 100]) = false := strs_ne (by rw [h0]; decide)
    have q2 : ((bs a0).toList == [115, 116, 97, 116, 105, 99]) = true := strs_eq h0
    clear h0
    go_enter Tryd.func12, Tryd.ntmps12
    go_wp2_with (first
      | (go_at_call 34; refine HW.out.mono ?_; rintro e w1 ⟨g, c, rfl, hc1, hc2, tr, b1⟩; have HB := Lib.hid ((Blk.new w 28 (bdC zeroB)).on b1); have BL := Lib.hid (BL0.out.trans (b1.mono (by omega))); have x0 := tr.cell (k := 0) rfl; simp only [Nat.zero_add, Nat.add_zero] at x0; have x5 := tr.cell (k := 5) rfl; simp only [Nat.zero_add, Nat.add_zero] at x5; clear tr b1 hc1 hc2)
      | (refine wpList_store_row rfl 28 (.tmp 2) (.tmp 36) rfl w.heap.size (bdC zeroB) rfl rfl 28 (bdC zeroB) HB.out bd_size rfl (bd_one _) ?_))
    refine rread_ret (w := w) (q := zeroB) (z := 13) rfl rfl rfl (setRow_heap _ _ _ _ _ _ HB.out) ⟨by rw [HR.out], below_setRow BL.out (Nat.le_refl _) _⟩
set_option linter.unusedSimpArgs false in
set_option maxRecDepth 100000 in
set_option maxHeartbeats 8000000 in
theorem rread_main (s : List UInt8) (a0 a1 a2 a3 a4 a5 a6 a7 : List UInt8) (hs : s.length ≤ 200) (hl : piecesB [] s = [a0, a1, a2, a3, a4, a5, a6, a7]) (st : Bool) (h0 : a0 = firstW st) (h5 : a5 = wAs) (w : World) : Calls Tryd.prog 12 #[.string (bs s)] w fun e w' => e = .returned (readOV s) ∧ Below w.heap.size w w' := by
  have hsz : (bs s).size = s.length := rfl
  unfold readOV
  have hd : decide ((200 : Int) < (s.length : Int)) = false := by simp; omega
  have hw := words_row [a0, a1, a2, a3, a4, a5, a6, a7] 8 s hl (rfl) (by omega) (w.alloc (.cells (bdC zeroB) 28))
  have hsz0 : (w.alloc (.cells (bdC zeroB) 28)).heap.size = w.heap.size + 1 := by simp
  have BL0 := Lib.hid (show Below w.heap.size w (w.alloc (.cells (bdC zeroB) 28)) from (Below.refl _ _).alloc (Nat.le_refl _) _)
  have HW := Lib.hid hw
  clear hw
  have l1 : a1.length ≤ 1048576 := by
    have := piecesB_mem s [] a1 (by rw [hl]; simp)
    simp at this
    omega
  have l3 : a3.length ≤ 1048576 := by
    have := piecesB_mem s [] a3 (by rw [hl]; simp)
    simp at this
    omega
  have l4 : a4.length ≤ 1048576 := by
    have := piecesB_mem s [] a4 (by rw [hl]; simp)
    simp at this
    omega
  have l6 : a6.length ≤ 1048576 := by
    have := piecesB_mem s [] a6 (by rw [hl]; simp)
    simp at this
    omega
  have l7 : a7.length ≤ 1048576 := by
    have := piecesB_mem s [] a7 (by rw [hl]; simp)
    simp at this
    omega
  have hv := parseBd_main a0 a1 a2 a3 a4 a5 a6 a7 st h0 h5
  have hr : ∀ b, parseBd [a0, a1, a2, a3, a4, a5, a6, a7] = some b → readO s = (b, 0) := fun b hb => readO_some (by omega) (by rw [hl]; exact hb)
  have hn : parseBd [a0, a1, a2, a3, a4, a5, a6, a7] = none → readO s = (zeroB, 13) := fun hb => readO_none (by omega) (by rw [hl]; exact hb)
  have hin := fun A m W h => rinner_any A 4 m a1 a2 a3 a4 [] l1 l3 l4 W h
  have hou := fun A m p W h => router_any A 2 m p a6 a7 [] l6 l7 W h
  obtain ⟨R, hR⟩ : ∃ R, innerL a1 a2 a3 a4 = R := ⟨_, rfl⟩
  obtain ⟨O, hO⟩ : ∃ O, outerL a6 a7 = O := ⟨_, rfl⟩
  rw [hR] at hin hv
  rw [hO] at hou hv
  rw [hv] at hr hn
  have HRS := Lib.hid hr
  have HRN := Lib.hid hn
  have HIN := Lib.hid hin
  have HOU := Lib.hid hou
  have q5 : ((bs a5).toList == [97, 115]) = true := strs_eq h5
  clear hv hin hou hR hO hr hn hl h5 l1 l3 l4 l6 l7
  cases st
  · have q1 : ((bs a0).toList == [98, 111, 117, 110, 100]) = true := strs_eq h0
    have q2 : ((bs a0).toList == [115, 116, 97, 116, 105, 99]) = false := strs_ne (by rw [h0]; decide)
    clear h0
    rcases R with _ | x
    · rcases O with _ | y
      · have HR := Lib.hid (HRN.out rfl)
        clear HRS HRN
        have HIN := Lib.hid (show ∀ A m W, TS W.heap.size W A 4 m [a1, a2, a3, a4] → Calls Tryd.prog 35 #[.slice A 4 m] W (InP W (none)) from HIN.out)
        have HOU := Lib.hid (show ∀ A m p W, TS W.heap.size W A 2 m [a6, a7] → Calls Tryd.prog 36 #[.slice A 2 m, .int .i64 p] W (OuP W p (none)) from HOU.out)
        go_enter Tryd.func12, Tryd.ntmps12
        go_upto_region 7 with (first
          | (go_at_call 34; refine HW.out.mono ?_; rintro e w1 ⟨g, c, rfl, hc1, hc2, tr, b1⟩; have HB := Lib.hid ((Blk.new w 28 (bdC zeroB)).on b1); have BL := Lib.hid (BL0.out.trans (b1.mono (by omega))); have x0 := tr.cell (k := 0) rfl; simp only [Nat.zero_add, Nat.add_zero] at x0; have x5 := tr.cell (k := 5) rfl; simp only [Nat.zero_add, Nat.add_zero] at x5; have X0 := Lib.hid x0; have hgb : g ≠ w.heap.size := (by intro e; have k := HB.out.cell 0; rw [← e, x0] at k; exact absurd k (by simp [bdC, zeroB])); obtain ⟨A', hsl, htl⟩ := TS.mid (B := w1.heap.size) (A := some ⟨g, 0, none⟩) hc1 (by omega); obtain ⟨A5, hs5, ht5⟩ := TS.tail (B := w1.heap.size) (A := some ⟨g, 0, none⟩) hc1 6 (by omega); have hs5 : ∀ w' : World, (Instr.slice 57 (.slice (some ⟨g, 0, none⟩) 8 c) (some (.int .i64 6)) none none).run Tryd.prog w' = .ok (.slice A5 2 (c - 6)) w' := hs5; have HTS := Lib.hid (htl _ _ (TS.of tr tr.1 hc1 hc2)); have HT5 := Lib.hid (ht5 _ _ (TS.of tr tr.1 hc1 hc2)); have hg1 : g < w1.heap.size := tr.1; clear htl ht5; clear tr b1 hc1 hc2)
          | (go_at_call 35; refine (HIN.out _ _ _ HTS.out).mono ?_; rintro e' w2 ⟨q, rfl, hq2, b2⟩; have HQ := Lib.hid hq2; have HB2 := Lib.hid (HB.out.on b2); have BL2 := Lib.hid (BL.out.trans (b2.mono BL.out.size)); have hsz12 : w1.heap.size ≤ w2.heap.size := b2.size; have HT6 := Lib.hid (HT5.out.kept b2); have y0 := (b2.cell (p := ⟨g, 0, none⟩) hg1).trans X0.out; clear HB BL hq2 x0; clear b2; unfold inC))
        have b9 : Blk (w2.alloc (.cells (inC q) 24)) w2.heap.size 24 (inC q) := Blk.new _ _ _
        have hb3 := HB2.out.alloc (.cells (inC q) 24)
        have bl3 := BL2.out.alloc BL2.out.size (.cells (inC q) 24)
        have t3 := (HT6.out.kept ((Below.refl w1.heap.size w2).alloc (o := .cells (inC q) 24) hsz12)).in_
        have z0 : (w2.alloc (.cells (inC q) 24)).cell? ⟨g, 0, none⟩ = some (.string (bs a0)) := (World.cell?_alloc_lt _ _ _ (Nat.lt_of_lt_of_le hg1 hsz12)).trans y0
        have hg2 : g < w2.heap.size := Nat.lt_of_lt_of_le hg1 hsz12
        obtain ⟨V9, hV9⟩ : ∃ V9, w2.heap.size = V9 := ⟨_, rfl⟩
        have hq9 := HB2.out.lt
        rw [hV9] at b9 hg2 hq9 ⊢
        unfold inC at b9 hb3 bl3 t3 z0
        have hs3 : V9 + 1 = (w2.alloc (.cells #[.int .i64 q.1, .int .i64 q.2.1, .int .i64 q.2.2.1, .int .i64 q.2.2.2] 24)).heap.size := by rw [← hV9]; simp
        generalize (w2.alloc (.cells _ 24)) = w3 at b9 hb3 bl3 t3 z0 hs3 ⊢
        have B9 := Lib.hid b9
        have HB3 := Lib.hid hb3
        have BL3 := Lib.hid bl3
        have T3 := Lib.hid t3
        have Z3 := Lib.hid z0
        have m0 : w3.cell? ⟨V9, 1, none⟩ = some (.int .i64 q.2.1) := b9.cell 1
        clear b9 hb3 bl3 t3 z0 y0 HT6 HB2 BL2 hV9 HW hsl HTS HT5
        refine wp_region_held_drew (S := fun W' : World => W'.cell? ⟨V9, 1, none⟩ = some (.int .i64 q.2.1)) (by kernel_rfl) m0 (fun H0 => ?_)
        refine wpAnyH_take (i := 0) (v := .slice (some ⟨g, 0, none⟩) 8 c) rfl (by kernel_rfl) (by kernel_rfl) (by kernel_rfl) (fun _ _ _ h => h) (.inl ⟨rfl, fun w hS => by go_simp⟩) H0 ?_
        simp only [Act.put, List.getElem_toArray, List.getElem_cons_zero, List.setIfInBounds_toArray, List.set_cons_zero, List.set_cons_succ]
        refine wpAnyH_take (i := 1) (v := .slice A5 2 (c - 6)) rfl (by kernel_rfl) (by kernel_rfl) (by kernel_rfl) (fun _ _ _ h => h) (.inl ⟨rfl, fun w hS => by go_simp⟩) H0 ?_
        simp only [Act.put, List.getElem_toArray, List.getElem_cons_succ, List.getElem_cons_zero, List.setIfInBounds_toArray, List.set_cons_zero, List.set_cons_succ]
        refine wpAnyH_take (i := 2) (v := .pointer (some ⟨V9, 1, none⟩)) rfl (by kernel_rfl) (by kernel_rfl) (by kernel_rfl) (fun _ _ _ h => h) (.inl ⟨rfl, fun w hS => by go_simp⟩) H0 ?_
        simp only [Act.put, List.getElem_toArray, List.getElem_cons_succ, List.getElem_cons_zero, List.setIfInBounds_toArray, List.set_cons_zero, List.set_cons_succ]
        refine wpAnyH_take (i := 3) (v := .int .i64 q.2.1) rfl (by kernel_rfl) (by kernel_rfl) (by kernel_rfl) (fun _ _ _ h => h) (.inl ⟨rfl, fun w hS => by go_simp⟩) H0 ?_
        simp only [Act.put, List.getElem_toArray, List.getElem_cons_succ, List.getElem_cons_zero, List.setIfInBounds_toArray, List.set_cons_zero, List.set_cons_succ]
        refine wpAnyH_ready (rs := [4, 8]) (by kernel_rfl) (by simp) ?_
        refine AllReadyH.cons rfl (fun KK hK => ?_) (AllReadyH.cons rfl (fun KK hK => ?_) AllReadyH.nil)
        · refine step_call rfl 36 #[.tmp 45, .tmp 47] #[57, 3] rfl #[.slice A5 2 (c - 6), .int .i64 q.2.1] (by simp [Act.eval]) (enters_of Tryd.func36 (by kernel_rfl) rfl) ?_
          refine (HOU.out A5 (c - 6) q.2.1 w3.drew T3.out).mono ?_
          rintro r w4 ⟨q5, rfl, hq5, b4⟩
          have b4 : Below w3.heap.size w3 w4 := ⟨b4.os, b4.tape, b4.output, b4.size, b4.block⟩
          have B4 := Lib.hid (B9.out.on b4)
          have HB4 := Lib.hid (HB3.out.on b4)
          have BL4 := Lib.hid (BL3.out.trans (b4.mono BL3.out.size))
          have HQ5 := Lib.hid hq5
          have Z4 := Lib.hid ((b4.cell (p := ⟨g, 0, none⟩) (by simp only; omega)).trans Z3.out)
          have hs4 := b4.size
          have m4 : w4.cell? ⟨V9, 1, none⟩ = some (.int .i64 q.2.1) := B4.out.cell 1
          clear b4 hq5 hs5 B9 HB3 BL3 T3 m0 H0
          refine ⟨_, rfl, hK.out _ _ m4 (fun _ => ?_)⟩
          clear hK KK
          simp only [Act.put, List.getElem_toArray, List.getElem_cons_succ, List.getElem_cons_zero, List.setIfInBounds_toArray, List.set_cons_zero, List.set_cons_succ]
          refine wpAnyH_take (i := 5) (v := .tuple #[.agg (ouC q5), .bool false]) rfl (by kernel_rfl) (by kernel_rfl) (by kernel_rfl) (fun _ _ _ h => h) (.inl ⟨rfl, fun w hS => by go_simp⟩) m4 ?_
          simp only [Act.put, List.getElem_toArray, List.getElem_cons_succ, List.getElem_cons_zero, List.setIfInBounds_toArray, List.set_cons_zero, List.set_cons_succ]
          refine wpAnyH_take (i := 6) (v := .agg (ouC q5)) rfl (by kernel_rfl) (by kernel_rfl) (by kernel_rfl) (fun _ _ _ h => h) (.inl ⟨rfl, fun w hS => by go_simp⟩) m4 ?_
          simp only [Act.put, List.getElem_toArray, List.getElem_cons_succ, List.getElem_cons_zero, List.setIfInBounds_toArray, List.set_cons_zero, List.set_cons_succ]
          refine wpAnyH_take (i := 7) (v := .bool false) rfl (by kernel_rfl) (by kernel_rfl) (by kernel_rfl) (fun _ _ _ h => h) (.inl ⟨rfl, fun w hS => by go_simp⟩) m4 ?_
          simp only [Act.put, List.getElem_toArray, List.getElem_cons_succ, List.getElem_cons_zero, List.setIfInBounds_toArray, List.set_cons_zero, List.set_cons_succ]
          refine wpAnyH_ready (rs := [8]) (by kernel_rfl) (by simp) ?_
          refine AllReadyH.cons rfl (fun KK hK => ?_) AllReadyH.nil
          go_simp
          have b5 := Blk.new w4 26 (ouC (0, 0, 0))
          have b9 := B4.out.alloc (.cells (ouC (0, 0, 0)) 26)
          have hb5 := HB4.out.alloc (.cells (ouC (0, 0, 0)) 26)
          have bl5 := BL4.out.alloc BL4.out.size (.cells (ouC (0, 0, 0)) 26)
          have z5 := (World.cell?_alloc_lt w4 (.cells (ouC (0, 0, 0)) 26) ⟨g, 0, none⟩ (by simp only; omega)).trans Z4.out
          have v9 := B4.out.lt
          have v0 := BL4.out.size
          have v2 := HB4.out.lt
          have vg : g < w4.heap.size := by omega
          obtain ⟨V11, hV11⟩ : ∃ V11, w4.heap.size = V11 := ⟨_, rfl⟩
          rw [hV11] at b5 v9 v0 v2 vg ⊢
          unfold ouC at b5 b9 hb5 bl5 z5
          generalize (w4.alloc (.cells _ 26)) = w5 at b5 b9 hb5 bl5 z5 ⊢
          have B5 := Lib.hid b5
          have C9 := Lib.hid b9
          have HB5 := Lib.hid hb5
          have BL5 := Lib.hid bl5
          have Z5 := Lib.hid z5
          have m5 : w5.cell? ⟨V9, 1, none⟩ = some (.int .i64 q.2.1) := b9.cell 1
          clear b5 b9 hb5 bl5 z5 B4 HB4 BL4 Z4 m4 hV11
          refine hK.out _ _ m5 (fun _ => ?_)
          clear hK KK
          try simp only [Act.put, List.getElem_toArray, List.getElem_cons_succ, List.getElem_cons_zero, List.setIfInBounds_toArray, List.set_cons_zero, List.set_cons_succ]
          refine wpAnyH_ready (rs := [9]) (by kernel_rfl) (by simp) ?_
          refine AllReadyH.cons rfl (fun KK hK => ?_) AllReadyH.nil
          refine (if_pos (show Region.wanted _ _ = true by rfl)).mpr ?_
          refine wp_store_row 26 (.tmp 7) (.tmp 49) rfl V11 (ouC q5) rfl rfl 26 (ouC (0, 0, 0)) B5.out ou_size rfl (ou_one q5) ?_
          have b6 : Blk (w5.setRow V11 (ouC q5)) V11 26 (ouC q5) := setRow_heap _ _ _ _ _ _ B5.out
          have c6 : Blk (w5.setRow V11 (ouC q5)) V9 24 (inC q) := (setRow_other w5 V11 V9 _ (by omega)).trans C9.out
          have hb6 : Blk (w5.setRow V11 (ouC q5)) w.heap.size 28 (bdC zeroB) := (setRow_other w5 V11 w.heap.size _ (by omega)).trans HB5.out
          have z6 : (w5.setRow V11 (ouC q5)).cell? ⟨g, 0, none⟩ = some (.string (bs a0)) := (World.cell?_of_block (setRow_other w5 V11 _ _ (by simp only; omega))).trans Z5.out
          have bl6 : Below w.heap.size w (w5.setRow V11 (ouC q5)) := below_setRow BL5.out v0 _
          generalize w5.setRow V11 (ouC q5) = w6 at b6 c6 hb6 bl6 z6 ⊢
          have B6 := Lib.hid b6
          have C6 := Lib.hid c6
          have HB6 := Lib.hid hb6
          have BL6 := Lib.hid bl6
          have Z6 := Lib.hid z6
          have m6 : w6.cell? ⟨V9, 1, none⟩ = some (.int .i64 q.2.1) := c6.cell 1
          clear b6 c6 hb6 bl6 z6 B5 C9 HB5 BL5 Z5 m5
          refine hK.out _ _ m6 (fun _ => ?_)
          clear hK KK
          try simp only [Act.put, List.getElem_toArray, List.getElem_cons_succ, List.getElem_cons_zero, List.setIfInBounds_toArray, List.set_cons_zero, List.set_cons_succ]
          refine wpAnyH_take (i := 10) (v := .bool false) rfl (by kernel_rfl) (by kernel_rfl) (by kernel_rfl) (fun _ _ _ h => h) (.inl ⟨rfl, fun w hS => by go_simp⟩) m6 ?_
          simp only [Act.put, List.getElem_toArray, List.getElem_cons_succ, List.getElem_cons_zero, List.setIfInBounds_toArray, List.set_cons_zero, List.set_cons_succ]
          refine wpAnyH_done (by kernel_rfl) ?_ _
          go_wp2_with (refine wpList_store_row rfl 28 (.tmp 2) (.tmp 57) rfl w.heap.size (bdC zeroB) rfl rfl 28 (bdC zeroB) HB6.out bd_size rfl (bd_one _) ?_)
          refine rread_ret (w := w) (q := zeroB) (z := 13) rfl rfl rfl (setRow_heap _ _ _ _ _ _ HB6.out) ⟨by rw [HR.out], below_setRow BL6.out (Nat.le_refl _) _⟩
        · go_simp
          have b5 := Blk.new w3 26 (ouC (0, 0, 0))
          have b9 := B9.out.alloc (.cells (ouC (0, 0, 0)) 26)
          have hb5 := HB3.out.alloc (.cells (ouC (0, 0, 0)) 26)
          have bl5 := BL3.out.alloc BL3.out.size (.cells (ouC (0, 0, 0)) 26)
          have z5 := (World.cell?_alloc_lt w3 (.cells (ouC (0, 0, 0)) 26) ⟨g, 0, none⟩ (by simp only; omega)).trans Z3.out
          have v9 := B9.out.lt
          have v0 := BL3.out.size
          have v2 := HB3.out.lt
          have vg : g < w3.heap.size := by omega
          have t4 := (T3.out.kept (w' := w3.alloc (.cells (ouC (0, 0, 0)) 26)) ((Below.refl w3.heap.size w3).alloc (o := (.cells (ouC (0, 0, 0)) 26)) (Nat.le_refl _))).in_
          have hs9 : w3.heap.size < (w3.alloc (.cells (ouC (0, 0, 0)) 26)).heap.size := by simp
          obtain ⟨V11, hV11⟩ : ∃ V11, w3.heap.size = V11 := ⟨_, rfl⟩
          rw [hV11] at b5 v9 v0 v2 vg hs9 ⊢
          obtain ⟨w4, hw4⟩ : ∃ w4, (w3.alloc (.cells (ouC (0, 0, 0)) 26)).drew = w4 := ⟨_, rfl⟩
          have b5 : Blk w4 V11 26 (ouC (0, 0, 0)) := by rw [← hw4]; exact b5
          have b9 : Blk w4 V9 24 (inC q) := by rw [← hw4]; exact b9
          have hb5 : Blk w4 w.heap.size 28 (bdC zeroB) := by rw [← hw4]; exact hb5
          have bl5 : Below w.heap.size w w4 := by rw [← hw4]; exact bl5.drew
          have z5 : w4.cell? ⟨g, 0, none⟩ = some (.string (bs a0)) := by rw [← hw4]; exact z5
          have t4 : TS w4.heap.size w4 A5 2 (c - 6) [a6, a7] := by rw [← hw4]; exact t4
          have hs9 : V11 < w4.heap.size := by rw [← hw4]; exact hs9
          unfold ouC at hw4 b5
          rw [hw4]
          have E5 := Lib.hid b5
          have E9 := Lib.hid b9
          have HE5 := Lib.hid hb5
          have BE5 := Lib.hid bl5
          have T4 := Lib.hid t4
          have ZE5 := Lib.hid z5
          have m4 : w4.cell? ⟨V9, 1, none⟩ = some (.int .i64 q.2.1) := b9.cell 1
          clear b5 b9 hb5 bl5 t4 z5 B9 HB3 BL3 T3 hV11 hw4 m0 H0
          refine hK.out _ _ m4 (fun _ => ?_)
          clear hK KK
          try simp only [Act.put, List.getElem_toArray, List.getElem_cons_succ, List.getElem_cons_zero, List.setIfInBounds_toArray, List.set_cons_zero, List.set_cons_succ]
          refine wpAnyH_ready (rs := [4]) (by kernel_rfl) (by simp) ?_
          refine AllReadyH.cons rfl (fun KK hK => ?_) AllReadyH.nil
          refine step_call rfl 36 #[.tmp 45, .tmp 47] #[57, 3] rfl #[.slice A5 2 (c - 6), .int .i64 q.2.1] (by simp [Act.eval]) (enters_of Tryd.func36 (by kernel_rfl) rfl) ?_
          refine (HOU.out A5 (c - 6) q.2.1 _ T4.out).mono ?_
          rintro r w5 ⟨q5, rfl, hq5, b4⟩
          have B5 := Lib.hid (E5.out.on b4)
          have C9 := Lib.hid (E9.out.on b4)
          have HB5 := Lib.hid (HE5.out.on b4)
          have BL5 := Lib.hid (BE5.out.trans (b4.mono BE5.out.size))
          have HQ5 := Lib.hid hq5
          have Z5 := Lib.hid ((b4.cell (p := ⟨g, 0, none⟩) (by simp only; omega)).trans ZE5.out)
          have m5 : w5.cell? ⟨V9, 1, none⟩ = some (.int .i64 q.2.1) := C9.out.cell 1
          clear b4 hq5 hs5 m4
          refine ⟨_, rfl, hK.out _ _ m5 (fun _ => ?_)⟩
          clear hK KK
          simp only [Act.put, List.getElem_toArray, List.getElem_cons_succ, List.getElem_cons_zero, List.setIfInBounds_toArray, List.set_cons_zero, List.set_cons_succ]
          refine wpAnyH_take (i := 5) (v := .tuple #[.agg (ouC q5), .bool false]) rfl (by kernel_rfl) (by kernel_rfl) (by kernel_rfl) (fun _ _ _ h => h) (.inl ⟨rfl, fun w hS => by go_simp⟩) m5 ?_
          simp only [Act.put, List.getElem_toArray, List.getElem_cons_succ, List.getElem_cons_zero, List.setIfInBounds_toArray, List.set_cons_zero, List.set_cons_succ]
          refine wpAnyH_take (i := 6) (v := .agg (ouC q5)) rfl (by kernel_rfl) (by kernel_rfl) (by kernel_rfl) (fun _ _ _ h => h) (.inl ⟨rfl, fun w hS => by go_simp⟩) m5 ?_
          simp only [Act.put, List.getElem_toArray, List.getElem_cons_succ, List.getElem_cons_zero, List.setIfInBounds_toArray, List.set_cons_zero, List.set_cons_succ]
          refine wpAnyH_take (i := 7) (v := .bool false) rfl (by kernel_rfl) (by kernel_rfl) (by kernel_rfl) (fun _ _ _ h => h) (.inl ⟨rfl, fun w hS => by go_simp⟩) m5 ?_
          simp only [Act.put, List.getElem_toArray, List.getElem_cons_succ, List.getElem_cons_zero, List.setIfInBounds_toArray, List.set_cons_zero, List.set_cons_succ]
          refine wpAnyH_ready (rs := [9]) (by kernel_rfl) (by simp) ?_
          refine AllReadyH.cons rfl (fun KK hK => ?_) AllReadyH.nil
          refine (if_pos (show Region.wanted _ _ = true by rfl)).mpr ?_
          refine wp_store_row 26 (.tmp 7) (.tmp 49) rfl V11 (ouC q5) rfl rfl 26 (ouC (0, 0, 0)) B5.out ou_size rfl (ou_one q5) ?_
          have b6 : Blk (w5.setRow V11 (ouC q5)) V11 26 (ouC q5) := setRow_heap _ _ _ _ _ _ B5.out
          have c6 : Blk (w5.setRow V11 (ouC q5)) V9 24 (inC q) := (setRow_other w5 V11 V9 _ (by omega)).trans C9.out
          have hb6 : Blk (w5.setRow V11 (ouC q5)) w.heap.size 28 (bdC zeroB) := (setRow_other w5 V11 w.heap.size _ (by omega)).trans HB5.out
          have z6 : (w5.setRow V11 (ouC q5)).cell? ⟨g, 0, none⟩ = some (.string (bs a0)) := (World.cell?_of_block (setRow_other w5 V11 _ _ (by simp only; omega))).trans Z5.out
          have bl6 : Below w.heap.size w (w5.setRow V11 (ouC q5)) := below_setRow BL5.out v0 _
          generalize w5.setRow V11 (ouC q5) = w6 at b6 c6 hb6 bl6 z6 ⊢
          have B6 := Lib.hid b6
          have C6 := Lib.hid c6
          have HB6 := Lib.hid hb6
          have BL6 := Lib.hid bl6
          have Z6 := Lib.hid z6
          have m6 : w6.cell? ⟨V9, 1, none⟩ = some (.int .i64 q.2.1) := c6.cell 1
          clear b6 c6 hb6 bl6 z6 B5 C9 HB5 BL5 Z5 m5
          refine hK.out _ _ m6 (fun _ => ?_)
          clear hK KK
          try simp only [Act.put, List.getElem_toArray, List.getElem_cons_succ, List.getElem_cons_zero, List.setIfInBounds_toArray, List.set_cons_zero, List.set_cons_succ]
          refine wpAnyH_take (i := 10) (v := .bool false) rfl (by kernel_rfl) (by kernel_rfl) (by kernel_rfl) (fun _ _ _ h => h) (.inl ⟨rfl, fun w hS => by go_simp⟩) m6 ?_
          simp only [Act.put, List.getElem_toArray, List.getElem_cons_succ, List.getElem_cons_zero, List.setIfInBounds_toArray, List.set_cons_zero, List.set_cons_succ]
          refine wpAnyH_done (by kernel_rfl) ?_ _
          go_wp2_with (refine wpList_store_row rfl 28 (.tmp 2) (.tmp 57) rfl w.heap.size (bdC zeroB) rfl rfl 28 (bdC zeroB) HB6.out bd_size rfl (bd_one _) ?_)
          refine rread_ret (w := w) (q := zeroB) (z := 13) rfl rfl rfl (setRow_heap _ _ _ _ _ _ HB6.out) ⟨by rw [HR.out], below_setRow BL6.out (Nat.le_refl _) _⟩
      · have HR := Lib.hid (HRN.out rfl)
        clear HRS HRN
        have HIN := Lib.hid (show ∀ A m W, TS W.heap.size W A 4 m [a1, a2, a3, a4] → Calls Tryd.prog 35 #[.slice A 4 m] W (InP W (none)) from HIN.out)
        have HOU := Lib.hid (show ∀ A m p W, TS W.heap.size W A 2 m [a6, a7] → Calls Tryd.prog 36 #[.slice A 2 m, .int .i64 p] W (OuP W p (some y)) from HOU.out)
        go_enter Tryd.func12, Tryd.ntmps12
        go_upto_region 7 with (first
          | (go_at_call 34; refine HW.out.mono ?_; rintro e w1 ⟨g, c, rfl, hc1, hc2, tr, b1⟩; have HB := Lib.hid ((Blk.new w 28 (bdC zeroB)).on b1); have BL := Lib.hid (BL0.out.trans (b1.mono (by omega))); have x0 := tr.cell (k := 0) rfl; simp only [Nat.zero_add, Nat.add_zero] at x0; have x5 := tr.cell (k := 5) rfl; simp only [Nat.zero_add, Nat.add_zero] at x5; have X0 := Lib.hid x0; have hgb : g ≠ w.heap.size := (by intro e; have k := HB.out.cell 0; rw [← e, x0] at k; exact absurd k (by simp [bdC, zeroB])); obtain ⟨A', hsl, htl⟩ := TS.mid (B := w1.heap.size) (A := some ⟨g, 0, none⟩) hc1 (by omega); obtain ⟨A5, hs5, ht5⟩ := TS.tail (B := w1.heap.size) (A := some ⟨g, 0, none⟩) hc1 6 (by omega); have hs5 : ∀ w' : World, (Instr.slice 57 (.slice (some ⟨g, 0, none⟩) 8 c) (some (.int .i64 6)) none none).run Tryd.prog w' = .ok (.slice A5 2 (c - 6)) w' := hs5; have HTS := Lib.hid (htl _ _ (TS.of tr tr.1 hc1 hc2)); have HT5 := Lib.hid (ht5 _ _ (TS.of tr tr.1 hc1 hc2)); have hg1 : g < w1.heap.size := tr.1; clear htl ht5; clear tr b1 hc1 hc2)
          | (go_at_call 35; refine (HIN.out _ _ _ HTS.out).mono ?_; rintro e' w2 ⟨q, rfl, hq2, b2⟩; have HQ := Lib.hid hq2; have HB2 := Lib.hid (HB.out.on b2); have BL2 := Lib.hid (BL.out.trans (b2.mono BL.out.size)); have hsz12 : w1.heap.size ≤ w2.heap.size := b2.size; have HT6 := Lib.hid (HT5.out.kept b2); have y0 := (b2.cell (p := ⟨g, 0, none⟩) hg1).trans X0.out; clear HB BL hq2 x0; clear b2; unfold inC))
        have b9 : Blk (w2.alloc (.cells (inC q) 24)) w2.heap.size 24 (inC q) := Blk.new _ _ _
        have hb3 := HB2.out.alloc (.cells (inC q) 24)
        have bl3 := BL2.out.alloc BL2.out.size (.cells (inC q) 24)
        have t3 := (HT6.out.kept ((Below.refl w1.heap.size w2).alloc (o := .cells (inC q) 24) hsz12)).in_
        have z0 : (w2.alloc (.cells (inC q) 24)).cell? ⟨g, 0, none⟩ = some (.string (bs a0)) := (World.cell?_alloc_lt _ _ _ (Nat.lt_of_lt_of_le hg1 hsz12)).trans y0
        have hg2 : g < w2.heap.size := Nat.lt_of_lt_of_le hg1 hsz12
        obtain ⟨V9, hV9⟩ : ∃ V9, w2.heap.size = V9 := ⟨_, rfl⟩
        have hq9 := HB2.out.lt
        rw [hV9] at b9 hg2 hq9 ⊢
        unfold inC at b9 hb3 bl3 t3 z0
        have hs3 : V9 + 1 = (w2.alloc (.cells #[.int .i64 q.1, .int .i64 q.2.1, .int .i64 q.2.2.1, .int .i64 q.2.2.2] 24)).heap.size := by rw [← hV9]; simp
        generalize (w2.alloc (.cells _ 24)) = w3 at b9 hb3 bl3 t3 z0 hs3 ⊢
        have B9 := Lib.hid b9
        have HB3 := Lib.hid hb3
        have BL3 := Lib.hid bl3
        have T3 := Lib.hid t3
        have Z3 := Lib.hid z0
        have m0 : w3.cell? ⟨V9, 1, none⟩ = some (.int .i64 q.2.1) := b9.cell 1
        clear b9 hb3 bl3 t3 z0 y0 HT6 HB2 BL2 hV9 HW hsl HTS HT5
        refine wp_region_held_drew (S := fun W' : World => W'.cell? ⟨V9, 1, none⟩ = some (.int .i64 q.2.1)) (by kernel_rfl) m0 (fun H0 => ?_)
        refine wpAnyH_take (i := 0) (v := .slice (some ⟨g, 0, none⟩) 8 c) rfl (by kernel_rfl) (by kernel_rfl) (by kernel_rfl) (fun _ _ _ h => h) (.inl ⟨rfl, fun w hS => by go_simp⟩) H0 ?_
        simp only [Act.put, List.getElem_toArray, List.getElem_cons_zero, List.setIfInBounds_toArray, List.set_cons_zero, List.set_cons_succ]
        refine wpAnyH_take (i := 1) (v := .slice A5 2 (c - 6)) rfl (by kernel_rfl) (by kernel_rfl) (by kernel_rfl) (fun _ _ _ h => h) (.inl ⟨rfl, fun w hS => by go_simp⟩) H0 ?_
        simp only [Act.put, List.getElem_toArray, List.getElem_cons_succ, List.getElem_cons_zero, List.setIfInBounds_toArray, List.set_cons_zero, List.set_cons_succ]
        refine wpAnyH_take (i := 2) (v := .pointer (some ⟨V9, 1, none⟩)) rfl (by kernel_rfl) (by kernel_rfl) (by kernel_rfl) (fun _ _ _ h => h) (.inl ⟨rfl, fun w hS => by go_simp⟩) H0 ?_
        simp only [Act.put, List.getElem_toArray, List.getElem_cons_succ, List.getElem_cons_zero, List.setIfInBounds_toArray, List.set_cons_zero, List.set_cons_succ]
        refine wpAnyH_take (i := 3) (v := .int .i64 q.2.1) rfl (by kernel_rfl) (by kernel_rfl) (by kernel_rfl) (fun _ _ _ h => h) (.inl ⟨rfl, fun w hS => by go_simp⟩) H0 ?_
        simp only [Act.put, List.getElem_toArray, List.getElem_cons_succ, List.getElem_cons_zero, List.setIfInBounds_toArray, List.set_cons_zero, List.set_cons_succ]
        refine wpAnyH_ready (rs := [4, 8]) (by kernel_rfl) (by simp) ?_
        refine AllReadyH.cons rfl (fun KK hK => ?_) (AllReadyH.cons rfl (fun KK hK => ?_) AllReadyH.nil)
        · refine step_call rfl 36 #[.tmp 45, .tmp 47] #[57, 3] rfl #[.slice A5 2 (c - 6), .int .i64 q.2.1] (by simp [Act.eval]) (enters_of Tryd.func36 (by kernel_rfl) rfl) ?_
          refine (HOU.out A5 (c - 6) q.2.1 w3.drew T3.out).mono ?_
          rintro r w4 ⟨q5, rfl, hq5, b4⟩
          have b4 : Below w3.heap.size w3 w4 := ⟨b4.os, b4.tape, b4.output, b4.size, b4.block⟩
          have B4 := Lib.hid (B9.out.on b4)
          have HB4 := Lib.hid (HB3.out.on b4)
          have BL4 := Lib.hid (BL3.out.trans (b4.mono BL3.out.size))
          have HQ5 := Lib.hid hq5
          have Z4 := Lib.hid ((b4.cell (p := ⟨g, 0, none⟩) (by simp only; omega)).trans Z3.out)
          have hs4 := b4.size
          have m4 : w4.cell? ⟨V9, 1, none⟩ = some (.int .i64 q.2.1) := B4.out.cell 1
          clear b4 hq5 hs5 B9 HB3 BL3 T3 m0 H0
          refine ⟨_, rfl, hK.out _ _ m4 (fun _ => ?_)⟩
          clear hK KK
          simp only [Act.put, List.getElem_toArray, List.getElem_cons_succ, List.getElem_cons_zero, List.setIfInBounds_toArray, List.set_cons_zero, List.set_cons_succ]
          refine wpAnyH_take (i := 5) (v := .tuple #[.agg (ouC q5), .bool true]) rfl (by kernel_rfl) (by kernel_rfl) (by kernel_rfl) (fun _ _ _ h => h) (.inl ⟨rfl, fun w hS => by go_simp⟩) m4 ?_
          simp only [Act.put, List.getElem_toArray, List.getElem_cons_succ, List.getElem_cons_zero, List.setIfInBounds_toArray, List.set_cons_zero, List.set_cons_succ]
          refine wpAnyH_take (i := 6) (v := .agg (ouC q5)) rfl (by kernel_rfl) (by kernel_rfl) (by kernel_rfl) (fun _ _ _ h => h) (.inl ⟨rfl, fun w hS => by go_simp⟩) m4 ?_
          simp only [Act.put, List.getElem_toArray, List.getElem_cons_succ, List.getElem_cons_zero, List.setIfInBounds_toArray, List.set_cons_zero, List.set_cons_succ]
          refine wpAnyH_take (i := 7) (v := .bool true) rfl (by kernel_rfl) (by kernel_rfl) (by kernel_rfl) (fun _ _ _ h => h) (.inl ⟨rfl, fun w hS => by go_simp⟩) m4 ?_
          simp only [Act.put, List.getElem_toArray, List.getElem_cons_succ, List.getElem_cons_zero, List.setIfInBounds_toArray, List.set_cons_zero, List.set_cons_succ]
          refine wpAnyH_ready (rs := [8]) (by kernel_rfl) (by simp) ?_
          refine AllReadyH.cons rfl (fun KK hK => ?_) AllReadyH.nil
          go_simp
          have b5 := Blk.new w4 26 (ouC (0, 0, 0))
          have b9 := B4.out.alloc (.cells (ouC (0, 0, 0)) 26)
          have hb5 := HB4.out.alloc (.cells (ouC (0, 0, 0)) 26)
          have bl5 := BL4.out.alloc BL4.out.size (.cells (ouC (0, 0, 0)) 26)
          have z5 := (World.cell?_alloc_lt w4 (.cells (ouC (0, 0, 0)) 26) ⟨g, 0, none⟩ (by simp only; omega)).trans Z4.out
          have v9 := B4.out.lt
          have v0 := BL4.out.size
          have v2 := HB4.out.lt
          have vg : g < w4.heap.size := by omega
          obtain ⟨V11, hV11⟩ : ∃ V11, w4.heap.size = V11 := ⟨_, rfl⟩
          rw [hV11] at b5 v9 v0 v2 vg ⊢
          unfold ouC at b5 b9 hb5 bl5 z5
          generalize (w4.alloc (.cells _ 26)) = w5 at b5 b9 hb5 bl5 z5 ⊢
          have B5 := Lib.hid b5
          have C9 := Lib.hid b9
          have HB5 := Lib.hid hb5
          have BL5 := Lib.hid bl5
          have Z5 := Lib.hid z5
          have m5 : w5.cell? ⟨V9, 1, none⟩ = some (.int .i64 q.2.1) := b9.cell 1
          clear b5 b9 hb5 bl5 z5 B4 HB4 BL4 Z4 m4 hV11
          refine hK.out _ _ m5 (fun _ => ?_)
          clear hK KK
          try simp only [Act.put, List.getElem_toArray, List.getElem_cons_succ, List.getElem_cons_zero, List.setIfInBounds_toArray, List.set_cons_zero, List.set_cons_succ]
          refine wpAnyH_ready (rs := [9]) (by kernel_rfl) (by simp) ?_
          refine AllReadyH.cons rfl (fun KK hK => ?_) AllReadyH.nil
          refine (if_pos (show Region.wanted _ _ = true by rfl)).mpr ?_
          refine wp_store_row 26 (.tmp 7) (.tmp 49) rfl V11 (ouC q5) rfl rfl 26 (ouC (0, 0, 0)) B5.out ou_size rfl (ou_one q5) ?_
          have b6 : Blk (w5.setRow V11 (ouC q5)) V11 26 (ouC q5) := setRow_heap _ _ _ _ _ _ B5.out
          have c6 : Blk (w5.setRow V11 (ouC q5)) V9 24 (inC q) := (setRow_other w5 V11 V9 _ (by omega)).trans C9.out
          have hb6 : Blk (w5.setRow V11 (ouC q5)) w.heap.size 28 (bdC zeroB) := (setRow_other w5 V11 w.heap.size _ (by omega)).trans HB5.out
          have z6 : (w5.setRow V11 (ouC q5)).cell? ⟨g, 0, none⟩ = some (.string (bs a0)) := (World.cell?_of_block (setRow_other w5 V11 _ _ (by simp only; omega))).trans Z5.out
          have bl6 : Below w.heap.size w (w5.setRow V11 (ouC q5)) := below_setRow BL5.out v0 _
          generalize w5.setRow V11 (ouC q5) = w6 at b6 c6 hb6 bl6 z6 ⊢
          have B6 := Lib.hid b6
          have C6 := Lib.hid c6
          have HB6 := Lib.hid hb6
          have BL6 := Lib.hid bl6
          have Z6 := Lib.hid z6
          have m6 : w6.cell? ⟨V9, 1, none⟩ = some (.int .i64 q.2.1) := c6.cell 1
          clear b6 c6 hb6 bl6 z6 B5 C9 HB5 BL5 Z5 m5
          refine hK.out _ _ m6 (fun _ => ?_)
          clear hK KK
          try simp only [Act.put, List.getElem_toArray, List.getElem_cons_succ, List.getElem_cons_zero, List.setIfInBounds_toArray, List.set_cons_zero, List.set_cons_succ]
          refine wpAnyH_take (i := 10) (v := .bool true) rfl (by kernel_rfl) (by kernel_rfl) (by kernel_rfl) (fun _ _ _ h => h) (.inl ⟨rfl, fun w hS => by go_simp⟩) m6 ?_
          simp only [Act.put, List.getElem_toArray, List.getElem_cons_succ, List.getElem_cons_zero, List.setIfInBounds_toArray, List.set_cons_zero, List.set_cons_succ]
          refine wpAnyH_done (by kernel_rfl) ?_ _
          go_wp2_with (refine wpList_store_row rfl 28 (.tmp 2) (.tmp 57) rfl w.heap.size (bdC zeroB) rfl rfl 28 (bdC zeroB) HB6.out bd_size rfl (bd_one _) ?_)
          refine rread_ret (w := w) (q := zeroB) (z := 13) rfl rfl rfl (setRow_heap _ _ _ _ _ _ HB6.out) ⟨by rw [HR.out], below_setRow BL6.out (Nat.le_refl _) _⟩
        · go_simp
          have b5 := Blk.new w3 26 (ouC (0, 0, 0))
          have b9 := B9.out.alloc (.cells (ouC (0, 0, 0)) 26)
          have hb5 := HB3.out.alloc (.cells (ouC (0, 0, 0)) 26)
          have bl5 := BL3.out.alloc BL3.out.size (.cells (ouC (0, 0, 0)) 26)
          have z5 := (World.cell?_alloc_lt w3 (.cells (ouC (0, 0, 0)) 26) ⟨g, 0, none⟩ (by simp only; omega)).trans Z3.out
          have v9 := B9.out.lt
          have v0 := BL3.out.size
          have v2 := HB3.out.lt
          have vg : g < w3.heap.size := by omega
          have t4 := (T3.out.kept (w' := w3.alloc (.cells (ouC (0, 0, 0)) 26)) ((Below.refl w3.heap.size w3).alloc (o := (.cells (ouC (0, 0, 0)) 26)) (Nat.le_refl _))).in_
          have hs9 : w3.heap.size < (w3.alloc (.cells (ouC (0, 0, 0)) 26)).heap.size := by simp
          obtain ⟨V11, hV11⟩ : ∃ V11, w3.heap.size = V11 := ⟨_, rfl⟩
          rw [hV11] at b5 v9 v0 v2 vg hs9 ⊢
          obtain ⟨w4, hw4⟩ : ∃ w4, (w3.alloc (.cells (ouC (0, 0, 0)) 26)).drew = w4 := ⟨_, rfl⟩
          have b5 : Blk w4 V11 26 (ouC (0, 0, 0)) := by rw [← hw4]; exact b5
          have b9 : Blk w4 V9 24 (inC q) := by rw [← hw4]; exact b9
          have hb5 : Blk w4 w.heap.size 28 (bdC zeroB) := by rw [← hw4]; exact hb5
          have bl5 : Below w.heap.size w w4 := by rw [← hw4]; exact bl5.drew
          have z5 : w4.cell? ⟨g, 0, none⟩ = some (.string (bs a0)) := by rw [← hw4]; exact z5
          have t4 : TS w4.heap.size w4 A5 2 (c - 6) [a6, a7] := by rw [← hw4]; exact t4
          have hs9 : V11 < w4.heap.size := by rw [← hw4]; exact hs9
          unfold ouC at hw4 b5
          rw [hw4]
          have E5 := Lib.hid b5
          have E9 := Lib.hid b9
          have HE5 := Lib.hid hb5
          have BE5 := Lib.hid bl5
          have T4 := Lib.hid t4
          have ZE5 := Lib.hid z5
          have m4 : w4.cell? ⟨V9, 1, none⟩ = some (.int .i64 q.2.1) := b9.cell 1
          clear b5 b9 hb5 bl5 t4 z5 B9 HB3 BL3 T3 hV11 hw4 m0 H0
          refine hK.out _ _ m4 (fun _ => ?_)
          clear hK KK
          try simp only [Act.put, List.getElem_toArray, List.getElem_cons_succ, List.getElem_cons_zero, List.setIfInBounds_toArray, List.set_cons_zero, List.set_cons_succ]
          refine wpAnyH_ready (rs := [4]) (by kernel_rfl) (by simp) ?_
          refine AllReadyH.cons rfl (fun KK hK => ?_) AllReadyH.nil
          refine step_call rfl 36 #[.tmp 45, .tmp 47] #[57, 3] rfl #[.slice A5 2 (c - 6), .int .i64 q.2.1] (by simp [Act.eval]) (enters_of Tryd.func36 (by kernel_rfl) rfl) ?_
          refine (HOU.out A5 (c - 6) q.2.1 _ T4.out).mono ?_
          rintro r w5 ⟨q5, rfl, hq5, b4⟩
          have B5 := Lib.hid (E5.out.on b4)
          have C9 := Lib.hid (E9.out.on b4)
          have HB5 := Lib.hid (HE5.out.on b4)
          have BL5 := Lib.hid (BE5.out.trans (b4.mono BE5.out.size))
          have HQ5 := Lib.hid hq5
          have Z5 := Lib.hid ((b4.cell (p := ⟨g, 0, none⟩) (by simp only; omega)).trans ZE5.out)
          have m5 : w5.cell? ⟨V9, 1, none⟩ = some (.int .i64 q.2.1) := C9.out.cell 1
          clear b4 hq5 hs5 m4
          refine ⟨_, rfl, hK.out _ _ m5 (fun _ => ?_)⟩
          clear hK KK
          simp only [Act.put, List.getElem_toArray, List.getElem_cons_succ, List.getElem_cons_zero, List.setIfInBounds_toArray, List.set_cons_zero, List.set_cons_succ]
          refine wpAnyH_take (i := 5) (v := .tuple #[.agg (ouC q5), .bool true]) rfl (by kernel_rfl) (by kernel_rfl) (by kernel_rfl) (fun _ _ _ h => h) (.inl ⟨rfl, fun w hS => by go_simp⟩) m5 ?_
          simp only [Act.put, List.getElem_toArray, List.getElem_cons_succ, List.getElem_cons_zero, List.setIfInBounds_toArray, List.set_cons_zero, List.set_cons_succ]
          refine wpAnyH_take (i := 6) (v := .agg (ouC q5)) rfl (by kernel_rfl) (by kernel_rfl) (by kernel_rfl) (fun _ _ _ h => h) (.inl ⟨rfl, fun w hS => by go_simp⟩) m5 ?_
          simp only [Act.put, List.getElem_toArray, List.getElem_cons_succ, List.getElem_cons_zero, List.setIfInBounds_toArray, List.set_cons_zero, List.set_cons_succ]
          refine wpAnyH_take (i := 7) (v := .bool true) rfl (by kernel_rfl) (by kernel_rfl) (by kernel_rfl) (fun _ _ _ h => h) (.inl ⟨rfl, fun w hS => by go_simp⟩) m5 ?_
          simp only [Act.put, List.getElem_toArray, List.getElem_cons_succ, List.getElem_cons_zero, List.setIfInBounds_toArray, List.set_cons_zero, List.set_cons_succ]
          refine wpAnyH_ready (rs := [9]) (by kernel_rfl) (by simp) ?_
          refine AllReadyH.cons rfl (fun KK hK => ?_) AllReadyH.nil
          refine (if_pos (show Region.wanted _ _ = true by rfl)).mpr ?_
          refine wp_store_row 26 (.tmp 7) (.tmp 49) rfl V11 (ouC q5) rfl rfl 26 (ouC (0, 0, 0)) B5.out ou_size rfl (ou_one q5) ?_
          have b6 : Blk (w5.setRow V11 (ouC q5)) V11 26 (ouC q5) := setRow_heap _ _ _ _ _ _ B5.out
          have c6 : Blk (w5.setRow V11 (ouC q5)) V9 24 (inC q) := (setRow_other w5 V11 V9 _ (by omega)).trans C9.out
          have hb6 : Blk (w5.setRow V11 (ouC q5)) w.heap.size 28 (bdC zeroB) := (setRow_other w5 V11 w.heap.size _ (by omega)).trans HB5.out
          have z6 : (w5.setRow V11 (ouC q5)).cell? ⟨g, 0, none⟩ = some (.string (bs a0)) := (World.cell?_of_block (setRow_other w5 V11 _ _ (by simp only; omega))).trans Z5.out
          have bl6 : Below w.heap.size w (w5.setRow V11 (ouC q5)) := below_setRow BL5.out v0 _
          generalize w5.setRow V11 (ouC q5) = w6 at b6 c6 hb6 bl6 z6 ⊢
          have B6 := Lib.hid b6
          have C6 := Lib.hid c6
          have HB6 := Lib.hid hb6
          have BL6 := Lib.hid bl6
          have Z6 := Lib.hid z6
          have m6 : w6.cell? ⟨V9, 1, none⟩ = some (.int .i64 q.2.1) := c6.cell 1
          clear b6 c6 hb6 bl6 z6 B5 C9 HB5 BL5 Z5 m5
          refine hK.out _ _ m6 (fun _ => ?_)
          clear hK KK
          try simp only [Act.put, List.getElem_toArray, List.getElem_cons_succ, List.getElem_cons_zero, List.setIfInBounds_toArray, List.set_cons_zero, List.set_cons_succ]
          refine wpAnyH_take (i := 10) (v := .bool true) rfl (by kernel_rfl) (by kernel_rfl) (by kernel_rfl) (fun _ _ _ h => h) (.inl ⟨rfl, fun w hS => by go_simp⟩) m6 ?_
          simp only [Act.put, List.getElem_toArray, List.getElem_cons_succ, List.getElem_cons_zero, List.setIfInBounds_toArray, List.set_cons_zero, List.set_cons_succ]
          refine wpAnyH_done (by kernel_rfl) ?_ _
          go_wp2_with (refine wpList_store_row rfl 28 (.tmp 2) (.tmp 57) rfl w.heap.size (bdC zeroB) rfl rfl 28 (bdC zeroB) HB6.out bd_size rfl (bd_one _) ?_)
          refine rread_ret (w := w) (q := zeroB) (z := 13) rfl rfl rfl (setRow_heap _ _ _ _ _ _ HB6.out) ⟨by rw [HR.out], below_setRow BL6.out (Nat.le_refl _) _⟩
    · rcases O with _ | y
      · have HR := Lib.hid (HRN.out rfl)
        clear HRS HRN
        have HIN := Lib.hid (show ∀ A m W, TS W.heap.size W A 4 m [a1, a2, a3, a4] → Calls Tryd.prog 35 #[.slice A 4 m] W (InP W (some x)) from HIN.out)
        have HOU := Lib.hid (show ∀ A m p W, TS W.heap.size W A 2 m [a6, a7] → Calls Tryd.prog 36 #[.slice A 2 m, .int .i64 p] W (OuP W p (none)) from HOU.out)
        go_enter Tryd.func12, Tryd.ntmps12
        go_upto_region 7 with (first
          | (go_at_call 34; refine HW.out.mono ?_; rintro e w1 ⟨g, c, rfl, hc1, hc2, tr, b1⟩; have HB := Lib.hid ((Blk.new w 28 (bdC zeroB)).on b1); have BL := Lib.hid (BL0.out.trans (b1.mono (by omega))); have x0 := tr.cell (k := 0) rfl; simp only [Nat.zero_add, Nat.add_zero] at x0; have x5 := tr.cell (k := 5) rfl; simp only [Nat.zero_add, Nat.add_zero] at x5; have X0 := Lib.hid x0; have hgb : g ≠ w.heap.size := (by intro e; have k := HB.out.cell 0; rw [← e, x0] at k; exact absurd k (by simp [bdC, zeroB])); obtain ⟨A', hsl, htl⟩ := TS.mid (B := w1.heap.size) (A := some ⟨g, 0, none⟩) hc1 (by omega); obtain ⟨A5, hs5, ht5⟩ := TS.tail (B := w1.heap.size) (A := some ⟨g, 0, none⟩) hc1 6 (by omega); have hs5 : ∀ w' : World, (Instr.slice 57 (.slice (some ⟨g, 0, none⟩) 8 c) (some (.int .i64 6)) none none).run Tryd.prog w' = .ok (.slice A5 2 (c - 6)) w' := hs5; have HTS := Lib.hid (htl _ _ (TS.of tr tr.1 hc1 hc2)); have HT5 := Lib.hid (ht5 _ _ (TS.of tr tr.1 hc1 hc2)); have hg1 : g < w1.heap.size := tr.1; clear htl ht5; clear tr b1 hc1 hc2)
          | (go_at_call 35; refine (HIN.out _ _ _ HTS.out).mono ?_; rintro e' w2 ⟨q, rfl, hq2, b2⟩; have HQ := Lib.hid hq2; have HB2 := Lib.hid (HB.out.on b2); have BL2 := Lib.hid (BL.out.trans (b2.mono BL.out.size)); have hsz12 : w1.heap.size ≤ w2.heap.size := b2.size; have HT6 := Lib.hid (HT5.out.kept b2); have y0 := (b2.cell (p := ⟨g, 0, none⟩) hg1).trans X0.out; clear HB BL hq2 x0; clear b2; unfold inC))
        have b9 : Blk (w2.alloc (.cells (inC q) 24)) w2.heap.size 24 (inC q) := Blk.new _ _ _
        have hb3 := HB2.out.alloc (.cells (inC q) 24)
        have bl3 := BL2.out.alloc BL2.out.size (.cells (inC q) 24)
        have t3 := (HT6.out.kept ((Below.refl w1.heap.size w2).alloc (o := .cells (inC q) 24) hsz12)).in_
        have z0 : (w2.alloc (.cells (inC q) 24)).cell? ⟨g, 0, none⟩ = some (.string (bs a0)) := (World.cell?_alloc_lt _ _ _ (Nat.lt_of_lt_of_le hg1 hsz12)).trans y0
        have hg2 : g < w2.heap.size := Nat.lt_of_lt_of_le hg1 hsz12
        obtain ⟨V9, hV9⟩ : ∃ V9, w2.heap.size = V9 := ⟨_, rfl⟩
        have hq9 := HB2.out.lt
        rw [hV9] at b9 hg2 hq9 ⊢
        unfold inC at b9 hb3 bl3 t3 z0
        have hs3 : V9 + 1 = (w2.alloc (.cells #[.int .i64 q.1, .int .i64 q.2.1, .int .i64 q.2.2.1, .int .i64 q.2.2.2] 24)).heap.size := by rw [← hV9]; simp
        generalize (w2.alloc (.cells _ 24)) = w3 at b9 hb3 bl3 t3 z0 hs3 ⊢
        have B9 := Lib.hid b9
        have HB3 := Lib.hid hb3
        have BL3 := Lib.hid bl3
        have T3 := Lib.hid t3
        have Z3 := Lib.hid z0
        have m0 : w3.cell? ⟨V9, 1, none⟩ = some (.int .i64 q.2.1) := b9.cell 1
        clear b9 hb3 bl3 t3 z0 y0 HT6 HB2 BL2 hV9 HW hsl HTS HT5
        refine wp_region_held_drew (S := fun W' : World => W'.cell? ⟨V9, 1, none⟩ = some (.int .i64 q.2.1)) (by kernel_rfl) m0 (fun H0 => ?_)
        refine wpAnyH_take (i := 0) (v := .slice (some ⟨g, 0, none⟩) 8 c) rfl (by kernel_rfl) (by kernel_rfl) (by kernel_rfl) (fun _ _ _ h => h) (.inl ⟨rfl, fun w hS => by go_simp⟩) H0 ?_
        simp only [Act.put, List.getElem_toArray, List.getElem_cons_zero, List.setIfInBounds_toArray, List.set_cons_zero, List.set_cons_succ]
        refine wpAnyH_take (i := 1) (v := .slice A5 2 (c - 6)) rfl (by kernel_rfl) (by kernel_rfl) (by kernel_rfl) (fun _ _ _ h => h) (.inl ⟨rfl, fun w hS => by go_simp⟩) H0 ?_
        simp only [Act.put, List.getElem_toArray, List.getElem_cons_succ, List.getElem_cons_zero, List.setIfInBounds_toArray, List.set_cons_zero, List.set_cons_succ]
        refine wpAnyH_take (i := 2) (v := .pointer (some ⟨V9, 1, none⟩)) rfl (by kernel_rfl) (by kernel_rfl) (by kernel_rfl) (fun _ _ _ h => h) (.inl ⟨rfl, fun w hS => by go_simp⟩) H0 ?_
        simp only [Act.put, List.getElem_toArray, List.getElem_cons_succ, List.getElem_cons_zero, List.setIfInBounds_toArray, List.set_cons_zero, List.set_cons_succ]
        refine wpAnyH_take (i := 3) (v := .int .i64 q.2.1) rfl (by kernel_rfl) (by kernel_rfl) (by kernel_rfl) (fun _ _ _ h => h) (.inl ⟨rfl, fun w hS => by go_simp⟩) H0 ?_
        simp only [Act.put, List.getElem_toArray, List.getElem_cons_succ, List.getElem_cons_zero, List.setIfInBounds_toArray, List.set_cons_zero, List.set_cons_succ]
        refine wpAnyH_ready (rs := [4, 8]) (by kernel_rfl) (by simp) ?_
        refine AllReadyH.cons rfl (fun KK hK => ?_) (AllReadyH.cons rfl (fun KK hK => ?_) AllReadyH.nil)
        · refine step_call rfl 36 #[.tmp 45, .tmp 47] #[57, 3] rfl #[.slice A5 2 (c - 6), .int .i64 q.2.1] (by simp [Act.eval]) (enters_of Tryd.func36 (by kernel_rfl) rfl) ?_
          refine (HOU.out A5 (c - 6) q.2.1 w3.drew T3.out).mono ?_
          rintro r w4 ⟨q5, rfl, hq5, b4⟩
          have b4 : Below w3.heap.size w3 w4 := ⟨b4.os, b4.tape, b4.output, b4.size, b4.block⟩
          have B4 := Lib.hid (B9.out.on b4)
          have HB4 := Lib.hid (HB3.out.on b4)
          have BL4 := Lib.hid (BL3.out.trans (b4.mono BL3.out.size))
          have HQ5 := Lib.hid hq5
          have Z4 := Lib.hid ((b4.cell (p := ⟨g, 0, none⟩) (by simp only; omega)).trans Z3.out)
          have hs4 := b4.size
          have m4 : w4.cell? ⟨V9, 1, none⟩ = some (.int .i64 q.2.1) := B4.out.cell 1
          clear b4 hq5 hs5 B9 HB3 BL3 T3 m0 H0
          refine ⟨_, rfl, hK.out _ _ m4 (fun _ => ?_)⟩
          clear hK KK
          simp only [Act.put, List.getElem_toArray, List.getElem_cons_succ, List.getElem_cons_zero, List.setIfInBounds_toArray, List.set_cons_zero, List.set_cons_succ]
          refine wpAnyH_take (i := 5) (v := .tuple #[.agg (ouC q5), .bool false]) rfl (by kernel_rfl) (by kernel_rfl) (by kernel_rfl) (fun _ _ _ h => h) (.inl ⟨rfl, fun w hS => by go_simp⟩) m4 ?_
          simp only [Act.put, List.getElem_toArray, List.getElem_cons_succ, List.getElem_cons_zero, List.setIfInBounds_toArray, List.set_cons_zero, List.set_cons_succ]
          refine wpAnyH_take (i := 6) (v := .agg (ouC q5)) rfl (by kernel_rfl) (by kernel_rfl) (by kernel_rfl) (fun _ _ _ h => h) (.inl ⟨rfl, fun w hS => by go_simp⟩) m4 ?_
          simp only [Act.put, List.getElem_toArray, List.getElem_cons_succ, List.getElem_cons_zero, List.setIfInBounds_toArray, List.set_cons_zero, List.set_cons_succ]
          refine wpAnyH_take (i := 7) (v := .bool false) rfl (by kernel_rfl) (by kernel_rfl) (by kernel_rfl) (fun _ _ _ h => h) (.inl ⟨rfl, fun w hS => by go_simp⟩) m4 ?_
          simp only [Act.put, List.getElem_toArray, List.getElem_cons_succ, List.getElem_cons_zero, List.setIfInBounds_toArray, List.set_cons_zero, List.set_cons_succ]
          refine wpAnyH_ready (rs := [8]) (by kernel_rfl) (by simp) ?_
          refine AllReadyH.cons rfl (fun KK hK => ?_) AllReadyH.nil
          go_simp
          have b5 := Blk.new w4 26 (ouC (0, 0, 0))
          have b9 := B4.out.alloc (.cells (ouC (0, 0, 0)) 26)
          have hb5 := HB4.out.alloc (.cells (ouC (0, 0, 0)) 26)
          have bl5 := BL4.out.alloc BL4.out.size (.cells (ouC (0, 0, 0)) 26)
          have z5 := (World.cell?_alloc_lt w4 (.cells (ouC (0, 0, 0)) 26) ⟨g, 0, none⟩ (by simp only; omega)).trans Z4.out
          have v9 := B4.out.lt
          have v0 := BL4.out.size
          have v2 := HB4.out.lt
          have vg : g < w4.heap.size := by omega
          obtain ⟨V11, hV11⟩ : ∃ V11, w4.heap.size = V11 := ⟨_, rfl⟩
          rw [hV11] at b5 v9 v0 v2 vg ⊢
          unfold ouC at b5 b9 hb5 bl5 z5
          generalize (w4.alloc (.cells _ 26)) = w5 at b5 b9 hb5 bl5 z5 ⊢
          have B5 := Lib.hid b5
          have C9 := Lib.hid b9
          have HB5 := Lib.hid hb5
          have BL5 := Lib.hid bl5
          have Z5 := Lib.hid z5
          have m5 : w5.cell? ⟨V9, 1, none⟩ = some (.int .i64 q.2.1) := b9.cell 1
          clear b5 b9 hb5 bl5 z5 B4 HB4 BL4 Z4 m4 hV11
          refine hK.out _ _ m5 (fun _ => ?_)
          clear hK KK
          try simp only [Act.put, List.getElem_toArray, List.getElem_cons_succ, List.getElem_cons_zero, List.setIfInBounds_toArray, List.set_cons_zero, List.set_cons_succ]
          refine wpAnyH_ready (rs := [9]) (by kernel_rfl) (by simp) ?_
          refine AllReadyH.cons rfl (fun KK hK => ?_) AllReadyH.nil
          refine (if_pos (show Region.wanted _ _ = true by rfl)).mpr ?_
          refine wp_store_row 26 (.tmp 7) (.tmp 49) rfl V11 (ouC q5) rfl rfl 26 (ouC (0, 0, 0)) B5.out ou_size rfl (ou_one q5) ?_
          have b6 : Blk (w5.setRow V11 (ouC q5)) V11 26 (ouC q5) := setRow_heap _ _ _ _ _ _ B5.out
          have c6 : Blk (w5.setRow V11 (ouC q5)) V9 24 (inC q) := (setRow_other w5 V11 V9 _ (by omega)).trans C9.out
          have hb6 : Blk (w5.setRow V11 (ouC q5)) w.heap.size 28 (bdC zeroB) := (setRow_other w5 V11 w.heap.size _ (by omega)).trans HB5.out
          have z6 : (w5.setRow V11 (ouC q5)).cell? ⟨g, 0, none⟩ = some (.string (bs a0)) := (World.cell?_of_block (setRow_other w5 V11 _ _ (by simp only; omega))).trans Z5.out
          have bl6 : Below w.heap.size w (w5.setRow V11 (ouC q5)) := below_setRow BL5.out v0 _
          generalize w5.setRow V11 (ouC q5) = w6 at b6 c6 hb6 bl6 z6 ⊢
          have B6 := Lib.hid b6
          have C6 := Lib.hid c6
          have HB6 := Lib.hid hb6
          have BL6 := Lib.hid bl6
          have Z6 := Lib.hid z6
          have m6 : w6.cell? ⟨V9, 1, none⟩ = some (.int .i64 q.2.1) := c6.cell 1
          clear b6 c6 hb6 bl6 z6 B5 C9 HB5 BL5 Z5 m5
          refine hK.out _ _ m6 (fun _ => ?_)
          clear hK KK
          try simp only [Act.put, List.getElem_toArray, List.getElem_cons_succ, List.getElem_cons_zero, List.setIfInBounds_toArray, List.set_cons_zero, List.set_cons_succ]
          refine wpAnyH_take (i := 10) (v := .bool false) rfl (by kernel_rfl) (by kernel_rfl) (by kernel_rfl) (fun _ _ _ h => h) (.inl ⟨rfl, fun w hS => by go_simp⟩) m6 ?_
          simp only [Act.put, List.getElem_toArray, List.getElem_cons_succ, List.getElem_cons_zero, List.setIfInBounds_toArray, List.set_cons_zero, List.set_cons_succ]
          refine wpAnyH_done (by kernel_rfl) ?_ _
          go_wp2_with (refine wpList_store_row rfl 28 (.tmp 2) (.tmp 57) rfl w.heap.size (bdC zeroB) rfl rfl 28 (bdC zeroB) HB6.out bd_size rfl (bd_one _) ?_)
          refine rread_ret (w := w) (q := zeroB) (z := 13) rfl rfl rfl (setRow_heap _ _ _ _ _ _ HB6.out) ⟨by rw [HR.out], below_setRow BL6.out (Nat.le_refl _) _⟩
        · go_simp
          have b5 := Blk.new w3 26 (ouC (0, 0, 0))
          have b9 := B9.out.alloc (.cells (ouC (0, 0, 0)) 26)
          have hb5 := HB3.out.alloc (.cells (ouC (0, 0, 0)) 26)
          have bl5 := BL3.out.alloc BL3.out.size (.cells (ouC (0, 0, 0)) 26)
          have z5 := (World.cell?_alloc_lt w3 (.cells (ouC (0, 0, 0)) 26) ⟨g, 0, none⟩ (by simp only; omega)).trans Z3.out
          have v9 := B9.out.lt
          have v0 := BL3.out.size
          have v2 := HB3.out.lt
          have vg : g < w3.heap.size := by omega
          have t4 := (T3.out.kept (w' := w3.alloc (.cells (ouC (0, 0, 0)) 26)) ((Below.refl w3.heap.size w3).alloc (o := (.cells (ouC (0, 0, 0)) 26)) (Nat.le_refl _))).in_
          have hs9 : w3.heap.size < (w3.alloc (.cells (ouC (0, 0, 0)) 26)).heap.size := by simp
          obtain ⟨V11, hV11⟩ : ∃ V11, w3.heap.size = V11 := ⟨_, rfl⟩
          rw [hV11] at b5 v9 v0 v2 vg hs9 ⊢
          obtain ⟨w4, hw4⟩ : ∃ w4, (w3.alloc (.cells (ouC (0, 0, 0)) 26)).drew = w4 := ⟨_, rfl⟩
          have b5 : Blk w4 V11 26 (ouC (0, 0, 0)) := by rw [← hw4]; exact b5
          have b9 : Blk w4 V9 24 (inC q) := by rw [← hw4]; exact b9
          have hb5 : Blk w4 w.heap.size 28 (bdC zeroB) := by rw [← hw4]; exact hb5
          have bl5 : Below w.heap.size w w4 := by rw [← hw4]; exact bl5.drew
          have z5 : w4.cell? ⟨g, 0, none⟩ = some (.string (bs a0)) := by rw [← hw4]; exact z5
          have t4 : TS w4.heap.size w4 A5 2 (c - 6) [a6, a7] := by rw [← hw4]; exact t4
          have hs9 : V11 < w4.heap.size := by rw [← hw4]; exact hs9
          unfold ouC at hw4 b5
          rw [hw4]
          have E5 := Lib.hid b5
          have E9 := Lib.hid b9
          have HE5 := Lib.hid hb5
          have BE5 := Lib.hid bl5
          have T4 := Lib.hid t4
          have ZE5 := Lib.hid z5
          have m4 : w4.cell? ⟨V9, 1, none⟩ = some (.int .i64 q.2.1) := b9.cell 1
          clear b5 b9 hb5 bl5 t4 z5 B9 HB3 BL3 T3 hV11 hw4 m0 H0
          refine hK.out _ _ m4 (fun _ => ?_)
          clear hK KK
          try simp only [Act.put, List.getElem_toArray, List.getElem_cons_succ, List.getElem_cons_zero, List.setIfInBounds_toArray, List.set_cons_zero, List.set_cons_succ]
          refine wpAnyH_ready (rs := [4]) (by kernel_rfl) (by simp) ?_
          refine AllReadyH.cons rfl (fun KK hK => ?_) AllReadyH.nil
          refine step_call rfl 36 #[.tmp 45, .tmp 47] #[57, 3] rfl #[.slice A5 2 (c - 6), .int .i64 q.2.1] (by simp [Act.eval]) (enters_of Tryd.func36 (by kernel_rfl) rfl) ?_
          refine (HOU.out A5 (c - 6) q.2.1 _ T4.out).mono ?_
          rintro r w5 ⟨q5, rfl, hq5, b4⟩
          have B5 := Lib.hid (E5.out.on b4)
          have C9 := Lib.hid (E9.out.on b4)
          have HB5 := Lib.hid (HE5.out.on b4)
          have BL5 := Lib.hid (BE5.out.trans (b4.mono BE5.out.size))
          have HQ5 := Lib.hid hq5
          have Z5 := Lib.hid ((b4.cell (p := ⟨g, 0, none⟩) (by simp only; omega)).trans ZE5.out)
          have m5 : w5.cell? ⟨V9, 1, none⟩ = some (.int .i64 q.2.1) := C9.out.cell 1
          clear b4 hq5 hs5 m4
          refine ⟨_, rfl, hK.out _ _ m5 (fun _ => ?_)⟩
          clear hK KK
          simp only [Act.put, List.getElem_toArray, List.getElem_cons_succ, List.getElem_cons_zero, List.setIfInBounds_toArray, List.set_cons_zero, List.set_cons_succ]
          refine wpAnyH_take (i := 5) (v := .tuple #[.agg (ouC q5), .bool false]) rfl (by kernel_rfl) (by kernel_rfl) (by kernel_rfl) (fun _ _ _ h => h) (.inl ⟨rfl, fun w hS => by go_simp⟩) m5 ?_
          simp only [Act.put, List.getElem_toArray, List.getElem_cons_succ, List.getElem_cons_zero, List.setIfInBounds_toArray, List.set_cons_zero, List.set_cons_succ]
          refine wpAnyH_take (i := 6) (v := .agg (ouC q5)) rfl (by kernel_rfl) (by kernel_rfl) (by kernel_rfl) (fun _ _ _ h => h) (.inl ⟨rfl, fun w hS => by go_simp⟩) m5 ?_
          simp only [Act.put, List.getElem_toArray, List.getElem_cons_succ, List.getElem_cons_zero, List.setIfInBounds_toArray, List.set_cons_zero, List.set_cons_succ]
          refine wpAnyH_take (i := 7) (v := .bool false) rfl (by kernel_rfl) (by kernel_rfl) (by kernel_rfl) (fun _ _ _ h => h) (.inl ⟨rfl, fun w hS => by go_simp⟩) m5 ?_
          simp only [Act.put, List.getElem_toArray, List.getElem_cons_succ, List.getElem_cons_zero, List.setIfInBounds_toArray, List.set_cons_zero, List.set_cons_succ]
          refine wpAnyH_ready (rs := [9]) (by kernel_rfl) (by simp) ?_
          refine AllReadyH.cons rfl (fun KK hK => ?_) AllReadyH.nil
          refine (if_pos (show Region.wanted _ _ = true by rfl)).mpr ?_
          refine wp_store_row 26 (.tmp 7) (.tmp 49) rfl V11 (ouC q5) rfl rfl 26 (ouC (0, 0, 0)) B5.out ou_size rfl (ou_one q5) ?_
          have b6 : Blk (w5.setRow V11 (ouC q5)) V11 26 (ouC q5) := setRow_heap _ _ _ _ _ _ B5.out
          have c6 : Blk (w5.setRow V11 (ouC q5)) V9 24 (inC q) := (setRow_other w5 V11 V9 _ (by omega)).trans C9.out
          have hb6 : Blk (w5.setRow V11 (ouC q5)) w.heap.size 28 (bdC zeroB) := (setRow_other w5 V11 w.heap.size _ (by omega)).trans HB5.out
          have z6 : (w5.setRow V11 (ouC q5)).cell? ⟨g, 0, none⟩ = some (.string (bs a0)) := (World.cell?_of_block (setRow_other w5 V11 _ _ (by simp only; omega))).trans Z5.out
          have bl6 : Below w.heap.size w (w5.setRow V11 (ouC q5)) := below_setRow BL5.out v0 _
          generalize w5.setRow V11 (ouC q5) = w6 at b6 c6 hb6 bl6 z6 ⊢
          have B6 := Lib.hid b6
          have C6 := Lib.hid c6
          have HB6 := Lib.hid hb6
          have BL6 := Lib.hid bl6
          have Z6 := Lib.hid z6
          have m6 : w6.cell? ⟨V9, 1, none⟩ = some (.int .i64 q.2.1) := c6.cell 1
          clear b6 c6 hb6 bl6 z6 B5 C9 HB5 BL5 Z5 m5
          refine hK.out _ _ m6 (fun _ => ?_)
          clear hK KK
          try simp only [Act.put, List.getElem_toArray, List.getElem_cons_succ, List.getElem_cons_zero, List.setIfInBounds_toArray, List.set_cons_zero, List.set_cons_succ]
          refine wpAnyH_take (i := 10) (v := .bool false) rfl (by kernel_rfl) (by kernel_rfl) (by kernel_rfl) (fun _ _ _ h => h) (.inl ⟨rfl, fun w hS => by go_simp⟩) m6 ?_
          simp only [Act.put, List.getElem_toArray, List.getElem_cons_succ, List.getElem_cons_zero, List.setIfInBounds_toArray, List.set_cons_zero, List.set_cons_succ]
          refine wpAnyH_done (by kernel_rfl) ?_ _
          go_wp2_with (refine wpList_store_row rfl 28 (.tmp 2) (.tmp 57) rfl w.heap.size (bdC zeroB) rfl rfl 28 (bdC zeroB) HB6.out bd_size rfl (bd_one _) ?_)
          refine rread_ret (w := w) (q := zeroB) (z := 13) rfl rfl rfl (setRow_heap _ _ _ _ _ _ HB6.out) ⟨by rw [HR.out], below_setRow BL6.out (Nat.le_refl _) _⟩
      · have HR := Lib.hid (HRS.out (innerI x, ((innerI x).2.1, (y.1 : Int), (y.2 : Int)), false) rfl)
        clear HRS HRN
        have HIN := Lib.hid (show ∀ A m W, TS W.heap.size W A 4 m [a1, a2, a3, a4] → Calls Tryd.prog 35 #[.slice A 4 m] W (InP W (some x)) from HIN.out)
        have HOU := Lib.hid (show ∀ A m p W, TS W.heap.size W A 2 m [a6, a7] → Calls Tryd.prog 36 #[.slice A 2 m, .int .i64 p] W (OuP W p (some y)) from HOU.out)
        go_enter Tryd.func12, Tryd.ntmps12
        go_upto_region 7 with (first
          | (go_at_call 34; refine HW.out.mono ?_; rintro e w1 ⟨g, c, rfl, hc1, hc2, tr, b1⟩; have HB := Lib.hid ((Blk.new w 28 (bdC zeroB)).on b1); have BL := Lib.hid (BL0.out.trans (b1.mono (by omega))); have x0 := tr.cell (k := 0) rfl; simp only [Nat.zero_add, Nat.add_zero] at x0; have x5 := tr.cell (k := 5) rfl; simp only [Nat.zero_add, Nat.add_zero] at x5; have X0 := Lib.hid x0; have hgb : g ≠ w.heap.size := (by intro e; have k := HB.out.cell 0; rw [← e, x0] at k; exact absurd k (by simp [bdC, zeroB])); obtain ⟨A', hsl, htl⟩ := TS.mid (B := w1.heap.size) (A := some ⟨g, 0, none⟩) hc1 (by omega); obtain ⟨A5, hs5, ht5⟩ := TS.tail (B := w1.heap.size) (A := some ⟨g, 0, none⟩) hc1 6 (by omega); have hs5 : ∀ w' : World, (Instr.slice 57 (.slice (some ⟨g, 0, none⟩) 8 c) (some (.int .i64 6)) none none).run Tryd.prog w' = .ok (.slice A5 2 (c - 6)) w' := hs5; have HTS := Lib.hid (htl _ _ (TS.of tr tr.1 hc1 hc2)); have HT5 := Lib.hid (ht5 _ _ (TS.of tr tr.1 hc1 hc2)); have hg1 : g < w1.heap.size := tr.1; clear htl ht5; clear tr b1 hc1 hc2)
          | (go_at_call 35; refine (HIN.out _ _ _ HTS.out).mono ?_; rintro e' w2 ⟨q, rfl, hq2, b2⟩; have HQ := Lib.hid hq2; have HB2 := Lib.hid (HB.out.on b2); have BL2 := Lib.hid (BL.out.trans (b2.mono BL.out.size)); have hsz12 : w1.heap.size ≤ w2.heap.size := b2.size; have HT6 := Lib.hid (HT5.out.kept b2); have y0 := (b2.cell (p := ⟨g, 0, none⟩) hg1).trans X0.out; clear HB BL hq2 x0; clear b2; unfold inC))
        have b9 : Blk (w2.alloc (.cells (inC q) 24)) w2.heap.size 24 (inC q) := Blk.new _ _ _
        have hb3 := HB2.out.alloc (.cells (inC q) 24)
        have bl3 := BL2.out.alloc BL2.out.size (.cells (inC q) 24)
        have t3 := (HT6.out.kept ((Below.refl w1.heap.size w2).alloc (o := .cells (inC q) 24) hsz12)).in_
        have z0 : (w2.alloc (.cells (inC q) 24)).cell? ⟨g, 0, none⟩ = some (.string (bs a0)) := (World.cell?_alloc_lt _ _ _ (Nat.lt_of_lt_of_le hg1 hsz12)).trans y0
        have hg2 : g < w2.heap.size := Nat.lt_of_lt_of_le hg1 hsz12
        obtain ⟨V9, hV9⟩ : ∃ V9, w2.heap.size = V9 := ⟨_, rfl⟩
        have hq9 := HB2.out.lt
        rw [hV9] at b9 hg2 hq9 ⊢
        unfold inC at b9 hb3 bl3 t3 z0
        have hs3 : V9 + 1 = (w2.alloc (.cells #[.int .i64 q.1, .int .i64 q.2.1, .int .i64 q.2.2.1, .int .i64 q.2.2.2] 24)).heap.size := by rw [← hV9]; simp
        generalize (w2.alloc (.cells _ 24)) = w3 at b9 hb3 bl3 t3 z0 hs3 ⊢
        have B9 := Lib.hid b9
        have HB3 := Lib.hid hb3
        have BL3 := Lib.hid bl3
        have T3 := Lib.hid t3
        have Z3 := Lib.hid z0
        have m0 : w3.cell? ⟨V9, 1, none⟩ = some (.int .i64 q.2.1) := b9.cell 1
        clear b9 hb3 bl3 t3 z0 y0 HT6 HB2 BL2 hV9 HW hsl HTS HT5
        refine wp_region_held_drew (S := fun W' : World => W'.cell? ⟨V9, 1, none⟩ = some (.int .i64 q.2.1)) (by kernel_rfl) m0 (fun H0 => ?_)
        refine wpAnyH_take (i := 0) (v := .slice (some ⟨g, 0, none⟩) 8 c) rfl (by kernel_rfl) (by kernel_rfl) (by kernel_rfl) (fun _ _ _ h => h) (.inl ⟨rfl, fun w hS => by go_simp⟩) H0 ?_
        simp only [Act.put, List.getElem_toArray, List.getElem_cons_zero, List.setIfInBounds_toArray, List.set_cons_zero, List.set_cons_succ]
        refine wpAnyH_take (i := 1) (v := .slice A5 2 (c - 6)) rfl (by kernel_rfl) (by kernel_rfl) (by kernel_rfl) (fun _ _ _ h => h) (.inl ⟨rfl, fun w hS => by go_simp⟩) H0 ?_
        simp only [Act.put, List.getElem_toArray, List.getElem_cons_succ, List.getElem_cons_zero, List.setIfInBounds_toArray, List.set_cons_zero, List.set_cons_succ]
        refine wpAnyH_take (i := 2) (v := .pointer (some ⟨V9, 1, none⟩)) rfl (by kernel_rfl) (by kernel_rfl) (by kernel_rfl) (fun _ _ _ h => h) (.inl ⟨rfl, fun w hS => by go_simp⟩) H0 ?_
        simp only [Act.put, List.getElem_toArray, List.getElem_cons_succ, List.getElem_cons_zero, List.setIfInBounds_toArray, List.set_cons_zero, List.set_cons_succ]
        refine wpAnyH_take (i := 3) (v := .int .i64 q.2.1) rfl (by kernel_rfl) (by kernel_rfl) (by kernel_rfl) (fun _ _ _ h => h) (.inl ⟨rfl, fun w hS => by go_simp⟩) H0 ?_
        simp only [Act.put, List.getElem_toArray, List.getElem_cons_succ, List.getElem_cons_zero, List.setIfInBounds_toArray, List.set_cons_zero, List.set_cons_succ]
        refine wpAnyH_ready (rs := [4, 8]) (by kernel_rfl) (by simp) ?_
        refine AllReadyH.cons rfl (fun KK hK => ?_) (AllReadyH.cons rfl (fun KK hK => ?_) AllReadyH.nil)
        · refine step_call rfl 36 #[.tmp 45, .tmp 47] #[57, 3] rfl #[.slice A5 2 (c - 6), .int .i64 q.2.1] (by simp [Act.eval]) (enters_of Tryd.func36 (by kernel_rfl) rfl) ?_
          refine (HOU.out A5 (c - 6) q.2.1 w3.drew T3.out).mono ?_
          rintro r w4 ⟨q5, rfl, hq5, b4⟩
          have b4 : Below w3.heap.size w3 w4 := ⟨b4.os, b4.tape, b4.output, b4.size, b4.block⟩
          have B4 := Lib.hid (B9.out.on b4)
          have HB4 := Lib.hid (HB3.out.on b4)
          have BL4 := Lib.hid (BL3.out.trans (b4.mono BL3.out.size))
          have HQ5 := Lib.hid hq5
          have Z4 := Lib.hid ((b4.cell (p := ⟨g, 0, none⟩) (by simp only; omega)).trans Z3.out)
          have hs4 := b4.size
          have m4 : w4.cell? ⟨V9, 1, none⟩ = some (.int .i64 q.2.1) := B4.out.cell 1
          clear b4 hq5 hs5 B9 HB3 BL3 T3 m0 H0
          refine ⟨_, rfl, hK.out _ _ m4 (fun _ => ?_)⟩
          clear hK KK
          simp only [Act.put, List.getElem_toArray, List.getElem_cons_succ, List.getElem_cons_zero, List.setIfInBounds_toArray, List.set_cons_zero, List.set_cons_succ]
          refine wpAnyH_take (i := 5) (v := .tuple #[.agg (ouC q5), .bool true]) rfl (by kernel_rfl) (by kernel_rfl) (by kernel_rfl) (fun _ _ _ h => h) (.inl ⟨rfl, fun w hS => by go_simp⟩) m4 ?_
          simp only [Act.put, List.getElem_toArray, List.getElem_cons_succ, List.getElem_cons_zero, List.setIfInBounds_toArray, List.set_cons_zero, List.set_cons_succ]
          refine wpAnyH_take (i := 6) (v := .agg (ouC q5)) rfl (by kernel_rfl) (by kernel_rfl) (by kernel_rfl) (fun _ _ _ h => h) (.inl ⟨rfl, fun w hS => by go_simp⟩) m4 ?_
          simp only [Act.put, List.getElem_toArray, List.getElem_cons_succ, List.getElem_cons_zero, List.setIfInBounds_toArray, List.set_cons_zero, List.set_cons_succ]
          refine wpAnyH_take (i := 7) (v := .bool true) rfl (by kernel_rfl) (by kernel_rfl) (by kernel_rfl) (fun _ _ _ h => h) (.inl ⟨rfl, fun w hS => by go_simp⟩) m4 ?_
          simp only [Act.put, List.getElem_toArray, List.getElem_cons_succ, List.getElem_cons_zero, List.setIfInBounds_toArray, List.set_cons_zero, List.set_cons_succ]
          refine wpAnyH_ready (rs := [8]) (by kernel_rfl) (by simp) ?_
          refine AllReadyH.cons rfl (fun KK hK => ?_) AllReadyH.nil
          go_simp
          have b5 := Blk.new w4 26 (ouC (0, 0, 0))
          have b9 := B4.out.alloc (.cells (ouC (0, 0, 0)) 26)
          have hb5 := HB4.out.alloc (.cells (ouC (0, 0, 0)) 26)
          have bl5 := BL4.out.alloc BL4.out.size (.cells (ouC (0, 0, 0)) 26)
          have z5 := (World.cell?_alloc_lt w4 (.cells (ouC (0, 0, 0)) 26) ⟨g, 0, none⟩ (by simp only; omega)).trans Z4.out
          have v9 := B4.out.lt
          have v0 := BL4.out.size
          have v2 := HB4.out.lt
          have vg : g < w4.heap.size := by omega
          obtain ⟨V11, hV11⟩ : ∃ V11, w4.heap.size = V11 := ⟨_, rfl⟩
          rw [hV11] at b5 v9 v0 v2 vg ⊢
          unfold ouC at b5 b9 hb5 bl5 z5
          generalize (w4.alloc (.cells _ 26)) = w5 at b5 b9 hb5 bl5 z5 ⊢
          have B5 := Lib.hid b5
          have C9 := Lib.hid b9
          have HB5 := Lib.hid hb5
          have BL5 := Lib.hid bl5
          have Z5 := Lib.hid z5
          have m5 : w5.cell? ⟨V9, 1, none⟩ = some (.int .i64 q.2.1) := b9.cell 1
          clear b5 b9 hb5 bl5 z5 B4 HB4 BL4 Z4 m4 hV11
          refine hK.out _ _ m5 (fun _ => ?_)
          clear hK KK
          try simp only [Act.put, List.getElem_toArray, List.getElem_cons_succ, List.getElem_cons_zero, List.setIfInBounds_toArray, List.set_cons_zero, List.set_cons_succ]
          refine wpAnyH_ready (rs := [9]) (by kernel_rfl) (by simp) ?_
          refine AllReadyH.cons rfl (fun KK hK => ?_) AllReadyH.nil
          refine (if_pos (show Region.wanted _ _ = true by rfl)).mpr ?_
          refine wp_store_row 26 (.tmp 7) (.tmp 49) rfl V11 (ouC q5) rfl rfl 26 (ouC (0, 0, 0)) B5.out ou_size rfl (ou_one q5) ?_
          have b6 : Blk (w5.setRow V11 (ouC q5)) V11 26 (ouC q5) := setRow_heap _ _ _ _ _ _ B5.out
          have c6 : Blk (w5.setRow V11 (ouC q5)) V9 24 (inC q) := (setRow_other w5 V11 V9 _ (by omega)).trans C9.out
          have hb6 : Blk (w5.setRow V11 (ouC q5)) w.heap.size 28 (bdC zeroB) := (setRow_other w5 V11 w.heap.size _ (by omega)).trans HB5.out
          have z6 : (w5.setRow V11 (ouC q5)).cell? ⟨g, 0, none⟩ = some (.string (bs a0)) := (World.cell?_of_block (setRow_other w5 V11 _ _ (by simp only; omega))).trans Z5.out
          have bl6 : Below w.heap.size w (w5.setRow V11 (ouC q5)) := below_setRow BL5.out v0 _
          generalize w5.setRow V11 (ouC q5) = w6 at b6 c6 hb6 bl6 z6 ⊢
          have B6 := Lib.hid b6
          have C6 := Lib.hid c6
          have HB6 := Lib.hid hb6
          have BL6 := Lib.hid bl6
          have Z6 := Lib.hid z6
          have m6 : w6.cell? ⟨V9, 1, none⟩ = some (.int .i64 q.2.1) := c6.cell 1
          clear b6 c6 hb6 bl6 z6 B5 C9 HB5 BL5 Z5 m5
          refine hK.out _ _ m6 (fun _ => ?_)
          clear hK KK
          try simp only [Act.put, List.getElem_toArray, List.getElem_cons_succ, List.getElem_cons_zero, List.setIfInBounds_toArray, List.set_cons_zero, List.set_cons_succ]
          refine wpAnyH_take (i := 10) (v := .bool true) rfl (by kernel_rfl) (by kernel_rfl) (by kernel_rfl) (fun _ _ _ h => h) (.inl ⟨rfl, fun w hS => by go_simp⟩) m6 ?_
          simp only [Act.put, List.getElem_toArray, List.getElem_cons_succ, List.getElem_cons_zero, List.setIfInBounds_toArray, List.set_cons_zero, List.set_cons_succ]
          refine wpAnyH_done (by kernel_rfl) ?_ _
          obtain rfl := HQ.out _ rfl
          obtain rfl := HQ5.out _ rfl
          clear m6
          go_upto_region 10 with fail
          refine wp_region_held_drew (S := (fun W' : World => Blk W' V9 24 (inC (innerI x)) ∧ Blk W' V11 26 (ouC ((innerI x).2.1, (y.1 : Int), (y.2 : Int))) ∧ W'.cell? ⟨g, 0, none⟩ = some (.string (bs a0)))) (by kernel_rfl) ⟨C6.out, B6.out, Z6.out⟩ (fun H0 => ?_)
          refine wpAnyH_take (i := 0) (v := .agg (inC (innerI x))) rfl (by kernel_rfl) (by kernel_rfl) (by kernel_rfl) (fun _ _ _ h => h) (yieldsIf_load_row rfl 24 (.tmp 5) rfl V9 rfl 24 (inC (innerI x)) _ (fun w hS => hS.1) Tryd.underlying24 rfl in_size) H0 ?_
          simp only [Act.put, List.getElem_toArray, List.getElem_cons_zero, List.setIfInBounds_toArray, List.set_cons_zero, List.set_cons_succ]
          refine wpAnyH_take (i := 1) (v := .agg (ouC ((innerI x).2.1, (y.1 : Int), (y.2 : Int)))) rfl (by kernel_rfl) (by kernel_rfl) (by kernel_rfl) (fun _ _ _ h => h) (yieldsIf_load_row rfl 26 (.tmp 7) rfl V11 rfl 26 (ouC ((innerI x).2.1, (y.1 : Int), (y.2 : Int))) _ (fun w hS => hS.2.1) Tryd.underlying26 rfl ou_size) H0 ?_
          simp only [Act.put, List.getElem_toArray, List.getElem_cons_succ, List.getElem_cons_zero, List.setIfInBounds_toArray, List.set_cons_zero, List.set_cons_succ]
          refine wpAnyH_take (i := 2) (v := .slice (some ⟨g, 0, none⟩) 8 c) rfl (by kernel_rfl) (by kernel_rfl) (by kernel_rfl) (fun _ _ _ h => h) (.inl ⟨rfl, fun w hS => by go_simp⟩) H0 ?_
          simp only [Act.put, List.getElem_toArray, List.getElem_cons_succ, List.getElem_cons_zero, List.setIfInBounds_toArray, List.set_cons_zero, List.set_cons_succ]
          refine wpAnyH_take (i := 3) (v := .pointer (some ⟨g, 0, none⟩)) rfl (by kernel_rfl) (by kernel_rfl) (by kernel_rfl) (fun _ _ _ h => h) (.inl ⟨rfl, fun w hS => by go_simp⟩) H0 ?_
          simp only [Act.put, List.getElem_toArray, List.getElem_cons_succ, List.getElem_cons_zero, List.setIfInBounds_toArray, List.set_cons_zero, List.set_cons_succ]
          refine wpAnyH_take (i := 4) (v := .string (bs a0)) rfl (by kernel_rfl) (by kernel_rfl) (by kernel_rfl) (fun _ _ _ h => h) (.inl ⟨rfl, fun w hS => by obtain ⟨_, _, m0⟩ := hS; go_simp⟩) H0 ?_
          simp only [Act.put, List.getElem_toArray, List.getElem_cons_succ, List.getElem_cons_zero, List.setIfInBounds_toArray, List.set_cons_zero, List.set_cons_succ]
          refine wpAnyH_take (i := 5) (v := .bool false) rfl (by kernel_rfl) (by kernel_rfl) (by kernel_rfl) (fun _ _ _ h => h) (.inl ⟨rfl, fun w hS => by go_simp⟩) H0 ?_
          simp only [Act.put, List.getElem_toArray, List.getElem_cons_succ, List.getElem_cons_zero, List.setIfInBounds_toArray, List.set_cons_zero, List.set_cons_succ]
          refine wpAnyH_take (i := 6) (v := .agg (bdC (innerI x, ((innerI x).2.1, (y.1 : Int), (y.2 : Int)), false))) rfl (by kernel_rfl) (by kernel_rfl) (by kernel_rfl) (fun _ _ _ h => h) (.inl ⟨rfl, fun w hS => by unfold inC ouC; go_simp; first | done | rfl⟩) H0 ?_
          simp only [Act.put, List.getElem_toArray, List.getElem_cons_succ, List.getElem_cons_zero, List.setIfInBounds_toArray, List.set_cons_zero, List.set_cons_succ]
          refine wpAnyH_ready (rs := [7]) (by kernel_rfl) (by simp) ?_
          refine AllReadyH.cons rfl (fun KK hK => ?_) AllReadyH.nil
          refine (if_pos (show Region.wanted _ _ = true by rfl)).mpr ?_
          refine wp_store_row 28 (.tmp 2) (.tmp 64) rfl w.heap.size (bdC (innerI x, ((innerI x).2.1, (y.1 : Int), (y.2 : Int)), false)) rfl rfl 28 (bdC zeroB) HB6.out bd_size rfl (bd_one _) ?_
          have hS' := (⟨(setRow_other w6.drew w.heap.size V9 _ (by omega)).trans C6.out, (setRow_other w6.drew w.heap.size V11 _ (by omega)).trans B6.out, (World.cell?_of_block (setRow_other w6.drew w.heap.size _ _ hgb)).trans Z6.out⟩ : (fun W' : World => Blk W' V9 24 (inC (innerI x)) ∧ Blk W' V11 26 (ouC ((innerI x).2.1, (y.1 : Int), (y.2 : Int))) ∧ W'.cell? ⟨g, 0, none⟩ = some (.string (bs a0))) (w6.drew.setRow w.heap.size (bdC (innerI x, ((innerI x).2.1, (y.1 : Int), (y.2 : Int)), false))))
          refine hK.out _ _ hS' (fun _ => ?_)
          clear hK KK
          try simp only [Act.put, List.getElem_toArray, List.getElem_cons_succ, List.getElem_cons_zero, List.setIfInBounds_toArray, List.set_cons_zero, List.set_cons_succ]
          refine wpAnyH_take (i := 8) (v := .int .i64 0) rfl (by kernel_rfl) (by kernel_rfl) (by kernel_rfl) (fun _ _ _ h => h) (.inl ⟨rfl, fun w hS => by go_simp⟩) hS' ?_
          simp only [Act.put, List.getElem_toArray, List.getElem_cons_succ, List.getElem_cons_zero, List.setIfInBounds_toArray, List.set_cons_zero, List.set_cons_succ]
          refine wpAnyH_done (by kernel_rfl) ?_ _
          go_wp2_with fail
          refine rread_ret (w := w) (q := (innerI x, ((innerI x).2.1, (y.1 : Int), (y.2 : Int)), false)) (z := 0) rfl rfl rfl (setRow_heap _ _ _ _ _ _ HB6.out) ⟨by rw [HR.out], below_setRow BL6.out.drew (Nat.le_refl _) _⟩
        · go_simp
          have b5 := Blk.new w3 26 (ouC (0, 0, 0))
          have b9 := B9.out.alloc (.cells (ouC (0, 0, 0)) 26)
          have hb5 := HB3.out.alloc (.cells (ouC (0, 0, 0)) 26)
          have bl5 := BL3.out.alloc BL3.out.size (.cells (ouC (0, 0, 0)) 26)
          have z5 := (World.cell?_alloc_lt w3 (.cells (ouC (0, 0, 0)) 26) ⟨g, 0, none⟩ (by simp only; omega)).trans Z3.out
          have v9 := B9.out.lt
          have v0 := BL3.out.size
          have v2 := HB3.out.lt
          have vg : g < w3.heap.size := by omega
          have t4 := (T3.out.kept (w' := w3.alloc (.cells (ouC (0, 0, 0)) 26)) ((Below.refl w3.heap.size w3).alloc (o := (.cells (ouC (0, 0, 0)) 26)) (Nat.le_refl _))).in_
          have hs9 : w3.heap.size < (w3.alloc (.cells (ouC (0, 0, 0)) 26)).heap.size := by simp
          obtain ⟨V11, hV11⟩ : ∃ V11, w3.heap.size = V11 := ⟨_, rfl⟩
          rw [hV11] at b5 v9 v0 v2 vg hs9 ⊢
          obtain ⟨w4, hw4⟩ : ∃ w4, (w3.alloc (.cells (ouC (0, 0, 0)) 26)).drew = w4 := ⟨_, rfl⟩
          have b5 : Blk w4 V11 26 (ouC (0, 0, 0)) := by rw [← hw4]; exact b5
          have b9 : Blk w4 V9 24 (inC q) := by rw [← hw4]; exact b9
          have hb5 : Blk w4 w.heap.size 28 (bdC zeroB) := by rw [← hw4]; exact hb5
          have bl5 : Below w.heap.size w w4 := by rw [← hw4]; exact bl5.drew
          have z5 : w4.cell? ⟨g, 0, none⟩ = some (.string (bs a0)) := by rw [← hw4]; exact z5
          have t4 : TS w4.heap.size w4 A5 2 (c - 6) [a6, a7] := by rw [← hw4]; exact t4
          have hs9 : V11 < w4.heap.size := by rw [← hw4]; exact hs9
          unfold ouC at hw4 b5
          rw [hw4]
          have E5 := Lib.hid b5
          have E9 := Lib.hid b9
          have HE5 := Lib.hid hb5
          have BE5 := Lib.hid bl5
          have T4 := Lib.hid t4
          have ZE5 := Lib.hid z5
          have m4 : w4.cell? ⟨V9, 1, none⟩ = some (.int .i64 q.2.1) := b9.cell 1
          clear b5 b9 hb5 bl5 t4 z5 B9 HB3 BL3 T3 hV11 hw4 m0 H0
          refine hK.out _ _ m4 (fun _ => ?_)
          clear hK KK
          try simp only [Act.put, List.getElem_toArray, List.getElem_cons_succ, List.getElem_cons_zero, List.setIfInBounds_toArray, List.set_cons_zero, List.set_cons_succ]
          refine wpAnyH_ready (rs := [4]) (by kernel_rfl) (by simp) ?_
          refine AllReadyH.cons rfl (fun KK hK => ?_) AllReadyH.nil
          refine step_call rfl 36 #[.tmp 45, .tmp 47] #[57, 3] rfl #[.slice A5 2 (c - 6), .int .i64 q.2.1] (by simp [Act.eval]) (enters_of Tryd.func36 (by kernel_rfl) rfl) ?_
          refine (HOU.out A5 (c - 6) q.2.1 _ T4.out).mono ?_
          rintro r w5 ⟨q5, rfl, hq5, b4⟩
          have B5 := Lib.hid (E5.out.on b4)
          have C9 := Lib.hid (E9.out.on b4)
          have HB5 := Lib.hid (HE5.out.on b4)
          have BL5 := Lib.hid (BE5.out.trans (b4.mono BE5.out.size))
          have HQ5 := Lib.hid hq5
          have Z5 := Lib.hid ((b4.cell (p := ⟨g, 0, none⟩) (by simp only; omega)).trans ZE5.out)
          have m5 : w5.cell? ⟨V9, 1, none⟩ = some (.int .i64 q.2.1) := C9.out.cell 1
          clear b4 hq5 hs5 m4
          refine ⟨_, rfl, hK.out _ _ m5 (fun _ => ?_)⟩
          clear hK KK
          simp only [Act.put, List.getElem_toArray, List.getElem_cons_succ, List.getElem_cons_zero, List.setIfInBounds_toArray, List.set_cons_zero, List.set_cons_succ]
          refine wpAnyH_take (i := 5) (v := .tuple #[.agg (ouC q5), .bool true]) rfl (by kernel_rfl) (by kernel_rfl) (by kernel_rfl) (fun _ _ _ h => h) (.inl ⟨rfl, fun w hS => by go_simp⟩) m5 ?_
          simp only [Act.put, List.getElem_toArray, List.getElem_cons_succ, List.getElem_cons_zero, List.setIfInBounds_toArray, List.set_cons_zero, List.set_cons_succ]
          refine wpAnyH_take (i := 6) (v := .agg (ouC q5)) rfl (by kernel_rfl) (by kernel_rfl) (by kernel_rfl) (fun _ _ _ h => h) (.inl ⟨rfl, fun w hS => by go_simp⟩) m5 ?_
          simp only [Act.put, List.getElem_toArray, List.getElem_cons_succ, List.getElem_cons_zero, List.setIfInBounds_toArray, List.set_cons_zero, List.set_cons_succ]
          refine wpAnyH_take (i := 7) (v := .bool true) rfl (by kernel_rfl) (by kernel_rfl) (by kernel_rfl) (fun _ _ _ h => h) (.inl ⟨rfl, fun w hS => by go_simp⟩) m5 ?_
          simp only [Act.put, List.getElem_toArray, List.getElem_cons_succ, List.getElem_cons_zero, List.setIfInBounds_toArray, List.set_cons_zero, List.set_cons_succ]
          refine wpAnyH_ready (rs := [9]) (by kernel_rfl) (by simp) ?_
          refine AllReadyH.cons rfl (fun KK hK => ?_) AllReadyH.nil
          refine (if_pos (show Region.wanted _ _ = true by rfl)).mpr ?_
          refine wp_store_row 26 (.tmp 7) (.tmp 49) rfl V11 (ouC q5) rfl rfl 26 (ouC (0, 0, 0)) B5.out ou_size rfl (ou_one q5) ?_
          have b6 : Blk (w5.setRow V11 (ouC q5)) V11 26 (ouC q5) := setRow_heap _ _ _ _ _ _ B5.out
          have c6 : Blk (w5.setRow V11 (ouC q5)) V9 24 (inC q) := (setRow_other w5 V11 V9 _ (by omega)).trans C9.out
          have hb6 : Blk (w5.setRow V11 (ouC q5)) w.heap.size 28 (bdC zeroB) := (setRow_other w5 V11 w.heap.size _ (by omega)).trans HB5.out
          have z6 : (w5.setRow V11 (ouC q5)).cell? ⟨g, 0, none⟩ = some (.string (bs a0)) := (World.cell?_of_block (setRow_other w5 V11 _ _ (by simp only; omega))).trans Z5.out
          have bl6 : Below w.heap.size w (w5.setRow V11 (ouC q5)) := below_setRow BL5.out v0 _
          generalize w5.setRow V11 (ouC q5) = w6 at b6 c6 hb6 bl6 z6 ⊢
          have B6 := Lib.hid b6
          have C6 := Lib.hid c6
          have HB6 := Lib.hid hb6
          have BL6 := Lib.hid bl6
          have Z6 := Lib.hid z6
          have m6 : w6.cell? ⟨V9, 1, none⟩ = some (.int .i64 q.2.1) := c6.cell 1
          clear b6 c6 hb6 bl6 z6 B5 C9 HB5 BL5 Z5 m5
          refine hK.out _ _ m6 (fun _ => ?_)
          clear hK KK
          try simp only [Act.put, List.getElem_toArray, List.getElem_cons_succ, List.getElem_cons_zero, List.setIfInBounds_toArray, List.set_cons_zero, List.set_cons_succ]
          refine wpAnyH_take (i := 10) (v := .bool true) rfl (by kernel_rfl) (by kernel_rfl) (by kernel_rfl) (fun _ _ _ h => h) (.inl ⟨rfl, fun w hS => by go_simp⟩) m6 ?_
          simp only [Act.put, List.getElem_toArray, List.getElem_cons_succ, List.getElem_cons_zero, List.setIfInBounds_toArray, List.set_cons_zero, List.set_cons_succ]
          refine wpAnyH_done (by kernel_rfl) ?_ _
          obtain rfl := HQ.out _ rfl
          obtain rfl := HQ5.out _ rfl
          clear m6
          go_upto_region 10 with fail
          refine wp_region_held_drew (S := (fun W' : World => Blk W' V9 24 (inC (innerI x)) ∧ Blk W' V11 26 (ouC ((innerI x).2.1, (y.1 : Int), (y.2 : Int))) ∧ W'.cell? ⟨g, 0, none⟩ = some (.string (bs a0)))) (by kernel_rfl) ⟨C6.out, B6.out, Z6.out⟩ (fun H0 => ?_)
          refine wpAnyH_take (i := 0) (v := .agg (inC (innerI x))) rfl (by kernel_rfl) (by kernel_rfl) (by kernel_rfl) (fun _ _ _ h => h) (yieldsIf_load_row rfl 24 (.tmp 5) rfl V9 rfl 24 (inC (innerI x)) _ (fun w hS => hS.1) Tryd.underlying24 rfl in_size) H0 ?_
          simp only [Act.put, List.getElem_toArray, List.getElem_cons_zero, List.setIfInBounds_toArray, List.set_cons_zero, List.set_cons_succ]
          refine wpAnyH_take (i := 1) (v := .agg (ouC ((innerI x).2.1, (y.1 : Int), (y.2 : Int)))) rfl (by kernel_rfl) (by kernel_rfl) (by kernel_rfl) (fun _ _ _ h => h) (yieldsIf_load_row rfl 26 (.tmp 7) rfl V11 rfl 26 (ouC ((innerI x).2.1, (y.1 : Int), (y.2 : Int))) _ (fun w hS => hS.2.1) Tryd.underlying26 rfl ou_size) H0 ?_
          simp only [Act.put, List.getElem_toArray, List.getElem_cons_succ, List.getElem_cons_zero, List.setIfInBounds_toArray, List.set_cons_zero, List.set_cons_succ]
          refine wpAnyH_take (i := 2) (v := .slice (some ⟨g, 0, none⟩) 8 c) rfl (by kernel_rfl) (by kernel_rfl) (by kernel_rfl) (fun _ _ _ h => h) (.inl ⟨rfl, fun w hS => by go_simp⟩) H0 ?_
          simp only [Act.put, List.getElem_toArray, List.getElem_cons_succ, List.getElem_cons_zero, List.setIfInBounds_toArray, List.set_cons_zero, List.set_cons_succ]
          refine wpAnyH_take (i := 3) (v := .pointer (some ⟨g, 0, none⟩)) rfl (by kernel_rfl) (by kernel_rfl) (by kernel_rfl) (fun _ _ _ h => h) (.inl ⟨rfl, fun w hS => by go_simp⟩) H0 ?_
          simp only [Act.put, List.getElem_toArray, List.getElem_cons_succ, List.getElem_cons_zero, List.setIfInBounds_toArray, List.set_cons_zero, List.set_cons_succ]
          refine wpAnyH_take (i := 4) (v := .string (bs a0)) rfl (by kernel_rfl) (by kernel_rfl) (by kernel_rfl) (fun _ _ _ h => h) (.inl ⟨rfl, fun w hS => by obtain ⟨_, _, m0⟩ := hS; go_simp⟩) H0 ?_
          simp only [Act.put, List.getElem_toArray, List.getElem_cons_succ, List.getElem_cons_zero, List.setIfInBounds_toArray, List.set_cons_zero, List.set_cons_succ]
          refine wpAnyH_take (i := 5) (v := .bool false) rfl (by kernel_rfl) (by kernel_rfl) (by kernel_rfl) (fun _ _ _ h => h) (.inl ⟨rfl, fun w hS => by go_simp⟩) H0 ?_
          simp only [Act.put, List.getElem_toArray, List.getElem_cons_succ, List.getElem_cons_zero, List.setIfInBounds_toArray, List.set_cons_zero, List.set_cons_succ]
          refine wpAnyH_take (i := 6) (v := .agg (bdC (innerI x, ((innerI x).2.1, (y.1 : Int), (y.2 : Int)), false))) rfl (by kernel_rfl) (by kernel_rfl) (by kernel_rfl) (fun _ _ _ h => h) (.inl ⟨rfl, fun w hS => by unfold inC ouC; go_simp; first | done | rfl⟩) H0 ?_
          simp only [Act.put, List.getElem_toArray, List.getElem_cons_succ, List.getElem_cons_zero, List.setIfInBounds_toArray, List.set_cons_zero, List.set_cons_succ]
          refine wpAnyH_ready (rs := [7]) (by kernel_rfl) (by simp) ?_
          refine AllReadyH.cons rfl (fun KK hK => ?_) AllReadyH.nil
          refine (if_pos (show Region.wanted _ _ = true by rfl)).mpr ?_
          refine wp_store_row 28 (.tmp 2) (.tmp 64) rfl w.heap.size (bdC (innerI x, ((innerI x).2.1, (y.1 : Int), (y.2 : Int)), false)) rfl rfl 28 (bdC zeroB) HB6.out bd_size rfl (bd_one _) ?_
          have hS' := (⟨(setRow_other w6.drew w.heap.size V9 _ (by omega)).trans C6.out, (setRow_other w6.drew w.heap.size V11 _ (by omega)).trans B6.out, (World.cell?_of_block (setRow_other w6.drew w.heap.size _ _ hgb)).trans Z6.out⟩ : (fun W' : World => Blk W' V9 24 (inC (innerI x)) ∧ Blk W' V11 26 (ouC ((innerI x).2.1, (y.1 : Int), (y.2 : Int))) ∧ W'.cell? ⟨g, 0, none⟩ = some (.string (bs a0))) (w6.drew.setRow w.heap.size (bdC (innerI x, ((innerI x).2.1, (y.1 : Int), (y.2 : Int)), false))))
          refine hK.out _ _ hS' (fun _ => ?_)
          clear hK KK
          try simp only [Act.put, List.getElem_toArray, List.getElem_cons_succ, List.getElem_cons_zero, List.setIfInBounds_toArray, List.set_cons_zero, List.set_cons_succ]
          refine wpAnyH_take (i := 8) (v := .int .i64 0) rfl (by kernel_rfl) (by kernel_rfl) (by kernel_rfl) (fun _ _ _ h => h) (.inl ⟨rfl, fun w hS => by go_simp⟩) hS' ?_
          simp only [Act.put, List.getElem_toArray, List.getElem_cons_succ, List.getElem_cons_zero, List.setIfInBounds_toArray, List.set_cons_zero, List.set_cons_succ]
          refine wpAnyH_done (by kernel_rfl) ?_ _
          go_wp2_with fail
          refine rread_ret (w := w) (q := (innerI x, ((innerI x).2.1, (y.1 : Int), (y.2 : Int)), false)) (z := 0) rfl rfl rfl (setRow_heap _ _ _ _ _ _ HB6.out) ⟨by rw [HR.out], below_setRow BL6.out.drew (Nat.le_refl _) _⟩
  · have q1 : ((bs a0).toList == [98, 111, 117, 110, 100]) = false := strs_ne (by rw [h0]; decide)
    have q2 : ((bs a0).toList == [115, 116, 97, 116, 105, 99]) = true := strs_eq h0
    clear h0
    rcases R with _ | x
    · rcases O with _ | y
      · have HR := Lib.hid (HRN.out rfl)
        clear HRS HRN
        have HIN := Lib.hid (show ∀ A m W, TS W.heap.size W A 4 m [a1, a2, a3, a4] → Calls Tryd.prog 35 #[.slice A 4 m] W (InP W (none)) from HIN.out)
        have HOU := Lib.hid (show ∀ A m p W, TS W.heap.size W A 2 m [a6, a7] → Calls Tryd.prog 36 #[.slice A 2 m, .int .i64 p] W (OuP W p (none)) from HOU.out)
        go_enter Tryd.func12, Tryd.ntmps12
        go_upto_region 7 with (first
          | (go_at_call 34; refine HW.out.mono ?_; rintro e w1 ⟨g, c, rfl, hc1, hc2, tr, b1⟩; have HB := Lib.hid ((Blk.new w 28 (bdC zeroB)).on b1); have BL := Lib.hid (BL0.out.trans (b1.mono (by omega))); have x0 := tr.cell (k := 0) rfl; simp only [Nat.zero_add, Nat.add_zero] at x0; have x5 := tr.cell (k := 5) rfl; simp only [Nat.zero_add, Nat.add_zero] at x5; have X0 := Lib.hid x0; have hgb : g ≠ w.heap.size := (by intro e; have k := HB.out.cell 0; rw [← e, x0] at k; exact absurd k (by simp [bdC, zeroB])); obtain ⟨A', hsl, htl⟩ := TS.mid (B := w1.heap.size) (A := some ⟨g, 0, none⟩) hc1 (by omega); obtain ⟨A5, hs5, ht5⟩ := TS.tail (B := w1.heap.size) (A := some ⟨g, 0, none⟩) hc1 6 (by omega); have hs5 : ∀ w' : World, (Instr.slice 57 (.slice (some ⟨g, 0, none⟩) 8 c) (some (.int .i64 6)) none none).run Tryd.prog w' = .ok (.slice A5 2 (c - 6)) w' := hs5; have HTS := Lib.hid (htl _ _ (TS.of tr tr.1 hc1 hc2)); have HT5 := Lib.hid (ht5 _ _ (TS.of tr tr.1 hc1 hc2)); have hg1 : g < w1.heap.size := tr.1; clear htl ht5; clear tr b1 hc1 hc2)
          | (go_at_call 35; refine (HIN.out _ _ _ HTS.out).mono ?_; rintro e' w2 ⟨q, rfl, hq2, b2⟩; have HQ := Lib.hid hq2; have HB2 := Lib.hid (HB.out.on b2); have BL2 := Lib.hid (BL.out.trans (b2.mono BL.out.size)); have hsz12 : w1.heap.size ≤ w2.heap.size := b2.size; have HT6 := Lib.hid (HT5.out.kept b2); have y0 := (b2.cell (p := ⟨g, 0, none⟩) hg1).trans X0.out; clear HB BL hq2 x0; clear b2; unfold inC))
        have b9 : Blk (w2.alloc (.cells (inC q) 24)) w2.heap.size 24 (inC q) := Blk.new _ _ _
        have hb3 := HB2.out.alloc (.cells (inC q) 24)
        have bl3 := BL2.out.alloc BL2.out.size (.cells (inC q) 24)
        have t3 := (HT6.out.kept ((Below.refl w1.heap.size w2).alloc (o := .cells (inC q) 24) hsz12)).in_
        have z0 : (w2.alloc (.cells (inC q) 24)).cell? ⟨g, 0, none⟩ = some (.string (bs a0)) := (World.cell?_alloc_lt _ _ _ (Nat.lt_of_lt_of_le hg1 hsz12)).trans y0
        have hg2 : g < w2.heap.size := Nat.lt_of_lt_of_le hg1 hsz12
        obtain ⟨V9, hV9⟩ : ∃ V9, w2.heap.size = V9 := ⟨_, rfl⟩
        have hq9 := HB2.out.lt
        rw [hV9] at b9 hg2 hq9 ⊢
        unfold inC at b9 hb3 bl3 t3 z0
        have hs3 : V9 + 1 = (w2.alloc (.cells #[.int .i64 q.1, .int .i64 q.2.1, .int .i64 q.2.2.1, .int .i64 q.2.2.2] 24)).heap.size := by rw [← hV9]; simp
        generalize (w2.alloc (.cells _ 24)) = w3 at b9 hb3 bl3 t3 z0 hs3 ⊢
        have B9 := Lib.hid b9
        have HB3 := Lib.hid hb3
        have BL3 := Lib.hid bl3
        have T3 := Lib.hid t3
        have Z3 := Lib.hid z0
        have m0 : w3.cell? ⟨V9, 1, none⟩ = some (.int .i64 q.2.1) := b9.cell 1
        clear b9 hb3 bl3 t3 z0 y0 HT6 HB2 BL2 hV9 HW hsl HTS HT5
        refine wp_region_held_drew (S := fun W' : World => W'.cell? ⟨V9, 1, none⟩ = some (.int .i64 q.2.1)) (by kernel_rfl) m0 (fun H0 => ?_)
        refine wpAnyH_take (i := 0) (v := .slice (some ⟨g, 0, none⟩) 8 c) rfl (by kernel_rfl) (by kernel_rfl) (by kernel_rfl) (fun _ _ _ h => h) (.inl ⟨rfl, fun w hS => by go_simp⟩) H0 ?_
        simp only [Act.put, List.getElem_toArray, List.getElem_cons_zero, List.setIfInBounds_toArray, List.set_cons_zero, List.set_cons_succ]
        refine wpAnyH_take (i := 1) (v := .slice A5 2 (c - 6)) rfl (by kernel_rfl) (by kernel_rfl) (by kernel_rfl) (fun _ _ _ h => h) (.inl ⟨rfl, fun w hS => by go_simp⟩) H0 ?_
        simp only [Act.put, List.getElem_toArray, List.getElem_cons_succ, List.getElem_cons_zero, List.setIfInBounds_toArray, List.set_cons_zero, List.set_cons_succ]
        refine wpAnyH_take (i := 2) (v := .pointer (some ⟨V9, 1, none⟩)) rfl (by kernel_rfl) (by kernel_rfl) (by kernel_rfl) (fun _ _ _ h => h) (.inl ⟨rfl, fun w hS => by go_simp⟩) H0 ?_
        simp only [Act.put, List.getElem_toArray, List.getElem_cons_succ, List.getElem_cons_zero, List.setIfInBounds_toArray, List.set_cons_zero, List.set_cons_succ]
        refine wpAnyH_take (i := 3) (v := .int .i64 q.2.1) rfl (by kernel_rfl) (by kernel_rfl) (by kernel_rfl) (fun _ _ _ h => h) (.inl ⟨rfl, fun w hS => by go_simp⟩) H0 ?_
        simp only [Act.put, List.getElem_toArray, List.getElem_cons_succ, List.getElem_cons_zero, List.setIfInBounds_toArray, List.set_cons_zero, List.set_cons_succ]
        refine wpAnyH_ready (rs := [4, 8]) (by kernel_rfl) (by simp) ?_
        refine AllReadyH.cons rfl (fun KK hK => ?_) (AllReadyH.cons rfl (fun KK hK => ?_) AllReadyH.nil)
        · refine step_call rfl 36 #[.tmp 45, .tmp 47] #[57, 3] rfl #[.slice A5 2 (c - 6), .int .i64 q.2.1] (by simp [Act.eval]) (enters_of Tryd.func36 (by kernel_rfl) rfl) ?_
          refine (HOU.out A5 (c - 6) q.2.1 w3.drew T3.out).mono ?_
          rintro r w4 ⟨q5, rfl, hq5, b4⟩
          have b4 : Below w3.heap.size w3 w4 := ⟨b4.os, b4.tape, b4.output, b4.size, b4.block⟩
          have B4 := Lib.hid (B9.out.on b4)
          have HB4 := Lib.hid (HB3.out.on b4)
          have BL4 := Lib.hid (BL3.out.trans (b4.mono BL3.out.size))
          have HQ5 := Lib.hid hq5
          have Z4 := Lib.hid ((b4.cell (p := ⟨g, 0, none⟩) (by simp only; omega)).trans Z3.out)
          have hs4 := b4.size
          have m4 : w4.cell? ⟨V9, 1, none⟩ = some (.int .i64 q.2.1) := B4.out.cell 1
          clear b4 hq5 hs5 B9 HB3 BL3 T3 m0 H0
          refine ⟨_, rfl, hK.out _ _ m4 (fun _ => ?_)⟩
          clear hK KK
          simp only [Act.put, List.getElem_toArray, List.getElem_cons_succ, List.getElem_cons_zero, List.setIfInBounds_toArray, List.set_cons_zero, List.set_cons_succ]
          refine wpAnyH_take (i := 5) (v := .tuple #[.agg (ouC q5), .bool false]) rfl (by kernel_rfl) (by kernel_rfl) (by kernel_rfl) (fun _ _ _ h => h) (.inl ⟨rfl, fun w hS => by go_simp⟩) m4 ?_
          simp only [Act.put, List.getElem_toArray, List.getElem_cons_succ, List.getElem_cons_zero, List.setIfInBounds_toArray, List.set_cons_zero, List.set_cons_succ]
          refine wpAnyH_take (i := 6) (v := .agg (ouC q5)) rfl (by kernel_rfl) (by kernel_rfl) (by kernel_rfl) (fun _ _ _ h => h) (.inl ⟨rfl, fun w hS => by go_simp⟩) m4 ?_
          simp only [Act.put, List.getElem_toArray, List.getElem_cons_succ, List.getElem_cons_zero, List.setIfInBounds_toArray, List.set_cons_zero, List.set_cons_succ]
          refine wpAnyH_take (i := 7) (v := .bool false) rfl (by kernel_rfl) (by kernel_rfl) (by kernel_rfl) (fun _ _ _ h => h) (.inl ⟨rfl, fun w hS => by go_simp⟩) m4 ?_
          simp only [Act.put, List.getElem_toArray, List.getElem_cons_succ, List.getElem_cons_zero, List.setIfInBounds_toArray, List.set_cons_zero, List.set_cons_succ]
          refine wpAnyH_ready (rs := [8]) (by kernel_rfl) (by simp) ?_
          refine AllReadyH.cons rfl (fun KK hK => ?_) AllReadyH.nil
          go_simp
          have b5 := Blk.new w4 26 (ouC (0, 0, 0))
          have b9 := B4.out.alloc (.cells (ouC (0, 0, 0)) 26)
          have hb5 := HB4.out.alloc (.cells (ouC (0, 0, 0)) 26)
          have bl5 := BL4.out.alloc BL4.out.size (.cells (ouC (0, 0, 0)) 26)
          have z5 := (World.cell?_alloc_lt w4 (.cells (ouC (0, 0, 0)) 26) ⟨g, 0, none⟩ (by simp only; omega)).trans Z4.out
          have v9 := B4.out.lt
          have v0 := BL4.out.size
          have v2 := HB4.out.lt
          have vg : g < w4.heap.size := by omega
          obtain ⟨V11, hV11⟩ : ∃ V11, w4.heap.size = V11 := ⟨_, rfl⟩
          rw [hV11] at b5 v9 v0 v2 vg ⊢
          unfold ouC at b5 b9 hb5 bl5 z5
          generalize (w4.alloc (.cells _ 26)) = w5 at b5 b9 hb5 bl5 z5 ⊢
          have B5 := Lib.hid b5
          have C9 := Lib.hid b9
          have HB5 := Lib.hid hb5
          have BL5 := Lib.hid bl5
          have Z5 := Lib.hid z5
          have m5 : w5.cell? ⟨V9, 1, none⟩ = some (.int .i64 q.2.1) := b9.cell 1
          clear b5 b9 hb5 bl5 z5 B4 HB4 BL4 Z4 m4 hV11
          refine hK.out _ _ m5 (fun _ => ?_)
          clear hK KK
          try simp only [Act.put, List.getElem_toArray, List.getElem_cons_succ, List.getElem_cons_zero, List.setIfInBounds_toArray, List.set_cons_zero, List.set_cons_succ]
          refine wpAnyH_ready (rs := [9]) (by kernel_rfl) (by simp) ?_
          refine AllReadyH.cons rfl (fun KK hK => ?_) AllReadyH.nil
          refine (if_pos (show Region.wanted _ _ = true by rfl)).mpr ?_
          refine wp_store_row 26 (.tmp 7) (.tmp 49) rfl V11 (ouC q5) rfl rfl 26 (ouC (0, 0, 0)) B5.out ou_size rfl (ou_one q5) ?_
          have b6 : Blk (w5.setRow V11 (ouC q5)) V11 26 (ouC q5) := setRow_heap _ _ _ _ _ _ B5.out
          have c6 : Blk (w5.setRow V11 (ouC q5)) V9 24 (inC q) := (setRow_other w5 V11 V9 _ (by omega)).trans C9.out
          have hb6 : Blk (w5.setRow V11 (ouC q5)) w.heap.size 28 (bdC zeroB) := (setRow_other w5 V11 w.heap.size _ (by omega)).trans HB5.out
          have z6 : (w5.setRow V11 (ouC q5)).cell? ⟨g, 0, none⟩ = some (.string (bs a0)) := (World.cell?_of_block (setRow_other w5 V11 _ _ (by simp only; omega))).trans Z5.out
          have bl6 : Below w.heap.size w (w5.setRow V11 (ouC q5)) := below_setRow BL5.out v0 _
          generalize w5.setRow V11 (ouC q5) = w6 at b6 c6 hb6 bl6 z6 ⊢
          have B6 := Lib.hid b6
          have C6 := Lib.hid c6
          have HB6 := Lib.hid hb6
          have BL6 := Lib.hid bl6
          have Z6 := Lib.hid z6
          have m6 : w6.cell? ⟨V9, 1, none⟩ = some (.int .i64 q.2.1) := c6.cell 1
          clear b6 c6 hb6 bl6 z6 B5 C9 HB5 BL5 Z5 m5
          refine hK.out _ _ m6 (fun _ => ?_)
          clear hK KK
          try simp only [Act.put, List.getElem_toArray, List.getElem_cons_succ, List.getElem_cons_zero, List.setIfInBounds_toArray, List.set_cons_zero, List.set_cons_succ]
          refine wpAnyH_take (i := 10) (v := .bool false) rfl (by kernel_rfl) (by kernel_rfl) (by kernel_rfl) (fun _ _ _ h => h) (.inl ⟨rfl, fun w hS => by go_simp⟩) m6 ?_
          simp only [Act.put, List.getElem_toArray, List.getElem_cons_succ, List.getElem_cons_zero, List.setIfInBounds_toArray, List.set_cons_zero, List.set_cons_succ]
          refine wpAnyH_done (by kernel_rfl) ?_ _
          go_wp2_with (refine wpList_store_row rfl 28 (.tmp 2) (.tmp 57) rfl w.heap.size (bdC zeroB) rfl rfl 28 (bdC zeroB) HB6.out bd_size rfl (bd_one _) ?_)
          refine rread_ret (w := w) (q := zeroB) (z := 13) rfl rfl rfl (setRow_heap _ _ _ _ _ _ HB6.out) ⟨by rw [HR.out], below_setRow BL6.out (Nat.le_refl _) _⟩
        · go_simp
          have b5 := Blk.new w3 26 (ouC (0, 0, 0))
          have b9 := B9.out.alloc (.cells (ouC (0, 0, 0)) 26)
          have hb5 := HB3.out.alloc (.cells (ouC (0, 0, 0)) 26)
          have bl5 := BL3.out.alloc BL3.out.size (.cells (ouC (0, 0, 0)) 26)
          have z5 := (World.cell?_alloc_lt w3 (.cells (ouC (0, 0, 0)) 26) ⟨g, 0, none⟩ (by simp only; omega)).trans Z3.out
          have v9 := B9.out.lt
          have v0 := BL3.out.size
          have v2 := HB3.out.lt
          have vg : g < w3.heap.size := by omega
          have t4 := (T3.out.kept (w' := w3.alloc (.cells (ouC (0, 0, 0)) 26)) ((Below.refl w3.heap.size w3).alloc (o := (.cells (ouC (0, 0, 0)) 26)) (Nat.le_refl _))).in_
          have hs9 : w3.heap.size < (w3.alloc (.cells (ouC (0, 0, 0)) 26)).heap.size := by simp
          obtain ⟨V11, hV11⟩ : ∃ V11, w3.heap.size = V11 := ⟨_, rfl⟩
          rw [hV11] at b5 v9 v0 v2 vg hs9 ⊢
          obtain ⟨w4, hw4⟩ : ∃ w4, (w3.alloc (.cells (ouC (0, 0, 0)) 26)).drew = w4 := ⟨_, rfl⟩
          have b5 : Blk w4 V11 26 (ouC (0, 0, 0)) := by rw [← hw4]; exact b5
          have b9 : Blk w4 V9 24 (inC q) := by rw [← hw4]; exact b9
          have hb5 : Blk w4 w.heap.size 28 (bdC zeroB) := by rw [← hw4]; exact hb5
          have bl5 : Below w.heap.size w w4 := by rw [← hw4]; exact bl5.drew
          have z5 : w4.cell? ⟨g, 0, none⟩ = some (.string (bs a0)) := by rw [← hw4]; exact z5
          have t4 : TS w4.heap.size w4 A5 2 (c - 6) [a6, a7] := by rw [← hw4]; exact t4
          have hs9 : V11 < w4.heap.size := by rw [← hw4]; exact hs9
          unfold ouC at hw4 b5
          rw [hw4]
          have E5 := Lib.hid b5
          have E9 := Lib.hid b9
          have HE5 := Lib.hid hb5
          have BE5 := Lib.hid bl5
          have T4 := Lib.hid t4
          have ZE5 := Lib.hid z5
          have m4 : w4.cell? ⟨V9, 1, none⟩ = some (.int .i64 q.2.1) := b9.cell 1
          clear b5 b9 hb5 bl5 t4 z5 B9 HB3 BL3 T3 hV11 hw4 m0 H0
          refine hK.out _ _ m4 (fun _ => ?_)
          clear hK KK
          try simp only [Act.put, List.getElem_toArray, List.getElem_cons_succ, List.getElem_cons_zero, List.setIfInBounds_toArray, List.set_cons_zero, List.set_cons_succ]
          refine wpAnyH_ready (rs := [4]) (by kernel_rfl) (by simp) ?_
          refine AllReadyH.cons rfl (fun KK hK => ?_) AllReadyH.nil
          refine step_call rfl 36 #[.tmp 45, .tmp 47] #[57, 3] rfl #[.slice A5 2 (c - 6), .int .i64 q.2.1] (by simp [Act.eval]) (enters_of Tryd.func36 (by kernel_rfl) rfl) ?_
          refine (HOU.out A5 (c - 6) q.2.1 _ T4.out).mono ?_
          rintro r w5 ⟨q5, rfl, hq5, b4⟩
          have B5 := Lib.hid (E5.out.on b4)
          have C9 := Lib.hid (E9.out.on b4)
          have HB5 := Lib.hid (HE5.out.on b4)
          have BL5 := Lib.hid (BE5.out.trans (b4.mono BE5.out.size))
          have HQ5 := Lib.hid hq5
          have Z5 := Lib.hid ((b4.cell (p := ⟨g, 0, none⟩) (by simp only; omega)).trans ZE5.out)
          have m5 : w5.cell? ⟨V9, 1, none⟩ = some (.int .i64 q.2.1) := C9.out.cell 1
          clear b4 hq5 hs5 m4
          refine ⟨_, rfl, hK.out _ _ m5 (fun _ => ?_)⟩
          clear hK KK
          simp only [Act.put, List.getElem_toArray, List.getElem_cons_succ, List.getElem_cons_zero, List.setIfInBounds_toArray, List.set_cons_zero, List.set_cons_succ]
          refine wpAnyH_take (i := 5) (v := .tuple #[.agg (ouC q5), .bool false]) rfl (by kernel_rfl) (by kernel_rfl) (by kernel_rfl) (fun _ _ _ h => h) (.inl ⟨rfl, fun w hS => by go_simp⟩) m5 ?_
          simp only [Act.put, List.getElem_toArray, List.getElem_cons_succ, List.getElem_cons_zero, List.setIfInBounds_toArray, List.set_cons_zero, List.set_cons_succ]
          refine wpAnyH_take (i := 6) (v := .agg (ouC q5)) rfl (by kernel_rfl) (by kernel_rfl) (by kernel_rfl) (fun _ _ _ h => h) (.inl ⟨rfl, fun w hS => by go_simp⟩) m5 ?_
          simp only [Act.put, List.getElem_toArray, List.getElem_cons_succ, List.getElem_cons_zero, List.setIfInBounds_toArray, List.set_cons_zero, List.set_cons_succ]
          refine wpAnyH_take (i := 7) (v := .bool false) rfl (by kernel_rfl) (by kernel_rfl) (by kernel_rfl) (fun _ _ _ h => h) (.inl ⟨rfl, fun w hS => by go_simp⟩) m5 ?_
          simp only [Act.put, List.getElem_toArray, List.getElem_cons_succ, List.getElem_cons_zero, List.setIfInBounds_toArray, List.set_cons_zero, List.set_cons_succ]
          refine wpAnyH_ready (rs := [9]) (by kernel_rfl) (by simp) ?_
          refine AllReadyH.cons rfl (fun KK hK => ?_) AllReadyH.nil
          refine (if_pos (show Region.wanted _ _ = true by rfl)).mpr ?_
          refine wp_store_row 26 (.tmp 7) (.tmp 49) rfl V11 (ouC q5) rfl rfl 26 (ouC (0, 0, 0)) B5.out ou_size rfl (ou_one q5) ?_
          have b6 : Blk (w5.setRow V11 (ouC q5)) V11 26 (ouC q5) := setRow_heap _ _ _ _ _ _ B5.out
          have c6 : Blk (w5.setRow V11 (ouC q5)) V9 24 (inC q) := (setRow_other w5 V11 V9 _ (by omega)).trans C9.out
          have hb6 : Blk (w5.setRow V11 (ouC q5)) w.heap.size 28 (bdC zeroB) := (setRow_other w5 V11 w.heap.size _ (by omega)).trans HB5.out
          have z6 : (w5.setRow V11 (ouC q5)).cell? ⟨g, 0, none⟩ = some (.string (bs a0)) := (World.cell?_of_block (setRow_other w5 V11 _ _ (by simp only; omega))).trans Z5.out
          have bl6 : Below w.heap.size w (w5.setRow V11 (ouC q5)) := below_setRow BL5.out v0 _
          generalize w5.setRow V11 (ouC q5) = w6 at b6 c6 hb6 bl6 z6 ⊢
          have B6 := Lib.hid b6
          have C6 := Lib.hid c6
          have HB6 := Lib.hid hb6
          have BL6 := Lib.hid bl6
          have Z6 := Lib.hid z6
          have m6 : w6.cell? ⟨V9, 1, none⟩ = some (.int .i64 q.2.1) := c6.cell 1
          clear b6 c6 hb6 bl6 z6 B5 C9 HB5 BL5 Z5 m5
          refine hK.out _ _ m6 (fun _ => ?_)
          clear hK KK
          try simp only [Act.put, List.getElem_toArray, List.getElem_cons_succ, List.getElem_cons_zero, List.setIfInBounds_toArray, List.set_cons_zero, List.set_cons_succ]
          refine wpAnyH_take (i := 10) (v := .bool false) rfl (by kernel_rfl) (by kernel_rfl) (by kernel_rfl) (fun _ _ _ h => h) (.inl ⟨rfl, fun w hS => by go_simp⟩) m6 ?_
          simp only [Act.put, List.getElem_toArray, List.getElem_cons_succ, List.getElem_cons_zero, List.setIfInBounds_toArray, List.set_cons_zero, List.set_cons_succ]
          refine wpAnyH_done (by kernel_rfl) ?_ _
          go_wp2_with (refine wpList_store_row rfl 28 (.tmp 2) (.tmp 57) rfl w.heap.size (bdC zeroB) rfl rfl 28 (bdC zeroB) HB6.out bd_size rfl (bd_one _) ?_)
          refine rread_ret (w := w) (q := zeroB) (z := 13) rfl rfl rfl (setRow_heap _ _ _ _ _ _ HB6.out) ⟨by rw [HR.out], below_setRow BL6.out (Nat.le_refl _) _⟩
      · have HR := Lib.hid (HRN.out rfl)
        clear HRS HRN
        have HIN := Lib.hid (show ∀ A m W, TS W.heap.size W A 4 m [a1, a2, a3, a4] → Calls Tryd.prog 35 #[.slice A 4 m] W (InP W (none)) from HIN.out)
        have HOU := Lib.hid (show ∀ A m p W, TS W.heap.size W A 2 m [a6, a7] → Calls Tryd.prog 36 #[.slice A 2 m, .int .i64 p] W (OuP W p (some y)) from HOU.out)
        go_enter Tryd.func12, Tryd.ntmps12
        go_upto_region 7 with (first
          | (go_at_call 34; refine HW.out.mono ?_; rintro e w1 ⟨g, c, rfl, hc1, hc2, tr, b1⟩; have HB := Lib.hid ((Blk.new w 28 (bdC zeroB)).on b1); have BL := Lib.hid (BL0.out.trans (b1.mono (by omega))); have x0 := tr.cell (k := 0) rfl; simp only [Nat.zero_add, Nat.add_zero] at x0; have x5 := tr.cell (k := 5) rfl; simp only [Nat.zero_add, Nat.add_zero] at x5; have X0 := Lib.hid x0; have hgb : g ≠ w.heap.size := (by intro e; have k := HB.out.cell 0; rw [← e, x0] at k; exact absurd k (by simp [bdC, zeroB])); obtain ⟨A', hsl, htl⟩ := TS.mid (B := w1.heap.size) (A := some ⟨g, 0, none⟩) hc1 (by omega); obtain ⟨A5, hs5, ht5⟩ := TS.tail (B := w1.heap.size) (A := some ⟨g, 0, none⟩) hc1 6 (by omega); have hs5 : ∀ w' : World, (Instr.slice 57 (.slice (some ⟨g, 0, none⟩) 8 c) (some (.int .i64 6)) none none).run Tryd.prog w' = .ok (.slice A5 2 (c - 6)) w' := hs5; have HTS := Lib.hid (htl _ _ (TS.of tr tr.1 hc1 hc2)); have HT5 := Lib.hid (ht5 _ _ (TS.of tr tr.1 hc1 hc2)); have hg1 : g < w1.heap.size := tr.1; clear htl ht5; clear tr b1 hc1 hc2)
          | (go_at_call 35; refine (HIN.out _ _ _ HTS.out).mono ?_; rintro e' w2 ⟨q, rfl, hq2, b2⟩; have HQ := Lib.hid hq2; have HB2 := Lib.hid (HB.out.on b2); have BL2 := Lib.hid (BL.out.trans (b2.mono BL.out.size)); have hsz12 : w1.heap.size ≤ w2.heap.size := b2.size; have HT6 := Lib.hid (HT5.out.kept b2); have y0 := (b2.cell (p := ⟨g, 0, none⟩) hg1).trans X0.out; clear HB BL hq2 x0; clear b2; unfold inC))
        have b9 : Blk (w2.alloc (.cells (inC q) 24)) w2.heap.size 24 (inC q) := Blk.new _ _ _
        have hb3 := HB2.out.alloc (.cells (inC q) 24)
        have bl3 := BL2.out.alloc BL2.out.size (.cells (inC q) 24)
        have t3 := (HT6.out.kept ((Below.refl w1.heap.size w2).alloc (o := .cells (inC q) 24) hsz12)).in_
        have z0 : (w2.alloc (.cells (inC q) 24)).cell? ⟨g, 0, none⟩ = some (.string (bs a0)) := (World.cell?_alloc_lt _ _ _ (Nat.lt_of_lt_of_le hg1 hsz12)).trans y0
        have hg2 : g < w2.heap.size := Nat.lt_of_lt_of_le hg1 hsz12
        obtain ⟨V9, hV9⟩ : ∃ V9, w2.heap.size = V9 := ⟨_, rfl⟩
        have hq9 := HB2.out.lt
        rw [hV9] at b9 hg2 hq9 ⊢
        unfold inC at b9 hb3 bl3 t3 z0
        have hs3 : V9 + 1 = (w2.alloc (.cells #[.int .i64 q.1, .int .i64 q.2.1, .int .i64 q.2.2.1, .int .i64 q.2.2.2] 24)).heap.size := by rw [← hV9]; simp
        generalize (w2.alloc (.cells _ 24)) = w3 at b9 hb3 bl3 t3 z0 hs3 ⊢
        have B9 := Lib.hid b9
        have HB3 := Lib.hid hb3
        have BL3 := Lib.hid bl3
        have T3 := Lib.hid t3
        have Z3 := Lib.hid z0
        have m0 : w3.cell? ⟨V9, 1, none⟩ = some (.int .i64 q.2.1) := b9.cell 1
        clear b9 hb3 bl3 t3 z0 y0 HT6 HB2 BL2 hV9 HW hsl HTS HT5
        refine wp_region_held_drew (S := fun W' : World => W'.cell? ⟨V9, 1, none⟩ = some (.int .i64 q.2.1)) (by kernel_rfl) m0 (fun H0 => ?_)
        refine wpAnyH_take (i := 0) (v := .slice (some ⟨g, 0, none⟩) 8 c) rfl (by kernel_rfl) (by kernel_rfl) (by kernel_rfl) (fun _ _ _ h => h) (.inl ⟨rfl, fun w hS => by go_simp⟩) H0 ?_
        simp only [Act.put, List.getElem_toArray, List.getElem_cons_zero, List.setIfInBounds_toArray, List.set_cons_zero, List.set_cons_succ]
        refine wpAnyH_take (i := 1) (v := .slice A5 2 (c - 6)) rfl (by kernel_rfl) (by kernel_rfl) (by kernel_rfl) (fun _ _ _ h => h) (.inl ⟨rfl, fun w hS => by go_simp⟩) H0 ?_
        simp only [Act.put, List.getElem_toArray, List.getElem_cons_succ, List.getElem_cons_zero, List.setIfInBounds_toArray, List.set_cons_zero, List.set_cons_succ]
        refine wpAnyH_take (i := 2) (v := .pointer (some ⟨V9, 1, none⟩)) rfl (by kernel_rfl) (by kernel_rfl) (by kernel_rfl) (fun _ _ _ h => h) (.inl ⟨rfl, fun w hS => by go_simp⟩) H0 ?_
        simp only [Act.put, List.getElem_toArray, List.getElem_cons_succ, List.getElem_cons_zero, List.setIfInBounds_toArray, List.set_cons_zero, List.set_cons_succ]
        refine wpAnyH_take (i := 3) (v := .int .i64 q.2.1) rfl (by kernel_rfl) (by kernel_rfl) (by kernel_rfl) (fun _ _ _ h => h) (.inl ⟨rfl, fun w hS => by go_simp⟩) H0 ?_
        simp only [Act.put, List.getElem_toArray, List.getElem_cons_succ, List.getElem_cons_zero, List.setIfInBounds_toArray, List.set_cons_zero, List.set_cons_succ]
        refine wpAnyH_ready (rs := [4, 8]) (by kernel_rfl) (by simp) ?_
        refine AllReadyH.cons rfl (fun KK hK => ?_) (AllReadyH.cons rfl (fun KK hK => ?_) AllReadyH.nil)
        · refine step_call rfl 36 #[.tmp 45, .tmp 47] #[57, 3] rfl #[.slice A5 2 (c - 6), .int .i64 q.2.1] (by simp [Act.eval]) (enters_of Tryd.func36 (by kernel_rfl) rfl) ?_
          refine (HOU.out A5 (c - 6) q.2.1 w3.drew T3.out).mono ?_
          rintro r w4 ⟨q5, rfl, hq5, b4⟩
          have b4 : Below w3.heap.size w3 w4 := ⟨b4.os, b4.tape, b4.output, b4.size, b4.block⟩
          have B4 := Lib.hid (B9.out.on b4)
          have HB4 := Lib.hid (HB3.out.on b4)
          have BL4 := Lib.hid (BL3.out.trans (b4.mono BL3.out.size))
          have HQ5 := Lib.hid hq5
          have Z4 := Lib.hid ((b4.cell (p := ⟨g, 0, none⟩) (by simp only; omega)).trans Z3.out)
          have hs4 := b4.size
          have m4 : w4.cell? ⟨V9, 1, none⟩ = some (.int .i64 q.2.1) := B4.out.cell 1
          clear b4 hq5 hs5 B9 HB3 BL3 T3 m0 H0
          refine ⟨_, rfl, hK.out _ _ m4 (fun _ => ?_)⟩
          clear hK KK
          simp only [Act.put, List.getElem_toArray, List.getElem_cons_succ, List.getElem_cons_zero, List.setIfInBounds_toArray, List.set_cons_zero, List.set_cons_succ]
          refine wpAnyH_take (i := 5) (v := .tuple #[.agg (ouC q5), .bool true]) rfl (by kernel_rfl) (by kernel_rfl) (by kernel_rfl) (fun _ _ _ h => h) (.inl ⟨rfl, fun w hS => by go_simp⟩) m4 ?_
          simp only [Act.put, List.getElem_toArray, List.getElem_cons_succ, List.getElem_cons_zero, List.setIfInBounds_toArray, List.set_cons_zero, List.set_cons_succ]
          refine wpAnyH_take (i := 6) (v := .agg (ouC q5)) rfl (by kernel_rfl) (by kernel_rfl) (by kernel_rfl) (fun _ _ _ h => h) (.inl ⟨rfl, fun w hS => by go_simp⟩) m4 ?_
          simp only [Act.put, List.getElem_toArray, List.getElem_cons_succ, List.getElem_cons_zero, List.setIfInBounds_toArray, List.set_cons_zero, List.set_cons_succ]
          refine wpAnyH_take (i := 7) (v := .bool true) rfl (by kernel_rfl) (by kernel_rfl) (by kernel_rfl) (fun _ _ _ h => h) (.inl ⟨rfl, fun w hS => by go_simp⟩) m4 ?_
          simp only [Act.put, List.getElem_toArray, List.getElem_cons_succ, List.getElem_cons_zero, List.setIfInBounds_toArray, List.set_cons_zero, List.set_cons_succ]
          refine wpAnyH_ready (rs := [8]) (by kernel_rfl) (by simp) ?_
          refine AllReadyH.cons rfl (fun KK hK => ?_) AllReadyH.nil
          go_simp
          have b5 := Blk.new w4 26 (ouC (0, 0, 0))
          have b9 := B4.out.alloc (.cells (ouC (0, 0, 0)) 26)
          have hb5 := HB4.out.alloc (.cells (ouC (0, 0, 0)) 26)
          have bl5 := BL4.out.alloc BL4.out.size (.cells (ouC (0, 0, 0)) 26)
          have z5 := (World.cell?_alloc_lt w4 (.cells (ouC (0, 0, 0)) 26) ⟨g, 0, none⟩ (by simp only; omega)).trans Z4.out
          have v9 := B4.out.lt
          have v0 := BL4.out.size
          have v2 := HB4.out.lt
          have vg : g < w4.heap.size := by omega
          obtain ⟨V11, hV11⟩ : ∃ V11, w4.heap.size = V11 := ⟨_, rfl⟩
          rw [hV11] at b5 v9 v0 v2 vg ⊢
          unfold ouC at b5 b9 hb5 bl5 z5
          generalize (w4.alloc (.cells _ 26)) = w5 at b5 b9 hb5 bl5 z5 ⊢
          have B5 := Lib.hid b5
          have C9 := Lib.hid b9
          have HB5 := Lib.hid hb5
          have BL5 := Lib.hid bl5
          have Z5 := Lib.hid z5
          have m5 : w5.cell? ⟨V9, 1, none⟩ = some (.int .i64 q.2.1) := b9.cell 1
          clear b5 b9 hb5 bl5 z5 B4 HB4 BL4 Z4 m4 hV11
          refine hK.out _ _ m5 (fun _ => ?_)
          clear hK KK
          try simp only [Act.put, List.getElem_toArray, List.getElem_cons_succ, List.getElem_cons_zero, List.setIfInBounds_toArray, List.set_cons_zero, List.set_cons_succ]
          refine wpAnyH_ready (rs := [9]) (by kernel_rfl) (by simp) ?_
          refine AllReadyH.cons rfl (fun KK hK => ?_) AllReadyH.nil
          refine (if_pos (show Region.wanted _ _ = true by rfl)).mpr ?_
          refine wp_store_row 26 (.tmp 7) (.tmp 49) rfl V11 (ouC q5) rfl rfl 26 (ouC (0, 0, 0)) B5.out ou_size rfl (ou_one q5) ?_
          have b6 : Blk (w5.setRow V11 (ouC q5)) V11 26 (ouC q5) := setRow_heap _ _ _ _ _ _ B5.out
          have c6 : Blk (w5.setRow V11 (ouC q5)) V9 24 (inC q) := (setRow_other w5 V11 V9 _ (by omega)).trans C9.out
          have hb6 : Blk (w5.setRow V11 (ouC q5)) w.heap.size 28 (bdC zeroB) := (setRow_other w5 V11 w.heap.size _ (by omega)).trans HB5.out
          have z6 : (w5.setRow V11 (ouC q5)).cell? ⟨g, 0, none⟩ = some (.string (bs a0)) := (World.cell?_of_block (setRow_other w5 V11 _ _ (by simp only; omega))).trans Z5.out
          have bl6 : Below w.heap.size w (w5.setRow V11 (ouC q5)) := below_setRow BL5.out v0 _
          generalize w5.setRow V11 (ouC q5) = w6 at b6 c6 hb6 bl6 z6 ⊢
          have B6 := Lib.hid b6
          have C6 := Lib.hid c6
          have HB6 := Lib.hid hb6
          have BL6 := Lib.hid bl6
          have Z6 := Lib.hid z6
          have m6 : w6.cell? ⟨V9, 1, none⟩ = some (.int .i64 q.2.1) := c6.cell 1
          clear b6 c6 hb6 bl6 z6 B5 C9 HB5 BL5 Z5 m5
          refine hK.out _ _ m6 (fun _ => ?_)
          clear hK KK
          try simp only [Act.put, List.getElem_toArray, List.getElem_cons_succ, List.getElem_cons_zero, List.setIfInBounds_toArray, List.set_cons_zero, List.set_cons_succ]
          refine wpAnyH_take (i := 10) (v := .bool true) rfl (by kernel_rfl) (by kernel_rfl) (by kernel_rfl) (fun _ _ _ h => h) (.inl ⟨rfl, fun w hS => by go_simp⟩) m6 ?_
          simp only [Act.put, List.getElem_toArray, List.getElem_cons_succ, List.getElem_cons_zero, List.setIfInBounds_toArray, List.set_cons_zero, List.set_cons_succ]
          refine wpAnyH_done (by kernel_rfl) ?_ _
          go_wp2_with (refine wpList_store_row rfl 28 (.tmp 2) (.tmp 57) rfl w.heap.size (bdC zeroB) rfl rfl 28 (bdC zeroB) HB6.out bd_size rfl (bd_one _) ?_)
          refine rread_ret (w := w) (q := zeroB) (z := 13) rfl rfl rfl (setRow_heap _ _ _ _ _ _ HB6.out) ⟨by rw [HR.out], below_setRow BL6.out (Nat.le_refl _) _⟩
        · go_simp
          have b5 := Blk.new w3 26 (ouC (0, 0, 0))
          have b9 := B9.out.alloc (.cells (ouC (0, 0, 0)) 26)
          have hb5 := HB3.out.alloc (.cells (ouC (0, 0, 0)) 26)
          have bl5 := BL3.out.alloc BL3.out.size (.cells (ouC (0, 0, 0)) 26)
          have z5 := (World.cell?_alloc_lt w3 (.cells (ouC (0, 0, 0)) 26) ⟨g, 0, none⟩ (by simp only; omega)).trans Z3.out
          have v9 := B9.out.lt
          have v0 := BL3.out.size
          have v2 := HB3.out.lt
          have vg : g < w3.heap.size := by omega
          have t4 := (T3.out.kept (w' := w3.alloc (.cells (ouC (0, 0, 0)) 26)) ((Below.refl w3.heap.size w3).alloc (o := (.cells (ouC (0, 0, 0)) 26)) (Nat.le_refl _))).in_
          have hs9 : w3.heap.size < (w3.alloc (.cells (ouC (0, 0, 0)) 26)).heap.size := by simp
          obtain ⟨V11, hV11⟩ : ∃ V11, w3.heap.size = V11 := ⟨_, rfl⟩
          rw [hV11] at b5 v9 v0 v2 vg hs9 ⊢
          obtain ⟨w4, hw4⟩ : ∃ w4, (w3.alloc (.cells (ouC (0, 0, 0)) 26)).drew = w4 := ⟨_, rfl⟩
          have b5 : Blk w4 V11 26 (ouC (0, 0, 0)) := by rw [← hw4]; exact b5
          have b9 : Blk w4 V9 24 (inC q) := by rw [← hw4]; exact b9
          have hb5 : Blk w4 w.heap.size 28 (bdC zeroB) := by rw [← hw4]; exact hb5
          have bl5 : Below w.heap.size w w4 := by rw [← hw4]; exact bl5.drew
          have z5 : w4.cell? ⟨g, 0, none⟩ = some (.string (bs a0)) := by rw [← hw4]; exact z5
          have t4 : TS w4.heap.size w4 A5 2 (c - 6) [a6, a7] := by rw [← hw4]; exact t4
          have hs9 : V11 < w4.heap.size := by rw [← hw4]; exact hs9
          unfold ouC at hw4 b5
          rw [hw4]
          have E5 := Lib.hid b5
          have E9 := Lib.hid b9
          have HE5 := Lib.hid hb5
          have BE5 := Lib.hid bl5
          have T4 := Lib.hid t4
          have ZE5 := Lib.hid z5
          have m4 : w4.cell? ⟨V9, 1, none⟩ = some (.int .i64 q.2.1) := b9.cell 1
          clear b5 b9 hb5 bl5 t4 z5 B9 HB3 BL3 T3 hV11 hw4 m0 H0
          refine hK.out _ _ m4 (fun _ => ?_)
          clear hK KK
          try simp only [Act.put, List.getElem_toArray, List.getElem_cons_succ, List.getElem_cons_zero, List.setIfInBounds_toArray, List.set_cons_zero, List.set_cons_succ]
          refine wpAnyH_ready (rs := [4]) (by kernel_rfl) (by simp) ?_
          refine AllReadyH.cons rfl (fun KK hK => ?_) AllReadyH.nil
          refine step_call rfl 36 #[.tmp 45, .tmp 47] #[57, 3] rfl #[.slice A5 2 (c - 6), .int .i64 q.2.1] (by simp [Act.eval]) (enters_of Tryd.func36 (by kernel_rfl) rfl) ?_
          refine (HOU.out A5 (c - 6) q.2.1 _ T4.out).mono ?_
          rintro r w5 ⟨q5, rfl, hq5, b4⟩
          have B5 := Lib.hid (E5.out.on b4)
          have C9 := Lib.hid (E9.out.on b4)
          have HB5 := Lib.hid (HE5.out.on b4)
          have BL5 := Lib.hid (BE5.out.trans (b4.mono BE5.out.size))
          have HQ5 := Lib.hid hq5
          have Z5 := Lib.hid ((b4.cell (p := ⟨g, 0, none⟩) (by simp only; omega)).trans ZE5.out)
          have m5 : w5.cell? ⟨V9, 1, none⟩ = some (.int .i64 q.2.1) := C9.out.cell 1
          clear b4 hq5 hs5 m4
          refine ⟨_, rfl, hK.out _ _ m5 (fun _ => ?_)⟩
          clear hK KK
          simp only [Act.put, List.getElem_toArray, List.getElem_cons_succ, List.getElem_cons_zero, List.setIfInBounds_toArray, List.set_cons_zero, List.set_cons_succ]
          refine wpAnyH_take (i := 5) (v := .tuple #[.agg (ouC q5), .bool true]) rfl (by kernel_rfl) (by kernel_rfl) (by kernel_rfl) (fun _ _ _ h => h) (.inl ⟨rfl, fun w hS => by go_simp⟩) m5 ?_
          simp only [Act.put, List.getElem_toArray, List.getElem_cons_succ, List.getElem_cons_zero, List.setIfInBounds_toArray, List.set_cons_zero, List.set_cons_succ]
          refine wpAnyH_take (i := 6) (v := .agg (ouC q5)) rfl (by kernel_rfl) (by kernel_rfl) (by kernel_rfl) (fun _ _ _ h => h) (.inl ⟨rfl, fun w hS => by go_simp⟩) m5 ?_
          simp only [Act.put, List.getElem_toArray, List.getElem_cons_succ, List.getElem_cons_zero, List.setIfInBounds_toArray, List.set_cons_zero, List.set_cons_succ]
          refine wpAnyH_take (i := 7) (v := .bool true) rfl (by kernel_rfl) (by kernel_rfl) (by kernel_rfl) (fun _ _ _ h => h) (.inl ⟨rfl, fun w hS => by go_simp⟩) m5 ?_
          simp only [Act.put, List.getElem_toArray, List.getElem_cons_succ, List.getElem_cons_zero, List.setIfInBounds_toArray, List.set_cons_zero, List.set_cons_succ]
          refine wpAnyH_ready (rs := [9]) (by kernel_rfl) (by simp) ?_
          refine AllReadyH.cons rfl (fun KK hK => ?_) AllReadyH.nil
          refine (if_pos (show Region.wanted _ _ = true by rfl)).mpr ?_
          refine wp_store_row 26 (.tmp 7) (.tmp 49) rfl V11 (ouC q5) rfl rfl 26 (ouC (0, 0, 0)) B5.out ou_size rfl (ou_one q5) ?_
          have b6 : Blk (w5.setRow V11 (ouC q5)) V11 26 (ouC q5) := setRow_heap _ _ _ _ _ _ B5.out
          have c6 : Blk (w5.setRow V11 (ouC q5)) V9 24 (inC q) := (setRow_other w5 V11 V9 _ (by omega)).trans C9.out
          have hb6 : Blk (w5.setRow V11 (ouC q5)) w.heap.size 28 (bdC zeroB) := (setRow_other w5 V11 w.heap.size _ (by omega)).trans HB5.out
          have z6 : (w5.setRow V11 (ouC q5)).cell? ⟨g, 0, none⟩ = some (.string (bs a0)) := (World.cell?_of_block (setRow_other w5 V11 _ _ (by simp only; omega))).trans Z5.out
          have bl6 : Below w.heap.size w (w5.setRow V11 (ouC q5)) := below_setRow BL5.out v0 _
          generalize w5.setRow V11 (ouC q5) = w6 at b6 c6 hb6 bl6 z6 ⊢
          have B6 := Lib.hid b6
          have C6 := Lib.hid c6
          have HB6 := Lib.hid hb6
          have BL6 := Lib.hid bl6
          have Z6 := Lib.hid z6
          have m6 : w6.cell? ⟨V9, 1, none⟩ = some (.int .i64 q.2.1) := c6.cell 1
          clear b6 c6 hb6 bl6 z6 B5 C9 HB5 BL5 Z5 m5
          refine hK.out _ _ m6 (fun _ => ?_)
          clear hK KK
          try simp only [Act.put, List.getElem_toArray, List.getElem_cons_succ, List.getElem_cons_zero, List.setIfInBounds_toArray, List.set_cons_zero, List.set_cons_succ]
          refine wpAnyH_take (i := 10) (v := .bool true) rfl (by kernel_rfl) (by kernel_rfl) (by kernel_rfl) (fun _ _ _ h => h) (.inl ⟨rfl, fun w hS => by go_simp⟩) m6 ?_
          simp only [Act.put, List.getElem_toArray, List.getElem_cons_succ, List.getElem_cons_zero, List.setIfInBounds_toArray, List.set_cons_zero, List.set_cons_succ]
          refine wpAnyH_done (by kernel_rfl) ?_ _
          go_wp2_with (refine wpList_store_row rfl 28 (.tmp 2) (.tmp 57) rfl w.heap.size (bdC zeroB) rfl rfl 28 (bdC zeroB) HB6.out bd_size rfl (bd_one _) ?_)
          refine rread_ret (w := w) (q := zeroB) (z := 13) rfl rfl rfl (setRow_heap _ _ _ _ _ _ HB6.out) ⟨by rw [HR.out], below_setRow BL6.out (Nat.le_refl _) _⟩
    · rcases O with _ | y
      · have HR := Lib.hid (HRN.out rfl)
        clear HRS HRN
        have HIN := Lib.hid (show ∀ A m W, TS W.heap.size W A 4 m [a1, a2, a3, a4] → Calls Tryd.prog 35 #[.slice A 4 m] W (InP W (some x)) from HIN.out)
        have HOU := Lib.hid (show ∀ A m p W, TS W.heap.size W A 2 m [a6, a7] → Calls Tryd.prog 36 #[.slice A 2 m, .int .i64 p] W (OuP W p (none)) from HOU.out)
        go_enter Tryd.func12, Tryd.ntmps12
        go_upto_region 7 with (first
          | (go_at_call 34; refine HW.out.mono ?_; rintro e w1 ⟨g, c, rfl, hc1, hc2, tr, b1⟩; have HB := Lib.hid ((Blk.new w 28 (bdC zeroB)).on b1); have BL := Lib.hid (BL0.out.trans (b1.mono (by omega))); have x0 := tr.cell (k := 0) rfl; simp only [Nat.zero_add, Nat.add_zero] at x0; have x5 := tr.cell (k := 5) rfl; simp only [Nat.zero_add, Nat.add_zero] at x5; have X0 := Lib.hid x0; have hgb : g ≠ w.heap.size := (by intro e; have k := HB.out.cell 0; rw [← e, x0] at k; exact absurd k (by simp [bdC, zeroB])); obtain ⟨A', hsl, htl⟩ := TS.mid (B := w1.heap.size) (A := some ⟨g, 0, none⟩) hc1 (by omega); obtain ⟨A5, hs5, ht5⟩ := TS.tail (B := w1.heap.size) (A := some ⟨g, 0, none⟩) hc1 6 (by omega); have hs5 : ∀ w' : World, (Instr.slice 57 (.slice (some ⟨g, 0, none⟩) 8 c) (some (.int .i64 6)) none none).run Tryd.prog w' = .ok (.slice A5 2 (c - 6)) w' := hs5; have HTS := Lib.hid (htl _ _ (TS.of tr tr.1 hc1 hc2)); have HT5 := Lib.hid (ht5 _ _ (TS.of tr tr.1 hc1 hc2)); have hg1 : g < w1.heap.size := tr.1; clear htl ht5; clear tr b1 hc1 hc2)
          | (go_at_call 35; refine (HIN.out _ _ _ HTS.out).mono ?_; rintro e' w2 ⟨q, rfl, hq2, b2⟩; have HQ := Lib.hid hq2; have HB2 := Lib.hid (HB.out.on b2); have BL2 := Lib.hid (BL.out.trans (b2.mono BL.out.size)); have hsz12 : w1.heap.size ≤ w2.heap.size := b2.size; have HT6 := Lib.hid (HT5.out.kept b2); have y0 := (b2.cell (p := ⟨g, 0, none⟩) hg1).trans X0.out; clear HB BL hq2 x0; clear b2; unfold inC))
        have b9 : Blk (w2.alloc (.cells (inC q) 24)) w2.heap.size 24 (inC q) := Blk.new _ _ _
        have hb3 := HB2.out.alloc (.cells (inC q) 24)
        have bl3 := BL2.out.alloc BL2.out.size (.cells (inC q) 24)
        have t3 := (HT6.out.kept ((Below.refl w1.heap.size w2).alloc (o := .cells (inC q) 24) hsz12)).in_
        have z0 : (w2.alloc (.cells (inC q) 24)).cell? ⟨g, 0, none⟩ = some (.string (bs a0)) := (World.cell?_alloc_lt _ _ _ (Nat.lt_of_lt_of_le hg1 hsz12)).trans y0
        have hg2 : g < w2.heap.size := Nat.lt_of_lt_of_le hg1 hsz12
        obtain ⟨V9, hV9⟩ : ∃ V9, w2.heap.size = V9 := ⟨_, rfl⟩
        have hq9 := HB2.out.lt
        rw [hV9] at b9 hg2 hq9 ⊢
        unfold inC at b9 hb3 bl3 t3 z0
        have hs3 : V9 + 1 = (w2.alloc (.cells #[.int .i64 q.1, .int .i64 q.2.1, .int .i64 q.2.2.1, .int .i64 q.2.2.2] 24)).heap.size := by rw [← hV9]; simp
        generalize (w2.alloc (.cells _ 24)) = w3 at b9 hb3 bl3 t3 z0 hs3 ⊢
        have B9 := Lib.hid b9
        have HB3 := Lib.hid hb3
        have BL3 := Lib.hid bl3
        have T3 := Lib.hid t3
        have Z3 := Lib.hid z0
        have m0 : w3.cell? ⟨V9, 1, none⟩ = some (.int .i64 q.2.1) := b9.cell 1
        clear b9 hb3 bl3 t3 z0 y0 HT6 HB2 BL2 hV9 HW hsl HTS HT5
        refine wp_region_held_drew (S := fun W' : World => W'.cell? ⟨V9, 1, none⟩ = some (.int .i64 q.2.1)) (by kernel_rfl) m0 (fun H0 => ?_)
        refine wpAnyH_take (i := 0) (v := .slice (some ⟨g, 0, none⟩) 8 c) rfl (by kernel_rfl) (by kernel_rfl) (by kernel_rfl) (fun _ _ _ h => h) (.inl ⟨rfl, fun w hS => by go_simp⟩) H0 ?_
        simp only [Act.put, List.getElem_toArray, List.getElem_cons_zero, List.setIfInBounds_toArray, List.set_cons_zero, List.set_cons_succ]
        refine wpAnyH_take (i := 1) (v := .slice A5 2 (c - 6)) rfl (by kernel_rfl) (by kernel_rfl) (by kernel_rfl) (fun _ _ _ h => h) (.inl ⟨rfl, fun w hS => by go_simp⟩) H0 ?_
        simp only [Act.put, List.getElem_toArray, List.getElem_cons_succ, List.getElem_cons_zero, List.setIfInBounds_toArray, List.set_cons_zero, List.set_cons_succ]
        refine wpAnyH_take (i := 2) (v := .pointer (some ⟨V9, 1, none⟩)) rfl (by kernel_rfl) (by kernel_rfl) (by kernel_rfl) (fun _ _ _ h => h) (.inl ⟨rfl, fun w hS => by go_simp⟩) H0 ?_
        simp only [Act.put, List.getElem_toArray, List.getElem_cons_succ, List.getElem_cons_zero, List.setIfInBounds_toArray, List.set_cons_zero, List.set_cons_succ]
        refine wpAnyH_take (i := 3) (v := .int .i64 q.2.1) rfl (by kernel_rfl) (by kernel_rfl) (by kernel_rfl) (fun _ _ _ h => h) (.inl ⟨rfl, fun w hS => by go_simp⟩) H0 ?_
        simp only [Act.put, List.getElem_toArray, List.getElem_cons_succ, List.getElem_cons_zero, List.setIfInBounds_toArray, List.set_cons_zero, List.set_cons_succ]
        refine wpAnyH_ready (rs := [4, 8]) (by kernel_rfl) (by simp) ?_
        refine AllReadyH.cons rfl (fun KK hK => ?_) (AllReadyH.cons rfl (fun KK hK => ?_) AllReadyH.nil)
        · refine step_call rfl 36 #[.tmp 45, .tmp 47] #[57, 3] rfl #[.slice A5 2 (c - 6), .int .i64 q.2.1] (by simp [Act.eval]) (enters_of Tryd.func36 (by kernel_rfl) rfl) ?_
          refine (HOU.out A5 (c - 6) q.2.1 w3.drew T3.out).mono ?_
          rintro r w4 ⟨q5, rfl, hq5, b4⟩
          have b4 : Below w3.heap.size w3 w4 := ⟨b4.os, b4.tape, b4.output, b4.size, b4.block⟩
          have B4 := Lib.hid (B9.out.on b4)
          have HB4 := Lib.hid (HB3.out.on b4)
          have BL4 := Lib.hid (BL3.out.trans (b4.mono BL3.out.size))
          have HQ5 := Lib.hid hq5
          have Z4 := Lib.hid ((b4.cell (p := ⟨g, 0, none⟩) (by simp only; omega)).trans Z3.out)
          have hs4 := b4.size
          have m4 : w4.cell? ⟨V9, 1, none⟩ = some (.int .i64 q.2.1) := B4.out.cell 1
          clear b4 hq5 hs5 B9 HB3 BL3 T3 m0 H0
          refine ⟨_, rfl, hK.out _ _ m4 (fun _ => ?_)⟩
          clear hK KK
          simp only [Act.put, List.getElem_toArray, List.getElem_cons_succ, List.getElem_cons_zero, List.setIfInBounds_toArray, List.set_cons_zero, List.set_cons_succ]
          refine wpAnyH_take (i := 5) (v := .tuple #[.agg (ouC q5), .bool false]) rfl (by kernel_rfl) (by kernel_rfl) (by kernel_rfl) (fun _ _ _ h => h) (.inl ⟨rfl, fun w hS => by go_simp⟩) m4 ?_
          simp only [Act.put, List.getElem_toArray, List.getElem_cons_succ, List.getElem_cons_zero, List.setIfInBounds_toArray, List.set_cons_zero, List.set_cons_succ]
          refine wpAnyH_take (i := 6) (v := .agg (ouC q5)) rfl (by kernel_rfl) (by kernel_rfl) (by kernel_rfl) (fun _ _ _ h => h) (.inl ⟨rfl, fun w hS => by go_simp⟩) m4 ?_
          simp only [Act.put, List.getElem_toArray, List.getElem_cons_succ, List.getElem_cons_zero, List.setIfInBounds_toArray, List.set_cons_zero, List.set_cons_succ]
          refine wpAnyH_take (i := 7) (v := .bool false) rfl (by kernel_rfl) (by kernel_rfl) (by kernel_rfl) (fun _ _ _ h => h) (.inl ⟨rfl, fun w hS => by go_simp⟩) m4 ?_
          simp only [Act.put, List.getElem_toArray, List.getElem_cons_succ, List.getElem_cons_zero, List.setIfInBounds_toArray, List.set_cons_zero, List.set_cons_succ]
          refine wpAnyH_ready (rs := [8]) (by kernel_rfl) (by simp) ?_
          refine AllReadyH.cons rfl (fun KK hK => ?_) AllReadyH.nil
          go_simp
          have b5 := Blk.new w4 26 (ouC (0, 0, 0))
          have b9 := B4.out.alloc (.cells (ouC (0, 0, 0)) 26)
          have hb5 := HB4.out.alloc (.cells (ouC (0, 0, 0)) 26)
          have bl5 := BL4.out.alloc BL4.out.size (.cells (ouC (0, 0, 0)) 26)
          have z5 := (World.cell?_alloc_lt w4 (.cells (ouC (0, 0, 0)) 26) ⟨g, 0, none⟩ (by simp only; omega)).trans Z4.out
          have v9 := B4.out.lt
          have v0 := BL4.out.size
          have v2 := HB4.out.lt
          have vg : g < w4.heap.size := by omega
          obtain ⟨V11, hV11⟩ : ∃ V11, w4.heap.size = V11 := ⟨_, rfl⟩
          rw [hV11] at b5 v9 v0 v2 vg ⊢
          unfold ouC at b5 b9 hb5 bl5 z5
          generalize (w4.alloc (.cells _ 26)) = w5 at b5 b9 hb5 bl5 z5 ⊢
          have B5 := Lib.hid b5
          have C9 := Lib.hid b9
          have HB5 := Lib.hid hb5
          have BL5 := Lib.hid bl5
          have Z5 := Lib.hid z5
          have m5 : w5.cell? ⟨V9, 1, none⟩ = some (.int .i64 q.2.1) := b9.cell 1
          clear b5 b9 hb5 bl5 z5 B4 HB4 BL4 Z4 m4 hV11
          refine hK.out _ _ m5 (fun _ => ?_)
          clear hK KK
          try simp only [Act.put, List.getElem_toArray, List.getElem_cons_succ, List.getElem_cons_zero, List.setIfInBounds_toArray, List.set_cons_zero, List.set_cons_succ]
          refine wpAnyH_ready (rs := [9]) (by kernel_rfl) (by simp) ?_
          refine AllReadyH.cons rfl (fun KK hK => ?_) AllReadyH.nil
          refine (if_pos (show Region.wanted _ _ = true by rfl)).mpr ?_
          refine wp_store_row 26 (.tmp 7) (.tmp 49) rfl V11 (ouC q5) rfl rfl 26 (ouC (0, 0, 0)) B5.out ou_size rfl (ou_one q5) ?_
          have b6 : Blk (w5.setRow V11 (ouC q5)) V11 26 (ouC q5) := setRow_heap _ _ _ _ _ _ B5.out
          have c6 : Blk (w5.setRow V11 (ouC q5)) V9 24 (inC q) := (setRow_other w5 V11 V9 _ (by omega)).trans C9.out
          have hb6 : Blk (w5.setRow V11 (ouC q5)) w.heap.size 28 (bdC zeroB) := (setRow_other w5 V11 w.heap.size _ (by omega)).trans HB5.out
          have z6 : (w5.setRow V11 (ouC q5)).cell? ⟨g, 0, none⟩ = some (.string (bs a0)) := (World.cell?_of_block (setRow_other w5 V11 _ _ (by simp only; omega))).trans Z5.out
          have bl6 : Below w.heap.size w (w5.setRow V11 (ouC q5)) := below_setRow BL5.out v0 _
          generalize w5.setRow V11 (ouC q5) = w6 at b6 c6 hb6 bl6 z6 ⊢
          have B6 := Lib.hid b6
          have C6 := Lib.hid c6
          have HB6 := Lib.hid hb6
          have BL6 := Lib.hid bl6
          have Z6 := Lib.hid z6
          have m6 : w6.cell? ⟨V9, 1, none⟩ = some (.int .i64 q.2.1) := c6.cell 1
          clear b6 c6 hb6 bl6 z6 B5 C9 HB5 BL5 Z5 m5
          refine hK.out _ _ m6 (fun _ => ?_)
          clear hK KK
          try simp only [Act.put, List.getElem_toArray, List.getElem_cons_succ, List.getElem_cons_zero, List.setIfInBounds_toArray, List.set_cons_zero, List.set_cons_succ]
          refine wpAnyH_take (i := 10) (v := .bool false) rfl (by kernel_rfl) (by kernel_rfl) (by kernel_rfl) (fun _ _ _ h => h) (.inl ⟨rfl, fun w hS => by go_simp⟩) m6 ?_
          simp only [Act.put, List.getElem_toArray, List.getElem_cons_succ, List.getElem_cons_zero, List.setIfInBounds_toArray, List.set_cons_zero, List.set_cons_succ]
          refine wpAnyH_done (by kernel_rfl) ?_ _
          go_wp2_with (refine wpList_store_row rfl 28 (.tmp 2) (.tmp 57) rfl w.heap.size (bdC zeroB) rfl rfl 28 (bdC zeroB) HB6.out bd_size rfl (bd_one _) ?_)
          refine rread_ret (w := w) (q := zeroB) (z := 13) rfl rfl rfl (setRow_heap _ _ _ _ _ _ HB6.out) ⟨by rw [HR.out], below_setRow BL6.out (Nat.le_refl _) _⟩
        · go_simp
          have b5 := Blk.new w3 26 (ouC (0, 0, 0))
          have b9 := B9.out.alloc (.cells (ouC (0, 0, 0)) 26)
          have hb5 := HB3.out.alloc (.cells (ouC (0, 0, 0)) 26)
          have bl5 := BL3.out.alloc BL3.out.size (.cells (ouC (0, 0, 0)) 26)
          have z5 := (World.cell?_alloc_lt w3 (.cells (ouC (0, 0, 0)) 26) ⟨g, 0, none⟩ (by simp only; omega)).trans Z3.out
          have v9 := B9.out.lt
          have v0 := BL3.out.size
          have v2 := HB3.out.lt
          have vg : g < w3.heap.size := by omega
          have t4 := (T3.out.kept (w' := w3.alloc (.cells (ouC (0, 0, 0)) 26)) ((Below.refl w3.heap.size w3).alloc (o := (.cells (ouC (0, 0, 0)) 26)) (Nat.le_refl _))).in_
          have hs9 : w3.heap.size < (w3.alloc (.cells (ouC (0, 0, 0)) 26)).heap.size := by simp
          obtain ⟨V11, hV11⟩ : ∃ V11, w3.heap.size = V11 := ⟨_, rfl⟩
          rw [hV11] at b5 v9 v0 v2 vg hs9 ⊢
          obtain ⟨w4, hw4⟩ : ∃ w4, (w3.alloc (.cells (ouC (0, 0, 0)) 26)).drew = w4 := ⟨_, rfl⟩
          have b5 : Blk w4 V11 26 (ouC (0, 0, 0)) := by rw [← hw4]; exact b5
          have b9 : Blk w4 V9 24 (inC q) := by rw [← hw4]; exact b9
          have hb5 : Blk w4 w.heap.size 28 (bdC zeroB) := by rw [← hw4]; exact hb5
          have bl5 : Below w.heap.size w w4 := by rw [← hw4]; exact bl5.drew
          have z5 : w4.cell? ⟨g, 0, none⟩ = some (.string (bs a0)) := by rw [← hw4]; exact z5
          have t4 : TS w4.heap.size w4 A5 2 (c - 6) [a6, a7] := by rw [← hw4]; exact t4
          have hs9 : V11 < w4.heap.size := by rw [← hw4]; exact hs9
          unfold ouC at hw4 b5
          rw [hw4]
          have E5 := Lib.hid b5
          have E9 := Lib.hid b9
          have HE5 := Lib.hid hb5
          have BE5 := Lib.hid bl5
          have T4 := Lib.hid t4
          have ZE5 := Lib.hid z5
          have m4 : w4.cell? ⟨V9, 1, none⟩ = some (.int .i64 q.2.1) := b9.cell 1
          clear b5 b9 hb5 bl5 t4 z5 B9 HB3 BL3 T3 hV11 hw4 m0 H0
          refine hK.out _ _ m4 (fun _ => ?_)
          clear hK KK
          try simp only [Act.put, List.getElem_toArray, List.getElem_cons_succ, List.getElem_cons_zero, List.setIfInBounds_toArray, List.set_cons_zero, List.set_cons_succ]
          refine wpAnyH_ready (rs := [4]) (by kernel_rfl) (by simp) ?_
          refine AllReadyH.cons rfl (fun KK hK => ?_) AllReadyH.nil
          refine step_call rfl 36 #[.tmp 45, .tmp 47] #[57, 3] rfl #[.slice A5 2 (c - 6), .int .i64 q.2.1] (by simp [Act.eval]) (enters_of Tryd.func36 (by kernel_rfl) rfl) ?_
          refine (HOU.out A5 (c - 6) q.2.1 _ T4.out).mono ?_
          rintro r w5 ⟨q5, rfl, hq5, b4⟩
          have B5 := Lib.hid (E5.out.on b4)
          have C9 := Lib.hid (E9.out.on b4)
          have HB5 := Lib.hid (HE5.out.on b4)
          have BL5 := Lib.hid (BE5.out.trans (b4.mono BE5.out.size))
          have HQ5 := Lib.hid hq5
          have Z5 := Lib.hid ((b4.cell (p := ⟨g, 0, none⟩) (by simp only; omega)).trans ZE5.out)
          have m5 : w5.cell? ⟨V9, 1, none⟩ = some (.int .i64 q.2.1) := C9.out.cell 1
          clear b4 hq5 hs5 m4
          refine ⟨_, rfl, hK.out _ _ m5 (fun _ => ?_)⟩
          clear hK KK
          simp only [Act.put, List.getElem_toArray, List.getElem_cons_succ, List.getElem_cons_zero, List.setIfInBounds_toArray, List.set_cons_zero, List.set_cons_succ]
          refine wpAnyH_take (i := 5) (v := .tuple #[.agg (ouC q5), .bool false]) rfl (by kernel_rfl) (by kernel_rfl) (by kernel_rfl) (fun _ _ _ h => h) (.inl ⟨rfl, fun w hS => by go_simp⟩) m5 ?_
          simp only [Act.put, List.getElem_toArray, List.getElem_cons_succ, List.getElem_cons_zero, List.setIfInBounds_toArray, List.set_cons_zero, List.set_cons_succ]
          refine wpAnyH_take (i := 6) (v := .agg (ouC q5)) rfl (by kernel_rfl) (by kernel_rfl) (by kernel_rfl) (fun _ _ _ h => h) (.inl ⟨rfl, fun w hS => by go_simp⟩) m5 ?_
          simp only [Act.put, List.getElem_toArray, List.getElem_cons_succ, List.getElem_cons_zero, List.setIfInBounds_toArray, List.set_cons_zero, List.set_cons_succ]
          refine wpAnyH_take (i := 7) (v := .bool false) rfl (by kernel_rfl) (by kernel_rfl) (by kernel_rfl) (fun _ _ _ h => h) (.inl ⟨rfl, fun w hS => by go_simp⟩) m5 ?_
          simp only [Act.put, List.getElem_toArray, List.getElem_cons_succ, List.getElem_cons_zero, List.setIfInBounds_toArray, List.set_cons_zero, List.set_cons_succ]
          refine wpAnyH_ready (rs := [9]) (by kernel_rfl) (by simp) ?_
          refine AllReadyH.cons rfl (fun KK hK => ?_) AllReadyH.nil
          refine (if_pos (show Region.wanted _ _ = true by rfl)).mpr ?_
          refine wp_store_row 26 (.tmp 7) (.tmp 49) rfl V11 (ouC q5) rfl rfl 26 (ouC (0, 0, 0)) B5.out ou_size rfl (ou_one q5) ?_
          have b6 : Blk (w5.setRow V11 (ouC q5)) V11 26 (ouC q5) := setRow_heap _ _ _ _ _ _ B5.out
          have c6 : Blk (w5.setRow V11 (ouC q5)) V9 24 (inC q) := (setRow_other w5 V11 V9 _ (by omega)).trans C9.out
          have hb6 : Blk (w5.setRow V11 (ouC q5)) w.heap.size 28 (bdC zeroB) := (setRow_other w5 V11 w.heap.size _ (by omega)).trans HB5.out
          have z6 : (w5.setRow V11 (ouC q5)).cell? ⟨g, 0, none⟩ = some (.string (bs a0)) := (World.cell?_of_block (setRow_other w5 V11 _ _ (by simp only; omega))).trans Z5.out
          have bl6 : Below w.heap.size w (w5.setRow V11 (ouC q5)) := below_setRow BL5.out v0 _
          generalize w5.setRow V11 (ouC q5) = w6 at b6 c6 hb6 bl6 z6 ⊢
          have B6 := Lib.hid b6
          have C6 := Lib.hid c6
          have HB6 := Lib.hid hb6
          have BL6 := Lib.hid bl6
          have Z6 := Lib.hid z6
          have m6 : w6.cell? ⟨V9, 1, none⟩ = some (.int .i64 q.2.1) := c6.cell 1
          clear b6 c6 hb6 bl6 z6 B5 C9 HB5 BL5 Z5 m5
          refine hK.out _ _ m6 (fun _ => ?_)
          clear hK KK
          try simp only [Act.put, List.getElem_toArray, List.getElem_cons_succ, List.getElem_cons_zero, List.setIfInBounds_toArray, List.set_cons_zero, List.set_cons_succ]
          refine wpAnyH_take (i := 10) (v := .bool false) rfl (by kernel_rfl) (by kernel_rfl) (by kernel_rfl) (fun _ _ _ h => h) (.inl ⟨rfl, fun w hS => by go_simp⟩) m6 ?_
          simp only [Act.put, List.getElem_toArray, List.getElem_cons_succ, List.getElem_cons_zero, List.setIfInBounds_toArray, List.set_cons_zero, List.set_cons_succ]
          refine wpAnyH_done (by kernel_rfl) ?_ _
          go_wp2_with (refine wpList_store_row rfl 28 (.tmp 2) (.tmp 57) rfl w.heap.size (bdC zeroB) rfl rfl 28 (bdC zeroB) HB6.out bd_size rfl (bd_one _) ?_)
          refine rread_ret (w := w) (q := zeroB) (z := 13) rfl rfl rfl (setRow_heap _ _ _ _ _ _ HB6.out) ⟨by rw [HR.out], below_setRow BL6.out (Nat.le_refl _) _⟩
      · have HR := Lib.hid (HRS.out (innerI x, ((innerI x).2.1, (y.1 : Int), (y.2 : Int)), true) rfl)
        clear HRS HRN
        have HIN := Lib.hid (show ∀ A m W, TS W.heap.size W A 4 m [a1, a2, a3, a4] → Calls Tryd.prog 35 #[.slice A 4 m] W (InP W (some x)) from HIN.out)
        have HOU := Lib.hid (show ∀ A m p W, TS W.heap.size W A 2 m [a6, a7] → Calls Tryd.prog 36 #[.slice A 2 m, .int .i64 p] W (OuP W p (some y)) from HOU.out)
        go_enter Tryd.func12, Tryd.ntmps12
        go_upto_region 7 with (first
          | (go_at_call 34; refine HW.out.mono ?_; rintro e w1 ⟨g, c, rfl, hc1, hc2, tr, b1⟩; have HB := Lib.hid ((Blk.new w 28 (bdC zeroB)).on b1); have BL := Lib.hid (BL0.out.trans (b1.mono (by omega))); have x0 := tr.cell (k := 0) rfl; simp only [Nat.zero_add, Nat.add_zero] at x0; have x5 := tr.cell (k := 5) rfl; simp only [Nat.zero_add, Nat.add_zero] at x5; have X0 := Lib.hid x0; have hgb : g ≠ w.heap.size := (by intro e; have k := HB.out.cell 0; rw [← e, x0] at k; exact absurd k (by simp [bdC, zeroB])); obtain ⟨A', hsl, htl⟩ := TS.mid (B := w1.heap.size) (A := some ⟨g, 0, none⟩) hc1 (by omega); obtain ⟨A5, hs5, ht5⟩ := TS.tail (B := w1.heap.size) (A := some ⟨g, 0, none⟩) hc1 6 (by omega); have hs5 : ∀ w' : World, (Instr.slice 57 (.slice (some ⟨g, 0, none⟩) 8 c) (some (.int .i64 6)) none none).run Tryd.prog w' = .ok (.slice A5 2 (c - 6)) w' := hs5; have HTS := Lib.hid (htl _ _ (TS.of tr tr.1 hc1 hc2)); have HT5 := Lib.hid (ht5 _ _ (TS.of tr tr.1 hc1 hc2)); have hg1 : g < w1.heap.size := tr.1; clear htl ht5; clear tr b1 hc1 hc2)
          | (go_at_call 35; refine (HIN.out _ _ _ HTS.out).mono ?_; rintro e' w2 ⟨q, rfl, hq2, b2⟩; have HQ := Lib.hid hq2; have HB2 := Lib.hid (HB.out.on b2); have BL2 := Lib.hid (BL.out.trans (b2.mono BL.out.size)); have hsz12 : w1.heap.size ≤ w2.heap.size := b2.size; have HT6 := Lib.hid (HT5.out.kept b2); have y0 := (b2.cell (p := ⟨g, 0, none⟩) hg1).trans X0.out; clear HB BL hq2 x0; clear b2; unfold inC))
        have b9 : Blk (w2.alloc (.cells (inC q) 24)) w2.heap.size 24 (inC q) := Blk.new _ _ _
        have hb3 := HB2.out.alloc (.cells (inC q) 24)
        have bl3 := BL2.out.alloc BL2.out.size (.cells (inC q) 24)
        have t3 := (HT6.out.kept ((Below.refl w1.heap.size w2).alloc (o := .cells (inC q) 24) hsz12)).in_
        have z0 : (w2.alloc (.cells (inC q) 24)).cell? ⟨g, 0, none⟩ = some (.string (bs a0)) := (World.cell?_alloc_lt _ _ _ (Nat.lt_of_lt_of_le hg1 hsz12)).trans y0
        have hg2 : g < w2.heap.size := Nat.lt_of_lt_of_le hg1 hsz12
        obtain ⟨V9, hV9⟩ : ∃ V9, w2.heap.size = V9 := ⟨_, rfl⟩
        have hq9 := HB2.out.lt
        rw [hV9] at b9 hg2 hq9 ⊢
        unfold inC at b9 hb3 bl3 t3 z0
        have hs3 : V9 + 1 = (w2.alloc (.cells #[.int .i64 q.1, .int .i64 q.2.1, .int .i64 q.2.2.1, .int .i64 q.2.2.2] 24)).heap.size := by rw [← hV9]; simp
        generalize (w2.alloc (.cells _ 24)) = w3 at b9 hb3 bl3 t3 z0 hs3 ⊢
        have B9 := Lib.hid b9
        have HB3 := Lib.hid hb3
        have BL3 := Lib.hid bl3
        have T3 := Lib.hid t3
        have Z3 := Lib.hid z0
        have m0 : w3.cell? ⟨V9, 1, none⟩ = some (.int .i64 q.2.1) := b9.cell 1
        clear b9 hb3 bl3 t3 z0 y0 HT6 HB2 BL2 hV9 HW hsl HTS HT5
        refine wp_region_held_drew (S := fun W' : World => W'.cell? ⟨V9, 1, none⟩ = some (.int .i64 q.2.1)) (by kernel_rfl) m0 (fun H0 => ?_)
        refine wpAnyH_take (i := 0) (v := .slice (some ⟨g, 0, none⟩) 8 c) rfl (by kernel_rfl) (by kernel_rfl) (by kernel_rfl) (fun _ _ _ h => h) (.inl ⟨rfl, fun w hS => by go_simp⟩) H0 ?_
        simp only [Act.put, List.getElem_toArray, List.getElem_cons_zero, List.setIfInBounds_toArray, List.set_cons_zero, List.set_cons_succ]
        refine wpAnyH_take (i := 1) (v := .slice A5 2 (c - 6)) rfl (by kernel_rfl) (by kernel_rfl) (by kernel_rfl) (fun _ _ _ h => h) (.inl ⟨rfl, fun w hS => by go_simp⟩) H0 ?_
        simp only [Act.put, List.getElem_toArray, List.getElem_cons_succ, List.getElem_cons_zero, List.setIfInBounds_toArray, List.set_cons_zero, List.set_cons_succ]
        refine wpAnyH_take (i := 2) (v := .pointer (some ⟨V9, 1, none⟩)) rfl (by kernel_rfl) (by kernel_rfl) (by kernel_rfl) (fun _ _ _ h => h) (.inl ⟨rfl, fun w hS => by go_simp⟩) H0 ?_
        simp only [Act.put, List.getElem_toArray, List.getElem_cons_succ, List.getElem_cons_zero, List.setIfInBounds_toArray, List.set_cons_zero, List.set_cons_succ]
        refine wpAnyH_take (i := 3) (v := .int .i64 q.2.1) rfl (by kernel_rfl) (by kernel_rfl) (by kernel_rfl) (fun _ _ _ h => h) (.inl ⟨rfl, fun w hS => by go_simp⟩) H0 ?_
        simp only [Act.put, List.getElem_toArray, List.getElem_cons_succ, List.getElem_cons_zero, List.setIfInBounds_toArray, List.set_cons_zero, List.set_cons_succ]
        refine wpAnyH_ready (rs := [4, 8]) (by kernel_rfl) (by simp) ?_
        refine AllReadyH.cons rfl (fun KK hK => ?_) (AllReadyH.cons rfl (fun KK hK => ?_) AllReadyH.nil)
        · refine step_call rfl 36 #[.tmp 45, .tmp 47] #[57, 3] rfl #[.slice A5 2 (c - 6), .int .i64 q.2.1] (by simp [Act.eval]) (enters_of Tryd.func36 (by kernel_rfl) rfl) ?_
          refine (HOU.out A5 (c - 6) q.2.1 w3.drew T3.out).mono ?_
          rintro r w4 ⟨q5, rfl, hq5, b4⟩
          have b4 : Below w3.heap.size w3 w4 := ⟨b4.os, b4.tape, b4.output, b4.size, b4.block⟩
          have B4 := Lib.hid (B9.out.on b4)
          have HB4 := Lib.hid (HB3.out.on b4)
          have BL4 := Lib.hid (BL3.out.trans (b4.mono BL3.out.size))
          have HQ5 := Lib.hid hq5
          have Z4 := Lib.hid ((b4.cell (p := ⟨g, 0, none⟩) (by simp only; omega)).trans Z3.out)
          have hs4 := b4.size
          have m4 : w4.cell? ⟨V9, 1, none⟩ = some (.int .i64 q.2.1) := B4.out.cell 1
          clear b4 hq5 hs5 B9 HB3 BL3 T3 m0 H0
          refine ⟨_, rfl, hK.out _ _ m4 (fun _ => ?_)⟩
          clear hK KK
          simp only [Act.put, List.getElem_toArray, List.getElem_cons_succ, List.getElem_cons_zero, List.setIfInBounds_toArray, List.set_cons_zero, List.set_cons_succ]
          refine wpAnyH_take (i := 5) (v := .tuple #[.agg (ouC q5), .bool true]) rfl (by kernel_rfl) (by kernel_rfl) (by kernel_rfl) (fun _ _ _ h => h) (.inl ⟨rfl, fun w hS => by go_simp⟩) m4 ?_
          simp only [Act.put, List.getElem_toArray, List.getElem_cons_succ, List.getElem_cons_zero, List.setIfInBounds_toArray, List.set_cons_zero, List.set_cons_succ]
          refine wpAnyH_take (i := 6) (v := .agg (ouC q5)) rfl (by kernel_rfl) (by kernel_rfl) (by kernel_rfl) (fun _ _ _ h => h) (.inl ⟨rfl, fun w hS => by go_simp⟩) m4 ?_
          simp only [Act.put, List.getElem_toArray, List.getElem_cons_succ, List.getElem_cons_zero, List.setIfInBounds_toArray, List.set_cons_zero, List.set_cons_succ]
          refine wpAnyH_take (i := 7) (v := .bool true) rfl (by kernel_rfl) (by kernel_rfl) (by kernel_rfl) (fun _ _ _ h => h) (.inl ⟨rfl, fun w hS => by go_simp⟩) m4 ?_
          simp only [Act.put, List.getElem_toArray, List.getElem_cons_succ, List.getElem_cons_zero, List.setIfInBounds_toArray, List.set_cons_zero, List.set_cons_succ]
          refine wpAnyH_ready (rs := [8]) (by kernel_rfl) (by simp) ?_
          refine AllReadyH.cons rfl (fun KK hK => ?_) AllReadyH.nil
          go_simp
          have b5 := Blk.new w4 26 (ouC (0, 0, 0))
          have b9 := B4.out.alloc (.cells (ouC (0, 0, 0)) 26)
          have hb5 := HB4.out.alloc (.cells (ouC (0, 0, 0)) 26)
          have bl5 := BL4.out.alloc BL4.out.size (.cells (ouC (0, 0, 0)) 26)
          have z5 := (World.cell?_alloc_lt w4 (.cells (ouC (0, 0, 0)) 26) ⟨g, 0, none⟩ (by simp only; omega)).trans Z4.out
          have v9 := B4.out.lt
          have v0 := BL4.out.size
          have v2 := HB4.out.lt
          have vg : g < w4.heap.size := by omega
          obtain ⟨V11, hV11⟩ : ∃ V11, w4.heap.size = V11 := ⟨_, rfl⟩
          rw [hV11] at b5 v9 v0 v2 vg ⊢
          unfold ouC at b5 b9 hb5 bl5 z5
          generalize (w4.alloc (.cells _ 26)) = w5 at b5 b9 hb5 bl5 z5 ⊢
          have B5 := Lib.hid b5
          have C9 := Lib.hid b9
          have HB5 := Lib.hid hb5
          have BL5 := Lib.hid bl5
          have Z5 := Lib.hid z5
          have m5 : w5.cell? ⟨V9, 1, none⟩ = some (.int .i64 q.2.1) := b9.cell 1
          clear b5 b9 hb5 bl5 z5 B4 HB4 BL4 Z4 m4 hV11
          refine hK.out _ _ m5 (fun _ => ?_)
          clear hK KK
          try simp only [Act.put, List.getElem_toArray, List.getElem_cons_succ, List.getElem_cons_zero, List.setIfInBounds_toArray, List.set_cons_zero, List.set_cons_succ]
          refine wpAnyH_ready (rs := [9]) (by kernel_rfl) (by simp) ?_
          refine AllReadyH.cons rfl (fun KK hK => ?_) AllReadyH.nil
          refine (if_pos (show Region.wanted _ _ = true by rfl)).mpr ?_
          refine wp_store_row 26 (.tmp 7) (.tmp 49) rfl V11 (ouC q5) rfl rfl 26 (ouC (0, 0, 0)) B5.out ou_size rfl (ou_one q5) ?_
          have b6 : Blk (w5.setRow V11 (ouC q5)) V11 26 (ouC q5) := setRow_heap _ _ _ _ _ _ B5.out
          have c6 : Blk (w5.setRow V11 (ouC q5)) V9 24 (inC q) := (setRow_other w5 V11 V9 _ (by omega)).trans C9.out
          have hb6 : Blk (w5.setRow V11 (ouC q5)) w.heap.size 28 (bdC zeroB) := (setRow_other w5 V11 w.heap.size _ (by omega)).trans HB5.out
          have z6 : (w5.setRow V11 (ouC q5)).cell? ⟨g, 0, none⟩ = some (.string (bs a0)) := (World.cell?_of_block (setRow_other w5 V11 _ _ (by simp only; omega))).trans Z5.out
          have bl6 : Below w.heap.size w (w5.setRow V11 (ouC q5)) := below_setRow BL5.out v0 _
          generalize w5.setRow V11 (ouC q5) = w6 at b6 c6 hb6 bl6 z6 ⊢
          have B6 := Lib.hid b6
          have C6 := Lib.hid c6
          have HB6 := Lib.hid hb6
          have BL6 := Lib.hid bl6
          have Z6 := Lib.hid z6
          have m6 : w6.cell? ⟨V9, 1, none⟩ = some (.int .i64 q.2.1) := c6.cell 1
          clear b6 c6 hb6 bl6 z6 B5 C9 HB5 BL5 Z5 m5
          refine hK.out _ _ m6 (fun _ => ?_)
          clear hK KK
          try simp only [Act.put, List.getElem_toArray, List.getElem_cons_succ, List.getElem_cons_zero, List.setIfInBounds_toArray, List.set_cons_zero, List.set_cons_succ]
          refine wpAnyH_take (i := 10) (v := .bool true) rfl (by kernel_rfl) (by kernel_rfl) (by kernel_rfl) (fun _ _ _ h => h) (.inl ⟨rfl, fun w hS => by go_simp⟩) m6 ?_
          simp only [Act.put, List.getElem_toArray, List.getElem_cons_succ, List.getElem_cons_zero, List.setIfInBounds_toArray, List.set_cons_zero, List.set_cons_succ]
          refine wpAnyH_done (by kernel_rfl) ?_ _
          obtain rfl := HQ.out _ rfl
          obtain rfl := HQ5.out _ rfl
          clear m6
          go_upto_region 10 with fail
          refine wp_region_held_drew (S := (fun W' : World => Blk W' V9 24 (inC (innerI x)) ∧ Blk W' V11 26 (ouC ((innerI x).2.1, (y.1 : Int), (y.2 : Int))) ∧ W'.cell? ⟨g, 0, none⟩ = some (.string (bs a0)))) (by kernel_rfl) ⟨C6.out, B6.out, Z6.out⟩ (fun H0 => ?_)
          refine wpAnyH_take (i := 0) (v := .agg (inC (innerI x))) rfl (by kernel_rfl) (by kernel_rfl) (by kernel_rfl) (fun _ _ _ h => h) (yieldsIf_load_row rfl 24 (.tmp 5) rfl V9 rfl 24 (inC (innerI x)) _ (fun w hS => hS.1) Tryd.underlying24 rfl in_size) H0 ?_
          simp only [Act.put, List.getElem_toArray, List.getElem_cons_zero, List.setIfInBounds_toArray, List.set_cons_zero, List.set_cons_succ]
          refine wpAnyH_take (i := 1) (v := .agg (ouC ((innerI x).2.1, (y.1 : Int), (y.2 : Int)))) rfl (by kernel_rfl) (by kernel_rfl) (by kernel_rfl) (fun _ _ _ h => h) (yieldsIf_load_row rfl 26 (.tmp 7) rfl V11 rfl 26 (ouC ((innerI x).2.1, (y.1 : Int), (y.2 : Int))) _ (fun w hS => hS.2.1) Tryd.underlying26 rfl ou_size) H0 ?_
          simp only [Act.put, List.getElem_toArray, List.getElem_cons_succ, List.getElem_cons_zero, List.setIfInBounds_toArray, List.set_cons_zero, List.set_cons_succ]
          refine wpAnyH_take (i := 2) (v := .slice (some ⟨g, 0, none⟩) 8 c) rfl (by kernel_rfl) (by kernel_rfl) (by kernel_rfl) (fun _ _ _ h => h) (.inl ⟨rfl, fun w hS => by go_simp⟩) H0 ?_
          simp only [Act.put, List.getElem_toArray, List.getElem_cons_succ, List.getElem_cons_zero, List.setIfInBounds_toArray, List.set_cons_zero, List.set_cons_succ]
          refine wpAnyH_take (i := 3) (v := .pointer (some ⟨g, 0, none⟩)) rfl (by kernel_rfl) (by kernel_rfl) (by kernel_rfl) (fun _ _ _ h => h) (.inl ⟨rfl, fun w hS => by go_simp⟩) H0 ?_
          simp only [Act.put, List.getElem_toArray, List.getElem_cons_succ, List.getElem_cons_zero, List.setIfInBounds_toArray, List.set_cons_zero, List.set_cons_succ]
          refine wpAnyH_take (i := 4) (v := .string (bs a0)) rfl (by kernel_rfl) (by kernel_rfl) (by kernel_rfl) (fun _ _ _ h => h) (.inl ⟨rfl, fun w hS => by obtain ⟨_, _, m0⟩ := hS; go_simp⟩) H0 ?_
          simp only [Act.put, List.getElem_toArray, List.getElem_cons_succ, List.getElem_cons_zero, List.setIfInBounds_toArray, List.set_cons_zero, List.set_cons_succ]
          refine wpAnyH_take (i := 5) (v := .bool true) rfl (by kernel_rfl) (by kernel_rfl) (by kernel_rfl) (fun _ _ _ h => h) (.inl ⟨rfl, fun w hS => by go_simp⟩) H0 ?_
          simp only [Act.put, List.getElem_toArray, List.getElem_cons_succ, List.getElem_cons_zero, List.setIfInBounds_toArray, List.set_cons_zero, List.set_cons_succ]
          refine wpAnyH_take (i := 6) (v := .agg (bdC (innerI x, ((innerI x).2.1, (y.1 : Int), (y.2 : Int)), true))) rfl (by kernel_rfl) (by kernel_rfl) (by kernel_rfl) (fun _ _ _ h => h) (.inl ⟨rfl, fun w hS => by unfold inC ouC; go_simp; first | done | rfl⟩) H0 ?_
          simp only [Act.put, List.getElem_toArray, List.getElem_cons_succ, List.getElem_cons_zero, List.setIfInBounds_toArray, List.set_cons_zero, List.set_cons_succ]
          refine wpAnyH_ready (rs := [7]) (by kernel_rfl) (by simp) ?_
          refine AllReadyH.cons rfl (fun KK hK => ?_) AllReadyH.nil
          refine (if_pos (show Region.wanted _ _ = true by rfl)).mpr ?_
          refine wp_store_row 28 (.tmp 2) (.tmp 64) rfl w.heap.size (bdC (innerI x, ((innerI x).2.1, (y.1 : Int), (y.2 : Int)), true)) rfl rfl 28 (bdC zeroB) HB6.out bd_size rfl (bd_one _) ?_
          have hS' := (⟨(setRow_other w6.drew w.heap.size V9 _ (by omega)).trans C6.out, (setRow_other w6.drew w.heap.size V11 _ (by omega)).trans B6.out, (World.cell?_of_block (setRow_other w6.drew w.heap.size _ _ hgb)).trans Z6.out⟩ : (fun W' : World => Blk W' V9 24 (inC (innerI x)) ∧ Blk W' V11 26 (ouC ((innerI x).2.1, (y.1 : Int), (y.2 : Int))) ∧ W'.cell? ⟨g, 0, none⟩ = some (.string (bs a0))) (w6.drew.setRow w.heap.size (bdC (innerI x, ((innerI x).2.1, (y.1 : Int), (y.2 : Int)), true))))
          refine hK.out _ _ hS' (fun _ => ?_)
          clear hK KK
          try simp only [Act.put, List.getElem_toArray, List.getElem_cons_succ, List.getElem_cons_zero, List.setIfInBounds_toArray, List.set_cons_zero, List.set_cons_succ]
          refine wpAnyH_take (i := 8) (v := .int .i64 0) rfl (by kernel_rfl) (by kernel_rfl) (by kernel_rfl) (fun _ _ _ h => h) (.inl ⟨rfl, fun w hS => by go_simp⟩) hS' ?_
          simp only [Act.put, List.getElem_toArray, List.getElem_cons_succ, List.getElem_cons_zero, List.setIfInBounds_toArray, List.set_cons_zero, List.set_cons_succ]
          refine wpAnyH_done (by kernel_rfl) ?_ _
          go_wp2_with fail
          refine rread_ret (w := w) (q := (innerI x, ((innerI x).2.1, (y.1 : Int), (y.2 : Int)), true)) (z := 0) rfl rfl rfl (setRow_heap _ _ _ _ _ _ HB6.out) ⟨by rw [HR.out], below_setRow BL6.out.drew (Nat.le_refl _) _⟩
        · go_simp
          have b5 := Blk.new w3 26 (ouC (0, 0, 0))
          have b9 := B9.out.alloc (.cells (ouC (0, 0, 0)) 26)
          have hb5 := HB3.out.alloc (.cells (ouC (0, 0, 0)) 26)
          have bl5 := BL3.out.alloc BL3.out.size (.cells (ouC (0, 0, 0)) 26)
          have z5 := (World.cell?_alloc_lt w3 (.cells (ouC (0, 0, 0)) 26) ⟨g, 0, none⟩ (by simp only; omega)).trans Z3.out
          have v9 := B9.out.lt
          have v0 := BL3.out.size
          have v2 := HB3.out.lt
          have vg : g < w3.heap.size := by omega
          have t4 := (T3.out.kept (w' := w3.alloc (.cells (ouC (0, 0, 0)) 26)) ((Below.refl w3.heap.size w3).alloc (o := (.cells (ouC (0, 0, 0)) 26)) (Nat.le_refl _))).in_
          have hs9 : w3.heap.size < (w3.alloc (.cells (ouC (0, 0, 0)) 26)).heap.size := by simp
          obtain ⟨V11, hV11⟩ : ∃ V11, w3.heap.size = V11 := ⟨_, rfl⟩
          rw [hV11] at b5 v9 v0 v2 vg hs9 ⊢
          obtain ⟨w4, hw4⟩ : ∃ w4, (w3.alloc (.cells (ouC (0, 0, 0)) 26)).drew = w4 := ⟨_, rfl⟩
          have b5 : Blk w4 V11 26 (ouC (0, 0, 0)) := by rw [← hw4]; exact b5
          have b9 : Blk w4 V9 24 (inC q) := by rw [← hw4]; exact b9
          have hb5 : Blk w4 w.heap.size 28 (bdC zeroB) := by rw [← hw4]; exact hb5
          have bl5 : Below w.heap.size w w4 := by rw [← hw4]; exact bl5.drew
          have z5 : w4.cell? ⟨g, 0, none⟩ = some (.string (bs a0)) := by rw [← hw4]; exact z5
          have t4 : TS w4.heap.size w4 A5 2 (c - 6) [a6, a7] := by rw [← hw4]; exact t4
          have hs9 : V11 < w4.heap.size := by rw [← hw4]; exact hs9
          unfold ouC at hw4 b5
          rw [hw4]
          have E5 := Lib.hid b5
          have E9 := Lib.hid b9
          have HE5 := Lib.hid hb5
          have BE5 := Lib.hid bl5
          have T4 := Lib.hid t4
          have ZE5 := Lib.hid z5
          have m4 : w4.cell? ⟨V9, 1, none⟩ = some (.int .i64 q.2.1) := b9.cell 1
          clear b5 b9 hb5 bl5 t4 z5 B9 HB3 BL3 T3 hV11 hw4 m0 H0
          refine hK.out _ _ m4 (fun _ => ?_)
          clear hK KK
          try simp only [Act.put, List.getElem_toArray, List.getElem_cons_succ, List.getElem_cons_zero, List.setIfInBounds_toArray, List.set_cons_zero, List.set_cons_succ]
          refine wpAnyH_ready (rs := [4]) (by kernel_rfl) (by simp) ?_
          refine AllReadyH.cons rfl (fun KK hK => ?_) AllReadyH.nil
          refine step_call rfl 36 #[.tmp 45, .tmp 47] #[57, 3] rfl #[.slice A5 2 (c - 6), .int .i64 q.2.1] (by simp [Act.eval]) (enters_of Tryd.func36 (by kernel_rfl) rfl) ?_
          refine (HOU.out A5 (c - 6) q.2.1 _ T4.out).mono ?_
          rintro r w5 ⟨q5, rfl, hq5, b4⟩
          have B5 := Lib.hid (E5.out.on b4)
          have C9 := Lib.hid (E9.out.on b4)
          have HB5 := Lib.hid (HE5.out.on b4)
          have BL5 := Lib.hid (BE5.out.trans (b4.mono BE5.out.size))
          have HQ5 := Lib.hid hq5
          have Z5 := Lib.hid ((b4.cell (p := ⟨g, 0, none⟩) (by simp only; omega)).trans ZE5.out)
          have m5 : w5.cell? ⟨V9, 1, none⟩ = some (.int .i64 q.2.1) := C9.out.cell 1
          clear b4 hq5 hs5 m4
          refine ⟨_, rfl, hK.out _ _ m5 (fun _ => ?_)⟩
          clear hK KK
          simp only [Act.put, List.getElem_toArray, List.getElem_cons_succ, List.getElem_cons_zero, List.setIfInBounds_toArray, List.set_cons_zero, List.set_cons_succ]
          refine wpAnyH_take (i := 5) (v := .tuple #[.agg (ouC q5), .bool true]) rfl (by kernel_rfl) (by kernel_rfl) (by kernel_rfl) (fun _ _ _ h => h) (.inl ⟨rfl, fun w hS => by go_simp⟩) m5 ?_
          simp only [Act.put, List.getElem_toArray, List.getElem_cons_succ, List.getElem_cons_zero, List.setIfInBounds_toArray, List.set_cons_zero, List.set_cons_succ]
          refine wpAnyH_take (i := 6) (v := .agg (ouC q5)) rfl (by kernel_rfl) (by kernel_rfl) (by kernel_rfl) (fun _ _ _ h => h) (.inl ⟨rfl, fun w hS => by go_simp⟩) m5 ?_
          simp only [Act.put, List.getElem_toArray, List.getElem_cons_succ, List.getElem_cons_zero, List.setIfInBounds_toArray, List.set_cons_zero, List.set_cons_succ]
          refine wpAnyH_take (i := 7) (v := .bool true) rfl (by kernel_rfl) (by kernel_rfl) (by kernel_rfl) (fun _ _ _ h => h) (.inl ⟨rfl, fun w hS => by go_simp⟩) m5 ?_
          simp only [Act.put, List.getElem_toArray, List.getElem_cons_succ, List.getElem_cons_zero, List.setIfInBounds_toArray, List.set_cons_zero, List.set_cons_succ]
          refine wpAnyH_ready (rs := [9]) (by kernel_rfl) (by simp) ?_
          refine AllReadyH.cons rfl (fun KK hK => ?_) AllReadyH.nil
          refine (if_pos (show Region.wanted _ _ = true by rfl)).mpr ?_
          refine wp_store_row 26 (.tmp 7) (.tmp 49) rfl V11 (ouC q5) rfl rfl 26 (ouC (0, 0, 0)) B5.out ou_size rfl (ou_one q5) ?_
          have b6 : Blk (w5.setRow V11 (ouC q5)) V11 26 (ouC q5) := setRow_heap _ _ _ _ _ _ B5.out
          have c6 : Blk (w5.setRow V11 (ouC q5)) V9 24 (inC q) := (setRow_other w5 V11 V9 _ (by omega)).trans C9.out
          have hb6 : Blk (w5.setRow V11 (ouC q5)) w.heap.size 28 (bdC zeroB) := (setRow_other w5 V11 w.heap.size _ (by omega)).trans HB5.out
          have z6 : (w5.setRow V11 (ouC q5)).cell? ⟨g, 0, none⟩ = some (.string (bs a0)) := (World.cell?_of_block (setRow_other w5 V11 _ _ (by simp only; omega))).trans Z5.out
          have bl6 : Below w.heap.size w (w5.setRow V11 (ouC q5)) := below_setRow BL5.out v0 _
          generalize w5.setRow V11 (ouC q5) = w6 at b6 c6 hb6 bl6 z6 ⊢
          have B6 := Lib.hid b6
          have C6 := Lib.hid c6
          have HB6 := Lib.hid hb6
          have BL6 := Lib.hid bl6
          have Z6 := Lib.hid z6
          have m6 : w6.cell? ⟨V9, 1, none⟩ = some (.int .i64 q.2.1) := c6.cell 1
          clear b6 c6 hb6 bl6 z6 B5 C9 HB5 BL5 Z5 m5
          refine hK.out _ _ m6 (fun _ => ?_)
          clear hK KK
          try simp only [Act.put, List.getElem_toArray, List.getElem_cons_succ, List.getElem_cons_zero, List.setIfInBounds_toArray, List.set_cons_zero, List.set_cons_succ]
          refine wpAnyH_take (i := 10) (v := .bool true) rfl (by kernel_rfl) (by kernel_rfl) (by kernel_rfl) (fun _ _ _ h => h) (.inl ⟨rfl, fun w hS => by go_simp⟩) m6 ?_
          simp only [Act.put, List.getElem_toArray, List.getElem_cons_succ, List.getElem_cons_zero, List.setIfInBounds_toArray, List.set_cons_zero, List.set_cons_succ]
          refine wpAnyH_done (by kernel_rfl) ?_ _
          obtain rfl := HQ.out _ rfl
          obtain rfl := HQ5.out _ rfl
          clear m6
          go_upto_region 10 with fail
          refine wp_region_held_drew (S := (fun W' : World => Blk W' V9 24 (inC (innerI x)) ∧ Blk W' V11 26 (ouC ((innerI x).2.1, (y.1 : Int), (y.2 : Int))) ∧ W'.cell? ⟨g, 0, none⟩ = some (.string (bs a0)))) (by kernel_rfl) ⟨C6.out, B6.out, Z6.out⟩ (fun H0 => ?_)
          refine wpAnyH_take (i := 0) (v := .agg (inC (innerI x))) rfl (by kernel_rfl) (by kernel_rfl) (by kernel_rfl) (fun _ _ _ h => h) (yieldsIf_load_row rfl 24 (.tmp 5) rfl V9 rfl 24 (inC (innerI x)) _ (fun w hS => hS.1) Tryd.underlying24 rfl in_size) H0 ?_
          simp only [Act.put, List.getElem_toArray, List.getElem_cons_zero, List.setIfInBounds_toArray, List.set_cons_zero, List.set_cons_succ]
          refine wpAnyH_take (i := 1) (v := .agg (ouC ((innerI x).2.1, (y.1 : Int), (y.2 : Int)))) rfl (by kernel_rfl) (by kernel_rfl) (by kernel_rfl) (fun _ _ _ h => h) (yieldsIf_load_row rfl 26 (.tmp 7) rfl V11 rfl 26 (ouC ((innerI x).2.1, (y.1 : Int), (y.2 : Int))) _ (fun w hS => hS.2.1) Tryd.underlying26 rfl ou_size) H0 ?_
          simp only [Act.put, List.getElem_toArray, List.getElem_cons_succ, List.getElem_cons_zero, List.setIfInBounds_toArray, List.set_cons_zero, List.set_cons_succ]
          refine wpAnyH_take (i := 2) (v := .slice (some ⟨g, 0, none⟩) 8 c) rfl (by kernel_rfl) (by kernel_rfl) (by kernel_rfl) (fun _ _ _ h => h) (.inl ⟨rfl, fun w hS => by go_simp⟩) H0 ?_
          simp only [Act.put, List.getElem_toArray, List.getElem_cons_succ, List.getElem_cons_zero, List.setIfInBounds_toArray, List.set_cons_zero, List.set_cons_succ]
          refine wpAnyH_take (i := 3) (v := .pointer (some ⟨g, 0, none⟩)) rfl (by kernel_rfl) (by kernel_rfl) (by kernel_rfl) (fun _ _ _ h => h) (.inl ⟨rfl, fun w hS => by go_simp⟩) H0 ?_
          simp only [Act.put, List.getElem_toArray, List.getElem_cons_succ, List.getElem_cons_zero, List.setIfInBounds_toArray, List.set_cons_zero, List.set_cons_succ]
          refine wpAnyH_take (i := 4) (v := .string (bs a0)) rfl (by kernel_rfl) (by kernel_rfl) (by kernel_rfl) (fun _ _ _ h => h) (.inl ⟨rfl, fun w hS => by obtain ⟨_, _, m0⟩ := hS; go_simp⟩) H0 ?_
          simp only [Act.put, List.getElem_toArray, List.getElem_cons_succ, List.getElem_cons_zero, List.setIfInBounds_toArray, List.set_cons_zero, List.set_cons_succ]
          refine wpAnyH_take (i := 5) (v := .bool true) rfl (by kernel_rfl) (by kernel_rfl) (by kernel_rfl) (fun _ _ _ h => h) (.inl ⟨rfl, fun w hS => by go_simp⟩) H0 ?_
          simp only [Act.put, List.getElem_toArray, List.getElem_cons_succ, List.getElem_cons_zero, List.setIfInBounds_toArray, List.set_cons_zero, List.set_cons_succ]
          refine wpAnyH_take (i := 6) (v := .agg (bdC (innerI x, ((innerI x).2.1, (y.1 : Int), (y.2 : Int)), true))) rfl (by kernel_rfl) (by kernel_rfl) (by kernel_rfl) (fun _ _ _ h => h) (.inl ⟨rfl, fun w hS => by unfold inC ouC; go_simp; first | done | rfl⟩) H0 ?_
          simp only [Act.put, List.getElem_toArray, List.getElem_cons_succ, List.getElem_cons_zero, List.setIfInBounds_toArray, List.set_cons_zero, List.set_cons_succ]
          refine wpAnyH_ready (rs := [7]) (by kernel_rfl) (by simp) ?_
          refine AllReadyH.cons rfl (fun KK hK => ?_) AllReadyH.nil
          refine (if_pos (show Region.wanted _ _ = true by rfl)).mpr ?_
          refine wp_store_row 28 (.tmp 2) (.tmp 64) rfl w.heap.size (bdC (innerI x, ((innerI x).2.1, (y.1 : Int), (y.2 : Int)), true)) rfl rfl 28 (bdC zeroB) HB6.out bd_size rfl (bd_one _) ?_
          have hS' := (⟨(setRow_other w6.drew w.heap.size V9 _ (by omega)).trans C6.out, (setRow_other w6.drew w.heap.size V11 _ (by omega)).trans B6.out, (World.cell?_of_block (setRow_other w6.drew w.heap.size _ _ hgb)).trans Z6.out⟩ : (fun W' : World => Blk W' V9 24 (inC (innerI x)) ∧ Blk W' V11 26 (ouC ((innerI x).2.1, (y.1 : Int), (y.2 : Int))) ∧ W'.cell? ⟨g, 0, none⟩ = some (.string (bs a0))) (w6.drew.setRow w.heap.size (bdC (innerI x, ((innerI x).2.1, (y.1 : Int), (y.2 : Int)), true))))
          refine hK.out _ _ hS' (fun _ => ?_)
          clear hK KK
          try simp only [Act.put, List.getElem_toArray, List.getElem_cons_succ, List.getElem_cons_zero, List.setIfInBounds_toArray, List.set_cons_zero, List.set_cons_succ]
          refine wpAnyH_take (i := 8) (v := .int .i64 0) rfl (by kernel_rfl) (by kernel_rfl) (by kernel_rfl) (fun _ _ _ h => h) (.inl ⟨rfl, fun w hS => by go_simp⟩) hS' ?_
          simp only [Act.put, List.getElem_toArray, List.getElem_cons_succ, List.getElem_cons_zero, List.setIfInBounds_toArray, List.set_cons_zero, List.set_cons_succ]
          refine wpAnyH_done (by kernel_rfl) ?_ _
          go_wp2_with fail
          refine rread_ret (w := w) (q := (innerI x, ((innerI x).2.1, (y.1 : Int), (y.2 : Int)), true)) (z := 0) rfl rfl rfl (setRow_heap _ _ _ _ _ _ HB6.out) ⟨by rw [HR.out], below_setRow BL6.out.drew (Nat.le_refl _) _⟩
set_option maxRecDepth 100000 in
theorem rread_any (s : List UInt8) (hs : s.length ≤ 1048576) (w : World) : Calls Tryd.prog 12 #[.string (bs s)] w fun e w' => e = .returned (readOV s) ∧ Below w.heap.size w w' := by
  by_cases h200 : 200 < s.length
  · unfold readOV
    have hsz : (bs s).size = s.length := rfl
    have HR := Lib.hid (readO_long h200)
    have hd : decide ((200 : Int) < (s.length : Int)) = true := by simp; omega
    go_enter Tryd.func12, Tryd.ntmps12
    go_wp2
    exact rread_ret (w := w) (q := zeroB) (z := 6) rfl rfl rfl (Blk.new _ _ _) ⟨by rw [HR.out], (Below.refl _ _).alloc (Nat.le_refl _) _⟩
  · by_cases h8 : (piecesB [] s).length = 8
    · rcases hl : piecesB [] s with _ | ⟨a0, _ | ⟨a1, _ | ⟨a2, _ | ⟨a3, _ | ⟨a4, _ | ⟨a5, _ | ⟨a6, _ | ⟨a7, _ | ⟨z, r⟩⟩⟩⟩⟩⟩⟩⟩⟩ <;> rw [hl] at h8 <;> simp at h8
      by_cases h1 : a0 = wBound
      · by_cases h5 : a5 = wAs
        · exact rread_main s a0 a1 a2 a3 a4 a5 a6 a7 (by omega) hl false h1 h5 w
        · exact rread_as s a0 a1 a2 a3 a4 a5 a6 a7 (by omega) hl false h1 h5 w
      · by_cases h2 : a0 = wStatic
        · by_cases h5 : a5 = wAs
          · exact rread_main s a0 a1 a2 a3 a4 a5 a6 a7 (by omega) hl true h2 h5 w
          · exact rread_as s a0 a1 a2 a3 a4 a5 a6 a7 (by omega) hl true h2 h5 w
        · exact rread_first s a0 a1 a2 a3 a4 a5 a6 a7 (by omega) hl h1 h2 w
    · exact rread_else s _ _ (by omega) rfl rfl h8 w
set_option maxRecDepth 100000 in
theorem read_any40 (s : List UInt8) (hs : s.length ≤ 1048576) (w : World) : Calls Tryd.prog 11 #[.string (bs s)] w fun e w' => e = .returned (readOV s) ∧ Below w.heap.size w w' := by
  by_cases h200 : 200 < s.length
  · unfold readOV
    have hsz : (bs s).size = s.length := rfl
    have HR := Lib.hid (readO_long h200)
    have hd : decide ((200 : Int) < (s.length : Int)) = true := by simp; omega
    go_enter Tryd.func11, Tryd.ntmps11
    go_wp2
    exact read_ret (w := w) (q := zeroB) (z := 6) rfl rfl rfl (Blk.new _ _ _) ⟨by rw [HR.out], (Below.refl _ _).alloc (Nat.le_refl _) _⟩
  · by_cases h8 : (piecesB [] s).length = 8
    · rcases hl : piecesB [] s with _ | ⟨a0, _ | ⟨a1, _ | ⟨a2, _ | ⟨a3, _ | ⟨a4, _ | ⟨a5, _ | ⟨a6, _ | ⟨a7, _ | ⟨z, r⟩⟩⟩⟩⟩⟩⟩⟩⟩ <;> rw [hl] at h8 <;> simp at h8
      by_cases h1 : a0 = wBound
      · by_cases h5 : a5 = wAs
        · exact read_main s a0 a1 a2 a3 a4 a5 a6 a7 (by omega) hl false h1 h5 w
        · exact read_as s a0 a1 a2 a3 a4 a5 a6 a7 (by omega) hl false h1 h5 w
      · by_cases h2 : a0 = wStatic
        · by_cases h5 : a5 = wAs
          · exact read_main s a0 a1 a2 a3 a4 a5 a6 a7 (by omega) hl true h2 h5 w
          · exact read_as s a0 a1 a2 a3 a4 a5 a6 a7 (by omega) hl true h2 h5 w
        · exact read_first s a0 a1 a2 a3 a4 a5 a6 a7 (by omega) hl h1 h2 w
    · exact read_else s _ _ (by omega) rfl rfl h8 w
end Go.Proofs.YtkbbkddepcjoaaaDoor
