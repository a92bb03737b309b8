/-
  wrap: Wrap of the document: the walk. (Printed by wip/gen/wrapM.py.)
-/
import Derived.Test.YtpjndplinplkjaaWrapL
import Derived.Deep.RegionHeld
namespace Go.Proofs.Ytpjndplinplkjaa
open Go.RowKit Go.Great

section
variable {P : Program} {ops : Array Oper} {S : World → Prop} {op : Oper} {a : Act}
theorem yields_row (hw : Region.wanted op (yielded ops a.tmps) = true) (ty : TypeId) (x : Operand) (ho : op.op = .load ty x)
    (g : Nat) (hx : a.eval x = .pointer (some ⟨g, 0, none⟩)) (t : TypeId) (cs : Array Value) (fr : Nat × Nat) (d : TypeDesc) (hg : ∀ w, S w → w.heap[g]? = some (.cells cs t fr))
    (hu : P.underlying ty = some d) (hd : (match d with | .struct _ | .array _ _ => true | _ => false) = true) (hi : (P.info? ty).map (·.size) = some cs.size) : YieldsIf P ops S op (.agg cs) a :=
  .inl ⟨hw, fun w hS => by
    unfold execOp
    simp only [ho, hx, Instr.loadAt, Instr.sureAddr, Sem.run_bind, Sem.run_pure, Result.andThen_ok, run_loadVar_row w g t ty cs fr d (hg w hS) hu hd hi]⟩
theorem yields_run (hw : Region.wanted op (yielded ops a.tmps) = true) {v : Value} (h : ∀ w, (execOp a.eval op).run P w = .ok (.value v) w) : YieldsIf P ops S op v a := .inl ⟨hw, fun w _ => h w⟩
theorem yields_build (hw : Region.wanted op (yielded ops a.tmps) = true) (t : TypeId) (parts : Array (Nat × Operand)) (ho : op.op = .build t parts) (cells : Array Value)
    (hf : P.built t (parts.map fun (i, x) => (i, a.eval x)).toList = some cells) : YieldsIf P ops S op (.agg cells) a :=
  .inl ⟨hw, fun w _ => by
    unfold execOp
    simp only [ho, Sem.run_bind, run_build w t _ _ hf, Result.andThen_ok]
    rfl⟩
theorem step_alloc {K : Act → World → Prop} {Q : Exit → Act → World → Prop} {E : Prop} {w : World} (hgd : op.guard = none) (v : Value) (ob : Obj) (hrun : (execOp a.eval op).run P w = .ok (.value v) (w.alloc ob))
    (h : K (a.put op.dst v) (w.alloc ob)) : if Region.wanted op (yielded ops a.tmps) = true then Oper.wp P op a w K Q else E := by
  have hw : Region.wanted op (yielded ops a.tmps) = true := by simp [Region.wanted, hgd]
  rw [if_pos hw]
  unfold Oper.wp
  rw [hrun]
  exact h
end

/-- The blocks that Wrap has made so far. -/
def Held (w : World) (c1 c2 : Array Value) (w' : World) : Prop :=
  Blk w' w.heap.size 23 c1 ∧ Blk w' (w.heap.size + 1) 23 c2 ∧ Blk w' (w.heap.size + 1 + 1) 26 none6 ∧ Below w.heap.size w w'
theorem Held.lt {w w' : World} {c1 c2 : Array Value} (h : Held w c1 c2 w') : w.heap.size + 1 + 1 < w'.heap.size := h.2.2.1.lt
theorem Held.below {w w' w2 : World} {c1 c2 : Array Value} (h : Held w c1 c2 w') (hb : Below w'.heap.size w' w2) : Held w c1 c2 w2 := by
  have := h.lt
  exact ⟨h.1.below hb (by omega), h.2.1.below hb (by omega), h.2.2.1.below hb (by omega), h.2.2.2.trans (hb.mono (by omega))⟩
theorem Held.drew {w w' : World} {c1 c2 : Array Value} (h : Held w c1 c2 w') : Held w c1 c2 w'.drew := ⟨h.1, h.2.1, h.2.2.1, h.2.2.2.drew⟩
theorem Held.alloc {w w' : World} {c1 c2 : Array Value} (h : Held w c1 c2 w') (o : Obj) : Held w c1 c2 (w'.alloc o) := h.below ((Below.refl _ _).alloc (Nat.le_refl _) _)
theorem Held.row {w w' : World} {c1 c2 : Array Value} (h : Held w c1 c2 w') {g : Nat} (hg : w.heap.size + 1 + 1 < g) (cs : Array Value) : Held w c1 c2 (w'.setRow g cs) :=
  ⟨(setRow_other _ _ _ _ (by omega)).trans h.1, (setRow_other _ _ _ _ (by omega)).trans h.2.1, (setRow_other _ _ _ _ (by omega)).trans h.2.2.1, below_setRow h.2.2.2 (by omega) cs⟩

theorem wrap_out3 {w w6 : World} {h : Int} {s d : Nat → Int} {n : Nat} {xs : List Int} {A' : Option Addr} {c' : Nat} {e : Ending} {C : Int} {cs : Array Value}
    (hC : chk h = C) (he : e = .returned (.tuple #[.agg cs, .int .i64 C])) (hcs : cs = if C = 0 then wrapped h s d (.slice A' n c') else none6)
    (h2 : BReads w6 A' n xs) (hb : Behind (w.heap.size + 1 + 1 + 1) A') (hB : Below w.heap.size w w6) : Wrapped w h s d n xs e (w6.setRow (w.heap.size + 1 + 1) cs) :=
  ⟨A', c', by rw [hC, he, hcs], h2.row hb (by omega) cs, below_setRow hB (by omega) cs⟩

set_option maxRecDepth 100000 in
set_option maxHeartbeats 4000000 in
theorem rwrap_any (h : Int) (s d : Nat → Int) (A : Option Addr) (n c : Nat) (xs : List Int) (w : World) (hr : BReads w A n xs) (hn : n ≤ 3000) :
    Calls Try.prog 7 #[.agg #[.int .u8 (s 0), .int .u8 (s 1), .int .u8 (s 2), .int .u8 (s 3), .int .u8 (s 4), .int .u8 (s 5), .int .u8 (s 6), .int .u8 (s 7), .int .u8 (s 8), .int .u8 (s 9), .int .u8 (s 10), .int .u8 (s 11), .int .u8 (s 12), .int .u8 (s 13), .int .u8 (s 14), .int .u8 (s 15)], .agg #[.int .u8 (d 0), .int .u8 (d 1), .int .u8 (d 2), .int .u8 (d 3), .int .u8 (d 4), .int .u8 (d 5), .int .u8 (d 6), .int .u8 (d 7), .int .u8 (d 8), .int .u8 (d 9), .int .u8 (d 10), .int .u8 (d 11), .int .u8 (d 12), .int .u8 (d 13), .int .u8 (d 14), .int .u8 (d 15)], .int .i64 h, .slice A n c] w (Wrapped w h s d n xs) := by
  have ec : chk h = 0 ∨ chk h = 1 := by unfold chk; split <;> simp
  obtain ⟨C, hC⟩ : ∃ C, chk h = C := ⟨_, rfl⟩
  rw [hC] at ec
  have EC := Lib.hid hC
  have HR := Lib.hid hr
  clear hr hC
  have hh : Held w #[.int .u8 (s 0), .int .u8 (s 1), .int .u8 (s 2), .int .u8 (s 3), .int .u8 (s 4), .int .u8 (s 5), .int .u8 (s 6), .int .u8 (s 7), .int .u8 (s 8), .int .u8 (s 9), .int .u8 (s 10), .int .u8 (s 11), .int .u8 (s 12), .int .u8 (s 13), .int .u8 (s 14), .int .u8 (s 15)] #[.int .u8 (d 0), .int .u8 (d 1), .int .u8 (d 2), .int .u8 (d 3), .int .u8 (d 4), .int .u8 (d 5), .int .u8 (d 6), .int .u8 (d 7), .int .u8 (d 8), .int .u8 (d 9), .int .u8 (d 10), .int .u8 (d 11), .int .u8 (d 12), .int .u8 (d 13), .int .u8 (d 14), .int .u8 (d 15)] (((w.alloc (.cells #[.int .u8 (s 0), .int .u8 (s 1), .int .u8 (s 2), .int .u8 (s 3), .int .u8 (s 4), .int .u8 (s 5), .int .u8 (s 6), .int .u8 (s 7), .int .u8 (s 8), .int .u8 (s 9), .int .u8 (s 10), .int .u8 (s 11), .int .u8 (s 12), .int .u8 (s 13), .int .u8 (s 14), .int .u8 (s 15)] 23)).alloc (.cells #[.int .u8 (d 0), .int .u8 (d 1), .int .u8 (d 2), .int .u8 (d 3), .int .u8 (d 4), .int .u8 (d 5), .int .u8 (d 6), .int .u8 (d 7), .int .u8 (d 8), .int .u8 (d 9), .int .u8 (d 10), .int .u8 (d 11), .int .u8 (d 12), .int .u8 (d 13), .int .u8 (d 14), .int .u8 (d 15)] 23)).alloc (.cells none6 26)) := ⟨((Blk.at_ rfl).alloc _).alloc _, (Blk.at_ (by simp)).alloc _, Blk.at_ (by simp), (((Below.refl _ w).alloc (Nat.le_refl _) _).alloc (by simp) _).alloc (by simp; omega) _⟩
  go_enter Try.func7, Try.ntmps7
  go_upto_region 1 with fail
  change Code.wp _ _ _ _ (((w.alloc (.cells #[.int .u8 (s 0), .int .u8 (s 1), .int .u8 (s 2), .int .u8 (s 3), .int .u8 (s 4), .int .u8 (s 5), .int .u8 (s 6), .int .u8 (s 7), .int .u8 (s 8), .int .u8 (s 9), .int .u8 (s 10), .int .u8 (s 11), .int .u8 (s 12), .int .u8 (s 13), .int .u8 (s 14), .int .u8 (s 15)] 23)).alloc (.cells #[.int .u8 (d 0), .int .u8 (d 1), .int .u8 (d 2), .int .u8 (d 3), .int .u8 (d 4), .int .u8 (d 5), .int .u8 (d 6), .int .u8 (d 7), .int .u8 (d 8), .int .u8 (d 9), .int .u8 (d 10), .int .u8 (d 11), .int .u8 (d 12), .int .u8 (d 13), .int .u8 (d 14), .int .u8 (d 15)] 23)).alloc (.cells none6 26))
  generalize (((w.alloc (.cells #[.int .u8 (s 0), .int .u8 (s 1), .int .u8 (s 2), .int .u8 (s 3), .int .u8 (s 4), .int .u8 (s 5), .int .u8 (s 6), .int .u8 (s 7), .int .u8 (s 8), .int .u8 (s 9), .int .u8 (s 10), .int .u8 (s 11), .int .u8 (s 12), .int .u8 (s 13), .int .u8 (s 14), .int .u8 (s 15)] 23)).alloc (.cells #[.int .u8 (d 0), .int .u8 (d 1), .int .u8 (d 2), .int .u8 (d 3), .int .u8 (d 4), .int .u8 (d 5), .int .u8 (d 6), .int .u8 (d 7), .int .u8 (d 8), .int .u8 (d 9), .int .u8 (d 10), .int .u8 (d 11), .int .u8 (d 12), .int .u8 (d 13), .int .u8 (d 14), .int .u8 (d 15)] 23)).alloc (.cells none6 26)) = W0 at hh ⊢
  have HH := Lib.hid hh
  clear hh
  refine wp_region_held_drew (S := Held w #[.int .u8 (s 0), .int .u8 (s 1), .int .u8 (s 2), .int .u8 (s 3), .int .u8 (s 4), .int .u8 (s 5), .int .u8 (s 6), .int .u8 (s 7), .int .u8 (s 8), .int .u8 (s 9), .int .u8 (s 10), .int .u8 (s 11), .int .u8 (s 12), .int .u8 (s 13), .int .u8 (s 14), .int .u8 (s 15)] #[.int .u8 (d 0), .int .u8 (d 1), .int .u8 (d 2), .int .u8 (d 3), .int .u8 (d 4), .int .u8 (d 5), .int .u8 (d 6), .int .u8 (d 7), .int .u8 (d 8), .int .u8 (d 9), .int .u8 (d 10), .int .u8 (d 11), .int .u8 (d 12), .int .u8 (d 13), .int .u8 (d 14), .int .u8 (d 15)]) (by kernel_rfl) HH.out.drew (fun H0 => ?_)
  refine wpAnyH_take (i := 0) (v := .int .i64 h) rfl (by kernel_rfl) (by kernel_rfl) (by kernel_rfl) (fun _ _ _ h => h) (yields_run rfl fun _ => rfl) H0 ?_
  simp only [Act.put, List.getElem_toArray, List.getElem_cons_zero, List.setIfInBounds_toArray, List.set_cons_zero, List.set_cons_succ]
  refine wpAnyH_take (i := 1) (v := .agg #[.int .u8 (s 0), .int .u8 (s 1), .int .u8 (s 2), .int .u8 (s 3), .int .u8 (s 4), .int .u8 (s 5), .int .u8 (s 6), .int .u8 (s 7), .int .u8 (s 8), .int .u8 (s 9), .int .u8 (s 10), .int .u8 (s 11), .int .u8 (s 12), .int .u8 (s 13), .int .u8 (s 14), .int .u8 (s 15)]) rfl (by kernel_rfl) (by kernel_rfl) (by kernel_rfl) (fun _ _ _ h => h) (yields_row rfl 23 (.tmp 4) rfl w.heap.size rfl 23 _ (0, 0) _ (fun _ h => h.1) Try.underlying23 rfl six_size) H0 ?_
  simp only [Act.put, List.getElem_toArray, List.getElem_cons_succ, List.getElem_cons_zero, List.setIfInBounds_toArray, List.set_cons_zero, List.set_cons_succ]
  refine wpAnyH_take (i := 2) (v := .agg #[.int .u8 (d 0), .int .u8 (d 1), .int .u8 (d 2), .int .u8 (d 3), .int .u8 (d 4), .int .u8 (d 5), .int .u8 (d 6), .int .u8 (d 7), .int .u8 (d 8), .int .u8 (d 9), .int .u8 (d 10), .int .u8 (d 11), .int .u8 (d 12), .int .u8 (d 13), .int .u8 (d 14), .int .u8 (d 15)]) rfl (by kernel_rfl) (by kernel_rfl) (by kernel_rfl) (fun _ _ _ h => h) (yields_row rfl 23 (.tmp 5) rfl (w.heap.size + 1) rfl 23 _ (0, 0) _ (fun _ h => h.2.1) Try.underlying23 rfl six_size) H0 ?_
  simp only [Act.put, List.getElem_toArray, List.getElem_cons_succ, List.getElem_cons_zero, List.setIfInBounds_toArray, List.set_cons_zero, List.set_cons_succ]
  refine wpAnyH_take (i := 3) (v := .slice A n c) rfl (by kernel_rfl) (by kernel_rfl) (by kernel_rfl) (fun _ _ _ h => h) (yields_run rfl fun _ => rfl) H0 ?_
  simp only [Act.put, List.getElem_toArray, List.getElem_cons_succ, List.getElem_cons_zero, List.setIfInBounds_toArray, List.set_cons_zero, List.set_cons_succ]
  refine wpAnyH_ready (rs := [4, 6]) (by kernel_rfl) (by simp) ?_
  refine AllReadyH.cons rfl (fun K hK => ?_) (AllReadyH.cons rfl (fun K hK => ?_) AllReadyH.nil)
  · refine step_bytes W0.drew rfl (.tmp 15) rfl A n c xs rfl (HR.out.below H0.2.2.2) hn ?_
    intro A1 c1 w1 ha hb hc
    refine hK.out _ _ (H0.below hb) (fun H1 => ?_)
    clear hK K
    simp only [Act.put, List.getElem_toArray, List.getElem_cons_succ, List.getElem_cons_zero, List.setIfInBounds_toArray, List.set_cons_zero, List.set_cons_succ]
    refine wpAnyH_take (i := 5) (v := .agg (wrapped h s d (.slice A1 n c1))) rfl (by kernel_rfl) (by kernel_rfl) (by kernel_rfl) (fun _ _ _ h => h) (yields_build rfl 26 _ rfl (wrapped h s d (.slice A1 n c1)) (by kernel_rfl)) H1 ?_
    simp only [Act.put, List.getElem_toArray, List.getElem_cons_succ, List.getElem_cons_zero, List.setIfInBounds_toArray, List.set_cons_zero, List.set_cons_succ]
    refine wpAnyH_ready (rs := [6]) (by kernel_rfl) (by simp) ?_
    refine AllReadyH.cons rfl (fun K hK => ?_) AllReadyH.nil
    refine step_alloc rfl (.pointer (some ⟨w1.heap.size, 0, none⟩)) (.cells none6 26) (by simp [execOp, go_sem]) ?_
    refine hK.out _ _ (H1.alloc _) (fun H2 => ?_)
    clear hK K
    simp only [Act.put, List.getElem_toArray, List.getElem_cons_succ, List.getElem_cons_zero, List.setIfInBounds_toArray, List.set_cons_zero, List.set_cons_succ]
    refine wpAnyH_ready (rs := [7]) (by kernel_rfl) (by simp) ?_
    refine AllReadyH.cons rfl (fun K hK => ?_) AllReadyH.nil
    rw [if_pos (by rfl)]
    refine wp_store_row 26 (.tmp 10) (.tmp 17) rfl w1.heap.size (wrapped h s d (.slice A1 n c1)) rfl rfl 26 none6 (Blk.at_ rfl) v6_size rfl (one6 0 0 4 h s d A1 n c1) ?_
    refine hK.out _ _ (H2.row H1.lt _) (fun H3 => ?_)
    clear hK K
    simp only [Act.put, List.getElem_toArray, List.getElem_cons_succ, List.getElem_cons_zero]
    refine wpAnyH_done (by kernel_rfl) ?_ _
    have K10 := Lib.hid (show Blk ((w1.alloc (.cells none6 26)).setRow w1.heap.size (wrapped h s d (.slice A1 n c1))) w1.heap.size 26 (wrapped h s d (.slice A1 n c1)) from (Blk.at_ rfl).row)
    have K2 := Lib.hid (show BReads ((w1.alloc (.cells none6 26)).setRow w1.heap.size (wrapped h s d (.slice A1 n c1))) A1 n xs from ha.below (below_setRow ((Below.refl _ _).alloc (Nat.le_refl _) _) (Nat.le_refl _) _))
    have KB := Lib.hid (show Behind (w.heap.size + 1 + 1 + 1) A1 from fun ad e => Nat.le_trans (show w.heap.size + 1 + 1 + 1 ≤ W0.drew.heap.size from H0.lt) (hc ad e))
    have H4 := Lib.hid H3
    have hg := H1.lt
    clear ha hb hc H0 H1 H2 H3 HR HH
    generalize (w1.alloc (.cells none6 26)).setRow w1.heap.size (wrapped h s d (.slice A1 n c1)) = w4 at K10 K2 H4 ⊢
    generalize w1.heap.size = g at K10 hg ⊢
    go_upto_region 2 with fail
    apply wp_region_lit
    refine wpList_load_row rfl 26 (.tmp 10) rfl g rfl 26 (wrapped h s d (.slice A1 n c1)) (0, 0) _ K10.out Try.underlying26 rfl v6_size ?_
    go_wp2_with fail
    refine (rcheck_any h s d A1 n c1 _ (by omega)).mono ?_
    rintro r w6 ⟨rfl, h6⟩
    have R10 := Lib.hid (K10.out.below h6 K10.out.lt)
    have R8 := Lib.hid (H4.out.2.2.1.below h6 H4.out.lt)
    have B6 := Lib.hid (H4.out.2.2.2.trans (h6.mono H4.out.2.2.2.size))
    have H6 := Lib.hid (K2.out.below h6)
    clear h6 K10 K2 H4
    rw [EC.out]
    rcases ec with rfl | rfl
    · go_upto_region 5 with fail
      apply wp_region_lit
      refine wpList_load_row rfl 26 (.tmp 10) rfl g rfl 26 (wrapped h s d (.slice A1 n c1)) (0, 0) _ R10.out Try.underlying26 rfl v6_size ?_
      refine wpList_store_row rfl 26 (.tmp 8) (.tmp 24) rfl (w.heap.size + 1 + 1) (wrapped h s d (.slice A1 n c1)) rfl rfl 26 none6 R8.out v6_size rfl (one6 0 0 4 h s d A1 n c1) ?_
      go_wp2_with fail
      refine bodyPost_ret (v := .tuple #[.agg (wrapped h s d (.slice A1 n c1)), .int .i64 0]) ?_ rfl ?_
      · simp [results, Try.f7, asAddr, run_loadVar_row _ (w.heap.size + 1 + 1) 26 26 (wrapped h s d (.slice A1 n c1)) (0, 0) _ R8.out.row Try.underlying26 rfl v6_size]
      · exact wrap_out3 (c' := c1) EC.out rfl rfl H6.out KB.out B6.out
    · go_upto_region 4 with fail
      apply wp_region_lit
      refine wpList_buildTo rfl 26 _ rfl (some 22) rfl none6 (by kernel_rfl) ?_
      refine wpList_readTo rfl (some 23) rfl (.int .i64 1) rfl ?_
      refine wpList_store_row rfl 26 (.tmp 8) (.tmp 22) rfl (w.heap.size + 1 + 1) none6 rfl rfl 26 none6 R8.out v6_size rfl (by simp [Value.oneCell']) ?_
      go_wp2_with fail
      refine bodyPost_ret (v := .tuple #[.agg none6, .int .i64 1]) ?_ rfl ?_
      · simp [results, Try.f7, asAddr, run_loadVar_row _ (w.heap.size + 1 + 1) 26 26 none6 (0, 0) _ R8.out.row Try.underlying26 rfl v6_size]
      · exact wrap_out3 (c' := c1) EC.out rfl rfl H6.out KB.out B6.out
  · refine step_alloc rfl (.pointer (some ⟨W0.heap.size, 0, none⟩)) (.cells none6 26) (by simp [execOp, go_sem]) ?_
    refine hK.out _ _ (H0.alloc _) (fun H1 => ?_)
    clear hK K
    simp only [Act.put, List.getElem_toArray, List.getElem_cons_succ, List.getElem_cons_zero, List.setIfInBounds_toArray, List.set_cons_zero, List.set_cons_succ]
    refine wpAnyH_ready (rs := [4]) (by kernel_rfl) (by simp) ?_
    refine AllReadyH.cons rfl (fun K hK => ?_) AllReadyH.nil
    refine step_bytes (W0.drew.alloc (.cells none6 26)) rfl (.tmp 15) rfl A n c xs rfl (HR.out.below H1.2.2.2) hn ?_
    intro A1 c1 w1 ha hb hc
    have kb : Blk w1 W0.heap.size 26 none6 := (Blk.at_ (w := W0.drew) rfl).below hb (by simp)
    refine hK.out _ _ (H1.below hb) (fun H2 => ?_)
    clear hK K
    simp only [Act.put, List.getElem_toArray, List.getElem_cons_succ, List.getElem_cons_zero, List.setIfInBounds_toArray, List.set_cons_zero, List.set_cons_succ]
    refine wpAnyH_take (i := 5) (v := .agg (wrapped h s d (.slice A1 n c1))) rfl (by kernel_rfl) (by kernel_rfl) (by kernel_rfl) (fun _ _ _ h => h) (yields_build rfl 26 _ rfl (wrapped h s d (.slice A1 n c1)) (by kernel_rfl)) H2 ?_
    simp only [Act.put, List.getElem_toArray, List.getElem_cons_succ, List.getElem_cons_zero, List.setIfInBounds_toArray, List.set_cons_zero, List.set_cons_succ]
    refine wpAnyH_ready (rs := [7]) (by kernel_rfl) (by simp) ?_
    refine AllReadyH.cons rfl (fun K hK => ?_) AllReadyH.nil
    rw [if_pos (by rfl)]
    refine wp_store_row 26 (.tmp 10) (.tmp 17) rfl W0.heap.size (wrapped h s d (.slice A1 n c1)) rfl rfl 26 none6 kb v6_size rfl (one6 0 0 4 h s d A1 n c1) ?_
    refine hK.out _ _ (H2.row H0.lt _) (fun H3 => ?_)
    clear hK K
    simp only [Act.put, List.getElem_toArray, List.getElem_cons_succ, List.getElem_cons_zero]
    refine wpAnyH_done (by kernel_rfl) ?_ _
    have hc2 : Behind (W0.heap.size + 1) A1 := by simpa using hc
    have K10 := Lib.hid (show Blk (w1.setRow W0.heap.size (wrapped h s d (.slice A1 n c1))) W0.heap.size 26 (wrapped h s d (.slice A1 n c1)) from kb.row)
    have K2 := Lib.hid (show BReads (w1.setRow W0.heap.size (wrapped h s d (.slice A1 n c1))) A1 n xs from ha.row hc2 (by omega) _)
    have KB := Lib.hid (show Behind (w.heap.size + 1 + 1 + 1) A1 from fun ad e => Nat.le_trans (show w.heap.size + 1 + 1 + 1 ≤ W0.heap.size + 1 from Nat.le_succ_of_le H0.lt) (hc2 ad e))
    have H4 := Lib.hid H3
    have hg : w.heap.size + 1 + 1 < W0.heap.size := H0.lt
    clear ha hb hc hc2 kb H0 H1 H2 H3 HR HH
    generalize w1.setRow W0.heap.size (wrapped h s d (.slice A1 n c1)) = w4 at K10 K2 H4 ⊢
    generalize W0.heap.size = g at K10 hg ⊢
    go_upto_region 2 with fail
    apply wp_region_lit
    refine wpList_load_row rfl 26 (.tmp 10) rfl g rfl 26 (wrapped h s d (.slice A1 n c1)) (0, 0) _ K10.out Try.underlying26 rfl v6_size ?_
    go_wp2_with fail
    refine (rcheck_any h s d A1 n c1 _ (by omega)).mono ?_
    rintro r w6 ⟨rfl, h6⟩
    have R10 := Lib.hid (K10.out.below h6 K10.out.lt)
    have R8 := Lib.hid (H4.out.2.2.1.below h6 H4.out.lt)
    have B6 := Lib.hid (H4.out.2.2.2.trans (h6.mono H4.out.2.2.2.size))
    have H6 := Lib.hid (K2.out.below h6)
    clear h6 K10 K2 H4
    rw [EC.out]
    rcases ec with rfl | rfl
    · go_upto_region 5 with fail
      apply wp_region_lit
      refine wpList_load_row rfl 26 (.tmp 10) rfl g rfl 26 (wrapped h s d (.slice A1 n c1)) (0, 0) _ R10.out Try.underlying26 rfl v6_size ?_
      refine wpList_store_row rfl 26 (.tmp 8) (.tmp 24) rfl (w.heap.size + 1 + 1) (wrapped h s d (.slice A1 n c1)) rfl rfl 26 none6 R8.out v6_size rfl (one6 0 0 4 h s d A1 n c1) ?_
      go_wp2_with fail
      refine bodyPost_ret (v := .tuple #[.agg (wrapped h s d (.slice A1 n c1)), .int .i64 0]) ?_ rfl ?_
      · simp [results, Try.f7, asAddr, run_loadVar_row _ (w.heap.size + 1 + 1) 26 26 (wrapped h s d (.slice A1 n c1)) (0, 0) _ R8.out.row Try.underlying26 rfl v6_size]
      · exact wrap_out3 (c' := c1) EC.out rfl rfl H6.out KB.out B6.out
    · go_upto_region 4 with fail
      apply wp_region_lit
      refine wpList_buildTo rfl 26 _ rfl (some 22) rfl none6 (by kernel_rfl) ?_
      refine wpList_readTo rfl (some 23) rfl (.int .i64 1) rfl ?_
      refine wpList_store_row rfl 26 (.tmp 8) (.tmp 22) rfl (w.heap.size + 1 + 1) none6 rfl rfl 26 none6 R8.out v6_size rfl (by simp [Value.oneCell']) ?_
      go_wp2_with fail
      refine bodyPost_ret (v := .tuple #[.agg none6, .int .i64 1]) ?_ rfl ?_
      · simp [results, Try.f7, asAddr, run_loadVar_row _ (w.heap.size + 1 + 1) 26 26 none6 (0, 0) _ R8.out.row Try.underlying26 rfl v6_size]
      · exact wrap_out3 (c' := c1) EC.out rfl rfl H6.out KB.out B6.out
end Go.Proofs.Ytpjndplinplkjaa
