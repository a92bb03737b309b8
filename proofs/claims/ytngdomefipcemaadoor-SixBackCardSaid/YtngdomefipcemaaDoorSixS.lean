/-
  six: awake. Printed by wip/gen/sixS.py.
-/
import Derived.Test.YtngdomefipcemaaDoorSixR
import Derived.OrdersHeld
import Derived.Deep.RegionHeld
import Derived.Deep.RegionHeld3
namespace Go.Proofs.YtngdomefipcemaaDoor
open Go.RowKit Go.Great

theorem yieldsIf_load_row {P : Program} {ops : Array Oper} {S : World → Prop} {op : Oper} {a : Act} (hw : Region.wanted op (yielded ops a.tmps) = true) (ty : TypeId) (x : Operand) (ho : op.op = .load ty x)
    (g : Nat) (hx : a.eval x = .pointer (some ⟨g, 0, none⟩)) (t : TypeId) (cs : Array Value) (d : TypeDesc) (hS : ∀ w, S w → w.heap[g]? = some (.cells cs t (0, 0)))
    (hu : P.underlying ty = some d) (hd : (match d with | .struct _ | .array _ _ => true | _ => false) = true) (hi : (P.info? ty).map (·.size) = some cs.size) : YieldsIf P ops S op (.agg cs) a :=
  .inl ⟨hw, fun w hw' => by
    unfold execOp
    simp only [ho, hx, Instr.loadAt, Instr.sureAddr, Sem.run_bind, Sem.run_pure, Result.andThen_ok, run_loadVar_row w g t ty cs (0, 0) d (hS w hw') hu hd hi]⟩
/-- A call, guarded or not, in a region that is walked by hand. -/
theorem step_call6 {P : Program} {ops : Array Oper} {o : Oper} {a : Act} {w : World} {K : Act → World → Prop} {Q : Exit → Act → World → Prop} {E : Prop} (hw : Region.wanted o (yielded ops a.tmps) = true) (f : Nat) (args : Array Operand) (types : Array TypeId)
    (ho : o.op = .call { callee := .value (.func f), args := args, argTypes := types }) (vals : Array Value) (hv : args.map a.eval = vals) (eg : ∀ args w, (callFunc f args).run P w = .ok (.enter f args) w)
    (h : Calls P f vals w fun r w' => ∃ v, r = .returned v ∧ K (a.put o.dst v) w') : if Region.wanted o (yielded ops a.tmps) = true then Oper.wp P o a w K Q else E := by
  rw [if_pos hw]
  unfold Oper.wp execOp
  have he : a.eval (.func f) = .func (.func f) #[] #[] := rfl
  simp only [ho, resolve, invoke, Sem.run_bind, he, hv, Deferred.ofValue, Sem.run_pure, Result.andThen_ok, Array.append_empty, Array.empty_append, eg]
  refine h.mono ?_
  rintro r w' ⟨v, rfl, hk⟩
  exact hk

def awS : List UInt8 := [50, 48, 48, 49, 58, 100, 98, 56, 58, 48, 58, 48, 58, 48, 58, 48, 58, 48, 58, 49]
def awW : List Nat := [8193, 3512, 0, 0, 0, 0, 0, 1]
def aw6 : List UInt8 := ofW awW
theorem aw6_len : aw6.length = 16 := rfl
theorem aw6_text : text6 aw6 = awS := by decide +kernel
theorem aw6_parse : parse6 awS = some awW := by decide +kernel
theorem aw6_host : host6V aw6 = true := by decide +kernel
theorem aw6_of : of6 (awW.map fun n : Nat => (n : Int)) = aw6 := of6_words rfl (by decide)

set_option maxRecDepth 100000 in
set_option maxHeartbeats 4000000 in
theorem awake6_any (w : World) (hdeb : Deb w) : Calls Tryd.prog 20 #[] w fun r w' => r = .returned (.bool true) ∧ Below w.heap.size w w' := by
  have DEB := Lib.hid hdeb
  have hp := parse6_any awS (by decide) w
  rw [aw6_parse] at hp
  obtain ⟨C, hC⟩ : ∃ C, cells6 aw6 = C := ⟨_, rfl⟩
  have hp : Calls Tryd.prog 21 #[.string (bs awS)] w fun r w' => r = .returned (.tuple #[.agg C, .int .i64 0]) ∧ Below w.heap.size w w' := by rw [← hC]; exact hp
  have hsz := six_of aw6_len
  have hone := cells6_one aw6
  have hlen : z16.size = (cells6 aw6).size := rfl
  have hcs : C.size = 16 := by rw [← hC]; rfl
  have heq := fun W => eq6 aw6 aw6 aw6_len aw6_len W
  have htx := fun W h => text6_any aw6 aw6_len W h
  have hho := fun W => host6_any aw6 aw6_len W
  have hof := fun A W h => of6_any A 8 8 (awW.map fun n : Nat => (n : Int)) W h
  rw [aw6_of] at hof
  rw [aw6_text] at htx
  rw [aw6_host] at hho
  simp only [decide_true] at heq
  rw [hC] at hsz hone hlen heq htx hho
  simp only [hC] at hof
  have HP := Lib.hid hp
  have HSZ := Lib.hid hsz
  have HONE := Lib.hid hone
  have HLEN := Lib.hid hlen
  have HEQ := Lib.hid heq
  have HTX := Lib.hid htx
  have HHO := Lib.hid hho
  have HOF := Lib.hid hof
  clear hdeb hp hsz hone hlen heq htx hho hof hC hcs
  go_enter Tryd.func20, Tryd.ntmps20
  go_wp2_with fail
  refine HP.out.mono ?_
  rintro r w1 ⟨rfl, bel1⟩
  have BEL1 := Lib.hid (bel1.alloc bel1.size (.cells z16 31))
  have BK1 := Lib.hid (Blk.new w1 31 z16)
  have hw1 := bel1.size
  clear bel1
  go_wp2_with (refine wpList_store_row rfl 31 (.tmp 1) (.tmp 5) rfl w1.heap.size C rfl rfl 31 z16 BK1.out HSZ.out HLEN.out HONE.out ?_)
  have hb2 : Blk ((w1.alloc (.cells z16 31)).setRow w1.heap.size C) w1.heap.size 31 C := setRow_heap _ _ z16 C _ _ BK1.out
  have hbw2 : Below w.heap.size w ((w1.alloc (.cells z16 31)).setRow w1.heap.size C) := below_setRow BEL1.out hw1 _
  change Code.wp _ _ _ _ ((w1.alloc (.cells z16 31)).setRow w1.heap.size C)
  generalize ((w1.alloc (.cells z16 31)).setRow w1.heap.size C) = W2 at hb2 hbw2 ⊢
  obtain ⟨G, hG⟩ : ∃ G, w1.heap.size = G := ⟨_, rfl⟩
  rw [hG] at hb2 hw1 ⊢
  have HW1 := Lib.hid hw1
  have HBW2 := Lib.hid hbw2
  have HB2 := Lib.hid hb2
  have hn2 : w.heap.size ≤ W2.heap.size := hbw2.size
  clear hG BK1 BEL1 hw1 hb2 hbw2
  refine wp_region_held_drew (S := fun w' : World => Blk w' G 31 C ∧ Below w.heap.size w w') (by kernel_rfl) ⟨HB2.out.drew, HBW2.out.drew⟩ (fun H0 => ?_)
  refine wpAnyH_take (i := 0) (v := .int .i64 0) rfl (by kernel_rfl) (by kernel_rfl) (by kernel_rfl) (fun _ _ _ h => h) (.inl ⟨rfl, fun w _ => by go_simp⟩) H0 ?_
  simp only [Act.put, List.getElem_toArray, List.getElem_cons_zero, List.setIfInBounds_toArray, List.set_cons_zero, List.set_cons_succ]
  refine wpAnyH_take (i := 1) (v := .bool true) rfl (by kernel_rfl) (by kernel_rfl) (by kernel_rfl) (fun _ _ _ h => h) (.inl ⟨rfl, fun w _ => by go_simp⟩) H0 ?_
  simp only [Act.put, List.getElem_toArray, List.getElem_cons_succ, List.getElem_cons_zero, List.setIfInBounds_toArray, List.set_cons_zero, List.set_cons_succ]
  refine wpAnyH_take (i := 2) (v := .bool true) rfl (by kernel_rfl) (by kernel_rfl) (by kernel_rfl) (fun _ _ _ h => h) (.inl ⟨rfl, fun w _ => by go_simp⟩) H0 ?_
  simp only [Act.put, List.getElem_toArray, List.getElem_cons_succ, List.getElem_cons_zero, List.setIfInBounds_toArray, List.set_cons_zero, List.set_cons_succ]
  refine wpAnyH_take (i := 3) (v := .agg C) rfl (by kernel_rfl) (by kernel_rfl) (by kernel_rfl) (fun _ _ _ h => h) (yieldsIf_load_row rfl 31 (.tmp 1) rfl G rfl 31 C _ (fun w hS => hS.1) Tryd.underlying31 rfl HSZ.out) H0 ?_
  simp only [Act.put, List.getElem_toArray, List.getElem_cons_succ, List.getElem_cons_zero, List.setIfInBounds_toArray, List.set_cons_zero, List.set_cons_succ]
  refine wpAnyH_ready (rs := [4]) (by kernel_rfl) (by simp) ?_
  refine AllReadyH.cons rfl (fun KK hK => ?_) AllReadyH.nil
  rw [if_pos (by rfl)]
  go_simp
  have hb3 : Blk (W2.drew.alloc (.cells (wcells awW) 3)) G 31 C := HB2.out.drew.alloc _
  have hbw3 : Below w.heap.size w (W2.drew.alloc (.cells (wcells awW) 3)) := HBW2.out.drew.alloc hn2 _
  have hb4 : Blk (W2.drew.alloc (.cells (wcells awW) 3)) W2.heap.size 3 (wcells awW) := Blk.new W2.drew _ _
  have hir := introw_of_blk hb4 (by decide) (by decide)
  have hsz3 : (W2.drew.alloc (.cells (wcells awW) 3)).heap.size = W2.heap.size + 1 := by simp
  change KK _ (W2.drew.alloc (.cells (wcells awW) 3))
  generalize (W2.drew.alloc (.cells (wcells awW) 3)) = W3 at hb3 hbw3 hb4 hir hsz3 ⊢
  have HIR := Lib.hid hir
  have HB3 := Lib.hid hb3
  have HBW3 := Lib.hid hbw3
  have hn3 : w.heap.size ≤ W3.heap.size := hbw3.size
  clear hir hb4
  refine hK.out _ _ ⟨hb3, hbw3⟩ (fun _ => ?_)
  clear hK KK hb3 hbw3
  refine wpAnyH_ready (rs := [5]) (by kernel_rfl) (by simp) ?_
  refine AllReadyH.cons rfl (fun KK hK => ?_) AllReadyH.nil
  refine step_call6 rfl 29 #[.tmp 11] #[34] rfl #[.slice (some ⟨W2.heap.size, 0, none⟩) 8 8] (by simp [Act.eval]) (enters_of Tryd.func29 (by kernel_rfl) rfl) ?_
  refine (HOF.out _ _ HIR.out).mono ?_
  rintro r w4 ⟨rfl, bel4⟩
  have HB4 := Lib.hid (HB3.out.below bel4 HB3.out.lt)
  have HBW4 := Lib.hid (HBW3.out.trans (bel4.mono hn3))
  have H4 : Blk w4 G 31 C ∧ Below w.heap.size w w4 := ⟨HB4.out, HBW4.out⟩
  have hn4 : w.heap.size ≤ w4.heap.size := HBW4.out.size
  clear bel4
  refine ⟨_, rfl, hK.out _ _ H4 (fun _ => ?_)⟩
  clear hK KK
  simp only [Act.put, List.getElem_toArray, List.getElem_cons_succ, List.getElem_cons_zero, List.setIfInBounds_toArray, List.set_cons_zero, List.set_cons_succ]
  refine wpAnyH_take (i := 6) (v := .bool true) rfl (by kernel_rfl) (by kernel_rfl) (by kernel_rfl) (fun _ _ _ h => h) (.inl ⟨rfl, fun w _ => by have q := HEQ.out w; go_simp⟩) H4 ?_
  simp only [Act.put, List.getElem_toArray, List.getElem_cons_succ, List.getElem_cons_zero, List.setIfInBounds_toArray, List.set_cons_zero, List.set_cons_succ]
  refine wpAnyH_take (i := 7) (v := .bool true) rfl (by kernel_rfl) (by kernel_rfl) (by kernel_rfl) (fun _ _ _ h => h) (.inl ⟨rfl, fun w _ => by go_simp⟩) H4 ?_
  simp only [Act.put, List.getElem_toArray, List.getElem_cons_succ, List.getElem_cons_zero, List.setIfInBounds_toArray, List.set_cons_zero, List.set_cons_succ]
  refine wpAnyH_take (i := 8) (v := .bool true) rfl (by kernel_rfl) (by kernel_rfl) (by kernel_rfl) (fun _ _ _ h => h) (.inl ⟨rfl, fun w _ => by go_simp⟩) H4 ?_
  simp only [Act.put, List.getElem_toArray, List.getElem_cons_succ, List.getElem_cons_zero, List.setIfInBounds_toArray, List.set_cons_zero, List.set_cons_succ]
  refine wpAnyH_take (i := 9) (v := .agg C) rfl (by kernel_rfl) (by kernel_rfl) (by kernel_rfl) (fun _ _ _ h => h) (yieldsIf_load_row rfl 31 (.tmp 1) rfl G rfl 31 C _ (fun w hS => hS.1) Tryd.underlying31 rfl HSZ.out) H4 ?_
  simp only [Act.put, List.getElem_toArray, List.getElem_cons_succ, List.getElem_cons_zero, List.setIfInBounds_toArray, List.set_cons_zero, List.set_cons_succ]
  refine wpAnyH_ready (rs := [10]) (by kernel_rfl) (by simp) ?_
  refine AllReadyH.cons rfl (fun KK hK => ?_) AllReadyH.nil
  refine step_call6 rfl 23 #[.tmp 16] #[31] rfl #[.agg C] (by simp [Act.eval]) (enters_of Tryd.func23 (by kernel_rfl) rfl) ?_
  refine (HTX.out _ (deb_below DEB.out HBW4.out)).mono ?_
  rintro r w5 ⟨rfl, bel5⟩
  have HB5 := Lib.hid (HB4.out.below bel5 HB4.out.lt)
  have HBW5 := Lib.hid (HBW4.out.trans (bel5.mono hn4))
  have H5 : Blk w5 G 31 C ∧ Below w.heap.size w w5 := ⟨HB5.out, HBW5.out⟩
  have hn5 : w.heap.size ≤ w5.heap.size := HBW5.out.size
  clear bel5
  refine ⟨_, rfl, hK.out _ _ H5 (fun _ => ?_)⟩
  clear hK KK
  simp only [Act.put, List.getElem_toArray, List.getElem_cons_succ, List.getElem_cons_zero, List.setIfInBounds_toArray, List.set_cons_zero, List.set_cons_succ]
  have hlist : (bs awS).toList = awS := by rw [ByteArray.toList_eq]; rfl
  refine wpAnyH_take (i := 11) (v := .bool true) rfl (by kernel_rfl) (by kernel_rfl) (by kernel_rfl) (fun _ _ _ h => h) (.inl ⟨rfl, fun w _ => by go_simp; rfl⟩) H5 ?_
  simp only [Act.put, List.getElem_toArray, List.getElem_cons_succ, List.getElem_cons_zero, List.setIfInBounds_toArray, List.set_cons_zero, List.set_cons_succ]
  refine wpAnyH_take (i := 12) (v := .bool true) rfl (by kernel_rfl) (by kernel_rfl) (by kernel_rfl) (fun _ _ _ h => h) (.inl ⟨rfl, fun w _ => by go_simp⟩) H5 ?_
  simp only [Act.put, List.getElem_toArray, List.getElem_cons_succ, List.getElem_cons_zero, List.setIfInBounds_toArray, List.set_cons_zero, List.set_cons_succ]
  refine wpAnyH_take (i := 13) (v := .bool true) rfl (by kernel_rfl) (by kernel_rfl) (by kernel_rfl) (fun _ _ _ h => h) (.inl ⟨rfl, fun w _ => by go_simp⟩) H5 ?_
  simp only [Act.put, List.getElem_toArray, List.getElem_cons_succ, List.getElem_cons_zero, List.setIfInBounds_toArray, List.set_cons_zero, List.set_cons_succ]
  refine wpAnyH_take (i := 14) (v := .agg C) rfl (by kernel_rfl) (by kernel_rfl) (by kernel_rfl) (fun _ _ _ h => h) (yieldsIf_load_row rfl 31 (.tmp 1) rfl G rfl 31 C _ (fun w hS => hS.1) Tryd.underlying31 rfl HSZ.out) H5 ?_
  simp only [Act.put, List.getElem_toArray, List.getElem_cons_succ, List.getElem_cons_zero, List.setIfInBounds_toArray, List.set_cons_zero, List.set_cons_succ]
  refine wpAnyH_ready (rs := [15]) (by kernel_rfl) (by simp) ?_
  refine AllReadyH.cons rfl (fun KK hK => ?_) AllReadyH.nil
  refine step_call6 rfl 25 #[.tmp 21] #[31] rfl #[.agg C] (by simp [Act.eval]) (enters_of Tryd.func25 (by kernel_rfl) rfl) ?_
  refine (HHO.out _).mono ?_
  rintro r w6 ⟨rfl, bel6⟩
  have HBW6 := Lib.hid (HBW5.out.trans (bel6.mono hn5))
  have H6 : Blk w6 G 31 C ∧ Below w.heap.size w w6 := ⟨HB5.out.below bel6 HB5.out.lt, HBW6.out⟩
  clear bel6
  refine ⟨_, rfl, hK.out _ _ H6 (fun _ => ?_)⟩
  clear hK KK
  simp only [Act.put, List.getElem_toArray, List.getElem_cons_succ, List.getElem_cons_zero, List.setIfInBounds_toArray, List.set_cons_zero, List.set_cons_succ]
  refine wpAnyH_take (i := 16) (v := .bool true) rfl (by kernel_rfl) (by kernel_rfl) (by kernel_rfl) (fun _ _ _ h => h) (.inl ⟨rfl, fun w _ => by go_simp⟩) H6 ?_
  simp only [Act.put, List.getElem_toArray, List.getElem_cons_succ, List.getElem_cons_zero, List.setIfInBounds_toArray, List.set_cons_zero, List.set_cons_succ]
  refine wpAnyH_ready (rs := [17]) (by kernel_rfl) (by simp) ?_
  refine AllReadyH.cons rfl (fun KK hK => ?_) AllReadyH.nil
  go_simp
  refine hK.out _ _ H6 (fun _ => ?_)
  clear hK KK
  refine wpAnyH_done (by kernel_rfl) ?_ _
  go_wp2
  go_ret
  exact ⟨rfl, HBW6.out⟩
end Go.Proofs.YtngdomefipcemaaDoor
