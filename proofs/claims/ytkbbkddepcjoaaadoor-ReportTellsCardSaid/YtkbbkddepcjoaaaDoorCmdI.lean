/-
  cmd: what a verb's words say.
-/
import Derived.Test.YtkbbkddepcjoaaaDoorCmdH
import Derived.OrdersHeld
import Derived.Deep.RegionHeld
import Derived.Deep.RegionHeld3
import Derived.Deep.Cut
import Derived.Great.Walk
import Derived.Great.BuildSlice
import Derived.Laws.CopyOwn
namespace Go.Proofs.YtkbbkddepcjoaaaDoor
open Go.RowKit Go.Great

/-- A call, in a region that is walked by hand. -/
theorem step_call {P : Program} {ops : Array Oper} {o : Oper} {a : Act} {w : World} {K : Act → World → Prop} {Q : Exit → Act → World → Prop} {E : Prop} (hgd : o.guard = none) (f : Nat) (args : Array Operand) (types : Array TypeId)
    (ho : o.op = .call { callee := .value (.func f), args := args, argTypes := types }) (vals : Array Value) (hv : args.map a.eval = vals) (eg : ∀ args w, (callFunc f args).run P w = .ok (.enter f args) w)
    (h : Calls P f vals w fun r w' => ∃ v, r = .returned v ∧ K (a.put o.dst v) w') : if Region.wanted o (yielded ops a.tmps) = true then Oper.wp P o a w K Q else E := by
  have hw : Region.wanted o (yielded ops a.tmps) = true := by simp [Region.wanted, hgd]
  rw [if_pos hw]
  unfold Oper.wp execOp
  have he : a.eval (.func f) = .func (.func f) #[] #[] := rfl
  simp only [ho, resolve, invoke, Sem.run_bind, he, hv, Deferred.ofValue, Sem.run_pure, Result.andThen_ok, Array.append_empty, Array.empty_append, eg]
  refine h.mono ?_
  rintro r w' ⟨v, rfl, hk⟩
  exact hk

def cmC (c : Cm) : Array Value := #[.int .i64 c.1, .int .i64 c.2.1.1, .int .i64 c.2.1.2.1, .int .i64 c.2.1.2.2.1, .int .i64 c.2.1.2.2.2, .int .i64 c.2.2.1, .int .i64 c.2.2.2.1, .int .i64 c.2.2.2.2]
def cmV (c : Cm) : Value := .agg (cmC c)
/-- What the words behind a verb's say. -/
def readV (n : Int) (L : List (List UInt8)) : Option Cm :=
  match L with
  | [] => if n = 4 then some (4, (0, 0, 0, 0), 0, 0, 0) else none
  | [b] => if n = 1 then (numV b 63).map fun k : Nat => (1, ((k : Int), 0, 0, 0), 0, 0, 0) else none
  | [b, c, d, e] => if n = 3 then (innerL b c d e).map fun q => (3, innerI q, 0, 0, 0) else none
  | [b, c, d, e, f, g] => if n = 2 then (innerL b c d e).bind fun q => (outerL f g).map fun r => (2, innerI q, (q.2.1 : Int), (r.1 : Int), (r.2 : Int)) else none
  | _ => none
theorem readV_1 (b : List UInt8) : readV 1 [b] = (numV b 63).map fun k : Nat => (1, ((k : Int), 0, 0, 0), 0, 0, 0) := rfl
theorem readV_3 (b c d e : List UInt8) : readV 3 [b, c, d, e] = (innerL b c d e).map fun q => (3, innerI q, 0, 0, 0) := rfl
theorem readV_2 (b c d e f g : List UInt8) : readV 2 [b, c, d, e, f, g] = (innerL b c d e).bind fun q => (outerL f g).map fun r => (2, innerI q, (q.2.1 : Int), (r.1 : Int), (r.2 : Int)) := rfl
def ReadP (w : World) (o : Option Cm) (e : Ending) (w' : World) : Prop := ∃ q : Cm, e = .returned (.tuple #[cmV q, .bool o.isSome]) ∧ (∀ x, o = some x → q = x) ∧ Below w.heap.size w w'

theorem yieldsIf_load_row {P : Program} {ops : Array Oper} {S : World → Prop} {op : Oper} {a : Act} (hw : Region.wanted op (yielded ops a.tmps) = true) (ty : TypeId) (x : Operand) (ho : op.op = .load ty x)
    (g : Nat) (hx : a.eval x = .pointer (some ⟨g, 0, none⟩)) (t : TypeId) (cs : Array Value) (d : TypeDesc) (hS : ∀ w, S w → w.heap[g]? = some (.cells cs t (0, 0)))
    (hu : P.underlying ty = some d) (hd : (match d with | .struct _ | .array _ _ => true | _ => false) = true) (hi : (P.info? ty).map (·.size) = some cs.size) : YieldsIf P ops S op (.agg cs) a :=
  .inl ⟨hw, fun w hw' => by
    unfold execOp
    simp only [ho, hx, Instr.loadAt, Instr.sureAddr, Sem.run_bind, Sem.run_pure, Result.andThen_ok, run_loadVar_row w g t ty cs (0, 0) d (hS w hw') hu hd hi]⟩
theorem cm_info : (Tryd.prog.info? 37).map (·.size) = some 8 := by kernel_rfl
theorem cm_size {q : Cm} : (Tryd.prog.info? 37).map (·.size) = some (cmC q).size := cm_info
theorem cm_one (q : Cm) : (cmC q).all (·.oneCell') = true := by simp [cmC, Value.oneCell']

/-- The world while a verb's words are read. -/
def ReadS (w : World) (L : List (List UInt8)) (v : Bool) (q : Cm) (W : World) : Prop :=
  Blk W w.heap.size 37 (cmC zeroC) ∧ Blk W (w.heap.size + 1 + 1) 37 (cmC q) ∧ Rd W (w.heap.size + 1) L v ∧ Below w.heap.size w W
theorem ReadS.start {A : Option Addr} {n c : Nat} {L : List (List UInt8)} {w : World} (h : TS w.heap.size w A n c L) (k : Int) :
    ReadS w L false (k, (0, 0, 0, 0), 0, 0, 0) (((w.alloc (.cells (cmC zeroC) 37)).alloc (.cells #[.slice A n c, .bool false] 97)).alloc (.cells (cmC (k, (0, 0, 0, 0), 0, 0, 0)) 37)) := by
  obtain ⟨W1, h1⟩ : ∃ W1, w.alloc (.cells (cmC zeroC) 37) = W1 := ⟨_, rfl⟩
  have s1 : W1.heap.size = w.heap.size + 1 := by rw [← h1]; simp
  have b1 : Blk W1 w.heap.size 37 (cmC zeroC) := by rw [← h1]; exact Blk.new _ _ _
  have l1 : Below w.heap.size w W1 := by rw [← h1]; exact (Below.refl _ _).alloc (Nat.le_refl _) _
  rw [h1]
  obtain ⟨W2, h2⟩ : ∃ W2, W1.alloc (.cells #[.slice A n c, .bool false] 97) = W2 := ⟨_, rfl⟩
  have s2 : W2.heap.size = w.heap.size + 1 + 1 := by rw [← h2, ← s1]; simp
  have b2 : Blk W2 w.heap.size 37 (cmC zeroC) := by rw [← h2]; exact b1.alloc _
  have c2 : Blk W2 (w.heap.size + 1) 97 #[.slice A n c, .bool false] := by rw [← h2, ← s1]; exact Blk.new _ _ _
  have l2 : Below w.heap.size w W2 := by rw [← h2]; exact l1.alloc (by omega) _
  rw [h2]
  have l3 := l2.alloc (o := .cells (cmC (k, (0, 0, 0, 0), 0, 0, 0)) 37) (by omega)
  refine ⟨b2.alloc _, ?_, ⟨A, n, c, c2.alloc _, (h.kept l3).up (by omega)⟩, l3⟩
  rw [← s2]
  exact Blk.new _ _ _
theorem ReadS.step {w W W' : World} {L L' : List (List UInt8)} {v v' : Bool} {q : Cm} (h : ReadS w L v q W) (hg : W.grownBy W' (some (w.heap.size + 1))) (hr : Rd W' (w.heap.size + 1) L' v') : ReadS w L' v' q W' :=
  ⟨h.1.grown hg (by intro e; injection e with e; omega), h.2.1.grown hg (by intro e; injection e with e; omega), hr, h.2.2.2.trans (below_only hg (h.2.2.2.size) (by omega))⟩
theorem ReadS.store {w W : World} {L : List (List UInt8)} {v : Bool} {q q' : Cm} (h : ReadS w L v q W) (i : Nat) (u : Value) (hq : (cmC q).setIfInBounds i u = cmC q') : ReadS w L v q' (W.setCell ⟨w.heap.size + 1 + 1, i, none⟩ u) :=
  ⟨h.1.far (by simp; omega) _, hq ▸ h.2.1.set_ i u, h.2.2.1.far (Nat.lt_succ_self _) _, h.2.2.2.setCell (by simp; omega) _⟩
theorem ReadS.cells {w W : World} {L : List (List UInt8)} {v : Bool} {q : Cm} (h : ReadS w L v q W) (i : Nat) (hi : i < 8) : W.cell? ⟨w.heap.size + 1 + 1, i, none⟩ = some ((cmC q).getD i undef) ∧ W.frozen? ⟨w.heap.size + 1 + 1, i, none⟩ = false := by
  refine ⟨?_, h.2.1.frozen i⟩
  rw [h.2.1.cell i]
  have : i < (cmC q).size := hi
  simp [this]
theorem ReadS.drew {w W : World} {L : List (List UInt8)} {v : Bool} {q : Cm} (h : ReadS w L v q W) : ReadS w L v q W.drew := ⟨h.1, h.2.1, h.2.2.1, h.2.2.2.drew⟩
/-- What a drawn region of a reader needs of the world. -/
def ReadT (w : World) (v : Bool) (q : Cm) (W : World) : Prop := Blk W (w.heap.size + 1 + 1) 37 (cmC q) ∧ W.cell? ⟨w.heap.size + 1, 1, none⟩ = some (.bool v)
theorem ReadS.t {w W : World} {L : List (List UInt8)} {v : Bool} {q : Cm} (h : ReadS w L v q W) : ReadT w v q W := ⟨h.2.1, h.2.2.1.flag.1⟩
theorem ReadS.put_ {w W : World} {L : List (List UInt8)} {v : Bool} {q : Cm} (h : ReadS w L v q W) : Blk (W.setRow w.heap.size (cmC q)) w.heap.size 37 (cmC q) ∧ Below w.heap.size w (W.setRow w.heap.size (cmC q)) ∧ ReadT w v q (W.setRow w.heap.size (cmC q)) :=
  ⟨setRow_heap _ _ _ _ _ _ h.1, below_setRow h.2.2.2 (Nat.le_refl _) _, (setRow_other W w.heap.size _ _ (by omega)).trans h.2.1, (World.cell?_of_block (setRow_other W w.heap.size _ _ (by simp))).trans h.2.2.1.flag.1⟩
set_option linter.unusedSimpArgs false in
set_option maxRecDepth 100000 in
set_option maxHeartbeats 4000000 in
theorem read1_any (A : Option Addr) (n c : Nat) (b : List UInt8) (hb : b.length ≤ 1048576) (w : World) (h : TS w.heap.size w A n c [b]) : Calls Tryd.prog 42 #[.int .i64 1, .slice A n c] w (ReadP w (readV 1 [b])) := by
  have h1 := fun r W h => rdnum_any r b [] false 63 hb W h
  rw [readV_1]
  obtain ⟨R, hR⟩ : ∃ R, numV b 63 = R := ⟨_, rfl⟩
  rw [hR] at h1 ⊢
  have S0 := Lib.hid (ReadS.start h 1)
  have H1 := Lib.hid h1
  clear h h1 hR
  go_enter Tryd.func42, Tryd.ntmps42
  go_upto_region 11 with (go_at_call 59; refine (H1.out _ _ S0.out.2.2.1).mono ?_; rintro e w1 ⟨rfl, r1, g1⟩; have S1 := Lib.hid (S0.out.step g1 r1); obtain ⟨x1, f1⟩ := S1.out.cells 1 (by omega); clear r1 g1)
  have hs := S1.out.store (q' := (1, ((R.getD 0 : Nat), 0, 0, 0), 0, 0, 0)) 1 (.int .i64 (R.getD 0 : Nat)) rfl
  obtain ⟨q, hq⟩ : ∃ q : Cm, (1, (((R.getD 0 : Nat) : Int), 0, 0, 0), 0, 0, 0) = q := ⟨_, rfl⟩
  obtain ⟨v, hv⟩ : ∃ v : Bool, (false || R.isNone) = v := ⟨_, rfl⟩
  rw [hq, hv] at hs
  have HQ := Lib.hid hq
  have HV := Lib.hid hv
  clear x1 f1 hq hv
  generalize (w1.setCell ⟨w.heap.size + 1 + 1, 1, none⟩ (.int .i64 (R.getD 0 : Nat))) = W at hs ⊢
  have HS := Lib.hid hs
  clear hs S1
  have HD := Lib.hid HS.out.drew
  refine wp_region_held_drew (S := ReadT w v q) (by kernel_rfl) HD.out.t (fun H0 => ?_)
  refine wpAnyH_take (i := 0) (v := cmV q) rfl (by kernel_rfl) (by kernel_rfl) (by kernel_rfl) (fun _ _ _ h => h) (yieldsIf_load_row rfl 37 (.tmp 7) rfl (w.heap.size + 1 + 1) rfl 37 (cmC q) _ (fun w hS => hS.1) Tryd.underlying37 rfl cm_size) H0 ?_
  simp only [Act.put, List.getElem_toArray, List.getElem_cons_zero, List.setIfInBounds_toArray, List.set_cons_zero, List.set_cons_succ]
  refine wpAnyH_take (i := 1) (v := .pointer (some ⟨w.heap.size + 1, 0, none⟩)) rfl (by kernel_rfl) (by kernel_rfl) (by kernel_rfl) (fun _ _ _ h => h) (.inl ⟨rfl, fun w hS => by go_simp⟩) H0 ?_
  simp only [Act.put, List.getElem_toArray, List.getElem_cons_succ, List.getElem_cons_zero, List.setIfInBounds_toArray, List.set_cons_zero, List.set_cons_succ]
  refine wpAnyH_take (i := 2) (v := .pointer (some ⟨w.heap.size + 1, 0, none⟩)) rfl (by kernel_rfl) (by kernel_rfl) (by kernel_rfl) (fun _ _ _ h => h) (.inl ⟨rfl, fun w hS => by go_simp⟩) H0 ?_
  simp only [Act.put, List.getElem_toArray, List.getElem_cons_succ, List.getElem_cons_zero, List.setIfInBounds_toArray, List.set_cons_zero, List.set_cons_succ]
  refine wpAnyH_take (i := 3) (v := .pointer (some ⟨w.heap.size + 1, 1, none⟩)) rfl (by kernel_rfl) (by kernel_rfl) (by kernel_rfl) (fun _ _ _ h => h) (.inl ⟨rfl, fun w hS => by go_simp⟩) H0 ?_
  simp only [Act.put, List.getElem_toArray, List.getElem_cons_succ, List.getElem_cons_zero, List.setIfInBounds_toArray, List.set_cons_zero, List.set_cons_succ]
  refine wpAnyH_take (i := 4) (v := .bool v) rfl (by kernel_rfl) (by kernel_rfl) (by kernel_rfl) (fun _ _ _ h => h) (.inl ⟨rfl, fun w hS => by have m0 := hS.2; go_simp⟩) H0 ?_
  simp only [Act.put, List.getElem_toArray, List.getElem_cons_succ, List.getElem_cons_zero, List.setIfInBounds_toArray, List.set_cons_zero, List.set_cons_succ]
  refine wpAnyH_take (i := 5) (v := .bool (!v)) rfl (by kernel_rfl) (by kernel_rfl) (by kernel_rfl) (fun _ _ _ h => h) (.inl ⟨rfl, fun w hS => by go_simp⟩) H0 ?_
  simp only [Act.put, List.getElem_toArray, List.getElem_cons_succ, List.getElem_cons_zero, List.setIfInBounds_toArray, List.set_cons_zero, List.set_cons_succ]
  refine wpAnyH_ready (rs := [6]) (by kernel_rfl) (by simp) ?_
  refine AllReadyH.cons rfl (fun KK hK => ?_) AllReadyH.nil
  refine (if_pos (show Region.wanted _ _ = true by rfl)).mpr ?_
  refine wp_store_row 37 (.tmp 4) (.tmp 39) rfl w.heap.size (cmC q) rfl rfl 37 (cmC zeroC) HD.out.1 cm_size rfl (cm_one q) ?_
  have hS' := HD.out.put_
  refine hK.out _ _ hS'.2.2 (fun _ => ?_)
  clear hK KK
  try simp only [Act.put, List.getElem_toArray, List.getElem_cons_succ, List.getElem_cons_zero, List.setIfInBounds_toArray, List.set_cons_zero, List.set_cons_succ]
  refine wpAnyH_take (i := 7) (v := .bool (!v)) rfl (by kernel_rfl) (by kernel_rfl) (by kernel_rfl) (fun _ _ _ h => h) (.inl ⟨rfl, fun w hS => by go_simp⟩) hS'.2.2 ?_
  simp only [Act.put, List.getElem_toArray, List.getElem_cons_succ, List.getElem_cons_zero, List.setIfInBounds_toArray, List.set_cons_zero, List.set_cons_succ]
  refine wpAnyH_done (by kernel_rfl) ?_ _
  go_wp2_with fail
  refine bodyPost_ret (v := .tuple #[cmV q, .bool (!v)]) ?_ rfl ⟨q, ?_, ?_, hS'.2.1⟩
  · simp [results, Tryd.f42, asAddr, run_loadVar_row _ w.heap.size 37 37 (cmC q) (0, 0) _ hS'.1 Tryd.underlying37 rfl cm_size]
    rfl
  · rw [← HV.out]
    cases R <;> rfl
  · intro x hx
    rw [← HQ.out]
    cases R with
    | none => cases hx
    | some a => injection hx
set_option linter.unusedSimpArgs false in
set_option maxRecDepth 100000 in
set_option maxHeartbeats 4000000 in
theorem read3_any (A : Option Addr) (n c : Nat) (b c' d e : List UInt8) (hb : b.length ≤ 1048576) (hd : d.length ≤ 1048576) (he : e.length ≤ 1048576) (w : World) (h : TS w.heap.size w A n c [b, c', d, e]) : Calls Tryd.prog 42 #[.int .i64 3, .slice A n c] w (ReadP w (readV 3 [b, c', d, e])) := by
  have h1 := fun r W h => rdinner_any r b c' d e [] hb hd he W h
  rw [readV_3]
  have HL := Lib.hid h
  obtain ⟨N, hN⟩ : ∃ N, innerL b c' d e = N := ⟨_, rfl⟩
  obtain ⟨G, hG⟩ : ∃ G, innerG b c' d e = G := ⟨_, rfl⟩
  have hgood : ∀ x, N = some x → G = innerI x := fun x hx => by rw [← hG]; exact innerL_good (hN.trans hx)
  rw [hN] at h1 ⊢
  rw [hG] at h1
  unfold inV at h1
  have S0 := Lib.hid (ReadS.start h 3)
  have H1 := Lib.hid h1
  have hgood := hgood
  clear h h1 hN hG HL
  go_enter Tryd.func42, Tryd.ntmps42
  go_upto_region 11 with (go_at_call 60; refine (H1.out _ _ S0.out.2.2.1).mono ?_; rintro e w1 ⟨rfl, r1, g1⟩; have S1 := Lib.hid (S0.out.step g1 r1); obtain ⟨x1, f1⟩ := S1.out.cells 1 (by omega); obtain ⟨x2, f2⟩ := S1.out.cells 2 (by omega); obtain ⟨x3, f3⟩ := S1.out.cells 3 (by omega); obtain ⟨x4, f4⟩ := S1.out.cells 4 (by omega); clear r1 g1)
  have hs := (((S1.out.store (q' := (3, (G.1, 0, 0, 0), 0, 0, 0)) 1 (.int .i64 G.1) rfl).store (q' := (3, (G.1, G.2.1, 0, 0), 0, 0, 0)) 2 (.int .i64 G.2.1) rfl).store (q' := (3, (G.1, G.2.1, G.2.2.1, 0), 0, 0, 0)) 3 (.int .i64 G.2.2.1) rfl).store (q' := (3, (G.1, G.2.1, G.2.2.1, G.2.2.2), 0, 0, 0)) 4 (.int .i64 G.2.2.2) rfl
  have HG := Lib.hid hgood
  clear x1 f1 x2 f2 x3 f3 x4 f4 hgood
  generalize ((((w1.setCell ⟨w.heap.size + 1 + 1, 1, none⟩ (.int .i64 G.1)).setCell ⟨w.heap.size + 1 + 1, 2, none⟩ (.int .i64 G.2.1)).setCell ⟨w.heap.size + 1 + 1, 3, none⟩ (.int .i64 G.2.2.1)).setCell ⟨w.heap.size + 1 + 1, 4, none⟩ (.int .i64 G.2.2.2)) = W at hs ⊢
  obtain ⟨q, hq⟩ : ∃ q : Cm, (3, (G.1, G.2.1, G.2.2.1, G.2.2.2), 0, 0, 0) = q := ⟨_, rfl⟩
  obtain ⟨v, hv⟩ : ∃ v : Bool, N.isNone = v := ⟨_, rfl⟩
  rw [hq, hv] at hs
  have HQ := Lib.hid hq
  have HV := Lib.hid hv
  clear hq hv
  have HS := Lib.hid hs
  clear hs S1
  have HD := Lib.hid HS.out.drew
  refine wp_region_held_drew (S := ReadT w v q) (by kernel_rfl) HD.out.t (fun H0 => ?_)
  refine wpAnyH_take (i := 0) (v := cmV q) rfl (by kernel_rfl) (by kernel_rfl) (by kernel_rfl) (fun _ _ _ h => h) (yieldsIf_load_row rfl 37 (.tmp 7) rfl (w.heap.size + 1 + 1) rfl 37 (cmC q) _ (fun w hS => hS.1) Tryd.underlying37 rfl cm_size) H0 ?_
  simp only [Act.put, List.getElem_toArray, List.getElem_cons_zero, List.setIfInBounds_toArray, List.set_cons_zero, List.set_cons_succ]
  refine wpAnyH_take (i := 1) (v := .pointer (some ⟨w.heap.size + 1, 0, none⟩)) rfl (by kernel_rfl) (by kernel_rfl) (by kernel_rfl) (fun _ _ _ h => h) (.inl ⟨rfl, fun w hS => by go_simp⟩) H0 ?_
  simp only [Act.put, List.getElem_toArray, List.getElem_cons_succ, List.getElem_cons_zero, List.setIfInBounds_toArray, List.set_cons_zero, List.set_cons_succ]
  refine wpAnyH_take (i := 2) (v := .pointer (some ⟨w.heap.size + 1, 0, none⟩)) rfl (by kernel_rfl) (by kernel_rfl) (by kernel_rfl) (fun _ _ _ h => h) (.inl ⟨rfl, fun w hS => by go_simp⟩) H0 ?_
  simp only [Act.put, List.getElem_toArray, List.getElem_cons_succ, List.getElem_cons_zero, List.setIfInBounds_toArray, List.set_cons_zero, List.set_cons_succ]
  refine wpAnyH_take (i := 3) (v := .pointer (some ⟨w.heap.size + 1, 1, none⟩)) rfl (by kernel_rfl) (by kernel_rfl) (by kernel_rfl) (fun _ _ _ h => h) (.inl ⟨rfl, fun w hS => by go_simp⟩) H0 ?_
  simp only [Act.put, List.getElem_toArray, List.getElem_cons_succ, List.getElem_cons_zero, List.setIfInBounds_toArray, List.set_cons_zero, List.set_cons_succ]
  refine wpAnyH_take (i := 4) (v := .bool v) rfl (by kernel_rfl) (by kernel_rfl) (by kernel_rfl) (fun _ _ _ h => h) (.inl ⟨rfl, fun w hS => by have m0 := hS.2; go_simp⟩) H0 ?_
  simp only [Act.put, List.getElem_toArray, List.getElem_cons_succ, List.getElem_cons_zero, List.setIfInBounds_toArray, List.set_cons_zero, List.set_cons_succ]
  refine wpAnyH_take (i := 5) (v := .bool (!v)) rfl (by kernel_rfl) (by kernel_rfl) (by kernel_rfl) (fun _ _ _ h => h) (.inl ⟨rfl, fun w hS => by go_simp⟩) H0 ?_
  simp only [Act.put, List.getElem_toArray, List.getElem_cons_succ, List.getElem_cons_zero, List.setIfInBounds_toArray, List.set_cons_zero, List.set_cons_succ]
  refine wpAnyH_ready (rs := [6]) (by kernel_rfl) (by simp) ?_
  refine AllReadyH.cons rfl (fun KK hK => ?_) AllReadyH.nil
  refine (if_pos (show Region.wanted _ _ = true by rfl)).mpr ?_
  refine wp_store_row 37 (.tmp 4) (.tmp 39) rfl w.heap.size (cmC q) rfl rfl 37 (cmC zeroC) HD.out.1 cm_size rfl (cm_one q) ?_
  have hS' := HD.out.put_
  refine hK.out _ _ hS'.2.2 (fun _ => ?_)
  clear hK KK
  try simp only [Act.put, List.getElem_toArray, List.getElem_cons_succ, List.getElem_cons_zero, List.setIfInBounds_toArray, List.set_cons_zero, List.set_cons_succ]
  refine wpAnyH_take (i := 7) (v := .bool (!v)) rfl (by kernel_rfl) (by kernel_rfl) (by kernel_rfl) (fun _ _ _ h => h) (.inl ⟨rfl, fun w hS => by go_simp⟩) hS'.2.2 ?_
  simp only [Act.put, List.getElem_toArray, List.getElem_cons_succ, List.getElem_cons_zero, List.setIfInBounds_toArray, List.set_cons_zero, List.set_cons_succ]
  refine wpAnyH_done (by kernel_rfl) ?_ _
  go_wp2_with fail
  refine bodyPost_ret (v := .tuple #[cmV q, .bool (!v)]) ?_ rfl ⟨q, ?_, ?_, hS'.2.1⟩
  · simp [results, Tryd.f42, asAddr, run_loadVar_row _ w.heap.size 37 37 (cmC q) (0, 0) _ hS'.1 Tryd.underlying37 rfl cm_size]
    rfl
  · rw [← HV.out]
    cases N <;> rfl
  · intro x hx
    rw [← HQ.out]
    cases N with
    | none => cases hx
    | some a =>
      injection hx with hx
      rw [← hx, HG.out a rfl]

set_option linter.unusedSimpArgs false in
set_option maxRecDepth 100000 in
set_option maxHeartbeats 4000000 in
theorem read2_any (A : Option Addr) (n c : Nat) (b c' d e f g : List UInt8) (hb : b.length ≤ 1048576) (hd : d.length ≤ 1048576) (he : e.length ≤ 1048576) (hf : f.length ≤ 1048576) (hg : g.length ≤ 1048576) (w : World) (h : TS w.heap.size w A n c [b, c', d, e, f, g]) : Calls Tryd.prog 42 #[.int .i64 2, .slice A n c] w (ReadP w (readV 2 [b, c', d, e, f, g])) := by
  have h1 := fun r W h => rdinner_any r b c' d e [f, g] hb hd he W h
  have h2 := fun r v W h => rdaddr_any r f [g] v hf W h
  have h3 := fun r v W h => rdnum_any r g [] v 65535 hg W h
  rw [readV_2]
  unfold outerL
  obtain ⟨F, hF⟩ : ∃ F, parseV f = F := ⟨_, rfl⟩
  obtain ⟨H, hH⟩ : ∃ H, numV g 65535 = H := ⟨_, rfl⟩
  rw [hF] at h2 ⊢
  rw [hH] at h3 ⊢
  have H2 := Lib.hid h2
  have H3 := Lib.hid h3
  clear h2 h3 hF hH
  have HL := Lib.hid h
  obtain ⟨N, hN⟩ : ∃ N, innerL b c' d e = N := ⟨_, rfl⟩
  obtain ⟨G, hG⟩ : ∃ G, innerG b c' d e = G := ⟨_, rfl⟩
  have hgood : ∀ x, N = some x → G = innerI x := fun x hx => by rw [← hG]; exact innerL_good (hN.trans hx)
  rw [hN] at h1 ⊢
  rw [hG] at h1
  unfold inV at h1
  have S0 := Lib.hid (ReadS.start h 2)
  have H1 := Lib.hid h1
  have hgood := hgood
  clear h h1 hN hG HL
  go_enter Tryd.func42, Tryd.ntmps42
  go_upto_region 10 with (go_at_call 60; refine (H1.out _ _ S0.out.2.2.1).mono ?_; rintro e w1 ⟨rfl, r1, g1⟩; have S1 := Lib.hid (S0.out.step g1 r1); obtain ⟨x1, f1⟩ := S1.out.cells 1 (by omega); obtain ⟨x2, f2⟩ := S1.out.cells 2 (by omega); obtain ⟨x3, f3⟩ := S1.out.cells 3 (by omega); obtain ⟨x4, f4⟩ := S1.out.cells 4 (by omega); clear r1 g1)
  have hs := (((S1.out.store (q' := (2, (G.1, 0, 0, 0), 0, 0, 0)) 1 (.int .i64 G.1) rfl).store (q' := (2, (G.1, G.2.1, 0, 0), 0, 0, 0)) 2 (.int .i64 G.2.1) rfl).store (q' := (2, (G.1, G.2.1, G.2.2.1, 0), 0, 0, 0)) 3 (.int .i64 G.2.2.1) rfl).store (q' := (2, (G.1, G.2.1, G.2.2.1, G.2.2.2), 0, 0, 0)) 4 (.int .i64 G.2.2.2) rfl
  have HG := Lib.hid hgood
  clear x1 f1 x2 f2 x3 f3 x4 f4 hgood
  generalize ((((w1.setCell ⟨w.heap.size + 1 + 1, 1, none⟩ (.int .i64 G.1)).setCell ⟨w.heap.size + 1 + 1, 2, none⟩ (.int .i64 G.2.1)).setCell ⟨w.heap.size + 1 + 1, 3, none⟩ (.int .i64 G.2.2.1)).setCell ⟨w.heap.size + 1 + 1, 4, none⟩ (.int .i64 G.2.2.2)) = W at hs ⊢
  obtain ⟨v, hv⟩ : ∃ v : Bool, N.isNone = v := ⟨_, rfl⟩
  rw [hv] at hs
  have HV := Lib.hid hv
  have HS := Lib.hid hs
  have HD := Lib.hid hs.drew
  clear hv hs S1
  refine wp_region_held_drew (S := fun W' : World => W'.cell? ⟨w.heap.size + 1 + 1, 2, none⟩ = some (.int .i64 G.2.1)) (by kernel_rfl) (HD.out.cells 2 (by omega)).1 (fun H0 => ?_)
  refine wpAnyH_take (i := 0) (v := .pointer (some ⟨w.heap.size + 1 + 1, 1, none⟩)) rfl (by kernel_rfl) (by kernel_rfl) (by kernel_rfl) (fun _ _ _ h => h) (.inl ⟨rfl, fun w hS => by go_simp⟩) H0 ?_
  simp only [Act.put, List.getElem_toArray, List.getElem_cons_zero, List.setIfInBounds_toArray, List.set_cons_zero, List.set_cons_succ]
  refine wpAnyH_take (i := 1) (v := .pointer (some ⟨w.heap.size + 1 + 1, 2, none⟩)) rfl (by kernel_rfl) (by kernel_rfl) (by kernel_rfl) (fun _ _ _ h => h) (.inl ⟨rfl, fun w hS => by go_simp⟩) H0 ?_
  simp only [Act.put, List.getElem_toArray, List.getElem_cons_succ, List.getElem_cons_zero, List.setIfInBounds_toArray, List.set_cons_zero, List.set_cons_succ]
  refine wpAnyH_take (i := 2) (v := .int .i64 G.2.1) rfl (by kernel_rfl) (by kernel_rfl) (by kernel_rfl) (fun _ _ _ h => h) (.inl ⟨rfl, fun w hS => by go_simp⟩) H0 ?_
  simp only [Act.put, List.getElem_toArray, List.getElem_cons_succ, List.getElem_cons_zero, List.setIfInBounds_toArray, List.set_cons_zero, List.set_cons_succ]
  refine wpAnyH_take (i := 3) (v := .pointer (some ⟨w.heap.size + 1, 0, none⟩)) rfl (by kernel_rfl) (by kernel_rfl) (by kernel_rfl) (fun _ _ _ h => h) (.inl ⟨rfl, fun w hS => by go_simp⟩) H0 ?_
  simp only [Act.put, List.getElem_toArray, List.getElem_cons_succ, List.getElem_cons_zero, List.setIfInBounds_toArray, List.set_cons_zero, List.set_cons_succ]
  refine wpAnyH_take (i := 5) (v := .pointer (some ⟨w.heap.size + 1, 0, none⟩)) rfl (by kernel_rfl) (by kernel_rfl) (by kernel_rfl) (fun _ _ _ h => h) (.inl ⟨rfl, fun w hS => by go_simp⟩) H0 ?_
  simp only [Act.put, List.getElem_toArray, List.getElem_cons_succ, List.getElem_cons_zero, List.setIfInBounds_toArray, List.set_cons_zero, List.set_cons_succ]
  refine wpAnyH_ready (rs := [4]) (by kernel_rfl) (by simp) ?_
  refine AllReadyH.cons rfl (fun KK hK => ?_) AllReadyH.nil
  refine step_call rfl 61 #[.tmp 33] #[95] rfl #[.pointer (some ⟨w.heap.size + 1, 0, none⟩)] (by simp [Act.eval]) (enters_of Tryd.func61 (by kernel_rfl) rfl) ?_
  refine (H2.out _ _ _ HD.out.2.2.1).mono ?_
  rintro r w2 ⟨rfl, r2, g2⟩
  have S2 := Lib.hid (HD.out.step g2 r2)
  have m2 := (S2.out.cells 2 (by omega)).1
  clear r2 g2
  refine ⟨_, rfl, hK.out _ _ m2 (fun _ => ?_)⟩
  clear hK KK
  simp only [Act.put, List.getElem_toArray, List.getElem_cons_succ, List.getElem_cons_zero, List.setIfInBounds_toArray, List.set_cons_zero, List.set_cons_succ]
  refine wpAnyH_ready (rs := [6]) (by kernel_rfl) (by simp) ?_
  refine AllReadyH.cons rfl (fun KK hK => ?_) AllReadyH.nil
  refine step_call rfl 59 #[.tmp 35, .const (.int .i64 65535)] #[95, 3] rfl #[.pointer (some ⟨w.heap.size + 1, 0, none⟩), .int .i64 65535] (by simp [Act.eval]) (enters_of Tryd.func59 (by kernel_rfl) rfl) ?_
  refine (H3.out _ _ _ S2.out.2.2.1).mono ?_
  rintro r w3 ⟨rfl, r3, g3⟩
  have S3 := Lib.hid (S2.out.step g3 r3)
  have m3 := (S3.out.cells 2 (by omega)).1
  clear r3 g3 m2
  refine ⟨_, rfl, hK.out _ _ m3 (fun _ => ?_)⟩
  clear hK KK
  simp only [Act.put, List.getElem_toArray, List.getElem_cons_succ, List.getElem_cons_zero, List.setIfInBounds_toArray, List.set_cons_zero, List.set_cons_succ]
  refine wpAnyH_take (i := 7) (v := .agg #[.int .i64 G.2.1, .int .i64 (F.getD 0 : Nat), .int .i64 (H.getD 0 : Nat)]) rfl (by kernel_rfl) (by kernel_rfl) (by kernel_rfl) (fun _ _ _ h => h) (.inl ⟨rfl, fun w hS => by go_simp⟩) m3 ?_
  simp only [Act.put, List.getElem_toArray, List.getElem_cons_succ, List.getElem_cons_zero, List.setIfInBounds_toArray, List.set_cons_zero, List.set_cons_succ]
  refine wpAnyH_take (i := 8) (v := .pointer (some ⟨w.heap.size + 1 + 1, 5, none⟩)) rfl (by kernel_rfl) (by kernel_rfl) (by kernel_rfl) (fun _ _ _ h => h) (.inl ⟨rfl, fun w hS => by go_simp⟩) m3 ?_
  simp only [Act.put, List.getElem_toArray, List.getElem_cons_succ, List.getElem_cons_zero, List.setIfInBounds_toArray, List.set_cons_zero, List.set_cons_succ]
  refine wpAnyH_ready (rs := [9]) (by kernel_rfl) (by simp) ?_
  refine AllReadyH.cons rfl (fun KK hK => ?_) AllReadyH.nil
  obtain ⟨x5, f5⟩ := S3.out.cells 5 (by omega)
  obtain ⟨x6, f6⟩ := S3.out.cells 6 (by omega)
  obtain ⟨x7, f7⟩ := S3.out.cells 7 (by omega)
  go_simp
  have hs := ((S3.out.store (q' := (2, (G.1, G.2.1, G.2.2.1, G.2.2.2), G.2.1, 0, 0)) 5 (.int .i64 G.2.1) rfl).store (q' := (2, (G.1, G.2.1, G.2.2.1, G.2.2.2), G.2.1, (F.getD 0 : Nat), 0)) 6 (.int .i64 (F.getD 0 : Nat)) rfl).store (q' := (2, (G.1, G.2.1, G.2.2.1, G.2.2.2), G.2.1, (F.getD 0 : Nat), (H.getD 0 : Nat))) 7 (.int .i64 (H.getD 0 : Nat)) rfl
  clear x5 f5 x6 f6 x7 f7
  generalize (((w3.setCell ⟨w.heap.size + 1 + 1, 5, none⟩ (.int .i64 G.2.1)).setCell ⟨w.heap.size + 1 + 1, 6, none⟩ (.int .i64 (F.getD 0 : Nat))).setCell ⟨w.heap.size + 1 + 1, 7, none⟩ (.int .i64 (H.getD 0 : Nat))) = W5 at hs ⊢
  have m5 := (hs.cells 2 (by omega)).1
  refine hK.out _ _ m5 (fun _ => ?_)
  clear hK KK
  try simp only [Act.put, List.getElem_toArray, List.getElem_cons_succ, List.getElem_cons_zero, List.setIfInBounds_toArray, List.set_cons_zero, List.set_cons_succ]
  refine wpAnyH_done (by kernel_rfl) ?_ _
  go_upto_region 11 with fail
  obtain ⟨q, hq⟩ : ∃ q : Cm, (2, (G.1, G.2.1, G.2.2.1, G.2.2.2), G.2.1, ((F.getD 0 : Nat) : Int), ((H.getD 0 : Nat) : Int)) = q := ⟨_, rfl⟩
  obtain ⟨v', hv⟩ : ∃ v' : Bool, (v || F.isNone || H.isNone) = v' := ⟨_, rfl⟩
  rw [hq, hv] at hs
  have HQ := Lib.hid hq
  have HV' := Lib.hid hv
  clear hq hv
  have HS := Lib.hid hs
  clear hs S3 S2 HD m3 m5 H0
  have HD := Lib.hid HS.out.drew
  refine wp_region_held_drew (S := ReadT w v' q) (by kernel_rfl) HD.out.t (fun H0 => ?_)
  refine wpAnyH_take (i := 0) (v := cmV q) rfl (by kernel_rfl) (by kernel_rfl) (by kernel_rfl) (fun _ _ _ h => h) (yieldsIf_load_row rfl 37 (.tmp 7) rfl (w.heap.size + 1 + 1) rfl 37 (cmC q) _ (fun w hS => hS.1) Tryd.underlying37 rfl cm_size) H0 ?_
  simp only [Act.put, List.getElem_toArray, List.getElem_cons_zero, List.setIfInBounds_toArray, List.set_cons_zero, List.set_cons_succ]
  refine wpAnyH_take (i := 1) (v := .pointer (some ⟨w.heap.size + 1, 0, none⟩)) rfl (by kernel_rfl) (by kernel_rfl) (by kernel_rfl) (fun _ _ _ h => h) (.inl ⟨rfl, fun w hS => by go_simp⟩) H0 ?_
  simp only [Act.put, List.getElem_toArray, List.getElem_cons_succ, List.getElem_cons_zero, List.setIfInBounds_toArray, List.set_cons_zero, List.set_cons_succ]
  refine wpAnyH_take (i := 2) (v := .pointer (some ⟨w.heap.size + 1, 0, none⟩)) rfl (by kernel_rfl) (by kernel_rfl) (by kernel_rfl) (fun _ _ _ h => h) (.inl ⟨rfl, fun w hS => by go_simp⟩) H0 ?_
  simp only [Act.put, List.getElem_toArray, List.getElem_cons_succ, List.getElem_cons_zero, List.setIfInBounds_toArray, List.set_cons_zero, List.set_cons_succ]
  refine wpAnyH_take (i := 3) (v := .pointer (some ⟨w.heap.size + 1, 1, none⟩)) rfl (by kernel_rfl) (by kernel_rfl) (by kernel_rfl) (fun _ _ _ h => h) (.inl ⟨rfl, fun w hS => by go_simp⟩) H0 ?_
  simp only [Act.put, List.getElem_toArray, List.getElem_cons_succ, List.getElem_cons_zero, List.setIfInBounds_toArray, List.set_cons_zero, List.set_cons_succ]
  refine wpAnyH_take (i := 4) (v := .bool v') rfl (by kernel_rfl) (by kernel_rfl) (by kernel_rfl) (fun _ _ _ h => h) (.inl ⟨rfl, fun w hS => by have m0 := hS.2; go_simp⟩) H0 ?_
  simp only [Act.put, List.getElem_toArray, List.getElem_cons_succ, List.getElem_cons_zero, List.setIfInBounds_toArray, List.set_cons_zero, List.set_cons_succ]
  refine wpAnyH_take (i := 5) (v := .bool (!v')) rfl (by kernel_rfl) (by kernel_rfl) (by kernel_rfl) (fun _ _ _ h => h) (.inl ⟨rfl, fun w hS => by go_simp⟩) H0 ?_
  simp only [Act.put, List.getElem_toArray, List.getElem_cons_succ, List.getElem_cons_zero, List.setIfInBounds_toArray, List.set_cons_zero, List.set_cons_succ]
  refine wpAnyH_ready (rs := [6]) (by kernel_rfl) (by simp) ?_
  refine AllReadyH.cons rfl (fun KK hK => ?_) AllReadyH.nil
  refine (if_pos (show Region.wanted _ _ = true by rfl)).mpr ?_
  refine wp_store_row 37 (.tmp 4) (.tmp 39) rfl w.heap.size (cmC q) rfl rfl 37 (cmC zeroC) HD.out.1 cm_size rfl (cm_one q) ?_
  have hS' := HD.out.put_
  refine hK.out _ _ hS'.2.2 (fun _ => ?_)
  clear hK KK
  try simp only [Act.put, List.getElem_toArray, List.getElem_cons_succ, List.getElem_cons_zero, List.setIfInBounds_toArray, List.set_cons_zero, List.set_cons_succ]
  refine wpAnyH_take (i := 7) (v := .bool (!v')) rfl (by kernel_rfl) (by kernel_rfl) (by kernel_rfl) (fun _ _ _ h => h) (.inl ⟨rfl, fun w hS => by go_simp⟩) hS'.2.2 ?_
  simp only [Act.put, List.getElem_toArray, List.getElem_cons_succ, List.getElem_cons_zero, List.setIfInBounds_toArray, List.set_cons_zero, List.set_cons_succ]
  refine wpAnyH_done (by kernel_rfl) ?_ _
  go_wp2_with fail
  refine bodyPost_ret (v := .tuple #[cmV q, .bool (!v')]) ?_ rfl ⟨q, ?_, ?_, hS'.2.1⟩
  · simp [results, Tryd.f42, asAddr, run_loadVar_row _ w.heap.size 37 37 (cmC q) (0, 0) _ hS'.1 Tryd.underlying37 rfl cm_size]
    rfl
  · rw [← HV'.out, ← HV.out]
    cases N <;> cases F <;> cases H <;> rfl
  · intro x hx
    rw [← HQ.out]
    have hg := HG.out
    revert hx hg
    cases N <;> cases F <;> cases H <;> intro hx hg
    all_goals first | (cases hx; done) | skip
    injection hx with hx
    rw [← hx, hg _ rfl]
    rfl

set_option linter.unusedSimpArgs false in
set_option maxRecDepth 100000 in
set_option maxHeartbeats 4000000 in
theorem read4_any (A : Option Addr) (n c : Nat) (w : World) (h : TS w.heap.size w A n c []) : Calls Tryd.prog 42 #[.int .i64 4, .slice A n c] w (ReadP w (some (4, (0, 0, 0, 0), 0, 0, 0))) := by
  have hs := ReadS.start h 4
  clear h
  go_enter Tryd.func42, Tryd.ntmps42
  go_upto_region 11 with fail
  unfold cmC at hs
  simp only [zeroC] at hs
  generalize (((w.alloc (.cells _ 37)).alloc (.cells _ 97)).alloc (.cells _ 37)) = W at hs ⊢
  have HS := Lib.hid hs
  clear hs
  have HD := Lib.hid HS.out.drew
  refine wp_region_held_drew (S := ReadT w false (4, (0, 0, 0, 0), 0, 0, 0)) (by kernel_rfl) HD.out.t (fun H0 => ?_)
  refine wpAnyH_take (i := 0) (v := cmV (4, (0, 0, 0, 0), 0, 0, 0)) rfl (by kernel_rfl) (by kernel_rfl) (by kernel_rfl) (fun _ _ _ h => h) (yieldsIf_load_row rfl 37 (.tmp 7) rfl (w.heap.size + 1 + 1) rfl 37 (cmC (4, (0, 0, 0, 0), 0, 0, 0)) _ (fun w hS => hS.1) Tryd.underlying37 rfl cm_size) H0 ?_
  simp only [Act.put, List.getElem_toArray, List.getElem_cons_zero, List.setIfInBounds_toArray, List.set_cons_zero, List.set_cons_succ]
  refine wpAnyH_take (i := 1) (v := .pointer (some ⟨w.heap.size + 1, 0, none⟩)) rfl (by kernel_rfl) (by kernel_rfl) (by kernel_rfl) (fun _ _ _ h => h) (.inl ⟨rfl, fun w hS => by go_simp⟩) H0 ?_
  simp only [Act.put, List.getElem_toArray, List.getElem_cons_succ, List.getElem_cons_zero, List.setIfInBounds_toArray, List.set_cons_zero, List.set_cons_succ]
  refine wpAnyH_take (i := 2) (v := .pointer (some ⟨w.heap.size + 1, 0, none⟩)) rfl (by kernel_rfl) (by kernel_rfl) (by kernel_rfl) (fun _ _ _ h => h) (.inl ⟨rfl, fun w hS => by go_simp⟩) H0 ?_
  simp only [Act.put, List.getElem_toArray, List.getElem_cons_succ, List.getElem_cons_zero, List.setIfInBounds_toArray, List.set_cons_zero, List.set_cons_succ]
  refine wpAnyH_take (i := 3) (v := .pointer (some ⟨w.heap.size + 1, 1, none⟩)) rfl (by kernel_rfl) (by kernel_rfl) (by kernel_rfl) (fun _ _ _ h => h) (.inl ⟨rfl, fun w hS => by go_simp⟩) H0 ?_
  simp only [Act.put, List.getElem_toArray, List.getElem_cons_succ, List.getElem_cons_zero, List.setIfInBounds_toArray, List.set_cons_zero, List.set_cons_succ]
  refine wpAnyH_take (i := 4) (v := .bool false) rfl (by kernel_rfl) (by kernel_rfl) (by kernel_rfl) (fun _ _ _ h => h) (.inl ⟨rfl, fun w hS => by have m0 := hS.2; go_simp⟩) H0 ?_
  simp only [Act.put, List.getElem_toArray, List.getElem_cons_succ, List.getElem_cons_zero, List.setIfInBounds_toArray, List.set_cons_zero, List.set_cons_succ]
  refine wpAnyH_take (i := 5) (v := .bool (!false)) rfl (by kernel_rfl) (by kernel_rfl) (by kernel_rfl) (fun _ _ _ h => h) (.inl ⟨rfl, fun w hS => by go_simp⟩) H0 ?_
  simp only [Act.put, List.getElem_toArray, List.getElem_cons_succ, List.getElem_cons_zero, List.setIfInBounds_toArray, List.set_cons_zero, List.set_cons_succ]
  refine wpAnyH_ready (rs := [6]) (by kernel_rfl) (by simp) ?_
  refine AllReadyH.cons rfl (fun KK hK => ?_) AllReadyH.nil
  refine (if_pos (show Region.wanted _ _ = true by rfl)).mpr ?_
  refine wp_store_row 37 (.tmp 4) (.tmp 39) rfl w.heap.size (cmC (4, (0, 0, 0, 0), 0, 0, 0)) rfl rfl 37 (cmC zeroC) HD.out.1 cm_size rfl (cm_one (4, (0, 0, 0, 0), 0, 0, 0)) ?_
  have hS' := HD.out.put_
  refine hK.out _ _ hS'.2.2 (fun _ => ?_)
  clear hK KK
  try simp only [Act.put, List.getElem_toArray, List.getElem_cons_succ, List.getElem_cons_zero, List.setIfInBounds_toArray, List.set_cons_zero, List.set_cons_succ]
  refine wpAnyH_take (i := 7) (v := .bool (!false)) rfl (by kernel_rfl) (by kernel_rfl) (by kernel_rfl) (fun _ _ _ h => h) (.inl ⟨rfl, fun w hS => by go_simp⟩) hS'.2.2 ?_
  simp only [Act.put, List.getElem_toArray, List.getElem_cons_succ, List.getElem_cons_zero, List.setIfInBounds_toArray, List.set_cons_zero, List.set_cons_succ]
  refine wpAnyH_done (by kernel_rfl) ?_ _
  go_wp2_with fail
  refine bodyPost_ret (v := .tuple #[cmV (4, (0, 0, 0, 0), 0, 0, 0), .bool (!false)]) ?_ rfl ⟨(4, (0, 0, 0, 0), 0, 0, 0), ?_, ?_, hS'.2.1⟩
  · simp [results, Tryd.f42, asAddr, run_loadVar_row _ w.heap.size 37 37 (cmC (4, (0, 0, 0, 0), 0, 0, 0)) (0, 0) _ hS'.1 Tryd.underlying37 rfl cm_size]
    rfl
  · rfl
  · intro x hx
    injection hx
end Go.Proofs.YtkbbkddepcjoaaaDoor
