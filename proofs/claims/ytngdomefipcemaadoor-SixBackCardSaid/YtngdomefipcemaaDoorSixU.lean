/-
  six: SixTells.
-/
import Derived.Test.YtngdomefipcemaaDoorSixS
namespace Go.Proofs.YtngdomefipcemaaDoor
open Go.RowKit Go.Great

theorem of6_len (zs : List Int) : (of6 zs).length = 16 := stZ_len zs _
theorem IntRow.below_ {k : IntKind} {w w' : World} {a : Option Addr} {len : Nat} {zs : List Int} (h : IntRow k w a len zs) (hb : Below w.heap.size w w') : IntRow k w' a len zs :=
  ⟨h.1, h.2.1, fun i hi => by
    obtain ⟨b, off, e, hl, hc, hw⟩ := h.2.2 i hi
    exact ⟨b, off, e, Nat.lt_of_lt_of_le hl hb.size, (hb.cell (p := ⟨b, off + i, none⟩) hl).trans hc, hw⟩⟩

theorem quiet_load_row {P : Program} {C : World → Prop} {a : Act} {o : Oper} {K : Act → Prop} (ty : TypeId) (x : Operand) (ho : o.op = .load ty x)
    (g : Nat) (hx : a.eval x = .pointer (some ⟨g, 0, none⟩)) (t : TypeId) (cs : Array Value) (d : TypeDesc) (hC : ∀ w, C w → w.heap[g]? = some (.cells cs t (0, 0)))
    (hu : P.underlying ty = some d) (hd : (match d with | .struct _ | .array _ _ => true | _ => false) = true) (hi : (P.info? ty).map (·.size) = some cs.size)
    (hk : K (a.put o.dst (.agg cs))) : o.quiet P a C K :=
  ⟨_, fun w hw => by
    have : (execOp a.eval o).run P w = .ok (.value (.agg cs)) w := by
      unfold execOp
      simp only [ho, hx, Instr.loadAt, Instr.sureAddr, Sem.run_bind, Sem.run_pure, Result.andThen_ok, run_loadVar_row w g t ty cs (0, 0) d (hC w hw) hu hd hi]
    unfold Oper.quietAt
    rw [this]
    exact ⟨rfl, rfl⟩, hk⟩

set_option linter.unusedSimpArgs false in
set_option maxRecDepth 100000 in
set_option maxHeartbeats 8000000 in
theorem stells_any (a b : List UInt8) (ha : a.length = 16) (hb : b.length = 16) (A : Option Addr) (n c : Nat) (zs : List Int) (w : World) (h : IntRow .i64 w A n zs) (hdeb : Deb w) :
    Calls Tryd.prog 7 #[.agg (cells6 a), .agg (cells6 b), .slice A n c] w fun r w' => r = .returned (.bool true) ∧ Below w.heap.size w w' := by
  have hb0 : Blk ((w.alloc (.cells (cells6 a) 31)).alloc (.cells (cells6 b) 31)) w.heap.size 31 (cells6 a) := (Blk.new _ _ _).alloc _
  have hb1 : Blk ((w.alloc (.cells (cells6 a) 31)).alloc (.cells (cells6 b) 31)) (w.heap.size + 1) 31 (cells6 b) := by
    have := Blk.new (w.alloc (.cells (cells6 a) 31)) 31 (cells6 b)
    simpa using this
  have hbw : Below w.heap.size w ((w.alloc (.cells (cells6 a) 31)).alloc (.cells (cells6 b) 31)) := ((Below.refl _ _).alloc (Nat.le_refl _) _).alloc (by simp) _
  have hn := h.1
  by_cases h100 : 100 < n
  · go_enter Tryd.func7, Tryd.ntmps7
    have hd : decide ((100 : Int) < (n : Int)) = true := by simp; omega
    go_upto_region 1 with fail
    generalize ((w.alloc (.cells (cells6 a) 31)).alloc (.cells (cells6 b) 31)) = W1 at hb0 hb1 hbw ⊢
    have HBW := Lib.hid hbw
    clear hb0 hb1 hbw
    go_wp2_with fail
    refine (awake6_any _ (deb_below hdeb HBW.out)).mono ?_
    rintro r w1 ⟨rfl, bel1⟩
    go_wp2
    go_ret
    exact ⟨rfl, HBW.out.trans (bel1.mono HBW.out.size)⟩
  · have hsa := six_of ha
    have hsb := six_of hb
    have t1 := fun W h => text6_any a ha W h
    have t2 := fun W => rtext6_any a ha W
    have o1 := fun W => host6_any a ha W
    have o2 := fun W => rhost6_any a ha W
    have l1 := fun W => less6_any a b ha hb W
    have l2 := fun W => rless6_any a b ha hb W
    have f1 := fun W h => of6_any A n c zs W h
    have f2 := fun W h => rof6_any A n c zs W h
    have heq := fun W => eq6 (of6 zs) (of6 zs) (of6_len zs) (of6_len zs) W
    simp only [decide_true] at heq
    obtain ⟨T, hT⟩ : ∃ T, bs (text6 a) = T := ⟨_, rfl⟩
    obtain ⟨O, hO⟩ : ∃ O, host6V a = O := ⟨_, rfl⟩
    obtain ⟨L, hL⟩ : ∃ L, less6 a b = L := ⟨_, rfl⟩
    obtain ⟨F, hF⟩ : ∃ F, cells6 (of6 zs) = F := ⟨_, rfl⟩
    rw [hT] at t1 t2
    rw [hO] at o1 o2
    rw [hL] at l1 l2
    rw [hF] at f1 f2 heq
    generalize cells6 a = ca at *
    generalize cells6 b = cb at *
    have T1 := Lib.hid t1
    have T2 := Lib.hid t2
    have O1 := Lib.hid o1
    have O2 := Lib.hid o2
    have L1 := Lib.hid l1
    have L2 := Lib.hid l2
    have F1 := Lib.hid f1
    have F2 := Lib.hid f2
    have AWK := Lib.hid (fun W h => awake6_any W h)
    have hd : decide ((100 : Int) < (n : Int)) = false := by simp; omega
    clear hT hO hL hF t1 t2 o1 o2 l1 l2 f1 f2
    go_enter Tryd.func7, Tryd.ntmps7
    go_upto_region 1 with fail
    generalize ((w.alloc (.cells ca 31)).alloc (.cells cb 31)) = W1 at hb0 hb1 hbw ⊢
    have HR := Lib.hid (h.below_ hbw)
    have HDEB := Lib.hid (deb_below hdeb hbw)
    have HBW := Lib.hid hbw
    have d0 : ∀ w', (∃ p : After W1, w' = p.world) → w'.heap[w.heap.size]? = some (.cells ca 31 (0, 0)) := by
      rintro w' ⟨p, rfl⟩
      exact hb0.below p.below hb0.lt
    have d1 : ∀ w', (∃ p : After W1, w' = p.world) → w'.heap[w.heap.size + 1]? = some (.cells cb 31 (0, 0)) := by
      rintro w' ⟨p, rfl⟩
      exact hb1.below p.below hb1.lt
    have D0 := Lib.hid d0
    have D1 := Lib.hid d1
    have q := fun p : After W1 => heq p.world
    clear hb0 hb1 hbw h hdeb heq d0 d1
    go_wp2_with fail
    refine wp_after (by kernel_rfl) (by kernel_rfl) ?_
    repeat (first
      | (refine BigFrame.wpQuiet_want rfl fun K hK => quiet_load_row 31 (.tmp 3) rfl w.heap.size rfl 31 ca _ D0.out Tryd.underlying31 rfl hsa (hK _ ?_)
         simp only [Act.put, List.getElem_toArray, List.getElem_cons_succ, List.getElem_cons_zero, List.setIfInBounds_toArray, List.set_cons_zero, List.set_cons_succ])
      | (refine BigFrame.wpQuiet_want rfl fun K hK => quiet_load_row 31 (.tmp 4) rfl (w.heap.size + 1) rfl 31 cb _ D1.out Tryd.underlying31 rfl hsb (hK _ ?_)
         simp only [Act.put, List.getElem_toArray, List.getElem_cons_succ, List.getElem_cons_zero, List.setIfInBounds_toArray, List.set_cons_zero, List.set_cons_succ])
      | (go_big_quiet_step (first
          | (go_at_call 23; exact calls_after (T1.out _ (deb_below HDEB.out (After.below _))))
          | (go_at_call 24; exact calls_after (T2.out _))
          | (go_at_call 25; exact calls_after (O1.out _))
          | (go_at_call 26; exact calls_after (O2.out _))
          | (go_at_call 27; exact calls_after (L1.out _))
          | (go_at_call 28; exact calls_after (L2.out _))
          | (go_at_call 29; exact calls_after (F1.out _ (HR.out.below_ (After.below _))))
          | (go_at_call 30; exact calls_after (F2.out _ (HR.out.below_ (After.below _))))
          | (go_at_call 20; exact calls_after (AWK.out _ (deb_below HDEB.out (After.below _)))))))
    refine wpQuiet_nil ?_
    intro w' hw'
    obtain ⟨p, rfl⟩ := hw'
    go_wp2
    go_ret
    exact ⟨rfl, HBW.out.trans (p.below.mono HBW.out.size)⟩
end Go.Proofs.YtngdomefipcemaaDoor
