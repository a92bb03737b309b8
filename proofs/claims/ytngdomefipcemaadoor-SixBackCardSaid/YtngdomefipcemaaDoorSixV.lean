/-
  six: SixBack.
-/
import Derived.Test.YtngdomefipcemaaDoorSixU
namespace Go.Proofs.YtngdomefipcemaaDoor
open Go.RowKit Go.Great

theorem parse_back (a : List UInt8) (ha : a.length = 16) : p6V (parse6 (text6 a)) = .tuple #[.agg (cells6 a), .int .i64 0] := by
  rw [parse_text6 ha]
  unfold p6V
  simp only [ofW_wordsOf 8 a (by omega)]
  rfl
theorem text6_len {a : List UInt8} (ha : a.length = 16) : (text6 a).length ≤ 39 := textW_len (wordsOf_len 8 a (by omega))

set_option linter.unusedSimpArgs false in
set_option maxRecDepth 100000 in
set_option maxHeartbeats 8000000 in
theorem sback_any (a b : List UInt8) (ha : a.length = 16) (hb : b.length = 16) (w : World) (hdeb : Deb w) :
    Calls Tryd.prog 8 #[.agg (cells6 a), .agg (cells6 b)] w fun r w' => r = .returned (.bool true) ∧ Below w.heap.size w w' := by
  have hb0 : Blk ((w.alloc (.cells (cells6 a) 31)).alloc (.cells (cells6 b) 31)) w.heap.size 31 (cells6 a) := (Blk.new _ _ _).alloc _
  have hb1 : Blk ((w.alloc (.cells (cells6 a) 31)).alloc (.cells (cells6 b) 31)) (w.heap.size + 1) 31 (cells6 b) := by
    have := Blk.new (w.alloc (.cells (cells6 a) 31)) 31 (cells6 b)
    simpa using this
  have hbw : Below w.heap.size w ((w.alloc (.cells (cells6 a) 31)).alloc (.cells (cells6 b) 31)) := ((Below.refl _ _).alloc (Nat.le_refl _) _).alloc (by simp) _
  have hsa := six_of ha
  have hsb := six_of hb
  have hone := cells6_one a
  have hlen : z16.size = (cells6 a).size := by rw [cells6_size, ha]; rfl
  have t1 := fun W h => text6_any a ha W h
  have p1 := fun W => parse6_any (text6 a) (by have := text6_len ha; omega) W
  have l1 := fun W => less6_any a b ha hb W
  have l2 := fun W => less6_any b a hb ha W
  have heq := fun W => eq6 a a ha ha W
  have heq2 := fun W => eq6 a b ha hb W
  obtain ⟨k1, k2⟩ := less_law a b (by omega)
  rw [parse_back a ha] at p1
  simp only [decide_true] at heq
  obtain ⟨T, hT⟩ : ∃ T, bs (text6 a) = T := ⟨_, rfl⟩
  obtain ⟨E, hE⟩ : ∃ E, decide (a = b) = E := ⟨_, rfl⟩
  obtain ⟨L, hL⟩ : ∃ L, less6 a b = L := ⟨_, rfl⟩
  obtain ⟨M, hM⟩ : ∃ M, less6 b a = M := ⟨_, rfl⟩
  rw [hT] at t1 p1
  rw [hE] at heq2 k1
  rw [hL] at l1 k1 k2
  rw [hM] at l2 k1 k2
  generalize cells6 a = ca at *
  generalize cells6 b = cb at *
  have T1 := Lib.hid t1
  have P1 := Lib.hid p1
  have L1 := Lib.hid l1
  have L2 := Lib.hid l2
  have HONE := Lib.hid hone
  have HLEN := Lib.hid hlen
  have HEQ := Lib.hid heq
  have HEQ2 := Lib.hid heq2
  have AWK := Lib.hid (fun W h => awake6_any W h)
  clear hT hE hL hM t1 p1 l1 l2 hone hlen heq heq2
  go_enter Tryd.func8, Tryd.ntmps8
  go_upto_region 1 with fail
  generalize ((w.alloc (.cells ca 31)).alloc (.cells cb 31)) = W1 at hb0 hb1 hbw ⊢
  have HB0 := Lib.hid hb0
  have HB1 := Lib.hid hb1
  have HDEB := Lib.hid (deb_below hdeb hbw)
  have HBW := Lib.hid hbw
  clear hb0 hb1 hbw hdeb
  apply wp_region_lit
  refine wpList_load_row rfl 31 (.tmp 2) rfl w.heap.size rfl 31 ca (0, 0) _ HB0.out Tryd.underlying31 rfl hsa ?_
  go_wp2_with fail
  refine (T1.out _ HDEB.out).mono ?_
  rintro r w2 ⟨rfl, bel2⟩
  go_wp2_with fail
  refine (P1.out _).mono ?_
  rintro r w3 ⟨rfl, bel3⟩
  have BEL3 := Lib.hid (bel2.trans (bel3.mono bel2.size))
  have BEL4 := Lib.hid (BEL3.out.alloc BEL3.out.size (.cells z16 31))
  have BK3 := Lib.hid (Blk.new w3 31 z16)
  have hw3 := BEL3.out.size
  clear bel2 bel3
  go_upto_region 2 with (refine wpList_store_row rfl 31 (.tmp 5) (.tmp 11) rfl w3.heap.size ca rfl rfl 31 z16 BK3.out hsa HLEN.out HONE.out ?_)
  have hb4 : Blk ((w3.alloc (.cells z16 31)).setRow w3.heap.size ca) w3.heap.size 31 ca := setRow_heap _ _ z16 ca _ _ BK3.out
  have hbw4 : Below W1.heap.size W1 ((w3.alloc (.cells z16 31)).setRow w3.heap.size ca) := below_setRow BEL4.out hw3 _
  change Code.wp _ _ _ _ ((w3.alloc (.cells z16 31)).setRow w3.heap.size ca)
  generalize ((w3.alloc (.cells z16 31)).setRow w3.heap.size ca) = W4 at hb4 hbw4 ⊢
  obtain ⟨G, hG⟩ : ∃ G, w3.heap.size = G := ⟨_, rfl⟩
  rw [hG] at hb4 ⊢
  have HB4 := Lib.hid hb4
  have HBW4 := Lib.hid (HBW.out.trans (hbw4.mono HBW.out.size))
  have HDEB4 := Lib.hid (deb_below HDEB.out hbw4)
  have hb05 := HB0.out.below hbw4 HB0.out.lt
  have hb15 := HB1.out.below hbw4 HB1.out.lt
  have d0 : ∀ w', (∃ p : After W4, w' = p.world) → w'.heap[w.heap.size]? = some (.cells ca 31 (0, 0)) := by
    rintro w' ⟨p, rfl⟩
    exact hb05.below p.below hb05.lt
  have d1 : ∀ w', (∃ p : After W4, w' = p.world) → w'.heap[w.heap.size + 1]? = some (.cells cb 31 (0, 0)) := by
    rintro w' ⟨p, rfl⟩
    exact hb15.below p.below hb15.lt
  have d2 : ∀ w', (∃ p : After W4, w' = p.world) → w'.heap[G]? = some (.cells ca 31 (0, 0)) := by
    rintro w' ⟨p, rfl⟩
    exact hb4.below p.below hb4.lt
  have D0 := Lib.hid d0
  have D1 := Lib.hid d1
  have D2 := Lib.hid d2
  have q := fun p : After W4 => HEQ.out p.world
  have q2 := fun p : After W4 => HEQ2.out p.world
  clear hG BK3 BEL3 BEL4 hb4 hbw4 hw3 HB0 HB1 HBW hb05 hb15 d0 d1 d2
  refine wp_after (by kernel_rfl) (by kernel_rfl) ?_
  cases E <;> cases L <;> cases M <;> first | exact absurd k1 (by decide) | exact absurd k2 (by decide) | clear k1 k2
  all_goals
    repeat (first
      | (refine BigFrame.wpQuiet_want rfl fun K hK => quiet_load_row 31 (.tmp 2) rfl w.heap.size rfl 31 ca _ D0.out Tryd.underlying31 rfl hsa (hK _ ?_)
         simp only [Act.put, List.getElem_toArray, List.getElem_cons_succ, List.getElem_cons_zero, List.setIfInBounds_toArray, List.set_cons_zero, List.set_cons_succ])
      | (refine BigFrame.wpQuiet_want rfl fun K hK => quiet_load_row 31 (.tmp 3) rfl (w.heap.size + 1) rfl 31 cb _ D1.out Tryd.underlying31 rfl hsb (hK _ ?_)
         simp only [Act.put, List.getElem_toArray, List.getElem_cons_succ, List.getElem_cons_zero, List.setIfInBounds_toArray, List.set_cons_zero, List.set_cons_succ])
      | (refine BigFrame.wpQuiet_want rfl fun K hK => quiet_load_row 31 (.tmp 5) rfl G rfl 31 ca _ D2.out Tryd.underlying31 rfl hsa (hK _ ?_)
         simp only [Act.put, List.getElem_toArray, List.getElem_cons_succ, List.getElem_cons_zero, List.setIfInBounds_toArray, List.set_cons_zero, List.set_cons_succ])
      | (go_big_quiet_step (first
          | (go_at_call 27; exact calls_after (L1.out _))
          | (go_at_call 27; exact calls_after (L2.out _))
          | (go_at_call 20; exact calls_after (AWK.out _ (deb_below HDEB4.out (After.below _)))))))
    refine wpQuiet_nil ?_
    intro w' hw'
    obtain ⟨p, rfl⟩ := hw'
    go_wp2
    go_ret
    exact ⟨rfl, HBW4.out.trans (p.below.mono HBW4.out.size)⟩
end Go.Proofs.YtngdomefipcemaaDoor
