/-
  cmd: the statements CmdParses, CmdPrints, CmdBack walked.
-/
import Derived.Test.YtkbbkddepcjoaaaDoorCmdT
namespace Go.Proofs.YtkbbkddepcjoaaaDoor
open Go.RowKit Go.Great

set_option maxRecDepth 100000 in
set_option maxHeartbeats 8000000 in
theorem cparses_any (s : List UInt8) (most : Int) (w : World) (htab : TabW w) : Calls Tryd.prog 5 #[.string (bs s), .int .i64 most] w fun r w' => r = .returned (.bool true) ∧ Below w.heap.size w w' := by
  have hsz : (bs s).size = s.length := rfl
  have HT := Lib.hid htab
  by_cases h300 : 300 < s.length
  · have hd : decide ((300 : Int) < (s.length : Int)) = true := by simp; omega
    clear htab
    go_enter Tryd.func5, Tryd.ntmps5
    go_wp2_with (go_at_call 14; refine (cawake_any _ HT.out).mono ?_; rintro e w1 ⟨rfl, b1⟩)
    go_ret
    exact ⟨rfl, b1⟩
  · have hd : decide ((300 : Int) < (s.length : Int)) = false := by simp; omega
    have c1 := fun W => cparse_any s (by omega) W
    have c2 := fun W => rcparse_any s (by omega) W
    have c3 := fun W => cnum_any s most (by omega) W
    have c4 := fun W => rnum_any s most (by omega) W
    have c5 := fun W => cproto_any s W
    have c6 := fun W => rproto_any s W
    unfold parseOV at c1 c2
    unfold numR at c3 c4 c5 c6
    obtain ⟨⟨⟨v, ⟨n, p, a, y⟩, p2, a2, y2⟩, z⟩, hq⟩ : ∃ r, parseO s = r := ⟨_, rfl⟩
    rw [hq] at c1 c2
    unfold cmV cmC at c1 c2
    obtain ⟨N1, hN1⟩ : ∃ N, (numV s most).getD 0 = N := ⟨_, rfl⟩
    obtain ⟨N2, hN2⟩ : ∃ N, (protoV s).getD 0 = N := ⟨_, rfl⟩
    obtain ⟨B1, hB1⟩ : ∃ B, (numV s most).isSome = B := ⟨_, rfl⟩
    obtain ⟨B2, hB2⟩ : ∃ B, (protoV s).isSome = B := ⟨_, rfl⟩
    rw [hN1, hB1] at c3 c4
    rw [hN2, hB2] at c5 c6
    have C1 := Lib.hid c1
    have C2 := Lib.hid c2
    have C3 := Lib.hid c3
    have C4 := Lib.hid c4
    have C5 := Lib.hid c5
    have C6 := Lib.hid c6
    clear c1 c2 c3 c4 c5 c6 hq hN1 hN2 hB1 hB2 htab h300
    go_enter Tryd.func5, Tryd.ntmps5
    go_upto_region 9 with (first
      | (go_at_call 15; refine (C1.out _).mono ?_; rintro e w1 ⟨rfl, b1⟩; have B1' := Lib.hid b1; have K1 := Lib.hid (Blk.new w1 37 #[.int .i64 v, .int .i64 n, .int .i64 p, .int .i64 a, .int .i64 y, .int .i64 p2, .int .i64 a2, .int .i64 y2]); have L1 := Lib.hid (b1.alloc (o := .cells #[.int .i64 v, .int .i64 n, .int .i64 p, .int .i64 a, .int .i64 y, .int .i64 p2, .int .i64 a2, .int .i64 y2] 37) b1.size); clear b1)
      | (go_at_call 16; refine (C2.out _).mono ?_; rintro e w2 ⟨rfl, b2⟩; have K2 := Lib.hid ((K1.out.on b2).alloc (.cells #[.int .i64 v, .int .i64 n, .int .i64 p, .int .i64 a, .int .i64 y, .int .i64 p2, .int .i64 a2, .int .i64 y2] 40)); have J2 := Lib.hid (Blk.new w2 40 #[.int .i64 v, .int .i64 n, .int .i64 p, .int .i64 a, .int .i64 y, .int .i64 p2, .int .i64 a2, .int .i64 y2]); have l2 := L1.out.trans (b2.mono L1.out.size); have L2 := Lib.hid (l2.alloc (o := .cells #[.int .i64 v, .int .i64 n, .int .i64 p, .int .i64 a, .int .i64 y, .int .i64 p2, .int .i64 a2, .int .i64 y2] 40) l2.size); clear b2 l2)
      | (go_at_call 17; refine (C3.out _).mono ?_; rintro e w3 ⟨rfl, b3⟩; have K3 := Lib.hid (K2.out.on b3); have J3 := Lib.hid (J2.out.on b3); have L3 := Lib.hid (L2.out.trans (b3.mono L2.out.size)); clear b3)
      | (go_at_call 18; refine (C4.out _).mono ?_; rintro e w4 ⟨rfl, rfl⟩)
      | (go_at_call 19; refine (C5.out _).mono ?_; rintro e w5 ⟨rfl, b5⟩; have K5 := Lib.hid (K3.out.on b5); have J5 := Lib.hid (J3.out.on b5); have L5 := Lib.hid (L3.out.trans (b5.mono L3.out.size)); clear b5)
      | (go_at_call 20; refine (C6.out _).mono ?_; rintro e w6 ⟨rfl, rfl⟩))
    have k0 := K5.out.cell 0
    have k1 := K5.out.cell 1
    have k2 := K5.out.cell 2
    have k3 := K5.out.cell 3
    have k4 := K5.out.cell 4
    have k5 := K5.out.cell 5
    have k6 := K5.out.cell 6
    have k7 := K5.out.cell 7
    have j0 := J5.out.cell 0
    have j1 := J5.out.cell 1
    have j2 := J5.out.cell 2
    have j3 := J5.out.cell 3
    have j4 := J5.out.cell 4
    have j5 := J5.out.cell 5
    have j6 := J5.out.cell 6
    have j7 := J5.out.cell 7
    simp only [List.getElem?_toArray, List.getElem?_cons_zero, List.getElem?_cons_succ] at k0 k1 k2 k3 k4 k5 k6 k7 j0 j1 j2 j3 j4 j5 j6 j7
    have d0 := fun p : After w5 => p.read k0
    have d1 := fun p : After w5 => p.read k1
    have d2 := fun p : After w5 => p.read k2
    have d3 := fun p : After w5 => p.read k3
    have d4 := fun p : After w5 => p.read k4
    have d5 := fun p : After w5 => p.read k5
    have d6 := fun p : After w5 => p.read k6
    have d7 := fun p : After w5 => p.read k7
    have e0 := fun p : After w5 => p.read j0
    have e1 := fun p : After w5 => p.read j1
    have e2 := fun p : After w5 => p.read j2
    have e3 := fun p : After w5 => p.read j3
    have e4 := fun p : After w5 => p.read j4
    have e5 := fun p : After w5 => p.read j5
    have e6 := fun p : After w5 => p.read j6
    have e7 := fun p : After w5 => p.read j7
    have HT5 := Lib.hid (tab_below HT.out L5.out)
    clear k0 k1 k2 k3 k4 k5 k6 k7 j0 j1 j2 j3 j4 j5 j6 j7
    refine wp_after (by kernel_rfl) (by kernel_rfl) ?_
    repeat (go_big_quiet_step ((first
      | (go_at_call 21; exact calls_after (own_any v n p a y p2 a2 y2 _))
      | (go_at_call 14; exact calls_after (cawake_any _ (tab_below HT5.out (After.below _)))))))
    refine wpQuiet_nil ?_
    intro w' hw'
    obtain ⟨q, rfl⟩ := hw'
    go_wp2
    go_ret
    exact ⟨rfl, L5.out.trans (q.below.mono L5.out.size)⟩

set_option maxRecDepth 100000 in
set_option maxHeartbeats 8000000 in
theorem cprints_any (v n p a y p2 a2 y2 : Int) (h1 : IntKind.i64.has n) (h4 : IntKind.i64.has y) (h8 : IntKind.i64.has y2) (w : World) (htab : TabW w) : Calls Tryd.prog 6 #[.agg #[.int .i64 v, .int .i64 n, .int .i64 p, .int .i64 a, .int .i64 y, .int .i64 p2, .int .i64 a2, .int .i64 y2]] w fun r w' => r = .returned (.bool true) ∧ Below w.heap.size w w' := by
  have hb := (Below.refl w.heap.size w).alloc (Nat.le_refl _) (.cells #[.int .i64 v, .int .i64 n, .int .i64 p, .int .i64 a, .int .i64 y, .int .i64 p2, .int .i64 a2, .int .i64 y2] 37)
  have bk := Blk.new w 37 #[.int .i64 v, .int .i64 n, .int .i64 p, .int .i64 a, .int .i64 y, .int .i64 p2, .int .i64 a2, .int .i64 y2]
  have c1 := fun W ht => cprint_any v n p a y p2 a2 y2 h1 h4 h8 W ht
  have c2 := fun W => rprint_any v n p a y p2 a2 y2 (i64_le h1).2 (i64_le h4).2 (i64_le h8).2 W
  rw [print_law] at c1
  obtain ⟨⟨T, z⟩, hT⟩ : ∃ r, printR (v, (n, p, a, y), p2, a2, y2) = r := ⟨_, rfl⟩
  rw [hT] at c1 c2
  unfold prV at c1 c2
  have HT := Lib.hid htab
  have HB := Lib.hid hb
  have BK := Lib.hid bk
  have C1 := Lib.hid c1
  have C2 := Lib.hid c2
  clear hb bk c1 c2 hT htab
  go_enter Tryd.func6, Tryd.ntmps6
  go_upto_region 2 with (go_at_call 22; refine (C1.out _ (tab_below HT.out HB.out)).mono ?_; rintro e w1 ⟨rfl, b1⟩; have B1 := Lib.hid (BK.out.on b1); have L1 := Lib.hid (HB.out.trans (b1.mono HB.out.size)); clear b1)
  have k0 := B1.out.cell 0
  have k1 := B1.out.cell 1
  have k2 := B1.out.cell 2
  have k3 := B1.out.cell 3
  have k4 := B1.out.cell 4
  have k5 := B1.out.cell 5
  have k6 := B1.out.cell 6
  have k7 := B1.out.cell 7
  simp only [List.getElem?_toArray, List.getElem?_cons_zero, List.getElem?_cons_succ] at k0 k1 k2 k3 k4 k5 k6 k7
  go_wp2_with (first
    | (go_at_call 21; refine (own_any v n p a y p2 a2 y2 _).mono ?_; rintro e w2 ⟨rfl, b2⟩; have L2 := Lib.hid (L1.out.trans (b2.mono L1.out.size)); clear b2)
    | (go_at_call 23; refine (C2.out _).mono ?_; rintro e w3 ⟨rfl, b3⟩; have L3 := Lib.hid (L2.out.trans (b3.mono L2.out.size)); clear b3)
    | (go_at_call 14; refine (cawake_any _ (tab_below HT.out L3.out)).mono ?_; rintro e w4 ⟨rfl, b4⟩; have L4 := Lib.hid (L3.out.trans (b4.mono L3.out.size)); clear b4))
  go_ret
  exact ⟨rfl, L4.out⟩
end Go.Proofs.YtkbbkddepcjoaaaDoor
