/-
  cmd: CmdBack walked. Printed by wip/gen/cmdV.py.
-/
import Derived.Test.YtkbbkddepcjoaaaDoorCmdU
namespace Go.Proofs.YtkbbkddepcjoaaaDoor
open Go.RowKit Go.Great

theorem parse_err {s : List UInt8} {c : Cm} {z : Int} (h : parseO s = (c, z)) (hz : z ≠ 0) : c = zeroC := by
  unfold parseO at h
  split at h
  · injection h with h _; exact h.symm
  · cases hp : parseC (piecesB [] s) with
    | none => rw [hp] at h; injection h with h _; exact h.symm
    | some c' => rw [hp] at h; injection h with _ h; exact absurd h.symm hz
theorem print_len {c : Cm} {T : List UInt8} {z : Int} (h1 : IntKind.i64.has c.2.1.1) (h4 : IntKind.i64.has c.2.1.2.2.2) (h8 : IntKind.i64.has c.2.2.2.2) (h : printT c = (T, z)) : T.length ≤ 200 := by
  unfold printT at h
  split at h
  · injection h with h _
    rw [← h]
    exact textC_len c h1 h4 h8
  · injection h with h _
    rw [← h]
    decide

set_option maxRecDepth 100000 in
set_option maxHeartbeats 8000000 in
theorem cback_any (v n p a y p2 a2 y2 : Int) (h1 : IntKind.i64.has n) (h4 : IntKind.i64.has y) (h8 : IntKind.i64.has y2) (s : List UInt8) (w : World) (htab : TabW w) : Calls Tryd.prog 7 #[.agg #[.int .i64 v, .int .i64 n, .int .i64 p, .int .i64 a, .int .i64 y, .int .i64 p2, .int .i64 a2, .int .i64 y2], .string (bs s)] w fun r w' => r = .returned (.bool true) ∧ Below w.heap.size w w' := by
  have hsz : (bs s).size = s.length := rfl
  have hb := (Below.refl w.heap.size w).alloc (Nat.le_refl _) (.cells #[.int .i64 v, .int .i64 n, .int .i64 p, .int .i64 a, .int .i64 y, .int .i64 p2, .int .i64 a2, .int .i64 y2] 37)
  have bk := Blk.new w 37 #[.int .i64 v, .int .i64 n, .int .i64 p, .int .i64 a, .int .i64 y, .int .i64 p2, .int .i64 a2, .int .i64 y2]
  have c1 := fun W ht => cprint_any v n p a y p2 a2 y2 h1 h4 h8 W ht
  obtain ⟨⟨T, z⟩, hT⟩ : ∃ r, printT (v, (n, p, a, y), p2, a2, y2) = r := ⟨_, rfl⟩
  have hl := print_len h1 h4 h8 hT
  have c2 := fun W => cparse_any T (by omega) W
  have hpp : z = 0 → parseO T = ((v, (n, p, a, y), p2, a2, y2), 0) := fun hz => by subst hz; exact print_parse hT
  rw [hT] at c1
  unfold prV at c1
  unfold parseOV at c2
  have HT := Lib.hid htab
  have HB := Lib.hid hb
  have BK := Lib.hid bk
  have C1 := Lib.hid c1
  clear hb bk c1 hT htab hl h1 h4 h8
  by_cases h300 : 300 < s.length
  · have hd : decide ((300 : Int) < (s.length : Int)) = true := by simp; omega
    clear h300
    by_cases hz : z = 0
    · have hp := hpp hz
      subst hz
      rw [hp] at c2
      unfold cmV cmC at c2
      have C2 := Lib.hid c2
      clear c2 hp hpp
      go_enter Tryd.func7, Tryd.ntmps7
      go_upto_region 4 with (first
        | (go_at_call 22; refine (C1.out _ (tab_below HT.out HB.out)).mono ?_; rintro e w1 ⟨rfl, b1⟩; have B1 := Lib.hid (BK.out.on b1); have L1 := Lib.hid (HB.out.trans (b1.mono HB.out.size)); clear b1)
        | (go_at_call 15; refine (C2.out _).mono ?_; rintro e w2 ⟨rfl, b2⟩; have B2 := Lib.hid (B1.out.on b2); have L2 := Lib.hid (L1.out.trans (b2.mono L1.out.size)); clear b2))
      have k := B2.out.alloc (.cells #[.int .i64 v, .int .i64 n, .int .i64 p, .int .i64 a, .int .i64 y, .int .i64 p2, .int .i64 a2, .int .i64 y2] 37)
      have i := Blk.new w2 37 #[.int .i64 v, .int .i64 n, .int .i64 p, .int .i64 a, .int .i64 y, .int .i64 p2, .int .i64 a2, .int .i64 y2]
      have l3 := L2.out.alloc (o := .cells #[.int .i64 v, .int .i64 n, .int .i64 p, .int .i64 a, .int .i64 y, .int .i64 p2, .int .i64 a2, .int .i64 y2] 37) L2.out.size
      obtain ⟨V2, hV2⟩ : ∃ V2, w2.heap.size = V2 := ⟨_, rfl⟩
      rw [hV2] at i ⊢
      generalize (w2.alloc (.cells #[.int .i64 v, .int .i64 n, .int .i64 p, .int .i64 a, .int .i64 y, .int .i64 p2, .int .i64 a2, .int .i64 y2] 37)) = w3 at k i l3 ⊢
      have k0 := k.cell 0
      have k1 := k.cell 1
      have k2 := k.cell 2
      have k3 := k.cell 3
      have k4 := k.cell 4
      have k5 := k.cell 5
      have k6 := k.cell 6
      have k7 := k.cell 7
      have i0 := i.cell 0
      have i1 := i.cell 1
      have i2 := i.cell 2
      have i3 := i.cell 3
      have i4 := i.cell 4
      have i5 := i.cell 5
      have i6 := i.cell 6
      have i7 := i.cell 7
      simp only [List.getElem?_toArray, List.getElem?_cons_zero, List.getElem?_cons_succ] at k0 k1 k2 k3 k4 k5 k6 k7 i0 i1 i2 i3 i4 i5 i6 i7
      have L3 := Lib.hid l3
      clear k i l3 hV2
      go_upto_region 6 with fail
      clear k0 k1 k2 k3 k4 k5 k6 k7 i0 i1 i2 i3 i4 i5 i6 i7
      go_wp2_with (go_at_call 14; refine (cawake_any _ (tab_below HT.out L3.out)).mono ?_; rintro e wa ⟨rfl, ba⟩; have LA := Lib.hid (L3.out.trans (ba.mono L3.out.size)); clear ba)
      go_ret
      exact ⟨rfl, LA.out⟩
    · have hzz : (z == 0) = false := by simpa using hz
      clear hz hpp c2
      go_enter Tryd.func7, Tryd.ntmps7
      go_upto_region 6 with (go_at_call 22; refine (C1.out _ (tab_below HT.out HB.out)).mono ?_; rintro e w1 ⟨rfl, b1⟩; have L3 := Lib.hid (HB.out.trans (b1.mono HB.out.size)); clear b1)
      go_wp2_with (go_at_call 14; refine (cawake_any _ (tab_below HT.out L3.out)).mono ?_; rintro e wa ⟨rfl, ba⟩; have LA := Lib.hid (L3.out.trans (ba.mono L3.out.size)); clear ba)
      go_ret
      exact ⟨rfl, LA.out⟩
  · have hd : decide ((300 : Int) < (s.length : Int)) = false := by simp; omega
    have c3 := fun W => cparse_any s (by omega) W
    unfold parseOV at c3
    obtain ⟨⟨⟨v', ⟨n', p', a', y'⟩, p2', a2', y2'⟩, z'⟩, hq⟩ : ∃ r, parseO s = r := ⟨_, rfl⟩
    rw [hq] at c3
    unfold cmV cmC at c3
    by_cases hz' : z' = 0
    · subst hz'
      obtain ⟨g1, g4, g8⟩ := parse_has hq
      have c4 := fun W ht => cprint_any v' n' p' a' y' p2' a2' y2' g1 g4 g8 W ht
      rw [back_law hq] at c4
      unfold prV at c4
      have C3 := Lib.hid c3
      have C4 := Lib.hid c4
      clear c3 c4 hq g1 g4 g8 h300
      by_cases hz : z = 0
      · have hp := hpp hz
        subst hz
        rw [hp] at c2
        unfold cmV cmC at c2
        have C2 := Lib.hid c2
        clear c2 hp hpp
        go_enter Tryd.func7, Tryd.ntmps7
        go_upto_region 4 with (first
          | (go_at_call 22; refine (C1.out _ (tab_below HT.out HB.out)).mono ?_; rintro e w1 ⟨rfl, b1⟩; have B1 := Lib.hid (BK.out.on b1); have L1 := Lib.hid (HB.out.trans (b1.mono HB.out.size)); clear b1)
          | (go_at_call 15; refine (C2.out _).mono ?_; rintro e w2 ⟨rfl, b2⟩; have B2 := Lib.hid (B1.out.on b2); have L2 := Lib.hid (L1.out.trans (b2.mono L1.out.size)); clear b2))
        have k := B2.out.alloc (.cells #[.int .i64 v, .int .i64 n, .int .i64 p, .int .i64 a, .int .i64 y, .int .i64 p2, .int .i64 a2, .int .i64 y2] 37)
        have i := Blk.new w2 37 #[.int .i64 v, .int .i64 n, .int .i64 p, .int .i64 a, .int .i64 y, .int .i64 p2, .int .i64 a2, .int .i64 y2]
        have l3 := L2.out.alloc (o := .cells #[.int .i64 v, .int .i64 n, .int .i64 p, .int .i64 a, .int .i64 y, .int .i64 p2, .int .i64 a2, .int .i64 y2] 37) L2.out.size
        obtain ⟨V2, hV2⟩ : ∃ V2, w2.heap.size = V2 := ⟨_, rfl⟩
        rw [hV2] at i ⊢
        generalize (w2.alloc (.cells #[.int .i64 v, .int .i64 n, .int .i64 p, .int .i64 a, .int .i64 y, .int .i64 p2, .int .i64 a2, .int .i64 y2] 37)) = w3 at k i l3 ⊢
        have k0 := k.cell 0
        have k1 := k.cell 1
        have k2 := k.cell 2
        have k3 := k.cell 3
        have k4 := k.cell 4
        have k5 := k.cell 5
        have k6 := k.cell 6
        have k7 := k.cell 7
        have i0 := i.cell 0
        have i1 := i.cell 1
        have i2 := i.cell 2
        have i3 := i.cell 3
        have i4 := i.cell 4
        have i5 := i.cell 5
        have i6 := i.cell 6
        have i7 := i.cell 7
        simp only [List.getElem?_toArray, List.getElem?_cons_zero, List.getElem?_cons_succ] at k0 k1 k2 k3 k4 k5 k6 k7 i0 i1 i2 i3 i4 i5 i6 i7
        have L3 := Lib.hid l3
        clear k i l3 hV2
        go_upto_region 6 with fail
        clear k0 k1 k2 k3 k4 k5 k6 k7 i0 i1 i2 i3 i4 i5 i6 i7
        go_upto_region 11 with (go_at_call 15; refine (C3.out _).mono ?_; rintro e w5 ⟨rfl, b5⟩; have L5 := Lib.hid (L3.out.trans (b5.mono L3.out.size)); clear b5)
        have j := Blk.new w5 37 #[.int .i64 v', .int .i64 n', .int .i64 p', .int .i64 a', .int .i64 y', .int .i64 p2', .int .i64 a2', .int .i64 y2']
        have l6 := L5.out.alloc (o := .cells #[.int .i64 v', .int .i64 n', .int .i64 p', .int .i64 a', .int .i64 y', .int .i64 p2', .int .i64 a2', .int .i64 y2'] 37) L5.out.size
        obtain ⟨V5, hV5⟩ : ∃ V5, w5.heap.size = V5 := ⟨_, rfl⟩
        rw [hV5] at j ⊢
        generalize (w5.alloc (.cells #[.int .i64 v', .int .i64 n', .int .i64 p', .int .i64 a', .int .i64 y', .int .i64 p2', .int .i64 a2', .int .i64 y2'] 37)) = w6 at j l6 ⊢
        have j0 := j.cell 0
        have j1 := j.cell 1
        have j2 := j.cell 2
        have j3 := j.cell 3
        have j4 := j.cell 4
        have j5 := j.cell 5
        have j6 := j.cell 6
        have j7 := j.cell 7
        simp only [List.getElem?_toArray, List.getElem?_cons_zero, List.getElem?_cons_succ] at j0 j1 j2 j3 j4 j5 j6 j7
        have L6 := Lib.hid l6
        clear j l6 hV5
        go_wp2_with (first
          | (go_at_call 22; refine (C4.out _ (tab_below HT.out L6.out)).mono ?_; rintro e w7 ⟨rfl, b7⟩; have L7 := Lib.hid (L6.out.trans (b7.mono L6.out.size)); clear b7)
          | (go_at_call 14; refine (cawake_any _ (tab_below HT.out L7.out)).mono ?_; rintro e wa ⟨rfl, ba⟩; have LA := Lib.hid (L7.out.trans (ba.mono L7.out.size)); clear ba))
        go_ret
        exact ⟨rfl, LA.out⟩
      · have hzz : (z == 0) = false := by simpa using hz
        clear hz hpp c2
        go_enter Tryd.func7, Tryd.ntmps7
        go_upto_region 6 with (go_at_call 22; refine (C1.out _ (tab_below HT.out HB.out)).mono ?_; rintro e w1 ⟨rfl, b1⟩; have L3 := Lib.hid (HB.out.trans (b1.mono HB.out.size)); clear b1)
        go_upto_region 11 with (go_at_call 15; refine (C3.out _).mono ?_; rintro e w5 ⟨rfl, b5⟩; have L5 := Lib.hid (L3.out.trans (b5.mono L3.out.size)); clear b5)
        have j := Blk.new w5 37 #[.int .i64 v', .int .i64 n', .int .i64 p', .int .i64 a', .int .i64 y', .int .i64 p2', .int .i64 a2', .int .i64 y2']
        have l6 := L5.out.alloc (o := .cells #[.int .i64 v', .int .i64 n', .int .i64 p', .int .i64 a', .int .i64 y', .int .i64 p2', .int .i64 a2', .int .i64 y2'] 37) L5.out.size
        obtain ⟨V5, hV5⟩ : ∃ V5, w5.heap.size = V5 := ⟨_, rfl⟩
        rw [hV5] at j ⊢
        generalize (w5.alloc (.cells #[.int .i64 v', .int .i64 n', .int .i64 p', .int .i64 a', .int .i64 y', .int .i64 p2', .int .i64 a2', .int .i64 y2'] 37)) = w6 at j l6 ⊢
        have j0 := j.cell 0
        have j1 := j.cell 1
        have j2 := j.cell 2
        have j3 := j.cell 3
        have j4 := j.cell 4
        have j5 := j.cell 5
        have j6 := j.cell 6
        have j7 := j.cell 7
        simp only [List.getElem?_toArray, List.getElem?_cons_zero, List.getElem?_cons_succ] at j0 j1 j2 j3 j4 j5 j6 j7
        have L6 := Lib.hid l6
        clear j l6 hV5
        go_wp2_with (first
          | (go_at_call 22; refine (C4.out _ (tab_below HT.out L6.out)).mono ?_; rintro e w7 ⟨rfl, b7⟩; have L7 := Lib.hid (L6.out.trans (b7.mono L6.out.size)); clear b7)
          | (go_at_call 14; refine (cawake_any _ (tab_below HT.out L7.out)).mono ?_; rintro e wa ⟨rfl, ba⟩; have LA := Lib.hid (L7.out.trans (ba.mono L7.out.size)); clear ba))
        go_ret
        exact ⟨rfl, LA.out⟩
    · have hzc := parse_err hq hz'
      unfold zeroC at hzc
      injection hzc with e1 hzc
      injection hzc with e2 e3
      injection e2 with e2a e2
      injection e2 with e2b e2
      injection e2 with e2c e2d
      injection e3 with e3a e3
      injection e3 with e3b e3c
      subst e1 e2a e2b e2c e2d e3a e3b e3c
      have hzn : (z' != 0) = true := by simpa using hz'
      have C3 := Lib.hid c3
      clear c3 hq h300 hz'
      by_cases hz : z = 0
      · have hp := hpp hz
        subst hz
        rw [hp] at c2
        unfold cmV cmC at c2
        have C2 := Lib.hid c2
        clear c2 hp hpp
        go_enter Tryd.func7, Tryd.ntmps7
        go_upto_region 4 with (first
          | (go_at_call 22; refine (C1.out _ (tab_below HT.out HB.out)).mono ?_; rintro e w1 ⟨rfl, b1⟩; have B1 := Lib.hid (BK.out.on b1); have L1 := Lib.hid (HB.out.trans (b1.mono HB.out.size)); clear b1)
          | (go_at_call 15; refine (C2.out _).mono ?_; rintro e w2 ⟨rfl, b2⟩; have B2 := Lib.hid (B1.out.on b2); have L2 := Lib.hid (L1.out.trans (b2.mono L1.out.size)); clear b2))
        have k := B2.out.alloc (.cells #[.int .i64 v, .int .i64 n, .int .i64 p, .int .i64 a, .int .i64 y, .int .i64 p2, .int .i64 a2, .int .i64 y2] 37)
        have i := Blk.new w2 37 #[.int .i64 v, .int .i64 n, .int .i64 p, .int .i64 a, .int .i64 y, .int .i64 p2, .int .i64 a2, .int .i64 y2]
        have l3 := L2.out.alloc (o := .cells #[.int .i64 v, .int .i64 n, .int .i64 p, .int .i64 a, .int .i64 y, .int .i64 p2, .int .i64 a2, .int .i64 y2] 37) L2.out.size
        obtain ⟨V2, hV2⟩ : ∃ V2, w2.heap.size = V2 := ⟨_, rfl⟩
        rw [hV2] at i ⊢
        generalize (w2.alloc (.cells #[.int .i64 v, .int .i64 n, .int .i64 p, .int .i64 a, .int .i64 y, .int .i64 p2, .int .i64 a2, .int .i64 y2] 37)) = w3 at k i l3 ⊢
        have k0 := k.cell 0
        have k1 := k.cell 1
        have k2 := k.cell 2
        have k3 := k.cell 3
        have k4 := k.cell 4
        have k5 := k.cell 5
        have k6 := k.cell 6
        have k7 := k.cell 7
        have i0 := i.cell 0
        have i1 := i.cell 1
        have i2 := i.cell 2
        have i3 := i.cell 3
        have i4 := i.cell 4
        have i5 := i.cell 5
        have i6 := i.cell 6
        have i7 := i.cell 7
        simp only [List.getElem?_toArray, List.getElem?_cons_zero, List.getElem?_cons_succ] at k0 k1 k2 k3 k4 k5 k6 k7 i0 i1 i2 i3 i4 i5 i6 i7
        have L3 := Lib.hid l3
        clear k i l3 hV2
        go_upto_region 6 with fail
        clear k0 k1 k2 k3 k4 k5 k6 k7 i0 i1 i2 i3 i4 i5 i6 i7
        go_upto_region 10 with (go_at_call 15; refine (C3.out _).mono ?_; rintro e w5 ⟨rfl, b5⟩; have L5 := Lib.hid (L3.out.trans (b5.mono L3.out.size)); clear b5)
        have j := Blk.new w5 37 #[.int .i64 0, .int .i64 0, .int .i64 0, .int .i64 0, .int .i64 0, .int .i64 0, .int .i64 0, .int .i64 0]
        have l6 := L5.out.alloc (o := .cells #[.int .i64 0, .int .i64 0, .int .i64 0, .int .i64 0, .int .i64 0, .int .i64 0, .int .i64 0, .int .i64 0] 37) L5.out.size
        obtain ⟨V5, hV5⟩ : ∃ V5, w5.heap.size = V5 := ⟨_, rfl⟩
        rw [hV5] at j ⊢
        generalize (w5.alloc (.cells #[.int .i64 0, .int .i64 0, .int .i64 0, .int .i64 0, .int .i64 0, .int .i64 0, .int .i64 0, .int .i64 0] 37)) = w6 at j l6 ⊢
        have j0 := j.cell 0
        have j1 := j.cell 1
        have j2 := j.cell 2
        have j3 := j.cell 3
        have j4 := j.cell 4
        have j5 := j.cell 5
        have j6 := j.cell 6
        have j7 := j.cell 7
        simp only [List.getElem?_toArray, List.getElem?_cons_zero, List.getElem?_cons_succ] at j0 j1 j2 j3 j4 j5 j6 j7
        have L6 := Lib.hid l6
        clear j l6 hV5
        go_wp2_with (go_at_call 14; refine (cawake_any _ (tab_below HT.out L6.out)).mono ?_; rintro e wa ⟨rfl, ba⟩; have LA := Lib.hid (L6.out.trans (ba.mono L6.out.size)); clear ba)
        go_ret
        exact ⟨rfl, LA.out⟩
      · have hzz : (z == 0) = false := by simpa using hz
        clear hz hpp c2
        go_enter Tryd.func7, Tryd.ntmps7
        go_upto_region 6 with (go_at_call 22; refine (C1.out _ (tab_below HT.out HB.out)).mono ?_; rintro e w1 ⟨rfl, b1⟩; have L3 := Lib.hid (HB.out.trans (b1.mono HB.out.size)); clear b1)
        go_upto_region 10 with (go_at_call 15; refine (C3.out _).mono ?_; rintro e w5 ⟨rfl, b5⟩; have L5 := Lib.hid (L3.out.trans (b5.mono L3.out.size)); clear b5)
        have j := Blk.new w5 37 #[.int .i64 0, .int .i64 0, .int .i64 0, .int .i64 0, .int .i64 0, .int .i64 0, .int .i64 0, .int .i64 0]
        have l6 := L5.out.alloc (o := .cells #[.int .i64 0, .int .i64 0, .int .i64 0, .int .i64 0, .int .i64 0, .int .i64 0, .int .i64 0, .int .i64 0] 37) L5.out.size
        obtain ⟨V5, hV5⟩ : ∃ V5, w5.heap.size = V5 := ⟨_, rfl⟩
        rw [hV5] at j ⊢
        generalize (w5.alloc (.cells #[.int .i64 0, .int .i64 0, .int .i64 0, .int .i64 0, .int .i64 0, .int .i64 0, .int .i64 0, .int .i64 0] 37)) = w6 at j l6 ⊢
        have j0 := j.cell 0
        have j1 := j.cell 1
        have j2 := j.cell 2
        have j3 := j.cell 3
        have j4 := j.cell 4
        have j5 := j.cell 5
        have j6 := j.cell 6
        have j7 := j.cell 7
        simp only [List.getElem?_toArray, List.getElem?_cons_zero, List.getElem?_cons_succ] at j0 j1 j2 j3 j4 j5 j6 j7
        have L6 := Lib.hid l6
        clear j l6 hV5
        go_wp2_with (go_at_call 14; refine (cawake_any _ (tab_below HT.out L6.out)).mono ?_; rintro e wa ⟨rfl, ba⟩; have LA := Lib.hid (L6.out.trans (ba.mono L6.out.size)); clear ba)
        go_ret
        exact ⟨rfl, LA.out⟩
end Go.Proofs.YtkbbkddepcjoaaaDoor
