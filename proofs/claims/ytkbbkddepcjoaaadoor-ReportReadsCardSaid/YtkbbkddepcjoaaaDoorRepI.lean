/-
  report: ReportReads walked. Printed by wip/gen/repI.py.
-/
import Derived.Test.YtkbbkddepcjoaaaDoorRepH
namespace Go.Proofs.YtkbbkddepcjoaaaDoor
open Go.RowKit Go.Great

set_option linter.unusedSimpArgs false in
set_option maxRecDepth 100000 in
set_option maxHeartbeats 8000000 in
theorem reads_any40 (s : List UInt8) (w : World) (htab : TabW w) : Calls Tryd.prog 3 #[.string (bs s)] w fun r w' => r = .returned (.bool true) ∧ Below w.heap.size w w' := by
  have hsz : (bs s).size = s.length := rfl
  have HT := Lib.hid htab
  by_cases h300 : 300 < s.length
  · have hd : decide ((300 : Int) < (s.length : Int)) = true := by simp; omega
    clear htab
    go_enter Tryd.func3, Tryd.ntmps3
    go_wp2_with (go_at_call 10; refine (awake40 _ HT.out).mono ?_; rintro e w1 ⟨rfl, b1⟩)
    go_ret
    exact ⟨rfl, b1⟩
  · have hd : decide ((300 : Int) < (s.length : Int)) = false := by simp; omega
    have c1 := fun W => read_any40 s (by omega) W
    have c2 := fun W => rread_any s (by omega) W
    unfold readOV at c1 c2
    obtain ⟨⟨⟨⟨n, p, a, y⟩, ⟨p2, a2, y2⟩, st⟩, z⟩, hq⟩ : ∃ r, readO s = r := ⟨_, rfl⟩
    rw [hq] at c1 c2
    unfold bdC at c1 c2
    by_cases hz : z = 0
    · subst hz
      obtain ⟨g1, g2, g4, g7⟩ := read_has hq
      have c3 := fun W ht => bind_any n p a y p2 a2 y2 st g1 g2 g4 g7 W ht
      rw [read_law hq] at c3
      have C1 := Lib.hid c1
      have C2 := Lib.hid c2
      have C3 := Lib.hid c3
      clear c1 c2 c3 hq g1 g2 g4 g7 h300 htab
      go_enter Tryd.func3, Tryd.ntmps3
      go_upto_region 5 with (first
        | (go_at_call 11; refine (C1.out _).mono ?_; rintro e w1 ⟨rfl, b1⟩; have K1 := Lib.hid (Blk.new w1 28 #[.int .i64 n, .int .i64 p, .int .i64 a, .int .i64 y, .int .i64 p2, .int .i64 a2, .int .i64 y2, .bool st]); have L1 := Lib.hid (b1.alloc (o := .cells #[.int .i64 n, .int .i64 p, .int .i64 a, .int .i64 y, .int .i64 p2, .int .i64 a2, .int .i64 y2, .bool st] 28) b1.size); clear b1)
        | (go_at_call 12; refine (C2.out _).mono ?_; rintro e w2 ⟨rfl, b2⟩; have B2 := Lib.hid (K1.out.on b2); have L2 := Lib.hid (L1.out.trans (b2.mono L1.out.size)); clear b2))
      have k := B2.out.alloc (.cells #[.int .i64 n, .int .i64 p, .int .i64 a, .int .i64 y, .int .i64 p2, .int .i64 a2, .int .i64 y2, .bool st] 28)
      have i := Blk.new w2 28 #[.int .i64 n, .int .i64 p, .int .i64 a, .int .i64 y, .int .i64 p2, .int .i64 a2, .int .i64 y2, .bool st]
      have l3 := L2.out.alloc (o := .cells #[.int .i64 n, .int .i64 p, .int .i64 a, .int .i64 y, .int .i64 p2, .int .i64 a2, .int .i64 y2, .bool st] 28) L2.out.size
      obtain ⟨V2, hV2⟩ : ∃ V2, w2.heap.size = V2 := ⟨_, rfl⟩
      rw [hV2] at i ⊢
      generalize (w2.alloc (.cells #[.int .i64 n, .int .i64 p, .int .i64 a, .int .i64 y, .int .i64 p2, .int .i64 a2, .int .i64 y2, .bool st] 28)) = w3 at k i l3 ⊢
      have k0 := k.cell 0
      have k1 := k.cell 1
      have k2 := k.cell 2
      have k3 := k.cell 3
      have k4 := k.cell 4
      have k5 := k.cell 5
      have k6 := k.cell 6
      have k7 := k.cell 7
      have i0 := i.cell 0
      have i1 := i.cell 1
      have i2 := i.cell 2
      have i3 := i.cell 3
      have i4 := i.cell 4
      have i5 := i.cell 5
      have i6 := i.cell 6
      have i7 := i.cell 7
      simp only [List.getElem?_toArray, List.getElem?_cons_zero, List.getElem?_cons_succ] at k0 k1 k2 k3 k4 k5 k6 k7 i0 i1 i2 i3 i4 i5 i6 i7
      have L3 := Lib.hid l3
      clear k i l3 hV2
      go_wp2_with (first
        | (go_at_call 13; refine (C3.out _ (tab_below HT.out L3.out)).mono ?_; rintro e w4 ⟨rfl, b4⟩; have L4 := Lib.hid (L3.out.trans (b4.mono L3.out.size)); clear b4)
        | (go_at_call 10; refine (awake40 _ (tab_below HT.out L4.out)).mono ?_; rintro e wa ⟨rfl, ba⟩; have LA := Lib.hid (L4.out.trans (ba.mono L4.out.size)); clear ba))
      go_ret
      exact ⟨rfl, LA.out⟩
    · have hzn : (z != 0) = true := by simpa using hz
      have C1 := Lib.hid c1
      have C2 := Lib.hid c2
      clear c1 c2 hq hz h300 htab
      go_enter Tryd.func3, Tryd.ntmps3
      go_upto_region 5 with (first
        | (go_at_call 11; refine (C1.out _).mono ?_; rintro e w1 ⟨rfl, b1⟩; have K1 := Lib.hid (Blk.new w1 28 #[.int .i64 n, .int .i64 p, .int .i64 a, .int .i64 y, .int .i64 p2, .int .i64 a2, .int .i64 y2, .bool st]); have L1 := Lib.hid (b1.alloc (o := .cells #[.int .i64 n, .int .i64 p, .int .i64 a, .int .i64 y, .int .i64 p2, .int .i64 a2, .int .i64 y2, .bool st] 28) b1.size); clear b1)
        | (go_at_call 12; refine (C2.out _).mono ?_; rintro e w2 ⟨rfl, b2⟩; have B2 := Lib.hid (K1.out.on b2); have L2 := Lib.hid (L1.out.trans (b2.mono L1.out.size)); clear b2))
      have k := B2.out.alloc (.cells #[.int .i64 n, .int .i64 p, .int .i64 a, .int .i64 y, .int .i64 p2, .int .i64 a2, .int .i64 y2, .bool st] 28)
      have i := Blk.new w2 28 #[.int .i64 n, .int .i64 p, .int .i64 a, .int .i64 y, .int .i64 p2, .int .i64 a2, .int .i64 y2, .bool st]
      have l3 := L2.out.alloc (o := .cells #[.int .i64 n, .int .i64 p, .int .i64 a, .int .i64 y, .int .i64 p2, .int .i64 a2, .int .i64 y2, .bool st] 28) L2.out.size
      obtain ⟨V2, hV2⟩ : ∃ V2, w2.heap.size = V2 := ⟨_, rfl⟩
      rw [hV2] at i ⊢
      generalize (w2.alloc (.cells #[.int .i64 n, .int .i64 p, .int .i64 a, .int .i64 y, .int .i64 p2, .int .i64 a2, .int .i64 y2, .bool st] 28)) = w3 at k i l3 ⊢
      have k0 := k.cell 0
      have k1 := k.cell 1
      have k2 := k.cell 2
      have k3 := k.cell 3
      have k4 := k.cell 4
      have k5 := k.cell 5
      have k6 := k.cell 6
      have k7 := k.cell 7
      have i0 := i.cell 0
      have i1 := i.cell 1
      have i2 := i.cell 2
      have i3 := i.cell 3
      have i4 := i.cell 4
      have i5 := i.cell 5
      have i6 := i.cell 6
      have i7 := i.cell 7
      simp only [List.getElem?_toArray, List.getElem?_cons_zero, List.getElem?_cons_succ] at k0 k1 k2 k3 k4 k5 k6 k7 i0 i1 i2 i3 i4 i5 i6 i7
      have L3 := Lib.hid l3
      clear k i l3 hV2
      go_wp2_with (go_at_call 10; refine (awake40 _ (tab_below HT.out L3.out)).mono ?_; rintro e wa ⟨rfl, ba⟩; have LA := Lib.hid (L3.out.trans (ba.mono L3.out.size)); clear ba)
      go_ret
      exact ⟨rfl, LA.out⟩
theorem reads_arg (a : ByteArray) (w : World) (htab : TabW w) : Calls Tryd.prog 3 #[.string a] w fun r w' => r = .returned (.bool true) ∧ Below w.heap.size w w' := by
  have h := reads_any40 a.data.toList w htab
  rwa [bs_of] at h
end Go.Proofs.YtkbbkddepcjoaaaDoor
