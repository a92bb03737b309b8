/-
  report: ReportBack walked. Printed by wip/gen/repI.py.
-/
import Derived.Test.YtkbbkddepcjoaaaDoorRepH
namespace Go.Proofs.YtkbbkddepcjoaaaDoor
open Go.RowKit Go.Great

theorem read_bind (n p a y a2 y2 : Int) (st : Bool) (hp : p = 1 ∨ p = 6 ∨ p = 17) (hl : (bindT ((n, p, a, y), (p, a2, y2), st)).length ≤ 168) : readO (bindT ((n, p, a, y), (p, a2, y2), st)) = if mayB n a y a2 y2 then (((n, p, a, y), (p, a2, y2), st), 0) else (zeroB, 13) := by
  have h := parseBd_back n p a y a2 y2 st hp
  by_cases hm : mayB n a y a2 y2 = true
  · rw [if_pos hm] at h ⊢
    exact readO_some (by omega) (by rw [bindT_pieces]; exact h)
  · rw [if_neg hm] at h ⊢
    exact readO_none (by omega) (by rw [bindT_pieces]; exact h)

/-- The state ahead of the third region: the binding with its protocols. -/
def BackW (w W : World) (b : Nat) (cs : Array Value) : Prop := Blk W b 28 cs ∧ Below w.heap.size w W ∧ b = w.heap.size

set_option linter.unusedSimpArgs false in
set_option maxRecDepth 100000 in
set_option maxHeartbeats 16000000 in
theorem rback_one (n q a y q2 a2 y2 : Int) (st : Bool) (g1 : IntKind.i64.has n) (g4 : IntKind.i64.has y) (g7 : IntKind.i64.has y2) (r : Int) (m : Nat) (hm : r.tmod 3 = (m : Int)) (hm3 : m < 3) (p : Int) (hp : (m = 0 ∧ p = 1) ∨ (m = 1 ∧ p = 6) ∨ (m = 2 ∧ p = 17)) (w : World) (htab : TabW w) : Calls Tryd.prog 4 #[.agg #[.int .i64 n, .int .i64 q, .int .i64 a, .int .i64 y, .int .i64 q2, .int .i64 a2, .int .i64 y2, .bool st], .int .u8 r] w fun e w' => e = .returned (.bool true) ∧ Below w.heap.size w w' := by
  have hp' : p = 1 ∨ p = 6 ∨ p = 17 := by omega
  have gp : IntKind.i64.has p := i64_of (by omega) (by omega)
  have c1 := fun W ht => bind_any n p a y p a2 y2 st g1 gp g4 g7 W ht
  have hl := bindT_len n p a y p a2 y2 st g1 gp g4 g7
  have c2 := fun W => read_any40 (bindT ((n, p, a, y), (p, a2, y2), st)) (by omega) W
  have e2 := read_bind n p a y a2 y2 st hp' hl
  unfold readOV at c2
  rw [e2] at c2
  have ht : (#[.int .i64 1, .int .i64 6, .int .i64 17] : Array Value)[m]? = some (.int .i64 p) := by rcases hp with ⟨rfl, rfl⟩ | ⟨rfl, rfl⟩ | ⟨rfl, rfl⟩ <;> rfl
  have hcell := fun W : World => ((Blk.new W 3 #[.int .i64 1, .int .i64 6, .int .i64 17]).cell m).trans ht
  obtain ⟨T, hT⟩ : ∃ T, bindT ((n, p, a, y), (p, a2, y2), st) = T := ⟨_, rfl⟩
  rw [hT] at c1 c2
  have HT := Lib.hid htab
  have C1 := Lib.hid c1
  have hb := (Below.refl w.heap.size w).alloc (Nat.le_refl _) (.cells #[.int .i64 n, .int .i64 q, .int .i64 a, .int .i64 y, .int .i64 q2, .int .i64 a2, .int .i64 y2, .bool st] 28)
  have bk := Blk.new w 28 #[.int .i64 n, .int .i64 q, .int .i64 a, .int .i64 y, .int .i64 q2, .int .i64 a2, .int .i64 y2, .bool st]
  have hvs := Nat.le_refl w.heap.size
  clear c1 e2 hT htab g1 g4 g7 gp hp' hl ht hp
  go_enter Tryd.func4, Tryd.ntmps4
  go_upto_region 1 with fail
  obtain ⟨V, hV⟩ : ∃ V, w.heap.size = V := ⟨_, rfl⟩
  rw [hV] at bk hvs ⊢
  generalize (w.alloc (.cells #[.int .i64 n, .int .i64 q, .int .i64 a, .int .i64 y, .int .i64 q2, .int .i64 a2, .int .i64 y2, .bool st] 28)) = w0 at bk hb ⊢
  have hc0 := hcell w0
  have vlt := bk.lt
  have bk3 := ((bk.set_ 1 (.int .i64 p)).set_ 4 (.int .i64 p)).alloc (.cells #[.int .i64 1, .int .i64 6, .int .i64 17] 3)
  have hl3 := ((hb.setCell (p := ⟨V, 1, none⟩) (by show w.heap.size ≤ V; omega) (.int .i64 p)).setCell (p := ⟨V, 4, none⟩) (by show w.heap.size ≤ V; omega) (.int .i64 p)).alloc (o := .cells #[.int .i64 1, .int .i64 6, .int .i64 17] 3) (by have := hb.size; simp; omega)
  have f1 := bk.cell 1
  have f4 := bk.cell 4
  have z1 := bk.frozen 1
  have z4 := bk.frozen 4
  simp only [List.getElem?_toArray, List.getElem?_cons_zero, List.getElem?_cons_succ] at f1 f4
  go_upto_region 3 with fail
  generalize (((w0.setCell ⟨V, 1, none⟩ (.int .i64 p)).setCell ⟨V, 4, none⟩ (.int .i64 p)).alloc (.cells #[.int .i64 1, .int .i64 6, .int .i64 17] 3)) = wA at bk3 hl3 ⊢
  have bk4 : Blk wA V 28 #[.int .i64 n, .int .i64 p, .int .i64 a, .int .i64 y, .int .i64 p, .int .i64 a2, .int .i64 y2, .bool st] := bk3
  have g := fun k => bk4.cell k
  have b0 := g 0
  have b1 := g 1
  have b2 := g 2
  have b3 := g 3
  have b4 := g 4
  have b5 := g 5
  have b6 := g 6
  have b7 := g 7
  simp only [List.getElem?_toArray, List.getElem?_cons_zero, List.getElem?_cons_succ] at b0 b1 b2 b3 b4 b5 b6 b7
  have BK := Lib.hid bk4
  have HL := Lib.hid hl3
  clear bk bk3 bk4 hl3 hb hc0 f1 f4 z1 z4 g hcell hvs vlt hV
  by_cases k0 : 0 ≤ n
  · have d0 : decide (0 ≤ n) = true := decide_eq_true k0
    by_cases k1 : n < 64
    · have d1 : decide (n < 64) = true := decide_eq_true k1
      by_cases k2 : 0 ≤ a
      · have d2 : decide (0 ≤ a) = true := decide_eq_true k2
        by_cases k3 : a < 4294967296
        · have d3 : decide (a < 4294967296) = true := decide_eq_true k3
          by_cases k4 : 0 ≤ a2
          · have d4 : decide (0 ≤ a2) = true := decide_eq_true k4
            by_cases k5 : a2 < 4294967296
            · have d5 : decide (a2 < 4294967296) = true := decide_eq_true k5
              by_cases k6 : 0 ≤ y
              · have d6 : decide (0 ≤ y) = true := decide_eq_true k6
                by_cases k7 : y ≤ 65535
                · have d7 : decide (y ≤ 65535) = true := decide_eq_true k7
                  by_cases k8 : 0 ≤ y2
                  · have d8 : decide (0 ≤ y2) = true := decide_eq_true k8
                    by_cases k9 : y2 ≤ 65535
                    · have d9 : decide (y2 ≤ 65535) = true := decide_eq_true k9
                      have hm : mayB n a y a2 y2 = true := by unfold mayB; exact decide_eq_true (by omega)
                      rw [if_pos hm] at c2
                      have c3 : ∀ W, Calls Tryd.prog 11 #[.string (bs T)] W fun e w' => e = .returned (.tuple #[.agg #[.int .i64 n, .int .i64 p, .int .i64 a, .int .i64 y, .int .i64 p, .int .i64 a2, .int .i64 y2, .bool st], .int .i64 0]) ∧ Below W.heap.size W w' := c2
                      have C2 := Lib.hid c3
                      clear c2 c3 hm
                      go_upto_region 4 with (first
                        | (go_at_call 13; refine (C1.out _ (tab_below HT.out HL.out)).mono ?_; rintro e w1 ⟨rfl, b1⟩; have B1 := Lib.hid (BK.out.on b1); have L1 := Lib.hid (HL.out.trans (b1.mono HL.out.size)); clear b1)
                        | (go_at_call 11; refine (C2.out _).mono ?_; rintro e w2 ⟨rfl, b2⟩; have B2 := Lib.hid (B1.out.on b2); have L2 := Lib.hid (L1.out.trans (b2.mono L1.out.size)); clear b2))
                      have k := B2.out.alloc (.cells #[.int .i64 n, .int .i64 p, .int .i64 a, .int .i64 y, .int .i64 p, .int .i64 a2, .int .i64 y2, .bool st] 28)
                      have i := Blk.new w2 28 #[.int .i64 n, .int .i64 p, .int .i64 a, .int .i64 y, .int .i64 p, .int .i64 a2, .int .i64 y2, .bool st]
                      have l3 := L2.out.alloc (o := .cells #[.int .i64 n, .int .i64 p, .int .i64 a, .int .i64 y, .int .i64 p, .int .i64 a2, .int .i64 y2, .bool st] 28) L2.out.size
                      obtain ⟨V2, hV2⟩ : ∃ V2, w2.heap.size = V2 := ⟨_, rfl⟩
                      rw [hV2] at i ⊢
                      generalize (w2.alloc (.cells #[.int .i64 n, .int .i64 p, .int .i64 a, .int .i64 y, .int .i64 p, .int .i64 a2, .int .i64 y2, .bool st] 28)) = w3 at k i l3 ⊢
                      have m0 := k.cell 0
                      have m1 := k.cell 1
                      have m2 := k.cell 2
                      have m3 := k.cell 3
                      have m4 := k.cell 4
                      have m5 := k.cell 5
                      have m6 := k.cell 6
                      have m7 := k.cell 7
                      have i0 := i.cell 0
                      have i1 := i.cell 1
                      have i2 := i.cell 2
                      have i3 := i.cell 3
                      have i4 := i.cell 4
                      have i5 := i.cell 5
                      have i6 := i.cell 6
                      have i7 := i.cell 7
                      simp only [List.getElem?_toArray, List.getElem?_cons_zero, List.getElem?_cons_succ] at m0 m1 m2 m3 m4 m5 m6 m7 i0 i1 i2 i3 i4 i5 i6 i7
                      have L3 := Lib.hid l3
                      clear k i l3 hV2
                      go_wp2_with (go_at_call 10; refine (awake40 _ (tab_below HT.out L3.out)).mono ?_; rintro e wa ⟨rfl, ba⟩; have LA := Lib.hid (L3.out.trans (ba.mono L3.out.size)); clear ba)
                      all_goals (go_ret; exact ⟨rfl, LA.out⟩)
                    · have d9 : decide (y2 ≤ 65535) = false := decide_eq_false k9
                      have hm : mayB n a y a2 y2 = false := by unfold mayB; exact decide_eq_false (by omega)
                      rw [if_neg (by rw [hm]; exact Bool.false_ne_true)] at c2
                      have c3 : ∀ W, Calls Tryd.prog 11 #[.string (bs T)] W fun e w' => e = .returned (.tuple #[.agg #[.int .i64 0, .int .i64 0, .int .i64 0, .int .i64 0, .int .i64 0, .int .i64 0, .int .i64 0, .bool false], .int .i64 13]) ∧ Below W.heap.size W w' := c2
                      have C2 := Lib.hid c3
                      clear c2 c3 hm
                      go_upto_region 4 with (first
                        | (go_at_call 13; refine (C1.out _ (tab_below HT.out HL.out)).mono ?_; rintro e w1 ⟨rfl, b1⟩; have B1 := Lib.hid (BK.out.on b1); have L1 := Lib.hid (HL.out.trans (b1.mono HL.out.size)); clear b1)
                        | (go_at_call 11; refine (C2.out _).mono ?_; rintro e w2 ⟨rfl, b2⟩; have B2 := Lib.hid (B1.out.on b2); have L2 := Lib.hid (L1.out.trans (b2.mono L1.out.size)); clear b2))
                      have k := B2.out.alloc (.cells #[.int .i64 0, .int .i64 0, .int .i64 0, .int .i64 0, .int .i64 0, .int .i64 0, .int .i64 0, .bool false] 28)
                      have i := Blk.new w2 28 #[.int .i64 0, .int .i64 0, .int .i64 0, .int .i64 0, .int .i64 0, .int .i64 0, .int .i64 0, .bool false]
                      have l3 := L2.out.alloc (o := .cells #[.int .i64 0, .int .i64 0, .int .i64 0, .int .i64 0, .int .i64 0, .int .i64 0, .int .i64 0, .bool false] 28) L2.out.size
                      obtain ⟨V2, hV2⟩ : ∃ V2, w2.heap.size = V2 := ⟨_, rfl⟩
                      rw [hV2] at i ⊢
                      generalize (w2.alloc (.cells #[.int .i64 0, .int .i64 0, .int .i64 0, .int .i64 0, .int .i64 0, .int .i64 0, .int .i64 0, .bool false] 28)) = w3 at k i l3 ⊢
                      have m0 := k.cell 0
                      have m1 := k.cell 1
                      have m2 := k.cell 2
                      have m3 := k.cell 3
                      have m4 := k.cell 4
                      have m5 := k.cell 5
                      have m6 := k.cell 6
                      have m7 := k.cell 7
                      have i0 := i.cell 0
                      have i1 := i.cell 1
                      have i2 := i.cell 2
                      have i3 := i.cell 3
                      have i4 := i.cell 4
                      have i5 := i.cell 5
                      have i6 := i.cell 6
                      have i7 := i.cell 7
                      simp only [List.getElem?_toArray, List.getElem?_cons_zero, List.getElem?_cons_succ] at m0 m1 m2 m3 m4 m5 m6 m7 i0 i1 i2 i3 i4 i5 i6 i7
                      have L3 := Lib.hid l3
                      clear k i l3 hV2
                      go_wp2_with (go_at_call 10; refine (awake40 _ (tab_below HT.out L3.out)).mono ?_; rintro e wa ⟨rfl, ba⟩; have LA := Lib.hid (L3.out.trans (ba.mono L3.out.size)); clear ba)
                      all_goals (go_ret; exact ⟨rfl, LA.out⟩)
                  · have d8 : decide (0 ≤ y2) = false := decide_eq_false k8
                    have hm : mayB n a y a2 y2 = false := by unfold mayB; exact decide_eq_false (by omega)
                    rw [if_neg (by rw [hm]; exact Bool.false_ne_true)] at c2
                    have c3 : ∀ W, Calls Tryd.prog 11 #[.string (bs T)] W fun e w' => e = .returned (.tuple #[.agg #[.int .i64 0, .int .i64 0, .int .i64 0, .int .i64 0, .int .i64 0, .int .i64 0, .int .i64 0, .bool false], .int .i64 13]) ∧ Below W.heap.size W w' := c2
                    have C2 := Lib.hid c3
                    clear c2 c3 hm
                    go_upto_region 4 with (first
                      | (go_at_call 13; refine (C1.out _ (tab_below HT.out HL.out)).mono ?_; rintro e w1 ⟨rfl, b1⟩; have B1 := Lib.hid (BK.out.on b1); have L1 := Lib.hid (HL.out.trans (b1.mono HL.out.size)); clear b1)
                      | (go_at_call 11; refine (C2.out _).mono ?_; rintro e w2 ⟨rfl, b2⟩; have B2 := Lib.hid (B1.out.on b2); have L2 := Lib.hid (L1.out.trans (b2.mono L1.out.size)); clear b2))
                    have k := B2.out.alloc (.cells #[.int .i64 0, .int .i64 0, .int .i64 0, .int .i64 0, .int .i64 0, .int .i64 0, .int .i64 0, .bool false] 28)
                    have i := Blk.new w2 28 #[.int .i64 0, .int .i64 0, .int .i64 0, .int .i64 0, .int .i64 0, .int .i64 0, .int .i64 0, .bool false]
                    have l3 := L2.out.alloc (o := .cells #[.int .i64 0, .int .i64 0, .int .i64 0, .int .i64 0, .int .i64 0, .int .i64 0, .int .i64 0, .bool false] 28) L2.out.size
                    obtain ⟨V2, hV2⟩ : ∃ V2, w2.heap.size = V2 := ⟨_, rfl⟩
                    rw [hV2] at i ⊢
                    generalize (w2.alloc (.cells #[.int .i64 0, .int .i64 0, .int .i64 0, .int .i64 0, .int .i64 0, .int .i64 0, .int .i64 0, .bool false] 28)) = w3 at k i l3 ⊢
                    have m0 := k.cell 0
                    have m1 := k.cell 1
                    have m2 := k.cell 2
                    have m3 := k.cell 3
                    have m4 := k.cell 4
                    have m5 := k.cell 5
                    have m6 := k.cell 6
                    have m7 := k.cell 7
                    have i0 := i.cell 0
                    have i1 := i.cell 1
                    have i2 := i.cell 2
                    have i3 := i.cell 3
                    have i4 := i.cell 4
                    have i5 := i.cell 5
                    have i6 := i.cell 6
                    have i7 := i.cell 7
                    simp only [List.getElem?_toArray, List.getElem?_cons_zero, List.getElem?_cons_succ] at m0 m1 m2 m3 m4 m5 m6 m7 i0 i1 i2 i3 i4 i5 i6 i7
                    have L3 := Lib.hid l3
                    clear k i l3 hV2
                    go_wp2_with (go_at_call 10; refine (awake40 _ (tab_below HT.out L3.out)).mono ?_; rintro e wa ⟨rfl, ba⟩; have LA := Lib.hid (L3.out.trans (ba.mono L3.out.size)); clear ba)
                    all_goals (go_ret; exact ⟨rfl, LA.out⟩)
                · have d7 : decide (y ≤ 65535) = false := decide_eq_false k7
                  have hm : mayB n a y a2 y2 = false := by unfold mayB; exact decide_eq_false (by omega)
                  rw [if_neg (by rw [hm]; exact Bool.false_ne_true)] at c2
                  have c3 : ∀ W, Calls Tryd.prog 11 #[.string (bs T)] W fun e w' => e = .returned (.tuple #[.agg #[.int .i64 0, .int .i64 0, .int .i64 0, .int .i64 0, .int .i64 0, .int .i64 0, .int .i64 0, .bool false], .int .i64 13]) ∧ Below W.heap.size W w' := c2
                  have C2 := Lib.hid c3
                  clear c2 c3 hm
                  go_upto_region 4 with (first
                    | (go_at_call 13; refine (C1.out _ (tab_below HT.out HL.out)).mono ?_; rintro e w1 ⟨rfl, b1⟩; have B1 := Lib.hid (BK.out.on b1); have L1 := Lib.hid (HL.out.trans (b1.mono HL.out.size)); clear b1)
                    | (go_at_call 11; refine (C2.out _).mono ?_; rintro e w2 ⟨rfl, b2⟩; have B2 := Lib.hid (B1.out.on b2); have L2 := Lib.hid (L1.out.trans (b2.mono L1.out.size)); clear b2))
                  have k := B2.out.alloc (.cells #[.int .i64 0, .int .i64 0, .int .i64 0, .int .i64 0, .int .i64 0, .int .i64 0, .int .i64 0, .bool false] 28)
                  have i := Blk.new w2 28 #[.int .i64 0, .int .i64 0, .int .i64 0, .int .i64 0, .int .i64 0, .int .i64 0, .int .i64 0, .bool false]
                  have l3 := L2.out.alloc (o := .cells #[.int .i64 0, .int .i64 0, .int .i64 0, .int .i64 0, .int .i64 0, .int .i64 0, .int .i64 0, .bool false] 28) L2.out.size
                  obtain ⟨V2, hV2⟩ : ∃ V2, w2.heap.size = V2 := ⟨_, rfl⟩
                  rw [hV2] at i ⊢
                  generalize (w2.alloc (.cells #[.int .i64 0, .int .i64 0, .int .i64 0, .int .i64 0, .int .i64 0, .int .i64 0, .int .i64 0, .bool false] 28)) = w3 at k i l3 ⊢
                  have m0 := k.cell 0
                  have m1 := k.cell 1
                  have m2 := k.cell 2
                  have m3 := k.cell 3
                  have m4 := k.cell 4
                  have m5 := k.cell 5
                  have m6 := k.cell 6
                  have m7 := k.cell 7
                  have i0 := i.cell 0
                  have i1 := i.cell 1
                  have i2 := i.cell 2
                  have i3 := i.cell 3
                  have i4 := i.cell 4
                  have i5 := i.cell 5
                  have i6 := i.cell 6
                  have i7 := i.cell 7
                  simp only [List.getElem?_toArray, List.getElem?_cons_zero, List.getElem?_cons_succ] at m0 m1 m2 m3 m4 m5 m6 m7 i0 i1 i2 i3 i4 i5 i6 i7
                  have L3 := Lib.hid l3
                  clear k i l3 hV2
                  go_wp2_with (go_at_call 10; refine (awake40 _ (tab_below HT.out L3.out)).mono ?_; rintro e wa ⟨rfl, ba⟩; have LA := Lib.hid (L3.out.trans (ba.mono L3.out.size)); clear ba)
                  all_goals (go_ret; exact ⟨rfl, LA.out⟩)
              · have d6 : decide (0 ≤ y) = false := decide_eq_false k6
                have hm : mayB n a y a2 y2 = false := by unfold mayB; exact decide_eq_false (by omega)
                rw [if_neg (by rw [hm]; exact Bool.false_ne_true)] at c2
                have c3 : ∀ W, Calls Tryd.prog 11 #[.string (bs T)] W fun e w' => e = .returned (.tuple #[.agg #[.int .i64 0, .int .i64 0, .int .i64 0, .int .i64 0, .int .i64 0, .int .i64 0, .int .i64 0, .bool false], .int .i64 13]) ∧ Below W.heap.size W w' := c2
                have C2 := Lib.hid c3
                clear c2 c3 hm
                go_upto_region 4 with (first
                  | (go_at_call 13; refine (C1.out _ (tab_below HT.out HL.out)).mono ?_; rintro e w1 ⟨rfl, b1⟩; have B1 := Lib.hid (BK.out.on b1); have L1 := Lib.hid (HL.out.trans (b1.mono HL.out.size)); clear b1)
                  | (go_at_call 11; refine (C2.out _).mono ?_; rintro e w2 ⟨rfl, b2⟩; have B2 := Lib.hid (B1.out.on b2); have L2 := Lib.hid (L1.out.trans (b2.mono L1.out.size)); clear b2))
                have k := B2.out.alloc (.cells #[.int .i64 0, .int .i64 0, .int .i64 0, .int .i64 0, .int .i64 0, .int .i64 0, .int .i64 0, .bool false] 28)
                have i := Blk.new w2 28 #[.int .i64 0, .int .i64 0, .int .i64 0, .int .i64 0, .int .i64 0, .int .i64 0, .int .i64 0, .bool false]
                have l3 := L2.out.alloc (o := .cells #[.int .i64 0, .int .i64 0, .int .i64 0, .int .i64 0, .int .i64 0, .int .i64 0, .int .i64 0, .bool false] 28) L2.out.size
                obtain ⟨V2, hV2⟩ : ∃ V2, w2.heap.size = V2 := ⟨_, rfl⟩
                rw [hV2] at i ⊢
                generalize (w2.alloc (.cells #[.int .i64 0, .int .i64 0, .int .i64 0, .int .i64 0, .int .i64 0, .int .i64 0, .int .i64 0, .bool false] 28)) = w3 at k i l3 ⊢
                have m0 := k.cell 0
                have m1 := k.cell 1
                have m2 := k.cell 2
                have m3 := k.cell 3
                have m4 := k.cell 4
                have m5 := k.cell 5
                have m6 := k.cell 6
                have m7 := k.cell 7
                have i0 := i.cell 0
                have i1 := i.cell 1
                have i2 := i.cell 2
                have i3 := i.cell 3
                have i4 := i.cell 4
                have i5 := i.cell 5
                have i6 := i.cell 6
                have i7 := i.cell 7
                simp only [List.getElem?_toArray, List.getElem?_cons_zero, List.getElem?_cons_succ] at m0 m1 m2 m3 m4 m5 m6 m7 i0 i1 i2 i3 i4 i5 i6 i7
                have L3 := Lib.hid l3
                clear k i l3 hV2
                go_wp2_with (go_at_call 10; refine (awake40 _ (tab_below HT.out L3.out)).mono ?_; rintro e wa ⟨rfl, ba⟩; have LA := Lib.hid (L3.out.trans (ba.mono L3.out.size)); clear ba)
                all_goals (go_ret; exact ⟨rfl, LA.out⟩)
            · have d5 : decide (a2 < 4294967296) = false := decide_eq_false k5
              have hm : mayB n a y a2 y2 = false := by unfold mayB; exact decide_eq_false (by omega)
              rw [if_neg (by rw [hm]; exact Bool.false_ne_true)] at c2
              have c3 : ∀ W, Calls Tryd.prog 11 #[.string (bs T)] W fun e w' => e = .returned (.tuple #[.agg #[.int .i64 0, .int .i64 0, .int .i64 0, .int .i64 0, .int .i64 0, .int .i64 0, .int .i64 0, .bool false], .int .i64 13]) ∧ Below W.heap.size W w' := c2
              have C2 := Lib.hid c3
              clear c2 c3 hm
              go_upto_region 4 with (first
                | (go_at_call 13; refine (C1.out _ (tab_below HT.out HL.out)).mono ?_; rintro e w1 ⟨rfl, b1⟩; have B1 := Lib.hid (BK.out.on b1); have L1 := Lib.hid (HL.out.trans (b1.mono HL.out.size)); clear b1)
                | (go_at_call 11; refine (C2.out _).mono ?_; rintro e w2 ⟨rfl, b2⟩; have B2 := Lib.hid (B1.out.on b2); have L2 := Lib.hid (L1.out.trans (b2.mono L1.out.size)); clear b2))
              have k := B2.out.alloc (.cells #[.int .i64 0, .int .i64 0, .int .i64 0, .int .i64 0, .int .i64 0, .int .i64 0, .int .i64 0, .bool false] 28)
              have i := Blk.new w2 28 #[.int .i64 0, .int .i64 0, .int .i64 0, .int .i64 0, .int .i64 0, .int .i64 0, .int .i64 0, .bool false]
              have l3 := L2.out.alloc (o := .cells #[.int .i64 0, .int .i64 0, .int .i64 0, .int .i64 0, .int .i64 0, .int .i64 0, .int .i64 0, .bool false] 28) L2.out.size
              obtain ⟨V2, hV2⟩ : ∃ V2, w2.heap.size = V2 := ⟨_, rfl⟩
              rw [hV2] at i ⊢
              generalize (w2.alloc (.cells #[.int .i64 0, .int .i64 0, .int .i64 0, .int .i64 0, .int .i64 0, .int .i64 0, .int .i64 0, .bool false] 28)) = w3 at k i l3 ⊢
              have m0 := k.cell 0
              have m1 := k.cell 1
              have m2 := k.cell 2
              have m3 := k.cell 3
              have m4 := k.cell 4
              have m5 := k.cell 5
              have m6 := k.cell 6
              have m7 := k.cell 7
              have i0 := i.cell 0
              have i1 := i.cell 1
              have i2 := i.cell 2
              have i3 := i.cell 3
              have i4 := i.cell 4
              have i5 := i.cell 5
              have i6 := i.cell 6
              have i7 := i.cell 7
              simp only [List.getElem?_toArray, List.getElem?_cons_zero, List.getElem?_cons_succ] at m0 m1 m2 m3 m4 m5 m6 m7 i0 i1 i2 i3 i4 i5 i6 i7
              have L3 := Lib.hid l3
              clear k i l3 hV2
              go_wp2_with (go_at_call 10; refine (awake40 _ (tab_below HT.out L3.out)).mono ?_; rintro e wa ⟨rfl, ba⟩; have LA := Lib.hid (L3.out.trans (ba.mono L3.out.size)); clear ba)
              all_goals (go_ret; exact ⟨rfl, LA.out⟩)
          · have d4 : decide (0 ≤ a2) = false := decide_eq_false k4
            have hm : mayB n a y a2 y2 = false := by unfold mayB; exact decide_eq_false (by omega)
            rw [if_neg (by rw [hm]; exact Bool.false_ne_true)] at c2
            have c3 : ∀ W, Calls Tryd.prog 11 #[.string (bs T)] W fun e w' => e = .returned (.tuple #[.agg #[.int .i64 0, .int .i64 0, .int .i64 0, .int .i64 0, .int .i64 0, .int .i64 0, .int .i64 0, .bool false], .int .i64 13]) ∧ Below W.heap.size W w' := c2
            have C2 := Lib.hid c3
            clear c2 c3 hm
            go_upto_region 4 with (first
              | (go_at_call 13; refine (C1.out _ (tab_below HT.out HL.out)).mono ?_; rintro e w1 ⟨rfl, b1⟩; have B1 := Lib.hid (BK.out.on b1); have L1 := Lib.hid (HL.out.trans (b1.mono HL.out.size)); clear b1)
              | (go_at_call 11; refine (C2.out _).mono ?_; rintro e w2 ⟨rfl, b2⟩; have B2 := Lib.hid (B1.out.on b2); have L2 := Lib.hid (L1.out.trans (b2.mono L1.out.size)); clear b2))
            have k := B2.out.alloc (.cells #[.int .i64 0, .int .i64 0, .int .i64 0, .int .i64 0, .int .i64 0, .int .i64 0, .int .i64 0, .bool false] 28)
            have i := Blk.new w2 28 #[.int .i64 0, .int .i64 0, .int .i64 0, .int .i64 0, .int .i64 0, .int .i64 0, .int .i64 0, .bool false]
            have l3 := L2.out.alloc (o := .cells #[.int .i64 0, .int .i64 0, .int .i64 0, .int .i64 0, .int .i64 0, .int .i64 0, .int .i64 0, .bool false] 28) L2.out.size
            obtain ⟨V2, hV2⟩ : ∃ V2, w2.heap.size = V2 := ⟨_, rfl⟩
            rw [hV2] at i ⊢
            generalize (w2.alloc (.cells #[.int .i64 0, .int .i64 0, .int .i64 0, .int .i64 0, .int .i64 0, .int .i64 0, .int .i64 0, .bool false] 28)) = w3 at k i l3 ⊢
            have m0 := k.cell 0
            have m1 := k.cell 1
            have m2 := k.cell 2
            have m3 := k.cell 3
            have m4 := k.cell 4
            have m5 := k.cell 5
            have m6 := k.cell 6
            have m7 := k.cell 7
            have i0 := i.cell 0
            have i1 := i.cell 1
            have i2 := i.cell 2
            have i3 := i.cell 3
            have i4 := i.cell 4
            have i5 := i.cell 5
            have i6 := i.cell 6
            have i7 := i.cell 7
            simp only [List.getElem?_toArray, List.getElem?_cons_zero, List.getElem?_cons_succ] at m0 m1 m2 m3 m4 m5 m6 m7 i0 i1 i2 i3 i4 i5 i6 i7
            have L3 := Lib.hid l3
            clear k i l3 hV2
            go_wp2_with (go_at_call 10; refine (awake40 _ (tab_below HT.out L3.out)).mono ?_; rintro e wa ⟨rfl, ba⟩; have LA := Lib.hid (L3.out.trans (ba.mono L3.out.size)); clear ba)
            all_goals (go_ret; exact ⟨rfl, LA.out⟩)
        · have d3 : decide (a < 4294967296) = false := decide_eq_false k3
          have hm : mayB n a y a2 y2 = false := by unfold mayB; exact decide_eq_false (by omega)
          rw [if_neg (by rw [hm]; exact Bool.false_ne_true)] at c2
          have c3 : ∀ W, Calls Tryd.prog 11 #[.string (bs T)] W fun e w' => e = .returned (.tuple #[.agg #[.int .i64 0, .int .i64 0, .int .i64 0, .int .i64 0, .int .i64 0, .int .i64 0, .int .i64 0, .bool false], .int .i64 13]) ∧ Below W.heap.size W w' := c2
          have C2 := Lib.hid c3
          clear c2 c3 hm
          go_upto_region 4 with (first
            | (go_at_call 13; refine (C1.out _ (tab_below HT.out HL.out)).mono ?_; rintro e w1 ⟨rfl, b1⟩; have B1 := Lib.hid (BK.out.on b1); have L1 := Lib.hid (HL.out.trans (b1.mono HL.out.size)); clear b1)
            | (go_at_call 11; refine (C2.out _).mono ?_; rintro e w2 ⟨rfl, b2⟩; have B2 := Lib.hid (B1.out.on b2); have L2 := Lib.hid (L1.out.trans (b2.mono L1.out.size)); clear b2))
          have k := B2.out.alloc (.cells #[.int .i64 0, .int .i64 0, .int .i64 0, .int .i64 0, .int .i64 0, .int .i64 0, .int .i64 0, .bool false] 28)
          have i := Blk.new w2 28 #[.int .i64 0, .int .i64 0, .int .i64 0, .int .i64 0, .int .i64 0, .int .i64 0, .int .i64 0, .bool false]
          have l3 := L2.out.alloc (o := .cells #[.int .i64 0, .int .i64 0, .int .i64 0, .int .i64 0, .int .i64 0, .int .i64 0, .int .i64 0, .bool false] 28) L2.out.size
          obtain ⟨V2, hV2⟩ : ∃ V2, w2.heap.size = V2 := ⟨_, rfl⟩
          rw [hV2] at i ⊢
          generalize (w2.alloc (.cells #[.int .i64 0, .int .i64 0, .int .i64 0, .int .i64 0, .int .i64 0, .int .i64 0, .int .i64 0, .bool false] 28)) = w3 at k i l3 ⊢
          have m0 := k.cell 0
          have m1 := k.cell 1
          have m2 := k.cell 2
          have m3 := k.cell 3
          have m4 := k.cell 4
          have m5 := k.cell 5
          have m6 := k.cell 6
          have m7 := k.cell 7
          have i0 := i.cell 0
          have i1 := i.cell 1
          have i2 := i.cell 2
          have i3 := i.cell 3
          have i4 := i.cell 4
          have i5 := i.cell 5
          have i6 := i.cell 6
          have i7 := i.cell 7
          simp only [List.getElem?_toArray, List.getElem?_cons_zero, List.getElem?_cons_succ] at m0 m1 m2 m3 m4 m5 m6 m7 i0 i1 i2 i3 i4 i5 i6 i7
          have L3 := Lib.hid l3
          clear k i l3 hV2
          go_wp2_with (go_at_call 10; refine (awake40 _ (tab_below HT.out L3.out)).mono ?_; rintro e wa ⟨rfl, ba⟩; have LA := Lib.hid (L3.out.trans (ba.mono L3.out.size)); clear ba)
          all_goals (go_ret; exact ⟨rfl, LA.out⟩)
      · have d2 : decide (0 ≤ a) = false := decide_eq_false k2
        have hm : mayB n a y a2 y2 = false := by unfold mayB; exact decide_eq_false (by omega)
        rw [if_neg (by rw [hm]; exact Bool.false_ne_true)] at c2
        have c3 : ∀ W, Calls Tryd.prog 11 #[.string (bs T)] W fun e w' => e = .returned (.tuple #[.agg #[.int .i64 0, .int .i64 0, .int .i64 0, .int .i64 0, .int .i64 0, .int .i64 0, .int .i64 0, .bool false], .int .i64 13]) ∧ Below W.heap.size W w' := c2
        have C2 := Lib.hid c3
        clear c2 c3 hm
        go_upto_region 4 with (first
          | (go_at_call 13; refine (C1.out _ (tab_below HT.out HL.out)).mono ?_; rintro e w1 ⟨rfl, b1⟩; have B1 := Lib.hid (BK.out.on b1); have L1 := Lib.hid (HL.out.trans (b1.mono HL.out.size)); clear b1)
          | (go_at_call 11; refine (C2.out _).mono ?_; rintro e w2 ⟨rfl, b2⟩; have B2 := Lib.hid (B1.out.on b2); have L2 := Lib.hid (L1.out.trans (b2.mono L1.out.size)); clear b2))
        have k := B2.out.alloc (.cells #[.int .i64 0, .int .i64 0, .int .i64 0, .int .i64 0, .int .i64 0, .int .i64 0, .int .i64 0, .bool false] 28)
        have i := Blk.new w2 28 #[.int .i64 0, .int .i64 0, .int .i64 0, .int .i64 0, .int .i64 0, .int .i64 0, .int .i64 0, .bool false]
        have l3 := L2.out.alloc (o := .cells #[.int .i64 0, .int .i64 0, .int .i64 0, .int .i64 0, .int .i64 0, .int .i64 0, .int .i64 0, .bool false] 28) L2.out.size
        obtain ⟨V2, hV2⟩ : ∃ V2, w2.heap.size = V2 := ⟨_, rfl⟩
        rw [hV2] at i ⊢
        generalize (w2.alloc (.cells #[.int .i64 0, .int .i64 0, .int .i64 0, .int .i64 0, .int .i64 0, .int .i64 0, .int .i64 0, .bool false] 28)) = w3 at k i l3 ⊢
        have m0 := k.cell 0
        have m1 := k.cell 1
        have m2 := k.cell 2
        have m3 := k.cell 3
        have m4 := k.cell 4
        have m5 := k.cell 5
        have m6 := k.cell 6
        have m7 := k.cell 7
        have i0 := i.cell 0
        have i1 := i.cell 1
        have i2 := i.cell 2
        have i3 := i.cell 3
        have i4 := i.cell 4
        have i5 := i.cell 5
        have i6 := i.cell 6
        have i7 := i.cell 7
        simp only [List.getElem?_toArray, List.getElem?_cons_zero, List.getElem?_cons_succ] at m0 m1 m2 m3 m4 m5 m6 m7 i0 i1 i2 i3 i4 i5 i6 i7
        have L3 := Lib.hid l3
        clear k i l3 hV2
        go_wp2_with (go_at_call 10; refine (awake40 _ (tab_below HT.out L3.out)).mono ?_; rintro e wa ⟨rfl, ba⟩; have LA := Lib.hid (L3.out.trans (ba.mono L3.out.size)); clear ba)
        all_goals (go_ret; exact ⟨rfl, LA.out⟩)
    · have d1 : decide (n < 64) = false := decide_eq_false k1
      have hm : mayB n a y a2 y2 = false := by unfold mayB; exact decide_eq_false (by omega)
      rw [if_neg (by rw [hm]; exact Bool.false_ne_true)] at c2
      have c3 : ∀ W, Calls Tryd.prog 11 #[.string (bs T)] W fun e w' => e = .returned (.tuple #[.agg #[.int .i64 0, .int .i64 0, .int .i64 0, .int .i64 0, .int .i64 0, .int .i64 0, .int .i64 0, .bool false], .int .i64 13]) ∧ Below W.heap.size W w' := c2
      have C2 := Lib.hid c3
      clear c2 c3 hm
      go_upto_region 4 with (first
        | (go_at_call 13; refine (C1.out _ (tab_below HT.out HL.out)).mono ?_; rintro e w1 ⟨rfl, b1⟩; have B1 := Lib.hid (BK.out.on b1); have L1 := Lib.hid (HL.out.trans (b1.mono HL.out.size)); clear b1)
        | (go_at_call 11; refine (C2.out _).mono ?_; rintro e w2 ⟨rfl, b2⟩; have B2 := Lib.hid (B1.out.on b2); have L2 := Lib.hid (L1.out.trans (b2.mono L1.out.size)); clear b2))
      have k := B2.out.alloc (.cells #[.int .i64 0, .int .i64 0, .int .i64 0, .int .i64 0, .int .i64 0, .int .i64 0, .int .i64 0, .bool false] 28)
      have i := Blk.new w2 28 #[.int .i64 0, .int .i64 0, .int .i64 0, .int .i64 0, .int .i64 0, .int .i64 0, .int .i64 0, .bool false]
      have l3 := L2.out.alloc (o := .cells #[.int .i64 0, .int .i64 0, .int .i64 0, .int .i64 0, .int .i64 0, .int .i64 0, .int .i64 0, .bool false] 28) L2.out.size
      obtain ⟨V2, hV2⟩ : ∃ V2, w2.heap.size = V2 := ⟨_, rfl⟩
      rw [hV2] at i ⊢
      generalize (w2.alloc (.cells #[.int .i64 0, .int .i64 0, .int .i64 0, .int .i64 0, .int .i64 0, .int .i64 0, .int .i64 0, .bool false] 28)) = w3 at k i l3 ⊢
      have m0 := k.cell 0
      have m1 := k.cell 1
      have m2 := k.cell 2
      have m3 := k.cell 3
      have m4 := k.cell 4
      have m5 := k.cell 5
      have m6 := k.cell 6
      have m7 := k.cell 7
      have i0 := i.cell 0
      have i1 := i.cell 1
      have i2 := i.cell 2
      have i3 := i.cell 3
      have i4 := i.cell 4
      have i5 := i.cell 5
      have i6 := i.cell 6
      have i7 := i.cell 7
      simp only [List.getElem?_toArray, List.getElem?_cons_zero, List.getElem?_cons_succ] at m0 m1 m2 m3 m4 m5 m6 m7 i0 i1 i2 i3 i4 i5 i6 i7
      have L3 := Lib.hid l3
      clear k i l3 hV2
      go_wp2_with (go_at_call 10; refine (awake40 _ (tab_below HT.out L3.out)).mono ?_; rintro e wa ⟨rfl, ba⟩; have LA := Lib.hid (L3.out.trans (ba.mono L3.out.size)); clear ba)
      all_goals (go_ret; exact ⟨rfl, LA.out⟩)
  · have d0 : decide (0 ≤ n) = false := decide_eq_false k0
    have hm : mayB n a y a2 y2 = false := by unfold mayB; exact decide_eq_false (by omega)
    rw [if_neg (by rw [hm]; exact Bool.false_ne_true)] at c2
    have c3 : ∀ W, Calls Tryd.prog 11 #[.string (bs T)] W fun e w' => e = .returned (.tuple #[.agg #[.int .i64 0, .int .i64 0, .int .i64 0, .int .i64 0, .int .i64 0, .int .i64 0, .int .i64 0, .bool false], .int .i64 13]) ∧ Below W.heap.size W w' := c2
    have C2 := Lib.hid c3
    clear c2 c3 hm
    go_upto_region 4 with (first
      | (go_at_call 13; refine (C1.out _ (tab_below HT.out HL.out)).mono ?_; rintro e w1 ⟨rfl, b1⟩; have B1 := Lib.hid (BK.out.on b1); have L1 := Lib.hid (HL.out.trans (b1.mono HL.out.size)); clear b1)
      | (go_at_call 11; refine (C2.out _).mono ?_; rintro e w2 ⟨rfl, b2⟩; have B2 := Lib.hid (B1.out.on b2); have L2 := Lib.hid (L1.out.trans (b2.mono L1.out.size)); clear b2))
    have k := B2.out.alloc (.cells #[.int .i64 0, .int .i64 0, .int .i64 0, .int .i64 0, .int .i64 0, .int .i64 0, .int .i64 0, .bool false] 28)
    have i := Blk.new w2 28 #[.int .i64 0, .int .i64 0, .int .i64 0, .int .i64 0, .int .i64 0, .int .i64 0, .int .i64 0, .bool false]
    have l3 := L2.out.alloc (o := .cells #[.int .i64 0, .int .i64 0, .int .i64 0, .int .i64 0, .int .i64 0, .int .i64 0, .int .i64 0, .bool false] 28) L2.out.size
    obtain ⟨V2, hV2⟩ : ∃ V2, w2.heap.size = V2 := ⟨_, rfl⟩
    rw [hV2] at i ⊢
    generalize (w2.alloc (.cells #[.int .i64 0, .int .i64 0, .int .i64 0, .int .i64 0, .int .i64 0, .int .i64 0, .int .i64 0, .bool false] 28)) = w3 at k i l3 ⊢
    have m0 := k.cell 0
    have m1 := k.cell 1
    have m2 := k.cell 2
    have m3 := k.cell 3
    have m4 := k.cell 4
    have m5 := k.cell 5
    have m6 := k.cell 6
    have m7 := k.cell 7
    have i0 := i.cell 0
    have i1 := i.cell 1
    have i2 := i.cell 2
    have i3 := i.cell 3
    have i4 := i.cell 4
    have i5 := i.cell 5
    have i6 := i.cell 6
    have i7 := i.cell 7
    simp only [List.getElem?_toArray, List.getElem?_cons_zero, List.getElem?_cons_succ] at m0 m1 m2 m3 m4 m5 m6 m7 i0 i1 i2 i3 i4 i5 i6 i7
    have L3 := Lib.hid l3
    clear k i l3 hV2
    go_wp2_with (go_at_call 10; refine (awake40 _ (tab_below HT.out L3.out)).mono ?_; rintro e wa ⟨rfl, ba⟩; have LA := Lib.hid (L3.out.trans (ba.mono L3.out.size)); clear ba)
    all_goals (go_ret; exact ⟨rfl, LA.out⟩)
end Go.Proofs.YtkbbkddepcjoaaaDoor
