/-
  cmd: Print, by the document.
-/
import Derived.Test.YtkbbkddepcjoaaaDoorCmdO
namespace Go.Proofs.YtkbbkddepcjoaaaDoor
open Go.RowKit Go.Great

theorem textR_len (c : Cm) (h1 : c.2.1.1 ≤ 9223372036854775807) (h4 : c.2.1.2.2.2 ≤ 9223372036854775807) (h8 : c.2.2.2.2 ≤ 9223372036854775807) : (textR c).length ≤ 200 := by
  unfold textR
  have e1 := decD_len (n := c.2.1.1.toNat) (by omega)
  have e2 := innerR_len c.2.1 h1 h4
  have e3 := textV_len c.2.2.2.1
  have e4 := decD_len (n := c.2.2.2.2.toNat) (by omega)
  split
  · split
    · simp [wFlush]; omega
    · decide
  · split
    · split
      · simp [wMap]; omega
      · decide
    · split
      · simp [wUnmap]; omega
      · split <;> decide

def printR (c : Cm) : List UInt8 × Int := if parseO (textR c) = (c, 0) then (textR c, 0) else ([], 1)
def prV (r : List UInt8 × Int) : Value := .tuple #[.string (bs r.1), .int .i64 r.2]

set_option maxRecDepth 100000 in
set_option maxHeartbeats 4000000 in
theorem rprint_any (v n p a y p2 a2 y2 : Int) (h1 : n ≤ 9223372036854775807) (h4 : y ≤ 9223372036854775807) (h8 : y2 ≤ 9223372036854775807) (w : World) : Calls Tryd.prog 23 #[.agg #[.int .i64 v, .int .i64 n, .int .i64 p, .int .i64 a, .int .i64 y, .int .i64 p2, .int .i64 a2, .int .i64 y2]] w fun r w' => r = .returned (prV (printR (v, (n, p, a, y), p2, a2, y2))) ∧ Below w.heap.size w w' := by
  have hb := (Below.refl w.heap.size w).alloc (Nat.le_refl _) (.cells #[.int .i64 v, .int .i64 n, .int .i64 p, .int .i64 a, .int .i64 y, .int .i64 p2, .int .i64 a2, .int .i64 y2] 40)
  have c1 := fun W => rtextC_any v n p a y p2 a2 y2 h1 h4 h8 W
  have hl := textR_len (v, (n, p, a, y), p2, a2, y2) h1 h4 h8
  have c2 := fun W => rcparse_any (textR (v, (n, p, a, y), p2, a2, y2)) (by omega) W
  unfold printR
  obtain ⟨T, hT⟩ : ∃ T, textR (v, (n, p, a, y), p2, a2, y2) = T := ⟨_, rfl⟩
  rw [hT] at c1 c2 ⊢
  unfold parseOV at c2
  obtain ⟨⟨q, z⟩, hq⟩ : ∃ r, parseO T = r := ⟨_, rfl⟩
  rw [hq] at c2 ⊢
  obtain ⟨v', ⟨n', p', a', y'⟩, p2', a2', y2'⟩ := q
  unfold cmV cmC at c2
  obtain ⟨P, hP⟩ : ∃ P, (if (((v', (n', p', a', y'), p2', a2', y2'), z) : Cm × Int) = ((v, (n, p, a, y), p2, a2, y2), 0) then (T, 0) else (([], 1) : List UInt8 × Int)) = P := ⟨_, rfl⟩
  rw [hP]
  have HP := Lib.hid hP
  have HB := Lib.hid hb
  have C1 := Lib.hid c1
  have C2 := Lib.hid c2
  have bk := Blk.new w 40 #[.int .i64 v, .int .i64 n, .int .i64 p, .int .i64 a, .int .i64 y, .int .i64 p2, .int .i64 a2, .int .i64 y2]
  have BK := Lib.hid bk
  clear hb c1 c2 hT hl hq bk hP
  by_cases hz : z = 0
  · subst hz
    go_enter Tryd.func23, Tryd.ntmps23
    go_upto_region 3 with (first
      | (go_at_call 46; refine (C1.out _).mono ?_; rintro e w1 ⟨rfl, b1⟩; have B1 := Lib.hid (BK.out.on b1); have L1 := Lib.hid (HB.out.trans (b1.mono HB.out.size)); clear b1)
      | (go_at_call 16; refine (C2.out _).mono ?_; rintro e w2 ⟨rfl, b2⟩; have B2 := Lib.hid (B1.out.on b2); have L2 := Lib.hid (L1.out.trans (b2.mono L1.out.size)); clear b2))
    have b3 := B2.out.alloc (.cells #[.int .i64 v', .int .i64 n', .int .i64 p', .int .i64 a', .int .i64 y', .int .i64 p2', .int .i64 a2', .int .i64 y2'] 40)
    have q3 := Blk.new w2 40 #[.int .i64 v', .int .i64 n', .int .i64 p', .int .i64 a', .int .i64 y', .int .i64 p2', .int .i64 a2', .int .i64 y2']
    have l3 := L2.out.alloc L2.out.size (.cells #[.int .i64 v', .int .i64 n', .int .i64 p', .int .i64 a', .int .i64 y', .int .i64 p2', .int .i64 a2', .int .i64 y2'] 40)
    obtain ⟨V, hV⟩ : ∃ V, w2.heap.size = V := ⟨_, rfl⟩
    rw [hV] at q3 ⊢
    generalize (w2.alloc (.cells #[.int .i64 v', .int .i64 n', .int .i64 p', .int .i64 a', .int .i64 y', .int .i64 p2', .int .i64 a2', .int .i64 y2'] 40)) = w3 at b3 q3 l3 ⊢
    have k0 := b3.cell 0
    have k1 := b3.cell 1
    have k2 := b3.cell 2
    have k3 := b3.cell 3
    have k4 := b3.cell 4
    have k5 := b3.cell 5
    have k6 := b3.cell 6
    have k7 := b3.cell 7
    have j0 := q3.cell 0
    have j1 := q3.cell 1
    have j2 := q3.cell 2
    have j3 := q3.cell 3
    have j4 := q3.cell 4
    have j5 := q3.cell 5
    have j6 := q3.cell 6
    have j7 := q3.cell 7
    simp only [List.getElem?_toArray, List.getElem?_cons_zero, List.getElem?_cons_succ] at k0 k1 k2 k3 k4 k5 k6 k7 j0 j1 j2 j3 j4 j5 j6 j7
    have L3 := Lib.hid l3
    clear b3 q3 l3 hV
    go_wp2
    all_goals
      clear k0 k1 k2 k3 k4 k5 k6 k7 j0 j1 j2 j3 j4 j5 j6 j7
      have hp := HP.out
      simp [*] at hp
      subst hp
      go_ret2
      exact ⟨rfl, L3.out⟩
  · have hz' : (z != 0) = true := by simpa using hz
    have hp : P = ([], 1) := by rw [← HP.out, if_neg]; intro h; exact hz (congrArg Prod.snd h)
    clear hz
    go_enter Tryd.func23, Tryd.ntmps23
    go_wp2_with (first
      | (go_at_call 46; refine (C1.out _).mono ?_; rintro e w1 ⟨rfl, b1⟩; have L1 := Lib.hid (HB.out.trans (b1.mono HB.out.size)); clear b1)
      | (go_at_call 16; refine (C2.out _).mono ?_; rintro e w2 ⟨rfl, b2⟩; have L2 := Lib.hid (L1.out.trans (b2.mono L1.out.size)); clear b2))
    go_ret2
    exact ⟨by rw [hp]; rfl, L2.out.alloc L2.out.size _⟩
end Go.Proofs.YtkbbkddepcjoaaaDoor
