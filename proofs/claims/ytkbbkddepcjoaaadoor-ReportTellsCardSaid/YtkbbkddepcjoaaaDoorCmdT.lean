/-
  cmd: awake, and the statements CmdParses, CmdPrints, CmdBack walked.
-/
import Derived.Test.YtkbbkddepcjoaaaDoorCmdS
namespace Go.Proofs.YtkbbkddepcjoaaaDoor
open Go.RowKit Go.Great

theorem own_ret {w W : World} {a : Act} {cs : Array Value} {R : Ending → World → Prop} (h2 : a.tmps[2]?.getD undef = .pointer (some ⟨w.heap.size + 1, 0, none⟩)) (hd : a.defers = [])
    (hb : Blk W (w.heap.size + 1) 40 cs) (hs : cs.size = 8) (hR : R (.returned (.agg cs)) W) : bodyPost Tryd.prog Tryd.f21 R .ret a W := by
  refine bodyPost_ret (v := .agg cs) ?_ hd hR
  exact results_cell_row rfl _ _ (w.heap.size + 1) 40 cs (0, 0) _ (by simpa using h2) hb Tryd.underlying40 rfl (by rw [hs]; kernel_rfl)
set_option maxRecDepth 100000 in
set_option maxHeartbeats 4000000 in
theorem own_any (v n p a y p2 a2 y2 : Int) (w : World) : Calls Tryd.prog 21 #[.agg #[.int .i64 v, .int .i64 n, .int .i64 p, .int .i64 a, .int .i64 y, .int .i64 p2, .int .i64 a2, .int .i64 y2]] w fun r w' => r = .returned (.agg #[.int .i64 v, .int .i64 n, .int .i64 p, .int .i64 a, .int .i64 y, .int .i64 p2, .int .i64 a2, .int .i64 y2]) ∧ Below w.heap.size w w' := by
  go_enter Tryd.func21, Tryd.ntmps21
  go_wp2
  have hs : (w.alloc (.cells #[.int .i64 v, .int .i64 n, .int .i64 p, .int .i64 a, .int .i64 y, .int .i64 p2, .int .i64 a2, .int .i64 y2] 37)).heap.size = w.heap.size + 1 := by simp
  have hl : Below w.heap.size w (w.alloc (.cells #[.int .i64 v, .int .i64 n, .int .i64 p, .int .i64 a, .int .i64 y, .int .i64 p2, .int .i64 a2, .int .i64 y2] 37)) := (Below.refl _ _).alloc (Nat.le_refl _) _
  refine own_ret (w := w) rfl rfl (cs := #[.int .i64 v, .int .i64 n, .int .i64 p, .int .i64 a, .int .i64 y, .int .i64 p2, .int .i64 a2, .int .i64 y2]) ?_ rfl ⟨rfl, ?_⟩
  · rw [← hs]
    exact Blk.new _ _ _
  · exact hl.alloc (by omega) _

theorem i64_of {n : Int} (h0 : -9223372036854775808 ≤ n) (h1 : n ≤ 9223372036854775807) : IntKind.i64.has n := ⟨h0, h1⟩
def aw35 : List UInt8 := [109, 97, 112, 32, 48, 32, 117, 100, 112, 32, 49, 48, 46, 48, 46, 48, 46, 49, 32, 56, 48, 32, 49, 57, 56, 46, 53, 49, 46, 49, 48, 48, 46, 49, 32, 56, 48, 56, 48]
def awC : Cm := (2, (0, 17, 167772161, 80), 17, 3325256705, 8080)
theorem aw35_parse : parseO aw35 = (awC, 0) := by decide +kernel
theorem back_law {s : List UInt8} {d : Cm} (h : parseO s = (d, 0)) : printT d = (s, 0) := by
  have hh := h
  unfold parseO at h
  split at h
  · injection h with _ h; cases h
  · cases hp : parseC (piecesB [] s) with
    | none => rw [hp] at h; injection h with _ h; cases h
    | some c =>
      rw [hp] at h
      injection h with h _
      subst h
      have e := parse_textC hp
      unfold printT
      rw [← e, if_pos hh]
theorem print_law (c : Cm) : printT c = printR c := by
  have key : ∀ T, parseO T = (c, 0) → mayC c = true := by
    intro T h
    unfold parseO at h
    split at h
    · injection h with _ h; cases h
    · cases hp : parseC (piecesB [] T) with
      | none => rw [hp] at h; injection h with _ h; cases h
      | some c' =>
        rw [hp] at h
        injection h with h _
        subst h
        exact own_may hp
  unfold printT printR
  by_cases h : parseO (textC c) = (c, 0)
  · rw [may_textR (key _ h)]
  · rw [if_neg h, if_neg]
    intro h'
    rw [may_textR (key _ h')] at h'
    exact h h'
theorem print_parse {c : Cm} {T : List UInt8} (h : printT c = (T, 0)) : parseO T = (c, 0) := by
  unfold printT at h
  split at h
  · rename_i hp
    injection h with h _
    rw [← h]
    exact hp
  · injection h with _ h; cases h

set_option maxRecDepth 100000 in
set_option maxHeartbeats 4000000 in
theorem cawake_any (w : World) (htab : TabW w) : Calls Tryd.prog 14 #[] w fun r w' => r = .returned (.bool true) ∧ Below w.heap.size w w' := by
  have c1 : Calls Tryd.prog 15 #[.string ⟨aw35.toArray⟩] w fun e w' => e = .returned (.tuple #[.agg #[.int .i64 2, .int .i64 0, .int .i64 17, .int .i64 167772161, .int .i64 80, .int .i64 17, .int .i64 3325256705, .int .i64 8080], .int .i64 0]) ∧ Below w.heap.size w w' := by
    have := cparse_any aw35 (by decide) w
    unfold parseOV at this
    rw [aw35_parse] at this
    exact this
  have c2 := fun W ht => cprint_any 2 0 17 167772161 80 17 3325256705 8080 (i64_of (by omega) (by omega)) (i64_of (by omega) (by omega)) (i64_of (by omega) (by omega)) W ht
  have e2 : printT (2, (0, 17, 167772161, 80), 17, 3325256705, 8080) = (aw35, 0) := back_law aw35_parse
  rw [e2] at c2
  have q : ((bs aw35).toList == [109, 97, 112, 32, 48, 32, 117, 100, 112, 32, 49, 48, 46, 48, 46, 48, 46, 49, 32, 56, 48, 32, 49, 57, 56, 46, 53, 49, 46, 49, 48, 48, 46, 49, 32, 56, 48, 56, 48]) = true := by rw [toList_bs]; rfl
  obtain ⟨AW, hAW⟩ : ∃ AW, aw35 = AW := ⟨_, rfl⟩
  rw [hAW] at c2 q
  have HT := Lib.hid htab
  have C1 := Lib.hid c1
  have C2 := Lib.hid c2
  clear c1 c2 htab e2 hAW
  unfold aw35 at C1
  unfold prV at C2
  go_enter Tryd.func14, Tryd.ntmps14
  go_upto_region 3 with (first
    | (go_at_call 15; refine C1.out.mono ?_; rintro e w1 ⟨rfl, b1⟩; have B1 := Lib.hid b1; clear b1)
    | (go_at_call 22; refine (C2.out _ (tab_below HT.out (B1.out.alloc B1.out.size _))).mono ?_; rintro e w2 ⟨rfl, b2⟩))
  have bk := (Blk.new w1 37 #[.int .i64 2, .int .i64 0, .int .i64 17, .int .i64 167772161, .int .i64 80, .int .i64 17, .int .i64 3325256705, .int .i64 8080]).on b2
  have hl : Below w.heap.size w w2 := (B1.out.alloc B1.out.size _).trans (b2.mono (Nat.le_trans B1.out.size (by simp)))
  have k0 := bk.cell 0
  have k7 := bk.cell 7
  simp only [List.getElem?_toArray, List.getElem?_cons_zero, List.getElem?_cons_succ] at k0 k7
  have HL := Lib.hid hl
  clear bk hl b2
  go_wp2
  go_ret
  exact ⟨rfl, HL.out⟩

theorem parse_has {s : List UInt8} {c : Cm} {z : Int} (h : parseO s = (c, z)) : IntKind.i64.has c.2.1.1 ∧ IntKind.i64.has c.2.1.2.2.2 ∧ IntKind.i64.has c.2.2.2.2 := by
  have hn : ∀ {w : List UInt8} {m : Int} {n : Nat}, numV w m = some n → IntKind.i64.has (n : Int) := fun h => by
    have := (num_dec h).2.2
    exact i64_of (by omega) (by omega)
  have z0 : IntKind.i64.has 0 := i64_of (by omega) (by omega)
  unfold parseO at h
  split at h
  · injection h with h _; subst h; exact ⟨z0, z0, z0⟩
  · cases hp : parseC (piecesB [] s) with
    | none => rw [hp] at h; injection h with h _; subst h; exact ⟨z0, z0, z0⟩
    | some c' =>
      rw [hp] at h
      injection h with h _
      subst h
      generalize piecesB [] s = LL at hp
      unfold parseC at hp
      split at hp
      · split at hp
        · injection hp with hp; subst hp; exact ⟨z0, z0, z0⟩
        · cases hp
      · split at hp
        · rename_i a b e
          cases hq : numV b 63 with
          | none => rw [hq] at hp; cases hp
          | some n => rw [hq] at hp; injection hp with hp; subst hp; exact ⟨hn hq, z0, z0⟩
        · cases hp
      · split at hp
        · rename_i a b c d e ea
          cases hq : innerL b c d e with
          | none => rw [hq] at hp; cases hp
          | some q =>
            obtain ⟨n, p, x, y⟩ := q
            rw [hq] at hp
            injection hp with hp
            subst hp
            obtain ⟨g1, _, _, g4⟩ := innerL_some hq
            exact ⟨hn g1, hn g4, z0⟩
        · cases hp
      · split at hp
        · rename_i a b c d e f g ea
          cases hq : innerL b c d e with
          | none => rw [hq] at hp; cases hp
          | some q =>
            obtain ⟨n, p, x, y⟩ := q
            rw [hq] at hp
            cases ho : outerL f g with
            | none => rw [ho] at hp; cases hp
            | some r =>
              obtain ⟨u, v⟩ := r
              rw [ho] at hp
              injection hp with hp
              subst hp
              obtain ⟨g1, _, _, g4⟩ := innerL_some hq
              exact ⟨hn g1, hn g4, hn (outerL_some ho).2⟩
        · cases hp
      · cases hp
end Go.Proofs.YtkbbkddepcjoaaaDoor
