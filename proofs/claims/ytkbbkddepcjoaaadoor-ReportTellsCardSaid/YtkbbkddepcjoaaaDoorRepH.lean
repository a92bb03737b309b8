/-
  report: awake; what a text says has the text's words.
-/
import Derived.Test.YtkbbkddepcjoaaaDoorRepF
import Derived.Test.YtkbbkddepcjoaaaDoorRepG
import Derived.Test.YtkbbkddepcjoaaaDoorCmdT
namespace Go.Proofs.YtkbbkddepcjoaaaDoor
open Go.RowKit Go.Great

def aw40 : List UInt8 := [98, 111, 117, 110, 100, 32, 48, 32, 117, 100, 112, 32, 49, 48, 46, 48, 46, 48, 46, 49, 32, 53, 48, 48, 48, 32, 97, 115, 32, 49, 57, 56, 46, 53, 49, 46, 49, 48, 48, 46, 49, 32, 53, 48, 48, 48]
def awB : Bd := ((0, 17, 167772161, 5000), (17, 3325256705, 5000), false)
theorem aw40_read : readO aw40 = (awB, 0) := by decide +kernel
theorem read_law {s : List UInt8} {d : Bd} (h : readO s = (d, 0)) : bindT d = s := by
  unfold readO at h
  split at h
  · injection h with _ h; cases h
  · cases hp : parseBd (piecesB [] s) with
    | none => rw [hp] at h; injection h with _ h; cases h
    | some c =>
      rw [hp] at h
      injection h with h _
      subst h
      exact (parse_bindT hp).symm
theorem read_has {s : List UInt8} {c : Bd} {z : Int} (h : readO s = (c, z)) : IntKind.i64.has c.1.1 ∧ IntKind.i64.has c.1.2.1 ∧ IntKind.i64.has c.1.2.2.2 ∧ IntKind.i64.has c.2.1.2.2 := by
  have hn : ∀ {w : List UInt8} {m : Int} {n : Nat}, numV w m = some n → IntKind.i64.has (n : Int) := fun h => by
    have := (num_dec h).2.2
    exact i64_of (by omega) (by omega)
  have z0 : IntKind.i64.has 0 := i64_of (by omega) (by omega)
  unfold readO at h
  split at h
  · injection h with h _; subst h; exact ⟨z0, z0, z0, z0⟩
  · cases hp : parseBd (piecesB [] s) with
    | none => rw [hp] at h; injection h with h _; subst h; exact ⟨z0, z0, z0, z0⟩
    | some c' =>
      rw [hp] at h
      injection h with h _
      subst h
      generalize piecesB [] s = LL at hp
      unfold parseBd at hp
      split at hp
      · split at hp
        · rename_i a b c d e f g h' hc
          cases hq : innerL b c d e with
          | none => rw [hq] at hp; cases hp
          | some q =>
            obtain ⟨n, p, x, y⟩ := q
            rw [hq] at hp
            cases ho : outerL g h' with
            | none => rw [ho] at hp; cases hp
            | some r =>
              obtain ⟨u, v⟩ := r
              rw [ho] at hp
              injection hp with hp
              subst hp
              obtain ⟨g1, g2, _, g4⟩ := innerL_some hq
              have := (proto_word g2).2
              exact ⟨hn g1, i64_of (by show _ ≤ (p : Int); omega) (by show (p : Int) ≤ _; omega), hn g4, hn (outerL_some ho).2⟩
        · cases hp
      · cases hp

set_option linter.unusedSimpArgs false in
set_option maxRecDepth 100000 in
set_option maxHeartbeats 4000000 in
theorem awake40 (w : World) (htab : TabW w) : Calls Tryd.prog 10 #[] w fun r w' => r = .returned (.bool true) ∧ Below w.heap.size w w' := by
  have c1 : Calls Tryd.prog 11 #[.string ⟨aw40.toArray⟩] w fun e w' => e = .returned (.tuple #[.agg #[.int .i64 0, .int .i64 17, .int .i64 167772161, .int .i64 5000, .int .i64 17, .int .i64 3325256705, .int .i64 5000, .bool false], .int .i64 0]) ∧ Below w.heap.size w w' := by
    have := read_any40 aw40 (by decide) w
    unfold readOV at this
    rw [aw40_read] at this
    exact this
  have c2 := fun W ht => bind_any 0 17 167772161 5000 17 3325256705 5000 false (i64_of (by omega) (by omega)) (i64_of (by omega) (by omega)) (i64_of (by omega) (by omega)) (i64_of (by omega) (by omega)) W ht
  have e2 : bindT ((0, 17, 167772161, 5000), (17, 3325256705, 5000), false) = aw40 := read_law aw40_read
  rw [e2] at c2
  have c3 : ∀ W g, TRow W g 0 [[97, 32, 98], [97], [97, 98]] → Calls Tryd.prog 25 #[.slice (some ⟨g, 0, none⟩) 3 3, .string (bs [97])] W fun r w' => r = .returned (.int .i64 2) ∧ Below W.heap.size W w' := by
    intro W g ht
    have := count_any (some ⟨g, 0, none⟩) 3 3 [[97, 32, 98], [97], [97, 98]] [97] (by decide) (by decide) W (TS.of (L := [[97, 32, 98], [97], [97, 98]]) ht ht.1 (by decide) (by decide))
    rwa [show countV [97] [[97, 32, 98], [97], [97, 98]] = 2 by decide] at this
  have q : ((bs aw40).toList == [98, 111, 117, 110, 100, 32, 48, 32, 117, 100, 112, 32, 49, 48, 46, 48, 46, 48, 46, 49, 32, 53, 48, 48, 48, 32, 97, 115, 32, 49, 57, 56, 46, 53, 49, 46, 49, 48, 48, 46, 49, 32, 53, 48, 48, 48]) = true := by rw [toList_bs]; rfl
  obtain ⟨AW, hAW⟩ : ∃ AW, aw40 = AW := ⟨_, rfl⟩
  rw [hAW] at c2 q
  have HT := Lib.hid htab
  have C1 := Lib.hid c1
  have C2 := Lib.hid c2
  have C3 := Lib.hid c3
  clear c1 c2 c3 htab e2 hAW
  unfold aw40 at C1
  go_enter Tryd.func10, Tryd.ntmps10
  go_upto_region 2 with (first
    | (go_at_call 11; refine C1.out.mono ?_; rintro e w1 ⟨rfl, b1⟩; have B1 := Lib.hid b1; clear b1))
  have bk := Blk.new w1 28 #[.int .i64 0, .int .i64 17, .int .i64 167772161, .int .i64 5000, .int .i64 17, .int .i64 3325256705, .int .i64 5000, .bool false]
  have hl : Below w.heap.size w (w1.alloc (.cells #[.int .i64 0, .int .i64 17, .int .i64 167772161, .int .i64 5000, .int .i64 17, .int .i64 3325256705, .int .i64 5000, .bool false] 28)) := B1.out.alloc B1.out.size _
  generalize hw2 : w1.alloc (.cells #[.int .i64 0, .int .i64 17, .int .i64 167772161, .int .i64 5000, .int .i64 17, .int .i64 3325256705, .int .i64 5000, .bool false] 28) = w2 at bk hl ⊢
  have k0 := bk.cell 0
  have k1 := bk.cell 1
  have k2 := bk.cell 2
  have k3 := bk.cell 3
  have k4 := bk.cell 4
  have k5 := bk.cell 5
  have k6 := bk.cell 6
  have k7 := bk.cell 7
  simp only [List.getElem?_toArray, List.getElem?_cons_zero, List.getElem?_cons_succ] at k0 k1 k2 k3 k4 k5 k6 k7
  have HL := Lib.hid hl
  clear bk hl hw2
  go_wp2_with (first
    | (go_at_call 13; refine (C2.out _ (tab_below HT.out HL.out)).mono ?_; rintro e w3 ⟨rfl, b3⟩; have L3 := Lib.hid (HL.out.trans (b3.mono HL.out.size)); clear b3)
    | (go_at_call 25; refine (C3.out _ _ (TRow.of_blk (L := [[97, 32, 98], [97], [97, 98]]) (Blk.new _ 9 (strs [[97, 32, 98], [97], [97, 98]]).toArray))).mono ?_; rintro e w4 ⟨rfl, b4⟩; have L4 := Lib.hid ((L3.out.alloc L3.out.size _).trans (b4.mono (Nat.le_trans L3.out.size (by simp)))); clear b4))
  go_ret
  exact ⟨rfl, L4.out⟩
end Go.Proofs.YtkbbkddepcjoaaaDoor
