/-
  cmd: Print.
-/
import Derived.Test.YtkbbkddepcjoaaaDoorCmdR
namespace Go.Proofs.YtkbbkddepcjoaaaDoor
open Go.RowKit Go.Great

theorem wordV_len (p : Int) : (wordV p).length ≤ 20 := by
  unfold wordV
  split
  · decide
  · split
    · decide
    · split <;> decide
theorem wordsC_few (c : Cm) : (wordsC c).length ≤ 7 := by
  unfold wordsC
  split
  · simp
  · split
    · simp [innerW]
    · split
      · simp [innerW]
      · split <;> simp
theorem innerW_short (q : Int × Int × Int × Int) (h1 : IntKind.i64.has q.1) (h4 : IntKind.i64.has q.2.2.2) : ∀ x ∈ innerW q, x.length ≤ 20 := by
  intro x hx
  simp only [innerW, List.mem_cons, List.not_mem_nil, or_false] at hx
  rcases hx with rfl | rfl | rfl | rfl
  · exact itoa_len (i64_le h1).1 (i64_le h1).2
  · exact wordV_len _
  · have := textV_len q.2.2.1; omega
  · exact itoa_len (i64_le h4).1 (i64_le h4).2
theorem wordsC_short (c : Cm) (h1 : IntKind.i64.has c.2.1.1) (h4 : IntKind.i64.has c.2.1.2.2.2) (h8 : IntKind.i64.has c.2.2.2.2) : ∀ x ∈ wordsC c, x.length ≤ 20 := by
  intro x hx
  unfold wordsC at hx
  split at hx
  · simp only [List.mem_cons, List.not_mem_nil, or_false] at hx
    rcases hx with rfl | rfl
    · decide
    · exact itoa_len (i64_le h1).1 (i64_le h1).2
  · split at hx
    · simp only [List.mem_cons, List.mem_append, List.not_mem_nil, or_false] at hx
      rcases hx with rfl | hx | rfl | rfl
      · decide
      · exact innerW_short _ h1 h4 x hx
      · have := textV_len c.2.2.2.1; omega
      · exact itoa_len (i64_le h8).1 (i64_le h8).2
    · split at hx
      · rcases List.mem_cons.1 hx with rfl | hx
        · decide
        · exact innerW_short _ h1 h4 x hx
      · split at hx
        · simp only [List.mem_cons, List.not_mem_nil, or_false] at hx
          subst hx
          decide
        · simp only [List.mem_cons, List.not_mem_nil, or_false] at hx
          subst hx
          decide
theorem textC_len (c : Cm) (h1 : IntKind.i64.has c.2.1.1) (h4 : IntKind.i64.has c.2.1.2.2.2) (h8 : IntKind.i64.has c.2.2.2.2) : (textC c).length ≤ 200 := by
  have e1 := join_len (wordsC c) 20 (wordsC_short c h1 h4 h8)
  have e2 := wordsC_few c
  have : (wordsC c).length * (20 + 1) ≤ 7 * 21 := Nat.mul_le_mul_right 21 e2
  unfold textC
  omega
theorem strs_get {L : List (List UInt8)} {j : Nat} {u : Value} (h : (strs L)[j]? = some u) : ∃ x, L[j]? = some x ∧ Value.string (bs x) = u := by
  unfold strs at h
  rw [List.getElem?_map] at h
  exact Option.map_eq_some_iff.1 h
def printT (c : Cm) : List UInt8 × Int := if parseO (textC c) = (c, 0) then (textC c, 0) else ([], 1)

set_option maxRecDepth 100000 in
set_option maxHeartbeats 4000000 in
theorem cprint_any (v n p a y p2 a2 y2 : Int) (h1 : IntKind.i64.has n) (h4 : IntKind.i64.has y) (h8 : IntKind.i64.has y2) (w : World) (htab : TabW w) : Calls Tryd.prog 22 #[.agg #[.int .i64 v, .int .i64 n, .int .i64 p, .int .i64 a, .int .i64 y, .int .i64 p2, .int .i64 a2, .int .i64 y2]] w fun r w' => r = .returned (prV (printT (v, (n, p, a, y), p2, a2, y2))) ∧ Below w.heap.size w w' := by
  have hb := (Below.refl w.heap.size w).alloc (Nat.le_refl _) (.cells #[.int .i64 v, .int .i64 n, .int .i64 p, .int .i64 a, .int .i64 y, .int .i64 p2, .int .i64 a2, .int .i64 y2] 37)
  have ht := tab_below htab hb
  have c1 := fun W ht => cwords_any v n p a y p2 a2 y2 h1 h4 h8 W ht
  have hl := textC_len (v, (n, p, a, y), p2, a2, y2) h1 h4 h8
  have c2 := fun W => cparse_any (textC (v, (n, p, a, y), p2, a2, y2)) (by omega) W
  unfold printT
  have hne := wordsC_ne (v, (n, p, a, y), p2, a2, y2)
  have hm := wordsC_few (v, (n, p, a, y), p2, a2, y2)
  have c3 := fun g c W (h : TRow W g 0 (wordsC (v, (n, p, a, y), p2, a2, y2))) (hc : (wordsC (v, (n, p, a, y), p2, a2, y2)).length ≤ c) => join32_any (some ⟨g, 0, none⟩) c (wordsC (v, (n, p, a, y), p2, a2, y2)) W (fun _ => ⟨g, rfl, h.1, hc, fun j u hu => by obtain ⟨x, hx, rfl⟩ := strs_get hu; exact h.2 j x hx⟩) (by have : Lib.join (wordsC (v, (n, p, a, y), p2, a2, y2)) [32] = textC (v, (n, p, a, y), p2, a2, y2) := rfl; rw [this]; omega) (by omega)
  obtain ⟨T, hT⟩ : ∃ T, textC (v, (n, p, a, y), p2, a2, y2) = T := ⟨_, rfl⟩
  have hT' : Lib.join (wordsC (v, (n, p, a, y), p2, a2, y2)) [32] = T := hT
  rw [hT] at c2 hl ⊢
  rw [hT'] at c3
  obtain ⟨L, hL⟩ : ∃ L, wordsC (v, (n, p, a, y), p2, a2, y2) = L := ⟨_, rfl⟩
  rw [hL] at c1 c3 hm hne
  obtain ⟨N, hN⟩ : ∃ N, L.length = N := ⟨_, rfl⟩
  unfold WordsP at c1
  rw [hN] at c1 c3 hm
  unfold parseOV at c2
  obtain ⟨⟨q, z⟩, hq⟩ : ∃ r, parseO T = r := ⟨_, rfl⟩
  rw [hq] at c2 ⊢
  obtain ⟨v', ⟨n', p', a', y'⟩, p2', a2', y2'⟩ := q
  unfold cmV cmC at c2
  obtain ⟨P, hP⟩ : ∃ P, (if (((v', (n', p', a', y'), p2', a2', y2'), z) : Cm × Int) = ((v, (n, p, a, y), p2, a2, y2), 0) then (T, 0) else (([], 1) : List UInt8 × Int)) = P := ⟨_, rfl⟩
  rw [hP]
  have HP := Lib.hid hP
  have HB := Lib.hid hb
  have C1 := Lib.hid c1
  have C3 := Lib.hid c3
  have HT := Lib.hid ht
  have C2 := Lib.hid c2
  have bk := Blk.new w 37 #[.int .i64 v, .int .i64 n, .int .i64 p, .int .i64 a, .int .i64 y, .int .i64 p2, .int .i64 a2, .int .i64 y2]
  have BK := Lib.hid bk
  clear hb c1 c2 c3 hT hT' hl hq bk hP ht htab hL hN hne
  by_cases hz : z = 0
  · subst hz
    go_enter Tryd.func22, Tryd.ntmps22
    go_upto_region 3 with (first
      | (go_at_call 45; refine (C1.out _ HT.out).mono ?_; rintro e w1 ⟨g, cc, rfl, hcc, _, tr, b1⟩; have B1 := Lib.hid (BK.out.on b1); have L1 := Lib.hid (HB.out.trans (b1.mono HB.out.size)); have TR := Lib.hid tr; clear b1 tr)
      | (go_at_call 44; refine (C3.out _ _ _ TR.out hcc).mono ?_; rintro e wj ⟨rfl, bj⟩; have BJ := Lib.hid (B1.out.on bj); have LJ := Lib.hid (L1.out.trans (bj.mono L1.out.size)); clear bj)
      | (go_at_call 15; refine (C2.out _).mono ?_; rintro e w2 ⟨rfl, b2⟩; have B2 := Lib.hid (BJ.out.on b2); have L2 := Lib.hid (LJ.out.trans (b2.mono LJ.out.size)); clear b2))
    have b3 := B2.out.alloc (.cells #[.int .i64 v', .int .i64 n', .int .i64 p', .int .i64 a', .int .i64 y', .int .i64 p2', .int .i64 a2', .int .i64 y2'] 37)
    have q3 := Blk.new w2 37 #[.int .i64 v', .int .i64 n', .int .i64 p', .int .i64 a', .int .i64 y', .int .i64 p2', .int .i64 a2', .int .i64 y2']
    have l3 := L2.out.alloc L2.out.size (.cells #[.int .i64 v', .int .i64 n', .int .i64 p', .int .i64 a', .int .i64 y', .int .i64 p2', .int .i64 a2', .int .i64 y2'] 37)
    obtain ⟨V, hV⟩ : ∃ V, w2.heap.size = V := ⟨_, rfl⟩
    rw [hV] at q3 ⊢
    generalize (w2.alloc (.cells #[.int .i64 v', .int .i64 n', .int .i64 p', .int .i64 a', .int .i64 y', .int .i64 p2', .int .i64 a2', .int .i64 y2'] 37)) = w3 at b3 q3 l3 ⊢
    have k0 := b3.cell 0
    have k1 := b3.cell 1
    have k2 := b3.cell 2
    have k3 := b3.cell 3
    have k4 := b3.cell 4
    have k5 := b3.cell 5
    have k6 := b3.cell 6
    have k7 := b3.cell 7
    have j0 := q3.cell 0
    have j1 := q3.cell 1
    have j2 := q3.cell 2
    have j3 := q3.cell 3
    have j4 := q3.cell 4
    have j5 := q3.cell 5
    have j6 := q3.cell 6
    have j7 := q3.cell 7
    simp only [List.getElem?_toArray, List.getElem?_cons_zero, List.getElem?_cons_succ] at k0 k1 k2 k3 k4 k5 k6 k7 j0 j1 j2 j3 j4 j5 j6 j7
    have L3 := Lib.hid l3
    clear b3 q3 l3 hV
    go_wp2
    all_goals
      clear k0 k1 k2 k3 k4 k5 k6 k7 j0 j1 j2 j3 j4 j5 j6 j7
      have hp := HP.out
      simp [*] at hp
      subst hp
      go_ret2
      exact ⟨rfl, L3.out⟩
  · have hz' : (z != 0) = true := by simpa using hz
    have hp : P = ([], 1) := by rw [← HP.out, if_neg]; intro h; exact hz (congrArg Prod.snd h)
    clear hz
    go_enter Tryd.func22, Tryd.ntmps22
    go_wp2_with (first
      | (go_at_call 45; refine (C1.out _ HT.out).mono ?_; rintro e w1 ⟨g, cc, rfl, hcc, _, tr, b1⟩; have L1 := Lib.hid (HB.out.trans (b1.mono HB.out.size)); have TR := Lib.hid tr; clear b1 tr)
      | (go_at_call 44; refine (C3.out _ _ _ TR.out hcc).mono ?_; rintro e wj ⟨rfl, bj⟩; have LJ := Lib.hid (L1.out.trans (bj.mono L1.out.size)); clear bj)
      | (go_at_call 15; refine (C2.out _).mono ?_; rintro e w2 ⟨rfl, b2⟩; have L2 := Lib.hid (LJ.out.trans (b2.mono LJ.out.size)); clear b2))
    go_ret2
    exact ⟨by rw [hp]; rfl, L2.out.alloc L2.out.size _⟩
end Go.Proofs.YtkbbkddepcjoaaaDoor
