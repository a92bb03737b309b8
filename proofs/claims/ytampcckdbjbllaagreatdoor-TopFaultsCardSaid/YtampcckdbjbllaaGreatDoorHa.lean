/-
  The references' sums: Word, Fold, Add, Of, Right.
  'sum.Change'.
  slices.Grow of nothing: an own row of no bytes, with room.
-/
import Derived.Test.YtampcckdbjbllaaGreatDoorKc
import Derived.BigQuiet
import Derived.Lib.AppendZeros
set_option linter.unusedVariables false
set_option linter.unusedSectionVars false
set_option linter.unusedSimpArgs false
set_option linter.unusedVariables false
set_option linter.unusedSimpArgs false
namespace Go.Proofs.YtampcckdbjbllaaGreatDoor
open Go.RowKit Go.Shelf
attribute [local go_sem] Oper.semAt_some

set_option maxRecDepth 100000 in
theorem refword_any (A : Option Addr) (n c : Nat) (d : List UInt8) (j : Nat) (w : World) (h : BReads w A n (nums d)) (hn : n ≤ 1048576) (hj : 2 * j < n) :
    Calls Tryz.prog 65 #[.slice A n c, .int .i64 (2 * j : Nat)] w fun r w' => r = .returned (.int .i64 (wAt d j : Nat)) ∧ Below w.heap.size w w' := by
  have hl : d.length = n := by have := h.len; rwa [nums_length] at this
  obtain ⟨g, o, rfl, hg, hc⟩ := h.cells (by omega)
  have h1 := hc (2 * j) hj
  have b1 : (d.getD (2 * j) 0).toNat < 256 := UInt8.toNat_lt _
  have b2 : (d.getD (2 * j + 1) 0).toNat < 256 := UInt8.toNat_lt _
  obtain ⟨k, hk⟩ : ∃ k, 2 * j = k := ⟨_, rfl⟩
  rw [hk] at h1 hj ⊢ b1 b2
  have e0 : wAt d j = (d.getD k 0).toNat * 256 + (d.getD (k + 1) 0).toNat := by unfold wAt; rw [hk]
  by_cases h2 : k + 1 < n
  · have h3 := hc (k + 1) h2
    rw [e0]
    obtain ⟨x, hx⟩ : ∃ x, (d.getD k 0).toNat = x := ⟨_, rfl⟩
    obtain ⟨y, hy⟩ : ∃ y, (d.getD (k + 1) 0).toNat = y := ⟨_, rfl⟩
    rw [hx] at h1 b1 ⊢
    rw [hy] at h3 b2 ⊢
    clear h hc hk e0 hx hy hl
    have hd : decide ((k : Int) + 1 < (n : Int)) = true := by rw [decide_eq_true_iff]; omega
    have hw : wrap64 ((k : Int) + 1) = (k : Int) + 1 := IntWalk.wrap64_in _ (by omega)
    have hw2 : wrap64 ((x : Int) * 256) = (x : Int) * 256 := IntWalk.wrap64_in _ (by omega)
    have hw3 : wrap64 ((x : Int) * 256 + (y : Int)) = (x : Int) * 256 + (y : Int) := IntWalk.wrap64_in _ (by omega)
    go_enter Tryz.func65, Tryz.ntmps65
    go_wp2
    go_quiet (fail)
    go_wp2
    go_ret
    exact ⟨rfl, ⟨rfl, rfl, rfl, Nat.le_refl _, fun _ _ => rfl⟩⟩
  · have hy : (d.getD (k + 1) 0).toNat = 0 := by
      rw [List.getD_eq_getElem?_getD, List.getElem?_eq_none (by omega)]; rfl
    rw [e0, hy]
    obtain ⟨x, hx⟩ : ∃ x, (d.getD k 0).toNat = x := ⟨_, rfl⟩
    rw [hx] at h1 b1 ⊢
    clear h hc hk e0 hx hy hl b2
    have hd : decide ((k : Int) + 1 < (n : Int)) = false := by rw [decide_eq_false_iff_not]; omega
    have hw : wrap64 ((k : Int) + 1) = (k : Int) + 1 := IntWalk.wrap64_in _ (by omega)
    have hw2 : wrap64 ((x : Int) * 256) = (x : Int) * 256 := IntWalk.wrap64_in _ (by omega)
    go_enter Tryz.func65, Tryz.ntmps65
    go_wp2
    go_ret
    exact ⟨by simp, Below.refl _ _⟩
theorem refword_k (A : Option Addr) (n c : Nat) (d : List UInt8) (j k : Nat) (hk : k = 2 * j) (w : World) (h : BReads w A n (nums d)) (hn : n ≤ 1048576) (hj : k < n) :
    Calls Tryz.prog 65 #[.slice A n c, .int .i64 k] w fun r w' => r = .returned (.int .i64 (wAt d j : Nat)) ∧ Below w.heap.size w w' := by
  subst hk
  exact refword_any A n c d j w h hn hj
theorem reffold_any (n : Nat) (hn : n ≤ 1152921504606846976) (w : World) : Calls Tryz.prog 66 #[.int .i64 n] w fun r w' => r = .returned (.int .i64 (fold n : Nat)) ∧ w = w' := by
  obtain ⟨N, hN⟩ : ∃ N, fold n = N := ⟨_, rfl⟩
  rw [hN]
  have HN := Lib.hid hN
  clear hN
  have hneg : decide ((n : Int) < 0) = false := by rw [decide_eq_false_iff_not]; omega
  go_enter Tryz.func66, Tryz.ntmps66
  go_wp2
  go_loopw [0] (fun v wr => ∃ k : Nat, v = .int .i64 k ∧ k ≤ 1152921504606846976 ∧ Hid (fold k = N) ∧ w = wr) (fun v _ => (intOf v).toNat)
  case atStart => exact ⟨n, rfl, hn, HN, rfl⟩
  case round =>
    obtain ⟨k, rfl, hk, hf, rfl⟩ := hrel
    by_cases hlt : 65535 < k
    · have hd : decide ((65535 : Int) < (k : Int)) = true := by simp; omega
      have h2 := Lib.hid ((fold_step k hlt).trans hf.out)
      have h3 := step_less k hlt
      go_wp2
      exact ⟨⟨k % 65536 + k / 65536, by congr 1, by omega, h2, trivial⟩, by simp [intOf]; omega⟩
    · have hd : decide ((65535 : Int) < (k : Int)) = false := by simp; omega
      have h2 := Lib.hid ((fold_small k (by omega)).symm.trans hf.out)
      go_wp2
      go_ret
      exact ⟨by rw [h2.out]; rfl, rfl⟩
/-- Parts of which each reads as its bytes. -/
def PReads (w : World) (ps : List Part) : Prop := ∀ p ∈ ps, BReads w p.A p.n (nums p.d) ∧ p.n ≤ 1048576
theorem PReads.below {w w' : World} {ps : List Part} (h : PReads w ps) (hb : Below w.heap.size w w') : PReads w' ps := fun p hp => ⟨(h p hp).1.below hb, (h p hp).2⟩
theorem words_take (d : List UInt8) (k : Nat) (hk : k < (d.length + 1) / 2) : ((wordsAt d).take (k + 1)).map (·.2) = ((wordsAt d).take k).map (·.2) ++ [wAt d k] := by
  rw [List.take_add_one, wordsAt_get d k hk]; simp
/-- The first words. -/
def wpre (d : List UInt8) (k : Nat) : Nat := (((wordsAt d).take k).map (·.2)).sum
theorem wpre_next (d : List UInt8) (k : Nat) (hk : k < (d.length + 1) / 2) : wpre d (k + 1) = wpre d k + wAt d k := by
  unfold wpre
  rw [words_take d k hk]; simp
theorem wpre_end (d : List UInt8) : wpre d ((d.length + 1) / 2) = words d := by
  unfold wpre
  rw [List.take_of_length_le (by rw [wordsAt_length]; omega), wordsAt_sum]
theorem wpre_le (d : List UInt8) (k : Nat) : wpre d k ≤ words d := by
  unfold wpre
  rw [← wordsAt_sum, List.map_take]
  exact sum_take_le _ _
set_option maxRecDepth 100000 in
set_option maxHeartbeats 2000000 in
theorem refadd_any (g c : Nat) (ps : List Part) (w : World) (hP : BlkP w g (ps.map Part.val)) (hr : PReads w ps) (hm : ps.length ≤ 1000) :
    Calls Tryz.prog 46 #[.slice (some ⟨g, 0, none⟩) ps.length c] w fun r w' => r = .returned (.int .i64 (fold (totalOf ps) : Nat)) ∧ Below w.heap.size w w' := by
  have hg := hP.lt
  have HP := Lib.hid hP
  have HR := Lib.hid hr
  obtain ⟨m, hmm⟩ : ∃ m, ps.length = m := ⟨_, rfl⟩
  rw [hmm] at hm ⊢
  have HM := Lib.hid hmm
  have HT : ∀ k, totalOf (ps.take k) ≤ 68718428160 * 1000 := fun k => by
    have h1 := totalOf_bound (ps.take k) (fun p hp => by
      have := hr p (List.mem_of_mem_take hp)
      have := this.1.len
      rw [nums_length] at this
      omega)
    have : (ps.take k).length ≤ 1000 := by simp; omega
    exact Nat.le_trans h1 (Nat.mul_le_mul_left _ this)
  clear hP hr hmm
  go_enter Tryz.func46, Tryz.ntmps46
  go_wp2
  go_loopw [3, 4, 5] (fun v i _ wr => ∃ k : Nat, k ≤ m ∧ i = .int .i64 k ∧ v = .int .i64 (totalOf (ps.take k) : Nat) ∧ Below w.heap.size w wr) (fun _ i _ _ => m - (intOf i).toNat)
  case atStart => exact ⟨0, by omega, rfl, by simp [totalOf], Below.refl _ _⟩
  case round =>
    obtain ⟨k, hk, rfl, rfl, hb⟩ := hrel
    obtain ⟨wo, rfl⟩ : ∃ wo, wo = wr := ⟨_, rfl⟩
    by_cases hkm : k < m
    · have hps : k < ps.length := by rw [HM.out]; exact hkm
      obtain ⟨p, hp⟩ : ∃ p, ps[k]? = some p := ⟨_, List.getElem?_eq_getElem hps⟩
      have HC := Lib.hid (fun (W : World) (h : Below w.heap.size w W) => (HP.out.below h hg).cell k (v := p.val) (by rw [List.getElem?_map, hp]; rfl))
      have hcell := HC.out wo hb
      have hread := HR.out p (List.mem_of_getElem? hp)
      have HR1 := Lib.hid (fun (W : World) (h : Below w.heap.size w W) => hread.1.below h)
      have hn := hread.2
      have hd := hread.1.len
      rw [nums_length] at hd
      have HD := Lib.hid hd
      have hnext := Lib.hid (totalOf_next hp)
      have hT1 := HT k
      have hT2 := HT (k + 1)
      rw [hnext.out] at hT2
      have hwl : ∀ j, wpre p.d j ≤ words p.d := fun j => wpre_le p.d j
      obtain ⟨A, n, c', d⟩ := p
      dsimp only [Part.val] at *
      clear hread hd hp
      obtain ⟨T, hTT⟩ : ∃ T, totalOf (ps.take k) = T := ⟨_, rfl⟩
      rw [hTT] at hT1 hT2 hnext ⊢
      have HTT := Lib.hid hTT
      clear hTT
      have hd : decide ((k : Int) < (m : Int)) = true := by rw [decide_eq_true_iff]; omega
      go_wp2
      go_loopw [3, 5] (fun v i wr => ∃ (j J S : Nat), j ≤ (n + 1) / 2 ∧ J = 2 * j ∧ i = .int .i64 J ∧ S = T + wpre d j ∧ v = .int .i64 S ∧ Below w.heap.size w wr) (fun _ i _ => n + 2 - (intOf i).toNat)
      case atStart => exact ⟨0, 0, T, by omega, rfl, rfl, by simp [wpre], rfl, hb⟩
      case round =>
        obtain ⟨j, J, S, hj, hJ, rfl, hS, rfl, hb2⟩ := hrel
        have hcell2 := HC.out _ hb2
        have hle0 := hwl j
        have HS := Lib.hid hS
        by_cases hjn : J < n
        · have hd2 : decide ((J : Int) < (n : Int)) = true := by rw [decide_eq_true_iff]; omega
          have hw := Lib.hid (refword_k A n c' d j J hJ _ (HR1.out _ hb2) hn hjn)
          have hnx := Lib.hid (wpre_next d j (by rw [HD.out]; omega))
          have hle := hwl (j + 1)
          rw [hnx.out] at hle
          obtain ⟨x, hx⟩ : ∃ x, wAt d j = x := ⟨_, rfl⟩
          rw [hx] at hw hle hnx
          obtain ⟨R, hR⟩ : ∃ R : Nat, (S : Int) + (x : Int) = R := ⟨S + x, by omega⟩
          obtain ⟨J2, hJ2⟩ : ∃ J2 : Nat, (J : Int) + 2 = J2 := ⟨J + 2, by omega⟩
          have HR2 := Lib.hid (show R = S + x by omega)
          have HJ2 := Lib.hid (show J2 = J + 2 by omega)
          have hwr : wrap64 (R : Int) = R := IntWalk.wrap64_in _ (by omega)
          have hwr2 : wrap64 (J2 : Int) = J2 := IntWalk.wrap64_in _ (by omega)
          have HJ := Lib.hid hJ
          have HN := Lib.hid hjn
          clear hx hS hJ
          go_wp2_with fail
          refine hw.out.mono ?_
          rintro r w3 ⟨rfl, hb3⟩
          have HB4 := Lib.hid (hb2.trans (hb3.mono hb2.size))
          clear hb3 hw hcell hcell2 hb2 hd hd2 hb hk hn hm hkm hps hj hjn hT1 hT2 HT hwl hle hle0 hg
          go_wp2
          refine ⟨⟨j + 1, J2, R, ?_, ?_, by rw [hwr2], ?_, by rw [hwr], HB4.out⟩, ?_⟩
          · have := HJ.out; have := HN.out; omega
          · have := HJ.out; have := HJ2.out; omega
          · rw [HR2.out, HS.out, hnx.out]; omega
          · have := HJ2.out; have := HN.out; have := HJ.out; rw [hwr2]; simp only [intOf, Int.toNat_natCast]; omega
        · have hd2 : decide ((J : Int) < (n : Int)) = false := by rw [decide_eq_false_iff_not]; omega
          have hjj : j = (n + 1) / 2 := by omega
          have hend := Lib.hid (wpre_end d)
          have hSS := Lib.hid (show S = totalOf (ps.take (k + 1)) by rw [HS.out, hnext.out, hjj, ← hend.out, HD.out])
          obtain ⟨k2, hk2⟩ : ∃ k2 : Nat, (k : Int) + 1 = k2 := ⟨k + 1, by omega⟩
          have HK2 := Lib.hid (show k2 = k + 1 by omega)
          have hwr : wrap64 (k2 : Int) = k2 := IntWalk.wrap64_in _ (by omega)
          have HKM := Lib.hid hkm
          have HB2 := Lib.hid hb2
          clear hS hJ hjj hb2 hcell hd hb hk hn hm hkm hps hj hT1 hT2 HT hwl hle0 hg
          go_wp2
          refine ⟨⟨k2, ?_, by rw [hwr], ?_, HB2.out⟩, ?_⟩
          · have := HK2.out; have := HKM.out; omega
          · rw [hSS.out, HK2.out]
          · have := HK2.out; have := HKM.out; rw [hwr]; simp only [intOf, Int.toNat_natCast]; omega
    · have hkm' : k = m := by omega
      subst hkm'
      have hd : decide ((k : Int) < (k : Int)) = false := by rw [decide_eq_false_iff_not]; omega
      have hall : totalOf (ps.take k) = totalOf ps := by rw [List.take_of_length_le (by rw [HM.out]; omega)]
      have hb3 := Lib.hid (reffold_any (totalOf ps) (by have := HT k; rw [hall] at this; omega) wo)
      rw [hall]
      go_wp2_with fail
      refine hb3.out.mono ?_
      rintro r w2 ⟨rfl, rfl⟩
      go_wp2
      go_ret
      exact ⟨rfl, hb⟩
theorem refof_any (g c : Nat) (ps : List Part) (w : World) (hP : BlkP w g (ps.map Part.val)) (hr : PReads w ps) (hm : ps.length ≤ 1000) :
    Calls Tryz.prog 24 #[.slice (some ⟨g, 0, none⟩) ps.length c] w fun r w' => r = .returned (.int .i64 (65535 - fold (totalOf ps) : Nat)) ∧ Below w.heap.size w w' := by
  have H := Lib.hid (refadd_any g c ps w hP hr hm)
  have hl := fold_le (totalOf ps)
  obtain ⟨T, hT⟩ : ∃ T, fold (totalOf ps) = T := ⟨_, rfl⟩
  rw [hT] at H hl ⊢
  rw [show ((65535 - T : Nat) : Int) = 65535 - (T : Int) by omega]
  obtain ⟨m, hmm⟩ : ∃ m, ps.length = m := ⟨_, rfl⟩
  rw [hmm] at H ⊢
  clear hP hr hm hT hmm
  have hw : wrap64 (65535 - (T : Int)) = 65535 - T := IntWalk.wrap64_in _ (by omega)
  go_enter Tryz.func24, Tryz.ntmps24
  go_wp2_with fail
  refine H.out.mono ?_
  rintro r w1 ⟨rfl, hb1⟩
  go_wp2
  go_ret
  exact ⟨by simp [hw], hb1⟩
theorem refright_any (g c : Nat) (ps : List Part) (w : World) (hP : BlkP w g (ps.map Part.val)) (hr : PReads w ps) (hm : ps.length ≤ 1000) (hf : fold (totalOf ps) = 65535) :
    Calls Tryz.prog 27 #[.slice (some ⟨g, 0, none⟩) ps.length c] w fun r w' => r = .returned (.bool true) ∧ Below w.heap.size w w' := by
  have H := refadd_any g c ps w hP hr hm
  rw [hf] at H
  have H := Lib.hid H
  obtain ⟨m, hmm⟩ : ∃ m, ps.length = m := ⟨_, rfl⟩
  rw [hmm] at H ⊢
  clear hP hr hm hf hmm
  go_enter Tryz.func27, Tryz.ntmps27
  go_wp2_with fail
  refine H.out.mono ?_
  rintro r w1 ⟨rfl, hb1⟩
  go_wp2
  go_ret
  exact ⟨rfl, hb1⟩
end Go.Proofs.YtampcckdbjbllaaGreatDoor
set_option linter.unusedVariables false
set_option linter.unusedSimpArgs false
namespace Go.Proofs.YtampcckdbjbllaaGreatDoor
open Go.RowKit Go.Shelf
attribute [local go_sem] Oper.semAt_some

/-- The complements of some words together. -/
def comps (L : List (Nat × Nat)) : Nat := (L.map fun x => 65535 - x.2).sum
theorem comps_snoc (L : List (Nat × Nat)) (x : Nat × Nat) : comps (L ++ [x]) = comps L + (65535 - x.2) := by simp [comps]
theorem comps_le (L : List (Nat × Nat)) : comps L ≤ 65535 * L.length := by
  unfold comps
  induction L with
  | nil => simp
  | cons a L ih => simp only [List.map_cons, List.sum_cons, List.length_cons]; omega
theorem comps_sum (L : List (Nat × Nat)) (h : ∀ x ∈ L, x.2 ≤ 65535) : comps L + (L.map (·.2)).sum = 65535 * L.length := by
  unfold comps
  induction L with
  | nil => simp
  | cons a L ih =>
    have h1 := h a (by simp)
    have := ih fun x hx => h x (by simp [hx])
    simp only [List.map_cons, List.sum_cons, List.length_cons]; omega
theorem wAt_le (d : List UInt8) (j : Nat) : wAt d j ≤ 65535 := by
  unfold wAt
  have h1 := UInt8.toNat_lt (d.getD (2 * j) 0)
  have h2 := UInt8.toNat_lt (d.getD (2 * j + 1) 0)
  omega
theorem comps_words (d : List UInt8) : comps (wordsAt d) = 65535 * ((d.length + 1) / 2) - words d := by
  have := comps_sum (wordsAt d) (fun x hx => by
    unfold wordsAt at hx
    obtain ⟨j, _, rfl⟩ := List.mem_map.1 hx
    exact wAt_le d j)
  rw [wordsAt_sum, wordsAt_length] at this
  omega
theorem change_nums (s t : Nat) (hs : s ≤ 65535) (ht : t ≤ 68719476736) : ∃ a0 b : Nat, (65535 : Int) - (s : Int) = (a0 : Int) ∧ wrap64 (a0 : Int) = a0 ∧ (a0 : Int) + (t : Int) = (b : Int) ∧ wrap64 (b : Int) = b ∧ b = 65535 - s + t ∧ b ≤ 68719542271 := by
  refine ⟨65535 - s, 65535 - s + t, by omega, IntWalk.wrap64_in _ (by omega), by omega, IntWalk.wrap64_in _ (by omega), rfl, by omega⟩
theorem change_end (N R F : Nat) (hF : fold N = F) (hR : 65535 - F = R) : (65535 : Int) - (F : Int) = (R : Int) ∧ wrap64 (R : Int) = R := by
  have hle := fold_le N
  rw [hF] at hle
  exact ⟨by omega, IntWalk.wrap64_in _ (by omega)⟩
theorem change_big (b k n : Nat) (hb : b ≤ 68719542271) (hk : k ≤ 65535 * ((n + 1) / 2)) (hn : n ≤ 1048576) : b + k ≤ 1152921504606846976 := by omega
set_option maxRecDepth 100000 in
set_option maxHeartbeats 4000000 in
theorem change_any (s : Nat) (hs : s ≤ 65535) (p o : Part) (w : World) (hp : BReads w p.A p.n (nums p.d)) (ho : BReads w o.A o.n (nums o.d)) (hn : p.n ≤ 1048576) (hm : o.n ≤ 1048576) :
    Calls Tryz.prog 535 #[.int .i64 s, o.val, p.val] w fun r w' => r = .returned (.int .i64 (65535 - fold (65535 - s + words p.d + comps (wordsAt o.d)) : Nat)) ∧ Below w.heap.size w w' := by
  have hwb := words_bound p.d
  have hlp : p.d.length = p.n := by have := hp.len; rwa [nums_length] at this
  have hwo := comps_le (wordsAt o.d)
  have hlo : o.d.length = o.n := by have := ho.len; rwa [nums_length] at this
  rw [wordsAt_length, hlo] at hwo
  have hb0 : Below w.heap.size w (w.alloc (.cells #[p.val] 22)) := (Below.refl _ _).alloc (Nat.le_refl _) _
  have htot := Lib.hid (total_1 w.heap.size 1 p _ (BlkP.of_blk (Blk.new w 22 #[p.val])) (hp.below hb0) hn)
  have HB0 := Lib.hid hb0
  have HO := Lib.hid ho
  obtain ⟨B, m, c2, d2⟩ := p
  obtain ⟨A, n, c', d⟩ := o
  dsimp only [Part.val] at *
  obtain ⟨R, hR⟩ : ∃ R, 65535 - fold (65535 - s + words d2 + comps (wordsAt d)) = R := ⟨_, rfl⟩
  rw [hR]
  obtain ⟨T2, hT2⟩ : ∃ T2, words d2 = T2 := ⟨_, rfl⟩
  rw [hT2] at hR hwb htot
  have d1 : decide ((s : Int) < 0) = false := by rw [decide_eq_false_iff_not]; omega
  have d2' : decide ((65535 : Int) < (s : Int)) = false := by rw [decide_eq_false_iff_not]; omega
  obtain ⟨a0, b, e1, hw0, e2, hw1, hb, hbb⟩ := change_nums s T2 hs (by omega)
  rw [← hb] at hR
  have HR := Lib.hid hR
  have BB := Lib.hid hbb
  have BO := Lib.hid hwo
  have HN := Lib.hid hn
  have HM := Lib.hid hm
  have HLO := Lib.hid hlo
  clear hp ho hb0 hwb hwo hlp hlo hR hT2 hb hbb hs hn hm
  refine (callsIn_wide (n := 6)).1 ?_
  refine callsIn_of_wp_marks Tryz.func535 rfl trivial ?_ rfl
  simp only [Tryz.ntmps535, List.size_toArray, List.length_cons, List.length_nil, Nat.reduceAdd, Nat.reduceSub, Array.replicate_succ, Array.replicate_zero, List.push_toArray, List.append_toArray, List.nil_append, List.cons_append]
  gi_wp2_with fail
  refine ⟨trivial, ?_⟩
  refine (callsIn_wide.2 htot.out).mono ?_
  rintro e w1 ⟨rfl, bw1⟩
  have BW1 := Lib.hid (HB0.out.trans (bw1.mono (by simp)))
  clear bw1 htot
  gi_wp2_with fail
  refine ⟨trivial, ?_⟩
  refine (callsIn_wide.2 (words_any A n c' _)).mono ?_
  rintro e w2 ⟨rfl, hw2⟩
  clear e1 hw0 e2 hw1 d1 d2'
  have hb0 : Below w1.heap.size w1 (w1.alloc (.cells #[.int .i64 b] 3)) := (Below.refl _ _).alloc (Nat.le_refl _) _
  have st : TSt w1 b (w1.alloc (.cells #[.int .i64 b] 3)) := ⟨Blk.new _ _ _, hb0⟩
  have ho1 := HO.out.below BW1.out
  have RD := Lib.hid (ho1.below hb0)
  have HAD : 0 < n → ∀ ad, A = some ad → ad.block < w1.heap.size := fun h0 ad e => by
    obtain ⟨g1, o1, e1, hl1, _⟩ := ho1.cells h0
    rw [e] at e1; cases e1; exact hl1
  clear ho1 hb0
  generalize hW0 : w1.alloc (.cells #[.int .i64 b] 3) = W0 at *
  have hw0' : w1.heap.size + 1 = W0.heap.size := by rw [← hW0]; simp
  have hb1 : Below W0.heap.size W0 w2 := by rw [← hw2]; exact (Below.refl _ _).alloc (Nat.le_refl _) _
  have hc1 : w2.cell? ⟨W0.heap.size, 0, none⟩ = some (.slice A n c') := by rw [← hw2]; exact (Blk.new W0 22 #[.slice A n c']).cell 0
  have hs1 := hb1.size
  have SEQ := words_goes 5 (by omega) W0.heap.size A n c' d (by have := HM.out; omega) (fun i => i < w1.heap.size ∨ i = W0.heap.size) w2 hc1 (RD.out.below hb1) (.inr rfl) (fun h0 ad e => .inl (HAD h0 ad e))
  have hz1 : w2.heap.size = W0.heap.size + 1 := by rw [← hw2]; simp
  have st1 : TSt w1 (b + comps ([] : List (Nat × Nat))) w2 := by simpa [comps] using (⟨st.cell.below hb1 (by have := st.cell.lt; omega), st.bel.trans (hb1.mono (by omega))⟩ : TSt w1 b w2)
  clear hw2 hc1 hb1
  gi_wp2_with fail
  refine range_v (fun a _ x => { tmps := ((a.tmps.setIfInBounds 24 (.int .i64 (x.1 : Int))).setIfInBounds 25 (.int .i64 (x.2 : Int))).setIfInBounds 9 (.int .i64 (x.2 : Int)), defers := [] }) (fun _ _ _ _ => True)
    rfl (by omega) (gf := 464) (lb := #[.pointer (some ⟨W0.heap.size, 0, none⟩)]) rfl trivial (enters_of Tryz.func464 (by kernel_rfl) rfl)
    SEQ (fun h1 h2 => h1.t h2) (fun h => KpS.of_below h) (fun W l o o' hl _ _ => KpS.put (b0 := W0.heap.size + 1) (fun i h => by omega) W l o' (by omega)) (fun _ => rfl)
    (fun pre W => TSt w1 (b + comps pre) W) ?own ?ownV ?ownU st1 ?assign ?body ?done
  case own => exact fun pre W W' row hs hg hr => hs.kept hg (fun r e => by have := hr r e; exact ⟨by omega, by simpa using this.2⟩)
  case ownV => exact fun pre x _ W W' row hs hg hr => hs
  case ownU => exact fun _ b x _ W W' row hs hg hr => trivial
  case assign =>
    intro l pre x W K _ hlt hK
    gi_wp2
    exact hK 0 W (Below.refl _ _) trivial
  case body =>
    rintro l bl pre x W sW hlen hV _
    have hx65 : x.2 ≤ 65535 := by
      have : x ∈ wordsAt d := by
        have h1 : x ∈ pre ++ [x] := by simp
        rw [hV] at h1
        exact List.mem_of_mem_take h1
      unfold wordsAt at this
      obtain ⟨j, _, rfl⟩ := List.mem_map.1 this
      exact wAt_le d j
    have hVb : comps (pre ++ [x]) ≤ 65535 * ((n + 1) / 2) := by
      rw [hV]
      refine Nat.le_trans (comps_le _) (Nat.mul_le_mul_left _ ?_)
      rw [List.length_take, wordsAt_length, HLO.out]
      exact Nat.min_le_right _ _
    have hn2 := HM.out
    have hbb := BB.out
    clear hV
    simp only [List.setIfInBounds_toArray, List.set_cons_succ, List.set_cons_zero]
    have c1 := sW.cell.cell 0
    have f1 := sW.cell.frozen 0
    obtain ⟨q, hq⟩ : ∃ q : Nat, b + comps pre = q := ⟨_, rfl⟩
    have hx : b + comps (pre ++ [x]) = q + (65535 - x.2) := by rw [← hq, comps_snoc]; omega
    rw [hq] at c1
    have hqb : q + (65535 - x.2) ≤ 1000000000000 := by rw [← hx]; omega
    obtain ⟨x1, x2⟩ := x
    dsimp only at hx hqb hx65 ⊢
    obtain ⟨y, z, hw3, hw4, hz⟩ : ∃ y z : Nat, wrap64 ((65535 : Int) - (x2 : Int)) = (y : Int) ∧ wrap64 ((q : Int) + (y : Int)) = (z : Int) ∧ z = q + (65535 - x2) :=
      ⟨65535 - x2, q + (65535 - x2), by rw [IntWalk.wrap64_in _ (by omega)]; omega, by rw [IntWalk.wrap64_in _ (by omega)]; omega, rfl⟩
    rw [← hz] at hx
    obtain ⟨PX, hPX⟩ : ∃ PX, pre ++ [(x1, x2)] = PX := ⟨_, rfl⟩
    rw [hPX] at hx ⊢
    clear hz hPX hq hVb hqb hx65 hn2 hbb
    have SW := Lib.hid sW
    clear SEQ st st1 sW
    gi_wp2_with fail
    refine ⟨KeepsOthers.setCell _ _ _, fun i hi _ => Below.heap_setCell _ _ _ _ (by simp only; omega), ?_⟩
    show TSt w1 (b + comps PX) _
    rw [hx]
    exact ⟨SW.out.cell.set_ 0 _, SW.out.bel.setCell (Nat.le_refl _) _⟩
  case done =>
    rintro D ps W hD hps sW hK
    subst hps
    have c1 := sW.cell.cell 0
    obtain ⟨N, hN⟩ : ∃ N, b + comps (wordsAt d) = N := ⟨_, rfl⟩
    have hNb := change_big b (comps (wordsAt d)) n BB.out BO.out HM.out
    have hR := HR.out
    rw [hN] at c1 sW hR hNb
    obtain ⟨F, hF⟩ : ∃ F, fold N = F := ⟨_, rfl⟩
    rw [hF] at hR
    obtain ⟨e5, hw5⟩ := change_end N R F hF hR
    have hfold := Lib.hid (fun W => by have := fold_any N hNb W; rw [hF] at this; exact this)
    have SW := Lib.hid sW
    have HK := Lib.hid hK
    clear SEQ st st1 sW hK hW0 hR hNb hN hF
    gi_wp2_with fail
    refine ⟨trivial, ?_⟩
    refine (callsIn_wide.2 (hfold.out _)).mono ?_
    rintro e w5 ⟨rfl, rfl⟩
    gi_wp2_with fail
    refine ⟨by simp, .inl ⟨_, _, rfl, run_takeDeferred HK.out, ?_⟩⟩
    refine ⟨_, by simp [results, Tryz.f535, go_sem], rfl, ?_⟩
    have h1 := BW1.out.size
    exact (BW1.out.trans (SW.out.bel.mono h1)).trans (belowK_b (w := w) (Nat.le_refl _) _ D _ _ (by omega) HK.out rfl rfl)
end Go.Proofs.YtampcckdbjbllaaGreatDoor
set_option linter.unusedSimpArgs false
namespace Go.Proofs.YtampcckdbjbllaaGreatDoor
open Go.RowKit Go.Shelf
attribute [local go_sem] Oper.semAt_some

set_option maxHeartbeats 2000000 in
theorem grow0_any (m : Nat) (h0 : 0 < m) (hm : m ≤ 1048576) (w : World) :
    Calls Tryz.prog 349 #[.slice none 0 0, .int .i64 m] w fun r w' => ∃ c, r = .returned (.slice (some ⟨w.heap.size, 0, none⟩) 0 c) ∧ w'.ownsRow w.heap.size 5 1 (.slice (some ⟨w.heap.size, 0, none⟩) 0 c) 0 [] ∧ Below w.heap.size w w' := by
  obtain ⟨i0, hi0, hz0, hz1, hz2⟩ := info_parts byte_info
  have happ := Lib.run_append_nil_zeros (P := Tryz.prog) w 22 3 22 5 i0 (.int .u8 0) .i64 .i64 Tryz.underlying22 Tryz.underlying3 hi0 hz0 m h0 (by omega) (by omega) (by rw [hz2]; omega)
  have g1 := grownCap_ge w m 0 5
  have g2 := grownCap_le_maxLen w m 0 5 (by simp only [maxLen]; omega)
  obtain ⟨C, hC⟩ : ∃ C, grownCap w m 0 5 = C := ⟨_, rfl⟩
  rw [hC] at happ g1 g2
  have hcs : (Builtin.zeroCells (Value.int .u8 0).cells m ++ Builtin.zeroCells (Value.int .u8 0).cells (C - m)).size = C * 1 := by
    rw [Array.size_append, size_zeroCells, size_zeroCells]
    have : (Value.int .u8 0).cells.size = 1 := rfl
    rw [this]
    omega
  obtain ⟨cs, hcsd⟩ : ∃ cs, Builtin.zeroCells (Value.int .u8 0).cells m ++ Builtin.zeroCells (Value.int .u8 0).cells (C - m) = cs := ⟨_, rfl⟩
  rw [hcsd] at happ hcs
  have hown : (w.drew.alloc (.cells cs 5)).ownsRow w.heap.size 5 1 (.slice (some ⟨w.heap.size, 0, none⟩) 0 C) 0 [] :=
    ⟨rfl, .inr ⟨w.heap.size, C, cs, rfl, Nat.le_refl _, heap_alloc_new w.drew _, Nat.zero_le _, g2, hcs, by simp⟩⟩
  have hb : Below w.heap.size w (w.drew.alloc (.cells cs 5)) := ((Below.refl _ _).drew).alloc (Nat.le_refl _) _
  have HAPP := Lib.hid happ
  have HOWN := Lib.hid hown
  have HB := Lib.hid hb
  have d1 : decide ((m : Int) < 0) = false := by rw [decide_eq_false_iff_not]; omega
  have d2 : decide ((0 : Int) < (m : Int)) = true := by rw [decide_eq_true_iff]; omega
  clear happ hown hb hcs hcsd hC
  go_enter Tryz.func349, Tryz.ntmps349
  go_wp2_with (at_builtin; refine Lib.wpList_append_run _ rfl (.tmp 20) (.tmp 21) 22 3 rfl (.slice none 0 0) (.int .i64 m) rfl rfl _ _ HAPP.out ?_)
  go_ret
  exact ⟨_, rfl, HOWN.out, HB.out⟩
end Go.Proofs.YtampcckdbjbllaaGreatDoor
