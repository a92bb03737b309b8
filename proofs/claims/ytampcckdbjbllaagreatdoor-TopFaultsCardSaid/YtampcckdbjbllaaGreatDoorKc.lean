/-
  be: a number of two bytes in a place (be.Set).
  be, sum: the words of bytes, handed over one by one; a number folded.
  sum: the words of parts together; the sum of parts.
  sum: Add, Of, Right of one part and of two; udp: low, Pseudo.
  Bytes appended to own bytes; udp: Check, summed, Build.
  Whether a number stands in a row of numbers; icmp: Fault, Check, Build. Printed by wip/gen/topR.py.
-/
import Derived.Test.YtampcckdbjbllaaGreatDoorKb
import Derived.LoopNIn
import Derived.OwnWalk
import Derived.LoopN
import Derived.Below
import Derived.Great.BuildSlice
import Derived.BigQuiet
set_option linter.unusedVariables false
set_option linter.unusedSectionVars false
set_option linter.unusedSimpArgs false
namespace Go.Proofs.YtampcckdbjbllaaGreatDoor
open Go.RowKit Go.Shelf

/-- What an iterator of digits hands over, collected. -/
theorem collect_2 (B1 B2 : Nat) (n : Nat) (hn : n < 65536) (w : World) (hc1 : w.cell? ⟨B1, 0, none⟩ = some (.int .i64 2)) (hc2 : Blk w B2 3 #[.int .i64 n]) :
    Calls Tryz.prog 310 #[.func (.func 390) #[] #[.pointer (some ⟨B1, 0, none⟩), .pointer (some ⟨B2, 0, none⟩)]] w fun e w' => ∃ v', e = .returned v' ∧ w'.ownsRow w.heap.size 5 1 v' 2 ((nums (beL 2 n)).map (Value.int .u8)) ∧ Below w.heap.size w w' := by
  have c1 := bseq_any w.heap.size B1 B2 0 (.slice none 0 0) [] n (nums (beL 2 n)) 2 (by rw [nums_length, beL_len]) (by omega) w (fun W h1 h2 => digits_goes2 5 (by omega) B1 B2 n hn (fun i => i = B2) W h1 h2 rfl)
    (World.ownsRow_nil _ _ _ _) (Nat.le_refl _) (by omega) hc1 hc2
  have C1 := Lib.hid c1
  clear c1 hc1 hc2
  go_enter Tryz.func310, Tryz.ntmps310
  go_wp2_with (go_at_call 307; refine C1.out.mono ?_; rintro e w1 ⟨v1, rfl, o1, b1⟩)
  go_ret
  exact ⟨v1, rfl, by simpa using o1, b1⟩

set_option maxRecDepth 100000 in
set_option maxHeartbeats 4000000 in
theorem set_2 (A : Option Addr) (n c : Nat) (d : List UInt8) (m : Nat) (hm : m < 65536) (w : World) (h : BReads w A n (nums d)) (hn : n ≤ 1099511627776) (a : Nat) (ha : a + 2 ≤ n) :
    Calls Tryz.prog 223 #[.slice A n c, .int .i64 a, .int .i64 m, .int .i64 2] w fun r w' => ∃ v, r = .returned (.tuple #[v, .int .i64 0]) ∧ w'.ownsRow w.heap.size 5 1 v n ((nums (d.take a ++ beL 2 m ++ d.drop (a + 2))).map (Value.int .u8)) ∧ Below w.heap.size w w' := by
  have hdl : (nums d).length = n := by have := h.len; simpa using this
  have hfin : nums (d.take a ++ beL 2 m ++ d.drop (a + 2)) = ((nums d).set a (m / 256 : Int)).set (a + 1) ((m : Int) % 256) := by
    rw [set_split _ _ _ _ (by omega)]
    have := nums_be2 m hm
    simp only [nums_append, this]
    simp [nums]
  rw [hfin]
  obtain ⟨xs, hxs⟩ : ∃ xs, nums d = xs := ⟨_, rfl⟩
  rw [hxs] at h hdl ⊢
  have hb2 := nums_be2 m hm
  have hb2 := hb2
  have H := Lib.hid h
  have HB2 := Lib.hid hb2
  clear h hfin hxs hb2
  go_enter Tryz.func223, Tryz.ntmps223
  go_wp2_with (first
    | (go_at_call 231; refine (befits_2 m (by omega) (by omega) _).mono ?_; rintro r w' ⟨rfl, rfl⟩)
    | (go_at_call 219; refine (clone_own A n c xs _ H.out hn).mono ?_; rintro r w1 ⟨v1, rfl, own1, bel1⟩; obtain ⟨A1, c1, rfl, br1⟩ := own_breads own1; have OWN1 := Lib.hid own1; have BEL1 := Lib.hid bel1; have BR1 := Lib.hid br1; clear own1 bel1 br1))
  have hsome : ∃ g, A1 = some ⟨g, 0, none⟩ := by
    rcases OWN1.out.2 with ⟨h0, h1⟩ | ⟨g, cap, cur, hv, _⟩
    · omega
    · injection hv with hv
      exact ⟨g, hv⟩
  obtain ⟨g, rfl⟩ := hsome
  have hadd : (some (⟨g, 0, none⟩ : Addr)).map (·.add a) = some ⟨g, a, none⟩ := by
    simp only [Option.map_some, Addr.add]
    split
    · rename_i h0; rw [h0]
    · simp
  have hcap : c1 ≤ 1099511627776 ∨ True := Or.inr trivial
  refine (window_2 (some ⟨g, 0, none⟩) n c1 xs _ BR1.out.1 BR1.out.2 hn a ha).mono ?_
  rintro r w1' ⟨A', rfl, -, hA', rfl⟩
  rw [hadd] at hA'
  subst hA'
  clear hadd hcap
  have hgl : g < w1.heap.size := by
    rcases OWN1.out.2 with ⟨h0, h1⟩ | ⟨g', cap, cur, hv, _, hh, _⟩
    · cases h0
    · injection hv with hv _ _
      injection hv with hv
      injection hv with hv
      subst hv
      exact (Array.getElem?_eq_some_iff.1 hh).1
  have hgb : w.heap.size ≤ g := by
    rcases OWN1.out.2 with ⟨h0, h1⟩ | ⟨g', cap, cur, hv, hb, hh, _⟩
    · cases h0
    · injection hv with hv _ _
      injection hv with hv
      injection hv with hv
      subst hv
      exact hb
  go_wp2_with fail
  refine (digits_any2 m _).mono ?_
  rintro r w2 ⟨rfl, hw2⟩
  have hb2 : Below w1.heap.size w1 w2 := by rw [← hw2]; exact ((Below.refl _ _).alloc (Nat.le_refl _) _).alloc (by simp) _
  have hk2 : Blk w2 w1.heap.size 3 #[.int .i64 m] := by rw [← hw2]; exact (Blk.new w1 3 #[.int .i64 m]).alloc _
  have hc1 : w2.cell? ⟨w1.heap.size + 1, 0, none⟩ = some (.int .i64 2) := by
    rw [← hw2]
    have := (Blk.new (w1.alloc (.cells #[.int .i64 m] 3)) 3 #[.int .i64 2]).cell 0
    simp only [World.size_alloc] at this
    exact this
  have hs1 := BEL1.out.size
  have hs2 := hb2.size
  have OWN2 := Lib.hid (owns_below OWN1.out hb2)
  have BEL2 := Lib.hid (BEL1.out.trans (hb2.mono hs1))
  have HC1 := Lib.hid hc1
  have HK2 := Lib.hid hk2
  clear hw2 hb2 hk2 hc1
  go_wp2_with fail
  refine (collect_2 (w1.heap.size + 1) w1.heap.size m hm _ HC1.out HK2.out).mono ?_
  rintro r w3 ⟨v3, rfl, own3, bel3⟩
  obtain ⟨A3, c3, rfl, br3⟩ := own_breads own3
  rw [HB2.out] at br3
  have hs3 := bel3.size
  have OWN3 := Lib.hid (owns_below OWN2.out bel3)
  have BEL3 := Lib.hid (BEL2.out.trans (bel3.mono BEL2.out.size))
  obtain ⟨ad, u0, rfl, hb0, hu0, hq0⟩ := br3.1.1.at_ (k := 0) (by omega)
  obtain ⟨ad', u1, e', hb1, hu1, hq1⟩ := br3.1.1.at_ (k := 1) (by omega)
  injection e' with e'
  subst e'
  obtain rfl : Value.int .u8 ((m : Int) / 256) = u0 := by simpa using hu0
  obtain rfl : Value.int .u8 ((m : Int) % 256) = u1 := by simpa using hu1
  have hne : ad.block ≠ g := by
    rcases own3.2 with ⟨h0, h1⟩ | ⟨g', cap, cur, hv, hb, hh, _⟩
    · cases h0
    · injection hv with hv _ _
      injection hv with hv
      subst hv
      show g' ≠ g
      omega
  rw [show ad.add 0 = ad by simp [Addr.add]] at hq0
  rw [show ad.add 1 = ⟨ad.block, ad.off + 1, none⟩ by simp [Addr.add]] at hq1
  have hsp : ad.spot = none := World.cell?_spot hq0
  obtain ⟨gb, go, gs⟩ := ad
  simp only at hsp hne hq0 hq1
  subst hsp
  have HQ := Lib.hid (And.intro hq0 hq1)
  have OWN4 := Lib.hid own3
  clear br3 hu0 hu1 hq0 hq1 own3 bel3 HB2 hb0 hb1
  go_wp2
  go_loopw [13, 14, 36] (fun _ _ i wr => ∃ j : Nat, i = .int .i64 j ∧ j ≤ 2 ∧ wr.ownsRow w.heap.size 5 1 (.slice (some ⟨g, 0, none⟩) n c1) n (((if j = 0 then xs else if j = 1 then xs.set a ((m : Int) / 256) else (xs.set a ((m : Int) / 256)).set (a + 1) ((m : Int) % 256))).map (Value.int .u8)) ∧ Below w.heap.size w wr ∧ wr.cell? ⟨gb, go, none⟩ = some (.int .u8 ((m : Int) / 256)) ∧ wr.cell? ⟨gb, go + 1, none⟩ = some (.int .u8 ((m : Int) % 256))) (fun _ _ i _ => 2 - (intOf i).toNat)
  case atStart => exact ⟨0, rfl, by omega, OWN3.out, BEL3.out, HQ.out.1, HQ.out.2⟩
  case round =>
    obtain ⟨j, rfl, hj, ho, hb, hq0, hq1⟩ := hrel
    have HB := Lib.hid hb
    have hw0 := hb.size
    clear hb
    rcases (show j = 0 ∨ j = 1 ∨ j = 2 by omega) with rfl | rfl | rfl
    · simp only [if_true] at ho
      obtain ⟨fc, ff⟩ := owns_cell (k := a) ho (by omega)
      obtain ⟨y, hy⟩ : ∃ y, (xs.map (Value.int .u8))[a]? = some y := ⟨_, List.getElem?_eq_getElem (by simp; omega)⟩
      rw [hy] at fc
      have ho2 := owns_set ho (k := a) (.int .u8 ((m : Int) / 256))
      rw [← List.map_set] at ho2
      have HO2 := Lib.hid ho2
      have HQ1 := Lib.hid hq1
      have HQ0 := Lib.hid hq0
      clear ho ho2 hy hq1
      go_wp2
      refine ⟨⟨1, rfl, by omega, by simpa using HO2.out, HB.out.setCell (p := ⟨g, a, none⟩) hgb _, ?_, ?_⟩, by simp [intOf]⟩
      · exact (World.cell?_setCell_other _ _ _ _ (by intro e; exact hne (congrArg Addr.block e).symm)).trans HQ0.out
      · exact (World.cell?_setCell_other _ _ _ _ (by intro e; exact hne (congrArg Addr.block e).symm)).trans HQ1.out
    · simp only [if_true, if_false, show ¬ (1 : Nat) = 0 by omega] at ho
      obtain ⟨fc, ff⟩ := owns_cell (k := a + 1) ho (by omega)
      obtain ⟨y, hy⟩ : ∃ y, ((xs.set a ((m : Int) / 256)).map (Value.int .u8))[a + 1]? = some y := ⟨_, List.getElem?_eq_getElem (by simp; omega)⟩
      rw [hy] at fc
      have ho2 := owns_set ho (k := a + 1) (.int .u8 ((m : Int) % 256))
      rw [← List.map_set] at ho2
      have HO2 := Lib.hid ho2
      have HQ1 := Lib.hid hq1
      have HQ0 := Lib.hid hq0
      clear ho ho2 hy hq0
      simp only [show ((1 : Nat) : Int) = 1 from rfl]
      go_wp2
      refine ⟨⟨2, rfl, by omega, by simpa using HO2.out, HB.out.setCell (p := ⟨g, a + 1, none⟩) hgb _, ?_, ?_⟩, by simp [intOf]⟩
      · exact (World.cell?_setCell_other _ _ _ _ (by intro e; exact hne (congrArg Addr.block e).symm)).trans HQ0.out
      · exact (World.cell?_setCell_other _ _ _ _ (by intro e; exact hne (congrArg Addr.block e).symm)).trans HQ1.out
    · simp only [if_false, show ¬ (2 : Nat) = 0 by omega, show ¬ (2 : Nat) = 1 by omega] at ho
      have HO := Lib.hid ho
      clear ho hq0 hq1
      go_wp2
      go_ret2
      exact ⟨_, rfl, HO.out, HB.out⟩
end Go.Proofs.YtampcckdbjbllaaGreatDoor
set_option linter.unusedSimpArgs false
namespace Go.Proofs.YtampcckdbjbllaaGreatDoor
open Go.RowKit Go.Shelf
attribute [local go_sem] Oper.semAt_some

def wAt (d : List UInt8) (j : Nat) : Nat := (d.getD (2 * j) 0).toNat * 256 + (d.getD (2 * j + 1) 0).toNat
/-- The words of bytes with their places. -/
def wordsAt (d : List UInt8) : List (Nat × Nat) := (List.range ((d.length + 1) / 2)).map fun j => (2 * j, wAt d j)
theorem wordsAt_length (d : List UInt8) : (wordsAt d).length = (d.length + 1) / 2 := by simp [wordsAt]
theorem wordsAt_get (d : List UInt8) (j : Nat) (h : j < (d.length + 1) / 2) : (wordsAt d)[j]? = some (2 * j, wAt d j) := by simp [wordsAt, h]
theorem sum_range (f : Nat → Nat) : ∀ n, ((List.range (n + 1)).map f).sum = f 0 + ((List.range n).map fun j => f (j + 1)).sum
  | 0 => by simp
  | n + 1 => by
    rw [List.range_succ, List.map_append, List.sum_append, sum_range f n, List.range_succ, List.map_append, List.sum_append]
    simp [Nat.add_assoc]
theorem wordsAt_sum : ∀ d : List UInt8, ((wordsAt d).map (·.2)).sum = words d
  | [] => rfl
  | [a] => by simp [wordsAt, wAt, words]
  | a :: b :: r => by
    have ih := wordsAt_sum r
    have e : (wordsAt (a :: b :: r)).map (·.2) = (List.range ((r.length + 1) / 2 + 1)).map (wAt (a :: b :: r)) := by
      simp only [wordsAt, List.map_map, List.length_cons]
      rw [show (r.length + 1 + 1 + 1) / 2 = (r.length + 1) / 2 + 1 by omega]
      rfl
    rw [e, sum_range]
    have e2 : (fun j => wAt (a :: b :: r) (j + 1)) = wAt r := by
      funext j
      simp only [wAt, show 2 * (j + 1) = 2 * j + 1 + 1 by omega, List.getD_cons_succ]
    have e3 : (wordsAt r).map (·.2) = (List.range ((r.length + 1) / 2)).map (wAt r) := by
      simp only [wordsAt, List.map_map]
      rfl
    rw [e2, ← e3, ih]
    simp [wAt, words]
theorem take_next {α : Type} {L : List α} {k : Nat} {x : α} (h : L[k]? = some x) : L.take k ++ [x] = L.take (k + 1) := by rw [List.take_add_one, h]; simp

theorem sum_take_le (L : List Nat) : ∀ k, (L.take k).sum ≤ L.sum := by
  intro k
  have : L.sum = (L.take k).sum + (L.drop k).sum := by rw [← List.sum_append, List.take_append_drop]
  omega
theorem words_pre {d : List UInt8} {pre : List (Nat × Nat)} {x : Nat × Nat} (h : pre ++ [x] = (wordsAt d).take (pre.length + 1)) : (pre.map (·.2)).sum + x.2 ≤ words d := by
  have h1 : ((pre ++ [x]).map (·.2)).sum ≤ words d := by rw [h, List.map_take, ← wordsAt_sum]; exact sum_take_le _ _
  simpa using h1

/-- A block that begins with some cells. -/
def BlkP (w : World) (g : Nat) (vs : List Value) : Prop := ∃ cur e, w.heap[g]? = some (.cells cur e (0, 0)) ∧ ∀ (i : Nat) (v : Value), vs[i]? = some v → cur[i]? = some v
theorem BlkP.of_blk {w : World} {g : Nat} {t : TypeId} {cs : Array Value} (h : Blk w g t cs) : BlkP w g cs.toList := ⟨cs, t, h, fun i v hv => by simpa using hv⟩
theorem BlkP.lt {w : World} {g : Nat} {vs : List Value} (h : BlkP w g vs) : g < w.heap.size := by
  obtain ⟨cur, e, h, _⟩ := h
  exact (Array.getElem?_eq_some_iff.1 h).1
theorem BlkP.below {w w' : World} {g B : Nat} {vs : List Value} (h : BlkP w g vs) (hb : Below B w w') (hg : g < B) : BlkP w' g vs := by
  obtain ⟨cur, e, h, hc⟩ := h
  exact ⟨cur, e, (hb.block g hg).trans h, hc⟩
theorem BlkP.cell {w : World} {g : Nat} {vs : List Value} (h : BlkP w g vs) (i : Nat) {v : Value} (hv : vs[i]? = some v) : w.cell? ⟨g, i, none⟩ = some v := by
  obtain ⟨cur, e, h, hc⟩ := h
  rw [cell_of_row w g i cur e (0, 0) h]
  exact hc i v hv
theorem add_off (b off i : Nat) : (⟨b, off, none⟩ : Addr).add i = ⟨b, off + i, none⟩ := by
  unfold Addr.add
  split
  · rename_i h; subst h; rfl
  · rfl
theorem and_low (k : Nat) (hk : k ≤ 1152921504606846976) : bits .and .i64 (k : Int) 65535 = (k : Int) % 65536 := by
  show IntKind.i64.wrap ((BitVec.ofInt 64 (k : Int) &&& BitVec.ofInt 64 ((65535 : Nat) : Int)).toNat : Int) = _
  rw [BitVec.toNat_and, ofInt_u64 k (by omega), ofInt_u64 65535 (by omega)]
  rw [show k &&& 65535 = k % 65536 from Nat.and_two_pow_sub_one_eq_mod k 16]
  rw [IntWalk.i64_in _ (by omega)]
  omega
theorem nums_cell {d : List UInt8} {k : Nat} {u : Value} (h : ((nums d).map (Value.int .u8))[k]? = some u) : u = .int .u8 ((d.getD k 0).toNat : Int) := by
  unfold nums at h
  rw [List.getElem?_map, List.getElem?_map] at h
  rw [List.getD_eq_getElem?_getD]
  cases hx : d[k]? with
  | none => rw [hx] at h; cases h
  | some x =>
    rw [hx] at h
    simp only [Option.map_some, Option.some.injEq] at h
    exact h.symm
/-- Bytes in memory, cell by cell. -/
theorem BReads.cells {w : World} {A : Option Addr} {n : Nat} {d : List UInt8} (h : BReads w A n (nums d)) (hn : 0 < n) : ∃ g o, A = some ⟨g, o, none⟩ ∧ g < w.heap.size ∧ ∀ k, k < n → w.cell? ⟨g, o + k, none⟩ = some (.int .u8 ((d.getD k 0).toNat : Int)) := by
  obtain ⟨ad, e, hb, hc⟩ := h.1.2 hn
  have hl : ((nums d).map (Value.int .u8)).length = n := by have := h.1.1; simpa using this
  have h0 := hc 0 _ (List.getElem?_eq_getElem (by omega))
  obtain ⟨g, o, s⟩ := ad
  obtain rfl : s = none := by have := World.cell?_spot h0; simpa [Addr.add] using this
  refine ⟨g, o, e, hb, fun k hk => ?_⟩
  have h1 := hc k _ (List.getElem?_eq_getElem (by omega))
  rw [add_off] at h1
  rw [h1, nums_cell (List.getElem?_eq_getElem (by omega))]
theorem fold_any (n : Nat) (hn : n ≤ 1152921504606846976) (w : World) : Calls Tryz.prog 314 #[.int .i64 n] w fun r w' => r = .returned (.int .i64 (fold n : Nat)) ∧ w = w' := by
  obtain ⟨N, hN⟩ : ∃ N, fold n = N := ⟨_, rfl⟩
  rw [hN]
  have HN := Lib.hid hN
  clear hN
  go_enter Tryz.func314, Tryz.ntmps314
  go_wp2
  go_loopw [0] (fun v wr => ∃ k : Nat, v = .int .i64 k ∧ k ≤ 1152921504606846976 ∧ Hid (fold k = N) ∧ w = wr) (fun v _ => (intOf v).toNat)
  case atStart => exact ⟨n, rfl, hn, HN, rfl⟩
  case round =>
    obtain ⟨k, rfl, hk, hf, rfl⟩ := hrel
    by_cases hlt : 65535 < k
    · have hd : decide ((65535 : Int) < (k : Int)) = true := by simp; omega
      have h2 := Lib.hid ((fold_step k hlt).trans hf.out)
      have h3 := step_less k hlt
      obtain ⟨q, hq⟩ : ∃ q : Nat, (k : Int) % 65536 + (k : Int) / 65536 = q := ⟨k % 65536 + k / 65536, by omega⟩
      have ha := and_low k hk
      have hw : wrap64 (q : Int) = q := IntWalk.wrap64_in _ (by omega)
      go_wp2
      exact ⟨⟨q, rfl, by omega, Lib.hid (by rw [show q = k % 65536 + k / 65536 by omega]; exact h2.out), trivial⟩, by simp [intOf]; omega⟩
    · have hd : decide ((65535 : Int) < (k : Int)) = false := by simp; omega
      have h2 := Lib.hid ((fold_small k (by omega)).symm.trans hf.out)
      go_wp2
      go_ret
      exact ⟨by rw [h2.out]; rfl, rfl⟩

theorem words_any (A : Option Addr) (n c : Nat) (w : World) : Calls Tryz.prog 392 #[.slice A n c] w fun r w' => r = .returned (.func (.func 464) #[] #[.pointer (some ⟨w.heap.size, 0, none⟩)]) ∧ w.alloc (.cells #[.slice A n c] 22) = w' := by
  go_enter Tryz.func392, Tryz.ntmps392
  go_wp2
  go_ret
  exact ⟨by simp, rfl⟩

abbrev encW (x : Nat × Nat) : Array Value := #[.int .i64 x.1, .int .i64 x.2]

set_option maxHeartbeats 4000000 in
set_option maxRecDepth 100000 in
theorem words_goes (f : Nat) (hf : 2 ≤ f) (B1 : Nat) (A : Option Addr) (n c : Nat) (d : List UInt8) (hn : n ≤ 1099511627776) (S : Nat → Prop) (w : World) (hc1 : w.cell? ⟨B1, 0, none⟩ = some (.slice A n c)) (hr : BReads w A n (nums d)) (hS1 : S B1) (hS2 : 0 < n → ∀ ad, A = some ad → S ad.block) :
    SeqV Fence.wide f Tryz.prog 464 #[.pointer (some ⟨B1, 0, none⟩)] encW (KpS S) (fun pre x _ => pre ++ [x] = (wordsAt d).take (pre.length + 1)) (fun xs => xs = wordsAt d) ((n + 1) / 2) w := fun lp J W hW hJ hY h0' => by
  have C1 := Lib.hid ((hW.cell (p := ⟨B1, 0, none⟩) (World.block_lt_of_cell? w _ hc1)).trans hc1)
  have HR := Lib.hid (hr.below hW)
  have hdl : d.length = n := by have := hr.len; rwa [nums_length] at this
  have HY := Lib.hid hY
  have hn1 : 1 ≤ f := by omega
  clear hc1 hr hY
  refine callsIn_of_wp Tryz.func464 rfl trivial ?_ rfl
  simp only [Tryz.ntmps464, List.size_toArray, List.length_cons, List.length_nil, Nat.reduceAdd, Nat.reduceSub, Array.replicate_succ, Array.replicate_zero, List.push_toArray, List.append_toArray, List.nil_append, List.cons_append]
  gi_wp2_with fail
  gi_loopw [3, 4] (fun i _ wr => ∃ (j : Nat), i = .int .i64 (2 * (j : Int)) ∧ j ≤ (n + 1) / 2 ∧ J ((wordsAt d).take j) wr ∧ Hid (KpS S W wr)) (fun i _ _ => (n + 2 - intOf i).toNat)
  case atStart => exact ⟨0, rfl, by omega, h0', Lib.hid (KpS.of_below (Below.refl _ _))⟩
  case round =>
    obtain ⟨j, rfl, hj, hJs, hkp⟩ := hrel
    have d1 : wr.cell? ⟨B1, 0, none⟩ = some (.slice A n c) := hkp.out.cell (p := ⟨B1, 0, none⟩) hS1 C1.out
    by_cases hlt : 2 * j < n
    · have hg := wordsAt_get d j (by omega)
      have hnext := Lib.hid (take_next hg)
      obtain ⟨fn, tmps, assign, body, hy, hR⟩ := HY.out _ (2 * j, wAt d j) wr hJs (by rw [List.length_take, wordsAt_length]; omega) (by rw [List.length_take, wordsAt_length, Nat.min_eq_left (by omega)]; exact hnext.out)
      dsimp only [encW] at hy
      rw [show ((2 * j : Nat) : Int) = 2 * (j : Int) by omega] at hy
      rw [hnext.out] at hR
      have HRd := Lib.hid hR
      clear hR hg
      obtain ⟨gb, go, rfl, _, hcs⟩ := HR.out.cells (by omega)
      have hc0 := hkp.out.cell (p := ⟨gb, go + 2 * j, none⟩) (hS2 (by omega) ⟨gb, go, none⟩ rfl) (hcs (2 * j) hlt)
      have hX := (d.getD (2 * j) 0).toNat_lt
      by_cases hlt2 : 2 * j + 1 < n
      · have hc1 := hkp.out.cell (p := ⟨gb, go + (2 * j + 1), none⟩) (hS2 (by omega) ⟨gb, go, none⟩ rfl) (hcs (2 * j + 1) hlt2)
        have hY' := (d.getD (2 * j + 1) 0).toNat_lt
        have hwa : ((wAt d j : Nat) : Int) = ((d.getD (2 * j) 0).toNat : Int) * 256 + ((d.getD (2 * j + 1) 0).toNat : Int) := by unfold wAt; omega
        obtain ⟨Z, hZ⟩ : ∃ Z, wAt d j = Z := ⟨_, rfl⟩
        rw [hZ] at hwa hy
        obtain ⟨X, hXX⟩ : ∃ X, (d.getD (2 * j) 0).toNat = X := ⟨_, rfl⟩
        obtain ⟨Y, hYY⟩ : ∃ Y, (d.getD (2 * j + 1) 0).toNat = Y := ⟨_, rfl⟩
        rw [hXX] at hc0 hX hwa
        rw [hYY] at hc1 hY' hwa
        have q := or_byte4 X Y (by omega) hY'
        rw [← hwa] at q
        have d2 : decide ((2 * (j : Int)) < (n : Int)) = true := by simp; omega
        have d3 : decide ((2 * (j : Int)) + 1 < (n : Int)) = true := by simp; omega
        clear hcs hwa hZ hXX hYY
        gi_wp2_with fail
        refine HRd.out.mono ?_
        rintro e W3 ⟨rfl, hJ3, hk3⟩
        have L3 := Lib.hid (hkp.out.t hk3)
        clear hk3
        gi_wp2
        go_roundw
        case rel => exact ⟨j + 1, by congr 1, by omega, hJ3, L3⟩
        case measure => simp [intOf]; omega
      · have hwa : ((wAt d j : Nat) : Int) = ((d.getD (2 * j) 0).toNat : Int) * 256 := by
          unfold wAt
          rw [show d.getD (2 * j + 1) 0 = 0 by simp [List.getD_eq_getElem?_getD, List.getElem?_eq_none (show d.length ≤ 2 * j + 1 by omega)]]
          simp
        obtain ⟨Z, hZ⟩ : ∃ Z, wAt d j = Z := ⟨_, rfl⟩
        rw [hZ] at hwa hy
        obtain ⟨X, hXX⟩ : ∃ X, (d.getD (2 * j) 0).toNat = X := ⟨_, rfl⟩
        rw [hXX] at hc0 hX hwa
        have d2 : decide ((2 * (j : Int)) < (n : Int)) = true := by simp; omega
        have d3 : decide ((2 * (j : Int)) + 1 < (n : Int)) = false := by simp; omega
        rw [hwa] at hy
        clear hcs hwa hZ hXX
        gi_wp2_with fail
        refine HRd.out.mono ?_
        rintro e W3 ⟨rfl, hJ3, hk3⟩
        have L3 := Lib.hid (hkp.out.t hk3)
        clear hk3
        gi_wp2
        go_roundw
        case rel => exact ⟨j + 1, by congr 1, by omega, hJ3, L3⟩
        case measure => simp [intOf]; omega
    · have d2 : decide ((2 * (j : Int)) < (n : Int)) = false := by simp; omega
      gi_wp2
      go_end0
      have : (wordsAt d).take j = wordsAt d := List.take_of_length_le (by rw [wordsAt_length]; omega)
      rw [this] at hJs
      exact ⟨⟨_, rfl⟩, _, rfl, hJs⟩
end Go.Proofs.YtampcckdbjbllaaGreatDoor
set_option linter.unusedSimpArgs false
namespace Go.Proofs.YtampcckdbjbllaaGreatDoor
open Go.RowKit Go.Shelf
attribute [local go_sem] Oper.semAt_some

/-- A part: where it lies, how long it is, its room, its bytes. -/
structure Part where
  A : Option Addr
  n : Nat
  c : Nat
  d : List UInt8
abbrev Part.val (p : Part) : Value := .slice p.A p.n p.c
def totalOf (ps : List Part) : Nat := (ps.map fun p => words p.d).sum
theorem totalOf_next {ps : List Part} {k : Nat} {p : Part} (h : ps[k]? = some p) : totalOf (ps.take (k + 1)) = totalOf (ps.take k) + words p.d := by
  rw [List.take_add_one, h]; simp [totalOf]
theorem words_bound : ∀ d : List UInt8, words d ≤ 65535 * d.length
  | [] => by simp [words]
  | [a] => by have := a.toNat_lt; simp [words]; omega
  | a :: b :: r => by have := a.toNat_lt; have := b.toNat_lt; have := words_bound r; simp [words]; omega
theorem totalOf_bound : ∀ (ps : List Part), (∀ p ∈ ps, p.d.length ≤ 1048576) → totalOf ps ≤ 68718428160 * ps.length
  | [], _ => by simp [totalOf]
  | p :: r, h => by
    have := totalOf_bound r (fun q hq => h q (List.mem_cons_of_mem _ hq))
    have h1 := words_bound p.d
    have h2 := h p List.mem_cons_self
    have h3 : totalOf (p :: r) = words p.d + totalOf r := by simp [totalOf]
    have h4 : words p.d ≤ 65535 * 1048576 := Nat.le_trans h1 (Nat.mul_le_mul_left _ h2)
    simp only [List.length_cons]
    omega
theorem sum_take (L : List (Nat × Nat)) : ((L.map (·.2)).sum : Nat) = (L.map (·.2)).sum := rfl

structure TSt (w : World) (N : Nat) (W : World) : Prop where
  cell : Blk W w.heap.size 3 #[.int .i64 N]
  bel : Below w.heap.size w W
theorem TSt.kept {w W W' : World} {N : Nat} {row : Option Nat} (h : TSt w N W) (hg : W.grownBy W' row) (hr : ∀ r, row = some r → w.heap.size + 1 ≤ r ∧ ∃ o : Obj, W.heap[r]? = some o ∧ o.isCells = false) : TSt w N W' :=
  ⟨blk_kept h.cell hg (fun r e => (hr r e).2), h.bel.trans ⟨hg.os, hg.tape, hg.output, hg.size, fun i hi => hg.block i (Nat.lt_of_lt_of_le hi h.bel.size) (fun e => by have := (hr i e.symm).1; omega)⟩⟩

set_option maxRecDepth 100000 in
set_option maxHeartbeats 4000000 in
theorem total_1 (g c : Nat) (p : Part) (w : World) (hP : BlkP w g [p.val]) (hp : BReads w p.A p.n (nums p.d)) (hn : p.n ≤ 1048576) :
    Calls Tryz.prog 315 #[.slice (some ⟨g, 0, none⟩) 1 c] w fun r w' => r = .returned (.int .i64 (words p.d : Nat)) ∧ Below w.heap.size w w' := by
  have hwb := words_bound p.d
  have hlen : p.d.length = p.n := by have := hp.len; rwa [nums_length] at this
  obtain ⟨A, n, c', d⟩ := p
  dsimp only [Part.val] at *
  refine (callsIn_wide (n := 6)).1 ?_
  refine callsIn_of_wp_marks Tryz.func315 rfl trivial ?_ rfl
  simp only [Tryz.ntmps315, List.size_toArray, List.length_cons, List.length_nil, Nat.reduceAdd, Nat.reduceSub, Array.replicate_succ, Array.replicate_zero, List.push_toArray, List.append_toArray, List.nil_append, List.cons_append]
  have hb0 : Below w.heap.size w (w.alloc (.cells #[.int .i64 0] 3)) := (Below.refl _ _).alloc (Nat.le_refl _) _
  have st : TSt w 0 (w.alloc (.cells #[.int .i64 0] 3)) := ⟨Blk.new _ _ _, hb0⟩
  have hg := hP.lt
  have cP := (hP.below hb0 hg).cell 0 rfl
  have RD := Lib.hid (hp.below hb0)
  have HP := Lib.hid hP
  have HAD : 0 < n → ∀ ad, A = some ad → ad.block < w.heap.size := fun h0 ad e => by
    obtain ⟨g1, o1, e1, hl1, _⟩ := hp.cells h0
    rw [e] at e1; cases e1; exact hl1
  clear hP hp
  gi_wp2_with fail
  generalize hW0 : w.alloc (.cells #[.int .i64 0] 3) = W0 at *
  have hw0 : w.heap.size + 1 = W0.heap.size := by rw [← hW0]; simp
  refine wpIn_loop_rounds 2 ?_
  rw [roundsIn_succ]
  gi_wp2_with (refine ⟨trivial, ?_⟩; gi_at_call 392; refine (callsIn_wide.2 (words_any A n c' _)).mono ?_; rintro e w1 ⟨rfl, hw1⟩)
  have hb1 : Below W0.heap.size W0 w1 := by rw [← hw1]; exact (Below.refl _ _).alloc (Nat.le_refl _) _
  have hc1 : w1.cell? ⟨W0.heap.size, 0, none⟩ = some (.slice A n c') := by rw [← hw1]; exact (Blk.new W0 22 #[.slice A n c']).cell 0
  have hs1 := hb1.size
  have SEQ := words_goes 5 (by omega) W0.heap.size A n c' d (by omega) (fun i => i < w.heap.size ∨ i = W0.heap.size) w1 hc1 (RD.out.below hb1) (.inr rfl) (fun h0 ad e => .inl (HAD h0 ad e))
  have hz1 : w1.heap.size = W0.heap.size + 1 := by rw [← hw1]; simp
  have st1 : TSt w (0 + ((([] : List (Nat × Nat)).map (·.2)).sum)) w1 := by simpa using (⟨st.cell.below hb1 (by have := st.cell.lt; omega), st.bel.trans (hb1.mono (by omega))⟩ : TSt w 0 w1)
  clear hw1 hc1 hb1
  refine range_v (fun a _ x => { tmps := ((a.tmps.setIfInBounds 16 (.int .i64 (x.1 : Int))).setIfInBounds 17 (.int .i64 (x.2 : Int))).setIfInBounds 7 (.int .i64 (x.2 : Int)), defers := [] }) (fun _ _ _ _ => True)
    rfl (by omega) (gf := 464) (lb := #[.pointer (some ⟨W0.heap.size, 0, none⟩)]) rfl trivial (enters_of Tryz.func464 (by kernel_rfl) rfl)
    SEQ (fun h1 h2 => h1.t h2) (fun h => KpS.of_below h) (fun W l o o' hl _ _ => KpS.put (b0 := W0.heap.size + 1) (fun i h => by omega) W l o' (by omega)) (fun _ => rfl)
    (fun pre W => TSt w (0 + (pre.map (·.2)).sum) W) ?own ?ownV ?ownU st1 ?assign ?body ?done
  case own => exact fun pre W W' row hs hg hr => hs.kept hg (fun r e => by have := hr r e; exact ⟨by omega, by simpa using this.2⟩)
  case ownV => exact fun pre x _ W W' row hs hg hr => hs
  case ownU => exact fun _ b x _ W W' row hs hg hr => trivial
  case assign =>
    intro l pre x W K _ hlt hK
    gi_wp2
    exact hK 0 W (Below.refl _ _) trivial
  case body =>
    rintro l bl pre x W sW hlen hV _
    have hVb := words_pre hV
    clear hV
    simp only [List.setIfInBounds_toArray, List.set_cons_succ, List.set_cons_zero]
    have c1 := sW.cell.cell 0
    have f1 := sW.cell.frozen 0
    obtain ⟨q, hq⟩ : ∃ q : Nat, 0 + (pre.map (·.2)).sum = q := ⟨_, rfl⟩
    have hx : 0 + ((pre ++ [x]).map (·.2)).sum = q + x.2 := by rw [← hq]; simp [Nat.add_assoc]
    rw [hq] at c1
    have hqb : q + x.2 ≤ words d := by omega
    obtain ⟨x1, x2⟩ := x
    dsimp only at hx hqb ⊢
    obtain ⟨z, hz⟩ : ∃ z, q + x2 = z := ⟨_, rfl⟩
    rw [hz] at hx hqb
    have hw : wrap64 ((q : Int) + (x2 : Int)) = (z : Int) := by rw [IntWalk.wrap64_in _ (by omega)]; omega
    obtain ⟨PX, hPX⟩ : ∃ PX, pre ++ [(x1, x2)] = PX := ⟨_, rfl⟩
    rw [hPX] at hx ⊢
    clear hz hPX hq hVb
    have SW := Lib.hid sW
    clear SEQ st st1 sW
    gi_wp2_with fail
    refine ⟨KeepsOthers.setCell _ _ _, fun i hi _ => Below.heap_setCell _ _ _ _ (by simp only; omega), ?_⟩
    show TSt w (0 + (PX.map (·.2)).sum) _
    rw [hx]
    exact ⟨SW.out.cell.set_ 0 _, SW.out.bel.setCell (Nat.le_refl _) _⟩
  case done =>
    rintro D ps W hD hps sW hK
    subst hps
    have e0 : 0 + ((wordsAt d).map (·.2)).sum = words d := by rw [wordsAt_sum, Nat.zero_add]
    rw [e0] at sW
    have c1 := sW.cell.cell 0
    have SW := Lib.hid sW
    have HK := Lib.hid hK
    clear SEQ st st1 sW hK hW0
    gi_wp2_with fail
    rw [roundsIn_succ]
    gi_wp2_with fail
    refine ⟨by simp, .inl ⟨_, _, rfl, run_takeDeferred HK.out, ?_⟩⟩
    refine ⟨_, by simp [results, Tryz.f315, go_sem], rfl, ?_⟩
    exact SW.out.bel.trans (belowK_b (w := w) (Nat.le_refl _) _ D _ _ (by omega) HK.out rfl rfl)
-- PRINTED by gen/topG.py from here on
set_option maxRecDepth 100000 in
set_option maxHeartbeats 4000000 in
theorem total_2 (g c : Nat) (p1 p2 : Part) (w : World) (hP : BlkP w g [p1.val, p2.val]) (hp1 : BReads w p1.A p1.n (nums p1.d)) (hp2 : BReads w p2.A p2.n (nums p2.d)) (hn1 : p1.n ≤ 1048576) (hn2 : p2.n ≤ 1048576) :
    Calls Tryz.prog 315 #[.slice (some ⟨g, 0, none⟩) 2 c] w fun r w' => r = .returned (.int .i64 (words p1.d + words p2.d : Nat)) ∧ Below w.heap.size w w' := by
  have hwb1 := words_bound p1.d
  have hwb2 := words_bound p2.d
  have hlen1 : p1.d.length = p1.n := by have := hp1.len; rwa [nums_length] at this
  have hlen2 : p2.d.length = p2.n := by have := hp2.len; rwa [nums_length] at this
  obtain ⟨A1, n1, c1, d1⟩ := p1
  obtain ⟨A2, n2, c2, d2⟩ := p2
  dsimp only [Part.val] at *
  obtain ⟨T, hT⟩ : ∃ T, words d1 + words d2 = T := ⟨_, rfl⟩
  rw [hT]
  refine (callsIn_wide (n := 6)).1 ?_
  refine callsIn_of_wp_marks Tryz.func315 rfl trivial ?_ rfl
  simp only [Tryz.ntmps315, List.size_toArray, List.length_cons, List.length_nil, Nat.reduceAdd, Nat.reduceSub, Array.replicate_succ, Array.replicate_zero, List.push_toArray, List.append_toArray, List.nil_append, List.cons_append]
  have hb0 : Below w.heap.size w (w.alloc (.cells #[.int .i64 0] 3)) := (Below.refl _ _).alloc (Nat.le_refl _) _
  have st : TSt w 0 (w.alloc (.cells #[.int .i64 0] 3)) := ⟨Blk.new _ _ _, hb0⟩
  have hg := hP.lt
  have cP := (hP.below hb0 hg).cell 0 rfl
  have RD1 := Lib.hid (hp1.below hb0)
  have RDw2 := Lib.hid hp2
  have HP := Lib.hid hP
  have HAD1 : 0 < n1 → ∀ ad, A1 = some ad → ad.block < w.heap.size := fun h0 ad e => by
    obtain ⟨g1, o1, e1, hl1, _⟩ := hp1.cells h0
    rw [e] at e1; cases e1; exact hl1
  have HAD2 : 0 < n2 → ∀ ad, A2 = some ad → ad.block < w.heap.size := fun h0 ad e => by
    obtain ⟨g1, o1, e1, hl1, _⟩ := hp2.cells h0
    rw [e] at e1; cases e1; exact hl1
  clear hP hp1 hp2
  gi_wp2_with fail
  generalize hW0 : w.alloc (.cells #[.int .i64 0] 3) = W0 at *
  have hw0 : w.heap.size + 1 = W0.heap.size := by rw [← hW0]; simp
  refine wpIn_loop_rounds 3 ?_
  rw [roundsIn_succ]
  gi_wp2_with (refine ⟨trivial, ?_⟩; gi_at_call 392; refine (callsIn_wide.2 (words_any A1 n1 c1 _)).mono ?_; rintro e w1 ⟨rfl, hw1⟩)
  have hb1 : Below W0.heap.size W0 w1 := by rw [← hw1]; exact (Below.refl _ _).alloc (Nat.le_refl _) _
  have hc1 : w1.cell? ⟨W0.heap.size, 0, none⟩ = some (.slice A1 n1 c1) := by rw [← hw1]; exact (Blk.new W0 22 #[.slice A1 n1 c1]).cell 0
  have hs1 := hb1.size
  have SEQ := words_goes 5 (by omega) W0.heap.size A1 n1 c1 d1 (by omega) (fun i => i < w.heap.size ∨ i = W0.heap.size) w1 hc1 (RD1.out.below hb1) (.inr rfl) (fun h0 ad e => .inl (HAD1 h0 ad e))
  have hz1 : w1.heap.size = W0.heap.size + 1 := by rw [← hw1]; simp
  have st1 : TSt w (0 + ((([] : List (Nat × Nat)).map (·.2)).sum)) w1 := by simpa using (⟨st.cell.below hb1 (by have := st.cell.lt; omega), st.bel.trans (hb1.mono (by omega))⟩ : TSt w 0 w1)
  clear hw1 hc1 hb1
  refine range_v (fun a _ x => { tmps := ((a.tmps.setIfInBounds 16 (.int .i64 (x.1 : Int))).setIfInBounds 17 (.int .i64 (x.2 : Int))).setIfInBounds 7 (.int .i64 (x.2 : Int)), defers := [] }) (fun _ _ _ _ => True)
    rfl (by omega) (gf := 464) (lb := #[.pointer (some ⟨W0.heap.size, 0, none⟩)]) rfl trivial (enters_of Tryz.func464 (by kernel_rfl) rfl)
    SEQ (fun h1 h2 => h1.t h2) (fun h => KpS.of_below h) (fun W l o o' hl _ _ => KpS.put (b0 := W0.heap.size + 1) (fun i h => by omega) W l o' (by omega)) (fun _ => rfl)
    (fun pre W => TSt w (0 + (pre.map (·.2)).sum) W) ?own1 ?ownV1 ?ownU1 st1 ?assign1 ?body1 ?done1
  case own1 => exact fun pre W W' row hs hg hr => hs.kept hg (fun r e => by have := hr r e; exact ⟨by omega, by simpa using this.2⟩)
  case ownV1 => exact fun pre x _ W W' row hs hg hr => hs
  case ownU1 => exact fun _ b x _ W W' row hs hg hr => trivial
  case assign1 =>
    intro l pre x W K _ hlt hK
    gi_wp2
    exact hK 0 W (Below.refl _ _) trivial
  case body1 =>
    rintro l bl pre x W sW hlen hV _
    have hVb := words_pre hV
    clear hV
    simp only [List.setIfInBounds_toArray, List.set_cons_succ, List.set_cons_zero]
    have c1 := sW.cell.cell 0
    have f1 := sW.cell.frozen 0
    obtain ⟨q, hq⟩ : ∃ q : Nat, 0 + (pre.map (·.2)).sum = q := ⟨_, rfl⟩
    have hx : 0 + ((pre ++ [x]).map (·.2)).sum = q + x.2 := by rw [← hq]; simp [Nat.add_assoc]
    rw [hq] at c1
    have hqb : q + x.2 ≤ words d1 + words d2 := by omega
    obtain ⟨x1, x2⟩ := x
    dsimp only at hx hqb ⊢
    obtain ⟨z, hz⟩ : ∃ z, q + x2 = z := ⟨_, rfl⟩
    rw [hz] at hx hqb
    have hw : wrap64 ((q : Int) + (x2 : Int)) = (z : Int) := by rw [IntWalk.wrap64_in _ (by omega)]; omega
    obtain ⟨PX, hPX⟩ : ∃ PX, pre ++ [(x1, x2)] = PX := ⟨_, rfl⟩
    rw [hPX] at hx ⊢
    clear hz hPX hq hVb
    have SW := Lib.hid sW
    clear SEQ st st1 sW
    gi_wp2_with fail
    refine ⟨KeepsOthers.setCell _ _ _, fun i hi _ => Below.heap_setCell _ _ _ _ (by simp only; omega), ?_⟩
    show TSt w (0 + (PX.map (·.2)).sum) _
    rw [hx]
    exact ⟨SW.out.cell.set_ 0 _, SW.out.bel.setCell (Nat.le_refl _) _⟩
  case done1 =>
    rintro D1 ps W hD1 hps sW hK
    subst hps
    have e0 : 0 + ((wordsAt d1).map (·.2)).sum = words d1 := by rw [wordsAt_sum, Nat.zero_add]
    rw [e0] at sW
    have hD1l : D1 < W.heap.size := (Array.getElem?_eq_some_iff.1 hK).1
    have cP2 := (HP.out.below sW.bel hg).cell 1 rfl
    have RD2 := Lib.hid (RDw2.out.below sW.bel)
    have BD := Lib.hid (Below.refl W.heap.size W)
    generalize W = Wd at *
    have SW1 := Lib.hid sW
    have HK1 := Lib.hid hK
    clear SEQ st st1 sW hK hW0
    gi_wp2_with fail
    rw [roundsIn_succ]
    gi_wp2_with (refine ⟨trivial, ?_⟩; gi_at_call 392; refine (callsIn_wide.2 (words_any A2 n2 c2 _)).mono ?_; rintro e w2 ⟨rfl, hw2⟩)
    have hb2 : Below Wd.heap.size Wd w2 := by rw [← hw2]; exact (Below.refl _ _).alloc (Nat.le_refl _) _
    have hc2 : w2.cell? ⟨Wd.heap.size, 0, none⟩ = some (.slice A2 n2 c2) := by rw [← hw2]; exact (Blk.new Wd 22 #[.slice A2 n2 c2]).cell 0
    have hs2 := hb2.size
    have SEQ := words_goes 5 (by omega) Wd.heap.size A2 n2 c2 d2 (by omega) (fun i => i < w.heap.size ∨ i = Wd.heap.size) w2 hc2 (RD2.out.below (BD.out.trans (hb2.mono (by omega)))) (.inr rfl) (fun h0 ad e => .inl (HAD2 h0 ad e))
    have hz2 : w2.heap.size = Wd.heap.size + 1 := by rw [← hw2]; simp
    have st2 : TSt w (words d1 + ((([] : List (Nat × Nat)).map (·.2)).sum)) w2 ∧ w2.heap[D1]? = some (.deferred (some [])) := ⟨by simpa using (⟨SW1.out.cell.below hb2 (by have := SW1.out.cell.lt; omega), SW1.out.bel.trans (hb2.mono (by omega))⟩ : TSt w (words d1) w2), (hb2.block D1 hD1l).trans HK1.out⟩
    clear hw2 hc2 hb2
    refine range_v (fun a _ x => { tmps := ((a.tmps.setIfInBounds 16 (.int .i64 (x.1 : Int))).setIfInBounds 17 (.int .i64 (x.2 : Int))).setIfInBounds 7 (.int .i64 (x.2 : Int)), defers := [] }) (fun _ _ _ _ => True)
      rfl (by omega) (gf := 464) (lb := #[.pointer (some ⟨Wd.heap.size, 0, none⟩)]) rfl trivial (enters_of Tryz.func464 (by kernel_rfl) rfl)
      SEQ (fun h1 h2 => h1.t h2) (fun h => KpS.of_below h) (fun W l o o' hl _ _ => KpS.put (b0 := Wd.heap.size + 1) (fun i h => by omega) W l o' (by omega)) (fun _ => rfl)
      (fun pre W => (TSt w (words d1 + (pre.map (·.2)).sum) W ∧ W.heap[D1]? = some (.deferred (some [])))) ?own2 ?ownV2 ?ownU2 st2 ?assign2 ?body2 ?done2
    case own2 => exact fun pre W W' row hs hg hr => ⟨hs.1.kept hg (fun r e => by have := hr r e; exact ⟨by omega, by simpa using this.2⟩), (hg.block D1 (Array.getElem?_eq_some_iff.1 hs.2).1 (fun e => by have := (hr D1 e.symm).1; omega)).trans hs.2⟩
    case ownV2 => exact fun pre x _ W W' row hs hg hr => hs
    case ownU2 => exact fun _ b x _ W W' row hs hg hr => trivial
    case assign2 =>
      intro l pre x W K _ hlt hK
      gi_wp2
      exact hK 0 W (Below.refl _ _) trivial
    case body2 =>
      rintro l bl pre x W sW hlen hV _
      have hVb := words_pre hV
      clear hV
      obtain ⟨sW, hKd⟩ := sW
      simp only [List.setIfInBounds_toArray, List.set_cons_succ, List.set_cons_zero]
      have c1 := sW.cell.cell 0
      have f1 := sW.cell.frozen 0
      obtain ⟨q, hq⟩ : ∃ q : Nat, words d1 + (pre.map (·.2)).sum = q := ⟨_, rfl⟩
      have hx : words d1 + ((pre ++ [x]).map (·.2)).sum = q + x.2 := by rw [← hq]; simp [Nat.add_assoc]
      rw [hq] at c1
      have hqb : q + x.2 ≤ words d1 + words d2 := by omega
      obtain ⟨x1, x2⟩ := x
      dsimp only at hx hqb ⊢
      obtain ⟨z, hz⟩ : ∃ z, q + x2 = z := ⟨_, rfl⟩
      rw [hz] at hx hqb
      have hw : wrap64 ((q : Int) + (x2 : Int)) = (z : Int) := by rw [IntWalk.wrap64_in _ (by omega)]; omega
      obtain ⟨PX, hPX⟩ : ∃ PX, pre ++ [(x1, x2)] = PX := ⟨_, rfl⟩
      rw [hPX] at hx ⊢
      clear hz hPX hq hVb
      have SW := Lib.hid sW
      have HKd := Lib.hid hKd
      clear SEQ st2 sW hKd
      gi_wp2_with fail
      refine ⟨KeepsOthers.setCell _ _ _, fun i hi _ => Below.heap_setCell _ _ _ _ (by simp only; omega), ?_⟩
      show TSt w (words d1 + (PX.map (·.2)).sum) _ ∧ _
      rw [hx]
      exact ⟨⟨SW.out.cell.set_ 0 _, SW.out.bel.setCell (Nat.le_refl _) _⟩, (Below.heap_setCell _ _ _ _ (by simp only; omega)).trans HKd.out⟩
    case done2 =>
      rintro D ps W hD hps sW hK
      subst hps
      obtain ⟨sW, hKd⟩ := sW
      rw [wordsAt_sum] at sW
      have c1 := sW.cell.cell 0
      rw [hT] at sW c1
      have SW := Lib.hid sW
      have HK := Lib.hid hK
      have HKd := Lib.hid hKd
      clear SEQ st2 sW hK hKd
      gi_wp2_with fail
      rw [roundsIn_succ]
      gi_wp2_with fail
      refine ⟨by simp, .inl ⟨_, _, rfl, run_takeDeferred HK.out, ?_⟩⟩
      have hDD : D1 ≠ D := by omega
      have hk2 : (W.putObj D (.deferred none)).heap[D1]? = some (.deferred (some [])) := (World.putObj_heap_other hDD).trans HKd.out
      refine ⟨by simp, .inl ⟨_, _, rfl, run_takeDeferred hk2, ?_⟩⟩
      refine ⟨_, by simp [results, Tryz.f315, go_sem], rfl, ?_⟩
      exact (SW.out.bel.trans (belowK_b (w := w) (Nat.le_refl _) _ D _ _ (by omega) HK.out rfl rfl)).trans (belowK_b (w := w) (Nat.le_refl _) _ D1 _ _ (by omega) hk2 rfl rfl)
end Go.Proofs.YtampcckdbjbllaaGreatDoor
set_option linter.unusedSimpArgs false
namespace Go.Proofs.YtampcckdbjbllaaGreatDoor
open Go.RowKit Go.Shelf
attribute [local go_sem] Oper.semAt_some

theorem add_1 (g c : Nat) (p : Part) (w : World) (hP : BlkP w g [p.val]) (hp : BReads w p.A p.n (nums p.d)) (hn : p.n ≤ 1048576) :
    Calls Tryz.prog 229 #[.slice (some ⟨g, 0, none⟩) 1 c] w fun r w' => r = .returned (.int .i64 (fold (words p.d) : Nat)) ∧ Below w.heap.size w w' := by
  have hb : words p.d ≤ 1152921504606846976 := by have h1 := words_bound p.d; have := hp.len; rw [nums_length] at this; omega
  have H := Lib.hid (total_1 g c p w hP hp hn)
  obtain ⟨T, hT⟩ : ∃ T, words p.d = T := ⟨_, rfl⟩
  rw [hT] at H hb ⊢
  clear hP hp hT
  go_enter Tryz.func229, Tryz.ntmps229
  go_wp2_with fail
  refine H.out.mono ?_
  rintro r w1 ⟨rfl, hb1⟩
  go_wp2_with fail
  refine (fold_any T hb _).mono ?_
  rintro r w2 ⟨rfl, rfl⟩
  go_wp2
  go_ret
  exact ⟨rfl, hb1⟩
theorem add_2 (g c : Nat) (p1 p2 : Part) (w : World) (hP : BlkP w g [p1.val, p2.val]) (hp1 : BReads w p1.A p1.n (nums p1.d)) (hp2 : BReads w p2.A p2.n (nums p2.d)) (hn1 : p1.n ≤ 1048576) (hn2 : p2.n ≤ 1048576) :
    Calls Tryz.prog 229 #[.slice (some ⟨g, 0, none⟩) 2 c] w fun r w' => r = .returned (.int .i64 (fold (words p1.d + words p2.d) : Nat)) ∧ Below w.heap.size w w' := by
  have hb : words p1.d + words p2.d ≤ 1152921504606846976 := by
    have h1 := words_bound p1.d; have h2 := words_bound p2.d; have := hp1.len; have := hp2.len; rw [nums_length] at *; omega
  have H := Lib.hid (total_2 g c p1 p2 w hP hp1 hp2 hn1 hn2)
  obtain ⟨T, hT⟩ : ∃ T, words p1.d + words p2.d = T := ⟨_, rfl⟩
  rw [hT] at H hb ⊢
  clear hP hp1 hp2 hT
  go_enter Tryz.func229, Tryz.ntmps229
  go_wp2_with fail
  refine H.out.mono ?_
  rintro r w1 ⟨rfl, hb1⟩
  go_wp2_with fail
  refine (fold_any T hb _).mono ?_
  rintro r w2 ⟨rfl, rfl⟩
  go_wp2
  go_ret
  exact ⟨rfl, hb1⟩
theorem of_1 (g c : Nat) (p : Part) (w : World) (hP : BlkP w g [p.val]) (hp : BReads w p.A p.n (nums p.d)) (hn : p.n ≤ 1048576) :
    Calls Tryz.prog 224 #[.slice (some ⟨g, 0, none⟩) 1 c] w fun r w' => r = .returned (.int .i64 (sumOf p.d : Nat)) ∧ Below w.heap.size w w' := by
  have H := Lib.hid (add_1 g c p w hP hp hn)
  have hs : ((sumOf p.d : Nat) : Int) = 65535 - ((fold (words p.d) : Nat) : Int) := by have := fold_le (words p.d); unfold sumOf; omega
  have hl := fold_le (words p.d)
  rw [hs]
  obtain ⟨T, hT⟩ : ∃ T, fold (words p.d) = T := ⟨_, rfl⟩
  rw [hT] at H hl ⊢
  clear hP hp hT hs
  have hw : wrap64 (65535 - (T : Int)) = 65535 - T := IntWalk.wrap64_in _ (by omega)
  go_enter Tryz.func224, Tryz.ntmps224
  go_wp2_with fail
  refine H.out.mono ?_
  rintro r w1 ⟨rfl, hb1⟩
  go_wp2
  go_ret
  exact ⟨by simp [hw], hb1⟩
theorem of_2 (g c : Nat) (p1 p2 : Part) (w : World) (hP : BlkP w g [p1.val, p2.val]) (hp1 : BReads w p1.A p1.n (nums p1.d)) (hp2 : BReads w p2.A p2.n (nums p2.d)) (hn1 : p1.n ≤ 1048576) (hn2 : p2.n ≤ 1048576) :
    Calls Tryz.prog 224 #[.slice (some ⟨g, 0, none⟩) 2 c] w fun r w' => r = .returned (.int .i64 (65535 - fold (words p1.d + words p2.d) : Nat)) ∧ Below w.heap.size w w' := by
  have H := Lib.hid (add_2 g c p1 p2 w hP hp1 hp2 hn1 hn2)
  have hl := fold_le (words p1.d + words p2.d)
  obtain ⟨T, hT⟩ : ∃ T, fold (words p1.d + words p2.d) = T := ⟨_, rfl⟩
  rw [hT] at H hl ⊢
  rw [show ((65535 - T : Nat) : Int) = 65535 - (T : Int) by omega]
  clear hP hp1 hp2 hT
  have hw : wrap64 (65535 - (T : Int)) = 65535 - T := IntWalk.wrap64_in _ (by omega)
  go_enter Tryz.func224, Tryz.ntmps224
  go_wp2_with fail
  refine H.out.mono ?_
  rintro r w1 ⟨rfl, hb1⟩
  go_wp2
  go_ret
  exact ⟨by simp [hw], hb1⟩
theorem right_1 (g c : Nat) (p : Part) (w : World) (hP : BlkP w g [p.val]) (hp : BReads w p.A p.n (nums p.d)) (hn : p.n ≤ 1048576) (hr : fold (words p.d) = 65535) :
    Calls Tryz.prog 135 #[.slice (some ⟨g, 0, none⟩) 1 c] w fun r w' => r = .returned (.bool true) ∧ Below w.heap.size w w' := by
  have H := add_1 g c p w hP hp hn
  rw [hr] at H
  have H := Lib.hid H
  clear hP hp hr
  go_enter Tryz.func135, Tryz.ntmps135
  go_wp2_with fail
  refine H.out.mono ?_
  rintro r w1 ⟨rfl, hb1⟩
  go_wp2
  go_ret
  exact ⟨rfl, hb1⟩
theorem right_2 (g c : Nat) (p1 p2 : Part) (w : World) (hP : BlkP w g [p1.val, p2.val]) (hp1 : BReads w p1.A p1.n (nums p1.d)) (hp2 : BReads w p2.A p2.n (nums p2.d)) (hn1 : p1.n ≤ 1048576) (hn2 : p2.n ≤ 1048576) (hr : fold (words p1.d + words p2.d) = 65535) :
    Calls Tryz.prog 135 #[.slice (some ⟨g, 0, none⟩) 2 c] w fun r w' => r = .returned (.bool true) ∧ Below w.heap.size w w' := by
  have H := add_2 g c p1 p2 w hP hp1 hp2 hn1 hn2
  rw [hr] at H
  have H := Lib.hid H
  clear hP hp1 hp2 hr
  go_enter Tryz.func135, Tryz.ntmps135
  go_wp2_with fail
  refine H.out.mono ?_
  rintro r w1 ⟨rfl, hb1⟩
  go_wp2
  go_ret
  exact ⟨rfl, hb1⟩

theorem and_low4 (k : Nat) (hk : k < 4294967296) : bits .and .i64 (k : Int) 4294967295 = (k : Int) := by
  show IntKind.i64.wrap ((BitVec.ofInt 64 (k : Int) &&& BitVec.ofInt 64 ((4294967295 : Nat) : Int)).toNat : Int) = _
  rw [BitVec.toNat_and, ofInt_u64 k (by omega), ofInt_u64 4294967295 (by omega)]
  rw [show k &&& 4294967295 = k % 4294967296 from Nat.and_two_pow_sub_one_eq_mod k 32]
  rw [IntWalk.i64_in _ (by omega)]
  omega
theorem and_low1 (k : Nat) (hk : k < 256) : bits .and .i64 (k : Int) 255 = (k : Int) := by
  show IntKind.i64.wrap ((BitVec.ofInt 64 (k : Int) &&& BitVec.ofInt 64 ((255 : Nat) : Int)).toNat : Int) = _
  rw [BitVec.toNat_and, ofInt_u64 k (by omega), ofInt_u64 255 (by omega)]
  rw [show k &&& 255 = k % 256 from Nat.and_two_pow_sub_one_eq_mod k 8]
  rw [IntWalk.i64_in _ (by omega)]
  omega
theorem low_4 (n : Nat) (hn : n < 4294967296) (w : World) : Calls Tryz.prog 475 #[.int .i64 n, .int .i64 4] w fun r w' => r = .returned (.int .i64 n) ∧ w = w' := by
  have ha := and_low4 n hn
  go_enter Tryz.func475, Tryz.ntmps475
  go_wp2
  go_ret
  exact ⟨rfl, rfl⟩
theorem low_2 (n : Nat) (hn : n < 65536) (w : World) : Calls Tryz.prog 475 #[.int .i64 n, .int .i64 2] w fun r w' => r = .returned (.int .i64 n) ∧ w = w' := by
  have ha := and_low n (by omega)
  rw [show (n : Int) % 65536 = n by omega] at ha
  go_enter Tryz.func475, Tryz.ntmps475
  go_wp2
  go_ret
  exact ⟨rfl, rfl⟩
theorem low_1 (n : Nat) (hn : n < 256) (w : World) : Calls Tryz.prog 475 #[.int .i64 n, .int .i64 1] w fun r w' => r = .returned (.int .i64 n) ∧ w = w' := by
  have ha := and_low1 n hn
  go_enter Tryz.func475, Tryz.ntmps475
  go_wp2
  go_ret
  exact ⟨rfl, rfl⟩

theorem breads_nil (w : World) : BReads w none 0 (nums []) := ⟨Reads.none_, fun _ => rfl⟩

set_option maxHeartbeats 4000000 in
theorem pseudo_any (s d pr n : Nat) (hs : s < 4294967296) (hd : d < 4294967296) (hpr : pr < 256) (hn : n < 65536) (w : World) :
    Calls Tryz.prog 413 #[.int .i64 s, .int .i64 d, .int .i64 pr, .int .i64 n] w fun r w' => ∃ v, r = .returned v ∧ w'.ownsRow w.heap.size 5 1 v 12 ((nums (pseudo s d pr n)).map (Value.int .u8)) ∧ Below w.heap.size w w' := by
  go_enter Tryz.func413, Tryz.ntmps413
  go_wp2_with (go_at_call 475; refine (low_4 s hs _).mono ?_; rintro r w' ⟨rfl, rfl⟩)
  refine (put_4 none 0 0 [] s hs _ (breads_nil _) (by omega)).mono ?_
  rintro r w1 ⟨v1, rfl, own1, bel1⟩
  obtain ⟨A1, c1, rfl, rd1, hc1⟩ := own_breads own1
  have RD1 := Lib.hid rd1
  have B1 := Lib.hid bel1
  clear own1 rd1 bel1
  go_wp2_with (go_at_call 475; refine (low_4 d hd _).mono ?_; rintro r w' ⟨rfl, rfl⟩)
  refine (put_4 A1 _ c1 _ d hd _ RD1.out (by omega)).mono ?_
  rintro r w2 ⟨v2, rfl, own2, bel2⟩
  obtain ⟨A2, c2, rfl, rd2, hc2⟩ := own_breads own2
  have RD2 := Lib.hid rd2
  have B2 := Lib.hid (B1.out.trans (bel2.mono B1.out.size))
  clear own2 rd2 bel2
  go_wp2_with (go_at_call 475; refine (low_1 pr hpr _).mono ?_; rintro r w' ⟨rfl, rfl⟩)
  refine (put_2 A2 _ c2 _ pr (by omega) _ RD2.out (by omega)).mono ?_
  rintro r w3 ⟨v3, rfl, own3, bel3⟩
  obtain ⟨A3, c3, rfl, rd3, hc3⟩ := own_breads own3
  have RD3 := Lib.hid rd3
  have B3 := Lib.hid (B2.out.trans (bel3.mono B2.out.size))
  clear own3 rd3 bel3
  go_wp2_with (go_at_call 475; refine (low_2 n hn _).mono ?_; rintro r w' ⟨rfl, rfl⟩)
  refine (put_2 A3 _ c3 _ n hn _ RD3.out (by omega)).mono ?_
  rintro r w4 ⟨v4, rfl, own4, bel4⟩
  go_wp2
  go_ret
  refine ⟨v4, rfl, ?_, B3.out.trans (bel4.mono B3.out.size)⟩
  have e : [] ++ beL 4 s ++ beL 4 d ++ beL 2 pr ++ beL 2 n = pseudo s d pr n := by simp [pseudo]
  rw [← e]
  exact owns_base own4 B3.out.size
end Go.Proofs.YtampcckdbjbllaaGreatDoor
set_option linter.unusedSimpArgs false
namespace Go.Proofs.YtampcckdbjbllaaGreatDoor
open Go.RowKit Go.Shelf
attribute [local go_sem] Oper.semAt_some

theorem own_block_ge {w : World} {base n e size : Nat} {v : Value} {xs : List Value} (h : w.ownsRow base e size v n xs) : ∀ g, v.ownBlock = some g → base ≤ g := by
  intro g hg
  rcases h.2 with ⟨h0, _⟩ | ⟨g', cap, cur, hv, hb, _⟩
  · subst h0; cases hg
  · subst hv; cases hg; exact hb
/-- The bytes of a slice put behind own bytes. -/
theorem wpList_app8 {ops : Array Oper} {rest : List Oper} {o : Oper} {a : Act} {Q : Exit → Act → World → Prop} (w : World) (hgd : o.guard = none) (s x : Operand)
    (ho : o.op = .call { callee := .builtin .append, args := #[s, x], argTypes := #[22, 22] })
    (base : Nat) (v : Value) (n : Nat) (xs : List UInt8) (hs : a.eval s = v) (hown : w.ownsRow base 5 1 v n ((nums xs).map (Value.int .u8)))
    (A : Option Addr) (m c : Nat) (ys : List UInt8) (hx : a.eval x = .slice A m c) (hr : BReads w A m (nums ys)) (hn : n + m ≤ 1099511627776) (hbase : base ≤ w.heap.size)
    (h : ∀ A' c' w', w'.ownsRow base 5 1 (.slice A' (n + m) c') (n + m) ((nums (xs ++ ys)).map (Value.int .u8)) → BReads w' A' (n + m) (nums (xs ++ ys)) → n + m ≤ c' → Below base w w' → wpList Tryz.prog ops Q rest (a.put o.dst (.slice A' (n + m) c')) w') : wpList Tryz.prog ops Q (o :: rest) a w := by
  obtain ⟨i0, hi0, hz0, hz1, hz2⟩ := info_parts byte_info
  refine wpList_append_any w hgd s x _ ho base 5 i0 _ 1 1 Tryz.underlying22 hi0 hz0 hz1 hz2 rfl (by omega) v n _ hs hown w.heap.size A m c _ hx hr.1 ?_ (by simp only [maxLen]; omega) (by omega) hbase ?_
  · intro u hu
    obtain ⟨i, _, rfl⟩ := List.mem_map.1 hu
    rfl
  · intro v1 w1 own1 grow1 _
    have own1' : w1.ownsRow base 5 1 v1 (n + m) ((nums (xs ++ ys)).map (Value.int .u8)) := by rw [nums_append, List.map_append]; exact own1
    obtain ⟨A', c', rfl, rd, hc⟩ := own_breads own1'
    refine h A' c' w1 own1' rd hc ?_
    exact ⟨grow1.os, grow1.tape, grow1.output, grow1.size, fun i hi => grow1.block i (Nat.lt_of_lt_of_le hi hbase) (fun e => by have := own_block_ge hown i e.symm; omega)⟩

set_option maxRecDepth 100000 in
theorem ucheck_any (s d : Nat) (ns : Bool) (A : Option Addr) (n c : Nat) (hs : s < 65536) (hd : d < 65536) (hn : n ≤ 65527) (w : World) :
    Calls Tryz.prog 571 #[.agg #[.int .i64 s, .int .i64 d, .bool ns, .slice A n c]] w fun r w' => r = .returned (.int .i64 0) ∧ Below w.heap.size w w' := by
  have hb := (Below.refl w.heap.size w).alloc (Nat.le_refl _) (.cells #[.int .i64 s, .int .i64 d, .bool ns, .slice A n c] 64)
  have bk := Blk.new w 64 #[.int .i64 s, .int .i64 d, .bool ns, .slice A n c]
  have hd1 : decide ((65527 : Int) < (n : Int)) = false := by rw [decide_eq_false_iff_not]; omega
  go_enter Tryz.func571, Tryz.ntmps571
  go_wp2_with (go_at_call 231; first | (with_reducible refine (befits_2 s (by omega) (by omega) _).mono ?_; rintro r w' ⟨rfl, rfl⟩) | (with_reducible refine (befits_2 d (by omega) (by omega) _).mono ?_; rintro r w' ⟨rfl, rfl⟩))
  go_ret
  exact ⟨rfl, hb⟩

set_option maxHeartbeats 4000000 in
theorem summed_any (s d : Nat) (hs : s < 4294967296) (hd : d < 4294967296) (A : Option Addr) (n c : Nat) (b : List UInt8) (w : World) (h : BReads w A n (nums b)) (hn : n < 65536) :
    Calls Tryz.prog 572 #[.int .i64 s, .int .i64 d, .slice A n c] w fun r w' => r = .returned (.int .i64 (if sumOf (pseudo s d 17 n ++ b) = 0 then 65535 else sumOf (pseudo s d 17 n ++ b) : Nat)) ∧ Below w.heap.size w w' := by
  have hsum : sumOf (pseudo s d 17 n ++ b) = 65535 - fold (words (pseudo s d 17 n) + words b) := by
    unfold sumOf
    rw [words_even _ _ (by rw [pseudo_len])]
  rw [hsum]
  obtain ⟨X, hX⟩ : ∃ X, 65535 - fold (words (pseudo s d 17 n) + words b) = X := ⟨_, rfl⟩
  rw [hX]
  have HX := Lib.hid hX
  have H := Lib.hid h
  clear h hsum hX
  go_enter Tryz.func572, Tryz.ntmps572
  go_wp2_with fail
  refine (pseudo_any s d 17 n hs hd (by omega) hn _).mono ?_
  rintro r w1 ⟨v1, rfl, own1, b1⟩
  obtain ⟨A1, c1, rfl, rd1, hc1⟩ := own_breads own1
  have RD1 := Lib.hid rd1
  have R2 := Lib.hid (H.out.below b1)
  have B1 := Lib.hid b1
  clear own1 rd1 b1 H
  have hb2 : Below w1.heap.size w1 (w1.alloc (.cells #[.slice A1 12 c1, .slice A n c] 22)) := (Below.refl _ _).alloc (Nat.le_refl _) _
  have bk := Blk.new w1 22 #[.slice A1 12 c1, .slice A n c]
  have hof := Lib.hid (of_2 w1.heap.size 2 ⟨A1, 12, c1, pseudo s d 17 n⟩ ⟨A, n, c, b⟩ _ (BlkP.of_blk bk) (RD1.out.below hb2) (R2.out.below hb2) (by simp only; omega) (by simp only; omega))
  dsimp only at hof
  rw [HX.out] at hof
  have HB2 := Lib.hid (B1.out.trans (hb2.mono B1.out.size))
  clear bk hb2
  go_wp2_with fail
  refine hof.out.mono ?_
  rintro r w2 ⟨rfl, b2⟩
  have B3 := Lib.hid (HB2.out.trans (b2.mono HB2.out.size))
  clear b2 hof
  by_cases hx : X = 0
  · subst hx
    go_wp2
    go_ret
    exact ⟨rfl, B3.out⟩
  · have hd0 : ((X : Int) == 0) = false := by simpa using hx
    go_wp2
    go_ret
    exact ⟨rfl, B3.out⟩
end Go.Proofs.YtampcckdbjbllaaGreatDoor
set_option linter.unusedSimpArgs false
set_option linter.unusedVariables false
namespace Go.Proofs.YtampcckdbjbllaaGreatDoor
open Go.RowKit Go.Shelf Go.Great
attribute [local go_sem] Oper.semAt_some

def hasI (L : List Int) (x : Int) : Bool := L.any (· == x)
theorem hasI_false {L : List Int} {x : Int} (h : ∀ (k : Nat) v, L[k]? = some v → v ≠ x) : hasI L x = false := by
  unfold hasI
  rw [List.any_eq_false]
  intro v hv
  obtain ⟨k, hk⟩ := List.getElem?_of_mem hv
  simpa using h k v hk
theorem hasI_true {L : List Int} {x : Int} {k : Nat} (h : L[k]? = some x) : hasI L x = true := by
  unfold hasI
  rw [List.any_eq_true]
  exact ⟨x, List.mem_of_getElem? h, by simp⟩
theorem index_ints (g o m c : Nat) (L : List Int) (x : Int) (w : World) (hL : L.length = m) (hg : ∀ (k : Nat) v, L[k]? = some v → w.cell? ⟨g, o + k, none⟩ = some (.int .i64 v)) (hm : m ≤ 1048576) :
    Calls Tryz.prog 201 #[.slice (some ⟨g, o, none⟩) m c, .int .i64 x] w fun r w' => (∃ k : Nat, r = .returned (.int .i64 k) ∧ L[k]? = some x ∨ r = .returned (.int .i64 (-1)) ∧ ∀ (k : Nat) v, L[k]? = some v → v ≠ x) ∧ w = w' := by
  have HG := Lib.hid hg
  clear hg
  go_enter Tryz.func201, Tryz.ntmps201
  go_wp2
  go_loopw [8] (fun i wr => ∃ k : Nat, i = .int .i64 k ∧ k ≤ m ∧ (∀ (j : Nat) v, j < k → L[j]? = some v → v ≠ x) ∧ w = wr) (fun i _ => (m - intOf i).toNat)
  case atStart => exact ⟨0, rfl, by omega, fun j v h => by omega, rfl⟩
  case round =>
    obtain ⟨k, rfl, hk, hno, rfl⟩ := hrel
    by_cases hlt : k < m
    · have hd : decide ((k : Int) < (m : Int)) = true := by simp; omega
      obtain ⟨v, hv⟩ : ∃ v, L[k]? = some v := ⟨_, List.getElem?_eq_getElem (by omega)⟩
      have hc := HG.out k v hv
      by_cases hx : x = v
      · subst hx
        have hb : (x == x) = true := by simp
        have HV := Lib.hid hv
        clear hno hv
        go_wp2
        go_ret
        exact ⟨⟨k, .inl ⟨rfl, HV.out⟩⟩, rfl⟩
      · have hb : (x == v) = false := by simpa using hx
        have HNO := Lib.hid hno
        have HV := Lib.hid hv
        clear hno hv
        go_wp2
        refine ⟨⟨k + 1, by congr 1, by omega, fun j u hj hu => ?_, trivial⟩, by simp [intOf]; omega⟩
        rcases Nat.lt_or_ge j k with h | h
        · exact HNO.out j u h hu
        · obtain rfl : j = k := by omega
          rw [HV.out] at hu
          cases hu
          exact fun e => hx e.symm
    · have hd : decide ((k : Int) < (m : Int)) = false := by simp; omega
      have HNO := Lib.hid hno
      clear hno
      go_wp2
      go_ret
      refine ⟨⟨0, .inr ⟨rfl, fun j v hj => HNO.out j v ?_ hj⟩⟩, rfl⟩
      have := (List.getElem?_eq_some_iff.1 hj).1
      omega
theorem contains_ints (g o m c : Nat) (L : List Int) (x : Int) (w : World) (hL : L.length = m) (hg : ∀ (k : Nat) v, L[k]? = some v → w.cell? ⟨g, o + k, none⟩ = some (.int .i64 v)) (hm : m ≤ 1048576) :
    Calls Tryz.prog 111 #[.slice (some ⟨g, o, none⟩) m c, .int .i64 x] w fun r w' => r = .returned (.bool (hasI L x)) ∧ w = w' := by
  have H := Lib.hid (index_ints g o m c L x w hL hg hm)
  obtain ⟨B, hB⟩ : ∃ B, hasI L x = B := ⟨_, rfl⟩
  rw [hB]
  have HB := Lib.hid hB
  clear hg hB
  go_enter Tryz.func111, Tryz.ntmps111
  go_wp2_with fail
  refine H.out.mono ?_
  rintro r w' ⟨⟨k, ⟨rfl, hk⟩ | ⟨rfl, hk⟩⟩, rfl⟩
  · obtain rfl : B = true := by rw [← HB.out]; exact hasI_true hk
    clear hk
    have hd : decide ((0 : Int) ≤ (k : Int)) = true := by simp
    go_wp2
    go_ret
    exact ⟨by simp, rfl⟩
  · obtain rfl : B = false := by rw [← HB.out]; exact hasI_false hk
    clear hk
    go_wp2
    go_ret
    exact ⟨by simp, rfl⟩
theorem ione_any (g m c : Nat) (L : List Int) (x : Int) (w : World) (hL : L.length = m) (hg : ∀ (k : Nat) v, L[k]? = some v → w.cell? ⟨g, 0 + k, none⟩ = some (.int .i64 v)) (hm : m ≤ 1048576) :
    Calls Tryz.prog 402 #[.int .i64 x, .slice (some ⟨g, 0, none⟩) m c] w fun r w' => r = .returned (.bool (hasI L x)) ∧ w = w' := by
  have H := Lib.hid (contains_ints g 0 m c L x w hL hg hm)
  obtain ⟨B, hB⟩ : ∃ B, hasI L x = B := ⟨_, rfl⟩
  rw [hB] at H ⊢
  clear hg hB
  go_enter Tryz.func402, Tryz.ntmps402
  go_wp2_with fail
  refine H.out.mono ?_
  rintro r w' ⟨rfl, rfl⟩
  go_wp2
  go_ret
  exact ⟨rfl, rfl⟩
theorem fault_any (x : Int) (w : World) : Calls Tryz.prog 331 #[.int .i64 x] w fun r w' => r = .returned (.bool (hasI [3, 4, 5, 11, 12] x)) ∧ Below w.heap.size w w' := by
  have hb : Below w.heap.size w (w.alloc (.cells #[.int .i64 3, .int .i64 4, .int .i64 5, .int .i64 11, .int .i64 12] 3)) := (Below.refl _ _).alloc (Nat.le_refl _) _
  have bk := Blk.new w 3 #[.int .i64 3, .int .i64 4, .int .i64 5, .int .i64 11, .int .i64 12]
  have H := Lib.hid (ione_any w.heap.size 5 5 [3, 4, 5, 11, 12] x _ rfl (fun k v hv => by
    rw [Nat.zero_add, bk.cell k]
    have hk := (List.getElem?_eq_some_iff.1 hv).1
    rcases (show k = 0 ∨ k = 1 ∨ k = 2 ∨ k = 3 ∨ k = 4 by simp at hk; omega) with rfl | rfl | rfl | rfl | rfl <;> (cases hv; rfl)) (by omega))
  obtain ⟨B, hB⟩ : ∃ B, hasI [3, 4, 5, 11, 12] x = B := ⟨_, rfl⟩
  rw [hB] at H ⊢
  have HB := Lib.hid hb
  clear bk hb hB
  go_enter Tryz.func331, Tryz.ntmps331
  go_wp2_with fail
  refine H.out.mono ?_
  rintro r w' ⟨rfl, rfl⟩
  go_wp2
  go_ret
  exact ⟨rfl, HB.out⟩

def icC (ty co rest : Nat) (v : Value) : Array Value := #[.int .i64 ty, .int .i64 co, .int .i64 rest, v]
end Go.Proofs.YtampcckdbjbllaaGreatDoor
