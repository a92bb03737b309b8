/-
  six: strconv.FormatInt to the base 16; the words of an address.
-/
import Derived.Test.YtngdomefipcemaaDoorSixE
import Derived.Test.YtngdomefipcemaaDoorFourH
import Derived.Test.YtngdomefipcemaaDoorQuiet
import Derived.Deep.Cut
import Derived.Great.Walk
import Derived.Great.BuildSlice
import Derived.Laws.CopyOwn
namespace Go.Proofs.YtngdomefipcemaaDoor
open Go.RowKit Go.Great

set_option maxRecDepth 100000 in
theorem fmt_in (n : Nat) (hn : n < 65536) (w : World) (h : Deb w) : Calls Tryd.prog 51 #[.int .i64 n, .int .i64 16] w fun r w' => r = .returned (.string (bs (hex n))) ∧ Below w.heap.size w w' := by
  go_enter Tryd.func51, Tryd.ntmps51
  go_wp2_with fail
  refine (bits_any n hn _ h).mono ?_
  rintro r w' ⟨rfl, bel⟩
  go_wp2
  go_ret
  exact ⟨rfl, bel⟩
set_option maxRecDepth 100000 in
theorem fmt_any (n : Nat) (hn : n < 65536) (w : World) (h : Deb w) : Calls Tryd.prog 41 #[.int .i64 n, .int .i64 16] w fun r w' => r = .returned (.string (bs (hex n))) ∧ Below w.heap.size w w' := by
  go_enter Tryd.func41, Tryd.ntmps41
  go_wp2_with fail
  refine (fmt_in n hn _ h).mono ?_
  rintro r w' ⟨rfl, bel⟩
  go_wp2
  go_ret
  exact ⟨rfl, bel⟩

/-- An address as a value; words as a value. -/
def cells6 (a : List UInt8) : Array Value := ((nums a).map (Value.int .u8)).toArray
def wcells (ws : List Nat) : Array Value := (ws.map fun n : Nat => Value.int .i64 (n : Int)).toArray
theorem cells6_at {a : List UInt8} {k : Nat} (h : k < a.length) : (cells6 a)[k]? = some (.int .u8 ((a.getD k 0).toNat : Int)) := by
  simp [cells6, nums, List.getD_eq_getElem?_getD, h]
theorem cells6_size (a : List UInt8) : (cells6 a).size = a.length := by simp [cells6, nums]
theorem wcells_size (ws : List Nat) : (wcells ws).size = ws.length := by simp [wcells]
theorem wcells_at {ws : List Nat} {k : Nat} (h : k < ws.length) : (wcells ws)[k]? = some (.int .i64 ((ws.getD k 0 : Nat) : Int)) := by
  simp [wcells, List.getD_eq_getElem?_getD, h]
theorem wordsOf_at : ∀ (a : List UInt8) (k : Nat), 2 * k + 1 < a.length → (wordsOf a)[k]? = some ((a.getD (2 * k) 0).toNat * 256 + (a.getD (2 * k + 1) 0).toNat)
  | [], k, h => by simp at h
  | [x], k, h => by simp at h
  | x :: y :: r, 0, h => by simp [wordsOf]
  | x :: y :: r, k + 1, h => by
    have ih := wordsOf_at r k (by simp at h; omega)
    unfold wordsOf
    rw [List.getElem?_cons_succ, ih, show 2 * (k + 1) = 2 * k + 1 + 1 by omega, show 2 * k + 1 + 1 + 1 = (2 * k + 1) + 1 + 1 by omega]
    simp

theorem int8_size : (Tryd.prog.info? 52).map (·.size) = some 8 := by kernel_rfl
theorem six_size : (Tryd.prog.info? 31).map (·.size) = some 16 := by kernel_rfl
def z8 : Array Value := #[.int .i64 0, .int .i64 0, .int .i64 0, .int .i64 0, .int .i64 0, .int .i64 0, .int .i64 0, .int .i64 0]

set_option maxRecDepth 100000 in
set_option maxHeartbeats 4000000 in
theorem words_any (a : List UInt8) (ha : a.length = 16) (w : World) : Calls Tryd.prog 40 #[.agg (cells6 a)] w fun r w' => r = .returned (.agg (wcells (wordsOf a))) ∧ Below w.heap.size w w' := by
  have hat := fun k (h : k < 16) => cells6_at (a := a) (k := k) (by omega)
  have hca : ∀ k, k < 8 → (wcells (wordsOf a))[k]? = some (.int .i64 ((a.getD (2 * k) 0).toNat * 256 + (a.getD (2 * k + 1) 0).toNat : Nat)) := fun k hk => by
    have h1 := wordsOf_at a k (by omega)
    simp [wcells, h1]
  obtain ⟨C, hC⟩ : ∃ C, wcells (wordsOf a) = C := ⟨_, rfl⟩
  have hCs : C.size = 8 := by rw [← hC, wcells_size, wordsOf_len 8 a (by omega)]
  have hC1 : C.all (·.oneCell') = true := by rw [← hC]; simp [wcells, Value.oneCell']
  obtain ⟨cs, hcs⟩ : ∃ cs, cells6 a = cs := ⟨_, rfl⟩
  rw [hC] at hca ⊢
  rw [hcs] at hat ⊢
  have HAT := Lib.hid hat
  have HCA := Lib.hid hca
  have HC1 := Lib.hid hC1
  have hC1sz : (Tryd.prog.info? 52).map (·.size) = some C.size := by rw [hCs]; exact int8_size
  have HCSZ := Lib.hid hC1sz
  clear hcs hC hat hca hC1 hC1sz
  go_enter Tryd.func40, Tryd.ntmps40
  go_wp2
  have hb0 : Blk (((w.alloc (.cells cs 31)).alloc (.cells z8 52)).alloc (.cells z8 52)) w.heap.size 31 cs := ((Blk.new _ _ _).alloc _).alloc _
  have hb1 : Blk (((w.alloc (.cells cs 31)).alloc (.cells z8 52)).alloc (.cells z8 52)) (w.heap.size + 1) 52 z8 := by
    have := (Blk.new (w.alloc (.cells cs 31)) 52 z8).alloc (.cells z8 52)
    simpa using this
  have hb2 : Blk (((w.alloc (.cells cs 31)).alloc (.cells z8 52)).alloc (.cells z8 52)) (w.heap.size + 1 + 1) 52 z8 := by
    have := Blk.new ((w.alloc (.cells cs 31)).alloc (.cells z8 52)) 52 z8
    simpa using this
  have hbw : Below w.heap.size w (((w.alloc (.cells cs 31)).alloc (.cells z8 52)).alloc (.cells z8 52)) := (((Below.refl _ _).alloc (Nat.le_refl _) _).alloc (by simp) _).alloc (by simp; omega) _
  unfold z8 at hb0 hb1 hb2 hbw
  generalize (((w.alloc (.cells cs 31)).alloc (.cells _ 52)).alloc (.cells _ 52)) = W1 at hb0 hb1 hb2 hbw ⊢
  change Blk W1 _ _ z8 at hb1
  change Blk W1 _ _ z8 at hb2
  have HB0 := Lib.hid hb0
  have HB1 := Lib.hid hb1
  have HB2 := Lib.hid hb2
  have HBW := Lib.hid hbw
  clear hb0 hb1 hb2 hbw
  go_loopw [5] (fun i wr => ∃ (k : Nat) (cur : Array Value), k ≤ 8 ∧ i = .int .i64 k ∧ Blk wr (w.heap.size + 1 + 1) 52 cur ∧ cur.size = 8 ∧ (∀ j, j < k → cur[j]? = C[j]?) ∧ Below w.heap.size w wr ∧ Blk wr w.heap.size 31 cs ∧ Blk wr (w.heap.size + 1) 52 z8) (fun i _ => 8 - (intOf i).toNat)
  case atStart => exact ⟨0, z8, by omega, rfl, HB2.out, rfl, fun j h => absurd h (by omega), HBW.out, HB0.out, HB1.out⟩
  case round =>
    obtain ⟨k, cur, hk, rfl, hb2, hsz, hcur, hbw, hb0, hb1⟩ := hrel
    clear HB0 HB1 HB2 HBW
    by_cases h8 : k < 8
    · have e0 := (hb0.cell (2 * k)).trans (HAT.out (2 * k) (by omega))
      have e1 := (hb0.cell (2 * k + 1)).trans (HAT.out (2 * k + 1) (by omega))
      have hc8 := HCA.out k h8
      obtain ⟨x, hx⟩ : ∃ x : Nat, (a.getD (2 * k) 0).toNat = x := ⟨_, rfl⟩
      obtain ⟨y, hy⟩ : ∃ y : Nat, (a.getD (2 * k + 1) 0).toNat = y := ⟨_, rfl⟩
      have hxl : x < 256 := by rw [← hx]; exact UInt8.toNat_lt _
      have hyl : y < 256 := by rw [← hy]; exact UInt8.toNat_lt _
      rw [hx] at e0 hc8
      rw [hy] at e1 hc8
      have hor := or_byte x y (by omega) hyl
      have hcell := hb2.cell k
      have hfz := hb2.frozen k
      rw [Array.getElem?_eq_getElem (by omega : k < cur.size)] at hcell
      obtain ⟨old, hold⟩ : ∃ old, cur[k] = old := ⟨_, rfl⟩
      rw [hold] at hcell
      have hlt2 := hb2.lt
      have HB0 := Lib.hid hb0
      have HB1 := Lib.hid hb1
      have HB2 := Lib.hid hb2
      have HBW := Lib.hid hbw
      have HCUR := Lib.hid hcur
      have HC8 := Lib.hid hc8
      have HOR := Lib.hid hor
      clear hb0 hb1 hb2 hbw hx hy hold hcur hc8 hor
      go_wp2_with fail
      have d0 := fun p : After wr => p.read e0
      have d1 := fun p : After wr => p.read e1
      refine wp_after_tail 15 (by kernel_rfl) (by kernel_rfl) ?_
      simp only [List.take_succ_cons, List.take_zero, List.drop_succ_cons, List.drop_zero]
      repeat (go_big_quiet_step (fail))
      refine wpQuiet_nil ?_
      intro w' hw'
      obtain ⟨p, rfl⟩ := hw'
      have x2 := p.frozen (a := ⟨w.heap.size + 1 + 1, k, none⟩) hlt2 hfz
      have x3 := p.read hcell
      go_wp2
      rw [HOR.out]
      have hc8' : C[k]? = some (.int .i64 ((x : Int) * 256 + y)) := by rw [HC8.out]; congr 2
      refine ⟨⟨k + 1, _, h8, by go_num, (HB2.out.below p.below hlt2).set_ k _, by simpa using hsz, fun j hj => ?_, (HBW.out.trans (p.below.mono HBW.out.size)).setCell (p := ⟨w.heap.size + 1 + 1, k, none⟩) (by simp only; omega) _, (HB0.out.below p.below HB0.out.lt).far (by simp only; omega) _, (HB1.out.below p.below HB1.out.lt).far (by simp only; omega) _⟩, by simp [intOf]; omega⟩
      rw [Array.getElem?_setIfInBounds]
      by_cases e : k = j
      · subst e
        rw [if_pos rfl, if_pos (by omega), hc8']
      · rw [if_neg e]
        exact HCUR.out j (by omega)
    · obtain rfl : k = 8 := by omega
      have hcC : cur = C := by
        apply Array.ext_getElem?
        intro j
        by_cases hj : j < 8
        · exact hcur j hj
        · rw [Array.getElem?_eq_none (by omega), Array.getElem?_eq_none (by omega)]
      subst hcC
      have HB1 := Lib.hid hb1
      have HB2 := Lib.hid hb2
      have HBW := Lib.hid hbw
      clear hb0 hb1 hb2 hbw hcur
      go_upto_region 7 with fail
      apply wp_region_lit
      refine wpList_load_row rfl 52 (.tmp 3) rfl (w.heap.size + 1 + 1) rfl 52 _ (0, 0) _ HB2.out Tryd.underlying52 rfl HCSZ.out ?_
      refine wpList_store_row rfl 52 (.tmp 2) (.tmp 24) rfl (w.heap.size + 1) _ rfl rfl 52 z8 HB1.out HCSZ.out (by rw [hsz]; rfl) HC1.out ?_
      go_wp2_with fail
      refine bodyPost_ret (v := .agg cur) ?_ rfl ⟨rfl, below_setRow HBW.out (by omega) _⟩
      exact results_cell_row rfl _ _ (w.heap.size + 1) 52 cur (0, 0) _ rfl (setRow_heap _ _ z8 cur _ _ HB1.out) Tryd.underlying52 rfl HCSZ.out
end Go.Proofs.YtngdomefipcemaaDoor
