/-
  six: an address of words.
-/
import Derived.Test.YtngdomefipcemaaDoorSixK
import Derived.Test.YtngdomefipcemaaDoorRows2
namespace Go.Proofs.YtngdomefipcemaaDoor
open Go.RowKit Go.Great

def stZ (zs : List Int) : Nat → List UInt8
  | 0 => zero6
  | k + 1 => put6 (stZ zs k) k ((zs.getD k 0) % 65536).toNat
def of6 (zs : List Int) : List UInt8 := stZ zs (min zs.length 8)
theorem stZ_len (zs : List Int) : ∀ k, (stZ zs k).length = 16
  | 0 => rfl
  | k + 1 => by rw [stZ, put6_len, stZ_len zs k]
theorem cells6_set (a : List UInt8) (j : Nat) (c : UInt8) : (cells6 a).setIfInBounds j (.int .u8 (c.toNat : Int)) = cells6 (a.set j c) := by
  unfold cells6 nums
  simp [List.map_set]
theorem cells6_put (a : List UInt8) (k n : Nat) (h : n < 65536) : ((cells6 a).setIfInBounds (2 * k) (.int .u8 ((n / 256 : Nat) : Int))).setIfInBounds (2 * k + 1) (.int .u8 ((n % 256 : Nat) : Int)) = cells6 (put6 a k n) := by
  have e1 : (UInt8.ofNat (n / 256)).toNat = n / 256 := by simp; omega
  have e2 : (UInt8.ofNat (n % 256)).toNat = n % 256 := by simp
  unfold put6
  rw [← cells6_set, ← cells6_set, e1, e2]
theorem cells6_one (a : List UInt8) : (cells6 a).all (·.oneCell') = true := by
  simp [cells6, nums, Value.oneCell']
theorem six_of {a : List UInt8} (h : a.length = 16) : (Tryd.prog.info? 31).map (·.size) = some (cells6 a).size := by rw [cells6_size, h]; exact six_size

set_option maxRecDepth 100000 in
set_option maxHeartbeats 4000000 in
theorem of6_any (A : Option Addr) (n c : Nat) (zs : List Int) (w : World) (h : IntRow .i64 w A n zs) : Calls Tryd.prog 29 #[.slice A n c] w fun r w' => r = .returned (.agg (cells6 (of6 zs))) ∧ Below w.heap.size w w' := by
  have hzl : zs.length = n := h.2.1
  have hn := h.1
  have H := Lib.hid h
  clear h
  go_enter Tryd.func29, Tryd.ntmps29
  go_wp2
  have hb0 : Blk ((w.alloc (.cells z16 31)).alloc (.cells z16 31)) w.heap.size 31 z16 := (Blk.new _ _ _).alloc _
  have hb1 : Blk ((w.alloc (.cells z16 31)).alloc (.cells z16 31)) (w.heap.size + 1) 31 z16 := by
    have := Blk.new (w.alloc (.cells z16 31)) 31 z16
    simpa using this
  have hbw : Below w.heap.size w ((w.alloc (.cells z16 31)).alloc (.cells z16 31)) := ((Below.refl _ _).alloc (Nat.le_refl _) _).alloc (by simp) _
  change Code.wp _ _ _ _ ((w.alloc (.cells z16 31)).alloc (.cells z16 31))
  generalize ((w.alloc (.cells z16 31)).alloc (.cells z16 31)) = W1 at hb0 hb1 hbw ⊢
  have HB0 := Lib.hid hb0
  have HB1 := Lib.hid hb1
  have HBW := Lib.hid hbw
  clear hb0 hb1 hbw
  go_loopw [8] (fun i wr => ∃ k : Nat, i = .int .i64 k ∧ k ≤ n ∧ k ≤ 8 ∧ Blk wr w.heap.size 31 z16 ∧ Blk wr (w.heap.size + 1) 31 (cells6 (stZ zs k)) ∧ Below w.heap.size w wr) (fun i _ => n - (intOf i).toNat)
  case atStart => exact ⟨0, rfl, by omega, by omega, HB0.out, HB1.out, HBW.out⟩
  case round =>
    obtain ⟨k, rfl, hk, hk8, hb0, hb1, hbw⟩ := hrel
    clear HB0 HB1 HBW
    have hsz := six_of (stZ_len zs k)
    have hone := cells6_one (stZ zs k)
    have hlen : z16.size = (cells6 (stZ zs k)).size := by rw [cells6_size, stZ_len]; rfl
    by_cases hlt : k < n
    · obtain ⟨b, off, z, rfl, hbl, hcell, hz, hwf⟩ := H.out.at_ hbw hlt
      have hcell' := hcell
      by_cases h8 : k = 8
      · subst h8
        have hof : cells6 (of6 zs) = cells6 (stZ zs 8) := by unfold of6; rw [Nat.min_eq_right (by omega)]
        have HB0 := Lib.hid hb0
        have HB1 := Lib.hid hb1
        have HBW := Lib.hid hbw
        have HSZ := Lib.hid hsz
        have HONE := Lib.hid hone
        have HLEN := Lib.hid hlen
        clear hsz hone hlen hwf hz hcell'
        generalize cells6 (stZ zs 8) = C at *
        have HOF := Lib.hid hof
        clear hof hb0 hb1 hbw
        go_upto_region 8 with fail
        apply wp_region_lit
        refine wpList_load_row rfl 31 (.tmp 3) rfl (w.heap.size + 1) rfl 31 C (0, 0) _ HB1.out Tryd.underlying31 rfl HSZ.out ?_
        refine wpList_store_row rfl 31 (.tmp 2) (.tmp 28) rfl w.heap.size C rfl rfl 31 z16 HB0.out HSZ.out HLEN.out HONE.out ?_
        go_wp2_with fail
        refine bodyPost_ret (v := .agg C) ?_ rfl ⟨by rw [HOF.out], below_setRow HBW.out (Nat.le_refl _) _⟩
        exact results_cell_row rfl _ _ w.heap.size 31 C (0, 0) _ rfl (setRow_heap _ _ z16 C _ _ HB0.out) Tryd.underlying31 rfl HSZ.out
      · have hk9 : k < 8 := by omega
        obtain ⟨N, hN⟩ : ∃ N : Nat, (z % 65536).toNat = N := ⟨_, rfl⟩
        have hNl : N < 65536 := by omega
        have q1 : z / 256 % 256 = ((N / 256 : Nat) : Int) := by omega
        have q2 : z % 256 = ((N % 256 : Nat) : Int) := by omega
        have hst : cells6 (stZ zs (k + 1)) = ((cells6 (stZ zs k)).setIfInBounds (2 * k) (.int .u8 (z / 256 % 256))).setIfInBounds (2 * k + 1) (.int .u8 (z % 256)) := by
          rw [q1, q2, cells6_put _ _ _ hNl, ← hN, hz]
          rfl
        have c0 := hb1.cell (2 * k)
        have c1 := (hb1.set_ (2 * k) (.int .u8 (z / 256 % 256))).cell (2 * k + 1)
        have f0 := hb1.frozen (2 * k)
        have f1 := (hb1.set_ (2 * k) (.int .u8 (z / 256 % 256))).frozen (2 * k + 1)
        have s16 : (cells6 (stZ zs k)).size = 16 := by rw [cells6_size, stZ_len]
        rw [Array.getElem?_eq_getElem (by omega)] at c0
        rw [Array.getElem?_eq_getElem (by rw [Array.size_setIfInBounds]; omega)] at c1
        obtain ⟨u0, hu0⟩ : ∃ u, (cells6 (stZ zs k))[2 * k]'(by omega) = u := ⟨_, rfl⟩
        obtain ⟨u1, hu1⟩ : ∃ u, ((cells6 (stZ zs k)).setIfInBounds (2 * k) (.int .u8 (z / 256 % 256)))[2 * k + 1]'(by rw [Array.size_setIfInBounds]; omega) = u := ⟨_, rfl⟩
        rw [hu0] at c0
        rw [hu1] at c1
        have HB0 := Lib.hid hb0
        have HB1 := Lib.hid hb1
        have HBW := Lib.hid hbw
        have HST := Lib.hid hst
        clear hb0 hb1 hbw hsz hone hlen hz hu0 hu1 hst s16 hN q1 q2 hcell'
        generalize cells6 (stZ zs k) = C at *
        go_wp2
        refine ⟨⟨k + 1, by go_num, hlt, hk9, (HB0.out.far (by simp only; omega) _).far (by simp only; omega) _, ?_, (HBW.out.setCell (p := ⟨w.heap.size + 1, 2 * k, none⟩) (by simp only; omega) _).setCell (p := ⟨w.heap.size + 1, 2 * k + 1, none⟩) (by simp only; omega) _⟩, by simp [intOf]; omega⟩
        rw [HST.out]
        exact (HB1.out.set_ _ _).set_ _ _
    · obtain rfl : k = n := by omega
      have hof : cells6 (of6 zs) = cells6 (stZ zs k) := by unfold of6; rw [Nat.min_eq_left (by omega), hzl]
      have HB0 := Lib.hid hb0
      have HB1 := Lib.hid hb1
      have HBW := Lib.hid hbw
      have HSZ := Lib.hid hsz
      have HONE := Lib.hid hone
      have HLEN := Lib.hid hlen
      clear hsz hone hlen
      generalize cells6 (stZ zs k) = C at *
      have HOF := Lib.hid hof
      clear hof hb0 hb1 hbw
      go_upto_region 8 with fail
      apply wp_region_lit
      refine wpList_load_row rfl 31 (.tmp 3) rfl (w.heap.size + 1) rfl 31 C (0, 0) _ HB1.out Tryd.underlying31 rfl HSZ.out ?_
      refine wpList_store_row rfl 31 (.tmp 2) (.tmp 28) rfl w.heap.size C rfl rfl 31 z16 HB0.out HSZ.out HLEN.out HONE.out ?_
      go_wp2_with fail
      refine bodyPost_ret (v := .agg C) ?_ rfl ⟨by rw [HOF.out], below_setRow HBW.out (Nat.le_refl _) _⟩
      exact results_cell_row rfl _ _ w.heap.size 31 C (0, 0) _ rfl (setRow_heap _ _ z16 C _ _ HB0.out) Tryd.underlying31 rfl HSZ.out
end Go.Proofs.YtngdomefipcemaaDoor
