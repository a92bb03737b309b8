/-
  six: whether two addresses are one; Host.
-/
import Derived.Test.YtngdomefipcemaaDoorSixH
import Derived.ChangeKeysEq
namespace Go.Proofs.YtngdomefipcemaaDoor
open Go.RowKit Go.Great

theorem byte_cells : Tryd.prog.cellsOf 5 = 1 := by kernel_rfl
theorem items6 (a b : List UInt8) (ha : a.length = 16) (hb : b.length = 16) (w : World) : ∀ (is : List Nat), (∀ i ∈ is, i < 16) →
    (Op.eqItems 9999 5 1 (cells6 a) (cells6 b) is).run Tryd.prog w = .ok (is.all fun i => a.getD i 0 == b.getD i 0) w
  | [], _ => by simp [Op.eqItems]
  | i :: is, h => by
    have hi := h i (by simp)
    have h1 := cells6_at (a := a) (k := i) (by omega)
    have h2 := cells6_at (a := b) (k := i) (by omega)
    have ih := items6 a b ha hb w is (fun j hj => h j (by simp [hj]))
    have hz : (isAgg 5).run Tryd.prog w = .ok false w := Tryd.isAgg5 w
    have hin := run_equalIn_int (P := Tryd.prog) w 9998 5 .u8 .u8 ((a.getD i 0).toNat : Int) ((b.getD i 0).toNat : Int) Tryd.underlying5
    have hd : (((a.getD i 0).toNat : Int) == ((b.getD i 0).toNat : Int)) = (a.getD i 0 == b.getD i 0) := by
      rw [Bool.eq_iff_iff]
      simp only [beq_iff_eq]
      constructor
      · intro e; exact UInt8.toNat_inj.1 (by omega)
      · intro e; rw [e]
    have hp1 : (part 5 (cells6 a) (i * 1)).run Tryd.prog w = .ok (.int .u8 ((a.getD i 0).toNat : Int)) w := by
      simp [part, go_sem, hz, h1]
    have hp2 : (part 5 (cells6 b) (i * 1)).run Tryd.prog w = .ok (.int .u8 ((b.getD i 0).toNat : Int)) w := by
      simp [part, go_sem, hz, h2]
    simp only [Op.eqItems, Sem.run_bind, hp1, hp2, Result.andThen_ok, hin, hd]
    cases hq : (a.getD i 0 == b.getD i 0)
    · rw [List.all_cons, hq]
      simp
    · rw [List.all_cons, hq, Bool.true_and, ← ih]
      simp
theorem eq6 (a b : List UInt8) (ha : a.length = 16) (hb : b.length = 16) (w : World) : (Op.equalIn 10000 31 (.agg (cells6 a)) (.agg (cells6 b))).run Tryd.prog w = .ok (decide (a = b)) w := by
  obtain ⟨i, hi, h1⟩ := Option.map_eq_some_iff.1 byte_size
  rw [Go.run_equalIn_array w 9999 (n := 16) _ _ Tryd.underlying31 hi, byte_cells, items6 a b ha hb w _ (fun j hj => by simpa using hj)]
  congr 1
  rw [Bool.eq_iff_iff, List.all_eq_true, decide_eq_true_iff]
  constructor
  · intro h
    apply List.ext_getElem (by omega)
    intro j h1 h2
    have := h j (by simp; omega)
    simpa [List.getD_eq_getElem?_getD, h1, h2] using this
  · intro e j _
    rw [e]
    simp

def host6V (a : List UInt8) : Bool := !decide (a = zero6) && !(a.getD 0 0 == 255)
theorem zero6_len : zero6.length = 16 := rfl
theorem host_ff (c : UInt8) : (((c.toNat : Int)) == 255) = (c == 255) := by
  rw [Bool.eq_iff_iff]
  simp only [beq_iff_eq]
  constructor
  · intro e; exact UInt8.toNat_inj.1 (by simp; omega)
  · intro e; rw [e]; rfl

def z16 : Array Value := #[.int .u8 0, .int .u8 0, .int .u8 0, .int .u8 0, .int .u8 0, .int .u8 0, .int .u8 0, .int .u8 0, .int .u8 0, .int .u8 0, .int .u8 0, .int .u8 0, .int .u8 0, .int .u8 0, .int .u8 0, .int .u8 0]
set_option maxRecDepth 100000 in
set_option maxHeartbeats 4000000 in
theorem host6_any (a : List UInt8) (ha : a.length = 16) (w : World) : Calls Tryd.prog 25 #[.agg (cells6 a)] w fun r w' => r = .returned (.bool (host6V a)) ∧ Below w.heap.size w w' := by
  have hq := fun W => eq6 a zero6 ha zero6_len W
  have hz : cells6 zero6 = z16 := rfl
  have hsz : (Tryd.prog.info? 31).map (·.size) = some (cells6 a).size := by rw [cells6_size, ha]; exact six_size
  have h0 := cells6_at (a := a) (k := 0) (by omega)
  obtain ⟨x, hx⟩ : ∃ x : Nat, (a.getD 0 0).toNat = x := ⟨_, rfl⟩
  have hv := host_ff (a.getD 0 0)
  rw [hx] at h0 hv
  have HV := Lib.hid (show host6V a = (!decide (a = zero6) && !((x : Int) == 255)) by unfold host6V; rw [hv])
  go_enter Tryd.func25, Tryd.ntmps25
  go_upto_region 2 with fail
  have hb0 : Blk ((w.alloc (.cells (cells6 a) 31)).alloc (.cells z16 31)) w.heap.size 31 (cells6 a) := (Blk.new _ _ _).alloc _
  have hb1 : Blk ((w.alloc (.cells (cells6 a) 31)).alloc (.cells z16 31)) (w.heap.size + 1) 31 z16 := by
    have := Blk.new (w.alloc (.cells (cells6 a) 31)) 31 z16
    simpa using this
  have hbw : Below w.heap.size w ((w.alloc (.cells (cells6 a) 31)).alloc (.cells z16 31)) := ((Below.refl _ _).alloc (Nat.le_refl _) _).alloc (by simp) _
  change Code.wp _ _ _ _ ((w.alloc (.cells (cells6 a) 31)).alloc (.cells z16 31))
  generalize ((w.alloc (.cells (cells6 a) 31)).alloc (.cells z16 31)) = W1 at hb0 hb1 hbw ⊢
  rw [hz] at hq
  have hsz1 : (Tryd.prog.info? 31).map (·.size) = some z16.size := six_size
  have hc := (hb0.cell 0).trans h0
  generalize cells6 a = cs at *
  generalize z16 = Z at *
  apply wp_region_lit
  refine wpList_load_row rfl 31 (.tmp 1) rfl w.heap.size rfl 31 cs (0, 0) _ hb0 Tryd.underlying31 rfl hsz ?_
  refine wpList_load_row rfl 31 (.tmp 3) rfl (w.heap.size + 1) rfl 31 Z (0, 0) _ hb1 Tryd.underlying31 rfl hsz1 ?_
  clear hb0 hb1 h0 hz hx hv hsz hsz1
  by_cases he : a = zero6
  · have hd : decide (a = zero6) = true := decide_eq_true he
    rw [hd] at hq HV
    clear hd he
    go_wp2
    go_ret
    exact ⟨by rw [HV.out]; rfl, hbw⟩
  · have hd : decide (a = zero6) = false := decide_eq_false he
    rw [hd] at hq HV
    clear hd he
    go_wp2
    go_ret
    exact ⟨by rw [HV.out]; rfl, hbw⟩

set_option maxRecDepth 100000 in
set_option maxHeartbeats 4000000 in
theorem rhost6_any (a : List UInt8) (ha : a.length = 16) (w : World) : Calls Tryd.prog 26 #[.agg (cells6 a)] w fun r w' => r = .returned (.bool (host6V a)) ∧ Below w.heap.size w w' := by
  have hq := fun W => eq6 a zero6 ha zero6_len W
  have hz : cells6 zero6 = z16 := rfl
  have hsz : (Tryd.prog.info? 31).map (·.size) = some (cells6 a).size := by rw [cells6_size, ha]; exact six_size
  have h0 := cells6_at (a := a) (k := 0) (by omega)
  obtain ⟨x, hx⟩ : ∃ x : Nat, (a.getD 0 0).toNat = x := ⟨_, rfl⟩
  have hv := host_ff (a.getD 0 0)
  rw [hx] at h0 hv
  have HV := Lib.hid (show host6V a = (!decide (a = zero6) && !((x : Int) == 255)) by unfold host6V; rw [hv])
  go_enter Tryd.func26, Tryd.ntmps26
  go_upto_region 1 with fail
  have hb0 : Blk (w.alloc (.cells (cells6 a) 31)) w.heap.size 31 (cells6 a) := Blk.new _ _ _
  have hbw : Below w.heap.size w (w.alloc (.cells (cells6 a) 31)) := (Below.refl _ _).alloc (Nat.le_refl _) _
  generalize (w.alloc (.cells (cells6 a) 31)) = W1 at hb0 hbw ⊢
  rw [hz] at hq
  have hc := (hb0.cell 0).trans h0
  generalize cells6 a = cs at *
  apply wp_region_lit
  refine wpList_load_row rfl 31 (.tmp 1) rfl w.heap.size rfl 31 cs (0, 0) _ hb0 Tryd.underlying31 rfl hsz ?_
  refine wpList_buildTo rfl 31 _ rfl (some 4) rfl z16 (by kernel_rfl) ?_
  generalize z16 = Z at *
  clear hb0 h0 hz hx hv hsz
  by_cases he : a = zero6
  · have hd : decide (a = zero6) = true := decide_eq_true he
    rw [hd] at hq HV
    clear hd he
    go_wp2
    go_ret
    exact ⟨by rw [HV.out]; rfl, hbw⟩
  · have hd : decide (a = zero6) = false := decide_eq_false he
    rw [hd] at hq HV
    clear hd he
    go_wp2
    go_ret
    exact ⟨by rw [HV.out]; rfl, hbw⟩
end Go.Proofs.YtngdomefipcemaaDoor
