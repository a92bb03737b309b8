/-
  six: which one of two addresses stands ahead.
-/
import Derived.Test.YtngdomefipcemaaDoorSixI
import Derived.Lib.BytesEntry
namespace Go.Proofs.YtngdomefipcemaaDoor
open Go.RowKit Go.Great

theorem bytes_nums (a : List UInt8) : Lib.bytesOf (nums a) = a := by
  unfold Lib.bytesOf nums
  rw [List.map_map]
  have : (fun x : UInt8 => ((x.toNat : Int)).toNat.toUInt8) = id := by funext x; simp
  exact (congrArg (fun f => List.map f a) this).trans (List.map_id _)
theorem load6 {g : Nat} {a : List UInt8} {t : TypeId} {w : World} (hb : Blk w g t (cells6 a)) : (Extern.Bytes.loadBytes ⟨g, 0, none⟩ a.length .empty).run Tryd.prog w = .ok ⟨a.toArray⟩ w := by
  have := Lib.run_loadBytesX (P := Tryd.prog) w (nums a) ⟨g, 0, none⟩ .empty (fun j x hj => by
    have hjl : j < (nums a).length := (List.getElem?_eq_some_iff.1 hj).1
    rw [nums_length] at hjl
    have e : (⟨g, 0, none⟩ : Addr).add j = ⟨g, j, none⟩ := by unfold Addr.add; split <;> simp_all
    rw [e, hb.cell j]
    unfold cells6
    simp [hj])
  rw [nums_length, bytes_nums] at this
  rw [this]
  congr 1
  apply ByteArray.ext
  show (#[] : Array UInt8) ++ a.toArray = a.toArray
  simp
theorem run_cmp6 {g1 g2 : Nat} {a b : List UInt8} {t : TypeId} {w : World} (h1 : Blk w g1 t (cells6 a)) (h2 : Blk w g2 t (cells6 b)) (c1 c2 : Nat) :
    (Extern.BytealgCompare.compare #[.slice (some ⟨g1, 0, none⟩) a.length c1, .slice (some ⟨g2, 0, none⟩) b.length c2]).run Tryd.prog w = .ok (.int .i64 (Lib.compareBytes a b)) w := by
  change Sem.run Tryd.prog (do pure (goInt (Extern.BytealgCompare.cmp (← Extern.Bytes.bytesOf (.slice (some ⟨g1, 0, none⟩) a.length c1)) (← Extern.Bytes.bytesOf (.slice (some ⟨g2, 0, none⟩) b.length c2))))) w = _
  simp only [Extern.Bytes.bytesOf, Sem.run_bind, Sem.run_pure, Result.andThen, load6 h1, load6 h2]
  rw [Lib.cmp_eq]
  rfl

def less6 (a b : List UInt8) : Bool := decide (Lib.compareBytes a b < 0)

set_option maxRecDepth 100000 in
theorem cmp6_any {g1 g2 : Nat} {a b : List UInt8} (ha : a.length = 16) (hb : b.length = 16) {t : TypeId} {w : World} (h1 : Blk w g1 t (cells6 a)) (h2 : Blk w g2 t (cells6 b)) :
    Calls Tryd.prog 43 #[.slice (some ⟨g1, 0, none⟩) 16 16, .slice (some ⟨g2, 0, none⟩) 16 16] w fun r w' => r = .returned (.int .i64 (Lib.compareBytes a b)) ∧ w = w' := by
  have hr := run_cmp6 h1 h2 16 16
  rw [ha, hb] at hr
  go_enter Tryd.func43, Tryd.ntmps43
  go_wp2
  rw [run_callFunc_extern Tryd.func52 (by kernel_rfl) (by kernel_rfl) (by kernel_rfl) (e := Extern.BytealgCompare.compare) (by kernel_rfl), hr]
  simp only [Result.andThen]
  rw [Oper.upon_value]
  go_wp2
  go_ret
  exact ⟨rfl, rfl⟩

set_option maxRecDepth 100000 in
set_option maxHeartbeats 4000000 in
theorem less6_any (a b : List UInt8) (ha : a.length = 16) (hb : b.length = 16) (w : World) : Calls Tryd.prog 27 #[.agg (cells6 a), .agg (cells6 b)] w fun r w' => r = .returned (.bool (less6 a b)) ∧ Below w.heap.size w w' := by
  go_enter Tryd.func27, Tryd.ntmps27
  go_upto_region 1 with fail
  have hb0 : Blk ((w.alloc (.cells (cells6 a) 31)).alloc (.cells (cells6 b) 31)) w.heap.size 31 (cells6 a) := (Blk.new _ _ _).alloc _
  have hb1 : Blk ((w.alloc (.cells (cells6 a) 31)).alloc (.cells (cells6 b) 31)) (w.heap.size + 1) 31 (cells6 b) := by
    have := Blk.new (w.alloc (.cells (cells6 a) 31)) 31 (cells6 b)
    simpa using this
  have hbw : Below w.heap.size w ((w.alloc (.cells (cells6 a) 31)).alloc (.cells (cells6 b) 31)) := ((Below.refl _ _).alloc (Nat.le_refl _) _).alloc (by simp) _
  generalize ((w.alloc (.cells (cells6 a) 31)).alloc (.cells (cells6 b) 31)) = W1 at hb0 hb1 hbw ⊢
  have HC := Lib.hid (fun q : Nat => cmp6_any (w := W1.drewN q) ha hb (hb0.drewN q) (hb1.drewN q))
  clear hb0 hb1
  generalize cells6 a = cs at HC ⊢
  generalize cells6 b = cs' at HC ⊢
  go_quiet ((go_at_call 43; refine Calls.quiet_of_same ((HC.out _).mono fun e w' h => ⟨h.1, h.2.symm⟩)))
  go_wp2
  go_ret
  exact ⟨rfl, below_drewN hbw _⟩

theorem cmp_prefix (p u v : List UInt8) : Lib.compareBytes (p ++ u) (p ++ v) = Lib.compareBytes u v := by
  induction p with
  | nil => rfl
  | cons x p ih =>
    have hlt : ¬ x < x := UInt8.lt_irrefl x
    rw [List.cons_append, List.cons_append, Lib.compareBytes, if_neg hlt, if_neg hlt, ih]
theorem cmp_same (a : List UInt8) : Lib.compareBytes a a = 0 := by
  have := cmp_prefix a [] []
  rw [List.append_nil] at this
  rw [this]
  rfl
theorem split_at (a : List UInt8) (k : Nat) (h : k < a.length) : a = a.take k ++ a.getD k 0 :: a.drop (k + 1) := by
  have h1 : a.drop k = a.getD k 0 :: a.drop (k + 1) := by
    rw [List.drop_eq_getElem_cons h]
    simp [List.getD_eq_getElem?_getD, h]
  rw [← h1, List.take_append_drop]
theorem less_at {a b : List UInt8} {k : Nat} (hk : k < a.length) (hk' : k < b.length) (ht : a.take k = b.take k) (hne : a.getD k 0 ≠ b.getD k 0) : less6 a b = decide ((a.getD k 0).toNat < (b.getD k 0).toNat) := by
  unfold less6
  rw [split_at a k hk, split_at b k hk', ht, cmp_prefix]
  have e1 : ∀ (p r : List UInt8) (x : UInt8), p.length = k → (p ++ x :: r).getD k 0 = x := by
    intro p r x hp
    subst hp
    simp
  rw [e1 _ _ _ (by rw [List.length_take]; omega), e1 _ _ _ (by rw [List.length_take]; omega)]
  generalize a.getD k 0 = x at hne
  generalize b.getD k 0 = y at hne
  rw [Lib.compareBytes]
  by_cases h : x < y
  · rw [if_pos h]
    have : x.toNat < y.toNat := UInt8.lt_iff_toNat_lt.1 h
    simp [this]
  · rw [if_neg h]
    have h1 : ¬ x.toNat < y.toNat := fun e => h (UInt8.lt_iff_toNat_lt.2 e)
    have h2 : y < x := UInt8.lt_iff_toNat_lt.2 (by
      have : x.toNat ≠ y.toNat := fun e => hne (UInt8.toNat_inj.1 e)
      omega)
    rw [if_pos h2]
    simp [h1]
theorem cmp_anti : ∀ (a b : List UInt8), a.length = b.length → Lib.compareBytes a b = - Lib.compareBytes b a ∧ (Lib.compareBytes a b = 0 → a = b)
  | [], [], _ => ⟨rfl, fun _ => rfl⟩
  | [], _ :: _, h => by simp at h
  | _ :: _, [], h => by simp at h
  | x :: a, y :: b, h => by
    obtain ⟨i1, i2⟩ := cmp_anti a b (by simpa using h)
    simp only [Lib.compareBytes]
    by_cases h1 : x < y
    · have h2 : ¬ y < x := fun e => by have := UInt8.lt_iff_toNat_lt.1 h1; have := UInt8.lt_iff_toNat_lt.1 e; omega
      rw [if_pos h1, if_neg h2, if_pos h1]
      exact ⟨rfl, fun e => by cases e⟩
    · by_cases h2 : y < x
      · rw [if_neg h1, if_pos h2, if_pos h2]
        exact ⟨rfl, fun e => by cases e⟩
      · rw [if_neg h1, if_neg h2, if_neg h2, if_neg h1]
        refine ⟨i1, fun e => ?_⟩
        have : x = y := UInt8.toNat_inj.1 (by
          have a1 : ¬ x.toNat < y.toNat := fun e => h1 (UInt8.lt_iff_toNat_lt.2 e)
          have a2 : ¬ y.toNat < x.toNat := fun e => h2 (UInt8.lt_iff_toNat_lt.2 e)
          omega)
        rw [this, i2 e]
/-- Of two that differ one stands ahead. -/
theorem less_law (a b : List UInt8) (h : a.length = b.length) : (decide (a = b) == (!less6 a b && !less6 b a)) = true ∧ (less6 a b && less6 b a) = false := by
  obtain ⟨h1, h2⟩ := cmp_anti a b h
  unfold less6
  generalize hx : Lib.compareBytes a b = x at h1 h2
  generalize Lib.compareBytes b a = y at h1
  by_cases e : a = b
  · subst e
    rw [cmp_same] at hx
    subst hx
    obtain rfl : y = 0 := by omega
    simp
  · have hx0 : x ≠ 0 := fun e' => e (h2 e')
    rcases Int.lt_or_gt_of_ne hx0 with hl | hl
    · have hy : ¬ y < 0 := by omega
      simp [e, hl, hy]
    · have hy : y < 0 := by omega
      have hl' : ¬ x < 0 := by omega
      simp [e, hl', hy]
end Go.Proofs.YtngdomefipcemaaDoor
