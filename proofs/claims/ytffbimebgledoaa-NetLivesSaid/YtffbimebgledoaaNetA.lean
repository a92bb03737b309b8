/-
  net: slices.Delete of one item out of a row of items of the call's own: the walk.
-/
import Derived.Test.YtffbimebgledoaaRows
import Derived.Test.YtffbimebgledoaaBase
import Derived.Test.YtffbimebgledoaaAppend
import Derived.Test.YtffbimebgledoaaClone
import Derived.Test.YtffbimebgledoaaBytes
import Derived.WalkKit
import Derived.WalkSpells
import Derived.Lib.Hide
import Derived.Lib.SliceRun
import Derived.Deep.RegionLaw
namespace Go.Proofs.Ytffbimebgledoaa
open Go.RowKit

/-- Cells written one by one. -/
def over : Array Value → Nat → List Value → Array Value
  | cs, _, [] => cs
  | cs, o, v :: r => over (cs.setIfInBounds o v) (o + 1) r
theorem Blk.sets {g : Nat} {t : TypeId} : ∀ (vs : List Value) (o : Nat) (cs : Array Value) (w : World), Blk w g t cs → Blk (w.setCells g o vs) g t (over cs o vs)
  | [], _, _, _, h => h
  | v :: r, o, _, _, h => Blk.sets r (o + 1) _ _ (h.set_ o v)
theorem over_size : ∀ (vs : List Value) (o : Nat) (cs : Array Value), (over cs o vs).size = cs.size
  | [], _, _ => rfl
  | v :: r, o, cs => (over_size r (o + 1) _).trans (by simp)
theorem over_get : ∀ (vs : List Value) (o : Nat) (cs : Array Value) (i : Nat), o + vs.length ≤ cs.size → (over cs o vs)[i]? = if o ≤ i ∧ i < o + vs.length then vs[i - o]? else cs[i]?
  | [], o, cs, i, _ => by rw [if_neg (by simp <;> omega)]; rfl
  | v :: r, o, cs, i, h => by
    simp only [List.length_cons] at h
    rw [over, over_get r (o + 1) _ i (by simp <;> omega)]
    by_cases h1 : o + 1 ≤ i ∧ i < o + 1 + r.length
    · rw [if_pos h1, if_pos (by simp <;> omega), show i - o = (i - (o + 1)) + 1 by omega, List.getElem?_cons_succ]
    · rw [if_neg h1]
      by_cases h2 : i = o
      · subst h2
        rw [if_pos (by simp), Nat.sub_self, Array.getElem?_setIfInBounds_self_of_lt (by omega)]
        rfl
      · rw [if_neg (by simp <;> omega), Array.getElem?_setIfInBounds_ne (by omega)]
theorem only_setCells {a : World} {g : Nat} : ∀ (vs : List Value) (o : Nat) {w : World}, a.grownBy w (some g) → a.grownBy (w.setCells g o vs) (some g)
  | [], _, _, h => h
  | v :: r, o, _, h => only_setCells r (o + 1) (only_setCell h (.inl rfl) v)

theorem item_info : (Try.prog.info? 42).map (fun i => (i.zero, i.size, i.bytes)) = some (some (.agg #[.int .i64 0, .bool false, .slice none 0 0]), 3, 40) := by kernel_rfl
theorem item_zero (w : World) : (zeroValue 42).run Try.prog w = .ok (.agg #[.int .i64 0, .bool false, .slice none 0 0]) w := by kernel_rfl

abbrev zero3 : List Value := [.int .i64 0, .bool false, .slice none 0 0]

theorem run_clear_item (w : World) (ty : TypeId) (b o c : Nat) (hc : ∀ j, j < 3 → (w.cell? ⟨b, o + j, none⟩).isSome = true) (hf : ∀ j, j < 3 → w.frozen? ⟨b, o + j, none⟩ = false) :
    (Builtin.clear_ #[53] ty #[.slice (some ⟨b, o, none⟩) 1 c]).run Try.prog w = .ok (.tuple #[]) (w.setCells b o zero3) := by
  have hst := run_storeCells_cells (P := Try.prog) b o zero3 0 w (by simpa using hc) (by simpa using hf) (by intro v hv'; simp at hv'; rcases hv' with rfl | rfl | rfl <;> rfl)
  simp only [Nat.add_zero] at hst
  have hzc : (Builtin.zeroCells (Value.agg #[.int .i64 0, .bool false, .slice none 0 0]).cells 1).toList = zero3 := by kernel_rfl
  simp [Builtin.clear_, run_underlying Try.underlying53, item_zero w, hzc, hst]

/-- The cells behind a deletion. -/
theorem del_cells {cur : Array Value} {xs : List Value} {n cap k : Nat} (hs : cur.size = cap * 3) (hn : n ≤ cap) (hk : k < n) (ht : cur.toList.take (n * 3) = xs) :
    (over (over cur (k * 3) (xs.drop (k * 3 + 3))) ((n - 1) * 3) zero3).toList.take ((n - 1) * 3) = xs.take (k * 3) ++ xs.drop (k * 3 + 3) := by
  have hl : xs.length = n * 3 := by rw [← ht, List.length_take]; simp; omega
  have hx : ∀ i, i < n * 3 → xs[i]? = cur[i]? := fun i hi => by rw [← ht, List.getElem?_take, if_pos hi, Array.getElem?_toList]
  apply List.ext_getElem?
  intro i
  rw [List.getElem?_take]
  by_cases hi : i < (n - 1) * 3
  · rw [if_pos hi, Array.getElem?_toList, over_get _ _ _ _ (by rw [over_size]; simp; omega), if_neg (by omega), over_get _ _ _ _ (by simp <;> omega)]
    by_cases h2 : i < k * 3
    · rw [if_neg (by omega), List.getElem?_append_left (by rw [List.length_take]; omega), List.getElem?_take, if_pos h2, hx i (by omega)]
    · rw [if_pos (by simp <;> omega), List.getElem?_append_right (by rw [List.length_take]; omega), List.length_take, Nat.min_eq_left (by omega)]
  · rw [if_neg hi, eq_comm, List.getElem?_eq_none]
    simp
    omega

set_option maxHeartbeats 4000000 in
set_option maxRecDepth 1000000 in
theorem del_any (B m k : Nat) (ki kj : Int) (v : Value) (xs : List Value) (w : World) (h : w.ownsRow B 42 3 v (m + 1) xs) (h1 : ∀ u ∈ xs, u.oneCell' = true) (hk : k ≤ m) (hm : m ≤ 100000) (hki : ki = k) (hkj : kj = ki + 1) :
    Calls Try.prog 37 #[v, .int .i64 ki, .int .i64 kj] w fun e w' => ∃ v', e = .returned v' ∧ w'.ownsRow B 42 3 v' m (xs.take (k * 3) ++ xs.drop (k * 3 + 3)) ∧ w.grownBy w' v.ownBlock ∧ v'.ownBlock = v.ownBlock := by
  obtain ⟨i0, hi0, hz0, hz1, hz2⟩ := info_parts item_info
  rcases h.2 with ⟨_, h0⟩ | ⟨g, cap, cur, rfl, hg, hh, hn, hc, hs, ht⟩
  · exact absurd h0 (by omega)
  have hxl := h.1
  have hcell : ∀ j u, xs[j]? = some u → w.cell? ⟨g, j, none⟩ = some u := fun j u hu => by
    rw [Blk.cell hh j, ← hu, ← ht, List.getElem?_take]
    have := (List.getElem?_eq_some_iff.1 hu).1
    rw [if_pos (by omega), Array.getElem?_toList]
  obtain ⟨A, hA, hsrc⟩ : ∃ A : Addr, (if cap = k + 1 then some (⟨g, 0, none⟩ : Addr) else some ⟨g, (k + 1) * 3, none⟩) = some A ∧ Hid (∀ t u, (xs.drop (k * 3 + 3))[t]? = some u → w.drew.cell? (A.add t) = some u) := by
    by_cases h : cap = k + 1
    · refine ⟨⟨g, 0, none⟩, by simp [h], Lib.hid fun t u hu => ?_⟩
      have h0 : (xs.drop (k * 3 + 3)).length = 0 := by simp <;> omega
      rw [List.length_eq_zero_iff.1 h0] at hu
      simp at hu
    · refine ⟨⟨g, (k + 1) * 3, none⟩, by simp [h], Lib.hid fun t u hu => ?_⟩
      rw [List.getElem?_drop] at hu
      rw [Addr.add_lit, show (k + 1) * 3 + t = k * 3 + 3 + t by omega]
      exact hcell _ u hu
  have s1 := Lib.hid (show (xs.drop (k * 3 + 3)).length = (m - k) * 3 by simp <;> omega)
  have s2 := Lib.hid (show ∀ u ∈ xs.drop (k * 3 + 3), u.oneCell' = true from fun u hu => h1 u (List.mem_of_mem_drop hu))
  have hin : ∀ (w' : World) (c : Array Value), Blk w' g 42 c → c.size = cap * 3 → ∀ o, o < cap * 3 → (w'.cell? ⟨g, o, none⟩).isSome = true ∧ w'.frozen? ⟨g, o, none⟩ = false := fun w' c hb hcs o ho => by
    refine ⟨?_, hb.frozen o⟩
    rw [hb.cell o, Array.getElem?_eq_getElem (by omega)]
    rfl
  have s3 := Lib.hid (show ∀ t, t < (xs.drop (k * 3 + 3)).length → (w.drew.cell? ⟨g, 0 + k * 3 + t, none⟩).isSome = true ∧ w.drew.frozen? ⟨g, 0 + k * 3 + t, none⟩ = false from fun t ht => by
    rw [s1.out] at ht
    exact hin w.drew cur hh hs _ (by omega))
  obtain ⟨W1, hW1⟩ : ∃ W1, W1 = w.drew.setCells g (0 + k * 3) (xs.drop (k * 3 + 3)) := ⟨_, rfl⟩
  have hB1 : Blk W1 g 42 (over cur (k * 3) (xs.drop (k * 3 + 3))) := by rw [hW1, Nat.zero_add]; exact Blk.sets _ _ _ _ hh
  have hcl := fun ty => run_clear_item W1 ty g (m * 3) (cap - m) (fun j hj => (hin W1 _ hB1 (by rw [over_size]; exact hs) _ (by omega)).1) (fun j hj => (hin W1 _ hB1 (by rw [over_size]; exact hs) _ (by omega)).2)
  have HE := Lib.hid (show Blk (W1.setCells g (m * 3) zero3) g 42 (over (over cur (k * 3) (xs.drop (k * 3 + 3))) (m * 3) zero3) from Blk.sets _ _ _ _ hB1)
  have HG := Lib.hid (show w.grownBy (W1.setCells g (m * 3) zero3) (some g) from only_setCells _ _ (by rw [hW1]; exact only_setCells _ _ (only_drew (World.grownBy.refl w _))))
  have HW := Lib.hid hW1
  have HC := Lib.hid (del_cells (k := k) hs hn (by omega) ht)
  have HS := Lib.hid hs
  have HX := Lib.hid hxl
  have hic : k ≤ cap := by omega
  have hjc : k + 1 ≤ cap := by omega
  have hmc : m < cap := by omega
  have hkm : k + (m - k) = m := by omega
  have hcap : cap ≤ 9223372036854775807 := by unfold maxLen at hc; omega
  subst hkj
  subst hki
  have e3 : ((k : Int) + 1).toNat = k + 1 := by omega
  have e5 : 0 ≤ (k : Int) + 1 := by omega
  have e7 : (k : Int) + 1 ≤ (m : Int) + 1 := by omega
  have e8 : (k : Int) ≤ (cap : Int) := by omega
  have e9 : (k : Int) + 1 ≤ (cap : Int) := by omega
  have ea : (m : Int) + 1 ≤ (cap : Int) := by omega
  clear hW1 hB1 hin hcell ht hs hxl h hh h1
  go_enter Try.func37, Try.ntmps37
  go_wp2_with fail
  go_region_law (refine step_append_room rfl (.tmp 22) (.tmp 25) 53 rfl 42 i0 3 Try.underlying53 hi0 hz1 g 0 k cap (by simp [Act.eval, Act.put]) A (m - k) (cap - (k + 1)) (xs.drop (k * 3 + 3)) (by simp [Act.eval, Act.put]) s1.out hsrc.out s2.out (by omega) s3.out ?_; rw [← HW.out, hkm])
  go_wp2
  go_ret
  exact ⟨_, rfl, ⟨by simp; have := HX.out; omega, .inr ⟨g, cap, _, rfl, hg, HE.out, by omega, hc, by rw [over_size, over_size]; exact HS.out, HC.out⟩⟩, HG.out, rfl⟩
end Go.Proofs.Ytffbimebgledoaa
