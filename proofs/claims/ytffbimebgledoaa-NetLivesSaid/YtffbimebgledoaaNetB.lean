/-
  net: what is on its way, as a list; New, ready, copied, Len: the walks.
-/
import Derived.Test.YtffbimebgledoaaNetA
namespace Go.Proofs.Ytffbimebgledoaa
open Go.RowKit

/-- An item as it lies in memory. -/
structure Ent where
  b4 : Int
  up : Bool
  A : Option Addr
  n : Nat
  c : Nat

def Ent.cells (e : Ent) : List Value := [.int .i64 e.b4, .bool e.up, .slice e.A e.n e.c]
def rows : List Ent → List Value
  | [] => []
  | e :: M => e.cells ++ rows M
theorem rows_length : ∀ M : List Ent, (rows M).length = M.length * 3
  | [] => rfl
  | e :: M => by simp [rows, rows_length M, Ent.cells]; omega
theorem rows_append : ∀ M N : List Ent, rows (M ++ N) = rows M ++ rows N
  | [], _ => rfl
  | e :: M, N => by simp [rows, rows_append M N]
theorem rows_one (e : Ent) : rows [e] = e.cells := by simp [rows]
theorem rows_take : ∀ (M : List Ent) (k : Nat), (rows M).take (k * 3) = rows (M.take k)
  | [], k => by simp [rows]
  | e :: M, 0 => by simp [rows]
  | e :: M, k + 1 => by
    rw [show (k + 1) * 3 = k * 3 + 1 + 1 + 1 by omega]
    simp [rows, Ent.cells, rows_take M k]
theorem rows_drop : ∀ (M : List Ent) (k : Nat), (rows M).drop (k * 3) = rows (M.drop k)
  | [], k => by simp [rows]
  | e :: M, 0 => by simp
  | e :: M, k + 1 => by
    rw [show (k + 1) * 3 = k * 3 + 1 + 1 + 1 by omega]
    simp [rows, Ent.cells, rows_drop M k]
theorem rows_one_cell : ∀ (M : List Ent), ∀ u ∈ rows M, u.oneCell' = true
  | [], _, h => by simp [rows] at h
  | e :: M, u, h => by
    rw [rows, List.mem_append] at h
    rcases h with h | h
    · simp [Ent.cells] at h
      rcases h with rfl | rfl | rfl <;> rfl
    · exact rows_one_cell M u h
theorem rows_get : ∀ (M : List Ent) (k j : Nat) (e : Ent), M[k]? = some e → j < 3 → (rows M)[k * 3 + j]? = e.cells[j]?
  | [], _, _, _, h, _ => by simp at h
  | e :: M, 0, j, e', h, hj => by
    obtain rfl : e = e' := by simpa using h
    rw [rows, List.getElem?_append_left (by simp [Ent.cells]; omega)]
    simp
  | e :: M, k + 1, j, e', h, hj => by
    rw [rows, List.getElem?_append_right (by simp [Ent.cells]; omega), show (k + 1) * 3 + j - e.cells.length = k * 3 + j by simp [Ent.cells]; omega]
    exact rows_get M k j e' (by simpa using h) hj

/-- Blocks of two types alone may have changed, all of them at B or behind it. -/
structure Chg (B T1 T2 : Nat) (w w' : World) : Prop where
  bel : Below B w w'
  typ : ∀ k, k < w.heap.size → (∀ cs t fr, w.heap[k]? = some (.cells cs t fr) → t ≠ T1 ∧ t ≠ T2) → w'.heap[k]? = w.heap[k]?
section
variable {B T1 T2 : Nat} {w w' w2 : World}
theorem Chg.trans (h : Chg B T1 T2 w w') (k : Chg B T1 T2 w' w2) : Chg B T1 T2 w w2 :=
  ⟨h.bel.trans k.bel, fun i hi ht => by
    have h1 := h.typ i hi ht
    exact (k.typ i (Nat.lt_of_lt_of_le hi h.bel.size) (fun cs t fr e => ht cs t fr (h1 ▸ e))).trans h1⟩
theorem Chg.of_below (h : Below w.heap.size w w') (hB : B ≤ w.heap.size) : Chg B T1 T2 w w' := ⟨h.mono hB, fun i hi _ => h.block i hi⟩
theorem Chg.of_only {g t : Nat} {cs : Array Value} (h : w.grownBy w' (some g)) (hg : Blk w g t cs) (ht : t = T1 ∨ t = T2) (hB : B ≤ g) : Chg B T1 T2 w w' :=
  ⟨⟨h.os, h.tape, h.output, h.size, fun k hk => h.block k (by have := hg.lt; omega) (by intro e; injection e with e; omega)⟩,
   fun k hk hk2 => h.block k hk (by
    intro e
    injection e with e
    subst e
    have := hk2 _ _ _ hg
    rcases ht with rfl | rfl
    · exact this.1 rfl
    · exact this.2 rfl)⟩
theorem Chg.blk (h : Chg B T1 T2 w w') {g t : Nat} {cs : Array Value} (hb : Blk w g t cs) (h1 : t ≠ T1) (h2 : t ≠ T2) : Blk w' g t cs :=
  (h.typ g hb.lt (fun cs' t' fr e => by
    unfold Blk at hb
    rw [hb] at e
    injection e with e
    injection e with _ e _
    subst e
    exact ⟨h1, h2⟩)).trans hb
theorem Chg.set_ {g t : Nat} {cs : Array Value} (hg : Blk w g t cs) (ht : t = T1 ∨ t = T2) (hB : B ≤ g) (i : Nat) (u : Value) : Chg B T1 T2 w (w.setCell ⟨g, i, none⟩ u) :=
  Chg.of_only (only_setCell (World.grownBy.refl w _) (.inl rfl) u) hg ht hB
theorem Blk.item {g t : Nat} {x y z : Value} (h : Blk w g t #[x, y, z]) (a b c : Value) : Blk (((w.setCell ⟨g, 0, none⟩ a).setCell ⟨g, 1, none⟩ b).setCell ⟨g, 2, none⟩ c) g t #[a, b, c] := ((h.set_ 0 a).set_ 1 b).set_ 2 c
theorem Chg.item {g t : Nat} {x y z : Value} (h : Blk w g t #[x, y, z]) (ht : t = T1 ∨ t = T2) (hB : B ≤ g) (a b c : Value) : Chg B T1 T2 w (((w.setCell ⟨g, 0, none⟩ a).setCell ⟨g, 1, none⟩ b).setCell ⟨g, 2, none⟩ c) :=
  ((Chg.set_ h ht hB 0 a).trans (Chg.set_ (h.set_ 0 a) ht hB 1 b)).trans (Chg.set_ ((h.set_ 0 a).set_ 1 b) ht hB 2 c)
theorem Chg.owns (h : Chg B T1 T2 w w') {base n e size : Nat} {v : Value} {xs : List Value} (ho : w.ownsRow base e size v n xs) (h1 : e ≠ T1) (h2 : e ≠ T2) : w'.ownsRow base e size v n xs := by
  refine ⟨ho.1, ?_⟩
  rcases ho.2 with h0 | ⟨g, cap, cur, hv, hg, hh, hr⟩
  · exact .inl h0
  · exact .inr ⟨g, cap, cur, hv, hg, h.blk hh h1 h2, hr⟩
end

/-- Bytes in a block of bytes. -/
def TB (w : World) (A : Option Addr) (n : Nat) (xs : List Int) : Prop := BReads w A n xs ∧ ∀ ad, A = some ad → ∃ cs, Blk w ad.block 5 cs
theorem TB.chg {B T1 T2 : Nat} {w w' : World} {A : Option Addr} {n : Nat} {xs : List Int} (h : TB w A n xs) (hc : Chg B T1 T2 w w') (h1 : 5 ≠ T1) (h2 : 5 ≠ T2) : TB w' A n xs := by
  refine ⟨⟨⟨h.1.1.1, fun hn => ?_⟩, h.1.2⟩, fun ad e => ?_⟩
  · obtain ⟨ad, e, hb, hcell⟩ := h.1.1.2 hn
    obtain ⟨cs, hk⟩ := h.2 ad e
    refine ⟨ad, e, Nat.lt_of_lt_of_le hb hc.bel.size, fun j u hu => (World.cell?_of_block (w := w) ?_).trans (hcell j u hu)⟩
    rw [block_of_add]
    exact (hc.blk hk h1 h2).trans hk.symm
  · obtain ⟨cs, hk⟩ := h.2 ad e
    exact ⟨cs, hc.blk hk h1 h2⟩
theorem TB.below {w w' : World} {A : Option Addr} {n : Nat} {xs : List Int} (h : TB w A n xs) (hb : Below w.heap.size w w') : TB w' A n xs :=
  ⟨h.1.below hb, fun ad e => by obtain ⟨cs, hk⟩ := h.2 ad e; exact ⟨cs, hk.below hb hk.lt⟩⟩

theorem tb_own {w w1 : World} {v : Value} {n : Nat} {xs : List Int} (h : w1.ownsRow w.heap.size 5 1 v n (xs.map (Value.int .u8))) : ∃ A' c', v = .slice A' n c' ∧ TB w1 A' n xs ∧ (∀ ad, A' = some ad → w.heap.size ≤ ad.block) := by
  rcases h.2 with ⟨h0, h1⟩ | ⟨g, cap, cur, rfl, hg, hh, hn, hc, hs, ht⟩
  · subst h0
    obtain rfl : n = 0 := by simpa using h1
    exact ⟨none, 0, rfl, ⟨⟨Reads.of_own h, fun _ => rfl⟩, fun ad e => by cases e⟩, fun ad e => by cases e⟩
  · exact ⟨_, _, rfl, ⟨⟨Reads.of_own h, fun e => by cases e⟩, fun ad e => by cases e; exact ⟨cur, hh⟩⟩, fun ad e => by cases e; exact hg⟩

set_option maxHeartbeats 400000 in
/-- slices.Clone of bytes. -/
theorem clone_t (A : Option Addr) (n c : Nat) (xs : List Int) (w : World) (h : BReads w A n xs) (hn : n ≤ 1099511627776) :
    Calls Try.prog 41 #[.slice A n c] w fun e w' => ∃ A' c', e = .returned (.slice A' n c') ∧ TB w' A' n xs ∧ Below w.heap.size w w' := by
  obtain ⟨i0, hi0, hz0, hz1, hz2⟩ := info_parts byte_info
  rcases A with _ | ad
  · obtain rfl := h.2 rfl
    obtain rfl : xs = [] := List.eq_nil_of_length_eq_zero (by simpa using h.1.1)
    have hnil := fun w : World => Lib.run_eql_slice_nil (P := Try.prog) w 40 5 none 0 c 0 0 Try.underlying40
    clear h
    go_enter Try.func41, Try.ntmps41
    go_wp2
    go_ret
    exact ⟨none, 0, rfl, ⟨⟨Reads.none_, fun _ => rfl⟩, fun _ h => nomatch h⟩, Below.refl _ _⟩
  · have hnil := fun w : World => Lib.run_eql_slice_nil (P := Try.prog) w 40 5 (some ad) n c 0 0 Try.underlying40
    have hown := World.ownsRow_made (base := w.heap.size) (e := 5) (size := 1) w #[] 0 (Nat.le_refl _) (by simp [maxLen]) rfl
    have hr2 := h.1.alloc (Nat.le_refl _) (.cells #[] 5)
    clear h
    go_enter Try.func41, Try.ntmps41
    go_wp2_with (first
      | (at_builtin
         refine wpList_append_any _ rfl (.tmp 5) (.tmp 6) _ rfl w.heap.size 5 i0 _ 1 1 Try.underlying40 hi0 hz0 hz1 hz2 rfl (by omega) (.slice (some ⟨w.heap.size, 0, none⟩) 0 0) 0 [] rfl
           hown w.heap.size (some ad) n c _ rfl hr2 (by intro u hu; obtain ⟨x, _, rfl⟩ := List.mem_map.1 hu; rfl) (by simp only [maxLen]; omega) (by omega) (by simp) ?_
         intro v1 w1 hown1 hg1 hat1))
    go_ret
    have hb1 : Below w.heap.size w w1 := ((Below.refl _ w).alloc (Nat.le_refl _) _).grown hg1 (by simp) (by simp [Value.ownBlock])
    rw [List.nil_append, Nat.zero_add] at hown1
    obtain ⟨A', c', rfl, h2, _⟩ := tb_own hown1
    exact ⟨A', c', rfl, h2, hb1⟩

theorem item_size : (Try.prog.info? 42).map (·.size) = some 3 := by kernel_rfl

set_option maxHeartbeats 1000000 in
theorem copied_any (b4 : Int) (up : Bool) (A : Option Addr) (n c : Nat) (xs : List Int) (w : World) (h : BReads w A n xs) (hn : n ≤ 1099511627776) :
    Calls Try.prog 35 #[.agg #[.int .i64 b4, .bool up, .slice A n c]] w fun e w' => ∃ A' c', e = .returned (.agg #[.int .i64 b4, .bool up, .slice A' n c']) ∧ TB w' A' n xs ∧ Below w.heap.size w w' := by
  have H := Lib.hid h
  clear h
  have BW := Lib.hid (show Below w.heap.size w ((w.alloc (.cells #[.int .i64 b4, .bool up, .slice A n c] 42)).alloc (.cells zero3.toArray 42)) from ((Below.refl _ w).alloc (Nat.le_refl _) _).alloc (by simp) _)
  have K1 := Lib.hid (show Blk ((w.alloc (.cells #[.int .i64 b4, .bool up, .slice A n c] 42)).alloc (.cells zero3.toArray 42)) w.heap.size 42 #[.int .i64 b4, .bool up, .slice A n c] from (Blk.new _ _ _).alloc _)
  have K2 := Lib.hid (show Blk ((w.alloc (.cells #[.int .i64 b4, .bool up, .slice A n c] 42)).alloc (.cells zero3.toArray 42)) (w.heap.size + 1) 42 zero3.toArray from by simpa using Blk.new (w.alloc (.cells #[.int .i64 b4, .bool up, .slice A n c] 42)) 42 zero3.toArray)
  go_enter Try.func35, Try.ntmps35
  go_wp2_with fail
  refine (clone_t A n c xs _ (H.out.below BW.out) hn).mono ?_
  rintro r w1 ⟨A', c', rfl, h2, h3⟩
  have k1 := K1.out.below h3 K1.out.lt
  have k2 := K2.out.below h3 K2.out.lt
  have H2 := Lib.hid h2
  have B3 := Lib.hid h3
  have c12 : w1.cell? ⟨w.heap.size, 2, none⟩ = some (.slice A n c) := k1.cell 2
  have c10 : w1.cell? ⟨w.heap.size, 0, none⟩ = some (.int .i64 b4) := k1.cell 0
  have c11 : w1.cell? ⟨w.heap.size, 1, none⟩ = some (.bool up) := k1.cell 1
  have z1 : w1.frozen? ⟨w.heap.size, 2, none⟩ = false := k1.frozen 2
  have c20 : w1.cell? ⟨w.heap.size + 1, 0, none⟩ = some (.int .i64 0) := k2.cell 0
  have c21 : w1.cell? ⟨w.heap.size + 1, 1, none⟩ = some (.bool false) := k2.cell 1
  have c22 : w1.cell? ⟨w.heap.size + 1, 2, none⟩ = some (.slice none 0 0) := k2.cell 2
  have z20 : w1.frozen? ⟨w.heap.size + 1, 0, none⟩ = false := k2.frozen 0
  have z21 : w1.frozen? ⟨w.heap.size + 1, 1, none⟩ = false := k2.frozen 1
  have z22 : w1.frozen? ⟨w.heap.size + 1, 2, none⟩ = false := k2.frozen 2
  have J2 := Lib.hid (show Blk (w1.setCell ⟨w.heap.size, 2, none⟩ (.slice A' n c')) (w.heap.size + 1) 42 #[.int .i64 0, .bool false, .slice none 0 0] from k2.far (by simp) _)
  have CH := Lib.hid (show Chg w.heap.size 42 42 w1 ((((w1.setCell ⟨w.heap.size, 2, none⟩ (.slice A' n c')).setCell ⟨w.heap.size + 1, 0, none⟩ (.int .i64 b4)).setCell ⟨w.heap.size + 1, 1, none⟩ (.bool up)).setCell ⟨w.heap.size + 1, 2, none⟩ (.slice A' n c')) from
    (Chg.set_ k1 (.inl rfl) (Nat.le_refl _) 2 _).trans (Chg.item J2.out (.inl rfl) (by omega) _ _ _))
  have BX := Lib.hid (BW.out.trans (h3.mono BW.out.size))
  clear h2 h3 k1 k2
  go_wp2
  refine bodyPost_ret (v := .agg #[.int .i64 b4, .bool up, .slice A' n c']) ?_ rfl ?_
  · simp [results, Try.f35, asAddr, run_loadVar_row _ (w.heap.size + 1) 42 42 #[.int .i64 b4, .bool up, .slice A' n c'] (0, 0) _ (J2.out.item (.int .i64 b4) (.bool up) (.slice A' n c')) Try.underlying42 rfl item_size]
  · exact ⟨A', c', rfl, H2.out.chg CH.out (by decide) (by decide), BX.out.trans CH.out.bel⟩

/-- The net at block g: the list of what is on its way lies at B or behind it. -/
def NetP (w : World) (B g : Nat) (most : Int) (M : List Ent) : Prop :=
  B ≤ g ∧ ∃ A c, Blk w g 55 #[.slice A M.length c, .int .i64 most, .bool true] ∧ w.ownsRow B 42 3 (.slice A M.length c) M.length (rows M)
theorem NetP.chg {B' T1 T2 : Nat} {w w' : World} {B g : Nat} {most : Int} {M : List Ent} (h : NetP w B g most M) (hc : Chg B' T1 T2 w w') (h1 : 55 ≠ T1) (h2 : 55 ≠ T2) (h3 : 42 ≠ T1) (h4 : 42 ≠ T2) : NetP w' B g most M := by
  obtain ⟨hB, A, c, hb, ho⟩ := h
  exact ⟨hB, A, c, hc.blk hb h1 h2, hc.owns ho h3 h4⟩
theorem owns_below {w w' : World} {base n e size : Nat} {v : Value} {xs : List Value} (ho : w.ownsRow base e size v n xs) (hb : Below w.heap.size w w') : w'.ownsRow base e size v n xs := by
  refine ⟨ho.1, ?_⟩
  rcases ho.2 with h0 | ⟨g, cap, cur, hv, hg, hh, hr⟩
  · exact .inl h0
  · exact .inr ⟨g, cap, cur, hv, hg, (show Blk w g e cur from hh).below hb (show Blk w g e cur from hh).lt, hr⟩
theorem NetP.below {w w' : World} {B g : Nat} {most : Int} {M : List Ent} (h : NetP w B g most M) (hb : Below w.heap.size w w') : NetP w' B g most M := by
  obtain ⟨hB, A, c, hk, ho⟩ := h
  exact ⟨hB, A, c, hk.below hb hk.lt, owns_below ho hb⟩

theorem new_ok (most : Int) (w : World) (h1 : 0 ≤ most) (h2 : most ≤ 4096) : Calls Try.prog 20 #[.int .i64 most] w fun e w' => ∃ g, e = .returned (.tuple #[.pointer (some ⟨g, 0, none⟩), .int .i64 0]) ∧ NetP w' w.heap.size g most [] ∧ Below w.heap.size w w' := by
  go_enter Try.func20, Try.ntmps20
  go_wp2
  go_ret2
  exact ⟨w.heap.size, rfl, ⟨Nat.le_refl _, none, 0, Blk.new _ _ _, World.ownsRow_nil _ _ _ _⟩, (Below.refl _ _).alloc (Nat.le_refl _) _⟩
theorem new_bad (most : Int) (w : World) (h : most < 0 ∨ 4096 < most) : Calls Try.prog 20 #[.int .i64 most] w fun e w' => e = .returned (.tuple #[.pointer none, .int .i64 1]) ∧ w = w' := by
  by_cases h1 : most < 0
  · clear h
    go_enter Try.func20, Try.ntmps20
    go_wp2
    go_ret2
    exact ⟨rfl, rfl⟩
  · have h2 : 4096 < most := by omega
    clear h
    go_enter Try.func20, Try.ntmps20
    go_wp2
    go_ret2
    exact ⟨rfl, rfl⟩

theorem ready_any (w : World) (B g : Nat) (most : Int) (M : List Ent) (h : NetP w B g most M) : Calls Try.prog 34 #[.pointer (some ⟨g, 0, none⟩)] w fun e w' => e = .returned (.bool true) ∧ w = w' := by
  obtain ⟨hB, A, c, hb, ho⟩ := h
  have c2 : w.cell? ⟨g, 2, none⟩ = some (.bool true) := hb.cell 2
  clear hb ho
  go_enter Try.func34, Try.ntmps34
  go_wp2
  go_ret
  exact ⟨rfl, rfl⟩

theorem len_any (w : World) (B g : Nat) (most : Int) (M : List Ent) (h : NetP w B g most M) : Calls Try.prog 23 #[.pointer (some ⟨g, 0, none⟩)] w fun e w' => e = .returned (.int .i64 M.length) ∧ w = w' := by
  have hr := Lib.hid (ready_any w B g most M h)
  obtain ⟨hB, A, c, hb, ho⟩ := h
  have c0 : w.cell? ⟨g, 0, none⟩ = some (.slice A M.length c) := hb.cell 0
  clear hb ho
  go_enter Try.func23, Try.ntmps23
  go_wp2_with fail
  refine hr.out.mono ?_
  rintro r w1 ⟨rfl, rfl⟩
  go_wp2
  go_ret
  exact ⟨rfl, rfl⟩
end Go.Proofs.Ytffbimebgledoaa
