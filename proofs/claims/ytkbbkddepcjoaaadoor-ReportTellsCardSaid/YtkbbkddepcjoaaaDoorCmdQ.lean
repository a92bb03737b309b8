/-
  cmd: a command's words.
-/
import Derived.Test.YtkbbkddepcjoaaaDoorCmdP
namespace Go.Proofs.YtkbbkddepcjoaaaDoor
open Go.RowKit Go.Great

abbrev TabW (w : World) : Prop := Lib.TabIs Tryd.prog w "internal/strconv.uint64pow10" .u64 Lib.pow10Tab
theorem itoa_any (n : Int) (h : IntKind.i64.has n) (w : World) (htab : TabW w) : Calls Tryd.prog 56 #[.int .i64 n] w fun e w' => e = .returned (.string (bs (Lib.itoa n))) ∧ Below w.heap.size w w' := by
  refine (Tryd.strconv_Itoa n (i64_le h).1 (i64_le h).2 w htab).mono ?_
  rintro e w' ⟨rfl, k, os, rfl⟩
  exact ⟨rfl, grow_below w k os⟩
theorem join32_any (A : Option Addr) (c : Nat) (L : List (List UInt8)) (w : World) (h : 0 < L.length → ∃ g, A = some ⟨g, 0, none⟩ ∧ g < w.heap.size ∧ L.length ≤ c ∧ ∀ j u, (strs L)[j]? = some u → w.cell? ⟨g, 0 + j, none⟩ = some u) (hl : (Lib.join L [32]).length ≤ 140737488355328) (hN : L.length ≤ 140737488355328) :
    Calls Tryd.prog 44 #[.slice A L.length c, .string ⟨#[32]⟩] w fun e w' => e = .returned (.string (bs (Lib.join L [32]))) ∧ Below w.heap.size w w' := by
  by_cases h0 : 0 < L.length
  · obtain ⟨g, rfl, hg, hc, hcell⟩ := h h0
    have e1 : (L.map bs).map (·.data.toList) = L := by
      rw [List.map_map]
      have : ((fun x : ByteArray => x.data.toList) ∘ bs) = id := by funext l; rfl
      rw [this, List.map_id]
    have := Tryd.strings_Join g 0 c (L.map bs) ⟨#[32]⟩ w (fun j x hx => hcell j _ (by
      rw [List.getElem?_map] at hx
      obtain ⟨y, hy, rfl⟩ := Option.map_eq_some_iff.1 hx
      simp [strs, hy])) hg (by simpa using hN) (by simpa using hc) (by rw [e1]; exact hl)
    rw [e1, List.length_map] at this
    exact this
  · obtain rfl : L = [] := List.eq_nil_of_length_eq_zero (by omega)
    exact (Tryd.strings_Join_none A c ⟨#[32]⟩ w).mono fun e w' ⟨h1, h2⟩ => ⟨h1, h2 ▸ Below.refl _ _⟩

set_option maxRecDepth 100000 in
set_option maxHeartbeats 4000000 in
theorem cinner_any (n p a y : Int) (h1 : IntKind.i64.has n) (h4 : IntKind.i64.has y) (w : World) (htab : TabW w) : Calls Tryd.prog 65 #[.agg #[.int .i64 n, .int .i64 p, .int .i64 a, .int .i64 y]] w fun r w' => ∃ g, r = .returned (.slice (some ⟨g, 0, none⟩) 4 4) ∧ Blk w' g 9 (strs (innerW (n, p, a, y))).toArray ∧ Below w.heap.size w w' := by
  have hb := (Below.refl w.heap.size w).alloc (Nat.le_refl _) (.cells #[.int .i64 n, .int .i64 p, .int .i64 a, .int .i64 y] 24)
  have ht := tab_below htab hb
  have c1 := fun W ht => itoa_any n h1 W ht
  have c2 := fun W => cword_any p W
  have c3 := fun W ht => ftext_any a W ht
  have c4 := fun W ht => itoa_any y h4 W ht
  have bk := Blk.new w 24 #[.int .i64 n, .int .i64 p, .int .i64 a, .int .i64 y]
  have hw : strs (innerW (n, p, a, y)) = [.string (bs (Lib.itoa n)), .string (bs (wordV p)), .string (bs (textV a)), .string (bs (Lib.itoa y))] := rfl
  rw [hw]
  obtain ⟨T1, h11⟩ : ∃ T, Lib.itoa n = T := ⟨_, rfl⟩
  obtain ⟨T2, h22⟩ : ∃ T, wordV p = T := ⟨_, rfl⟩
  obtain ⟨T3, h33⟩ : ∃ T, textV a = T := ⟨_, rfl⟩
  obtain ⟨T4, h44⟩ : ∃ T, Lib.itoa y = T := ⟨_, rfl⟩
  rw [h11] at c1 ⊢
  rw [h22] at c2 ⊢
  rw [h33] at c3 ⊢
  rw [h44] at c4 ⊢
  have C1 := Lib.hid c1
  have C2 := Lib.hid (fun W => (c2 W).mono fun e w' (h : e = _ ∧ W = w') => (⟨h.1, h.2 ▸ Below.refl _ _⟩ : e = _ ∧ Below W.heap.size W w'))
  have C3 := Lib.hid c3
  have C4 := Lib.hid c4
  clear c1 c2 c3 c4 h11 h22 h33 h44 hw htab
  go_enter Tryd.func65, Tryd.ntmps65
  go_upto_region 1 with fail
  obtain ⟨V, hV⟩ : ∃ V, w.heap.size = V := ⟨_, rfl⟩
  rw [hV] at bk ⊢
  generalize (w.alloc (.cells #[.int .i64 n, .int .i64 p, .int .i64 a, .int .i64 y] 24)) = w1 at bk hb ht ⊢
  have k0 := bk.cell 0
  have k1 := bk.cell 1
  have k2 := bk.cell 2
  have k3 := bk.cell 3
  simp only [List.getElem?_toArray, List.getElem?_cons_zero, List.getElem?_cons_succ] at k0 k1 k2 k3
  have d0 := fun p : After w1 => p.read k0
  have d1 := fun p : After w1 => p.read k1
  have d2 := fun p : After w1 => p.read k2
  have d3 := fun p : After w1 => p.read k3
  have HT := Lib.hid ht
  have HB := Lib.hid hb
  clear k0 k1 k2 k3 bk hV ht hb
  refine wp_after_tail 12 (by kernel_rfl) (by kernel_rfl) ?_
  simp only [List.take_succ_cons, List.take_zero, List.drop_succ_cons, List.drop_zero]
  repeat (go_big_quiet_step ((first
    | (go_at_call 43; exact calls_after (C2.out _))
    | (go_at_call 40; exact calls_after (C3.out _ (tab_below HT.out (After.below _))))
    | (go_at_call 56; first | (with_reducible exact calls_after (C1.out _ (tab_below HT.out (After.below _)))) | (with_reducible exact calls_after (C4.out _ (tab_below HT.out (After.below _))))))))
  refine wpQuiet_nil ?_
  intro w' hw'
  obtain ⟨p, rfl⟩ := hw'
  have PB := Lib.hid p.below
  go_wp2
  go_ret
  refine ⟨_, rfl, Blk.new _ _ _, ?_⟩
  refine (HB.out.trans (PB.out.mono HB.out.size)).alloc ?_ _
  have := HB.out.size
  have := PB.out.size
  omega

theorem blk_reads {w : World} {g t : Nat} {L : List (List UInt8)} {n : Nat} (h : Blk w g t (strs L).toArray) (hn : L.length = n) : Reads w w.heap.size 1 (some ⟨g, 0, none⟩) n (strs L) :=
  Reads.of_blk h (by rw [List.take_of_length_le (by simp [strs]; omega)]) (by simp [strs]; omega) h.lt
set_option maxRecDepth 100000 in
theorem verbOf_else (v : Int) (h1 : v ≠ 1) (h2 : v ≠ 2) (h3 : v ≠ 3) (h4 : v ≠ 4) (w : World) : Calls Tryd.prog 41 #[.int .i64 v] w fun r w' => r = .returned (.tuple #[.agg #[.string (bs []), .int .i64 0], .bool false]) ∧ Below w.heap.size w w' := by
  have b1 : (v == 1) = false := by simpa using h1
  have b2 : (v == 2) = false := by simpa using h2
  have b3 : (v == 3) = false := by simpa using h3
  have b4 : (v == 4) = false := by simpa using h4
  clear h1 h2 h3 h4
  go_enter Tryd.func41, Tryd.ntmps41
  go_wp2
  refine bodyPost_ret (v := .tuple #[.agg #[.string (bs []), .int .i64 0], .bool false]) ?_ rfl ⟨rfl, (Below.refl _ _).alloc (Nat.le_refl _) _⟩
  have hvi := verb_size
  simp [results, Tryd.f41, asAddr, run_loadVar_row _ w.heap.size 79 79 #[.string _, .int .i64 _] (0, 0) _ (Blk.new w _ _) Tryd.underlying79 rfl hvi]
  rfl

def WordsP (w : World) (L : List (List UInt8)) (r : Ending) (w' : World) : Prop := ∃ g c, r = .returned (.slice (some ⟨g, 0, none⟩) L.length c) ∧ L.length ≤ c ∧ c ≤ maxLen ∧ TRow w' g 0 L ∧ Below w.heap.size w w'
/-- The end of words: an owned row is given back. -/
theorem words_end {w W : World} {v : Value} {n : Nat} {L : List (List UInt8)} (hn : L.length = n) (h0 : 0 < n) {b : Nat} (own : W.ownsRow b 9 1 v n (strs L)) (hb : Below w.heap.size w W) : WordsP w L (.returned v) W := by
  obtain ⟨g, cap, rfl, hg, hgl⟩ := own.form (by omega)
  rcases own.2 with ⟨e, _⟩ | ⟨g', cap', cur', e, _, _, h1, h2, _⟩
  · cases e
  · injection e with _ _ e
    subst e
    refine ⟨g, cap, by rw [hn], by omega, h2, ⟨hgl, fun j x hx => ?_⟩, hb⟩
    have hj : j < L.length := (List.getElem?_eq_some_iff.1 hx).1
    rw [Nat.zero_add, own.cellAt j (by omega)]
    simp [strs, hx]

end Go.Proofs.YtkbbkddepcjoaaaDoor
