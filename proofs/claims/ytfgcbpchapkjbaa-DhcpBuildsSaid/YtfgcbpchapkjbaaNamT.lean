/-
  name: what the law NamePuts takes besides: the refused text by the document, labels collected, lists of texts compared.
-/
import Derived.Test.YtfgcbpchapkjbaaNamS
namespace Go.Proofs.Ytfgcbpchapkjbaa
open Go.RowKit Go.Shelf
attribute [local go_sem] Oper.semAt_some

theorem rput_bad (A : Option Addr) (n c : Nat) (l : List UInt8) (hl : l.length ≤ 1048576) (hf : ¬ fits (labels l)) (w : World) :
    Calls Try.prog 15 #[.slice A n c, .string (bs l)] w fun r w' => r = .returned (.tuple #[.slice none 0 0, .int .i64 4]) ∧ Below w.heap.size w w' := by
  go_enter Try.func15, Try.ntmps15
  go_wp2_with fail
  refine (rright_any l hl _).mono ?_
  rintro r w1 ⟨rfl, bel1⟩
  rw [rgt_false hf]
  go_wp2
  go_ret2
  exact ⟨rfl, bel1⟩

structure SSt (w : World) (g : Nat) (L : List (List UInt8)) (W : World) : Prop where
  out : ∃ v, Blk W g 35 #[v] ∧ W.ownsRow w.heap.size 9 1 v L.length (strs L)
  bel : Below w.heap.size w W
theorem SSt.kept {w : World} {B g : Nat} (hB : w.heap.size ≤ B) {L : List (List UInt8)} {W W' : World} {row : Option Nat} (h : SSt w g L W) (hg : W.grownBy W' row) (hr : ∀ r, row = some r → B ≤ r ∧ ∃ o : Obj, W.heap[r]? = some o ∧ o.isCells = false) : SSt w g L W' := by
  obtain ⟨v, h1, h2⟩ := h.out
  exact ⟨⟨v, blk_kept h1 hg (fun r e => (hr r e).2), owns_kept h2 hg (fun r e => (hr r e).2)⟩, h.bel.grown hg h.bel.size (fun r e => Nat.le_trans hB (hr r e).1)⟩

theorem own_slice' {w : World} {base e size : Nat} {v : Value} {n : Nat} {xs : List Value} (h : w.ownsRow base e size v n xs) : ∃ A c, v = .slice A n c ∧ True := by
  rcases h.2 with ⟨h0, h1⟩ | ⟨g, cap, cur, rfl, _⟩
  · subst h0
    subst h1
    exact ⟨none, 0, rfl, trivial⟩
  · exact ⟨_, _, rfl, trivial⟩

set_option maxRecDepth 100000 in
set_option maxHeartbeats 4000000 in
theorem seq_any (B : Nat) (l : List UInt8) (hl : l.length ≤ 1048576) (w : World) (hc : w.cell? ⟨B, 0, none⟩ = some (.string (bs l))) :
    Calls Try.prog 38 #[.slice none 0 0, .func (.func 39) #[] #[.pointer (some ⟨B, 0, none⟩)]] w fun e w' => ∃ v, e = .returned v ∧ w'.ownsRow w.heap.size 9 1 v (labels l).length (strs (labels l)) ∧ Below w.heap.size w w' := by
  have hB := World.block_lt_of_cell? w _ hc
  have hlen := labels_len l
  refine (callsIn_wide (n := 6)).1 ?_
  refine callsIn_of_wp_marks Try.func38 rfl trivial ?_ rfl
  simp only [Try.ntmps38, List.size_toArray, List.length_cons, List.length_nil, Nat.reduceAdd, Nat.reduceSub, Array.replicate_succ, Array.replicate_zero, List.push_toArray, List.append_toArray, List.nil_append, List.cons_append]
  have st : SSt w w.heap.size [] (w.alloc (.cells #[.slice none 0 0] 35)) :=
    ⟨⟨_, Blk.new _ _ _, World.ownsRow_nil _ _ _ _⟩, (Below.refl _ _).alloc (Nat.le_refl _) _⟩
  have bB : (w.alloc (.cells #[.slice none 0 0] 35)).cell? ⟨B, 0, none⟩ = some (.string (bs l)) := (World.cell?_alloc_lt w _ _ hB).trans hc
  clear hc
  gi_wp2_with fail
  generalize w.alloc (.cells #[.slice none 0 0] 35) = W0 at *
  obtain ⟨LL, hLL⟩ : ∃ LL, labels l = LL := ⟨_, rfl⟩
  have hseq := labels_stops 5 (by omega) B l LL hLL hl W0 bB (fun _ _ => True)
  rw [hLL] at hlen
  have hw0 := st.bel.size
  refine range_own (fun a x => { tmps := (a.tmps.setIfInBounds 7 (.string (bs x.1))).setIfInBounds 5 (.string (bs x.1)), defers := [] })
    rfl (by omega) (gf := 39) (lb := #[.pointer (some ⟨B, 0, none⟩)]) rfl trivial (enters_of Try.func39 (by kernel_rfl) rfl)
    hseq (fun _ => rfl) (fun pre W => SSt w w.heap.size (plain pre) W) (fun _ _ _ => False)
    ?own ?ownx st ?assign ?body ?done ?stop
  case own => exact fun pre W W' row hs hg hr => hs.kept hw0 hg hr
  case ownx => exact fun _ _ _ _ _ hs _ _ => hs
  case assign =>
    intro lp x W K hK
    gi_wp2
    exact hK
  case body =>
    rintro lp pre ⟨x, hx⟩ W sW hlt
    simp only [List.setIfInBounds_toArray, List.set_cons_succ, List.set_cons_zero]
    obtain ⟨v, k1, o1⟩ := sW.out
    obtain ⟨A3, c3, rfl, _⟩ := own_slice o1
    rw [plain_length] at o1
    have c1 := k1.cell 0
    have f1 := k1.frozen 0
    have hbW : Below W.heap.size W (W.alloc (.cells #[.string (bs x)] 9)) := (Below.refl _ _).alloc (Nat.le_refl _) _
    have hwW : w.heap.size ≤ W.heap.size := sW.bel.size
    have SW := Lib.hid sW
    rw [plain_length] at k1 c1
    have K1 := Lib.hid k1
    have O1 := Lib.hid o1
    clear hseq st bB sW k1 o1
    obtain ⟨i0, hi0, hz0, hz1, hz2⟩ := info_parts str_info
    obtain ⟨m, hm⟩ : ∃ m, pre.length = m := ⟨_, rfl⟩
    rw [hm] at O1 K1 c1 hlt
    gi_wp2_with (first
      | (gi_at_builtin
         refine wpListIn_append_any _ rfl (.tmp 8) (.tmp 10) _ rfl w.heap.size 9 i0 _ 1 16 Try.underlying35 hi0 hz0 hz1 hz2 rfl (by omega) (.slice A3 m c3) m (strs (plain pre)) rfl
           (O1.out.alloc _) (W.heap.size + 1) (some ⟨W.heap.size, 0, none⟩) 1 1 [.string (bs x)] rfl (reads_one _ _ _) (by simp [Value.oneCell']) (by simp only [maxLen]; omega) (by omega) (by simp; omega) ?_
         intro v1 w1 own1 grow1
         obtain ⟨A4, c4, rfl, _⟩ := own_slice' own1
         obtain ⟨k1', k2', o2', ko2, bb2⟩ := box_app hbW K1.out (by decide) O1.out hwW (Nat.le_refl _) own1 grow1
         have c2' := k1'.cell 0
         have f2' := k1'.frozen 0
         have K2 := Lib.hid k2'
         have O2 := Lib.hid o2'
         have KO2 := Lib.hid ko2
         have BB2 := Lib.hid bb2
         clear own1 grow1 k1' k2' o2' ko2 bb2 O1 K1 hbW))
    refine ⟨KO2.out, trivial, ⟨_, K2.out, ?_⟩, SW.out.bel.trans BB2.out⟩
    rw [plain_snoc, List.length_append, plain_length, hm]
    simpa [strs] using O2.out
  case done =>
    rintro D ps W hD hps sW hK
    rw [hps] at sW
    obtain ⟨v, k1, o1⟩ := sW.out
    have c1 := k1.cell 0
    clear hseq st bB
    gi_wp2
    refine ⟨by simp, .inl ⟨_, _, rfl, run_takeDeferred hK, ?_⟩⟩
    rw [hLL]
    refine ⟨v, ?_, ⟨v, rfl, ?_, ?_⟩⟩
    · simp [results, Try.f38, go_sem]
    · exact owns_kept o1 (grownBy_putObj' _ D (.deferred none)) (fun r e => by cases e; exact ⟨_, hK, rfl⟩)
    · exact sW.bel.trans (belowK_b (w := w) (Nat.le_refl _) _ D _ _ (by omega) hK rfl rfl)
  case stop => exact fun _ _ _ _ _ _ h _ => h.elim

theorem collect_any (B : Nat) (l : List UInt8) (hl : l.length ≤ 1048576) (w : World) (hc : w.cell? ⟨B, 0, none⟩ = some (.string (bs l))) :
    Calls Try.prog 19 #[.func (.func 39) #[] #[.pointer (some ⟨B, 0, none⟩)]] w fun e w' => ∃ v, e = .returned v ∧ w'.ownsRow w.heap.size 9 1 v (labels l).length (strs (labels l)) ∧ Below w.heap.size w w' := by
  go_enter Try.func19, Try.ntmps19
  go_wp2_with fail
  refine (seq_any B l hl w hc).mono ?_
  rintro r w1 ⟨v, rfl, h1, h2⟩
  go_wp2
  go_ret
  exact ⟨v, rfl, h1, h2⟩

theorem sleq_any (b1 b2 : Nat) (v1 v2 : Value) (L : List (List UInt8)) (w : World) (hL : L.length ≤ 1048577) (h1 : w.ownsRow b1 9 1 v1 L.length (strs L)) (h2 : w.ownsRow b2 9 1 v2 L.length (strs L)) :
    Calls Try.prog 18 #[v1, v2] w fun e w' => e = .returned (.bool true) ∧ Below w.heap.size w w' := by
  obtain ⟨A1, c1, rfl, hc1⟩ := own_slice h1
  obtain ⟨A2, c2, rfl, hc2⟩ := own_slice h2
  by_cases h0 : 0 < L.length
  · obtain ⟨g1, rfl, _, _, hd1⟩ := hc1 h0
    obtain ⟨g2, rfl, _, _, hd2⟩ := hc2 h0
    refine (Try.slices_Equal_string g1 0 L.length c1 g2 0 L.length c2 (L.map bs) (L.map bs) w (by simp) (by simp) (by omega) (by omega) (fun j hj => hd1 j _ ?_) (fun j hj => hd2 j _ ?_)).mono ?_
    · rw [List.length_map] at hj
      simp [strs, List.getD_eq_getElem?_getD, hj]
    · rw [List.length_map] at hj
      simp [strs, List.getD_eq_getElem?_getD, hj]
    · rintro e w' ⟨rfl, q, rfl⟩
      exact ⟨by simp, below_drewN (Below.refl _ _) q⟩
  · have e0 : L.length = 0 := by omega
    rw [e0]
    exact (Try.slices_Equal_string_empty A1 A2 c1 0 c2 w (by omega)).mono fun e w' ⟨h1, h2⟩ => ⟨by simpa using h1, h2 ▸ Below.refl _ _⟩
end Go.Proofs.Ytfgcbpchapkjbaa
