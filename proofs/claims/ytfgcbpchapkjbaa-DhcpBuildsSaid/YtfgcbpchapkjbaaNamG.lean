/-
  name: bytes with a name behind them (name.Put).
-/
import Derived.Test.YtfgcbpchapkjbaaNamF
namespace Go.Proofs.Ytfgcbpchapkjbaa
open Go.RowKit Go.Shelf
attribute [local go_sem] Oper.semAt_some

def nums (x : List UInt8) : List Int := x.map (fun b => (b.toNat : Int))
theorem nums_length (x : List UInt8) : (nums x).length = x.length := by simp [nums]
theorem str_nums (x : List UInt8) : Lib.strCells (bs x) = (nums x).map (Value.int .u8) := by simp [Lib.strCells, nums, bs]
/-- Labels as bytes. -/
def packL (L : List (List UInt8)) : List Int := L.flatMap (fun x => ((x.length : Int) % 256) :: nums x)
theorem packL_snoc (L : List (List UInt8)) (x : List UInt8) : packL (L ++ [x]) = packL L ++ (((x.length : Int) % 256) :: nums x) := by simp [packL]

theorem packL_length (L : List (List UInt8)) : (packL L).length + 1 = sumL L := by
  induction L with
  | nil => rfl
  | cons x L ih => simp [packL, sumL, nums_length] at ih ⊢; omega

set_option maxHeartbeats 400000 in
/-- slices.Clone of bytes: the call owns what comes back. -/
theorem clone_own (A : Option Addr) (n c : Nat) (xs : List Int) (w : World) (h : BReads w A n xs) (hn : n ≤ 1099511627776) :
    Calls Try.prog 37 #[.slice A n c] w fun e w' => ∃ v, e = .returned v ∧ w'.ownsRow w.heap.size 5 1 v n (xs.map (Value.int .u8)) ∧ Below w.heap.size w w' := by
  obtain ⟨i0, hi0, hz0, hz1, hz2⟩ := info_parts byte_info
  rcases A with _ | ad
  · obtain rfl := h.2 rfl
    obtain rfl : xs = [] := List.eq_nil_of_length_eq_zero (by simpa using h.1.1)
    have hnil := fun w : World => Lib.run_eql_slice_nil (P := Try.prog) w 22 5 none 0 c 0 0 Try.underlying22
    clear h
    go_enter Try.func37, Try.ntmps37
    go_wp2
    go_ret
    exact ⟨_, rfl, World.ownsRow_nil _ _ _ _, Below.refl _ _⟩
  · have hnil := fun w : World => Lib.run_eql_slice_nil (P := Try.prog) w 22 5 (some ad) n c 0 0 Try.underlying22
    have hown := World.ownsRow_made (base := w.heap.size) (e := 5) (size := 1) w #[] 0 (Nat.le_refl _) (by simp [maxLen]) rfl
    have hr2 := h.1.alloc (Nat.le_refl _) (.cells #[] 5)
    clear h
    go_enter Try.func37, Try.ntmps37
    go_wp2_with (first
      | (at_builtin
         refine wpList_append_any _ rfl (.tmp 5) (.tmp 6) _ rfl w.heap.size 5 i0 _ 1 1 Try.underlying22 hi0 hz0 hz1 hz2 rfl (by omega) (.slice (some ⟨w.heap.size, 0, none⟩) 0 0) 0 [] rfl
           hown w.heap.size (some ad) n c _ rfl hr2 (by intro u hu; obtain ⟨x, _, rfl⟩ := List.mem_map.1 hu; rfl) (by simp only [maxLen]; omega) (by omega) (by simp) ?_
         intro v1 w1 hown1 hg1 hat1))
    go_ret
    have hb1 : Below w.heap.size w w1 := ((Below.refl _ w).alloc (Nat.le_refl _) _).grown hg1 (by simp) (by simp [Value.ownBlock])
    rw [List.nil_append, Nat.zero_add] at hown1
    exact ⟨_, rfl, hown1, hb1⟩

/-- The function's own variable between two rounds: xs lie in it. -/
structure PSt (w : World) (g : Nat) (xs : List Int) (W : World) : Prop where
  out : ∃ v, Blk W g 22 #[v] ∧ W.ownsRow w.heap.size 5 1 v xs.length (xs.map (Value.int .u8))
  bel : Below w.heap.size w W
theorem PSt.kept {w : World} {B g : Nat} (hB : w.heap.size ≤ B) {xs : List Int} {W W' : World} {row : Option Nat} (h : PSt w g xs W) (hg : W.grownBy W' row) (hr : ∀ r, row = some r → B ≤ r ∧ ∃ o : Obj, W.heap[r]? = some o ∧ o.isCells = false) : PSt w g xs W' := by
  obtain ⟨v, h1, h2⟩ := h.out
  exact ⟨⟨v, blk_kept h1 hg (fun r e => (hr r e).2), owns_kept h2 hg (fun r e => (hr r e).2)⟩, h.bel.grown hg h.bel.size (fun r e => Nat.le_trans hB (hr r e).1)⟩

theorem owns_base {W : World} {b b' n e size : Nat} {v : Value} {xs : List Value} (ho : W.ownsRow b e size v n xs) (h : b' ≤ b) : W.ownsRow b' e size v n xs := by
  refine ⟨ho.1, ?_⟩
  rcases ho.2 with h0 | ⟨g, cap, cur, hv, hg, hr⟩
  · exact .inl h0
  · exact .inr ⟨g, cap, cur, hv, Nat.le_trans h hg, hr⟩

set_option maxRecDepth 100000 in
set_option maxHeartbeats 4000000 in
theorem nput_ok (A : Option Addr) (n c : Nat) (xs : List Int) (l : List UInt8) (hl : l.length ≤ 1048576) (hf : fits (labels l)) (w : World) (h : BReads w A n xs) (hn : n ≤ 1048576) :
    Calls Try.prog 12 #[.slice A n c, .string (bs l)] w fun r w' => ∃ A' n' c', r = .returned (.tuple #[.slice A' n' c', .int .i64 0]) ∧ BReads w' A' n' (xs ++ packL (labels l) ++ [0]) ∧ n' ≤ c' ∧ Below w.heap.size w w' := by
  have H := Lib.hid h
  have HF := Lib.hid hf
  clear h hf
  refine (callsIn_wide (n := 7)).1 ?_
  refine callsIn_of_wp_marks Try.func12 rfl trivial ?_ rfl
  simp only [Try.ntmps12, List.size_toArray, List.length_cons, List.length_nil, Nat.reduceAdd, Nat.reduceSub, Array.replicate_succ, Array.replicate_zero, List.push_toArray, List.append_toArray, List.nil_append, List.cons_append]
  gi_wp2_with fail
  refine ⟨trivial, ?_⟩
  refine (callsIn_wide.2 (nright_any l hl _)).mono ?_
  rintro r w1 ⟨rfl, hb1⟩
  rw [rgt_true HF.out]
  have BW := Lib.hid hb1
  clear hb1
  gi_wp2_with fail
  refine ⟨trivial, ?_⟩
  refine (callsIn_wide.2 (clone_own A n c xs _ (H.out.below BW.out) (by omega))).mono ?_
  rintro r w2 ⟨v, rfl, hown, hb2⟩
  obtain rfl : xs.length = n := H.out.len
  obtain ⟨A2, c2, rfl, _⟩ := own_breads hown
  have hs1 : w.heap.size ≤ w1.heap.size := BW.out.size
  have hs2 : w1.heap.size ≤ w2.heap.size := hb2.size
  have b2 : Below w.heap.size w w2 := BW.out.trans (hb2.mono hs1)
  have st : PSt w w2.heap.size xs ((w2.alloc (.cells #[.slice A2 xs.length c2] 22)).alloc (.cells #[.string (bs l)] 9)) :=
    ⟨⟨_, (Blk.new _ _ _).alloc _, ((owns_base hown hs1).alloc _).alloc _⟩, (b2.alloc (by omega) _).alloc (by simp; omega) _⟩
  have bB : ((w2.alloc (.cells #[.slice A2 xs.length c2] 22)).alloc (.cells #[.string (bs l)] 9)).cell? ⟨w2.heap.size + 1, 0, none⟩ = some (.string (bs l)) := by
    have := (Blk.new (w2.alloc (.cells #[.slice A2 xs.length c2] 22)) 9 #[.string (bs l)]).cell 0
    simp only [World.size_alloc] at this
    exact this
  clear hown hb2 b2
  gi_wp2_with (refine ⟨trivial, ?_⟩; gi_at_call 20; refine (callsIn_wide.2 (labels_any _ _)).mono ?_; rintro r w3 ⟨rfl, rfl⟩)
  generalize (w2.alloc (.cells #[.slice A2 xs.length c2] 22)).alloc (.cells #[.string (bs l)] 9) = W0 at *
  obtain ⟨LL, hLL⟩ : ∃ LL, labels l = LL := ⟨_, rfl⟩
  obtain ⟨g, hg⟩ : ∃ g, w2.heap.size = g := ⟨_, rfl⟩
  rw [hg] at st bB
  have hwg : w.heap.size ≤ g := by omega
  have hseq := labels_stops 6 (by omega) (g + 1) l LL hLL hl W0 bB (fun _ _ => True)
  have hw0 := st.bel.size
  have hN : LL.length ≤ 255 := by
    have := HF.out.2
    rw [hLL] at this
    have e : ∀ M : List (List UInt8), M.length ≤ (M.map (fun x => 1 + x.length)).sum := by
      intro M
      induction M with
      | nil => simp
      | cons a M ih => simp; omega
    have := e LL
    unfold sumL at *
    omega
  clear hs1 hs2 BW H
  subst hg
  refine range_own (fun a x => { tmps := (a.tmps.setIfInBounds 15 (.string (bs x.1))).setIfInBounds 7 (.string (bs x.1)), defers := [] })
    rfl (by omega) (gf := 39) (lb := #[.pointer (some ⟨w2.heap.size + 1, 0, none⟩)]) rfl trivial (enters_of Try.func39 (by kernel_rfl) rfl)
    hseq (fun _ => rfl) (fun pre W => PSt w w2.heap.size (xs ++ packL (plain pre)) W ∧ (packL (plain pre)).length ≤ pre.length * 1048577) (fun _ _ _ => False)
    ?own ?ownx ⟨by simpa [plain, packL] using st, by simp [plain, packL]⟩ ?assign ?body ?done ?stop
  case own => exact fun pre W W' row hs hg hr => ⟨hs.1.kept hw0 hg hr, hs.2⟩
  case ownx => exact fun _ _ _ _ _ hs _ _ => hs
  case assign =>
    intro lp x W K hK
    gi_wp2
    exact hK
  case body =>
    rintro lp pre ⟨x, hx⟩ W ⟨sW, hlen⟩ hlt
    simp only [List.setIfInBounds_toArray, List.set_cons_succ, List.set_cons_zero]
    obtain ⟨v, k1, o1⟩ := sW.out
    obtain ⟨A3, c3, rfl, _⟩ := own_breads o1
    generalize hys : xs ++ packL (plain pre) = ys at *
    have hyl : ys.length ≤ 300000000 := by rw [← hys, List.length_append]; omega
    have c1 := k1.cell 0
    have f1 := k1.frozen 0
    have hsz : (bs x).size = x.length := rfl
    have hbW : Below W.heap.size W (W.alloc (.cells #[.int .u8 ((x.length : Int) % 256)] 5)) := (Below.refl _ _).alloc (Nat.le_refl _) _
    have hwW : w.heap.size ≤ W.heap.size := sW.bel.size
    have SW := Lib.hid sW
    have K1 := Lib.hid k1
    have O1 := Lib.hid o1
    clear hseq st bB sW k1 o1
    obtain ⟨i0, hi0, hz0, hz1, hz2⟩ := info_parts byte_info
    gi_wp2_with (first
      | (gi_at_builtin
         refine wpListIn_append_any _ rfl (.tmp 16) (.tmp 20) _ rfl w.heap.size 5 i0 _ 1 1 Try.underlying22 hi0 hz0 hz1 hz2 rfl (by omega) (.slice A3 ys.length c3) ys.length (ys.map (Value.int .u8)) rfl
           (O1.out.alloc _) (W.heap.size + 1) (some ⟨W.heap.size, 0, none⟩) 1 1 [.int .u8 ((x.length : Int) % 256)] rfl (reads_one _ _ _) (by simp [Value.oneCell']) (by simp only [maxLen]; omega) (by omega) (by simp; omega) ?_
         intro v1 w1 own1 grow1
         have own1' : w1.ownsRow w.heap.size 5 1 v1 (ys.length + 1) ((ys ++ [(x.length : Int) % 256]).map (Value.int .u8)) := by simpa using own1
         obtain ⟨A4, c4, rfl, _⟩ := own_breads own1'
         obtain ⟨k1', k2', o2', ko2, bb2⟩ := box_app hbW K1.out (by decide) O1.out hwW hwg own1' grow1
         have c2' := k1'.cell 0
         have f2' := k1'.frozen 0
         have K2 := Lib.hid k2'
         have O2 := Lib.hid o2'
         have KO2 := Lib.hid ko2
         have BB2 := Lib.hid bb2
         clear own1 grow1 own1' k1' k2' o2' ko2 bb2 O1 K1 hbW)
      | (gi_at_builtin
         refine wpListIn_append_str _ rfl (.tmp 22) (.tmp 23) _ _ rfl w.heap.size 5 i0 Try.underlying22 Try.underlying9 hi0 hz0 hz1 hz2 (.slice A4 (ys.length + 1) c4) (ys.length + 1) _ rfl
           O2.out (bs x) rfl (by rw [hsz]; simp only [maxLen]; omega) (by rw [hsz]; omega) (Nat.le_trans hwW BB2.out.size) ?_
         intro v1 w3 own1 grow1
         obtain ⟨m5, hm5⟩ : ∃ m, (ys ++ (((x.length : Int) % 256) :: nums x)).length = m := ⟨_, rfl⟩
         have own1' : w3.ownsRow w.heap.size 5 1 v1 m5 ((ys ++ (((x.length : Int) % 256) :: nums x)).map (Value.int .u8)) := by
           have e : (ys ++ (((x.length : Int) % 256) :: nums x)).length = ys.length + 1 + (bs x).size := by rw [hsz]; simp [nums_length]; omega
           rw [← hm5, e]
           simpa [str_nums] using own1
         obtain ⟨A5, c5, rfl, _⟩ := own_breads own1'
         obtain ⟨k1', k2', o2', ko2, bb2⟩ := box_app (Below.refl _ _) K2.out (by decide) O2.out (Nat.le_trans hwW BB2.out.size) hwg own1' grow1
         have c5' := k1'.cell 0
         have f5' := k1'.frozen 0
         clear own1 grow1 own1' k1'))
    have hz : xs ++ packL (plain (pre ++ [⟨x, hx⟩])) = ys ++ (((x.length : Int) % 256) :: nums x) := by rw [plain_snoc, packL_snoc, ← List.append_assoc, hys]
    refine ⟨KO2.out.trans ko2, trivial, ⟨⟨_, k2', by rw [hz, hm5]; exact o2'⟩, SW.out.bel.trans (BB2.out.trans bb2)⟩, ?_⟩
    rw [plain_snoc, packL_snoc, List.length_append, List.length_append]
    simp [nums_length]
    omega
  case done =>
    rintro D ps W hD hps ⟨sW, -⟩ hK
    rw [hps] at sW
    obtain ⟨v, k1, o1⟩ := sW.out
    obtain ⟨A3, c3, rfl, _⟩ := own_breads o1
    have c1 := k1.cell 0
    have hbW : Below W.heap.size W (W.alloc (.cells #[.int .u8 0] 5)) := (Below.refl _ _).alloc (Nat.le_refl _) _
    have hwW : w.heap.size ≤ W.heap.size := sW.bel.size
    have hlen : (xs ++ packL LL).length ≤ 300000000 := by
      have h1 := HF.out.2
      have h2 := packL_length LL
      rw [hLL] at h1
      rw [List.length_append]
      omega
    have SW := Lib.hid sW
    have K1 := Lib.hid k1
    have O1 := Lib.hid o1
    clear hseq st bB sW k1 o1
    obtain ⟨i0, hi0, hz0, hz1, hz2⟩ := info_parts byte_info
    generalize hys : xs ++ packL LL = ys at *
    gi_wp2_with (gi_at_builtin
                 refine wpListIn_append_any _ rfl (.tmp 25) (.tmp 26) _ rfl w.heap.size 5 i0 _ 1 1 Try.underlying22 hi0 hz0 hz1 hz2 rfl (by omega) (.slice A3 ys.length c3) ys.length (ys.map (Value.int .u8)) rfl
                   (O1.out.alloc _) (W.heap.size + 1) (some ⟨W.heap.size, 0, none⟩) 1 1 [.int .u8 0] rfl (reads_one _ _ _) (by simp [Value.oneCell']) (by simp only [maxLen]; omega) (by omega) (by simp; omega) ?_
                 intro v1 w1 own1 grow1
                 have own1' : w1.ownsRow w.heap.size 5 1 v1 (ys ++ [0]).length ((ys ++ [0]).map (Value.int .u8)) := by simpa using own1
                 obtain ⟨A4, c4, rfl, hbr, hcap⟩ := own_breads own1')
    obtain ⟨ko, bb⟩ := app_others hbW O1.out hwW grow1
    have hK' := ko.same D _ hK rfl
    refine ⟨by simp, .inl ⟨_, _, rfl, run_takeDeferred hK', ?_⟩⟩
    refine ⟨.tuple #[.slice A4 (ys.length + 1) c4, .int .i64 0], ?_, ⟨A4, ys.length + 1, c4, rfl, ?_, by simpa using hcap, ?_⟩⟩
    · simp [results, Try.f12, go_sem]
    · rw [hLL, hys]
      have := breads_kept hbr (grownBy_putObj' _ D (.deferred none)) (fun r e => by cases e; exact ⟨_, hK', rfl⟩)
      simpa using this
    · exact (SW.out.bel.trans bb).trans (belowK_b (w := w) (Nat.le_refl _) _ D _ _ (by omega) hK' rfl rfl)
  case stop => exact fun _ _ _ _ _ _ h _ => h.elim

theorem nput_bad (A : Option Addr) (n c : Nat) (l : List UInt8) (hl : l.length ≤ 1048576) (hf : ¬ fits (labels l)) (w : World) :
    Calls Try.prog 12 #[.slice A n c, .string (bs l)] w fun r w' => r = .returned (.tuple #[.slice none 0 0, .int .i64 4]) ∧ Below w.heap.size w w' := by
  refine (callsIn_wide (n := 7)).1 ?_
  refine callsIn_of_wp_marks Try.func12 rfl trivial ?_ rfl
  simp only [Try.ntmps12, List.size_toArray, List.length_cons, List.length_nil, Nat.reduceAdd, Nat.reduceSub, Array.replicate_succ, Array.replicate_zero, List.push_toArray, List.append_toArray, List.nil_append, List.cons_append]
  gi_wp2_with fail
  refine ⟨trivial, ?_⟩
  refine (callsIn_wide.2 (nright_any l hl _)).mono ?_
  rintro r w1 ⟨rfl, hb1⟩
  rw [rgt_false hf]
  gi_wp2
  exact ⟨.tuple #[.slice none 0 0, .int .i64 4], by simp [results, Try.f12, go_sem], rfl, hb1⟩
end Go.Proofs.Ytfgcbpchapkjbaa
