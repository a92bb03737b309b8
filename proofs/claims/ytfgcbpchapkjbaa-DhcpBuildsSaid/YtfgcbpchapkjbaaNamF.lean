/-
  name: whether a text is a name (name.Right).
-/
import Derived.Test.YtfgcbpchapkjbaaNamE
import Derived.Test.YtfgcbpchapkjbaaOwn
namespace Go.Proofs.Ytfgcbpchapkjbaa
open Go.RowKit Go.Shelf
attribute [local go_sem] Oper.semAt_some

/-- The bytes of a name with these labels, its last zero among them; whether a text is a name. -/
def sumL (L : List (List UInt8)) : Nat := 1 + (L.map (fun x => 1 + x.length)).sum
def fits (L : List (List UInt8)) : Prop := L.all lab = true ∧ sumL L ≤ 255
def rgt (l : List UInt8) : Bool := (labels l).all lab && decide (sumL (labels l) ≤ 255)

theorem sumL_nil : sumL [] = 1 := rfl
theorem sumL_snoc (L : List (List UInt8)) (x : List UInt8) : sumL (L ++ [x]) = sumL L + (1 + x.length) := by simp [sumL]; omega
theorem sumL_append (L M : List (List UInt8)) : sumL L ≤ sumL (L ++ M) := by simp [sumL]
theorem fits_prefix {L M : List (List UInt8)} (h : L <+: M) (hM : fits M) : fits L := by
  obtain ⟨R, rfl⟩ := h
  have := sumL_append L R
  exact ⟨by have h1 := hM.1; rw [List.all_append, Bool.and_eq_true] at h1; exact h1.1, by have := hM.2; omega⟩
theorem rgt_true {l : List UInt8} (h : fits (labels l)) : rgt l = true := by simp [rgt, h.1, h.2]
theorem rgt_false {l : List UInt8} (h : ¬ fits (labels l)) : rgt l = false := by
  cases hr : rgt l with
  | false => rfl
  | true => exact absurd (by simpa [rgt, fits] using hr) h

/-- The law for a range over an iterator, the frame behind the assignment told as a function of the frame ahead of it. -/
theorem range_own {α : Type} {F : Fence} {n : Nat} {P : Program} {g : Operand} {ps : Array Tmp} {assign body : Code} {Q : Exit → Act → World → Prop} {a : Act} {w : World} (f : Act → α → Act)
    (hro : F.round = none) (h1 : 1 ≤ n) {gf : Nat} {lb : Array Value} (hg : a.eval g = .func (.func gf) #[] lb) (hFg : F.fn gf) (eg : ∀ args w, (callFunc gf args).run P w = .ok (.enter gf args) w)
    {encs : α → Array Value} {S Sp : List α → Prop} {N : Nat} (hseq : SeqStopsK F (n - 1) P gf lb encs (fun _ _ => True) S Sp N w) (hps : ∀ x, (encs x).size = ps.size)
    (I : List α → World → Prop) (Ix : Code → List α → World → Prop) (hI : OwnFrom w.heap.size I) (hIx : ∀ c, OwnFrom w.heap.size (Ix c)) (h0 : I [] w)
    (hassign : ∀ (l : Nat) (x : α) (W : World) (K : Act → World → Prop), K (f a x) W → assign.wpIn (F.inRound l) (n - 1 - 1) P (Exit.then K (fun _ _ _ => False)) { tmps := (ps.zip (encs x)).foldl (fun t (p, v) => t.setIfInBounds p v) a.tmps, defers := [] } W)
    (hbody : ∀ (l : Nat) (pre : List α) (x : α) (W : World), I pre W → pre.length < N → body.wpIn (F.inRound l) (n - 1 - 1) P (ownPostK (fun _ _ => True) I Ix (pre ++ [x]) W) (f a x) W)
    (hdone : ∀ (D : Nat) (xs : List α) (W : World), w.heap.size ≤ D → S xs → I xs W → W.heap[D]? = some (.deferred (some [])) → Q .normal { a with defers := { target := .collected D, args := #[] } :: a.defers } W)
    (hstop : ∀ (D : Nat) (c : Code) (pre : List α) (W : World), w.heap.size ≤ D → Sp pre → Ix c pre W → W.heap[D]? = some (.deferred (some [])) → c.wpIn F n P Q { a with defers := { target := .collected D, args := #[] } :: a.defers } W) :
    (Code.rangeFunc g ps assign body).wpIn F n P Q a w :=
  wpIn_rangeFunc_ownF hro h1 hg hFg eg hseq (fun _ _ => trivial) (fun _ _ _ _ _ _ _ _ => trivial) (Below.refl _ _) hps I Ix hI hIx h0 (f a) hassign hbody hdone hstop

/-- The function's own variables between two rounds. -/
structure RSt (w : World) (L : List (List UInt8)) (W : World) : Prop where
  res : Blk W w.heap.size 4 #[.bool false]
  size : Blk W (w.heap.size + 1) 3 #[.int .i64 (sumL L)]
  bel : Below w.heap.size w W
theorem RSt.kept {w : World} {B : Nat} (hB : w.heap.size ≤ B) {L : List (List UInt8)} {W W' : World} {row : Option Nat} (h : RSt w L W) (hg : W.grownBy W' row) (hr : ∀ r, row = some r → B ≤ r ∧ ∃ o : Obj, W.heap[r]? = some o ∧ o.isCells = false) : RSt w L W' :=
  ⟨blk_kept h.res hg (fun r e => (hr r e).2), blk_kept h.size hg (fun r e => (hr r e).2), h.bel.grown hg h.bel.size (fun r e => Nat.le_trans hB (hr r e).1)⟩

set_option maxRecDepth 100000 in
set_option maxHeartbeats 2000000 in
theorem nright_any (l : List UInt8) (hl : l.length ≤ 1048576) (w : World) : Calls Try.prog 16 #[.string (bs l)] w fun r w' => r = .returned (.bool (rgt l)) ∧ Below w.heap.size w w' := by
  refine (callsIn_wide (n := 6)).1 ?_
  refine callsIn_of_wp_marks Try.func16 rfl trivial ?_ rfl
  simp only [Try.ntmps16, List.size_toArray, List.length_cons, List.length_nil, Nat.reduceAdd, Nat.reduceSub, Array.replicate_succ, Array.replicate_zero, List.push_toArray, List.append_toArray, List.nil_append, List.cons_append]
  obtain ⟨LL, hLL⟩ : ∃ LL, labels l = LL := ⟨_, rfl⟩
  have b0 : Below w.heap.size w (((w.alloc (.cells #[.bool false] 4)).alloc (.cells #[.int .i64 1] 3)).alloc (.cells #[.string (bs l)] 9)) := (((Below.refl _ w).alloc (Nat.le_refl _) _).alloc (by simp) _).alloc (by simp; omega) _
  have st : RSt w [] (((w.alloc (.cells #[.bool false] 4)).alloc (.cells #[.int .i64 1] 3)).alloc (.cells #[.string (bs l)] 9)) :=
    ⟨((Blk.new w _ _).alloc _).alloc _, by have := (Blk.new (w.alloc (.cells #[.bool false] 4)) 3 #[.int .i64 1]).alloc (.cells #[.string (bs l)] 9); simp only [World.size_alloc] at this; exact this, b0⟩
  have bB : (((w.alloc (.cells #[.bool false] 4)).alloc (.cells #[.int .i64 1] 3)).alloc (.cells #[.string (bs l)] 9)).cell? ⟨w.heap.size + 1 + 1, 0, none⟩ = some (.string (bs l)) := by
    have := (Blk.new ((w.alloc (.cells #[.bool false] 4)).alloc (.cells #[.int .i64 1] 3)) 9 #[.string (bs l)]).cell 0
    simp only [World.size_alloc] at this
    exact this
  gi_wp2_with (refine ⟨trivial, ?_⟩; gi_at_call 20; refine (callsIn_wide.2 (labels_any _ _)).mono ?_; rintro r w1 ⟨rfl, rfl⟩)
  generalize ((w.alloc (.cells #[.bool false] 4)).alloc (.cells #[.int .i64 1] 3)).alloc (.cells #[.string (bs l)] 9) = W0 at *
  clear b0
  have hseq := labels_stops 5 (by omega) (w.heap.size + 1 + 1) l LL hLL hl W0 bB (fun _ _ => True)
  have hw0 := st.bel.size
  refine range_own (fun a x => { tmps := (a.tmps.setIfInBounds 7 (.string (bs x.1))).setIfInBounds 4 (.string (bs x.1)), defers := [] })
    rfl (by omega) (gf := 39) (lb := #[.pointer (some ⟨w.heap.size + 1 + 1, 0, none⟩)]) rfl trivial (enters_of Try.func39 (by kernel_rfl) rfl)
    hseq (fun _ => rfl) (fun pre W => RSt w (plain pre) W ∧ fits (plain pre)) (fun c pre W => c = .ret ∧ ¬ fits (plain pre) ∧ Blk W w.heap.size 4 #[.bool false] ∧ Below w.heap.size w W)
    ?own ?ownx ⟨st, by decide, by decide⟩ ?assign ?body ?done ?stop
  case own => exact fun pre W W' row hs hg hr => ⟨hs.1.kept hw0 hg hr, hs.2⟩
  case ownx => exact fun c pre W W' row hs hg hr => ⟨hs.1, hs.2.1, blk_kept hs.2.2.1 hg (fun r e => (hr r e).2), hs.2.2.2.grown hg hs.2.2.2.size (fun r e => Nat.le_trans hw0 (hr r e).1)⟩
  case assign =>
    intro lp x W K hK
    gi_wp2
    exact hK
  case body =>
    rintro lp pre ⟨x, hx⟩ W ⟨sW, hfit⟩ hlt
    simp only [List.setIfInBounds_toArray, List.set_cons_succ, List.set_cons_zero]
    have hsn : sumL (plain (pre ++ [⟨x, hx⟩])) = sumL (plain pre) + (1 + x.length) := by rw [plain_snoc, sumL_snoc]
    have hal : (plain (pre ++ [⟨x, hx⟩])).all lab = lab x := by rw [plain_snoc, List.all_append, hfit.1]; simp
    have hle := hfit.2
    obtain ⟨S, hS⟩ : ∃ S, sumL (plain pre) = S := ⟨_, rfl⟩
    have c1 := sW.size.cell 0
    have f1 := sW.size.frozen 0
    rw [hS] at hsn hle c1
    have SW := Lib.hid sW
    clear hseq st bB hfit sW
    have hw1 : IntKind.i64.wrap (1 + (x.length : Int)) = 1 + x.length := IntWalk.i64_in _ (by omega)
    have hw2 : IntKind.i64.wrap ((S : Int) + (1 + x.length)) = S + (1 + x.length) := IntWalk.i64_in _ (by omega)
    have hsz : (bs x).size = x.length := rfl
    gi_wp2_with fail
    refine ⟨trivial, ?_⟩
    refine (CallsIn.inRound lp (callsIn_wide.2 (right_any (bs x) (by rw [bs_size]; omega) _))).mono ?_
    rintro r w6 ⟨rfl, hb6⟩
    rw [bs_data]
    have s1 := (SW.out.size.set_ 0 (.int .i64 ((S : Int) + (1 + x.length)))).on hb6
    have r1 := (SW.out.res.far (p := ⟨w.heap.size + 1, 0, none⟩) (by simp) (.int .i64 ((S : Int) + (1 + x.length)))).on hb6
    have kb : KeepsOthers W w6 := (KeepsOthers.setCell _ _ _).trans (KeepsOthers.of_grownBy (only_of_below hb6 none) (fun _ _ e => by cases e))
    have bb : Below w.heap.size w w6 := (SW.out.bel.setCell (p := ⟨w.heap.size + 1, 0, none⟩) (by simp) _).trans (hb6.mono (by have := SW.out.bel.size; simpa [World.setCell] using this))
    have c6 : w6.cell? ⟨w.heap.size + 1, 0, none⟩ = some (.int .i64 ((S : Int) + (1 + x.length))) := s1.cell 0
    have d6 : w6.cell? ⟨w.heap.size, 0, none⟩ = some (.bool false) := r1.cell 0
    have g6 : w6.frozen? ⟨w.heap.size, 0, none⟩ = false := r1.frozen 0
    clear c1 f1 hw1 hw2 hb6 SW
    cases hlx : lab x with
    | false =>
      have hnf : ¬ fits (plain (pre ++ [⟨x, hx⟩])) := fun h => by have := h.1; rw [hal, hlx] at this; cases this
      gi_wp2
      exact ⟨kb.trans (KeepsOthers.setCell _ _ _), rfl, hnf, by have := r1.set_ 0 (.bool false); simpa using this, bb.setCell (p := ⟨w.heap.size, 0, none⟩) (Nat.le_refl _) _⟩
    | true =>
      by_cases hbig : 255 < S + (1 + x.length)
      · have hnf : ¬ fits (plain (pre ++ [⟨x, hx⟩])) := fun h => by have := h.2; rw [hsn] at this; omega
        have hd : decide ((255 : Int) < (S : Int) + (1 + x.length)) = true := by simp; omega
        gi_wp2
        exact ⟨kb.trans (KeepsOthers.setCell _ _ _), rfl, hnf, by have := r1.set_ 0 (.bool false); simpa using this, bb.setCell (p := ⟨w.heap.size, 0, none⟩) (Nat.le_refl _) _⟩
      · have hd : decide ((255 : Int) < (S : Int) + (1 + x.length)) = false := by simp; omega
        have hf : fits (plain (pre ++ [⟨x, hx⟩])) := ⟨by rw [hal, hlx], by rw [hsn]; omega⟩
        gi_wp2
        exact ⟨kb, trivial, ⟨r1, by rw [hsn]; simpa using s1, bb⟩, hf⟩
  case done =>
    rintro D xs W hD hxs ⟨sW, hfit⟩ hK
    have hR : rgt l = true := rgt_true (by rw [hLL, ← hxs]; exact hfit)
    have c1 : W.cell? ⟨w.heap.size, 0, none⟩ = some (.bool false) := sW.res.cell 0
    have f1 := sW.res.frozen 0
    clear hseq st bB
    gi_wp2
    have hK' := (KeepsOthers.setCell W ⟨w.heap.size, 0, none⟩ (.bool true)).same D _ hK rfl
    refine ⟨by simp, .inl ⟨_, _, rfl, run_takeDeferred hK', ?_⟩⟩
    have hc5 := cell_kept (World.cell?_setCell_same' W ⟨w.heap.size, 0, none⟩ (.bool true) (by rw [c1]; rfl)) (grownBy_putObj' _ D (.deferred none)) (fun r e => by cases e; exact ⟨_, hK', rfl⟩)
    refine ⟨.bool true, ?_, by rw [hR], ?_⟩
    · simp [results, Try.f16, go_sem, hc5]
    · exact (sW.bel.setCell (p := ⟨w.heap.size, 0, none⟩) (Nat.le_refl _) _).trans (belowK_b (w := w) (Nat.le_refl _) _ D _ _ (by omega) hK' rfl rfl)
  case stop =>
    rintro D c pre W hD hpre ⟨rfl, hnf, hb, hbel⟩ hK
    have hR : rgt l = false := rgt_false (fun h => hnf (fits_prefix hpre (by rw [← hLL]; exact h)))
    have c1 : W.cell? ⟨w.heap.size, 0, none⟩ = some (.bool false) := hb.cell 0
    clear hseq st bB
    gi_wp2
    refine ⟨by simp, .inl ⟨_, _, rfl, run_takeDeferred hK, ?_⟩⟩
    have hc5 := cell_kept c1 (grownBy_putObj' _ D (.deferred none)) (fun r e => by cases e; exact ⟨_, hK, rfl⟩)
    refine ⟨.bool false, ?_, by rw [hR], ?_⟩
    · simp [results, Try.f16, go_sem, hc5]
    · exact hbel.trans (belowK_b (w := w) (Nat.le_refl _) _ D _ _ (by omega) hK rfl rfl)
end Go.Proofs.Ytfgcbpchapkjbaa
