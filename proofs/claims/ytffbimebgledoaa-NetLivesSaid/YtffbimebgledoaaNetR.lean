/-
  NetLives: the walk.
-/
import Derived.Test.YtffbimebgledoaaNetQ
import Derived.ControlIn
import Derived.Deep.Cut
import Derived.Deep.CutBlock
import Derived.Deep.CutRange
import Derived.Deep.RegionHeld3
import Derived.Stop.RegionWithIn
namespace Go.Proofs.Ytffbimebgledoaa
open Go.RowKit Go.Shelf
attribute [local go_sem] Oper.semAt_some

theorem DoRow.at_ {w : World} {a : Option Addr} {len : Nat} (h : DoRow w a len) {w' : World} (hb : Below w.heap.size w w') {i : Nat} (hi : i < len) : ∃ (b off : Nat) (tke : Bool) (at_ b4 : Int) (up : Bool) (A : Option Addr) (n c : Nat) (bs : List Int),
    a = some ⟨b, off, none⟩ ∧ w'.cell? ⟨b, off + i * 5, none⟩ = some (.bool tke) ∧ w'.cell? ⟨b, off + i * 5 + 1, none⟩ = some (.int .i64 at_) ∧ w'.cell? ⟨b, off + i * 5 + 2, none⟩ = some (.int .i64 b4) ∧
    w'.cell? ⟨b, off + i * 5 + 3, none⟩ = some (.bool up) ∧ w'.cell? ⟨b, off + i * 5 + 4, none⟩ = some (.slice A n c) ∧ BReads w A n bs ∧ n ≤ 9223372036854775807 := by
  obtain ⟨b, off, tke, at_, b4, up, A, n, c, bs, h1, h2, h3, h4, h5, h6, h7, h8, h9⟩ := h.2 i hi
  exact ⟨b, off, tke, at_, b4, up, A, n, c, bs, h1, (hb.cell (p := ⟨b, _, none⟩) h2).trans h3, (hb.cell (p := ⟨b, _, none⟩) h2).trans h4, (hb.cell (p := ⟨b, _, none⟩) h2).trans h5, (hb.cell (p := ⟨b, _, none⟩) h2).trans h6, (hb.cell (p := ⟨b, _, none⟩) h2).trans h7, h8, h9⟩

/-- The law's own variables between two rounds. -/
structure LiveSt (w : World) (gx gp gr Bp Br : Nat) (most : Int) (X1 X2 : List It) (wr : World) : Prop where
  res : Blk wr w.heap.size 4 #[.bool false]
  var : Blk wr gx 61 #[.pointer (some ⟨gr, 0, none⟩)]
  net : ∃ M, NetP wr Bp gp most M ∧ Means wr M X1
  ref : ∃ M, RNet wr Br gr most M ∧ Means wr M X2
  bel : Below w.heap.size w wr
  b1 : w.heap.size < Bp
  b2 : w.heap.size < Br
section
variable {w wr w' : World} {gx gp gr Bp Br : Nat} {most : Int} {X1 X2 : List It}
theorem LiveSt.on (h : LiveSt w gx gp gr Bp Br most X1 X2 wr) (hb : Below wr.heap.size wr w') : LiveSt w gx gp gr Bp Br most X1 X2 w' := by
  obtain ⟨M, m1, m2⟩ := h.net
  obtain ⟨N, n1, n2⟩ := h.ref
  exact ⟨h.res.below hb h.res.lt, h.var.below hb h.var.lt, ⟨M, m1.below hb, m2.below hb⟩, ⟨N, n1.below hb, n2.below hb⟩, h.bel.trans (hb.mono h.bel.size), h.b1, h.b2⟩
theorem LiveSt.p (h : LiveSt w gx gp gr Bp Br most X1 X2 wr) (hc : Chg Bp 55 42 wr w') {M : List Ent} {X : List It} (h1 : NetP w' Bp gp most M) (h2 : Means w' M X) : LiveSt w gx gp gr Bp Br most X X2 w' := by
  obtain ⟨N, n1, n2⟩ := h.ref
  exact ⟨hc.blk h.res (by decide) (by decide), hc.blk h.var (by decide) (by decide), ⟨M, h1, h2⟩, ⟨N, n1.chg hc (by decide) (by decide) (by decide) (by decide), n2.chg hc (by decide) (by decide)⟩, h.bel.trans (hc.bel.mono (Nat.le_of_lt h.b1)), h.b1, h.b2⟩
theorem LiveSt.r (h : LiveSt w gx gp gr Bp Br most X1 X2 wr) (hc : Chg Br 73 66 wr w') {M : List Ent} {X : List It} (h1 : RNet w' Br gr most M) (h2 : Means w' M X) : LiveSt w gx gp gr Bp Br most X1 X w' := by
  obtain ⟨N, n1, n2⟩ := h.net
  exact ⟨hc.blk h.res (by decide) (by decide), hc.blk h.var (by decide) (by decide), ⟨N, n1.chg hc (by decide) (by decide) (by decide) (by decide), n2.chg hc (by decide) (by decide)⟩, ⟨M, h1, h2⟩, h.bel.trans (hc.bel.mono (Nat.le_of_lt h.b2)), h.b1, h.b2⟩
end

theorem Blk.on {w w' : World} {g : Nat} {t : TypeId} {cs : Array Value} (h : Blk w g t cs) (hb : Below w.heap.size w w') : Blk w' g t cs := h.below hb h.lt

/-- No row of the net at g lies in block D. -/
def Off (g D : Nat) (w : World) : Prop := ∀ ad n c, w.cell? ⟨g, 0, none⟩ = some (.slice (some ad) n c) → ad.block ≠ D
theorem Off.set_ {g D : Nat} {w : World} (h : Off g D w) (hg : g ≠ D) (i : Nat) (u : Value) : Off g D (w.setCell ⟨D, i, none⟩ u) := fun ad n c hc => h ad n c ((World.cell?_setCell_other w ⟨D, i, none⟩ ⟨g, 0, none⟩ u (fun e => hg (by injection e with e1; exact e1.symm))).symm.trans hc)
theorem Off.same {g D : Nat} {w w' : World} (h : Off g D w) (he : w'.cell? ⟨g, 0, none⟩ = w.cell? ⟨g, 0, none⟩) : Off g D w' := fun ad n c hc => h ad n c (he.symm.trans hc)
theorem Off.ne_own {g D n c : Nat} {A : Option Addr} {w : World} (h : Off g D w) (hc : w.cell? ⟨g, 0, none⟩ = some (.slice A n c)) : (Value.slice A n c).ownBlock ≠ some D := by
  cases A with
  | none => simp [Value.ownBlock]
  | some ad => exact fun e => h ad n c hc (by simpa [Value.ownBlock] using e)

section
variable {w wr : World} {gx gp gr Bp Br D t : Nat} {most : Int} {X1 X2 : List It}
theorem LiveSt.cell (h : LiveSt w gx gp gr Bp Br most X1 X2 wr) {cs : Array Value} (hd : Blk wr D t cs) (t1 : 4 ≠ t) (t2 : 61 ≠ t) (t3 : 55 ≠ t) (t4 : 73 ≠ t) (t5 : 5 ≠ t)
    (h1 : Off gp D wr) (h2 : Off gr D wr) (hD : w.heap.size ≤ D) (i : Nat) (u : Value) : LiveSt w gx gp gr Bp Br most X1 X2 (wr.setCell ⟨D, i, none⟩ u) := by
  obtain ⟨M, ⟨m1, A, c, mk, mo⟩, m2⟩ := h.net
  obtain ⟨N, ⟨n1, A', c', nk, no⟩, n2⟩ := h.ref
  have hc : Chg w.heap.size t t wr (wr.setCell ⟨D, i, none⟩ u) := Chg.set_ hd (.inl rfl) hD i u
  exact ⟨hc.blk h.res t1 t1, hc.blk h.var t2 t2, ⟨M, ⟨m1, A, c, hc.blk mk t3 t3, owns_far mo (h1.ne_own (mk.cell 0)) u⟩, m2.chg hc t5 t5⟩, ⟨N, ⟨n1, A', c', hc.blk nk t4 t4, owns_far no (h2.ne_own (nk.cell 0)) u⟩, n2.chg hc t5 t5⟩, h.bel.trans hc.bel, h.b1, h.b2⟩
theorem LiveSt.item (h : LiveSt w gx gp gr Bp Br most X1 X2 wr) {x y z : Value} (hd : Blk wr D t #[x, y, z]) (t1 : 4 ≠ t) (t2 : 61 ≠ t) (t3 : 55 ≠ t) (t4 : 73 ≠ t) (t5 : 5 ≠ t)
    (h1 : Off gp D wr) (h2 : Off gr D wr) (hD : w.heap.size ≤ D) (a b c : Value) : LiveSt w gx gp gr Bp Br most X1 X2 (((wr.setCell ⟨D, 0, none⟩ a).setCell ⟨D, 1, none⟩ b).setCell ⟨D, 2, none⟩ c) := by
  obtain ⟨M, ⟨m1, A, c', mk, mo⟩, m2⟩ := h.net
  obtain ⟨N, ⟨n1, A', c2, nk, no⟩, n2⟩ := h.ref
  have e1 : gp ≠ D := Blk.ne_ mk hd t3
  have e2 : gr ≠ D := Blk.ne_ nk hd t4
  have s1 := h.cell hd t1 t2 t3 t4 t5 h1 h2 hD 0 a
  have s2 := s1.cell (hd.set_ 0 a) t1 t2 t3 t4 t5 (h1.set_ e1 0 a) (h2.set_ e2 0 a) hD 1 b
  exact s2.cell ((hd.set_ 0 a).set_ 1 b) t1 t2 t3 t4 t5 ((h1.set_ e1 0 a).set_ e1 1 b) ((h2.set_ e2 0 a).set_ e2 1 b) hD 2 c
end

section
variable {W W' : World} {row : Option Nat} (hg : W.grownBy W' row) (hr : ∀ r, row = some r → ∃ o : Obj, W.heap[r]? = some o ∧ o.isCells = false)
include hg hr
theorem breads_kept {A : Option Addr} {n : Nat} {xs : List Int} (h : BReads W A n xs) : BReads W' A n xs :=
  ⟨⟨h.1.1, fun hn => by obtain ⟨ad, e, hb, hc⟩ := h.1.2 hn; exact ⟨ad, e, Nat.lt_of_lt_of_le hb hg.size, fun j u hu => cell_kept (hc j u hu) hg hr⟩⟩, h.2⟩
theorem owns_kept {base n e size : Nat} {v : Value} {xs : List Value} (ho : W.ownsRow base e size v n xs) : W'.ownsRow base e size v n xs := by
  refine ⟨ho.1, ?_⟩
  rcases ho.2 with h0 | ⟨g, cap, cur, hv, hg', hh, hrest⟩
  · exact .inl h0
  · exact .inr ⟨g, cap, cur, hv, hg', blk_kept (show Blk W g e cur from hh) hg hr, hrest⟩
theorem means_kept {M : List Ent} {X : List It} (h : Means W M X) : Means W' M X :=
  ⟨h.1, fun i e x he hx => by obtain ⟨a, b, c, d⟩ := h.2 i e x he hx; exact ⟨a, b, ⟨breads_kept hg hr c.1, fun ad ea => by obtain ⟨cs, hk⟩ := c.2 ad ea; exact ⟨cs, blk_kept hk hg hr⟩⟩, d⟩⟩
end
theorem LiveSt.kept {w wr w' : World} {gx gp gr Bp Br B : Nat} {most : Int} {X1 X2 : List It} {row : Option Nat} (h : LiveSt w gx gp gr Bp Br most X1 X2 wr) (hg : wr.grownBy w' row) (hr : ∀ r, row = some r → B ≤ r ∧ ∃ o : Obj, wr.heap[r]? = some o ∧ o.isCells = false) (hB : w.heap.size ≤ B) :
    LiveSt w gx gp gr Bp Br most X1 X2 w' := by
  have hr' : ∀ r, row = some r → ∃ o : Obj, wr.heap[r]? = some o ∧ o.isCells = false := fun r e => (hr r e).2
  obtain ⟨M, ⟨m1, A, c, mk, mo⟩, m2⟩ := h.net
  obtain ⟨N, ⟨n1, A', c', nk, no⟩, n2⟩ := h.ref
  exact ⟨blk_kept h.res hg hr', blk_kept h.var hg hr', ⟨M, ⟨m1, A, c, blk_kept mk hg hr', owns_kept hg hr' mo⟩, means_kept hg hr' m2⟩, ⟨N, ⟨n1, A', c', blk_kept nk hg hr', owns_kept hg hr' no⟩, means_kept hg hr' n2⟩,
    h.bel.grown hg h.bel.size (fun r e => Nat.le_trans hB (hr r e).1), h.b1, h.b2⟩

theorem off_of {w : World} {B g D t e n c : Nat} {A : Option Addr} {cs : Array Value} {xs : List Value} (hk : w.cell? ⟨g, 0, none⟩ = some (.slice A n c)) (ho : w.ownsRow B e 3 (.slice A n c) n xs) (hd : Blk w D t cs) (ht : t ≠ e) : Off g D w := by
  intro ad n' c' hc
  have := Option.some.inj (hk.symm.trans hc)
  injection this with e1
  subst e1
  intro e2
  exact owns_ne ho hd ht (by rw [← e2]; rfl)

/-- The end of a round: the count goes up by one. -/
theorem body_end {w W w6 : World} {gx gp gr Bp Br S i : Nat} {most : Int} {X : List It} {pre : List Ent} {x : Ent} (st : LiveSt w gx gp gr Bp Br most X X W) (bs : Blk W S 3 #[.int .i64 i]) (hi : pre.length = i) (bb : Below W.heap.size W w6) (hS : w.heap.size ≤ S) {a : Act} :
    goesOn (Keeps1 S) (fun pre W => LiveSt w gx gp gr Bp Br most X X W ∧ Blk W S 3 #[.int .i64 pre.length]) (pre ++ [x]) W .normal a (w6.setCell ⟨S, 0, none⟩ (.int .i64 ((i : Int) + 1))) := by
  have s6 := st.on bb
  have b6 := bs.on bb
  obtain ⟨M, ⟨m1, A, c, mk, mo⟩, m2⟩ := s6.net
  obtain ⟨N, ⟨n1, A', c', nk, no⟩, n2⟩ := s6.ref
  refine ⟨(KeepsOthers.of_grownBy (only_of_below bb none) (fun _ _ e => by cases e)).trans (KeepsOthers.setCell _ _ _), (Keeps1.of_below bb).t (Keeps1.of_only (only_setCell (World.grownBy.refl w6 (some S)) (p := ⟨S, 0, none⟩) (.inl rfl) _) (.inr rfl)),
    s6.cell b6 (by decide) (by decide) (by decide) (by decide) (by decide) (off_of (mk.cell 0) mo b6 (by decide)) (off_of (nk.cell 0) no b6 (by decide)) hS 0 _, ?_⟩
  rw [List.length_append, hi]
  exact b6.set_ 0 _

/-! A region that draws its order, in a round of a range over a function: as outside every fence. -/
theorem opIn_round {P : Program} {o : Oper} {a : Act} {w : World} {next : Act → World → Prop} {Q : Exit → Act → World → Prop} (l n : Nat) (hd : ∀ c, o.op ≠ .defer c) (h : Oper.wp P o a w next Q) : Oper.wpIn (Fence.wide.inRound l) n P o a w next Q := by
  refine ⟨fun _ _ => trivial, ?_⟩
  rw [Oper.semAt_eq _ _ _ hd]
  unfold Oper.wp at h
  generalize (execOp a.eval o).run P w = r at h ⊢
  cases r with
  | ok x w' =>
    cases x with
    | value v => exact h
    | skip => exact h
    | defer d => exact h
    | enter f args => exact ⟨fun h' => (by cases h'), (callsIn_wide (n := n - 1)).2 h⟩
    | row r args => exact ⟨fun h' => (by cases h'), fun c cs _ => let ⟨v, w2, h1, h2⟩ := h c cs; ⟨v, w2, h1, stepsIn_wide.2 h2⟩⟩
    | _ => exact h.elim
  | halt x w' => cases x <;> exact h
theorem opsIn_round {P : Program} {ops : Array Oper} {Q : Exit → Act → World → Prop} (l n : Nat) (hd : ∀ (i : Nat) (o : Oper), ops[i]? = some o → ∀ c, o.op ≠ .defer c) (hQ : ¬ LetsOut Q) : ∀ (is : List Nat) (a : Act) (w : World), wpOps P ops Q is a w → wpOpsIn (Fence.wide.inRound l) n P ops Q is a w
  | [], _, _, h => h
  | i :: rest, a, w, h => by
    have ih := opsIn_round (P := P) l n hd hQ rest
    unfold wpOps at h
    unfold wpOpsIn
    cases hi : ops[i]? with
    | none =>
      rw [hi] at h
      exact ih a w h
    | some o =>
      rw [hi] at h
      simp only at h ⊢
      by_cases hw : Region.wanted o (yielded ops a.tmps) = true
      · rw [if_pos hw] at h ⊢
        rcases h with h | h
        · exact opIn_round l n (hd i o hi) (Oper.wp_mono (fun a w => ih a w) h)
        · exact absurd h.2 hQ
      · rw [if_neg hw] at h ⊢
        exact ⟨fun _ _ => trivial, ih _ _ h⟩
def noDefer (ops : Array Oper) : Bool := ops.all fun o => match o.op with | .defer _ => false | _ => true
theorem region_round {P : Program} {id l n : Nat} {ops : Array Oper} {Q : Exit → Act → World → Prop} {a : Act} {w : World} (S : World → Prop) (hm : P.follows .mixedOrders = true) (hd : noDefer ops = true) (hQ : ¬ LetsOut Q) (hS : S w.drew)
    (h : S w.drew → wpAnyH P .any ops Q S ops.size (Array.replicate ops.size false) a w.drew) : (Code.region id ops true).wpIn (Fence.wide.inRound l) n P Q a w :=
  wpIn_region_draw fun t => opsIn_round l n (fun i o ho c hc => by
    have := (Array.all_eq_true.1 hd) i (Array.getElem?_eq_some_iff.1 ho).1
    obtain ⟨h1, h2⟩ := Array.getElem?_eq_some_iff.1 ho
    rw [h2, hc] at this
    cases this) hQ _ _ _ (by
    simp only [Region.schedule, hm, Bool.true_or, if_true]
    exact wpAny_sound ops.size t _ a _ (wpAny_of_held _ _ _ _ (h hS)))
theorem cell_on {W W' : World} {p : Addr} {v : Value} (h : W.cell? p = some v) (hb : Below W.heap.size W W') : W'.cell? p = some v := (hb.cell (World.block_lt_of_cell? W _ h)).trans h

set_option maxRecDepth 100000 in
set_option maxHeartbeats 8000000 in
theorem nlives_ok (most : Int) (h0 : 0 ≤ most) (h1 : most ≤ 4096) (a : Option Addr) (len cap : Nat) (w : World) (hr : DoRow w a len) :
    Calls Try.prog 8 #[.int .i64 most, .slice a len cap] w fun r w' => r = .returned (.bool true) ∧ Below w.heap.size w w' := by
  have hl0 := hr.1
  have HR := Lib.hid hr
  have bw : Below w.heap.size w (w.alloc (.cells #[.bool false] 4)) := (Below.refl _ w).alloc (Nat.le_refl _) _
  have kr : Blk (w.alloc (.cells #[.bool false] 4)) w.heap.size 4 #[.bool false] := Blk.new _ _ _
  clear hr
  refine (callsIn_wide (n := 6)).1 ?_
  refine callsIn_of_wp_marks Try.func8 rfl trivial ?_ rfl
  simp only [Try.ntmps8, List.size_toArray, List.length_cons, List.length_nil, Nat.reduceAdd, Nat.reduceSub, Array.replicate_succ, Array.replicate_zero, List.push_toArray, List.append_toArray, List.nil_append, List.cons_append]
  refine wpIn_wide.2 ?_
  go_wp2_with fail
  refine (nawake_any _).mono ?_
  rintro r w1 ⟨rfl, hb1⟩
  have B1 := Lib.hid (bw.trans (hb1.mono bw.size))
  have K1 := Lib.hid (kr.below hb1 kr.lt)
  have hs1 : w.heap.size < w1.heap.size := by have := hb1.size; simp at this; omega
  clear bw kr hb1
  go_wp2_with fail
  refine (new_ok most w1 h0 h1).mono ?_
  rintro r w2 ⟨gp, rfl, hn, b2⟩
  have HN := Lib.hid hn
  have B2 := Lib.hid b2
  clear hn b2
  go_wp2_with fail
  refine (rnew_ok most w2 h0 h1).mono ?_
  rintro r w3 ⟨gr, rfl, hn, b3⟩
  have hs2 : w1.heap.size ≤ w2.heap.size := B2.out.size
  have hs3 : w2.heap.size ≤ w3.heap.size := b3.size
  have al := (Below.refl w3.heap.size w3).alloc (Nat.le_refl _) (.cells #[.pointer (some ⟨gr, 0, none⟩)] 61)
  have b123 := b3.trans (al.mono hs3)
  have b23 := B2.out.trans (b123.mono hs2)
  have ST := Lib.hid (show LiveSt w w3.heap.size gp gr w1.heap.size w2.heap.size most [] [] (w3.alloc (.cells #[.pointer (some ⟨gr, 0, none⟩)] 61)) from
    ⟨K1.out.below b23 K1.out.lt, Blk.new _ _ _, ⟨[], HN.out.below b123, Means.nil _⟩, ⟨[], hn.below al, Means.nil _⟩, B1.out.trans (b23.mono (Nat.le_of_lt hs1)), hs1, by omega⟩)
  clear hn b3 al b123 b23 HN B2 B1 K1 hs2 hs3 h0 h1
  go_upto_block 0 with fail
  generalize (w3.alloc (.cells #[.pointer (some ⟨gr, 0, none⟩)] 61)) = W0 at ST ⊢
  generalize w3.heap.size = gx at *
  generalize w1.heap.size = Bp at *
  generalize w2.heap.size = Br at *
  go_cut [] from 9 (fun wx => ∃ X : List It, LiveSt w gx gp gr Bp Br most X X wx ∧ X.length ≤ 100)
  case first =>
    go_wp2_with fail
    go_loopw [41] (fun i wr => ∃ (k : Nat) (X : List It), k ≤ len ∧ k ≤ 100 ∧ i = .int .i64 k ∧ X.length ≤ k ∧ LiveSt w gx gp gr Bp Br most X X wr) (fun i _ => len - (intOf i).toNat)
    case atStart => exact ⟨0, [], Nat.zero_le _, Nat.zero_le _, rfl, Nat.zero_le _, ST.out⟩
    case round =>
      obtain ⟨k, X, hk, hk100, rfl, hX, st⟩ := hrel
      have S0 := Lib.hid st
      clear ST
      by_cases hlt : k < len
      · obtain ⟨b, off, tke, at_, b4, up, A, n, c, bs, rfl, m0, m1, m2, m3, m4, hbr, hnn⟩ := HR.out.at_ st.bel hlt
        have HB := Lib.hid hbr
        clear st hbr
        have al := (Below.refl wr.heap.size wr).alloc (Nat.le_refl _) (.cells #[.bool tke, .int .i64 at_, .int .i64 b4, .bool up, .slice A n c] 65)
        have s1 := S0.out.on al
        have S1 := Lib.hid s1
        have kd := Blk.new wr 65 #[.bool tke, .int .i64 at_, .int .i64 b4, .bool up, .slice A n c]
        have KD := Lib.hid kd
        have v1 : (wr.alloc (.cells #[.bool tke, .int .i64 at_, .int .i64 b4, .bool up, .slice A n c] 65)).cell? ⟨gx, 0, none⟩ = some (.pointer (some ⟨gr, 0, none⟩)) := s1.var.cell 0
        have d1 : (wr.alloc (.cells #[.bool tke, .int .i64 at_, .int .i64 b4, .bool up, .slice A n c] 65)).cell? ⟨wr.heap.size, 1, none⟩ = some (.int .i64 at_) := kd.cell 1
        have d4 : (wr.alloc (.cells #[.bool tke, .int .i64 at_, .int .i64 b4, .bool up, .slice A n c] 65)).cell? ⟨wr.heap.size, 4, none⟩ = some (.slice A n c) := kd.cell 4
        clear al s1 kd
        by_cases h100 : 100 ≤ k
        · go_wp2_with fail
          go_meet
          case rel => exact ⟨X, S1.out, by omega⟩
        · by_cases hn2 : 2000 < n
          · go_wp2_with fail
            go_meet
            case rel => exact ⟨X, S1.out, by omega⟩
          · obtain ⟨⟨q1, q2, q3⟩, hq⟩ : ∃ q, lk X at_ = q := ⟨_, rfl⟩
            obtain ⟨ok, hok⟩ : ∃ ok, decide (X.length ≠ 0) = ok := ⟨_, rfl⟩
            have HQ := Lib.hid hq
            have HOK := Lib.hid hok
            have HX := Lib.hid (show X.length ≤ 100 by omega)
            have hn3 : n ≤ 2000 := by omega
            clear hq hok
            go_wp2_with fail
            clear m0 m1 m2 m3 m4
            have d0 := KD.out.cell 0
            have hD0 := KD.out.lt
            change Calls _ _ _ (wr.alloc (.cells #[.bool tke, .int .i64 at_, .int .i64 b4, .bool up, .slice A n c] 65)) _
            generalize (wr.alloc (.cells #[.bool tke, .int .i64 at_, .int .i64 b4, .bool up, .slice A n c] 65)) = W1 at *
            generalize wr.heap.size = D at *
            clear S0 d0
            have hw1 := S1.out.bel.size
            obtain ⟨M, p1, z1⟩ := S1.out.net
            obtain ⟨N, r1, y1⟩ := S1.out.ref
            have P1 := Lib.hid p1
            have R1 := Lib.hid r1
            refine (look_v p1 z1 (by omega) HQ.out HOK.out).mono ?_
            rintro r w4 ⟨A1, n1, c1, rfl, br1, bb4⟩
            have al4 := (Below.refl w4.heap.size w4).alloc (Nat.le_refl _) (.cells #[.int .i64 q1, .bool q2, .slice A1 n1 c1] 42)
            have bb5 := bb4.trans (al4.mono bb4.size)
            have s2 := S1.out.on bb5
            have S2 := Lib.hid s2
            have KD2 := Lib.hid (KD.out.on bb5)
            have K11 := Lib.hid (Blk.new w4 42 #[.int .i64 q1, .bool q2, .slice A1 n1 c1])
            have BR1 := Lib.hid (br1.below al4)
            have BB2 := Lib.hid bb5
            have v2 : (w4.alloc (.cells #[.int .i64 q1, .bool q2, .slice A1 n1 c1] 42)).cell? ⟨gx, 0, none⟩ = some (.pointer (some ⟨gr, 0, none⟩)) := s2.var.cell 0
            have e1 : (w4.alloc (.cells #[.int .i64 q1, .bool q2, .slice A1 n1 c1] 42)).cell? ⟨D, 1, none⟩ = some (.int .i64 at_) := KD2.out.cell 1
            have hD11 : W1.heap.size ≤ w4.heap.size := bb4.size
            clear br1 bb4 al4 bb5 s2 v1 d1 d4 KD p1 z1 r1 y1
            go_wp2_with fail
            have k11lt := K11.out.lt
            change Calls _ _ _ (w4.alloc (.cells #[.int .i64 q1, .bool q2, .slice A1 n1 c1] 42)) _
            generalize (w4.alloc (.cells #[.int .i64 q1, .bool q2, .slice A1 n1 c1] 42)) = W2 at *
            generalize w4.heap.size = D11 at *
            obtain ⟨N2, r2, y2⟩ := S2.out.ref
            refine (rlook_v r2 y2 (by omega) HQ.out HOK.out).mono ?_
            rintro r w5 ⟨A2, n2, c2, rfl, br2, bb5⟩
            have al5 := (Below.refl w5.heap.size w5).alloc (Nat.le_refl _) (.cells #[.int .i64 q1, .bool q2, .slice A2 n2 c2] 66)
            have bb6 := bb5.trans (al5.mono bb5.size)
            have S3 := Lib.hid (S2.out.on bb6)
            have KD3 := Lib.hid (KD2.out.on bb6)
            have K11b := Lib.hid (K11.out.on bb6)
            have K13 := Lib.hid (Blk.new w5 66 #[.int .i64 q1, .bool q2, .slice A2 n2 c2])
            have BR1b := Lib.hid (BR1.out.below bb6)
            have BR2 := Lib.hid (br2.below al5)
            have BB3 := Lib.hid (BB2.out.trans (bb6.mono BB2.out.size))
            have hD13 : W2.heap.size ≤ w5.heap.size := bb5.size
            have j0 : (w5.alloc (.cells #[.int .i64 q1, .bool q2, .slice A2 n2 c2] 66)).cell? ⟨D11, 0, none⟩ = some (.int .i64 q1) := K11b.out.cell 0
            have j1 : (w5.alloc (.cells #[.int .i64 q1, .bool q2, .slice A2 n2 c2] 66)).cell? ⟨D11, 1, none⟩ = some (.bool q2) := K11b.out.cell 1
            have j2 : (w5.alloc (.cells #[.int .i64 q1, .bool q2, .slice A2 n2 c2] 66)).cell? ⟨D11, 2, none⟩ = some (.slice A1 n1 c1) := K11b.out.cell 2
            clear br2 bb5 al5 bb6 S2 KD2 K11 BR1 BB2 r2 y2 v2 e1 S1
            go_wp2_with fail
            have k13lt := K13.out.lt
            change Calls _ _ _ (w5.alloc (.cells #[.int .i64 q1, .bool q2, .slice A2 n2 c2] 66)) _
            generalize (w5.alloc (.cells #[.int .i64 q1, .bool q2, .slice A2 n2 c2] 66)) = W3 at *
            generalize w5.heap.size = D13 at *
            refine (nsame_any q1 q2 A1 A2 n1 n2 c1 c2 q3 _ BR1b.out BR2.out).mono ?_
            rintro r w6 ⟨rfl, bb6⟩
            have s4 := S3.out.on bb6
            have S4 := Lib.hid s4
            have kd4 := KD3.out.on bb6
            have KD4 := Lib.hid kd4
            have K11c := Lib.hid (K11b.out.on bb6)
            have K13c := Lib.hid (K13.out.on bb6)
            have BB4 := Lib.hid (BB3.out.trans (bb6.mono BB3.out.size))
            have e0 : w6.cell? ⟨D, 0, none⟩ = some (.bool tke) := kd4.cell 0
            have e1 : w6.cell? ⟨D, 1, none⟩ = some (.int .i64 at_) := kd4.cell 1
            clear s4 kd4 bb6 S3 KD3 K11b K13 BR1b BR2 BB3 j0 j1 j2
            have ob1 : Off gp D11 w6 := fun ad n' c' hc => by have := P1.out.row_lt BB4.out ad n' c' hc; omega
            have ob2 : Off gr D11 w6 := fun ad n' c' hc => by have := R1.out.row_lt BB4.out ad n' c' hc; omega
            have ob3 : Off gp D13 w6 := fun ad n' c' hc => by have := P1.out.row_lt BB4.out ad n' c' hc; omega
            have ob4 : Off gr D13 w6 := fun ad n' c' hc => by have := R1.out.row_lt BB4.out ad n' c' hc; omega
            have hwD : w.heap.size ≤ D11 := by omega
            have OB1 := Lib.hid ob1
            have OB2 := Lib.hid ob2
            have OB3 := Lib.hid ob3
            have OB4 := Lib.hid ob4
            clear ob1 ob2 ob3 ob4
            obtain ⟨M4, p4, z4⟩ := S4.out.net
            cases tke
            · have dr := (Below.refl w6.heap.size w6).drew
              have s4d := S4.out.on dr
              have S4d := Lib.hid s4d
              have kd4d := KD4.out.on dr
              have KD4d := Lib.hid kd4d
              have e2 : w6.cell? ⟨D, 2, none⟩ = some (.int .i64 b4) := KD4.out.cell 2
              have e3 : w6.cell? ⟨D, 3, none⟩ = some (.bool up) := KD4.out.cell 3
              have e4 : w6.cell? ⟨D, 4, none⟩ = some (.slice A n c) := KD4.out.cell 4
              have v6 : w6.cell? ⟨gx, 0, none⟩ = some (.pointer (some ⟨gr, 0, none⟩)) := S4.out.var.cell 0
              obtain ⟨M5, p5, z5⟩ := S4d.out.net
              obtain ⟨N5, r5, y5⟩ := S4d.out.ref
              have P5 := Lib.hid p5
              have Z5 := Lib.hid z5
              have R5 := Lib.hid r5
              have Y5 := Lib.hid y5
              clear s4d kd4d dr p5 z5 r5 y5 p4 z4 OB1 OB2 OB3 OB4 K11c K13c P1 R1 BB4
              go_wp2_with fail
              go_region_held3 (fun w' : World => w'.cell? ⟨D, 2, none⟩ = some (.int .i64 b4) ∧ w'.cell? ⟨D, 3, none⟩ = some (.bool up) ∧ w'.cell? ⟨D, 4, none⟩ = some (.slice A n c) ∧ w'.cell? ⟨gx, 0, none⟩ = some (.pointer (some ⟨gr, 0, none⟩))) (first
                | exact ⟨e2, e3, e4, v6⟩
                | exact ⟨KD8.out.cell 2, KD8.out.cell 3, KD8.out.cell 4, S8.out.var.cell 0⟩
                | exact ⟨KD7.out.cell 2, KD7.out.cell 3, KD7.out.cell 4, S7.out.var.cell 0⟩) (first
                | (go_at_call 21
                   refine (put_u w7 Bp gp most M7 X b4 up A n c bs P7.out Z7.out (by omega) (HB.out.below S7.out.bel) hn3).mono ?_
                   rintro r w8 ⟨M8, rfl, p8, z8, c8⟩
                   have S8 := Lib.hid (S7.out.p c8 p8 z8)
                   have KD8 := Lib.hid (c8.blk KD7.out (by decide) (by decide))
                   clear p8 z8 c8)
                | (go_at_call 31
                   refine (rput_u w7 Br gr most N7 X b4 up A n c bs R7.out Y7.out (by omega) (HB.out.below S7.out.bel) hn3).mono ?_
                   rintro r w8 ⟨N8, rfl, r8, y8, c8⟩
                   have S8 := Lib.hid (S7.out.r c8 r8 y8)
                   have KD8 := Lib.hid (c8.blk KD7.out (by decide) (by decide))
                   clear r8 y8 c8)
                | (go_at_call 21
                   refine (put_u _ Bp gp most M5 X b4 up A n c bs P5.out Z5.out (by omega) (HB.out.below S4d.out.bel) hn3).mono ?_
                   rintro r w7 ⟨M7, rfl, p7, z7, c7⟩
                   have S7 := Lib.hid (S4d.out.p c7 p7 z7)
                   have KD7 := Lib.hid (c7.blk KD4d.out (by decide) (by decide))
                   obtain ⟨N7, r7, y7⟩ := S7.out.ref
                   have R7 := Lib.hid r7
                   have Y7 := Lib.hid y7
                   clear p7 z7 c7 r7 y7)
                | (go_at_call 31
                   refine (rput_u _ Br gr most N5 X b4 up A n c bs R5.out Y5.out (by omega) (HB.out.below S4d.out.bel) hn3).mono ?_
                   rintro r w7 ⟨N7, rfl, r7, y7, c7⟩
                   have S7 := Lib.hid (S4d.out.r c7 r7 y7)
                   have KD7 := Lib.hid (c7.blk KD4d.out (by decide) (by decide))
                   obtain ⟨M7, p7, z7⟩ := S7.out.net
                   have P7 := Lib.hid p7
                   have Z7 := Lib.hid z7
                   clear p7 z7 c7 r7 y7))
              all_goals
                clear e0 e1 e2 e3 e4 v6
                obtain ⟨M9, p9, z9⟩ := S8.out.net
                obtain ⟨N9, r9, y9⟩ := S8.out.ref
                have hMN : N9.length = M9.length := y9.1.trans z9.1.symm
                obtain ⟨_, A9, c9, k9, _⟩ := r9
                rw [hMN] at k9
                have v9 : w8.cell? ⟨gx, 0, none⟩ = some (.pointer (some ⟨gr, 0, none⟩)) := S8.out.var.cell 0
                have u9 : w8.cell? ⟨gr, 0, none⟩ = some (.slice A9 M9.length c9) := k9.cell 0
                have dr := (Below.refl w8.heap.size w8).drew
                have P9 := Lib.hid (p9.below dr)
                have S9 := Lib.hid (S8.out.on dr)
                clear z9 y9 hMN k9 p9 dr
                go_wp2_with fail
                go_region_held3 (fun w' : World => w'.cell? ⟨gx, 0, none⟩ = some (.pointer (some ⟨gr, 0, none⟩)) ∧ w'.cell? ⟨gr, 0, none⟩ = some (.slice A9 M9.length c9)) (first | exact ⟨v9, u9⟩) (first | (go_at_call 23; refine (len_any _ Bp gp most M9 P9.out).mono ?_; rintro r w10 ⟨rfl, rfl⟩))
                clear v9 u9 P9
                go_wp2
                go_roundw
                case rel => exact ⟨k + 1, pt most X (b4, up, bs), by omega, by omega, by go_num, by have := pt_length most X (b4, up, bs); omega, S9.out⟩
                case measure => simp [intOf]; omega
            · go_wp2_with fail
              refine (take_v p4 z4 (by omega) HQ.out HOK.out).mono ?_
              rintro r w7 ⟨A3, n3, c3, M7, rfl, t7, p7, z7, c7, f7, g7⟩
              have S7 := Lib.hid (S4.out.p c7 p7 z7)
              have gpD11 : gp ≠ D11 := by obtain ⟨_, _, _, hk, _⟩ := p4; exact Blk.ne_ hk K11c.out (by decide)
              have gpD13 : gp ≠ D13 := by obtain ⟨_, _, _, hk, _⟩ := p4; exact Blk.ne_ hk K13c.out (by decide)
              have k11 : Blk w7 D11 42 #[.int .i64 q1, .bool q2, .slice A1 n1 c1] := (f7 D11 K11c.out.lt gpD11.symm OB1.out).trans K11c.out
              have k13 : Blk w7 D13 66 #[.int .i64 q1, .bool q2, .slice A2 n2 c2] := c7.blk K13c.out (by decide) (by decide)
              have kd7 := c7.blk KD4.out (by decide) (by decide)
              have o71 : Off gp D11 w7 := g7 D11 K11c.out.lt OB1.out
              have o73 : Off gp D13 w7 := g7 D13 K13c.out.lt OB3.out
              obtain ⟨N4, r4, y4⟩ := S4.out.ref
              have grD11 : gr ≠ D11 := by obtain ⟨_, _, _, hk, _⟩ := r4; exact Blk.ne_ hk K11c.out (by decide)
              have grD13 : gr ≠ D13 := by obtain ⟨_, _, _, hk, _⟩ := r4; exact Blk.ne_ hk K13c.out (by decide)
              have rsame : w7.cell? ⟨gr, 0, none⟩ = w6.cell? ⟨gr, 0, none⟩ := by obtain ⟨_, _, _, hk, _⟩ := r4; exact ((c7.blk hk (by decide) (by decide)).cell 0).trans (hk.cell 0).symm
              have o72 : Off gr D11 w7 := OB2.out.same rsame
              have o74 : Off gr D13 w7 := OB4.out.same rsame
              have hDD : D13 ≠ D11 := by omega
              have hDd : D ≠ D11 := Blk.ne_ kd7 k11 (by decide)
              have s7b := S7.out.item k11 (by decide) (by decide) (by decide) (by decide) (by decide) o71 o72 hwD (.int .i64 q1) (.bool q2) (.slice A3 n3 c3)
              have S7b := Lib.hid s7b
              have K11d := Lib.hid (k11.item (.int .i64 q1) (.bool q2) (.slice A3 n3 c3))
              have K13d := Lib.hid (((k13.far (p := ⟨D11, 0, none⟩) hDD (.int .i64 q1)).far (p := ⟨D11, 1, none⟩) hDD (.bool q2)).far (p := ⟨D11, 2, none⟩) hDD (.slice A3 n3 c3))
              have same3 : ∀ (g' : Nat), g' ≠ D11 → ((((w7.setCell ⟨D11, 0, none⟩ (.int .i64 q1)).setCell ⟨D11, 1, none⟩ (.bool q2)).setCell ⟨D11, 2, none⟩ (.slice A3 n3 c3))).cell? ⟨g', 0, none⟩ = w7.cell? ⟨g', 0, none⟩ := fun g' hg => by
                rw [World.cell?_setCell_other _ _ _ _ (fun e => hg (by injection e with e1; exact e1.symm)), World.cell?_setCell_other _ _ _ _ (fun e => hg (by injection e with e1; exact e1.symm)), World.cell?_setCell_other _ _ _ _ (fun e => hg (by injection e with e1; exact e1.symm))]
              have O3 := Lib.hid (o73.same (same3 gp gpD11))
              have O4 := Lib.hid (o74.same (same3 gr grD11))
              have T7 := Lib.hid (t7.chg (Chg.item (B := w.heap.size) (T1 := 42) (T2 := 42) k11 (.inl rfl) hwD (.int .i64 q1) (.bool q2) (.slice A3 n3 c3)) (by decide) (by decide))
              have KD7 := ((kd7.far (p := ⟨D11, 0, none⟩) hDd (.int .i64 q1)).far (p := ⟨D11, 1, none⟩) hDd (.bool q2)).far (p := ⟨D11, 2, none⟩) hDd (.slice A3 n3 c3)
              have v7 := s7b.var.cell 0
              have e7 := KD7.cell 1
              have x0 : w7.cell? ⟨D11, 0, none⟩ = some (.int .i64 q1) := k11.cell 0
              have x1 : w7.cell? ⟨D11, 1, none⟩ = some (.bool q2) := k11.cell 1
              have x2 : w7.cell? ⟨D11, 2, none⟩ = some (.slice A1 n1 c1) := k11.cell 2
              have w0 := k11.frozen 0
              have w1' := k11.frozen 1
              have w2' := k11.frozen 2
              have v7' : ((((w7.setCell ⟨D11, 0, none⟩ (.int .i64 q1)).setCell ⟨D11, 1, none⟩ (.bool q2)).setCell ⟨D11, 2, none⟩ (.slice A3 n3 c3))).cell? ⟨gx, 0, none⟩ = some (.pointer (some ⟨gr, 0, none⟩)) := v7
              have e7' : ((((w7.setCell ⟨D11, 0, none⟩ (.int .i64 q1)).setCell ⟨D11, 1, none⟩ (.bool q2)).setCell ⟨D11, 2, none⟩ (.slice A3 n3 c3))).cell? ⟨D, 1, none⟩ = some (.int .i64 at_) := e7
              clear t7 p7 z7 c7 f7 g7 k11 k13 kd7 o71 o72 o73 o74 rsame s7b KD7 v7 e7 p4 z4 r4 y4 same3 S7 OB1 OB2 OB3 OB4 K11c K13c P1 R1 BB4 KD4 e0 e1
              go_wp2_with fail
              clear x0 x1 x2 w0 w1' w2'
              change Calls _ _ _ (((w7.setCell ⟨D11, 0, none⟩ (.int .i64 q1)).setCell ⟨D11, 1, none⟩ (.bool q2)).setCell ⟨D11, 2, none⟩ (.slice A3 n3 c3)) _
              generalize (((w7.setCell ⟨D11, 0, none⟩ (.int .i64 q1)).setCell ⟨D11, 1, none⟩ (.bool q2)).setCell ⟨D11, 2, none⟩ (.slice A3 n3 c3)) = W7 at *
              obtain ⟨N7, r7, y7⟩ := S7b.out.ref
              obtain ⟨M7b, p7b, _⟩ := S7b.out.net
              refine (rtake_v r7 y7 (by omega) HQ.out HOK.out).mono ?_
              rintro r w8 ⟨A4, n4, c4, N8, rfl, t8, r8, y8, c8, f8, g8⟩
              have S8 := Lib.hid (S7b.out.r c8 r8 y8)
              have k13 : Blk w8 D13 66 #[.int .i64 q1, .bool q2, .slice A2 n2 c2] := (f8 D13 K13d.out.lt grD13.symm).trans K13d.out
              have k11 := c8.blk K11d.out (by decide) (by decide)
              have psame : w8.cell? ⟨gp, 0, none⟩ = W7.cell? ⟨gp, 0, none⟩ := by obtain ⟨_, _, _, hk, _⟩ := p7b; exact ((c8.blk hk (by decide) (by decide)).cell 0).trans (hk.cell 0).symm
              have o83 : Off gp D13 w8 := O3.out.same psame
              have o84 : Off gr D13 w8 := g8 D13 K13d.out.lt O4.out
              have hwD3 : w.heap.size ≤ D13 := by omega
              have S8b := Lib.hid (S8.out.item k13 (by decide) (by decide) (by decide) (by decide) (by decide) o83 o84 hwD3 (.int .i64 q1) (.bool q2) (.slice A4 n4 c4))
              have ci := Chg.item (B := w.heap.size) (T1 := 66) (T2 := 66) k13 (.inl rfl) hwD3 (.int .i64 q1) (.bool q2) (.slice A4 n4 c4)
              have T8 := Lib.hid (t8.chg ci (by decide) (by decide))
              have T7b := Lib.hid ((T7.out.chg c8 (by decide) (by decide)).chg ci (by decide) (by decide))
              have k11b := ci.blk k11 (by decide) (by decide)
              have k13b := k13.item (.int .i64 q1) (.bool q2) (.slice A4 n4 c4)
              have i0 := k11b.cell 0
              have i1 := k11b.cell 1
              have i2 := k11b.cell 2
              have l0 := k13b.cell 0
              have l1 := k13b.cell 1
              have l2 := k13b.cell 2
              have x0 : w8.cell? ⟨D13, 0, none⟩ = some (.int .i64 q1) := k13.cell 0
              have x1 : w8.cell? ⟨D13, 1, none⟩ = some (.bool q2) := k13.cell 1
              have x2 : w8.cell? ⟨D13, 2, none⟩ = some (.slice A2 n2 c2) := k13.cell 2
              have w0 := k13.frozen 0
              have w1' := k13.frozen 1
              have w2' := k13.frozen 2
              replace i0 : ((((w8.setCell ⟨D13, 0, none⟩ (.int .i64 q1)).setCell ⟨D13, 1, none⟩ (.bool q2)).setCell ⟨D13, 2, none⟩ (.slice A4 n4 c4))).cell? ⟨D11, 0, none⟩ = some (.int .i64 q1) := i0
              replace i1 : ((((w8.setCell ⟨D13, 0, none⟩ (.int .i64 q1)).setCell ⟨D13, 1, none⟩ (.bool q2)).setCell ⟨D13, 2, none⟩ (.slice A4 n4 c4))).cell? ⟨D11, 1, none⟩ = some (.bool q2) := i1
              replace i2 : ((((w8.setCell ⟨D13, 0, none⟩ (.int .i64 q1)).setCell ⟨D13, 1, none⟩ (.bool q2)).setCell ⟨D13, 2, none⟩ (.slice A4 n4 c4))).cell? ⟨D11, 2, none⟩ = some (.slice A3 n3 c3) := i2
              replace l0 : ((((w8.setCell ⟨D13, 0, none⟩ (.int .i64 q1)).setCell ⟨D13, 1, none⟩ (.bool q2)).setCell ⟨D13, 2, none⟩ (.slice A4 n4 c4))).cell? ⟨D13, 0, none⟩ = some (.int .i64 q1) := l0
              replace l1 : ((((w8.setCell ⟨D13, 0, none⟩ (.int .i64 q1)).setCell ⟨D13, 1, none⟩ (.bool q2)).setCell ⟨D13, 2, none⟩ (.slice A4 n4 c4))).cell? ⟨D13, 1, none⟩ = some (.bool q2) := l1
              replace l2 : ((((w8.setCell ⟨D13, 0, none⟩ (.int .i64 q1)).setCell ⟨D13, 1, none⟩ (.bool q2)).setCell ⟨D13, 2, none⟩ (.slice A4 n4 c4))).cell? ⟨D13, 2, none⟩ = some (.slice A4 n4 c4) := l2
              clear t8 r8 y8 c8 f8 g8 k13 k11 psame o83 o84 ci k11b k13b r7 y7 p7b v7' e7' S7b K11d K13d O3 O4 T7 S8
              go_wp2_with fail
              clear x0 x1 x2 w0 w1' w2' i0 i1 i2 l0 l1 l2
              change Calls _ _ _ (((w8.setCell ⟨D13, 0, none⟩ (.int .i64 q1)).setCell ⟨D13, 1, none⟩ (.bool q2)).setCell ⟨D13, 2, none⟩ (.slice A4 n4 c4)) _
              generalize (((w8.setCell ⟨D13, 0, none⟩ (.int .i64 q1)).setCell ⟨D13, 1, none⟩ (.bool q2)).setCell ⟨D13, 2, none⟩ (.slice A4 n4 c4)) = W8 at *
              refine (nsame_any q1 q2 A3 A4 n3 n4 c3 c4 q3 _ T7b.out.1 T8.out.1).mono ?_
              rintro r w9 ⟨rfl, bb9⟩
              have SX := Lib.hid (S8b.out.on bb9)
              clear bb9 S8b T7b T8
              obtain ⟨M9, p9, z9⟩ := SX.out.net
              obtain ⟨N9, r9, y9⟩ := SX.out.ref
              have hMN : N9.length = M9.length := y9.1.trans z9.1.symm
              obtain ⟨_, A9, c9, k9, _⟩ := r9
              rw [hMN] at k9
              have v9 : w9.cell? ⟨gx, 0, none⟩ = some (.pointer (some ⟨gr, 0, none⟩)) := SX.out.var.cell 0
              have u9 : w9.cell? ⟨gr, 0, none⟩ = some (.slice A9 M9.length c9) := k9.cell 0
              have dr := (Below.refl w9.heap.size w9).drew
              have P9 := Lib.hid (p9.below dr)
              have S9 := Lib.hid (SX.out.on dr)
              clear z9 y9 hMN k9 p9 dr
              go_wp2_with fail
              go_region_held3 (fun w' : World => w'.cell? ⟨gx, 0, none⟩ = some (.pointer (some ⟨gr, 0, none⟩)) ∧ w'.cell? ⟨gr, 0, none⟩ = some (.slice A9 M9.length c9)) (first | exact ⟨v9, u9⟩) (first | (go_at_call 23; refine (len_any _ Bp gp most M9 P9.out).mono ?_; rintro r w10 ⟨rfl, rfl⟩))
              clear v9 u9 P9
              go_wp2
              go_roundw
              case rel => exact ⟨k + 1, tk X at_, by omega, by omega, by go_num, by have := tk_length X at_; omega, S9.out⟩
              case measure => simp [intOf]; omega
      · go_wp2_with fail
        go_meet
        case rel => exact ⟨X, st, by omega⟩
  case rest =>
    obtain ⟨X, st, hX⟩ := hcut
    have v0 : wc.cell? ⟨gx, 0, none⟩ = some (.pointer (some ⟨gr, 0, none⟩)) := st.var.cell 0
    have ba := ((Below.refl wc.heap.size wc).alloc (Nat.le_refl _) (.cells #[.int .i64 0] 3)).alloc (by simp) (.cells #[.pointer (some ⟨gp, 0, none⟩)] 35)
    have s0 := st.on ba
    have bS : Blk ((wc.alloc (.cells #[.int .i64 0] 3)).alloc (.cells #[.pointer (some ⟨gp, 0, none⟩)] 35)) wc.heap.size 3 #[.int .i64 0] := (Blk.new _ _ _).alloc _
    have bB : Blk ((wc.alloc (.cells #[.int .i64 0] 3)).alloc (.cells #[.pointer (some ⟨gp, 0, none⟩)] 35)) (wc.heap.size + 1) 35 #[.pointer (some ⟨gp, 0, none⟩)] := by simpa using Blk.new (wc.alloc (.cells #[.int .i64 0] 3)) 35 #[.pointer (some ⟨gp, 0, none⟩)]
    have hwS : w.heap.size ≤ wc.heap.size := st.bel.size
    have S0 := Lib.hid s0
    have BS := Lib.hid bS
    have BB := Lib.hid bB
    clear st ba s0 bS bB
    go_wp2_with fail
    refine (nall_any _ _).mono ?_
    rintro r w5 ⟨rfl, rfl⟩
    go_wp2_with fail
    refine (wpIn_wide (n := 6)).1 ?_
    change Code.wpIn _ _ _ _ _ _ ((wc.alloc (.cells #[.int .i64 0] 3)).alloc (.cells #[.pointer (some ⟨gp, 0, none⟩)] 35))
    generalize (wc.alloc (.cells #[.int .i64 0] 3)).alloc (.cells #[.pointer (some ⟨gp, 0, none⟩)] 35) = Wz at *
    clear v0
    generalize wc.heap.size = S at *
    obtain ⟨M, ⟨pB, A, c, mk, mo⟩, z0⟩ := S0.out.net
    obtain ⟨N, ⟨rB, A', c', nk, no⟩, y0⟩ := S0.out.ref
    have hNM : N.length = M.length := y0.1.trans z0.1.symm
    rw [hNM] at nk
    have rowsOf : ∀ {t : TypeId} {A : Option Addr} {c B : Nat} {M : List Ent}, t ≠ 3 → Wz.ownsRow B t 3 (.slice A M.length c) M.length (rows M) → ∃ hh, (0 < M.length → A = some ⟨hh, 0, none⟩) ∧ hh ≠ S ∧ ∀ j u, (rows M)[j]? = some u → Wz.cell? ⟨hh, j, none⟩ = some u := by
      intro t A c B M ht ho
      by_cases hM : M.length = 0
      · obtain rfl : M = [] := List.eq_nil_of_length_eq_zero hM
        exact ⟨S + 1, fun h => absurd h (by simp), by omega, fun j u hu => by simp [rows] at hu⟩
      · obtain ⟨hh, cur, rfl, _, hk, _, _, hr⟩ := row_at2 ho (List.getElem?_eq_getElem (by omega : 0 < M.length))
        exact ⟨hh, fun _ => rfl, Blk.ne_ hk BS.out ht, hr⟩
    obtain ⟨hh, hA, hhS, hrow⟩ := rowsOf (by decide) mo
    obtain ⟨hr2, hA', hhS', hrow'⟩ := rowsOf (by decide) no
    rw [hNM] at hA'
    have lies : Lies S hh M (X.map (·.2.2)) Wz := ⟨hrow, fun i e bs he hb => by
      rw [List.getElem?_map] at hb
      obtain ⟨x, hx, rfl⟩ := Option.map_eq_some_iff.1 hb
      obtain ⟨_, _, t3, _⟩ := z0.2 i e x he hx
      exact ⟨t3.1, fun ad ea => by obtain ⟨cs, hk⟩ := t3.2 ad ea; exact Blk.ne_ hk BS.out (by decide)⟩⟩
    have hen : ∀ e ∈ M, e.n ≤ 100000 := fun e he => by
      obtain ⟨i, hi⟩ := List.mem_iff_getElem?.1 he
      have hiM : i < M.length := (List.getElem?_eq_some_iff.1 hi).1
      obtain ⟨_, _, _, t4⟩ := z0.2 i e _ hi (List.getElem?_eq_getElem (by rw [← z0.1]; exact hiM))
      omega
    have hML : M.length ≤ 100 := by rw [z0.1]; exact hX
    have SEQ := all_seq 5 (by omega) (S + 1) gp hh A c M (X.map (·.2.2)) S Wz (BB.out.cell 0) (mk.cell 0) hA (mk.cell 2) lies (by rw [z0.1]; simp) (by omega) hen hhS
    have Z0 := Lib.hid z0
    have Y0 := Lib.hid y0
    have NK := Lib.hid nk
    have ROW := Lib.hid hrow'
    have HNM := Lib.hid hNM
    clear rowsOf lies hen mk mo pB rB hrow hA hhS z0 y0 nk hrow' hNM no
    refine range_v (fun a b x => { tmps := (a.tmps.setIfInBounds 138 x.val).setIfInBounds 16 (.pointer (some ⟨b, 0, none⟩)), defers := [] }) (fun b x W => Blk W b 42 x.arr)
      rfl (by omega) (gf := 39) (lb := #[.pointer (some ⟨S + 1, 0, none⟩)]) rfl trivial (enters_of Try.func39 (by kernel_rfl) rfl)
      SEQ (fun h1 h2 => h1.t h2) (fun h => Keeps1.of_below h) (fun W l o o' _ ho hc => Keeps1.b W l o o' ho hc) (fun _ => rfl)
      (fun pre W => LiveSt w gx gp gr Bp Br most X X W ∧ Blk W S 3 #[.int .i64 pre.length]) ?own ?ownV ?ownU ⟨S0.out, BS.out⟩ ?assign ?body ?done
    case own => exact fun pre W W' row hs hg hr => ⟨hs.1.kept hg hr (by have := S0.out.bel.size; omega), blk_kept hs.2 hg (fun r e => (hr r e).2)⟩
    case ownV => exact fun pre x _ W W' row hs hg hr => by obtain ⟨e, bs, v1, v2, v3, v4, v5⟩ := hs; exact ⟨e, bs, v1, v2, v3, v4, breads_kept hg hr v5⟩
    case ownU => exact fun b x _ W W' row hs hg hr => blk_kept hs hg hr
    case assign =>
      intro l x W K hK
      gi_wp2
      exact hK W.heap.size _ ((Below.refl _ _).alloc (Nat.le_refl _) _) (Blk.new _ _ _)
    case body =>
      rintro l b pre ⟨xb, xu, xA, xn, xc⟩ W ⟨stW, bSW⟩ hlen ⟨e, bs, he, hbs, hx1, hx2, hbr⟩ hU
      simp only [List.setIfInBounds_toArray, List.set_cons_succ, List.set_cons_zero]
      obtain ⟨i, hi⟩ : ∃ i, pre.length = i := ⟨_, rfl⟩
      have HI := Lib.hid hi
      rw [hi] at bSW hlen he hbs
      obtain ⟨⟨q1, q2, q3⟩, hx'⟩ : ∃ x', X[i]? = some x' := ⟨_, List.getElem?_eq_getElem (by rw [← Z0.out.1]; exact hlen)⟩
      rw [List.getElem?_map, hx'] at hbs
      obtain rfl : q3 = bs := by simpa using hbs
      obtain ⟨ee1, ee2, _, _⟩ := Z0.out.2 i e _ he hx'
      obtain ⟨N', ⟨rB, A2, c2, nk, no⟩, y'⟩ := stW.ref
      have hN' : N'.length = X.length := y'.1
      obtain ⟨⟨fb, fu, fA, fn, fc⟩, hf⟩ : ∃ f, N'[i]? = some f := ⟨_, List.getElem?_eq_getElem (by rw [hN', ← Z0.out.1]; exact hlen)⟩
      obtain ⟨f1, f2, f3, _⟩ := y'.2 i _ _ hf hx'
      simp only at ee1 ee2 f1 f2 f3 hx1 hx2 hbr hU
      obtain rfl : xb = q1 := hx1.trans ee1
      obtain rfl : xu = q2 := hx2.trans ee2
      subst f1
      subst f2
      obtain ⟨hr, cur, rfl, _, _, _, _, hra⟩ := row_at2 no hf
      have n0 := hra (i * 3) _ ((rows_get N' i 0 _ hf (by omega)).trans rfl)
      have n1 := hra (i * 3 + 1) _ ((rows_get N' i 1 _ hf (by omega)).trans rfl)
      have n2 := hra (i * 3 + 2) _ ((rows_get N' i 2 _ hf (by omega)).trans rfl)
      simp only at n0 n1 n2
      have t0 : W.cell? ⟨b, 0, none⟩ = some (.int .i64 fb) := hU.cell 0
      have t1 : W.cell? ⟨b, 1, none⟩ = some (.bool fu) := hU.cell 1
      have t2 : W.cell? ⟨b, 2, none⟩ = some (.slice xA xn xc) := hU.cell 2
      have cS : W.cell? ⟨S, 0, none⟩ = some (.int .i64 i) := bSW.cell 0
      have vx : W.cell? ⟨gx, 0, none⟩ = some (.pointer (some ⟨gr, 0, none⟩)) := stW.var.cell 0
      have gr0 : W.cell? ⟨gr, 0, none⟩ = some (.slice (some ⟨hr, 0, none⟩) N'.length c2) := nk.cell 0
      have hlt : i < N'.length := by rw [hN', ← Z0.out.1]; exact hlen
      have hd : decide ((N'.length : Int) ≤ (i : Int)) = false := by simp; omega
      have hw1 : IntKind.i64.wrap ((i : Int) + 1) = (i : Int) + 1 := IntWalk.i64_in _ (by omega)
      have STW := Lib.hid stW
      have BSW := Lib.hid bSW
      have F3 := Lib.hid f3
      have HBR := Lib.hid hbr
      clear stW bSW hlen he hbs hx1 hx2 hbr hU hx' ee1 ee2 rB nk no y' hf f3 hra hN' SEQ Z0 Y0 NK ROW HNM S0 BS BB hi
      gi_wp2_with fail
      refine region_round (fun w' : World => w'.cell? ⟨S, 0, none⟩ = some (.int .i64 i) ∧ w'.cell? ⟨gx, 0, none⟩ = some (.pointer (some ⟨gr, 0, none⟩)) ∧ w'.cell? ⟨gr, 0, none⟩ = some (.slice (some ⟨hr, 0, none⟩) N'.length c2) ∧
        (w'.cell? ⟨b, 0, none⟩ = some (.int .i64 fb) ∧ w'.cell? ⟨b, 1, none⟩ = some (.bool fu) ∧ w'.cell? ⟨b, 2, none⟩ = some (.slice xA xn xc)) ∧
        w'.cell? ⟨hr, i * 3, none⟩ = some (.int .i64 fb) ∧ w'.cell? ⟨hr, i * 3 + 1, none⟩ = some (.bool fu) ∧ w'.cell? ⟨hr, i * 3 + 2, none⟩ = some (.slice fA fn fc)) (by kernel_rfl) (by kernel_rfl) (fun ⟨_, _, h⟩ => h) ⟨cS, vx, gr0, ⟨t0, t1, t2⟩, n0, n1, n2⟩ (fun H0 => ?_)
      clear vx gr0 t0 t1 t2 n0 n1 n2
      refine wpAnyH_take (i := 0) (v := .int .i64 i) rfl (by kernel_rfl) (by kernel_rfl) (by kernel_rfl) (fun _ _ _ h => h) (.inl ⟨rfl, fun w' hS => by obtain ⟨s1, s2, s3, ⟨s4, s5, s6⟩, s7, s8, s9⟩ := hS; go_simp⟩) H0 ?_
      simp only [Act.put, List.getElem_toArray, List.getElem_cons_zero, List.setIfInBounds_toArray, List.set_cons_zero, List.set_cons_succ]
      refine wpAnyH_take (i := 1) (v := .pointer (some ⟨gr, 0, none⟩)) rfl (by kernel_rfl) (by kernel_rfl) (by kernel_rfl) (fun _ _ _ h => h) (.inl ⟨rfl, fun w' hS => by obtain ⟨s1, s2, s3, ⟨s4, s5, s6⟩, s7, s8, s9⟩ := hS; go_simp⟩) H0 ?_
      simp only [Act.put, List.getElem_toArray, List.getElem_cons_succ, List.getElem_cons_zero, List.setIfInBounds_toArray, List.set_cons_zero, List.set_cons_succ]
      refine wpAnyH_take (i := 2) (v := .pointer (some ⟨gr, 0, none⟩)) rfl (by kernel_rfl) (by kernel_rfl) (by kernel_rfl) (fun _ _ _ h => h) (.inl ⟨rfl, fun w' hS => by obtain ⟨s1, s2, s3, ⟨s4, s5, s6⟩, s7, s8, s9⟩ := hS; go_simp⟩) H0 ?_
      simp only [Act.put, List.getElem_toArray, List.getElem_cons_succ, List.getElem_cons_zero, List.setIfInBounds_toArray, List.set_cons_zero, List.set_cons_succ]
      refine wpAnyH_take (i := 3) (v := .pointer (some ⟨gr, 0, none⟩)) rfl (by kernel_rfl) (by kernel_rfl) (by kernel_rfl) (fun _ _ _ h => h) (.inl ⟨rfl, fun w' hS => by obtain ⟨s1, s2, s3, ⟨s4, s5, s6⟩, s7, s8, s9⟩ := hS; go_simp⟩) H0 ?_
      simp only [Act.put, List.getElem_toArray, List.getElem_cons_succ, List.getElem_cons_zero, List.setIfInBounds_toArray, List.set_cons_zero, List.set_cons_succ]
      refine wpAnyH_take (i := 4) (v := .slice (some ⟨hr, 0, none⟩) N'.length c2) rfl (by kernel_rfl) (by kernel_rfl) (by kernel_rfl) (fun _ _ _ h => h) (.inl ⟨rfl, fun w' hS => by obtain ⟨s1, s2, s3, ⟨s4, s5, s6⟩, s7, s8, s9⟩ := hS; go_simp⟩) H0 ?_
      simp only [Act.put, List.getElem_toArray, List.getElem_cons_succ, List.getElem_cons_zero, List.setIfInBounds_toArray, List.set_cons_zero, List.set_cons_succ]
      refine wpAnyH_take (i := 5) (v := .int .i64 N'.length) rfl (by kernel_rfl) (by kernel_rfl) (by kernel_rfl) (fun _ _ _ h => h) (.inl ⟨rfl, fun w' hS => by obtain ⟨s1, s2, s3, ⟨s4, s5, s6⟩, s7, s8, s9⟩ := hS; go_simp⟩) H0 ?_
      simp only [Act.put, List.getElem_toArray, List.getElem_cons_succ, List.getElem_cons_zero, List.setIfInBounds_toArray, List.set_cons_zero, List.set_cons_succ]
      refine wpAnyH_take (i := 6) (v := .bool false) rfl (by kernel_rfl) (by kernel_rfl) (by kernel_rfl) (fun _ _ _ h => h) (.inl ⟨rfl, fun w' hS => by obtain ⟨s1, s2, s3, ⟨s4, s5, s6⟩, s7, s8, s9⟩ := hS; go_simp⟩) H0 ?_
      simp only [Act.put, List.getElem_toArray, List.getElem_cons_succ, List.getElem_cons_zero, List.setIfInBounds_toArray, List.set_cons_zero, List.set_cons_succ]
      refine wpAnyH_take (i := 7) (v := .bool false) rfl (by kernel_rfl) (by kernel_rfl) (by kernel_rfl) (fun _ _ _ h => h) (.inl ⟨rfl, fun w' hS => by obtain ⟨s1, s2, s3, ⟨s4, s5, s6⟩, s7, s8, s9⟩ := hS; go_simp⟩) H0 ?_
      simp only [Act.put, List.getElem_toArray, List.getElem_cons_succ, List.getElem_cons_zero, List.setIfInBounds_toArray, List.set_cons_zero, List.set_cons_succ]
      refine wpAnyH_take (i := 8) (v := .agg #[.int .i64 fb, .bool fu, .slice xA xn xc]) rfl (by kernel_rfl) (by kernel_rfl) (by kernel_rfl) (fun _ _ _ h => h) (.inl ⟨rfl, fun w' hS => by obtain ⟨s1, s2, s3, ⟨s4, s5, s6⟩, s7, s8, s9⟩ := hS; go_simp⟩) H0 ?_
      simp only [Act.put, List.getElem_toArray, List.getElem_cons_succ, List.getElem_cons_zero, List.setIfInBounds_toArray, List.set_cons_zero, List.set_cons_succ]
      refine wpAnyH_take (i := 9) (v := .pointer (some ⟨gr, 0, none⟩)) rfl (by kernel_rfl) (by kernel_rfl) (by kernel_rfl) (fun _ _ _ h => h) (.inl ⟨rfl, fun w' hS => by obtain ⟨s1, s2, s3, ⟨s4, s5, s6⟩, s7, s8, s9⟩ := hS; go_simp⟩) H0 ?_
      simp only [Act.put, List.getElem_toArray, List.getElem_cons_succ, List.getElem_cons_zero, List.setIfInBounds_toArray, List.set_cons_zero, List.set_cons_succ]
      refine wpAnyH_take (i := 10) (v := .pointer (some ⟨gr, 0, none⟩)) rfl (by kernel_rfl) (by kernel_rfl) (by kernel_rfl) (fun _ _ _ h => h) (.inl ⟨rfl, fun w' hS => by obtain ⟨s1, s2, s3, ⟨s4, s5, s6⟩, s7, s8, s9⟩ := hS; go_simp⟩) H0 ?_
      simp only [Act.put, List.getElem_toArray, List.getElem_cons_succ, List.getElem_cons_zero, List.setIfInBounds_toArray, List.set_cons_zero, List.set_cons_succ]
      refine wpAnyH_take (i := 11) (v := .pointer (some ⟨gr, 0, none⟩)) rfl (by kernel_rfl) (by kernel_rfl) (by kernel_rfl) (fun _ _ _ h => h) (.inl ⟨rfl, fun w' hS => by obtain ⟨s1, s2, s3, ⟨s4, s5, s6⟩, s7, s8, s9⟩ := hS; go_simp⟩) H0 ?_
      simp only [Act.put, List.getElem_toArray, List.getElem_cons_succ, List.getElem_cons_zero, List.setIfInBounds_toArray, List.set_cons_zero, List.set_cons_succ]
      refine wpAnyH_take (i := 12) (v := .slice (some ⟨hr, 0, none⟩) N'.length c2) rfl (by kernel_rfl) (by kernel_rfl) (by kernel_rfl) (fun _ _ _ h => h) (.inl ⟨rfl, fun w' hS => by obtain ⟨s1, s2, s3, ⟨s4, s5, s6⟩, s7, s8, s9⟩ := hS; go_simp⟩) H0 ?_
      simp only [Act.put, List.getElem_toArray, List.getElem_cons_succ, List.getElem_cons_zero, List.setIfInBounds_toArray, List.set_cons_zero, List.set_cons_succ]
      refine wpAnyH_take (i := 13) (v := .int .i64 i) rfl (by kernel_rfl) (by kernel_rfl) (by kernel_rfl) (fun _ _ _ h => h) (.inl ⟨rfl, fun w' hS => by obtain ⟨s1, s2, s3, ⟨s4, s5, s6⟩, s7, s8, s9⟩ := hS; go_simp⟩) H0 ?_
      simp only [Act.put, List.getElem_toArray, List.getElem_cons_succ, List.getElem_cons_zero, List.setIfInBounds_toArray, List.set_cons_zero, List.set_cons_succ]
      refine wpAnyH_take (i := 14) (v := .pointer (some ⟨hr, i * 3, none⟩)) rfl (by kernel_rfl) (by kernel_rfl) (by kernel_rfl) (fun _ _ _ h => h) (.inl ⟨rfl, fun w' hS => by obtain ⟨s1, s2, s3, ⟨s4, s5, s6⟩, s7, s8, s9⟩ := hS; go_simp⟩) H0 ?_
      simp only [Act.put, List.getElem_toArray, List.getElem_cons_succ, List.getElem_cons_zero, List.setIfInBounds_toArray, List.set_cons_zero, List.set_cons_succ]
      refine wpAnyH_take (i := 15) (v := .agg #[.int .i64 fb, .bool fu, .slice fA fn fc]) rfl (by kernel_rfl) (by kernel_rfl) (by kernel_rfl) (fun _ _ _ h => h) (.inl ⟨rfl, fun w' hS => by obtain ⟨s1, s2, s3, ⟨s4, s5, s6⟩, s7, s8, s9⟩ := hS; go_simp⟩) H0 ?_
      simp only [Act.put, List.getElem_toArray, List.getElem_cons_succ, List.getElem_cons_zero, List.setIfInBounds_toArray, List.set_cons_zero, List.set_cons_succ]
      refine wpAnyH_ready (rs := [16]) (by kernel_rfl) (by simp) ?_
      refine AllReadyH.cons rfl (fun KK hKK => ?_) AllReadyH.nil
      go_simp
      refine (nsame_any fb fu xA fA xn fn xc fc q3 _ (HBR.out.below (Below.refl _ _).drew) (F3.out.1.below (Below.refl _ _).drew)).mono ?_
      rintro r w6 ⟨rfl, bb⟩
      have bb2 : Below W.heap.size W w6 := ⟨bb.os, bb.tape, bb.output, bb.size, bb.block⟩
      obtain ⟨s1, s2, s3, ⟨s4, s5, s6⟩, s7, s8, s9⟩ := H0
      have H6 := And.intro (cell_on s1 bb) (And.intro (cell_on s2 bb) (And.intro (cell_on s3 bb) (And.intro (And.intro (cell_on s4 bb) (And.intro (cell_on s5 bb) (cell_on s6 bb))) (And.intro (cell_on s7 bb) (And.intro (cell_on s8 bb) (cell_on s9 bb))))))
      refine hKK.out _ _ H6 (fun _ => ?_)
      clear hKK KK
      refine wpAnyH_take (i := 17) (v := .bool false) rfl (by kernel_rfl) (by kernel_rfl) (by kernel_rfl) (fun _ _ _ h => h) (.inl ⟨rfl, fun w' _ => by go_simp⟩) H6 ?_
      simp only [Act.put, List.getElem_toArray, List.getElem_cons_succ, List.getElem_cons_zero, List.setIfInBounds_toArray, List.set_cons_zero, List.set_cons_succ]
      refine wpAnyH_take (i := 18) (v := .bool false) rfl (by kernel_rfl) (by kernel_rfl) (by kernel_rfl) (fun _ _ _ h => h) (.inl ⟨rfl, fun w' _ => by go_simp⟩) H6 ?_
      simp only [Act.put, List.getElem_toArray, List.getElem_cons_succ, List.getElem_cons_zero, List.setIfInBounds_toArray, List.set_cons_zero, List.set_cons_succ]
      refine wpAnyH_done (by kernel_rfl) ?_ _
      have s6' : w6.cell? ⟨S, 0, none⟩ = some (.int .i64 i) := H6.1
      have z6 : w6.frozen? ⟨S, 0, none⟩ = false := (bb2.frozen (p := ⟨S, 0, none⟩) BSW.out.lt).trans (BSW.out.frozen 0)
      clear H6 s1 s2 s3 s4 s5 s6 s7 s8 s9 bb hd
      gi_wp2
      exact body_end STW.out BSW.out HI.out bb2 hwS
    case done =>
      rintro D xs W hD hxs ⟨stW, bSW⟩ hK
      have hwD : w.heap.size ≤ D := Nat.le_trans S0.out.bel.size hD
      obtain ⟨N', ⟨rB, A2, c2, nk, no⟩, y'⟩ := stW.ref
      have hN' : xs.length = N'.length := by rw [hxs, Z0.out.1, y'.1]
      rw [hN'] at bSW
      have hDl : D < W.heap.size := by
        rcases Nat.lt_or_ge D W.heap.size with h | h
        · exact h
        · rw [Array.getElem?_eq_none h] at hK; cases hK
      have cS : W.cell? ⟨S, 0, none⟩ = some (.int .i64 N'.length) := bSW.cell 0
      have vx : W.cell? ⟨gx, 0, none⟩ = some (.pointer (some ⟨gr, 0, none⟩)) := stW.var.cell 0
      have gr0 : W.cell? ⟨gr, 0, none⟩ = some (.slice A2 N'.length c2) := nk.cell 0
      have STW := Lib.hid stW
      have BSW := Lib.hid bSW
      have NKW := Lib.hid nk
      have HK := Lib.hid hK
      clear stW bSW rB nk no y' hN' hK SEQ Z0 Y0 NK ROW HNM S0 BS BB
      gi_wp2_with fail
      go_wp2_with fail
      go_region_held3 (fun w' : World => w'.cell? ⟨S, 0, none⟩ = some (.int .i64 N'.length) ∧ w'.cell? ⟨gx, 0, none⟩ = some (.pointer (some ⟨gr, 0, none⟩)) ∧ w'.cell? ⟨gr, 0, none⟩ = some (.slice A2 N'.length c2)) (first
        | exact ⟨cS, vx, gr0⟩
        | exact ⟨B8.out.cell 0, S8.out.var.cell 0, N8.out.cell 0⟩
        | exact ⟨B9.out.cell 0, V9.out.cell 0, N9.out.cell 0⟩) (first
        | (go_at_call 19
           refine (nawake_any _).mono ?_
           rintro r w8 ⟨rfl, hb8⟩
           have bd := (Below.refl W.heap.size W).drew.trans hb8
           have s8 := STW.out.on bd
           have S8 := Lib.hid s8
           have B8 := Lib.hid (BSW.out.on bd)
           have N8 := Lib.hid (NKW.out.on bd)
           have K8 := Lib.hid ((bd.block D hDl).trans HK.out)
           have j1 : w8.cell? ⟨w.heap.size, 0, none⟩ = some (.bool false) := s8.res.cell 0
           have j2 : w8.frozen? ⟨w.heap.size, 0, none⟩ = false := s8.res.frozen 0
           have B9 := Lib.hid (B8.out.far (p := ⟨w.heap.size, 0, none⟩) (Blk.ne_ B8.out s8.res (by decide)) (.bool true))
           have V9 := Lib.hid (s8.var.far (p := ⟨w.heap.size, 0, none⟩) (Blk.ne_ s8.var s8.res (by decide)) (.bool true))
           have N9 := Lib.hid (N8.out.far (p := ⟨w.heap.size, 0, none⟩) (Blk.ne_ N8.out s8.res (by decide)) (.bool true))
           clear hb8 bd s8))
      gi_wp2
      refine (wpIn_wide (n := 6)).1 ?_
      gi_wp2
      have hK' := (KeepsOthers.setCell w8 ⟨w.heap.size, 0, none⟩ (.bool true)).same D _ K8.out rfl
      refine ⟨by simp, .inl ⟨_, _, rfl, run_takeDeferred hK', ?_⟩⟩
      have hc5 := cell_kept (World.cell?_setCell_same' w8 ⟨w.heap.size, 0, none⟩ (.bool true) (by rw [j1]; rfl)) (grownBy_putObj' _ D (.deferred none)) (fun r e => by cases e; exact ⟨_, hK', rfl⟩)
      refine ⟨.bool true, ?_, rfl, ?_⟩
      · simp [results, Try.f8, go_sem, hc5]
      · exact (S8.out.bel.setCell (p := ⟨w.heap.size, 0, none⟩) (Nat.le_refl _) _).trans (belowK_b (w := w) (Nat.le_refl _) _ D _ _ hwD hK' rfl rfl)
end Go.Proofs.Ytffbimebgledoaa
