/-
  Small words for slices that the call owns, and for regions in the round of a range over a function.
-/
import Derived.Test.YtkbbkddepcjoaaaDoorBytes
import Derived.Test.YtkbbkddepcjoaaaDoorBase
import Derived.RangeFuncNested
import Derived.RangeFuncBound
import Derived.RangeFuncCalls
import Derived.RangeFuncLeaves
import Derived.RangeFuncFrom
import Derived.RangeFuncBox
import Derived.Shelf.Abstract
import Derived.OwnWalkIn
import Derived.TacticsInMore
import Derived.LoopNIn
import Derived.LoopIn
import Derived.Lib.AppendStr
import Derived.Maps.AppendAt
namespace Go.Proofs.YtkbbkddepcjoaaaDoor
open Go.RowKit

theorem Blk.on {w w' : World} {g : Nat} {t : TypeId} {cs : Array Value} (h : Blk w g t cs) (hb : Below w.heap.size w w') : Blk w' g t cs := h.below hb h.lt
theorem blk_kept {W W' : World} {row : Option Nat} {g t : Nat} {cs : Array Value} (h : Blk W g t cs) (hg : W.grownBy W' row) (hrow : ∀ r, row = some r → ∃ o : Obj, W.heap[r]? = some o ∧ o.isCells = false) : Blk W' g t cs :=
  (grownBy_keeps_cells hg hrow h rfl).trans h
theorem owns_kept {W W' : World} {row : Option Nat} {base n e size : Nat} {v : Value} {xs : List Value} (ho : W.ownsRow base e size v n xs) (hg : W.grownBy W' row) (hr : ∀ r, row = some r → ∃ o : Obj, W.heap[r]? = some o ∧ o.isCells = false) : W'.ownsRow base e size v n xs := by
  refine ⟨ho.1, ?_⟩
  rcases ho.2 with h0 | ⟨g, cap, cur, hv, hg', hh, hrest⟩
  · exact .inl h0
  · exact .inr ⟨g, cap, cur, hv, hg', blk_kept (show Blk W g e cur from hh) hg hr, hrest⟩
theorem owns_below {w w' : World} {base n e size : Nat} {v : Value} {xs : List Value} (ho : w.ownsRow base e size v n xs) (hb : Below w.heap.size w w') : w'.ownsRow base e size v n xs := by
  refine ⟨ho.1, ?_⟩
  rcases ho.2 with h0 | ⟨g, cap, cur, hv, hg, hh, hr⟩
  · exact .inl h0
  · exact .inr ⟨g, cap, cur, hv, hg, (show Blk w g e cur from hh).below hb (show Blk w g e cur from hh).lt, hr⟩
theorem owns_ne {w : World} {base n e size g t : Nat} {v : Value} {xs : List Value} {cs : Array Value} (ho : w.ownsRow base e size v n xs) (hg : Blk w g t cs) (ht : t ≠ e) : some g ≠ v.ownBlock := by
  rcases ho.2 with ⟨rfl, _⟩ | ⟨g', cap, cur, rfl, _, hh, _⟩
  · simp [Value.ownBlock]
  · intro e'
    obtain rfl : g = g' := by simpa [Value.ownBlock] using e'
    exact Blk.ne_ hg (show Blk w g e cur from hh) ht rfl
theorem owns_far {w : World} {base n e size : Nat} {v : Value} {xs : List Value} (ho : w.ownsRow base e size v n xs) {p : Addr} (hp : v.ownBlock ≠ some p.block) (u : Value) : (w.setCell p u).ownsRow base e size v n xs := by
  refine ⟨ho.1, ?_⟩
  rcases ho.2 with h0 | ⟨g, cap, cur, rfl, hg, hh, hr⟩
  · exact .inl h0
  · refine .inr ⟨g, cap, cur, rfl, hg, (show Blk w g e cur from hh).far (fun e' => hp ?_) u, hr⟩
    simp [Value.ownBlock, e']

/-- 'out = append(out, ..)' of a variable in a block: behind the append's two words. -/
theorem box_app {W Wt w1 : World} {n0 g t e size : Nat} {v v' : Value} {k m : Nat} {xs ys : List Value}
    (hb : Below W.heap.size W Wt) (hv : Blk W g t #[v]) (hte : t ≠ e) (hrow : W.ownsRow n0 e size v k xs) (hn0 : n0 ≤ W.heap.size) (hB : n0 ≤ g)
    (hown' : w1.ownsRow n0 e size v' m ys) (hgrow : Wt.grownBy w1 v.ownBlock) :
    Blk w1 g t #[v] ∧ Blk (w1.setCell ⟨g, 0, none⟩ v') g t #[v'] ∧ (w1.setCell ⟨g, 0, none⟩ v').ownsRow n0 e size v' m ys ∧ KeepsOthers W (w1.setCell ⟨g, 0, none⟩ v') ∧ Below n0 W (w1.setCell ⟨g, 0, none⟩ v') := by
  have hvt := hv.on hb
  have hrt := owns_below hrow hb
  have hv1 : Blk w1 g t #[v] := hvt.grown hgrow (owns_ne hrt hvt hte)
  refine ⟨hv1, hv1.set_ 0 v', owns_far hown' (fun e' => owns_ne hown' hv1 hte e'.symm) v', ?_, ?_⟩
  · refine ((KeepsOthers.of_grownBy (only_of_below hb none) (fun _ _ e => by cases e)).trans (KeepsOthers.of_grownBy hgrow fun j o ej hj => ?_)).trans (KeepsOthers.setCell _ _ _)
    rcases hrt.2 with ⟨rfl, _⟩ | ⟨g', cap, cur, rfl, _, hgb, _⟩
    · simp [Value.ownBlock] at ej
    · obtain rfl : g' = j := by simpa [Value.ownBlock] using ej
      rw [hgb] at hj; cases hj; rfl
  · refine ((hb.mono hn0).grown hgrow (Nat.le_trans hn0 hb.size) fun j ej => ?_).setCell (p := ⟨g, 0, none⟩) hB v'
    rcases hrow.2 with ⟨rfl, _⟩ | ⟨g', cap, cur, rfl, hb', _, _⟩
    · simp [Value.ownBlock] at ej
    · obtain rfl : g' = j := by simpa [Value.ownBlock] using ej
      exact hb'

theorem app_others {W Wt w1 : World} {n0 e size : Nat} {v : Value} {k : Nat} {xs : List Value} (hb : Below W.heap.size W Wt) (hrow : W.ownsRow n0 e size v k xs) (hn0 : n0 ≤ W.heap.size) (hgrow : Wt.grownBy w1 v.ownBlock) :
    KeepsOthers W w1 ∧ Below n0 W w1 := by
  have hrt := owns_below hrow hb
  refine ⟨(KeepsOthers.of_grownBy (only_of_below hb none) (fun _ _ e => by cases e)).trans (KeepsOthers.of_grownBy hgrow fun j o ej hj => ?_), (hb.mono hn0).grown hgrow (Nat.le_trans hn0 hb.size) fun j ej => ?_⟩
  · rcases hrt.2 with ⟨rfl, _⟩ | ⟨g', cap, cur, rfl, _, hgb, _⟩
    · simp [Value.ownBlock] at ej
    · obtain rfl : g' = j := by simpa [Value.ownBlock] using ej
      rw [hgb] at hj; cases hj; rfl
  · rcases hrow.2 with ⟨rfl, _⟩ | ⟨g', cap, cur, rfl, hb', _, _⟩
    · simp [Value.ownBlock] at ej
    · obtain rfl : g' = j := by simpa [Value.ownBlock] using ej
      exact hb'
theorem breads_kept {W W' : World} {row : Option Nat} {A : Option Addr} {n : Nat} {xs : List Int} (h : BReads W A n xs) (hg : W.grownBy W' row) (hr : ∀ r, row = some r → ∃ o : Obj, W.heap[r]? = some o ∧ o.isCells = false) : BReads W' A n xs :=
  ⟨⟨h.1.1, fun hn => by obtain ⟨ad, e, hb, hc⟩ := h.1.2 hn; exact ⟨ad, e, Nat.lt_of_lt_of_le hb hg.size, fun j u hu => cell_kept (hc j u hu) hg hr⟩⟩, h.2⟩

/-- What the call owns is there to be read. -/
theorem own_breads {w1 : World} {base : Nat} {v : Value} {n : Nat} {xs : List Int} (h : w1.ownsRow base 5 1 v n (xs.map (Value.int .u8))) : ∃ A' c', v = .slice A' n c' ∧ BReads w1 A' n xs ∧ n ≤ c' := by
  rcases h.2 with ⟨h0, h1⟩ | ⟨g, cap, cur, rfl, hg, hh, hn, hc, hs, ht⟩
  · subst h0
    obtain rfl : n = 0 := by simpa using h1
    exact ⟨none, 0, rfl, ⟨Reads.of_own h, fun _ => rfl⟩, Nat.le_refl _⟩
  · exact ⟨_, _, rfl, ⟨Reads.of_own h, fun e => by cases e⟩, hn⟩

/-! A region that draws no order, in a round of a range over a function: as outside every fence. -/
theorem opIn_round {P : Program} {o : Oper} {a : Act} {w : World} {next : Act → World → Prop} {Q : Exit → Act → World → Prop} (l n : Nat) (hd : ∀ c, o.op ≠ .defer c) (h : Oper.wp P o a w next Q) : Oper.wpIn (Fence.wide.inRound l) n P o a w next Q := by
  refine ⟨fun _ _ => trivial, ?_⟩
  rw [Oper.semAt_eq _ _ _ hd]
  unfold Oper.wp at h
  generalize (execOp a.eval o).run P w = r at h ⊢
  cases r with
  | ok x w' =>
    cases x with
    | value v => exact h
    | skip => exact h
    | defer d => exact h
    | enter f args => exact ⟨fun h' => (by cases h'), (callsIn_wide (n := n - 1)).2 h⟩
    | row r args => exact ⟨fun h' => (by cases h'), fun c cs _ => let ⟨v, w2, h1, h2⟩ := h c cs; ⟨v, w2, h1, stepsIn_wide.2 h2⟩⟩
    | _ => exact h.elim
  | halt x w' => cases x <;> exact h
theorem opsIn_round {P : Program} {ops : Array Oper} {Q : Exit → Act → World → Prop} (l n : Nat) (hd : ∀ (i : Nat) (o : Oper), ops[i]? = some o → ∀ c, o.op ≠ .defer c) (hQ : ¬ LetsOut Q) : ∀ (is : List Nat) (a : Act) (w : World), wpOps P ops Q is a w → wpOpsIn (Fence.wide.inRound l) n P ops Q is a w
  | [], _, _, h => h
  | i :: rest, a, w, h => by
    have ih := opsIn_round (P := P) l n hd hQ rest
    unfold wpOps at h
    unfold wpOpsIn
    cases hi : ops[i]? with
    | none =>
      rw [hi] at h
      exact ih a w h
    | some o =>
      rw [hi] at h
      simp only at h ⊢
      by_cases hw : Region.wanted o (yielded ops a.tmps) = true
      · rw [if_pos hw] at h ⊢
        rcases h with h | h
        · exact opIn_round l n (hd i o hi) (Oper.wp_mono (fun a w => ih a w) h)
        · exact absurd h.2 hQ
      · rw [if_neg hw] at h ⊢
        exact ⟨fun _ _ => trivial, ih _ _ h⟩
def noDefer (ops : Array Oper) : Bool := ops.all fun o => match o.op with | .defer _ => false | _ => true
theorem region_round_lit {P : Program} {id l n : Nat} {ops : List Oper} {Q : Exit → Act → World → Prop} {a : Act} {w : World} (hd : noDefer ops.toArray = true) (hQ : ¬ LetsOut Q)
    (h : wpList P ops.toArray Q ops a w) : (Code.region id ops.toArray false).wpIn (Fence.wide.inRound l) n P Q a w :=
  wpIn_region (opsIn_round l n (fun i o ho c hc => by
    have := (Array.all_eq_true.1 hd) i (Array.getElem?_eq_some_iff.1 ho).1
    obtain ⟨h1, h2⟩ := Array.getElem?_eq_some_iff.1 ho
    rw [h2, hc] at this
    cases this) hQ _ _ _ (by rw [List.range_eq_range', ← Array.length_toList, wpOps_eq_wpList ops.toArray.toList 0 (by simp)]; simpa using h))

/-! Appends in the round of a range over a function. -/
theorem wpListIn_append_any {F : Fence} {n' : Nat} {P : Program} (w : World) {ops : Array Oper} {rest : List Oper} {o : Oper} {a : Act} {Q : Exit → Act → World → Prop} (hgd : o.guard = none) (s x : Operand) (t : TypeId)
    (ho : o.op = .call { callee := .builtin .append, args := #[s, x], argTypes := #[t, t] })
    (base : Nat) (e : TypeId) (i : TypeInfo) (z : Value) (size bytes : Nat) (ht : P.underlying t = some (.slice e)) (hi : P.info? e = some i) (hz : i.zero = some z)
    (hsize : i.size = size) (hby : i.bytes = bytes) (hzs : z.cells.size = size) (hsz : 0 < size)
    (v : Value) (n : Nat) (xs : List Value) (hs : a.eval s = v) (hown : w.ownsRow base e size v n xs)
    (B : Nat) (A : Option Addr) (m c : Nat) (news : List Value) (hx : a.eval x = .slice A m c) (hr : Reads w B size A m news) (h1 : ∀ u ∈ news, u.oneCell' = true)
    (h63 : n + m ≤ maxLen) (hbytes : (n + m) * bytes ≤ 140737488355328) (hbase : base ≤ w.heap.size)
    (h : ∀ v' w', w'.ownsRow base e size v' (n + m) (xs ++ news) → w.grownBy w' v.ownBlock → wpListIn F n' P ops Q rest (a.put o.dst v') w') : wpListIn F n' P ops Q (o :: rest) a w := by
  refine wpListIn_plain hgd fun K hK => ?_
  obtain ⟨v', w', hrun, r1, r2, _⟩ := run_append_any (P := P) w base t o.type e i z size bytes ht hi hz hsize hby hzs hsz v n xs hown B A m c news hr h1 h63 hbytes hbase
  unfold Oper.wpIn
  refine ⟨?_, ?_⟩
  · simp [Oper.about, ho, resolve, Target.leads, Sem.run_pure]
  · rw [Oper.semAt_plain F _ _ (by rw [ho]; intro c hc'; cases hc')]
    simp [execOp, ho, resolve, invoke, builtin, hs, hx, hrun, Result.andThen]
    exact hK _ _ (h v' w' r1 r2)
theorem wpListIn_append_str {F : Fence} {n' : Nat} {P : Program} (w : World) {ops : Array Oper} {rest : List Oper} {o : Oper} {a : Act} {Q : Exit → Act → World → Prop} (hgd : o.guard = none) (sl x : Operand) (t u : TypeId)
    (ho : o.op = .call { callee := .builtin .append, args := #[sl, x], argTypes := #[t, u] })
    (base : Nat) (e : TypeId) (i : TypeInfo) (ht : P.underlying t = some (.slice e)) (hu : P.underlying u = some .string) (hi : P.info? e = some i) (hz : i.zero = some (.int .u8 0))
    (hsize : i.size = 1) (hby : i.bytes = 1)
    (v : Value) (n : Nat) (xs : List Value) (hs : a.eval sl = v) (hown : w.ownsRow base e 1 v n xs) (s : ByteArray) (hx : a.eval x = .string s)
    (h63 : n + s.size ≤ maxLen) (hbytes : n + s.size ≤ 140737488355328) (hbase : base ≤ w.heap.size)
    (h : ∀ v' w', w'.ownsRow base e 1 v' (n + s.size) (xs ++ Lib.strCells s) → w.grownBy w' v.ownBlock → wpListIn F n' P ops Q rest (a.put o.dst v') w') : wpListIn F n' P ops Q (o :: rest) a w := by
  refine wpListIn_plain hgd fun K hK => ?_
  obtain ⟨v', w', hr, h2, h3, _⟩ := Lib.run_append_own_string (P := P) w base t u o.type e i ht hu hi hz hsize hby v n xs hown s h63 hbytes hbase
  unfold Oper.wpIn
  refine ⟨?_, ?_⟩
  · simp [Oper.about, ho, resolve, Target.leads, Sem.run_pure]
  · rw [Oper.semAt_plain F _ _ (by rw [ho]; intro c hc'; cases hc')]
    simp [execOp, ho, resolve, invoke, builtin, hs, hx, hr, Result.andThen]
    exact hK _ _ (h v' w' h2 h3)
theorem reads_one (w : World) (t : TypeId) (u : Value) : Reads (w.alloc (.cells #[u] t)) (w.heap.size + 1) 1 (some ⟨w.heap.size, 0, none⟩) 1 [u] :=
  ⟨rfl, fun _ => ⟨_, rfl, by simp, cell_one_new w u t⟩⟩
end Go.Proofs.YtkbbkddepcjoaaaDoor
