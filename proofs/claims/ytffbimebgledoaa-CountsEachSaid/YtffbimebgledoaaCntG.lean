/-
  CountsEach: the plain laws, and the walk.
-/
import Derived.Test.YtffbimebgledoaaCntF
import Derived.Test.YtffbimebgledoaaCntD
namespace Go.Proofs.Ytffbimebgledoaa
open Go.RowKit Go.Shelf
attribute [local go_sem] Oper.semAt_some

/-- The sum of the first k, and of what came. -/
def sumTo (L : List Int) : Nat → Int
  | 0 => 0
  | k + 1 => sumTo L k + L.getD k 0
def tot (l : List (ByteArray × Int)) : Int := (l.map (·.2)).sum
theorem tot_snoc (l : List (ByteArray × Int)) (x : ByteArray × Int) : tot (l ++ [x]) = tot l + x.2 := by simp [tot]
theorem tot_upto (L : List Int) (hL : ∀ i, 0 ≤ L.getD i 0) (k : Nat) : tot (upto L k) = sumTo L k := by
  induction k with
  | zero => rfl
  | succ k ih =>
    have := hL k
    unfold upto sumTo
    split
    · rw [tot_snoc, ih]
    · rw [ih]; omega
theorem getD_set (L : List Int) (i j : Nat) (v : Int) (hi : i < L.length) : (L.set i v).getD j 0 = if i = j then v else L.getD j 0 := by
  simp only [List.getD_eq_getElem?_getD, List.getElem?_set]
  split
  · simp
  · rfl
theorem sumTo_set (L : List Int) (i : Nat) (hi : i < L.length) (k : Nat) : sumTo (L.set i (L.getD i 0 + 1)) k = sumTo L k + if i < k then 1 else 0 := by
  induction k with
  | zero => simp [sumTo]
  | succ k ih =>
    unfold sumTo
    rw [ih, getD_set L i k _ hi]
    by_cases h1 : i < k
    · rw [if_pos h1, if_neg (by omega), if_pos (by omega)]; omega
    · by_cases h2 : i = k
      · subst h2; simp; omega
      · rw [if_neg h1, if_neg h2, if_neg (by omega)]; omega
theorem sumTo_add (n : Int) (L : List Int) (h : L.length = 14) : sumTo (addL n L) 14 = sumTo L 14 + if addB n then 1 else 0 := by
  unfold addL
  split
  · rename_i hb
    simp [addB] at hb
    rw [sumTo_set L n.toNat (by omega), if_pos (by omega)]
  · simp
theorem addL_zero (n : Int) (L : List Int) (h : L.length = 14) (h0 : L.getD 0 0 = 0) : (addL n L).getD 0 0 = 0 := by
  unfold addL
  split
  · rename_i hb
    simp [addB] at hb
    rw [getD_set L n.toNat 0 _ (by omega), if_neg (by omega)]
    exact h0
  · exact h0
theorem sumTo_bd (L : List Int) (K : Int) (hK : ∀ i, 0 ≤ L.getD i 0 ∧ L.getD i 0 ≤ K) (k : Nat) : 0 ≤ sumTo L k ∧ sumTo L k ≤ K * k := by
  induction k with
  | zero => simp [sumTo]
  | succ k ih =>
    have := hK k
    unfold sumTo
    rw [Int.natCast_add, Int.mul_add]
    omega

/-- No more come between m and q where there are none. -/
theorem upto_gap (L : List Int) (m q : Nat) (h : m ≤ q) (hz : ∀ j, m ≤ j → j < q → L.getD j 0 = 0) : upto L q = upto L m := by
  induction q with
  | zero => obtain rfl : m = 0 := by omega
            rfl
  | succ q ih =>
    by_cases hq : m = q + 1
    · subst hq; rfl
    · have e : upto L (q + 1) = if 0 < L.getD q 0 then upto L q ++ [(nameOf q, L.getD q 0)] else upto L q := rfl
      rw [e, hz q (by omega) (by omega), if_neg (by omega)]
      exact ih (by omega) (fun j h1 h2 => hz j h1 (by omega))
theorem not_prefix_full (pre : List (ByteArray × Int)) (x : ByteArray × Int) : ¬ (pre ++ [x] <+: pre) := fun h => by
  have := h.length_le
  simp at this
  omega
theorem prefix_next {pre : List (ByteArray × Int)} {x y : ByteArray × Int} {l : List (ByteArray × Int)} (h1 : pre ++ [x] <+: l) (h2 : pre ++ [y] <+: l) : x = y := by
  obtain ⟨a, ha⟩ := h1
  obtain ⟨b, hb⟩ := h2
  have : pre ++ [x] ++ a = pre ++ [y] ++ b := ha.trans hb.symm
  simp at this
  exact this.1

/-- The law for a range over an iterator, the frame behind the assignment told as a function of the frame ahead of it. -/
theorem range_own {α : Type} {F : Fence} {n : Nat} {P : Program} {g : Operand} {ps : Array Tmp} {assign body : Code} {Q : Exit → Act → World → Prop} {a : Act} {w : World} (f : Act → α → Act)
    (hro : F.round = none) (h1 : 1 ≤ n) {gf : Nat} {lb : Array Value} (hg : a.eval g = .func (.func gf) #[] lb) (hFg : F.fn gf) (eg : ∀ args w, (callFunc gf args).run P w = .ok (.enter gf args) w)
    {encs : α → Array Value} {Kp : World → World → Prop} {S Sp : List α → Prop} {N : Nat} (hseq : SeqStopsK F (n - 1) P gf lb encs Kp S Sp N w)
    (hKt : ∀ {A B C : World}, Kp A B → Kp B C → Kp A C) (hKb : ∀ (W : World) (l : Nat) (o o' : Obj), w.heap.size ≤ l → W.heap[l]? = some o → o.isCells = false → o.isWalk = false → Kp W (W.putObj l o')) (hps : ∀ x, (encs x).size = ps.size)
    (I : List α → World → Prop) (Ix : Code → List α → World → Prop) (hI : OwnFrom w.heap.size I) (hIx : ∀ c, OwnFrom w.heap.size (Ix c)) (h0 : I [] w)
    (hassign : ∀ (l : Nat) (x : α) (W : World) (K : Act → World → Prop), K (f a x) W → assign.wpIn (F.inRound l) (n - 1 - 1) P (Exit.then K (fun _ _ _ => False)) { tmps := (ps.zip (encs x)).foldl (fun t (p, v) => t.setIfInBounds p v) a.tmps, defers := [] } W)
    (hbody : ∀ (l : Nat) (pre : List α) (x : α) (W : World), I pre W → pre.length < N → body.wpIn (F.inRound l) (n - 1 - 1) P (ownPostK Kp I Ix (pre ++ [x]) W) (f a x) W)
    (hdone : ∀ (D : Nat) (xs : List α) (W : World), w.heap.size ≤ D → S xs → I xs W → W.heap[D]? = some (.deferred (some [])) → Q .normal { a with defers := { target := .collected D, args := #[] } :: a.defers } W)
    (hstop : ∀ (D : Nat) (c : Code) (pre : List α) (W : World), w.heap.size ≤ D → Sp pre → Ix c pre W → W.heap[D]? = some (.deferred (some [])) → c.wpIn F n P Q { a with defers := { target := .collected D, args := #[] } :: a.defers } W) :
    (Code.rangeFunc g ps assign body).wpIn F n P Q a w :=
  wpIn_rangeFunc_ownF hro h1 hg hFg eg hseq hKt hKb (Below.refl _ _) hps I Ix hI hIx h0 (f a) hassign hbody hdone hstop
end Go.Proofs.Ytffbimebgledoaa
