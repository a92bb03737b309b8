/-
  net: the contracts over one list of items, of the program and of the document.
-/
import Derived.Test.YtffbimebgledoaaNetO
namespace Go.Proofs.Ytffbimebgledoaa
open Go.RowKit

abbrev It := Int × Bool × List Int
/-- The items M in memory are those of the list X. -/
def Means (w : World) (M : List Ent) (X : List It) : Prop := M.length = X.length ∧ ∀ (i : Nat) (e : Ent) (x : It), M[i]? = some e → X[i]? = some x → e.b4 = x.1 ∧ e.up = x.2.1 ∧ TB w e.A e.n x.2.2 ∧ e.n ≤ 2000
theorem Means.nil (w : World) : Means w [] [] := ⟨rfl, fun i e x h => by simp at h⟩
theorem Means.chg {B T1 T2 : Nat} {w w' : World} {M : List Ent} {X : List It} (h : Means w M X) (hc : Chg B T1 T2 w w') (h1 : 5 ≠ T1) (h2 : 5 ≠ T2) : Means w' M X :=
  ⟨h.1, fun i e x he hx => by obtain ⟨a, b, c, d⟩ := h.2 i e x he hx; exact ⟨a, b, c.chg hc h1 h2, d⟩⟩
theorem Means.below {w w' : World} {M : List Ent} {X : List It} (h : Means w M X) (hb : Below w.heap.size w w') : Means w' M X :=
  ⟨h.1, fun i e x he hx => by obtain ⟨a, b, c, d⟩ := h.2 i e x he hx; exact ⟨a, b, c.below hb, d⟩⟩
theorem Means.snoc {w : World} {M : List Ent} {X : List It} (h : Means w M X) {e : Ent} {x : It} (he : e.b4 = x.1 ∧ e.up = x.2.1 ∧ TB w e.A e.n x.2.2 ∧ e.n ≤ 2000) : Means w (M ++ [e]) (X ++ [x]) := by
  refine ⟨by simp [h.1], fun i e' x' h1 h2 => ?_⟩
  by_cases hi : i < M.length
  · rw [List.getElem?_append_left hi] at h1
    rw [List.getElem?_append_left (by rw [← h.1]; exact hi)] at h2
    exact h.2 i e' x' h1 h2
  · rw [List.getElem?_append_right (by omega)] at h1
    rw [List.getElem?_append_right (by rw [← h.1]; omega)] at h2
    have hz : i - M.length = 0 := by
      have := (List.getElem?_eq_some_iff.1 h1).1
      simpa using this
    rw [hz] at h1
    rw [← h.1, hz] at h2
    simp at h1 h2
    subst h1 h2
    exact he
theorem erase_get2 {α : Type} (M : List α) (k i : Nat) (hk : k < M.length) : (M.take k ++ M.drop (k + 1))[i]? = M[if i < k then i else i + 1]? := by
  by_cases hi : i < k
  · rw [if_pos hi, List.getElem?_append_left (by rw [List.length_take]; omega), List.getElem?_take, if_pos hi]
  · rw [if_neg hi, List.getElem?_append_right (by rw [List.length_take]; omega), List.length_take, Nat.min_eq_left (by omega), List.getElem?_drop]
    congr 1
    omega
theorem Means.erase {w : World} {M : List Ent} {X : List It} (h : Means w M X) {k : Nat} (hk : k < M.length) : Means w (M.take k ++ M.drop (k + 1)) (X.take k ++ X.drop (k + 1)) := by
  refine ⟨by simp [h.1], fun i e x he hx => ?_⟩
  rw [erase_get2 M k i hk] at he
  rw [erase_get2 X k i (by rw [← h.1]; exact hk)] at hx
  exact h.2 _ e x he hx

def lk (X : List It) (a : Int) : It := if X.length = 0 then (0, false, []) else X.getD (a % (X.length : Int)).toNat (0, false, [])
def tk (X : List It) (a : Int) : List It := if X.length = 0 then [] else X.take (a % (X.length : Int)).toNat ++ X.drop ((a % (X.length : Int)).toNat + 1)
def pt (most : Int) (X : List It) (x : It) : List It := if putCode most X.length x.1 x.2.2.length = 0 then X ++ [x] else X

theorem at_spec {w : World} {M : List Ent} {X : List It} (h : Means w M X) (a : Int) (hX : X.length ≠ 0) : ∃ k e, a % (M.length : Int) = (k : Nat) ∧ M[k]? = some e ∧ k < M.length ∧ e.b4 = (lk X a).1 ∧ e.up = (lk X a).2.1 ∧ TB w e.A e.n (lk X a).2.2 ∧ e.n ≤ 2000 ∧ tk X a = X.take k ++ X.drop (k + 1) := by
  have hM : M.length ≠ 0 := by rw [h.1]; exact hX
  have h0 := Int.emod_nonneg a (show (M.length : Int) ≠ 0 by omega)
  have h1 := Int.emod_lt_of_pos a (show (0 : Int) < M.length by omega)
  have hk : (a % (M.length : Int)).toNat < M.length := by omega
  have hk2 : (a % (M.length : Int)).toNat < X.length := by rw [← h.1]; exact hk
  obtain ⟨p1, p2, p3, p4⟩ := h.2 _ _ _ (List.getElem?_eq_getElem hk) (List.getElem?_eq_getElem hk2)
  have e1 : lk X a = X[(a % (M.length : Int)).toNat] := by
    unfold lk
    rw [if_neg hX, ← h.1, List.getD_eq_getElem?_getD, List.getElem?_eq_getElem hk2]
    rfl
  refine ⟨(a % (M.length : Int)).toNat, M[(a % (M.length : Int)).toNat], by omega, List.getElem?_eq_getElem hk, hk, ?_, ?_, ?_, p4, ?_⟩
  · rw [e1]; exact p1
  · rw [e1]; exact p2
  · rw [e1]; exact p3
  · unfold tk
    rw [if_neg hX, ← h.1]

theorem lk_nil {X : List It} (a : Int) (h : X.length = 0) : lk X a = (0, false, []) := by unfold lk; rw [if_pos h]
theorem tk_nil {X : List It} (a : Int) (h : X.length = 0) : tk X a = [] := by unfold tk; rw [if_pos h]
theorem breads_nil (w : World) : BReads w none 0 [] := ⟨Reads.none_, fun _ => rfl⟩

theorem look_u (w : World) (B g : Nat) (most : Int) (M : List Ent) (X : List It) (a : Int) (h : NetP w B g most M) (hm : Means w M X) (hl : X.length ≤ 100000) :
    Calls Try.prog 25 #[.pointer (some ⟨g, 0, none⟩), .int .i64 a] w fun r w' => ∃ A n c, r = .returned (.tuple #[.agg #[.int .i64 (lk X a).1, .bool (lk X a).2.1, .slice A n c], .bool (decide (X.length ≠ 0))]) ∧ BReads w' A n (lk X a).2.2 ∧ Below w.heap.size w w' := by
  by_cases hX : X.length = 0
  · obtain rfl : M = [] := List.eq_nil_of_length_eq_zero (by rw [hm.1]; exact hX)
    refine (look_none _ a w (fun w' hb => place_none w' B g most a (h.below hb))).mono ?_
    rintro r w' ⟨rfl, hb⟩
    exact ⟨none, 0, 0, by rw [lk_nil a hX, decide_eq_false (by simpa using hX)], by rw [lk_nil a hX]; exact breads_nil _, hb⟩
  · obtain ⟨k, e, h1, h2, h3, h4, h5, h6, h7, h8⟩ := at_spec hm a hX
    refine (look_any w B g most M a k e _ h h1 h2 h6.1 (by omega) (by rw [hm.1]; exact hl)).mono ?_
    rintro r w' ⟨A', c', rfl, ht, hb⟩
    exact ⟨A', e.n, c', by rw [← h4, ← h5, decide_eq_true hX], ht.1, hb⟩

theorem rlook_u (w : World) (B g : Nat) (most : Int) (M : List Ent) (X : List It) (a : Int) (h : RNet w B g most M) (hm : Means w M X) (hl : X.length ≤ 100000) :
    Calls Try.prog 28 #[.pointer (some ⟨g, 0, none⟩), .int .i64 a] w fun r w' => ∃ A n c, r = .returned (.tuple #[.agg #[.int .i64 (lk X a).1, .bool (lk X a).2.1, .slice A n c], .bool (decide (X.length ≠ 0))]) ∧ BReads w' A n (lk X a).2.2 ∧ Below w.heap.size w w' := by
  by_cases hX : X.length = 0
  · obtain rfl : M = [] := List.eq_nil_of_length_eq_zero (by rw [hm.1]; exact hX)
    refine (rlook_none B g most a w h).mono ?_
    rintro r w' ⟨rfl, hb⟩
    exact ⟨none, 0, 0, by rw [lk_nil a hX, decide_eq_false (by simpa using hX)], by rw [lk_nil a hX]; exact breads_nil _, hb⟩
  · obtain ⟨k, e, h1, h2, h3, h4, h5, h6, h7, h8⟩ := at_spec hm a hX
    refine (rlook_any w B g most M a k e h h1 h2 (by rw [hm.1]; exact hl)).mono ?_
    rintro r w' ⟨rfl, hb⟩
    exact ⟨e.A, e.n, e.c, by rw [← h4, ← h5, decide_eq_true hX], h6.1.below hb, hb⟩

theorem take_u (w : World) (B g : Nat) (most : Int) (M : List Ent) (X : List It) (a : Int) (h : NetP w B g most M) (hm : Means w M X) (hl : X.length ≤ 100000) :
    Calls Try.prog 22 #[.pointer (some ⟨g, 0, none⟩), .int .i64 a] w fun r w' => ∃ A n c M', r = .returned (.tuple #[.agg #[.int .i64 (lk X a).1, .bool (lk X a).2.1, .slice A n c], .bool (decide (X.length ≠ 0))]) ∧ TB w' A n (lk X a).2.2 ∧ NetP w' B g most M' ∧ Means w' M' (tk X a) ∧ Chg B 55 42 w w' ∧
      (∀ j, j < w.heap.size → j ≠ g → (∀ ad n c, w.cell? ⟨g, 0, none⟩ = some (.slice (some ad) n c) → ad.block ≠ j) → w'.heap[j]? = w.heap[j]?) ∧
      (∀ j, j < w.heap.size → (∀ ad n c, w.cell? ⟨g, 0, none⟩ = some (.slice (some ad) n c) → ad.block ≠ j) → ∀ ad n c, w'.cell? ⟨g, 0, none⟩ = some (.slice (some ad) n c) → ad.block ≠ j) := by
  have hBs : B ≤ w.heap.size := by obtain ⟨hB, A, c, hb, _⟩ := h; have := hb.lt; omega
  have hgl : g < w.heap.size := by obtain ⟨hB, A, c, hb, _⟩ := h; exact hb.lt
  by_cases hX : X.length = 0
  · obtain rfl : M = [] := List.eq_nil_of_length_eq_zero (by rw [hm.1]; exact hX)
    refine (take_none _ a w (fun w' hb => place_none w' B g most a (h.below hb))).mono ?_
    rintro r w' ⟨rfl, hb⟩
    exact ⟨none, 0, 0, [], by rw [lk_nil a hX, decide_eq_false (by simpa using hX)], by rw [lk_nil a hX]; exact ⟨breads_nil _, fun _ e => by cases e⟩, h.below hb, by rw [tk_nil a hX]; exact Means.nil _, Chg.of_below hb hBs, fun j hj _ _ => hb.block j hj, fun j _ hr ad n c hc => hr ad n c ((hb.cell (p := ⟨g, 0, none⟩) hgl).symm.trans hc)⟩
  · obtain ⟨k, e, h1, h2, h3, h4, h5, h6, h7, h8⟩ := at_spec hm a hX
    refine (take_full w B g most M a k e h h1 h2 (by rw [hm.1]; exact hl)).mono ?_
    rintro r w' ⟨rfl, hn, hc, hf⟩
    exact ⟨e.A, e.n, e.c, _, by rw [← h4, ← h5, decide_eq_true hX], h6.chg hc (by decide) (by decide), hn, by rw [h8]; exact (hm.erase h3).chg hc (by decide) (by decide), hc, hf⟩

theorem rtake_u (w : World) (B g : Nat) (most : Int) (M : List Ent) (X : List It) (a : Int) (h : RNet w B g most M) (hm : Means w M X) (hl : X.length ≤ 100000) :
    Calls Try.prog 30 #[.pointer (some ⟨g, 0, none⟩), .int .i64 a] w fun r w' => ∃ A n c M', r = .returned (.tuple #[.agg #[.int .i64 (lk X a).1, .bool (lk X a).2.1, .slice A n c], .bool (decide (X.length ≠ 0))]) ∧ TB w' A n (lk X a).2.2 ∧ RNet w' B g most M' ∧ Means w' M' (tk X a) ∧ Chg B 73 66 w w' ∧ (∀ j, j < w.heap.size → j ≠ g → w'.heap[j]? = w.heap[j]?) ∧
      (∀ j, j < w.heap.size → (∀ ad n c, w.cell? ⟨g, 0, none⟩ = some (.slice (some ad) n c) → ad.block ≠ j) → ∀ ad n c, w'.cell? ⟨g, 0, none⟩ = some (.slice (some ad) n c) → ad.block ≠ j) := by
  have hBs : B ≤ w.heap.size := by obtain ⟨hB, A, c, hb, _⟩ := h; have := hb.lt; omega
  have hgl : g < w.heap.size := by obtain ⟨hB, A, c, hb, _⟩ := h; exact hb.lt
  by_cases hX : X.length = 0
  · obtain rfl : M = [] := List.eq_nil_of_length_eq_zero (by rw [hm.1]; exact hX)
    refine (rtake_none B g most a w h).mono ?_
    rintro r w' ⟨rfl, hb⟩
    exact ⟨none, 0, 0, [], by rw [lk_nil a hX, decide_eq_false (by simpa using hX)], by rw [lk_nil a hX]; exact ⟨breads_nil _, fun _ e => by cases e⟩, h.below hb, by rw [tk_nil a hX]; exact Means.nil _, Chg.of_below hb hBs, fun j hj _ => hb.block j hj, fun j _ hr ad n c hc => hr ad n c ((hb.cell (p := ⟨g, 0, none⟩) hgl).symm.trans hc)⟩
  · obtain ⟨k, e, h1, h2, h3, h4, h5, h6, h7, h8⟩ := at_spec hm a hX
    refine (rtake_full w B g most M a k e h h1 h2 (by rw [hm.1]; exact hl)).mono ?_
    rintro r w' ⟨rfl, hn, hc, hf⟩
    exact ⟨e.A, e.n, e.c, _, by rw [← h4, ← h5, decide_eq_true hX], h6.chg hc (by decide) (by decide), hn, by rw [h8]; exact (hm.erase h3).chg hc (by decide) (by decide), hc, hf⟩

theorem put_u (w : World) (B g : Nat) (most : Int) (M : List Ent) (X : List It) (b4 : Int) (up : Bool) (A : Option Addr) (n c : Nat) (bs : List Int) (h : NetP w B g most M) (hm : Means w M X) (hl : X.length ≤ 5000) (hb : BReads w A n bs) (hn : n ≤ 2000) :
    Calls Try.prog 21 #[.pointer (some ⟨g, 0, none⟩), .agg #[.int .i64 b4, .bool up, .slice A n c]] w fun r w' => ∃ M', r = .returned (.int .i64 (putCode most X.length b4 n)) ∧ NetP w' B g most M' ∧ Means w' M' (pt most X (b4, up, bs)) ∧ Chg B 55 42 w w' := by
  have hBs : B ≤ w.heap.size := by obtain ⟨hB, A, c, hb, _⟩ := h; have := hb.lt; omega
  have hlen : bs.length = n := hb.len
  by_cases hc : putCode most X.length b4 n = 0
  · have h0 : ¬ (b4 < 0 ∨ 64 ≤ b4) ∧ ¬ most ≤ (X.length : Int) := by
      unfold putCode at hc
      split at hc
      · cases hc
      · rename_i x1
        refine ⟨x1, fun x4 => ?_⟩
        rw [if_neg (by omega), if_pos x4] at hc
        cases hc
    refine (put_ok B g most M b4 up A n c bs w h hb (by omega) (by omega) (by omega) (by rw [hm.1]; omega) (by rw [hm.1]; exact hl)).mono ?_
    rintro r w' ⟨A', c', rfl, hn', ht, hch⟩
    refine ⟨_, by rw [hc], hn', ?_, hch⟩
    unfold pt
    rw [hlen, if_pos hc]
    exact (hm.chg hch (by decide) (by decide)).snoc ⟨rfl, rfl, ht, hn⟩
  · have hc2 : putCode most M.length b4 n ≠ 0 := by rw [hm.1]; exact hc
    refine (put_bad B g most M b4 up A n c w h hc2 (by omega)).mono ?_
    rintro r w' ⟨rfl, hb'⟩
    refine ⟨M, by rw [hm.1], h.below hb', ?_, Chg.of_below hb' hBs⟩
    unfold pt
    rw [hlen, if_neg hc]
    exact hm.below hb'

theorem rput_u (w : World) (B g : Nat) (most : Int) (M : List Ent) (X : List It) (b4 : Int) (up : Bool) (A : Option Addr) (n c : Nat) (bs : List Int) (h : RNet w B g most M) (hm : Means w M X) (hl : X.length ≤ 5000) (hb : BReads w A n bs) (hn : n ≤ 2000) :
    Calls Try.prog 31 #[.pointer (some ⟨g, 0, none⟩), .agg #[.int .i64 b4, .bool up, .slice A n c]] w fun r w' => ∃ M', r = .returned (.int .i64 (putCode most X.length b4 n)) ∧ RNet w' B g most M' ∧ Means w' M' (pt most X (b4, up, bs)) ∧ Chg B 73 66 w w' := by
  have hBs : B ≤ w.heap.size := by obtain ⟨hB, A, c, hb, _⟩ := h; have := hb.lt; omega
  have hlen : bs.length = n := hb.len
  by_cases hc : putCode most X.length b4 n = 0
  · have h0 : ¬ (b4 < 0 ∨ 64 ≤ b4) ∧ ¬ most ≤ (X.length : Int) := by
      unfold putCode at hc
      split at hc
      · cases hc
      · rename_i x1
        refine ⟨x1, fun x4 => ?_⟩
        rw [if_neg (by omega), if_pos x4] at hc
        cases hc
    refine (rput_ok B g most M b4 up A n c bs w h hb (by omega) (by omega) (by omega) (by rw [hm.1]; omega) (by rw [hm.1]; exact hl)).mono ?_
    rintro r w' ⟨A', c', rfl, hn', ht, hch⟩
    refine ⟨_, by rw [hc], hn', ?_, hch⟩
    unfold pt
    rw [hlen, if_pos hc]
    exact (hm.chg hch (by decide) (by decide)).snoc ⟨rfl, rfl, ht, hn⟩
  · have hc2 : putCode most M.length b4 n ≠ 0 := by rw [hm.1]; exact hc
    refine (rput_bad B g most M b4 up A n c w h hc2 (by omega)).mono ?_
    rintro r w' ⟨rfl, hb'⟩
    refine ⟨M, by rw [hm.1], h.below hb', ?_, Chg.of_below hb' hBs⟩
    unfold pt
    rw [hlen, if_neg hc]
    exact hm.below hb'

section
variable {w : World} {B g : Nat} {most : Int} {M : List Ent} {X : List It} {a q1 : Int} {q2 ok : Bool} {q3 : List Int}
theorem look_v (h : NetP w B g most M) (hm : Means w M X) (hl : X.length ≤ 100000) (hq : lk X a = (q1, q2, q3)) (hok : decide (X.length ≠ 0) = ok) :
    Calls Try.prog 25 #[.pointer (some ⟨g, 0, none⟩), .int .i64 a] w fun r w' => ∃ A n c, r = .returned (.tuple #[.agg #[.int .i64 q1, .bool q2, .slice A n c], .bool ok]) ∧ BReads w' A n q3 ∧ Below w.heap.size w w' := by
  have := look_u w B g most M X a h hm hl
  rw [hq, hok] at this
  exact this
theorem rlook_v (h : RNet w B g most M) (hm : Means w M X) (hl : X.length ≤ 100000) (hq : lk X a = (q1, q2, q3)) (hok : decide (X.length ≠ 0) = ok) :
    Calls Try.prog 28 #[.pointer (some ⟨g, 0, none⟩), .int .i64 a] w fun r w' => ∃ A n c, r = .returned (.tuple #[.agg #[.int .i64 q1, .bool q2, .slice A n c], .bool ok]) ∧ BReads w' A n q3 ∧ Below w.heap.size w w' := by
  have := rlook_u w B g most M X a h hm hl
  rw [hq, hok] at this
  exact this
theorem take_v (h : NetP w B g most M) (hm : Means w M X) (hl : X.length ≤ 100000) (hq : lk X a = (q1, q2, q3)) (hok : decide (X.length ≠ 0) = ok) :
    Calls Try.prog 22 #[.pointer (some ⟨g, 0, none⟩), .int .i64 a] w fun r w' => ∃ A n c M', r = .returned (.tuple #[.agg #[.int .i64 q1, .bool q2, .slice A n c], .bool ok]) ∧ TB w' A n q3 ∧ NetP w' B g most M' ∧ Means w' M' (tk X a) ∧ Chg B 55 42 w w' ∧
      (∀ j, j < w.heap.size → j ≠ g → (∀ ad n c, w.cell? ⟨g, 0, none⟩ = some (.slice (some ad) n c) → ad.block ≠ j) → w'.heap[j]? = w.heap[j]?) ∧
      (∀ j, j < w.heap.size → (∀ ad n c, w.cell? ⟨g, 0, none⟩ = some (.slice (some ad) n c) → ad.block ≠ j) → ∀ ad n c, w'.cell? ⟨g, 0, none⟩ = some (.slice (some ad) n c) → ad.block ≠ j) := by
  have := take_u w B g most M X a h hm hl
  rw [hq, hok] at this
  exact this
theorem rtake_v (h : RNet w B g most M) (hm : Means w M X) (hl : X.length ≤ 100000) (hq : lk X a = (q1, q2, q3)) (hok : decide (X.length ≠ 0) = ok) :
    Calls Try.prog 30 #[.pointer (some ⟨g, 0, none⟩), .int .i64 a] w fun r w' => ∃ A n c M', r = .returned (.tuple #[.agg #[.int .i64 q1, .bool q2, .slice A n c], .bool ok]) ∧ TB w' A n q3 ∧ RNet w' B g most M' ∧ Means w' M' (tk X a) ∧ Chg B 73 66 w w' ∧ (∀ j, j < w.heap.size → j ≠ g → w'.heap[j]? = w.heap[j]?) ∧
      (∀ j, j < w.heap.size → (∀ ad n c, w.cell? ⟨g, 0, none⟩ = some (.slice (some ad) n c) → ad.block ≠ j) → ∀ ad n c, w'.cell? ⟨g, 0, none⟩ = some (.slice (some ad) n c) → ad.block ≠ j) := by
  have := rtake_u w B g most M X a h hm hl
  rw [hq, hok] at this
  exact this
theorem NetP.row_lt {w' : World} (h : NetP w B g most M) (hb : Below w.heap.size w w') : ∀ ad n c, w'.cell? ⟨g, 0, none⟩ = some (.slice (some ad) n c) → ad.block < w.heap.size := by
  intro ad n c hc
  obtain ⟨hB, A, c', hk, ho⟩ := h
  have := Option.some.inj (((hb.cell (p := ⟨g, 0, none⟩) hk.lt).trans (hk.cell 0)).symm.trans hc)
  injection this with e1
  subst e1
  exact owns_lt ho rfl
theorem RNet.row_lt {w' : World} (h : RNet w B g most M) (hb : Below w.heap.size w w') : ∀ ad n c, w'.cell? ⟨g, 0, none⟩ = some (.slice (some ad) n c) → ad.block < w.heap.size := by
  intro ad n c hc
  obtain ⟨hB, A, c', hk, ho⟩ := h
  have := Option.some.inj (((hb.cell (p := ⟨g, 0, none⟩) hk.lt).trans (hk.cell 0)).symm.trans hc)
  injection this with e1
  subst e1
  exact owns_lt ho rfl
end

theorem pt_length (most : Int) (X : List It) (x : It) : (pt most X x).length ≤ X.length + 1 := by unfold pt; split <;> simp
theorem tk_length (X : List It) (a : Int) : (tk X a).length ≤ X.length := by
  unfold tk
  split
  · simp
  · rw [List.length_append, List.length_take, List.length_drop]; omega
end Go.Proofs.Ytffbimebgledoaa
