/-
  name: the plain laws: what was put is taken, and what is taken is what would be put.
-/
import Derived.Test.YtfgcbpchapkjbaaNamH
namespace Go.Proofs.Ytfgcbpchapkjbaa
open Go.RowKit

/-- Labels as bytes. -/
def packB (L : List (List UInt8)) : List UInt8 := L.flatMap (fun x => UInt8.ofNat x.length :: x)
theorem packB_snoc (L : List (List UInt8)) (x : List UInt8) : packB (L ++ [x]) = packB L ++ (UInt8.ofNat x.length :: x) := by simp [packB]
theorem packB_append (L M : List (List UInt8)) : packB (L ++ M) = packB L ++ packB M := by simp [packB]
theorem packB_length (L : List (List UInt8)) : (packB L).length + 1 = sumL L := by
  induction L with
  | nil => rfl
  | cons x L ih => simp [packB, sumL] at ih ⊢; omega
theorem nums_append (a b : List UInt8) : nums (a ++ b) = nums a ++ nums b := by simp [nums]
theorem nums_packB (L : List (List UInt8)) : nums (packB L) = packL L := by
  induction L with
  | nil => rfl
  | cons x L ih =>
    have e1 : packB (x :: L) = (UInt8.ofNat x.length :: x) ++ packB L := by simp [packB]
    have e2 : packL (x :: L) = (((x.length : Int) % 256) :: nums x) ++ packL L := by simp [packL]
    rw [e1, e2, nums_append, ih]
    simp [nums]

theorem lab_len {x : List UInt8} (h : lab x = true) : 1 ≤ x.length ∧ x.length ≤ 63 := by
  simp [lab] at h
  omega
theorem lab_dot {x : List UInt8} (h : lab x = true) : (46 : UInt8) ∉ x := fun hm => by
  simp only [lab, Bool.and_eq_true, List.all_eq_true] at h
  have := h.2 _ hm
  revert this
  decide

/-- The labels of labels with dots between them. -/
theorem spl_jn : ∀ (L : List (List UInt8)) (x : List UInt8), (∀ y ∈ x :: L, lab y = true) → spl [] (jn (x :: L)) = x :: L
  | [], x, h => by
    have e : jn [x] = x := by simp [jn, Lib.join_one]
    rw [e, spl_none x [] (lab_dot (h x (by simp)))]
    rfl
  | y :: L, x, h => by
    have e : jn (x :: y :: L) = x ++ 46 :: jn (y :: L) := by simp [jn, Lib.join_cons, Lib.joinTail]
    rw [e, spl_dot x [] _ (lab_dot (h x (by simp))), spl_jn L y (fun z hz => h z (by simp at hz ⊢; rcases hz with hz | hz <;> simp [hz]))]
    rfl
theorem labels_jn (L : List (List UInt8)) (h : L.all lab = true) : labels (jn L) = L := by
  cases L with
  | nil => rfl
  | cons x L =>
    have h' : ∀ y ∈ x :: L, lab y = true := fun y hy => List.all_eq_true.1 h y hy
    unfold labels
    rw [if_neg, spl_jn L x h']
    have := (lab_len (h' x (by simp))).1
    intro e
    have e2 : (jn (x :: L)).length = 0 := by rw [e]; rfl
    rw [jn, Lib.join_cons, List.length_append] at e2
    omega
theorem jn_spl : ∀ (l cur : List UInt8), jn (spl cur l) = cur ++ l
  | [], cur => by simp [spl, jn, Lib.join_one]
  | c :: cs, cur => by
    unfold spl
    split
    · rename_i hc
      subst hc
      have ih := jn_spl cs []
      cases hs : spl [] cs with
      | nil =>
        rw [hs] at ih
        cases cs with
        | nil => simp [spl] at hs
        | cons c cs => simp [jn_nil] at ih
      | cons y L =>
        rw [hs] at ih
        have e : jn (cur :: y :: L) = cur ++ 46 :: jn (y :: L) := by simp [jn, Lib.join_cons, Lib.joinTail]
        rw [e, ih]
        rfl
    · rw [jn_spl cs (cur ++ [c])]
      simp
theorem jn_labels (l : List UInt8) : jn (labels l) = l := by
  unfold labels
  split
  · rename_i h; rw [h]; rfl
  · rw [jn_spl]; rfl

/-- What was put is taken, whatever stands behind. -/
theorem take_pack (more : List UInt8) : ∀ (L M : List (List UInt8)), (∀ x ∈ L, lab x = true) → sumL (M ++ L) ≤ 255 →
    takeFrom (packB (M ++ L) ++ 0 :: more) (packB M).length (jn M) = (jn (M ++ L), (packB (M ++ L)).length + 1, 0)
  | [], M, _, _ => by
    rw [List.append_nil]
    exact take_zero (m := 0) (by simp [List.getD_eq_getElem?_getD]) (by simp) rfl
  | x :: L, M, h, hs => by
    have hx := h x (by simp)
    obtain ⟨l1, l2⟩ := lab_len hx
    have e : M ++ x :: L = (M ++ [x]) ++ L := by simp
    have ih := take_pack more L (M ++ [x]) (fun y hy => h y (by simp [hy])) (by rw [← e]; exact hs)
    rw [← e] at ih
    have hd : packB (M ++ x :: L) ++ 0 :: more = packB M ++ (UInt8.ofNat x.length :: (x ++ (packB L ++ 0 :: more))) := by
      rw [packB_append]
      simp [packB]
    have hsum : (packB M).length + x.length + 2 ≤ 255 := by
      have h1 := packB_length (M ++ x :: L)
      have h2 : (packB (M ++ x :: L)).length = (packB M).length + (1 + x.length) + (packB L).length := by rw [packB_append]; simp [packB]; omega
      omega
    have hkx : 0 < (packB M).length ↔ M ≠ [] := by
      cases M with
      | nil => simp [packB]
      | cons y M => simp [packB]
    have hpl : (packB (M ++ [x])).length = (packB M).length + 1 + x.length := by rw [packB_snoc]; simp; omega
    have hgx : ((packB M ++ (UInt8.ofNat x.length :: (x ++ (packB L ++ 0 :: more)))).drop ((packB M).length + 1)).take x.length = x := by
      have e3 : packB M ++ (UInt8.ofNat x.length :: (x ++ (packB L ++ 0 :: more))) = (packB M ++ [UInt8.ofNat x.length]) ++ (x ++ (packB L ++ 0 :: more)) := by simp
      rw [e3, List.drop_left' (by simp), List.take_left' rfl]
    rw [hd] at ih ⊢
    rw [take_next (m := x.length) (by simp [List.getD_eq_getElem?_getD]; omega) (by simp) (by omega) (by omega) (by simp <;> omega) (by rw [hgx]; exact hx), hgx, ← jn_snoc M x _ hkx, ← hpl]
    exact ih

/-- The ways of one step. -/
theorem take_cases (d : List UInt8) (k : Nat) (acc : List UInt8) : (takeFrom d k acc).2.2 ≠ 0 ∧ (takeFrom d k acc).1 = [] ∧ (takeFrom d k acc).2.1 = 0 ∨
    (k < d.length ∧ (d.getD k 0).toNat = 0 ∧ takeFrom d k acc = (acc, k + 1, 0)) ∨
    ∃ m, (d.getD k 0).toNat = m ∧ k < d.length ∧ m ≠ 0 ∧ m ≤ 63 ∧ k + m + 2 ≤ 255 ∧ k + 1 + m ≤ d.length ∧ lab ((d.drop (k + 1)).take m) = true ∧
      takeFrom d k acc = takeFrom d (k + 1 + m) ((if 0 < k then acc ++ [46] else acc) ++ (d.drop (k + 1)).take m) := by
  by_cases hk : k < d.length
  · obtain ⟨m, hm⟩ : ∃ m, (d.getD k 0).toNat = m := ⟨_, rfl⟩
    by_cases h0 : m = 0
    · exact .inr (.inl ⟨hk, by rw [hm, h0], take_zero hm hk h0⟩)
    · by_cases h1 : 63 < m ∨ 255 < k + m + 2
      · rw [take_long hm hk h0 h1]; exact .inl ⟨by decide, rfl, rfl⟩
      · by_cases h2 : d.length - k - 1 < m
        · rw [take_short hm hk h0 h1 h2]; exact .inl ⟨by decide, rfl, rfl⟩
        · cases h3 : lab ((d.drop (k + 1)).take m) with
          | false => rw [take_bad hm hk h0 h1 h2 h3]; exact .inl ⟨by decide, rfl, rfl⟩
          | true => exact .inr (.inr ⟨m, hm, hk, h0, by omega, by omega, by omega, h3, take_next hm hk h0 h1 h2 h3⟩)
  · rw [take_end (by omega)]; exact .inl ⟨by decide, rfl, rfl⟩

theorem take_err (d : List UInt8) : ∀ (N k : Nat) (acc : List UInt8), d.length - k ≤ N → (takeFrom d k acc).2.2 ≠ 0 → (takeFrom d k acc).1 = [] ∧ (takeFrom d k acc).2.1 = 0
  | N, k, acc, hN, he => by
    rcases take_cases d k acc with h | ⟨_, _, h⟩ | ⟨m, _, hk, _, _, _, _, _, h⟩
    · exact h.2
    · rw [h] at he; exact absurd rfl he
    · rw [h] at he ⊢
      cases N with
      | zero => omega
      | succ N => exact take_err d N _ _ (by omega) he

/-- What is taken is what would be put. -/
theorem take_found (d : List UInt8) : ∀ (N k : Nat) (M : List (List UInt8)), d.length - k ≤ N → k ≤ d.length → d.take k = packB M → M.all lab = true → k ≤ 254 → (takeFrom d k (jn M)).2.2 = 0 →
    ∃ L, fits L ∧ (takeFrom d k (jn M)).1 = jn L ∧ (takeFrom d k (jn M)).2.1 ≤ d.length ∧ d.take (takeFrom d k (jn M)).2.1 = packB L ++ [0]
  | N, k, M, hN, hkd, hp, hM, h254, he => by
    have hkl : (packB M).length = k := by rw [← hp, List.length_take]; omega
    rcases take_cases d k (jn M) with h | ⟨hk, h0, h⟩ | ⟨m, hm, hk, hm0, hm1, hm2, hm3, hlab, h⟩
    · exact absurd he h.1
    · rw [h]
      refine ⟨M, ⟨hM, by have := packB_length M; omega⟩, rfl, hk, ?_⟩
      have hz : d[k]? = some 0 := by
        rw [List.getElem?_eq_getElem hk]
        simp only [List.getD_eq_getElem?_getD, List.getElem?_eq_getElem hk, Option.getD_some] at h0
        exact congrArg some (UInt8.toNat_inj.1 h0)
      show d.take (k + 1) = _
      rw [List.take_add_one, hp, hz]
      rfl
    · have hkx : 0 < k ↔ M ≠ [] := by
        rw [← hkl]
        cases M with
        | nil => simp [packB]
        | cons y M => simp [packB]
      obtain ⟨x, hx⟩ : ∃ x, (d.drop (k + 1)).take m = x := ⟨_, rfl⟩
      have hxl : x.length = m := by rw [← hx, List.length_take, List.length_drop]; omega
      rw [hx] at hlab h
      rw [← jn_snoc M x k hkx] at h
      rw [h] at he ⊢
      have hnext : d.take (k + 1 + m) = packB (M ++ [x]) := by
        rw [List.take_add, List.take_add_one, hp, hx, packB_snoc]
        have hz : d[k]? = some (UInt8.ofNat x.length) := by
          rw [List.getElem?_eq_getElem hk]
          simp only [List.getD_eq_getElem?_getD, List.getElem?_eq_getElem hk, Option.getD_some] at hm
          rw [hxl, ← hm]
          simp
        rw [hz]
        simp
      cases N with
      | zero => omega
      | succ N => exact take_found d N (k + 1 + m) (M ++ [x]) (by omega) hm3 hnext (by rw [List.all_append, hM, List.all_cons, hlab]; rfl) (by omega) he
end Go.Proofs.Ytfgcbpchapkjbaa
