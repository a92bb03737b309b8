/-
  cmd, report: numbers and their digits, words parted by blanks, protocols' words. No program in sight.
-/
import Derived.Test.YtkbbkddepcjoaaaDoorFourA
import Derived.Lib.ItoaNum
import Derived.Lib.Join
namespace Go.Proofs.YtkbbkddepcjoaaaDoor

/-! What blanks part. -/
def piecesB (cur : List UInt8) : List UInt8 → List (List UInt8)
  | [] => [cur]
  | c :: cs => if c = 32 then cur :: piecesB [] cs else piecesB (cur ++ [c]) cs
theorem piecesB_ne (cur s : List UInt8) : piecesB cur s ≠ [] := by
  induction s generalizing cur with
  | nil => simp [piecesB]
  | cons c cs ih =>
    unfold piecesB
    split
    · simp
    · exact ih _
theorem join2 (x y : List UInt8) (r : List (List UInt8)) : Lib.join (x :: y :: r) [32] = x ++ 32 :: Lib.join (y :: r) [32] := by
  rw [Lib.join_cons, Lib.join_cons]
  simp [Lib.joinTail]
theorem join_ne (x : List UInt8) (L : List (List UInt8)) (h : L ≠ []) : Lib.join (x :: L) [32] = x ++ 32 :: Lib.join L [32] := by
  cases L with
  | nil => exact absurd rfl h
  | cons y r => exact join2 x y r
theorem join_piecesB : ∀ (s cur : List UInt8), Lib.join (piecesB cur s) [32] = cur ++ s
  | [], cur => by simp [piecesB, Lib.join_one]
  | c :: cs, cur => by
    unfold piecesB
    split
    · rename_i h
      subst h
      rw [join_ne _ _ (piecesB_ne _ _), join_piecesB cs []]
      simp
    · rw [join_piecesB cs]
      simp
theorem piecesB_free : ∀ (x cur r : List UInt8), (32 : UInt8) ∉ x → piecesB cur (x ++ r) = piecesB (cur ++ x) r
  | [], cur, r, _ => by simp
  | c :: x, cur, r, h => by
    have h1 : c ≠ 32 := fun e => h (by simp [e])
    rw [List.cons_append, piecesB, if_neg h1, piecesB_free x _ r (fun hm => h (by simp [hm]))]
    simp
theorem piecesB_join : ∀ (L : List (List UInt8)), L ≠ [] → (∀ x ∈ L, (32 : UInt8) ∉ x) → piecesB [] (Lib.join L [32]) = L
  | [], h, _ => absurd rfl h
  | [x], _, hf => by
    rw [Lib.join_one]
    have := piecesB_free x [] [] (hf x (by simp))
    rw [List.append_nil, List.nil_append, piecesB] at this
    exact this
  | x :: y :: r, _, hf => by
    rw [join2, piecesB_free x [] _ (hf x (by simp)), piecesB, if_pos rfl, piecesB_join (y :: r) (by simp) (fun z hz => hf z (by simp [hz])), List.nil_append]
theorem piecesB_len (s cur : List UInt8) : (piecesB cur s).length = s.count 32 + 1 := by
  induction s generalizing cur with
  | nil => simp [piecesB]
  | cons c cs ih =>
    unfold piecesB
    by_cases h : c = 32
    · subst h
      rw [if_pos rfl, List.length_cons, ih, List.count_cons_self]
    · rw [if_neg h, ih, List.count_cons_of_ne (by simpa using h)]
theorem piecesB_mem : ∀ (t cur : List UInt8), ∀ x ∈ piecesB cur t, x.length ≤ cur.length + t.length
  | [], cur, x, hx => by simp [piecesB] at hx; simp [hx]
  | c :: cs, cur, x, hx => by
    unfold piecesB at hx
    split at hx
    · rcases List.mem_cons.1 hx with rfl | hx
      · simp
      · have := piecesB_mem cs [] x hx; simp at this ⊢; omega
    · have := piecesB_mem cs _ x hx; simp at this ⊢; omega

/-! Numbers. -/
def numV (w : List UInt8) (most : Int) : Option Nat :=
  if w.length < 1 ∨ 10 < w.length ∨ (w.getD 0 0 = 48 ∧ 1 < w.length) then none
  else if w.all isDig then (if (val 0 w : Int) ≤ most then some (val 0 w) else none) else none

theorem val_snocA (c : UInt8) (l : List UInt8) (n : Nat) : val n (l ++ [c]) = 10 * val n l + (c.toNat - 48) := by
  induction l generalizing n with
  | nil => rfl
  | cons d l ih => exact ih _
theorem val_mono (l : List UInt8) (n m : Nat) (h : n ≤ m) : val n l ≤ val m l := by
  induction l generalizing n m with
  | nil => exact h
  | cons c l ih => exact ih _ _ (by omega)
theorem val_ge (l : List UInt8) (n : Nat) : n ≤ val n l := by
  induction l generalizing n with
  | nil => exact Nat.le_refl _
  | cons c l ih =>
    have := ih (10 * n + (c.toNat - 48))
    show n ≤ val (10 * n + (c.toNat - 48)) l
    omega
theorem dec_snoc (n d : Nat) (hn : 1 ≤ n) (hd : d < 10) : Lib.decDigits (10 * n + d) = Lib.decDigits n ++ [UInt8.ofNat (48 + d)] := by
  rw [Lib.decDigits, dif_neg (by omega), show (10 * n + d) / 10 = n by omega, show (10 * n + d) % 10 = d by omega]
/-- Digits without a nought ahead are their number's. -/
theorem digits_of_val : ∀ (k : Nat) (w : List UInt8), w.length = k + 1 → w.all isDig = true → ¬ (w.getD 0 0 = 48 ∧ 1 < w.length) → Lib.decDigits (val 0 w) = w
  | 0, w, hl, hd, _ => by
    rcases w with _ | ⟨a, _ | ⟨b, r⟩⟩
    · simp at hl
    · obtain ⟨k, hk, ha, e⟩ := dig_of (by simpa using hd : isDig a = true)
      have h : val 0 [a] = k := by
        show 10 * 0 + (a.toNat - 48) = k
        rw [e]; simp
      rw [h, Lib.decDigits, dif_pos hk, ← ha]
    · simp at hl
  | k + 1, w, hl, hd, h0 => by
    have hne : w ≠ [] := by intro e; rw [e] at hl; simp at hl
    obtain ⟨l, c, rfl⟩ : ∃ l c, w = l ++ [c] := ⟨w.dropLast, w.getLast hne, (List.dropLast_concat_getLast hne).symm⟩
    have hll : l.length = k + 1 := by simpa using hl
    rw [List.all_append, Bool.and_eq_true] at hd
    obtain ⟨d, hd10, hc, e⟩ := dig_of (by simpa using hd.2 : isDig c = true)
    rcases l with _ | ⟨a, r⟩
    · simp at hll
    have ha0 : a ≠ 48 := fun ha => h0 ⟨by simp [ha], by simp⟩
    have ih := digits_of_val k (a :: r) hll hd.1 (fun h => ha0 (by simpa using h.1))
    have hda : isDig a = true := by
      have := hd.1
      simp only [List.all_cons, Bool.and_eq_true] at this
      exact this.1
    obtain ⟨d1, hd1, hc1, e1⟩ := dig_of hda
    have hd0 : d1 ≠ 0 := fun h => ha0 (by rw [hc1, h]; rfl)
    have hv : 1 ≤ val 0 (a :: r) := by
      have := val_ge r (10 * 0 + (a.toNat - 48))
      show 1 ≤ val (10 * 0 + (a.toNat - 48)) r
      omega
    rw [val_snocA, e, dec_snoc _ _ hv hd10, ih, ← hc]
theorem val_dec : ∀ (k n : Nat), n < k → val 0 (Lib.decDigits n) = n ∧ (Lib.decDigits n).all isDig = true ∧ 1 ≤ (Lib.decDigits n).length ∧ (1 ≤ n → (Lib.decDigits n).getD 0 0 ≠ 48)
  | 0, n, h => absurd h (by omega)
  | k + 1, n, h => by
    have hdig : ∀ d, d < 10 → isDig (UInt8.ofNat (48 + d)) = true ∧ (UInt8.ofNat (48 + d)).toNat - 48 = d := by
      intro d hd
      have : (UInt8.ofNat (48 + d)).toNat = 48 + d := by simp; omega
      refine ⟨?_, by omega⟩
      unfold isDig
      rw [this]
      simp
      omega
    by_cases h10 : n < 10
    · rw [Lib.decDigits, dif_pos h10]
      obtain ⟨h1, h2⟩ := hdig n h10
      refine ⟨?_, by simpa using h1, by simp, fun hn => ?_⟩
      · show 10 * 0 + _ = n
        rw [h2]; simp
      · intro e
        simp only [List.getD_cons_zero] at e
        have := congrArg UInt8.toNat e
        simp at this
        omega
    · obtain ⟨i1, i2, i3, i4⟩ := val_dec k (n / 10) (by omega)
      obtain ⟨h1, h2⟩ := hdig (n % 10) (by omega)
      rw [Lib.decDigits, dif_neg h10]
      refine ⟨?_, ?_, by simp, fun _ => ?_⟩
      · rw [val_snocA, i1, h2]; omega
      · rw [List.all_append, i2]; simpa using h1
      · have := i4 (by omega)
        rcases hx : Lib.decDigits (n / 10) with _ | ⟨a, r⟩
        · rw [hx] at i3; simp at i3
        · rw [hx] at this
          simpa using this
theorem num_dec {w : List UInt8} {most : Int} {n : Nat} (h : numV w most = some n) : w = Lib.decDigits n ∧ (n : Int) ≤ most ∧ n < 10000000000 := by
  unfold numV at h
  split at h
  · cases h
  · rename_i hl
    split at h
    · rename_i hd
      split at h
      · rename_i hv
        injection h with h
        have hw := digits_of_val (w.length - 1) w (by omega) hd (fun h => hl (Or.inr (Or.inr h)))
        refine ⟨by rw [← h]; exact hw.symm, by rw [← h]; exact hv, ?_⟩
        rw [← h]
        have hlt : val 0 w < 10 ^ Lib.nDigits (val 0 w) := Lib.lt_pow_nDigits _
        rw [← Lib.decDigits_length, hw] at hlt
        have : 10 ^ w.length ≤ 10 ^ 10 := Nat.pow_le_pow_right (by omega) (by omega)
        omega
      · cases h
    · cases h
theorem num_of_dec {n : Nat} {most : Int} (h : n < 10000000000) (hm : (n : Int) ≤ most) : numV (Lib.decDigits n) most = some n := by
  obtain ⟨h1, h2, h3, h4⟩ := val_dec (n + 1) n (by omega)
  have hlen : (Lib.decDigits n).length ≤ 10 := by
    rw [Lib.decDigits_length]
    rcases Nat.lt_or_ge 10 (Lib.nDigits n) with hc | hc
    · exfalso
      by_cases hn : n < 10
      · rw [Lib.nDigits_small hn] at hc; omega
      · have := Lib.nDigits_unique
        have hp : ∀ k u, k + 1 ≤ Lib.nDigits u → 1 ≤ k → 10 ^ k ≤ u := by
          intro k
          induction k with
          | zero => intro u _ h; omega
          | succ k ih =>
            intro u hu _
            by_cases hu10 : u < 10
            · rw [Lib.nDigits_small hu10] at hu; omega
            · rw [Lib.nDigits_big hu10] at hu
              rcases Nat.eq_zero_or_pos k with h0 | h0
              · subst h0; omega
              · have := ih (u / 10) (by omega) h0
                rw [Nat.pow_succ]; omega
        have := hp 10 n hc (by omega)
        omega
    · exact hc
  unfold numV
  rw [if_neg, if_pos h2, h1, if_pos hm]
  rintro (h | h | ⟨h, h'⟩)
  · omega
  · omega
  · rcases Nat.eq_zero_or_pos n with h0 | h0
    · subst h0
      rw [Lib.decDigits, dif_pos (by omega)] at h'
      simp at h'
    · exact h4 h0 h
theorem dig_free {l : List UInt8} (h : l.all isDig = true) (c : UInt8) (hc : isDig c = false) : c ∉ l := fun hm => by
  rw [List.all_eq_true] at h
  rw [h c hm] at hc
  cases hc
theorem itoa_free (n : Int) : (32 : UInt8) ∉ Lib.itoa n := by
  have h := fun k => dig_free (val_dec (k + 1) k (by omega)).2.1 32 (by decide)
  unfold Lib.itoa
  split
  · intro hm
    rcases List.mem_cons.1 hm with e | e
    · cases e
    · exact h _ e
  · exact h _
theorem num_neg {n : Int} (h : n < 0) (most : Int) : numV (Lib.itoa n) most = none := by
  cases hn : numV (Lib.itoa n) most with
  | none => rfl
  | some m =>
    have := (num_dec hn).1
    unfold Lib.itoa at this
    rw [if_pos h] at this
    have hd := (val_dec (m + 1) m (by omega)).2.1
    rw [← this] at hd
    simp [isDig] at hd
theorem itoa_nat (n : Nat) : Lib.itoa (n : Int) = Lib.decDigits n := by
  unfold Lib.itoa
  rw [if_neg (by omega)]
  simp
theorem itoa_inj_nat {n : Int} {most : Int} {m : Nat} (h : numV (Lib.itoa n) most = some m) : n = m := by
  rcases Int.lt_or_le n 0 with h0 | h0
  · rw [num_neg h0] at h; cases h
  · obtain ⟨k, rfl⟩ := Int.eq_ofNat_of_zero_le h0
    rw [itoa_nat] at h
    have e := (num_dec h).1
    have h1 := (val_dec (k + 1) k (by omega)).1
    have h2 := (val_dec (m + 1) m (by omega)).1
    rw [e] at h1
    omega
theorem num_itoa {n most : Int} (h0 : 0 ≤ n) (h1 : n < 10000000000) (hm : n ≤ most) : numV (Lib.itoa n) most = some n.toNat := by
  obtain ⟨k, rfl⟩ := Int.eq_ofNat_of_zero_le h0
  rw [itoa_nat]
  exact num_of_dec (by omega) hm
theorem num_big {n most : Int} (h : ¬ (0 ≤ n ∧ n ≤ most)) : numV (Lib.itoa n) most = none := by
  cases hn : numV (Lib.itoa n) most with
  | none => rfl
  | some m =>
    have e := itoa_inj_nat hn
    have := (num_dec hn).2.1
    exact absurd ⟨by omega, by omega⟩ h
theorem nDigits_le : ∀ (k u : Nat), 1 ≤ k → u < 10 ^ k → Lib.nDigits u ≤ k
  | 0, _, h, _ => absurd h (by omega)
  | k + 1, u, _, h => by
    by_cases hu : u < 10
    · rw [Lib.nDigits_small hu]; omega
    · rw [Lib.nDigits_big hu]
      rw [Nat.pow_succ] at h
      rcases Nat.eq_zero_or_pos k with h0 | h0
      · subst h0; omega
      · have := nDigits_le k (u / 10) h0 (by omega)
        omega
theorem itoa_len {n : Int} (h0 : -9223372036854775808 ≤ n) (h1 : n ≤ 9223372036854775807) : (Lib.itoa n).length ≤ 20 := by
  unfold Lib.itoa
  split
  · rw [List.length_cons, Lib.decDigits_length]
    have := nDigits_le 19 n.natAbs (by omega) (by omega)
    omega
  · rw [Lib.decDigits_length]
    have := nDigits_le 19 n.toNat (by omega) (by omega)
    omega

/-! Protocols. -/
def wIcmp : List UInt8 := [105, 99, 109, 112]
def wTcp : List UInt8 := [116, 99, 112]
def wUdp : List UInt8 := [117, 100, 112]
def protoV (w : List UInt8) : Option Nat := if w = wIcmp then some 1 else if w = wTcp then some 6 else if w = wUdp then some 17 else none
def wordV (p : Int) : List UInt8 := if p = 1 then wIcmp else if p = 6 then wTcp else if p = 17 then wUdp else [45]
theorem proto_word {w : List UInt8} {n : Nat} (h : protoV w = some n) : w = wordV n ∧ (n = 1 ∨ n = 6 ∨ n = 17) := by
  unfold protoV at h
  split at h
  · rename_i e; injection h with h; subst h; exact ⟨e, .inl rfl⟩
  · split at h
    · rename_i e; injection h with h; subst h; exact ⟨e, .inr (.inl rfl)⟩
    · split at h
      · rename_i e; injection h with h; subst h; exact ⟨e, .inr (.inr rfl)⟩
      · cases h
theorem word_proto {p : Int} {n : Nat} (h : protoV (wordV p) = some n) : p = n := by
  unfold wordV at h
  split at h
  · rename_i e; have : (some 1 : Option Nat) = some n := h; injection this with this; omega
  · split at h
    · rename_i e; have : (some 6 : Option Nat) = some n := h; injection this with this; omega
    · split at h
      · rename_i e; have : (some 17 : Option Nat) = some n := h; injection this with this; omega
      · have : (none : Option Nat) = some n := h; cases this
theorem word_free (p : Int) : (32 : UInt8) ∉ wordV p := by
  unfold wordV
  split
  · decide
  · split
    · decide
    · split <;> decide
theorem text_free {a : Nat} (h : a < 4294967296) : (32 : UInt8) ∉ text a := by
  have hb : ∀ n, n < 256 → (32 : UInt8) ∉ dec n := fun n hn => by
    rw [← dec_eq n (by omega)]
    exact dig_free (val_dec (n + 1) n (by omega)).2.1 32 (by decide)
  unfold text
  intro hm
  simp only [List.mem_append, List.mem_cons] at hm
  rcases hm with h1 | h1 | h1 | h1 | h1 | h1 | h1
  · exact hb _ (by omega) h1
  · cases h1
  · exact hb _ (by omega) h1
  · cases h1
  · exact hb _ (by omega) h1
  · cases h1
  · exact hb _ (by omega) h1
end Go.Proofs.YtkbbkddepcjoaaaDoor
