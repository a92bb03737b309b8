/-
  six: words to the base 16, texts with colons between, as plain functions. No program in sight.
-/
import Derived.Lib.ItoaNum
import Derived.Lib.Join
namespace Go.Proofs.YtngdomefipcemaaDoor

def hexd (k : Nat) : UInt8 := if k < 10 then UInt8.ofNat (48 + k) else UInt8.ofNat (87 + k)
def hex (n : Nat) : List UInt8 :=
  if n < 16 then [hexd n] else if n < 256 then [hexd (n / 16), hexd (n % 16)]
  else if n < 4096 then [hexd (n / 256), hexd (n / 16 % 16), hexd (n % 16)]
  else [hexd (n / 4096), hexd (n / 256 % 16), hexd (n / 16 % 16), hexd (n % 16)]
theorem hex_last (n : Nat) (h : 16 ≤ n) (h2 : n < 65536) : hex n = hex (n / 16) ++ [hexd (n % 16)] := by
  unfold hex
  rw [if_neg (show ¬ n < 16 by omega)]
  by_cases h3 : n < 256
  · rw [if_pos h3, if_pos (show n / 16 < 16 by omega)]
    rfl
  · rw [if_neg h3, if_neg (show ¬ n / 16 < 16 by omega)]
    by_cases h4 : n < 4096
    · rw [if_pos h4, if_pos (show n / 16 < 256 by omega), show n / 16 / 16 = n / 256 by omega]
      rfl
    · rw [if_neg h4, if_neg (show ¬ n / 16 < 256 by omega), if_pos (show n / 16 < 4096 by omega), show n / 16 / 256 = n / 4096 by omega, show n / 16 / 16 % 16 = n / 256 % 16 by omega]
      rfl
theorem hex_len (n : Nat) : 1 ≤ (hex n).length ∧ (hex n).length ≤ 4 := by
  unfold hex
  repeat' split
  all_goals simp

/-- What a digit says. -/
def hv (c : UInt8) : Option Nat := if 48 ≤ c.toNat ∧ c.toNat ≤ 57 then some (c.toNat - 48) else if 97 ≤ c.toNat ∧ c.toNat ≤ 102 then some (c.toNat - 87) else none
theorem hv_all : ∀ k : Fin 16, hv (hexd k.val) = some k.val ∧ hexd k.val ≠ 58 ∧ (hexd k.val = 48 → k.val = 0) := by decide +kernel
theorem hv_hexd {k : Nat} (h : k < 16) : hv (hexd k) = some k := (hv_all ⟨k, h⟩).1
theorem hexd_ne {k : Nat} (h : k < 16) : hexd k ≠ 58 := (hv_all ⟨k, h⟩).2.1
theorem hexd_zero {k : Nat} (h : k < 16) (e : hexd k = 48) : k = 0 := (hv_all ⟨k, h⟩).2.2 e
theorem hv_back_all : ∀ c : Fin 256, ∀ k : Fin 16, hv (UInt8.ofNat c.val) = some k.val → UInt8.ofNat c.val = hexd k.val := by decide +kernel
theorem hv_lt {c : UInt8} {k : Nat} (h : hv c = some k) : k < 16 := by
  unfold hv at h
  split at h
  · injection h with h; omega
  · split at h
    · injection h with h; omega
    · cases h
theorem hv_back {c : UInt8} {k : Nat} (h : hv c = some k) : c = hexd k := by
  have hk := hv_lt h
  have hc := c.toNat_lt
  have := hv_back_all ⟨c.toNat, by omega⟩ ⟨k, hk⟩
  simp only [UInt8.ofNat_toNat] at this
  exact this h

def hvs : Nat → List UInt8 → Option Nat
  | n, [] => some n
  | n, c :: cs => (hv c).bind fun d => hvs (n * 16 + d) cs
def wordV (w : List UInt8) : Option Nat :=
  if w.length < 1 ∨ 4 < w.length ∨ (w.getD 0 0 = 48 ∧ 1 < w.length) then none else hvs 0 w

theorem word_hex {n : Nat} (h : n < 65536) : wordV (hex n) = some n := by
  unfold wordV hex
  by_cases h1 : n < 16
  · rw [if_pos h1, if_neg (by simp)]
    simp [hvs, hv_hexd h1]
  · rw [if_neg h1]
    by_cases h2 : n < 256
    · rw [if_pos h2, if_neg (by
        rintro (h | h | ⟨h, _⟩)
        · simp at h
        · simp at h
        · have := hexd_zero (by omega) (show hexd (n / 16) = 48 from h); omega)]
      simp only [hvs, hv_hexd (show n / 16 < 16 by omega), hv_hexd (show n % 16 < 16 by omega), Option.bind_some]
      congr 1; omega
    · rw [if_neg h2]
      by_cases h3 : n < 4096
      · rw [if_pos h3, if_neg (by
          rintro (h | h | ⟨h, _⟩)
          · simp at h
          · simp at h
          · have := hexd_zero (by omega) (show hexd (n / 256) = 48 from h); omega)]
        simp only [hvs, hv_hexd (show n / 256 < 16 by omega), hv_hexd (show n / 16 % 16 < 16 by omega), hv_hexd (show n % 16 < 16 by omega), Option.bind_some]
        congr 1; omega
      · rw [if_neg h3, if_neg (by
          rintro (h | h | ⟨h, _⟩)
          · simp at h
          · simp at h
          · have := hexd_zero (by omega) (show hexd (n / 4096) = 48 from h); omega)]
        simp only [hvs, hv_hexd (show n / 4096 < 16 by omega), hv_hexd (show n / 256 % 16 < 16 by omega), hv_hexd (show n / 16 % 16 < 16 by omega), hv_hexd (show n % 16 < 16 by omega), Option.bind_some]
        congr 1; omega
theorem hvs_cons {n m : Nat} {c : UInt8} {cs : List UInt8} (h : hvs n (c :: cs) = some m) : ∃ d, d < 16 ∧ c = hexd d ∧ hvs (n * 16 + d) cs = some m := by
  unfold hvs at h
  obtain ⟨d, h1, h2⟩ := Option.bind_eq_some_iff.1 h
  exact ⟨d, hv_lt h1, hv_back h1, h2⟩
theorem word_back {w : List UInt8} {n : Nat} (h : wordV w = some n) : n < 65536 ∧ w = hex n := by
  unfold wordV at h
  split at h
  · cases h
  · rename_i hl
    rcases w with _ | ⟨a, _ | ⟨b, _ | ⟨c, _ | ⟨d, _ | ⟨e, r⟩⟩⟩⟩⟩
    · exact absurd (Or.inl Nat.zero_lt_one) hl
    · obtain ⟨k, hk, rfl, h1⟩ := hvs_cons h
      injection h1 with e
      subst e
      refine ⟨by omega, ?_⟩
      unfold hex
      rw [if_pos (by omega), show 0 * 16 + k = k by omega]
    · obtain ⟨k, hk, rfl, h1⟩ := hvs_cons h
      obtain ⟨j, hj, rfl, h2⟩ := hvs_cons h1
      injection h2 with e
      subst e
      have hk0 : k ≠ 0 := fun e => hl (Or.inr (Or.inr ⟨by subst e; rfl, by simp⟩))
      refine ⟨by omega, ?_⟩
      unfold hex
      rw [if_neg (by omega), if_pos (by omega), show ((0 * 16 + k) * 16 + j) / 16 = k by omega, show ((0 * 16 + k) * 16 + j) % 16 = j by omega]
    · obtain ⟨k, hk, rfl, h1⟩ := hvs_cons h
      obtain ⟨j, hj, rfl, h2⟩ := hvs_cons h1
      obtain ⟨i, hi, rfl, h3⟩ := hvs_cons h2
      injection h3 with e
      subst e
      have hk0 : k ≠ 0 := fun e => hl (Or.inr (Or.inr ⟨by subst e; rfl, by simp⟩))
      refine ⟨by omega, ?_⟩
      unfold hex
      rw [if_neg (by omega), if_neg (by omega), if_pos (by omega), show (((0 * 16 + k) * 16 + j) * 16 + i) / 256 = k by omega, show (((0 * 16 + k) * 16 + j) * 16 + i) / 16 % 16 = j by omega, show (((0 * 16 + k) * 16 + j) * 16 + i) % 16 = i by omega]
    · obtain ⟨k, hk, rfl, h1⟩ := hvs_cons h
      obtain ⟨j, hj, rfl, h2⟩ := hvs_cons h1
      obtain ⟨i, hi, rfl, h3⟩ := hvs_cons h2
      obtain ⟨g, hg, rfl, h4⟩ := hvs_cons h3
      injection h4 with e
      subst e
      have hk0 : k ≠ 0 := fun e => hl (Or.inr (Or.inr ⟨by subst e; rfl, by simp⟩))
      refine ⟨by omega, ?_⟩
      unfold hex
      rw [if_neg (by omega), if_neg (by omega), if_neg (by omega), show ((((0 * 16 + k) * 16 + j) * 16 + i) * 16 + g) / 4096 = k by omega, show ((((0 * 16 + k) * 16 + j) * 16 + i) * 16 + g) / 256 % 16 = j by omega, show ((((0 * 16 + k) * 16 + j) * 16 + i) * 16 + g) / 16 % 16 = i by omega, show ((((0 * 16 + k) * 16 + j) * 16 + i) * 16 + g) % 16 = g by omega]
    · exact absurd (Or.inr (Or.inl (by simp))) hl
theorem hex_free {n : Nat} (h : n < 65536) : (58 : UInt8) ∉ hex n := by
  intro hm
  unfold hex at hm
  split at hm
  · simp only [List.mem_cons, List.not_mem_nil, or_false] at hm
    exact hexd_ne (by omega) hm.symm
  · split at hm
    · simp only [List.mem_cons, List.not_mem_nil, or_false] at hm
      rcases hm with hm | hm <;> exact hexd_ne (by omega) hm.symm
    · split at hm
      · simp only [List.mem_cons, List.not_mem_nil, or_false] at hm
        rcases hm with hm | hm | hm <;> exact hexd_ne (by omega) hm.symm
      · simp only [List.mem_cons, List.not_mem_nil, or_false] at hm
        rcases hm with hm | hm | hm | hm <;> exact hexd_ne (by omega) hm.symm

/-- What a sign parts (always one piece at least). -/
def cuts (d : UInt8) (cur : List UInt8) : List UInt8 → List (List UInt8)
  | [] => [cur]
  | c :: cs => if c = d then cur :: cuts d [] cs else cuts d (cur ++ [c]) cs
theorem cuts_ne (d : UInt8) (cur s : List UInt8) : cuts d cur s ≠ [] := by
  induction s generalizing cur with
  | nil => simp [cuts]
  | cons c cs ih =>
    unfold cuts
    split
    · simp
    · exact ih _
theorem join_cons (x : List UInt8) (L : List (List UInt8)) (d : UInt8) (h : L ≠ []) : Lib.join (x :: L) [d] = x ++ d :: Lib.join L [d] := by
  cases L with
  | nil => exact absurd rfl h
  | cons y r => simp [Lib.join, List.intercalate, List.intersperse]
theorem join_one (x : List UInt8) (d : UInt8) : Lib.join [x] [d] = x := by simp [Lib.join, List.intercalate]
theorem join_cuts (d : UInt8) : ∀ (s cur : List UInt8), Lib.join (cuts d cur s) [d] = cur ++ s
  | [], cur => by simp [cuts, join_one]
  | c :: cs, cur => by
    unfold cuts
    split
    · rename_i h
      subst h
      rw [join_cons _ _ _ (cuts_ne _ _ _), join_cuts c cs []]
      simp
    · rw [join_cuts d cs]
      simp
theorem cuts_free (d : UInt8) : ∀ (x cur r : List UInt8), d ∉ x → cuts d cur (x ++ r) = cuts d (cur ++ x) r
  | [], cur, r, _ => by simp
  | c :: x, cur, r, h => by
    have h1 : c ≠ d := fun e => h (by simp [e])
    rw [List.cons_append, cuts, if_neg h1, cuts_free d x _ r (fun hm => h (by simp [hm]))]
    simp
theorem cuts_join (d : UInt8) : ∀ (L : List (List UInt8)), L ≠ [] → (∀ x ∈ L, d ∉ x) → cuts d [] (Lib.join L [d]) = L
  | [], h, _ => absurd rfl h
  | [x], _, h => by
    rw [join_one]
    have := cuts_free d x [] [] (h x (by simp))
    rw [List.append_nil, List.nil_append, cuts] at this
    exact this
  | x :: y :: r, _, h => by
    rw [join_cons _ _ _ (by simp), cuts_free d x [] _ (h x (by simp)), cuts, if_pos rfl, cuts_join d (y :: r) (by simp) (fun z hz => h z (by simp at hz ⊢; exact .inr hz))]
    simp

/-- Words and their bytes. -/
def ofW : List Nat → List UInt8
  | [] => []
  | n :: r => UInt8.ofNat (n / 256) :: UInt8.ofNat (n % 256) :: ofW r
def wordsOf : List UInt8 → List Nat
  | a :: b :: r => (a.toNat * 256 + b.toNat) :: wordsOf r
  | _ => []
theorem ofW_len (ws : List Nat) : (ofW ws).length = 2 * ws.length := by
  induction ws with
  | nil => rfl
  | cons n r ih => simp [ofW, ih]; omega
theorem wordsOf_ofW : ∀ (ws : List Nat), (∀ n ∈ ws, n < 65536) → wordsOf (ofW ws) = ws
  | [], _ => rfl
  | n :: r, h => by
    have hn := h n (by simp)
    unfold ofW wordsOf
    rw [wordsOf_ofW r (fun m hm => h m (by simp [hm]))]
    congr 1
    have e1 : (UInt8.ofNat (n / 256)).toNat = n / 256 := by simp; omega
    have e2 : (UInt8.ofNat (n % 256)).toNat = n % 256 := by simp
    rw [e1, e2]
    omega
theorem ofW_wordsOf : ∀ (k : Nat) (a : List UInt8), a.length = 2 * k → ofW (wordsOf a) = a
  | 0, a, h => by
    obtain rfl : a = [] := List.eq_nil_of_length_eq_zero (by omega)
    rfl
  | k + 1, a, h => by
    rcases a with _ | ⟨x, _ | ⟨y, r⟩⟩
    · simp at h
    · simp at h; omega
    · have hx := x.toNat_lt
      have hy := y.toNat_lt
      unfold wordsOf ofW
      rw [ofW_wordsOf k r (by simp at h; omega), show (x.toNat * 256 + y.toNat) / 256 = x.toNat by omega, show (x.toNat * 256 + y.toNat) % 256 = y.toNat by omega]
      simp
theorem wordsOf_len : ∀ (k : Nat) (a : List UInt8), a.length = 2 * k → (wordsOf a).length = k
  | 0, a, h => by
    obtain rfl : a = [] := List.eq_nil_of_length_eq_zero (by omega)
    rfl
  | k + 1, a, h => by
    rcases a with _ | ⟨x, _ | ⟨y, r⟩⟩
    · simp at h
    · simp at h; omega
    · simp [wordsOf, wordsOf_len k r (by simp at h; omega)]
theorem wordsOf_lt : ∀ (a : List UInt8), ∀ n ∈ wordsOf a, n < 65536
  | [], n, h => by simp [wordsOf] at h
  | [x], n, h => by simp [wordsOf] at h
  | x :: y :: r, n, h => by
    unfold wordsOf at h
    have hx := x.toNat_lt
    have hy := y.toNat_lt
    rcases List.mem_cons.1 h with rfl | h
    · omega
    · exact wordsOf_lt r n h

/-- The text of words; of an address. -/
def textW (ws : List Nat) : List UInt8 := Lib.join (ws.map hex) [58]
def text6 (a : List UInt8) : List UInt8 := textW (wordsOf a)
def wordsV : List (List UInt8) → Option (List Nat)
  | [] => some []
  | x :: r => (wordV x).bind fun n => (wordsV r).map (n :: ·)
def parse6 (s : List UInt8) : Option (List Nat) := if (cuts 58 [] s).length = 8 then wordsV (cuts 58 [] s) else none

theorem wordsV_hex : ∀ (ws : List Nat), (∀ n ∈ ws, n < 65536) → wordsV (ws.map hex) = some ws
  | [], _ => rfl
  | n :: r, h => by
    rw [List.map_cons, wordsV, word_hex (h n (by simp)), wordsV_hex r (fun m hm => h m (by simp [hm]))]
    rfl
theorem wordsV_back : ∀ (L : List (List UInt8)) (ws : List Nat), wordsV L = some ws → (∀ n ∈ ws, n < 65536) ∧ L = ws.map hex
  | [], ws, h => by
    injection h with h
    subst h
    exact ⟨by simp, rfl⟩
  | x :: r, ws, h => by
    unfold wordsV at h
    obtain ⟨n, h1, h2⟩ := Option.bind_eq_some_iff.1 h
    obtain ⟨ws', h3, rfl⟩ := Option.map_eq_some_iff.1 h2
    obtain ⟨a, rfl⟩ := word_back h1
    obtain ⟨b, rfl⟩ := wordsV_back r ws' h3
    exact ⟨fun m hm => (List.mem_cons.1 hm).elim (fun e => e ▸ a) (b m), rfl⟩
theorem parse_textW {ws : List Nat} (hl : ws.length = 8) (h : ∀ n ∈ ws, n < 65536) : parse6 (textW ws) = some ws := by
  unfold parse6 textW
  rw [cuts_join 58 _ (by intro e; have := congrArg List.length e; simp [hl] at this) (by
    intro x hx
    obtain ⟨n, hn, rfl⟩ := List.mem_map.1 hx
    exact hex_free (h n hn))]
  rw [if_pos (by simp [hl]), wordsV_hex ws h]
theorem textW_parse {s : List UInt8} {ws : List Nat} (h : parse6 s = some ws) : ws.length = 8 ∧ (∀ n ∈ ws, n < 65536) ∧ textW ws = s := by
  unfold parse6 at h
  split at h
  · rename_i hl
    obtain ⟨a, b⟩ := wordsV_back _ _ h
    refine ⟨?_, a, ?_⟩
    · rw [b] at hl
      simpa using hl
    · unfold textW
      rw [← b, join_cuts]
      simp
  · cases h
theorem parse_text6 {a : List UInt8} (h : a.length = 16) : parse6 (text6 a) = some (wordsOf a) := parse_textW (wordsOf_len 8 a (by omega)) (wordsOf_lt a)
end Go.Proofs.YtngdomefipcemaaDoor
