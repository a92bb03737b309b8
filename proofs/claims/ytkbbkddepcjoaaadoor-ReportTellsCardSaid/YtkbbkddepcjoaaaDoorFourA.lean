/-
  four: addresses and their texts, as plain functions; what the two ways of reading have in common. No program in sight.
-/
import Derived.Lib.ItoaNum
import Derived.Lib.Join
namespace Go.Proofs.YtkbbkddepcjoaaaDoor

/-- A byte in decimal digits. -/
def dec (n : Nat) : List UInt8 := if n < 10 then [UInt8.ofNat (48 + n)] else if n < 100 then [UInt8.ofNat (48 + n / 10), UInt8.ofNat (48 + n % 10)] else [UInt8.ofNat (48 + n / 100), UInt8.ofNat (48 + n / 10 % 10), UInt8.ofNat (48 + n % 10)]
theorem dec_eq (n : Nat) (h : n < 1000) : Lib.decDigits n = dec n := by
  unfold dec
  by_cases h1 : n < 10
  · rw [Lib.decDigits, dif_pos h1, if_pos h1]
  · rw [Lib.decDigits, dif_neg h1, if_neg h1]
    by_cases h2 : n < 100
    · rw [if_pos h2, Lib.decDigits, dif_pos (by omega)]
      rfl
    · rw [if_neg h2, Lib.decDigits, dif_neg (by omega), Lib.decDigits, dif_pos (by omega)]
      simp [Nat.div_div_eq_div_mul]

def text (a : Nat) : List UInt8 := dec (a / 16777216) ++ 46 :: (dec (a / 65536 % 256) ++ 46 :: (dec (a / 256 % 256) ++ 46 :: dec (a % 256)))

/-- What dots part (always one piece at least). -/
def pieces (cur : List UInt8) : List UInt8 → List (List UInt8)
  | [] => [cur]
  | c :: cs => if c = 46 then cur :: pieces [] cs else pieces (cur ++ [c]) cs
def dotted : List (List UInt8) → List UInt8
  | [] => []
  | [x] => x
  | x :: y :: r => x ++ 46 :: dotted (y :: r)
theorem dotted_cons (x : List UInt8) (L : List (List UInt8)) (h : L ≠ []) : dotted (x :: L) = x ++ 46 :: dotted L := by
  cases L with
  | nil => exact absurd rfl h
  | cons y r => rfl
theorem pieces_ne (cur s : List UInt8) : pieces cur s ≠ [] := by
  induction s generalizing cur with
  | nil => simp [pieces]
  | cons c cs ih =>
    unfold pieces
    split
    · simp
    · exact ih _
theorem dotted_pieces : ∀ (s cur : List UInt8), dotted (pieces cur s) = cur ++ s
  | [], cur => by simp [pieces, dotted]
  | c :: cs, cur => by
    unfold pieces
    split
    · rename_i h
      subst h
      rw [dotted_cons _ _ (pieces_ne _ _), dotted_pieces cs []]
      simp
    · rw [dotted_pieces cs]
      simp
theorem pieces_free : ∀ (x cur r : List UInt8), (46 : UInt8) ∉ x → pieces cur (x ++ r) = pieces (cur ++ x) r
  | [], cur, r, _ => by simp
  | c :: x, cur, r, h => by
    have h1 : c ≠ 46 := fun e => h (by simp [e])
    rw [List.cons_append, pieces, if_neg h1, pieces_free x _ r (fun hm => h (by simp [hm]))]
    simp

/-- The byte that digits say. -/
def isDig (c : UInt8) : Bool := decide (48 ≤ c.toNat ∧ c.toNat ≤ 57)
def val (n : Nat) : List UInt8 → Nat
  | [] => n
  | c :: cs => val (10 * n + (c.toNat - 48)) cs
def partV (w : List UInt8) : Option Nat :=
  if w.length < 1 ∨ 3 < w.length ∨ (w.getD 0 0 = 48 ∧ 1 < w.length) then none
  else if w.all isDig then (if val 0 w ≤ 255 then some (val 0 w) else none) else none

theorem dig_of {c : UInt8} (h : isDig c = true) : ∃ k, k < 10 ∧ c = UInt8.ofNat (48 + k) ∧ c.toNat - 48 = k := by
  unfold isDig at h
  have h := of_decide_eq_true h
  refine ⟨c.toNat - 48, by omega, ?_, rfl⟩
  rw [show 48 + (c.toNat - 48) = c.toNat by omega]
  simp
theorem dec_one (a : UInt8) (k : Nat) (hk : k < 10) (ha : a = UInt8.ofNat (48 + k)) (e : a.toNat - 48 = k) : [a] = dec (val 0 [a]) := by
  have h : val 0 [a] = k := by
    show 10 * 0 + (a.toNat - 48) = k
    rw [e]; simp
  rw [h]
  unfold dec
  rw [if_pos hk, ← ha]
theorem dec_two (a b : UInt8) (k j : Nat) (hk : k < 10) (hj : j < 10) (hk0 : k ≠ 0) (ha : a = UInt8.ofNat (48 + k)) (hb : b = UInt8.ofNat (48 + j)) (e : a.toNat - 48 = k) (e2 : b.toNat - 48 = j) : [a, b] = dec (val 0 [a, b]) := by
  have h : val 0 [a, b] = 10 * k + j := by
    show 10 * (10 * 0 + (a.toNat - 48)) + (b.toNat - 48) = _
    rw [e, e2]; simp
  rw [h]
  clear h e e2
  have e3 : (10 * k + j) / 10 = k := by omega
  have e4 : (10 * k + j) % 10 = j := by omega
  unfold dec
  rw [if_neg (by omega), if_pos (by omega), e3, e4, ← ha, ← hb]
theorem dec_three (a b c : UInt8) (k j i : Nat) (hk : k < 10) (hj : j < 10) (hi : i < 10) (hk0 : k ≠ 0) (ha : a = UInt8.ofNat (48 + k)) (hb : b = UInt8.ofNat (48 + j)) (hc : c = UInt8.ofNat (48 + i)) (e : a.toNat - 48 = k) (e2 : b.toNat - 48 = j) (e3 : c.toNat - 48 = i) : [a, b, c] = dec (val 0 [a, b, c]) := by
  have h : val 0 [a, b, c] = 100 * k + 10 * j + i := by
    show 10 * (10 * (10 * 0 + (a.toNat - 48)) + (b.toNat - 48)) + (c.toNat - 48) = _
    rw [e, e2, e3]; omega
  rw [h]
  clear h e e2 e3
  have f1 : (100 * k + 10 * j + i) / 100 = k := by omega
  have f2 : (100 * k + 10 * j + i) / 10 % 10 = j := by omega
  have f3 : (100 * k + 10 * j + i) % 10 = i := by omega
  unfold dec
  rw [if_neg (by omega), if_neg (by omega), f1, f2, f3, ← ha, ← hb, ← hc]
theorem part_dec {w : List UInt8} {n : Nat} (h : partV w = some n) : n < 256 ∧ w = dec n := by
  unfold partV at h
  split at h
  · cases h
  · rename_i hl
    split at h
    · rename_i hd
      split at h
      · rename_i hv
        injection h with h
        subst h
        refine ⟨by omega, ?_⟩
        rw [List.all_eq_true] at hd
        rcases w with _ | ⟨a, _ | ⟨b, _ | ⟨c, _ | ⟨d, r⟩⟩⟩⟩
        · exact absurd (Or.inl (Nat.zero_lt_one)) hl
        · obtain ⟨k, hk, ha, e⟩ := dig_of (hd a (by simp))
          exact dec_one a k hk ha e
        · obtain ⟨k, hk, ha, e⟩ := dig_of (hd a (by simp))
          obtain ⟨j, hj, hb, e2⟩ := dig_of (hd b (by simp))
          exact dec_two a b k j hk hj (fun h0 => hl (Or.inr (Or.inr ⟨by rw [h0] at ha; exact ha, by simp⟩))) ha hb e e2
        · obtain ⟨k, hk, ha, e⟩ := dig_of (hd a (by simp))
          obtain ⟨j, hj, hb, e2⟩ := dig_of (hd b (by simp))
          obtain ⟨i, hi, hc, e3⟩ := dig_of (hd c (by simp))
          exact dec_three a b c k j i hk hj hi (fun h0 => hl (Or.inr (Or.inr ⟨by rw [h0] at ha; exact ha, by simp⟩))) ha hb hc e e2 e3
        · exact absurd (Or.inr (Or.inl (by simp))) hl
      · cases h
    · cases h

theorem part_all : ∀ n : Fin 256, partV (dec n.val) = some n.val := by decide +kernel
theorem part_of_dec {n : Nat} (h : n < 256) : partV (dec n) = some n := part_all ⟨n, h⟩
theorem dec_free_all : ∀ n : Fin 256, (dec n.val).all (fun c => c != 46) = true := by decide +kernel
theorem dec_free {n : Nat} (h : n < 256) : (46 : UInt8) ∉ dec n := fun hm => by
  have := dec_free_all ⟨n, h⟩
  rw [List.all_eq_true] at this
  have := this 46 hm
  simp at this
theorem dec_len_all : ∀ n : Fin 256, (dec n.val).length ≤ 3 := by decide +kernel
theorem dec_len {n : Nat} (h : n < 256) : (dec n).length ≤ 3 := dec_len_all ⟨n, h⟩

/-- The address that a text says. -/
def parseV (s : List UInt8) : Option Nat :=
  match pieces [] s with
  | [a, b, c, d] =>
    match partV a, partV b, partV c, partV d with
    | some x, some y, some z, some u => some (((x * 256 + y) * 256 + z) * 256 + u)
    | _, _, _, _ => none
  | _ => none

theorem text_pieces {a : Nat} (h : a < 4294967296) : pieces [] (text a) = [dec (a / 16777216), dec (a / 65536 % 256), dec (a / 256 % 256), dec (a % 256)] := by
  unfold text
  rw [pieces_free _ _ _ (dec_free (by omega))]
  rw [pieces, if_pos rfl, pieces_free _ _ _ (dec_free (by omega)), pieces, if_pos rfl, pieces_free _ _ _ (dec_free (by omega)), pieces, if_pos rfl]
  have := pieces_free (dec (a % 256)) [] [] (dec_free (by omega))
  rw [List.append_nil, List.nil_append, pieces] at this
  rw [this]
  simp
theorem parse_text {a : Nat} (h : a < 4294967296) : parseV (text a) = some a := by
  unfold parseV
  rw [text_pieces h]
  simp only [part_of_dec (show a / 16777216 < 256 by omega), part_of_dec (show a / 65536 % 256 < 256 by omega), part_of_dec (show a / 256 % 256 < 256 by omega), part_of_dec (show a % 256 < 256 by omega)]
  congr 1
  omega
theorem text_parse {s : List UInt8} {n : Nat} (h : parseV s = some n) : n < 4294967296 ∧ text n = s := by
  unfold parseV at h
  split at h
  · rename_i a b c d hp
    split at h
    · rename_i x y z u hx hy hz hu
      injection h with h
      obtain ⟨lx, rfl⟩ := part_dec hx
      obtain ⟨ly, rfl⟩ := part_dec hy
      obtain ⟨lz, rfl⟩ := part_dec hz
      obtain ⟨lu, rfl⟩ := part_dec hu
      refine ⟨by omega, ?_⟩
      have e := dotted_pieces s []
      rw [hp] at e
      simp only [dotted, List.nil_append] at e
      rw [← e]
      unfold text
      rw [show n / 16777216 = x by omega, show n / 65536 % 256 = y by omega, show n / 256 % 256 = z by omega, show n % 256 = u by omega]
    · cases h
  · cases h

/-- The document's reading: a machine, and a look whether the text comes back. -/
def step (q : Nat × Nat) (c : UInt8) : Option (Nat × Nat) :=
  if c = 46 then (if q.1 * 256 + q.2 > 16777215 then none else some (q.1 * 256 + q.2, 0))
  else if isDig c then (if q.2 * 10 + (c.toNat - 48) > 255 ∨ q.1 > 16777215 then none else some (q.1, q.2 * 10 + (c.toNat - 48)))
  else none
def run (q : Nat × Nat) : List UInt8 → Option (Nat × Nat)
  | [] => some q
  | c :: cs => (step q c).bind fun q' => run q' cs
def refV (s : List UInt8) : Option Nat :=
  if 15 < s.length then none else (run (0, 0) s).bind fun q => if text (q.1 * 256 + q.2) = s then some (q.1 * 256 + q.2) else none

theorem run_append (q : Nat × Nat) (x r : List UInt8) : run q (x ++ r) = (run q x).bind fun q' => run q' r := by
  induction x generalizing q with
  | nil => rfl
  | cons c x ih =>
    show (step q c).bind (fun q' => run q' (x ++ r)) = ((step q c).bind fun q' => run q' x).bind fun q' => run q' r
    cases step q c with
    | none => rfl
    | some q' => exact ih q'
theorem digs_all : ∀ n : Fin 256, run (0, 0) (dec n.val) = some (0, n.val) := by decide +kernel
theorem step_shift (m : Nat) (hm : m ≤ 16777215) (p : Nat) (c : UInt8) (hc : c ≠ 46) : step (m, p) c = (step (0, p) c).map fun q => (m, q.2) := by
  unfold step
  rw [if_neg hc, if_neg hc]
  split
  · by_cases h : p * 10 + (c.toNat - 48) > 255
    · rw [if_pos (.inl h), if_pos (.inl h)]; rfl
    · rw [if_neg (by omega), if_neg (by omega)]; rfl
  · rfl
theorem step_first (p : Nat) (c : UInt8) (hc : c ≠ 46) (q : Nat × Nat) (h : step (0, p) c = some q) : q.1 = 0 := by
  unfold step at h
  rw [if_neg hc] at h
  split at h
  · split at h
    · cases h
    · injection h with h; subst h; rfl
  · cases h
theorem run_shift (m : Nat) (hm : m ≤ 16777215) : ∀ (x : List UInt8) (p : Nat), (46 : UInt8) ∉ x → run (m, p) x = (run (0, p) x).map fun q => (m, q.2)
  | [], p, _ => rfl
  | c :: x, p, h => by
    have hc : c ≠ 46 := fun e => h (by simp [e])
    show (step (m, p) c).bind (fun q' => run q' x) = ((step (0, p) c).bind fun q' => run q' x).map _
    rw [step_shift m hm p c hc]
    cases hs : step (0, p) c with
    | none => rfl
    | some q =>
      obtain ⟨q1, q2⟩ := q
      obtain rfl : q1 = 0 := step_first p c hc _ hs
      exact run_shift m hm x q2 (fun hm => h (by simp [hm]))
theorem run_dec (m : Nat) (hm : m ≤ 16777215) {n : Nat} (h : n < 256) : run (m, 0) (dec n) = some (m, n) := by
  rw [run_shift m hm _ _ (dec_free h), digs_all ⟨n, h⟩]
  rfl
theorem step_dot (m p : Nat) (h : m * 256 + p ≤ 16777215) : step (m, p) 46 = some (m * 256 + p, 0) := by
  unfold step
  rw [if_pos rfl, if_neg (by simp only; omega)]
theorem run_text {a : Nat} (h : a < 4294967296) : run (0, 0) (text a) = some (a / 256, a % 256) := by
  unfold text
  rw [run_append, run_dec 0 (by omega) (by omega)]
  simp only [Option.bind_some, run]
  rw [step_dot _ _ (by omega)]
  simp only [Option.bind_some]
  rw [run_append, run_dec _ (by omega) (by omega)]
  simp only [Option.bind_some, run]
  rw [step_dot _ _ (by omega)]
  simp only [Option.bind_some]
  rw [run_append, run_dec _ (by omega) (by omega)]
  simp only [Option.bind_some, run]
  rw [step_dot _ _ (by omega)]
  simp only [Option.bind_some]
  rw [run_dec _ (by omega) (by omega)]
  congr 2
  omega
theorem text_len {a : Nat} (h : a < 4294967296) : (text a).length ≤ 15 := by
  have h1 := dec_len (show a / 16777216 < 256 by omega)
  have h2 := dec_len (show a / 65536 % 256 < 256 by omega)
  have h3 := dec_len (show a / 256 % 256 < 256 by omega)
  have h4 := dec_len (show a % 256 < 256 by omega)
  unfold text
  simp only [List.length_append, List.length_cons]
  omega
theorem step_bound (q q' : Nat × Nat) (c : UInt8) (h1 : q.1 ≤ 16777215) (h : step q c = some q') : q'.1 ≤ 16777215 ∧ q'.2 ≤ 255 := by
  unfold step at h
  split at h
  · split at h
    · cases h
    · injection h with h; subst h; simp only; omega
  · split at h
    · split at h
      · cases h
      · injection h with h; subst h; simp only; omega
    · cases h
theorem run_bound : ∀ (x : List UInt8) (q q' : Nat × Nat), q.1 ≤ 16777215 → q.2 ≤ 255 → run q x = some q' → q'.1 ≤ 16777215 ∧ q'.2 ≤ 255
  | [], q, q', h1, h2, h => by injection h with h; subst h; exact ⟨h1, h2⟩
  | c :: x, q, q', h1, h2, h => by
    change (step q c).bind (fun q' => run q' x) = some q' at h
    cases hs : step q c with
    | none => rw [hs] at h; cases h
    | some p =>
      rw [hs] at h
      obtain ⟨a, b⟩ := step_bound q p c h1 hs
      exact run_bound x p q' a b h
/-- The two ways of reading say the same. -/
theorem ref_eq (s : List UInt8) : refV s = parseV s := by
  cases hp : parseV s with
  | some n =>
    obtain ⟨hn, rfl⟩ := text_parse hp
    unfold refV
    rw [if_neg (by have := text_len hn; omega), run_text hn]
    simp only [Option.bind_some]
    rw [show n / 256 * 256 + n % 256 = n by omega, if_pos rfl]
  | none =>
    unfold refV
    split
    · rfl
    · cases hr : run (0, 0) s with
      | none => rfl
      | some q =>
        obtain ⟨h1, h2⟩ := run_bound s (0, 0) q (by simp) (by simp) hr
        simp only [Option.bind_some]
        split
        · rename_i he
          have := parse_text (a := q.1 * 256 + q.2) (by omega)
          rw [he, hp] at this
          cases this
        · rfl
end Go.Proofs.YtkbbkddepcjoaaaDoor
