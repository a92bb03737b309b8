/-
  six: the document's reading of a text: a machine, and a look whether the text comes back; the two ways of reading say the same. No program in sight.
-/
import Derived.Test.YtngdomefipcemaaDoorSixA
namespace Go.Proofs.YtngdomefipcemaaDoor

def put6 (a : List UInt8) (k n : Nat) : List UInt8 := (a.set (2 * k) (UInt8.ofNat (n / 256))).set (2 * k + 1) (UInt8.ofNat (n % 256))
theorem put6_len (a : List UInt8) (k n : Nat) : (put6 a k n).length = a.length := by simp [put6]
theorem put6_put6 (a : List UInt8) (k n m : Nat) : put6 (put6 a k n) k m = put6 a k m := by
  unfold put6
  rw [List.set_comm (UInt8.ofNat (n % 256)) (UInt8.ofNat (m / 256)) (show 2 * k + 1 ≠ 2 * k by omega), List.set_set, List.set_set]
def zero6 : List UInt8 := List.replicate 16 0

def step6 (k n : Nat) (a : List UInt8) (c : UInt8) : Option (Nat × Nat × List UInt8) :=
  if c = 58 then (if k + 1 > 7 then none else some (k + 1, 0, put6 a (k + 1) 0))
  else (hv c).bind fun d => if k > 7 ∨ n * 16 + d > 65535 then none else some (k, n * 16 + d, put6 a k (n * 16 + d))
def run6 (k n : Nat) (a : List UInt8) : List UInt8 → Option (List UInt8)
  | [] => some a
  | c :: cs => (step6 k n a c).bind fun q => run6 q.1 q.2.1 q.2.2 cs
def ref6 (s : List UInt8) : Option (List UInt8) :=
  if 39 < s.length then none else (run6 0 0 zero6 s).bind fun a => if text6 a = s then some a else none

theorem run6_len : ∀ (s : List UInt8) (k n : Nat) (a b : List UInt8), run6 k n a s = some b → b.length = a.length
  | [], k, n, a, b, h => by injection h with h; rw [h]
  | c :: cs, k, n, a, b, h => by
    unfold run6 at h
    obtain ⟨q, h1, h2⟩ := Option.bind_eq_some_iff.1 h
    have := run6_len cs _ _ _ _ h2
    rw [this]
    unfold step6 at h1
    split at h1
    · split at h1
      · cases h1
      · injection h1 with h1; subst h1; exact put6_len _ _ _
    · obtain ⟨d, _, h3⟩ := Option.bind_eq_some_iff.1 h1
      split at h3
      · cases h3
      · injection h3 with h3; subst h3; exact put6_len _ _ _
theorem step6_hex {k n d : Nat} (hk : k ≤ 7) (hd : d < 16) (h : n * 16 + d < 65536) (a : List UInt8) : step6 k n a (hexd d) = some (k, n * 16 + d, put6 a k (n * 16 + d)) := by
  unfold step6
  rw [if_neg (hexd_ne hd), hv_hexd hd, Option.bind_some, if_neg (by omega)]
theorem run6_cons {k n d : Nat} (hk : k ≤ 7) (hd : d < 16) (h : n * 16 + d < 65536) (a r : List UInt8) : run6 k n a (hexd d :: r) = run6 k (n * 16 + d) (put6 a k (n * 16 + d)) r := by
  rw [run6, step6_hex hk hd h, Option.bind_some]
theorem run6_hex {k n : Nat} (hk : k ≤ 7) (h : n < 65536) (a r : List UInt8) : run6 k 0 a (hex n ++ r) = run6 k n (put6 a k n) r := by
  unfold hex
  by_cases h1 : n < 16
  · rw [if_pos h1, List.singleton_append, run6_cons hk h1 (by omega), show 0 * 16 + n = n by omega]
  · rw [if_neg h1]
    by_cases h2 : n < 256
    · rw [if_pos h2, List.cons_append, List.cons_append, List.nil_append, run6_cons hk (by omega) (by omega), run6_cons hk (by omega) (by omega), put6_put6, show (0 * 16 + n / 16) * 16 + n % 16 = n by omega]
    · rw [if_neg h2]
      by_cases h3 : n < 4096
      · rw [if_pos h3]
        simp only [List.cons_append, List.nil_append]
        rw [run6_cons hk (by omega) (by omega), run6_cons hk (by omega) (by omega), run6_cons hk (by omega) (by omega), put6_put6, put6_put6, show ((0 * 16 + n / 256) * 16 + n / 16 % 16) * 16 + n % 16 = n by omega]
      · rw [if_neg h3]
        simp only [List.cons_append, List.nil_append]
        rw [run6_cons hk (by omega) (by omega), run6_cons hk (by omega) (by omega), run6_cons hk (by omega) (by omega), run6_cons hk (by omega) (by omega), put6_put6, put6_put6, put6_put6, show (((0 * 16 + n / 4096) * 16 + n / 256 % 16) * 16 + n / 16 % 16) * 16 + n % 16 = n by omega]
def puts6 : List UInt8 → Nat → List Nat → List UInt8
  | a, _, [] => a
  | a, k, n :: r => puts6 (put6 a k n) (k + 1) r
theorem run6_text : ∀ (ws : List Nat) (k : Nat) (a : List UInt8), ws ≠ [] → k + ws.length ≤ 8 → (∀ n ∈ ws, n < 65536) → run6 k 0 a (textW ws) = some (puts6 a k ws)
  | [], _, _, h, _, _ => absurd rfl h
  | [n], k, a, _, hk, h => by
    have := run6_hex (k := k) (by simp at hk; omega) (h n (by simp)) a []
    rw [List.append_nil] at this
    unfold textW
    rw [List.map_cons, List.map_nil, join_one, this]
    rfl
  | n :: m :: r, k, a, _, hk, h => by
    have hk' : k + 1 + (m :: r).length ≤ 8 := by simp at hk ⊢; omega
    have e : textW (n :: m :: r) = hex n ++ 58 :: textW (m :: r) := by
      unfold textW
      rw [List.map_cons, join_cons _ _ _ (by simp)]
    have e2 : put6 (put6 (put6 a k n) (k + 1) 0) (k + 1) m = put6 (put6 a k n) (k + 1) m := put6_put6 _ _ _ _
    rw [e, run6_hex (by simp at hk; omega) (h n (by simp)), run6]
    unfold step6
    rw [if_pos rfl, if_neg (by simp at hk; omega), Option.bind_some]
    simp only
    rw [run6_text (m :: r) (k + 1) _ (by simp) hk' (fun x hx => h x (by simp at hx ⊢; exact .inr hx))]
    simp only [puts6]
    rw [e2]
theorem eight {ws : List Nat} (h : ws.length = 8) : ∃ a b c d e f g i, ws = [a, b, c, d, e, f, g, i] := by
  rcases ws with _ | ⟨a, _ | ⟨b, _ | ⟨c, _ | ⟨d, _ | ⟨e, _ | ⟨f, _ | ⟨g, _ | ⟨i, _ | ⟨j, r⟩⟩⟩⟩⟩⟩⟩⟩⟩
  all_goals first
    | exact ⟨a, b, c, d, e, f, g, i, rfl⟩
    | (simp at h)
theorem puts6_eight {ws : List Nat} (h : ws.length = 8) : puts6 zero6 0 ws = ofW ws := by
  obtain ⟨a, b, c, d, e, f, g, i, rfl⟩ := eight h
  rfl
theorem join_len (d : UInt8) : ∀ (L : List (List UInt8)), (∀ x ∈ L, x.length ≤ 4) → (Lib.join L [d]).length ≤ 5 * L.length
  | [], _ => by simp [Lib.join, List.intercalate]
  | [x], h => by rw [join_one]; have := h x (by simp); simp; omega
  | x :: y :: r, h => by
    rw [join_cons _ _ _ (by simp)]
    have h1 := h x (by simp)
    have h2 := join_len d (y :: r) (fun z hz => h z (by simp at hz ⊢; exact .inr hz))
    simp only [List.length_append, List.length_cons] at h2 ⊢
    omega
theorem textW_len {ws : List Nat} (h : ws.length = 8) : (textW ws).length ≤ 39 := by
  obtain ⟨a, b, c, d, e, f, g, i, rfl⟩ := eight h
  have hl := fun n => (hex_len n).2
  have h7 := join_len 58 ([b, c, d, e, f, g, i].map hex) (by intro x hx; obtain ⟨n, _, rfl⟩ := List.mem_map.1 hx; exact hl n)
  unfold textW
  rw [List.map_cons, join_cons _ _ _ (by simp)]
  have h1 := hl a
  have e1 : ∀ (L : List (List UInt8)) (d : UInt8), L ≠ [] → (∀ x ∈ L, x.length ≤ 4) → (Lib.join L [d]).length + 1 ≤ 5 * L.length := by
    intro L d
    induction L with
    | nil => intro h; exact absurd rfl h
    | cons x L ih =>
      intro _ hx
      have h1 := hx x (by simp)
      cases L with
      | nil => rw [join_one]; simp; omega
      | cons y r =>
        have h2 := ih (by simp) (fun z hz => hx z (by simp at hz ⊢; exact .inr hz))
        rw [join_cons _ _ _ (by simp)]
        simp only [List.length_append, List.length_cons] at h2 ⊢
        omega
  have h8 := e1 ([b, c, d, e, f, g, i].map hex) 58 (by simp) (by intro x hx; obtain ⟨n, _, rfl⟩ := List.mem_map.1 hx; exact hl n)
  simp only [List.length_append, List.length_cons, List.length_map, List.length_nil] at h8 ⊢
  omega
theorem ref6_eq (s : List UInt8) : ref6 s = (parse6 s).map ofW := by
  cases hp : parse6 s with
  | some ws =>
    obtain ⟨hl, hb, rfl⟩ := textW_parse hp
    unfold ref6
    rw [if_neg (by have := textW_len hl; omega), run6_text ws 0 zero6 (by intro e; rw [e] at hl; simp at hl) (by omega) hb, puts6_eight hl, Option.bind_some, if_pos (by unfold text6; rw [wordsOf_ofW ws hb])]
    rfl
  | none =>
    unfold ref6
    split
    · rfl
    · cases hr : run6 0 0 zero6 s with
      | none => rfl
      | some a =>
        have hl : a.length = 16 := run6_len _ _ _ _ _ hr
        rw [Option.bind_some]
        split
        · rename_i he
          have := parse_text6 hl
          rw [he, hp] at this
          cases this
        · rfl
end Go.Proofs.YtngdomefipcemaaDoor
