/-
  cmd, report: what words say, and the words of what is said. No program in sight.
-/
import Derived.Test.YtkbbkddepcjoaaaDoorCmdA
import Derived.Test.YtkbbkddepcjoaaaDoorFourB
namespace Go.Proofs.YtkbbkddepcjoaaaDoor

theorem textV_free (a : Int) : (32 : UInt8) ∉ textV a := by
  unfold textV
  split
  · rename_i h
    obtain ⟨h0, h1⟩ := right_spec h
    exact text_free (by omega)
  · simp
theorem textV_len (a : Int) : (textV a).length ≤ 15 := by
  unfold textV
  split
  · rename_i h
    obtain ⟨h0, h1⟩ := right_spec h
    exact text_len (by omega)
  · simp
theorem parse_textV {a : Int} {n : Nat} (h : parseV (textV a) = some n) : a = n := by
  unfold textV at h
  split at h
  · rename_i hr
    obtain ⟨h0, h1⟩ := right_spec hr
    rw [parse_text (by omega)] at h
    injection h with h
    omega
  · rw [show parseV [] = none by decide +kernel] at h
    cases h
theorem textV_nat {n : Nat} (h : n < 4294967296) : textV (n : Int) = text n := by
  unfold textV
  rw [if_pos (by unfold right; simp; omega)]
  simp
theorem textV_parse {w : List UInt8} {n : Nat} (h : parseV w = some n) : w = textV n := by
  obtain ⟨h1, h2⟩ := text_parse h
  rw [textV_nat h1, h2]
theorem parse_right {a : Int} (h0 : 0 ≤ a) (h1 : a < 4294967296) : parseV (textV a) = some a.toNat := by
  obtain ⟨k, rfl⟩ := Int.eq_ofNat_of_zero_le h0
  rw [textV_nat (by omega)]
  exact parse_text (by omega)
theorem parse_wrong {a : Int} (h : ¬ (0 ≤ a ∧ a < 4294967296)) : parseV (textV a) = none := by
  unfold textV
  rw [if_neg (by unfold right; simp; omega)]
  decide +kernel
theorem num_itoa_eq {w : List UInt8} {most : Int} {n : Nat} (h : numV w most = some n) : w = Lib.itoa n := by rw [itoa_nat]; exact (num_dec h).1

/-! An inner endpoint is four words, an outer one two. -/
def innerL (a b c d : List UInt8) : Option (Nat × Nat × Nat × Nat) :=
  (numV a 63).bind fun n => (protoV b).bind fun p => (parseV c).bind fun x => (numV d 65535).bind fun y => some (n, p, x, y)
def outerL (a b : List UInt8) : Option (Nat × Nat) := (parseV a).bind fun x => (numV b 65535).bind fun y => some (x, y)
theorem innerL_some {a b c d : List UInt8} {n p x y : Nat} (h : innerL a b c d = some (n, p, x, y)) : numV a 63 = some n ∧ protoV b = some p ∧ parseV c = some x ∧ numV d 65535 = some y := by
  unfold innerL at h
  simp only [Option.bind_eq_some_iff, Option.some.injEq, Prod.mk.injEq] at h
  obtain ⟨n', h1, p', h2, x', h3, y', h4, rfl, rfl, rfl, rfl⟩ := h
  exact ⟨h1, h2, h3, h4⟩
theorem innerL_of {a b c d : List UInt8} {n p x y : Nat} (h1 : numV a 63 = some n) (h2 : protoV b = some p) (h3 : parseV c = some x) (h4 : numV d 65535 = some y) : innerL a b c d = some (n, p, x, y) := by
  unfold innerL
  rw [h1, h2, h3, h4]
  rfl
theorem innerL_none {a b c d : List UInt8} (h : numV a 63 = none ∨ protoV b = none ∨ parseV c = none ∨ numV d 65535 = none) : innerL a b c d = none := by
  unfold innerL
  rcases h with h | h | h | h
  · rw [h]; rfl
  · rw [h]; cases numV a 63 <;> rfl
  · rw [h]; cases numV a 63 <;> cases protoV b <;> rfl
  · rw [h]; cases numV a 63 <;> cases protoV b <;> cases parseV c <;> rfl
theorem outerL_some {a b : List UInt8} {x y : Nat} (h : outerL a b = some (x, y)) : parseV a = some x ∧ numV b 65535 = some y := by
  unfold outerL at h
  simp only [Option.bind_eq_some_iff, Option.some.injEq, Prod.mk.injEq] at h
  obtain ⟨x', h1, y', h2, rfl, rfl⟩ := h
  exact ⟨h1, h2⟩
theorem outerL_of {a b : List UInt8} {x y : Nat} (h1 : parseV a = some x) (h2 : numV b 65535 = some y) : outerL a b = some (x, y) := by
  unfold outerL
  rw [h1, h2]
  rfl
theorem outerL_none {a b : List UInt8} (h : parseV a = none ∨ numV b 65535 = none) : outerL a b = none := by
  unfold outerL
  rcases h with h | h
  · rw [h]; rfl
  · rw [h]; cases parseV a <;> rfl

/-! Commands: verb; softwire, protocol, address, port; protocol, address, port. -/
def wFlush : List UInt8 := [102, 108, 117, 115, 104]
def wMap : List UInt8 := [109, 97, 112]
def wUnmap : List UInt8 := [117, 110, 109, 97, 112]
def wShow : List UInt8 := [115, 104, 111, 119]
abbrev Cm := Int × (Int × Int × Int × Int) × Int × Int × Int
def zeroC : Cm := (0, (0, 0, 0, 0), 0, 0, 0)
def innerI (q : Nat × Nat × Nat × Nat) : Int × Int × Int × Int := (q.1, q.2.1, q.2.2.1, q.2.2.2)
def parseC : List (List UInt8) → Option Cm
  | [a] => if a = wShow then some (4, (0, 0, 0, 0), 0, 0, 0) else none
  | [a, b] => if a = wFlush then (numV b 63).map fun n => (1, ((n : Int), 0, 0, 0), 0, 0, 0) else none
  | [a, b, c, d, e] => if a = wUnmap then (innerL b c d e).map fun q => (3, innerI q, 0, 0, 0) else none
  | [a, b, c, d, e, f, g] => if a = wMap then (innerL b c d e).bind fun q => (outerL f g).map fun r => (2, innerI q, (q.2.1 : Int), (r.1 : Int), (r.2 : Int)) else none
  | _ => none
def innerW (q : Int × Int × Int × Int) : List (List UInt8) := [Lib.itoa q.1, wordV q.2.1, textV q.2.2.1, Lib.itoa q.2.2.2]
/-- A command's words, whether it may be or not. -/
def wordsC (c : Cm) : List (List UInt8) :=
  if c.1 = 1 then [wFlush, Lib.itoa c.2.1.1]
  else if c.1 = 2 then wMap :: (innerW c.2.1 ++ [textV c.2.2.2.1, Lib.itoa c.2.2.2.2])
  else if c.1 = 3 then wUnmap :: innerW c.2.1
  else if c.1 = 4 then [wShow] else [[]]
theorem wordsC_1 (q : Int × Int × Int × Int) (r : Int × Int × Int) : wordsC (1, q, r) = [wFlush, Lib.itoa q.1] := by simp [wordsC]
theorem wordsC_2 (q : Int × Int × Int × Int) (r : Int × Int × Int) : wordsC (2, q, r) = wMap :: (innerW q ++ [textV r.2.1, Lib.itoa r.2.2]) := by simp [wordsC]
theorem wordsC_3 (q : Int × Int × Int × Int) (r : Int × Int × Int) : wordsC (3, q, r) = wUnmap :: innerW q := by simp [wordsC]
theorem wordsC_4 (q : Int × Int × Int × Int) (r : Int × Int × Int) : wordsC (4, q, r) = [wShow] := by simp [wordsC]
theorem innerL_words {a b c d : List UInt8} {n p x y : Nat} (h : innerL a b c d = some (n, p, x, y)) : innerW (innerI (n, p, x, y)) = [a, b, c, d] := by
  obtain ⟨h1, h2, h3, h4⟩ := innerL_some h
  unfold innerW innerI
  simp only
  rw [← num_itoa_eq h1, ← (proto_word h2).1, ← textV_parse h3, ← num_itoa_eq h4]
/-- What is read has just these words. -/
theorem parseC_words {L : List (List UInt8)} {c : Cm} (h : parseC L = some c) : wordsC c = L := by
  unfold parseC at h
  split at h
  · split at h
    · rename_i e; injection h with h; subst h; subst e; rfl
    · cases h
  · split at h
    · rename_i a b e
      cases hn : numV b 63 with
      | none => rw [hn] at h; cases h
      | some n =>
        rw [hn] at h
        injection h with h
        subst h
        simp only
        rw [wordsC_1, e, ← num_itoa_eq hn]
    · cases h
  · split at h
    · rename_i a b c d e ea
      cases hn : innerL b c d e with
      | none => rw [hn] at h; cases h
      | some q =>
        obtain ⟨n, p, x, y⟩ := q
        rw [hn] at h
        injection h with h
        subst h
        simp only
        rw [wordsC_3, ea, innerL_words hn]
    · cases h
  · split at h
    · rename_i a b c d e f g ea
      cases hn : innerL b c d e with
      | none => rw [hn] at h; cases h
      | some q =>
        obtain ⟨n, p, x, y⟩ := q
        rw [hn] at h
        cases ho : outerL f g with
        | none => rw [ho] at h; cases h
        | some r =>
          obtain ⟨u, v⟩ := r
          rw [ho] at h
          injection h with h
          subst h
          obtain ⟨h1, h2⟩ := outerL_some ho
          simp only
          rw [wordsC_2, ea, innerL_words hn]
          simp only
          rw [← textV_parse h1, ← num_itoa_eq h2]
          rfl
    · cases h
  · cases h
theorem innerW_free (q : Int × Int × Int × Int) : ∀ x ∈ innerW q, (32 : UInt8) ∉ x := by
  intro x hx
  simp only [innerW, List.mem_cons, List.not_mem_nil, or_false] at hx
  rcases hx with rfl | rfl | rfl | rfl
  · exact itoa_free _
  · exact word_free _
  · exact textV_free _
  · exact itoa_free _
theorem wordsC_free (c : Cm) : ∀ x ∈ wordsC c, (32 : UInt8) ∉ x := by
  intro x hx
  unfold wordsC at hx
  split at hx
  · simp only [List.mem_cons, List.not_mem_nil, or_false] at hx
    rcases hx with rfl | rfl
    · decide
    · exact itoa_free _
  · split at hx
    · simp only [List.mem_cons, List.mem_append, List.not_mem_nil, or_false] at hx
      rcases hx with rfl | hx | rfl | rfl
      · decide
      · exact innerW_free _ x hx
      · exact textV_free _
      · exact itoa_free _
    · split at hx
      · rcases List.mem_cons.1 hx with rfl | hx
        · decide
        · exact innerW_free _ x hx
      · split at hx
        · simp only [List.mem_cons, List.not_mem_nil, or_false] at hx
          subst hx
          decide
        · simp only [List.mem_cons, List.not_mem_nil, or_false] at hx
          subst hx
          decide
theorem wordsC_ne (c : Cm) : wordsC c ≠ [] := by
  unfold wordsC
  split
  · simp
  · split
    · simp
    · split
      · simp
      · split <;> simp
/-- A command's text. -/
def textC (c : Cm) : List UInt8 := Lib.join (wordsC c) [32]
theorem textC_pieces (c : Cm) : piecesB [] (textC c) = wordsC c := piecesB_join _ (wordsC_ne c) (wordsC_free c)
theorem parse_textC {s : List UInt8} {c : Cm} (h : parseC (piecesB [] s) = some c) : s = textC c := by
  have := parseC_words h
  unfold textC
  rw [this, join_piecesB]
  rfl

/-- The document's text. -/
def wordR (p : Int) : List UInt8 := if p = 1 then wIcmp else if p = 6 then wTcp else if p = 17 then wUdp else []
def innerR (q : Int × Int × Int × Int) : List UInt8 :=
  if q.1 < 0 ∨ q.2.2.2 < 0 then [63] else Lib.decDigits q.1.toNat ++ [32] ++ wordR q.2.1 ++ [32] ++ textV q.2.2.1 ++ [32] ++ Lib.decDigits q.2.2.2.toNat
def textR (c : Cm) : List UInt8 :=
  if c.1 = 1 then (if 0 ≤ c.2.1.1 then wFlush ++ 32 :: Lib.decDigits c.2.1.1.toNat else [63])
  else if c.1 = 2 then (if 0 ≤ c.2.2.2.2 then wMap ++ 32 :: (innerR c.2.1 ++ 32 :: (textV c.2.2.2.1 ++ 32 :: Lib.decDigits c.2.2.2.2.toNat)) else [63])
  else if c.1 = 3 then wUnmap ++ 32 :: innerR c.2.1
  else if c.1 = 4 then wShow else [63]
theorem textR_1 (q : Int × Int × Int × Int) (r : Int × Int × Int) : textR (1, q, r) = if 0 ≤ q.1 then wFlush ++ 32 :: Lib.decDigits q.1.toNat else [63] := by simp [textR]
theorem textR_2 (q : Int × Int × Int × Int) (r : Int × Int × Int) : textR (2, q, r) = if 0 ≤ r.2.2 then wMap ++ 32 :: (innerR q ++ 32 :: (textV r.2.1 ++ 32 :: Lib.decDigits r.2.2.toNat)) else [63] := by simp [textR]
theorem textR_3 (q : Int × Int × Int × Int) (r : Int × Int × Int) : textR (3, q, r) = wUnmap ++ 32 :: innerR q := by simp [textR]
theorem itoa_pos {n : Int} (h : 0 ≤ n) : Lib.itoa n = Lib.decDigits n.toNat := by
  unfold Lib.itoa
  rw [if_neg (by omega)]
theorem word_eq {p : Int} (h : p = 1 ∨ p = 6 ∨ p = 17) : wordR p = wordV p := by
  rcases h with rfl | rfl | rfl <;> rfl
theorem inner_eq {q : Int × Int × Int × Int} (h0 : 0 ≤ q.1) (h1 : 0 ≤ q.2.2.2) (h2 : q.2.1 = 1 ∨ q.2.1 = 6 ∨ q.2.1 = 17) : Lib.join (innerW q) [32] = innerR q := by
  unfold innerW innerR
  rw [if_neg (by omega), join2, join2, join2, Lib.join_one, itoa_pos h0, itoa_pos h1, word_eq h2]
  simp
theorem join_app (L M : List (List UInt8)) (hL : L ≠ []) (hM : M ≠ []) : Lib.join (L ++ M) [32] = Lib.join L [32] ++ 32 :: Lib.join M [32] := by
  induction L with
  | nil => exact absurd rfl hL
  | cons y r ih =>
    cases r with
    | nil => rw [Lib.join_one, List.cons_append, List.nil_append, join_ne _ _ hM]
    | cons z r =>
      rw [List.cons_append, join_ne _ _ (by simp), ih (by simp), join2]
      simp
theorem innerI_good {a b c d : List UInt8} {q : Nat × Nat × Nat × Nat} (h : innerL a b c d = some q) : 0 ≤ (innerI q).1 ∧ 0 ≤ (innerI q).2.2.2 ∧ ((innerI q).2.1 = 1 ∨ (innerI q).2.1 = 6 ∨ (innerI q).2.1 = 17) := by
  obtain ⟨n, p, x, y⟩ := q
  obtain ⟨_, h2, _, _⟩ := innerL_some h
  have := (proto_word h2).2
  refine ⟨by simp [innerI], by simp [innerI], ?_⟩
  simp only [innerI]
  omega
/-- Of a command that may be, the document's text is the program's. -/
theorem textR_eq {L : List (List UInt8)} {c : Cm} (h : parseC L = some c) : textR c = textC c := by
  unfold parseC at h
  split at h
  · split at h
    · injection h with h; subst h; rfl
    · cases h
  · split at h
    · rename_i a b e
      cases hn : numV b 63 with
      | none => rw [hn] at h; cases h
      | some n =>
        rw [hn] at h
        injection h with h
        subst h
        simp only
        unfold textC
        rw [textR_1, wordsC_1, if_pos (by simp), join2, Lib.join_one, itoa_pos (by simp)]
    · cases h
  · split at h
    · rename_i a b c d e ea
      cases hn : innerL b c d e with
      | none => rw [hn] at h; cases h
      | some q =>
        obtain ⟨g0, g1, g2⟩ := innerI_good hn
        rw [hn] at h
        injection h with h
        subst h
        simp only
        unfold textC
        rw [textR_3, wordsC_3, join_ne _ _ (by simp [innerW]), inner_eq g0 g1 g2]
    · cases h
  · split at h
    · rename_i a b c d e f g ea
      cases hn : innerL b c d e with
      | none => rw [hn] at h; cases h
      | some q =>
        obtain ⟨g0, g1, g2⟩ := innerI_good hn
        rw [hn] at h
        cases ho : outerL f g with
        | none => rw [ho] at h; cases h
        | some r =>
          rw [ho] at h
          injection h with h
          subst h
          simp only
          unfold textC
          rw [textR_2, wordsC_2]
          simp only
          rw [if_pos (by simp), join_ne _ _ (by simp [innerW]), join_app _ _ (by simp [innerW]) (by simp), inner_eq g0 g1 g2, join2, Lib.join_one, itoa_pos (by simp)]
    · cases h
  · cases h
/-- Whether a command may be. -/
def mayC (c : Cm) : Bool := decide (parseC (wordsC c) = some c)
/-- Both texts are read as the command just where it may be. -/
theorem own_may {s : List UInt8} {c : Cm} (h : parseC (piecesB [] s) = some c) : mayC c = true := by
  have e := parseC_words h
  unfold mayC
  rw [e, h]
  simp
theorem may_textR {c : Cm} (h : mayC c = true) : textR c = textC c := textR_eq (of_decide_eq_true h)
theorem may_parse {c : Cm} (h : mayC c = true) : parseC (piecesB [] (textC c)) = some c := by
  rw [textC_pieces]
  exact of_decide_eq_true h
end Go.Proofs.YtkbbkddepcjoaaaDoor
