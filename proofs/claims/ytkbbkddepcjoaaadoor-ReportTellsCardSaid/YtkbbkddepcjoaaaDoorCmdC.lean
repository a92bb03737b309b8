/-
  report: bindings, sessions and lines in words. No program in sight.
-/
import Derived.Test.YtkbbkddepcjoaaaDoorCmdB
namespace Go.Proofs.YtkbbkddepcjoaaaDoor

def wBound : List UInt8 := [98, 111, 117, 110, 100]
def wStatic : List UInt8 := [115, 116, 97, 116, 105, 99]
def wAs : List UInt8 := [97, 115]
def wSession : List UInt8 := [115, 101, 115, 115, 105, 111, 110]
def wNow : List UInt8 := [110, 111, 119]
def wDrop : List UInt8 := [100, 114, 111, 112]
/-- A protocol's word, or its number. -/
def protoW (p : Int) : List UInt8 := if p = 1 then wIcmp else if p = 6 then wTcp else if p = 17 then wUdp else Lib.itoa p
theorem protoW_good {p : Int} (h : p = 1 ∨ p = 6 ∨ p = 17) : protoW p = wordV p := by
  rcases h with rfl | rfl | rfl <;> rfl
theorem protoW_free (p : Int) : (32 : UInt8) ∉ protoW p := by
  unfold protoW
  split
  · decide
  · split
    · decide
    · split
      · decide
      · exact itoa_free _
theorem protoW_len {p : Int} (h0 : -9223372036854775808 ≤ p) (h1 : p ≤ 9223372036854775807) : (protoW p).length ≤ 20 := by
  unfold protoW
  split
  · decide
  · split
    · decide
    · split
      · decide
      · exact itoa_len h0 h1

abbrev Bd := (Int × Int × Int × Int) × (Int × Int × Int) × Bool
def zeroB : Bd := ((0, 0, 0, 0), (0, 0, 0), false)
def firstW (st : Bool) : List UInt8 := if st then wStatic else wBound
def wordsB (b : Bd) : List (List UInt8) := [firstW b.2.2, Lib.itoa b.1.1, protoW b.1.2.1, textV b.1.2.2.1, Lib.itoa b.1.2.2.2, wAs, textV b.2.1.2.1, Lib.itoa b.2.1.2.2]
def bindT (b : Bd) : List UInt8 := Lib.join (wordsB b) [32]
def parseBd : List (List UInt8) → Option Bd
  | [a, b, c, d, e, f, g, h] => if (a = wBound ∨ a = wStatic) ∧ f = wAs then (innerL b c d e).bind fun q => (outerL g h).map fun r => (innerI q, ((q.2.1 : Int), (r.1 : Int), (r.2 : Int)), decide (a = wStatic)) else none
  | _ => none
theorem firstW_free (st : Bool) : (32 : UInt8) ∉ firstW st := by cases st <;> decide
theorem wordsB_free (b : Bd) : ∀ x ∈ wordsB b, (32 : UInt8) ∉ x := by
  intro x hx
  simp only [wordsB, List.mem_cons, List.not_mem_nil, or_false] at hx
  rcases hx with rfl | rfl | rfl | rfl | rfl | rfl | rfl | rfl
  · exact firstW_free _
  · exact itoa_free _
  · exact protoW_free _
  · exact textV_free _
  · exact itoa_free _
  · decide
  · exact textV_free _
  · exact itoa_free _
theorem bindT_pieces (b : Bd) : piecesB [] (bindT b) = wordsB b := piecesB_join _ (by simp [wordsB]) (wordsB_free b)
theorem parseBd_words {L : List (List UInt8)} {x : Bd} (hp : parseBd L = some x) : wordsB x = L := by
  unfold parseBd at hp
  split at hp
  · split at hp
    · rename_i a b c d e f g h hc
      cases hn : innerL b c d e with
      | none => rw [hn] at hp; cases hp
      | some q =>
        obtain ⟨n, p, x', y⟩ := q
        rw [hn] at hp
        cases ho : outerL g h with
        | none => rw [ho] at hp; cases hp
        | some r =>
          obtain ⟨u, v⟩ := r
          rw [ho] at hp
          injection hp with hp
          subst hp
          obtain ⟨h1, h2⟩ := outerL_some ho
          obtain ⟨g1, g2, g3, g4⟩ := innerL_some hn
          have hpw : protoW (p : Int) = c := by
            rw [protoW_good (by have := (proto_word g2).2; omega), ← (proto_word g2).1]
          have hf : firstW (decide (a = wStatic)) = a := by
            rcases hc.1 with e | e
            · subst e; rfl
            · subst e; rfl
          unfold wordsB innerI
          simp only
          rw [hf, ← num_itoa_eq g1, hpw, ← textV_parse g3, ← num_itoa_eq g4, ← hc.2, ← textV_parse h1, ← num_itoa_eq h2]
    · cases hp
  · cases hp
theorem parse_bindT {s : List UInt8} {x : Bd} (h : parseBd (piecesB [] s) = some x) : s = bindT x := by
  have := parseBd_words h
  unfold bindT
  rw [this, join_piecesB]
  rfl
def mayB (sw ad po ad2 po2 : Int) : Bool := decide (0 ≤ sw ∧ sw < 64 ∧ 0 ≤ ad ∧ ad < 4294967296 ∧ 0 ≤ po ∧ po ≤ 65535 ∧ 0 ≤ ad2 ∧ ad2 < 4294967296 ∧ 0 ≤ po2 ∧ po2 ≤ 65535)
theorem parseBd_back (sw pr ad po ad2 po2 : Int) (st : Bool) (hp : pr = 1 ∨ pr = 6 ∨ pr = 17) :
    parseBd (wordsB ((sw, pr, ad, po), (pr, ad2, po2), st)) = if mayB sw ad po ad2 po2 then some ((sw, pr, ad, po), (pr, ad2, po2), st) else none := by
  have hf : (firstW st = wBound ∨ firstW st = wStatic) ∧ True := ⟨by cases st; exact .inl rfl; exact .inr rfl, trivial⟩
  have hst : decide (firstW st = wStatic) = st := by cases st <;> decide
  unfold parseBd wordsB
  simp only
  rw [if_pos hf, hst, protoW_good hp]
  obtain ⟨P, hP, hw⟩ : ∃ P : Nat, pr = P ∧ protoV (wordV pr) = some P := by
    rcases hp with rfl | rfl | rfl
    · exact ⟨1, rfl, rfl⟩
    · exact ⟨6, rfl, rfl⟩
    · exact ⟨17, rfl, rfl⟩
  by_cases hm : mayB sw ad po ad2 po2 = true
  · rw [if_pos hm]
    obtain ⟨a1, a2, a3, a4, a5, a6, a7, a8, a9, a10⟩ := of_decide_eq_true hm
    rw [innerL_of (num_itoa a1 (by omega) (by omega)) hw (parse_right a3 a4) (num_itoa a5 (by omega) a6), outerL_of (parse_right a7 a8) (num_itoa a9 (by omega) a10)]
    simp only [Option.bind_some, Option.map_some, innerI]
    rw [Int.toNat_of_nonneg a1, Int.toNat_of_nonneg a3, Int.toNat_of_nonneg a5, Int.toNat_of_nonneg a7, Int.toNat_of_nonneg a9, ← hP]
  · rw [if_neg hm]
    have hm' := hm
    unfold mayB at hm'
    rw [decide_eq_true_eq] at hm'
    by_cases h1 : 0 ≤ sw ∧ sw ≤ 63
    · by_cases h2 : 0 ≤ ad ∧ ad < 4294967296
      · by_cases h3 : 0 ≤ po ∧ po ≤ 65535
        · have ho : outerL (textV ad2) (Lib.itoa po2) = none := by
            apply outerL_none
            by_cases h4 : 0 ≤ ad2 ∧ ad2 < 4294967296
            · right
              exact num_big (fun h5 => hm' (by omega))
            · left
              exact parse_wrong h4
          rw [ho]
          cases innerL (Lib.itoa sw) (wordV pr) (textV ad) (Lib.itoa po) <;> rfl
        · rw [innerL_none (.inr (.inr (.inr (num_big h3))))]; rfl
      · rw [innerL_none (.inr (.inr (.inl (parse_wrong h2))))]; rfl
    · rw [innerL_none (.inl (num_big h1))]; rfl
theorem join_len : ∀ (L : List (List UInt8)) (N : Nat), (∀ x ∈ L, x.length ≤ N) → (Lib.join L [32]).length ≤ L.length * (N + 1)
  | [], _, _ => by simp [Lib.join_nil]
  | [x], N, h => by
    rw [Lib.join_one]
    have := h x (by simp)
    simp
    omega
  | x :: y :: r, N, h => by
    rw [join2]
    have h1 := h x (by simp)
    have h2 := join_len (y :: r) N (fun z hz => h z (by simp [hz]))
    simp only [List.length_append, List.length_cons] at h2 ⊢
    have e : (r.length + 1 + 1) * (N + 1) = (r.length + 1) * (N + 1) + (N + 1) := by rw [Nat.add_mul (r.length + 1) 1]; omega
    omega
theorem i64_le {n : Int} (h : IntKind.i64.has n) : -9223372036854775808 ≤ n ∧ n ≤ 9223372036854775807 := h
theorem bindT_len (sw pr ad po p2 ad2 po2 : Int) (st : Bool) (h1 : IntKind.i64.has sw) (h2 : IntKind.i64.has pr) (h3 : IntKind.i64.has po) (h4 : IntKind.i64.has po2) : (bindT ((sw, pr, ad, po), (p2, ad2, po2), st)).length ≤ 168 := by
  have := join_len (wordsB ((sw, pr, ad, po), (p2, ad2, po2), st)) 20 (fun x hx => by
    simp only [wordsB, List.mem_cons, List.not_mem_nil, or_false] at hx
    rcases hx with rfl | rfl | rfl | rfl | rfl | rfl | rfl | rfl
    · cases st <;> decide
    · exact itoa_len (i64_le h1).1 (i64_le h1).2
    · exact protoW_len (i64_le h2).1 (i64_le h2).2
    · have := textV_len ad; omega
    · exact itoa_len (i64_le h3).1 (i64_le h3).2
    · decide
    · have := textV_len ad2; omega
    · exact itoa_len (i64_le h4).1 (i64_le h4).2)
  exact this

/-! Sessions, lines, counts. -/
abbrev Ss := Int × Int × Int × Int × Int
def wordsS (s : Ss) : List (List UInt8) := [wSession, Lib.itoa s.1, Lib.itoa s.2.1, textV s.2.2.2.1, Lib.itoa s.2.2.2.2, Lib.itoa s.2.2.1]
def sessT (s : Ss) : List UInt8 := Lib.join (wordsS s) [32]
theorem sessT_len (s : Ss) (h1 : IntKind.i64.has s.1) (h2 : IntKind.i64.has s.2.1) (h3 : IntKind.i64.has s.2.2.2.2) (h4 : IntKind.i64.has s.2.2.1) : (sessT s).length ≤ 126 := by
  exact join_len (wordsS s) 20 (fun x hx => by
    simp only [wordsS, List.mem_cons, List.not_mem_nil, or_false] at hx
    rcases hx with rfl | rfl | rfl | rfl | rfl | rfl
    · decide
    · exact itoa_len (i64_le h1).1 (i64_le h1).2
    · exact itoa_len (i64_le h2).1 (i64_le h2).2
    · have := textV_len s.2.2.2.1; omega
    · exact itoa_len (i64_le h3).1 (i64_le h3).2
    · exact itoa_len (i64_le h4).1 (i64_le h4).2)
def nameL : List (List UInt8) := [[], [102, 111, 114, 109], [115, 111, 117, 114, 99, 101], [116, 116, 108], [112, 114, 111, 116, 111], [113, 117, 111, 116, 97], [102, 117, 108, 108], [112, 111, 111, 108], [115, 116, 97, 116, 101], [98, 105, 110, 100, 105, 110, 103], [102, 105, 108, 116, 101, 114], [108, 111, 110, 103], [111, 118, 101, 114, 108, 97, 112], [119, 97, 121]]
def nameV (n : Nat) : List UInt8 := nameL.getD n []
def dropT (k : Nat) (n : Int) : List UInt8 := Lib.join [wDrop, nameV k, Lib.itoa n] [32]
def nowT (n : Int) : List UInt8 := Lib.join [wNow, Lib.itoa n] [32]
/-- The lines of what was dropped: of the k-th reason on, of those below 14 of which there are any. -/
def dropsT : Nat → List Int → List (List UInt8)
  | _, [] => []
  | k, n :: r => if 14 ≤ k then [] else if 1 ≤ k ∧ 0 < n then dropT k n :: dropsT (k + 1) r else dropsT (k + 1) r
def linesT (now : Int) (bs : List Bd) (ss : List Ss) (cs : List Int) : List (List UInt8) := nowT now :: (bs.map bindT ++ ss.map sessT ++ dropsT 0 cs)

def hitV (w s : List UInt8) : Bool := decide (s = w) || (w ++ [32]).isPrefixOf s
def countV (w : List UInt8) (L : List (List UInt8)) : Nat := L.countP (hitV w)
theorem hit_line {w f r : List UInt8} (hw : (32 : UInt8) ∉ w) (hf : (32 : UInt8) ∉ f) : hitV w (f ++ 32 :: r) = decide (f = w) := by
  unfold hitV
  have h1 : decide (f ++ 32 :: r = w) = false := by
    apply decide_eq_false
    intro e
    exact hw (e ▸ by simp)
  rw [h1, Bool.false_or]
  by_cases h : f = w
  · subst h
    rw [decide_eq_true rfl, List.isPrefixOf_iff_prefix]
    exact ⟨r, by simp⟩
  · rw [decide_eq_false h]
    rw [Bool.eq_false_iff]
    intro hp
    rw [List.isPrefixOf_iff_prefix] at hp
    obtain ⟨t, ht⟩ := hp
    apply h
    have e1 := piecesB_free f [] (32 :: r) hf
    have e2 := piecesB_free w [] (32 :: t) hw
    rw [show f ++ 32 :: r = w ++ 32 :: t by rw [← ht]; simp, e2] at e1
    rw [piecesB, if_pos rfl, piecesB, if_pos rfl] at e1
    injection e1 with e1 _
    simpa using e1.symm
theorem hit_bind (w : List UInt8) (hw : (32 : UInt8) ∉ w) (b : Bd) : hitV w (bindT b) = decide (firstW b.2.2 = w) := by
  unfold bindT wordsB
  rw [join2]
  exact hit_line hw (firstW_free _)
theorem hit_sess (w : List UInt8) (hw : (32 : UInt8) ∉ w) (s : Ss) : hitV w (sessT s) = decide (wSession = w) := by
  unfold sessT wordsS
  rw [join2]
  exact hit_line hw (by decide)
theorem hit_now (w : List UInt8) (hw : (32 : UInt8) ∉ w) (n : Int) : hitV w (nowT n) = decide (wNow = w) := by
  unfold nowT
  rw [join2]
  exact hit_line hw (by decide)
theorem hit_drop (w : List UInt8) (hw : (32 : UInt8) ∉ w) (k : Nat) (n : Int) : hitV w (dropT k n) = decide (wDrop = w) := by
  unfold dropT
  rw [join2]
  exact hit_line hw (by decide)
theorem count_drops (w : List UInt8) (hw : (32 : UInt8) ∉ w) (hd : wDrop ≠ w) : ∀ (k : Nat) (cs : List Int), (dropsT k cs).countP (hitV w) = 0
  | _, [] => rfl
  | k, n :: r => by
    unfold dropsT
    split
    · rfl
    · split
      · rw [List.countP_cons_of_neg (by rw [hit_drop w hw]; simpa using hd), count_drops w hw hd (k + 1) r]
      · exact count_drops w hw hd (k + 1) r
theorem countP_all {α : Type} (p : α → Bool) (L : List α) (h : ∀ x ∈ L, p x = true) : L.countP p = L.length := List.countP_eq_length.2 h
theorem countP_none {α : Type} (p : α → Bool) (L : List α) (h : ∀ x ∈ L, p x = false) : L.countP p = 0 := List.countP_eq_zero.2 (fun x hx => by rw [h x hx]; simp)
theorem count_bound (now : Int) (bs : List Bd) (ss : List Ss) (cs : List Int) : countV wBound (linesT now bs ss cs) + countV wStatic (linesT now bs ss cs) = bs.length := by
  unfold countV linesT
  rw [List.countP_cons_of_neg (by rw [hit_now _ (by decide)]; decide), List.countP_cons_of_neg (by rw [hit_now _ (by decide)]; decide)]
  simp only [List.countP_append]
  rw [count_drops _ (by decide) (by decide), count_drops _ (by decide) (by decide)]
  rw [countP_none (hitV wBound) (ss.map sessT) (by intro x hx; obtain ⟨s, _, rfl⟩ := List.mem_map.1 hx; rw [hit_sess _ (by decide)]; decide)]
  rw [countP_none (hitV wStatic) (ss.map sessT) (by intro x hx; obtain ⟨s, _, rfl⟩ := List.mem_map.1 hx; rw [hit_sess _ (by decide)]; decide)]
  simp only [Nat.add_zero]
  induction bs with
  | nil => rfl
  | cons b r ih =>
    obtain ⟨b1, b2, st⟩ := b
    simp only [List.map_cons, List.length_cons]
    cases st
    · rw [List.countP_cons_of_pos (by rw [hit_bind _ (by decide)]; exact (by decide : decide (firstW false = wBound) = true)), List.countP_cons_of_neg (by rw [hit_bind _ (by decide)]; exact (by decide : ¬ decide (firstW false = wStatic) = true))]
      omega
    · rw [List.countP_cons_of_neg (by rw [hit_bind _ (by decide)]; exact (by decide : ¬ decide (firstW true = wBound) = true)), List.countP_cons_of_pos (by rw [hit_bind _ (by decide)]; exact (by decide : decide (firstW true = wStatic) = true))]
      omega
theorem count_session (now : Int) (bs : List Bd) (ss : List Ss) (cs : List Int) : countV wSession (linesT now bs ss cs) = ss.length := by
  unfold countV linesT
  rw [List.countP_cons_of_neg (by rw [hit_now _ (by decide)]; decide)]
  simp only [List.countP_append]
  rw [count_drops _ (by decide) (by decide)]
  rw [countP_none (hitV wSession) (bs.map bindT) (by intro x hx; obtain ⟨b, _, rfl⟩ := List.mem_map.1 hx; rw [hit_bind _ (by decide)]; obtain ⟨b1, b2, st⟩ := b; exact (by cases st <;> decide : decide (firstW st = wSession) = false))]
  rw [countP_all (hitV wSession) (ss.map sessT) (by intro x hx; obtain ⟨s, _, rfl⟩ := List.mem_map.1 hx; rw [hit_sess _ (by decide)]; decide)]
  simp
theorem count_now (now : Int) (bs : List Bd) (ss : List Ss) (cs : List Int) : countV wNow (linesT now bs ss cs) = 1 := by
  unfold countV linesT
  rw [List.countP_cons_of_pos (by rw [hit_now _ (by decide)]; decide)]
  simp only [List.countP_append]
  rw [count_drops _ (by decide) (by decide)]
  rw [countP_none (hitV wNow) (bs.map bindT) (by intro x hx; obtain ⟨b, _, rfl⟩ := List.mem_map.1 hx; rw [hit_bind _ (by decide)]; obtain ⟨b1, b2, st⟩ := b; exact (by cases st <;> decide : decide (firstW st = wNow) = false))]
  rw [countP_none (hitV wNow) (ss.map sessT) (by intro x hx; obtain ⟨s, _, rfl⟩ := List.mem_map.1 hx; rw [hit_sess _ (by decide)]; decide)]
end Go.Proofs.YtkbbkddepcjoaaaDoor
