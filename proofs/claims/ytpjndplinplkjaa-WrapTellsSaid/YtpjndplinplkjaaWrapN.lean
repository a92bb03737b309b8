/-
  wrap: the functions' contracts, the packets' cells as one term. (Printed by wip/gen/wrapN.py.)
-/
import Derived.Test.YtpjndplinplkjaaWrapM
import Derived.Test.YtpjndplinplkjaaWrapH
namespace Go.Proofs.Ytpjndplinplkjaa
open Go.RowKit Go.Great

theorem Blk.on {w w' : World} {g : Nat} {t : TypeId} {cs : Array Value} (h : Blk w g t cs) (hb : Below w.heap.size w w') : Blk w' g t cs := h.below hb h.lt

abbrev cells16 (s : Nat → Int) : Array Value := #[.int .u8 (s 0), .int .u8 (s 1), .int .u8 (s 2), .int .u8 (s 3), .int .u8 (s 4), .int .u8 (s 5), .int .u8 (s 6), .int .u8 (s 7), .int .u8 (s 8), .int .u8 (s 9), .int .u8 (s 10), .int .u8 (s 11), .int .u8 (s 12), .int .u8 (s 13), .int .u8 (s 14), .int .u8 (s 15)]

/-- What Wrap hands back of bytes that read xs. -/
def Wr6 (w : World) (h : Int) (s d : Nat → Int) (xs : List Int) (cs : Array Value) : Prop :=
  ∃ A m c, cs = (if chk h = 0 then wrapped h s d (.slice A m c) else none6) ∧ BReads w A m xs
theorem Wr6.on {w w' : World} {h : Int} {s d : Nat → Int} {xs : List Int} {cs : Array Value} (H : Wr6 w h s d xs cs) (hb : Below w.heap.size w w') : Wr6 w' h s d xs cs := by
  obtain ⟨A, m, c, e, hr⟩ := H
  exact ⟨A, m, c, e, hr.below hb⟩
theorem Wr6.size {w : World} {h : Int} {s d : Nat → Int} {xs : List Int} {cs : Array Value} (H : Wr6 w h s d xs cs) :
    (Try.prog.info? 26).map (·.size) = some cs.size ∧ none6.size = cs.size ∧ cs.all (·.oneCell') = true := by
  obtain ⟨A, m, c, e, hr⟩ := H
  by_cases hc : chk h = 0
  · rw [if_pos hc] at e
    exact size_of_wrapped e
  · rw [if_neg hc] at e
    subst e
    exact ⟨v6_size, rfl, by simp [Value.oneCell']⟩
theorem Wr6.same {w : World} {h : Int} {s d : Nat → Int} {xs : List Int} {c1 c2 : Array Value} (H1 : Wr6 w h s d xs c1) (H2 : Wr6 w h s d xs c2) :
    Calls Try.prog 12 #[.agg c1, .agg c2] w fun r w' => r = .returned (.bool true) ∧ Below w.heap.size w w' := by
  obtain ⟨A, m, c, e1, h1⟩ := H1
  obtain ⟨B, m', c', e2, h2⟩ := H2
  by_cases hc : chk h = 0
  · rw [if_pos hc] at e1 e2
    subst e1 e2
    exact same6_any 0 0 4 h s d A B m m' c c' xs w h1 h2
  · rw [if_neg hc] at e1 e2
    subst e1 e2
    exact same6_any 0 0 0 0 (fun _ => 0) (fun _ => 0) none none 0 0 0 0 [] w ⟨Reads.none_, fun _ => rfl⟩ ⟨Reads.none_, fun _ => rfl⟩
theorem Wrapped.wr6 {w w' : World} {h : Int} {s d : Nat → Int} {n : Nat} {xs : List Int} {e : Ending} (H : Wrapped w h s d n xs e w') :
    ∃ cs, e = .returned (.tuple #[.agg cs, .int .i64 (chk h)]) ∧ Wr6 w' h s d xs cs ∧ Below w.heap.size w w' := by
  obtain ⟨A, c, rfl, hr, hb⟩ := H
  exact ⟨_, rfl, ⟨A, n, c, rfl, hr⟩, hb⟩
theorem wrap_o {h : Int} {s d : Nat → Int} {c1 c2 : Array Value} {A : Option Addr} {n c : Nat} {xs : List Int} {w : World} (h1 : c1 = cells16 s) (h2 : c2 = cells16 d) (hr : BReads w A n xs) (hn : n ≤ 3000) (hh : h ≤ 9223372036854775807) :
    Calls Try.prog 6 #[.agg c1, .agg c2, .int .i64 h, .slice A n c] w fun e w' => ∃ cs, e = .returned (.tuple #[.agg cs, .int .i64 (chk h)]) ∧ Wr6 w' h s d xs cs ∧ Below w.heap.size w w' := by
  subst h1 h2
  exact (wrap_any h s d A n c xs w hr hn hh).mono fun _ _ H => H.wr6
theorem rwrap_o {h : Int} {s d : Nat → Int} {c1 c2 : Array Value} {A : Option Addr} {n c : Nat} {xs : List Int} {w : World} (h1 : c1 = cells16 s) (h2 : c2 = cells16 d) (hr : BReads w A n xs) (hn : n ≤ 3000) :
    Calls Try.prog 7 #[.agg c1, .agg c2, .int .i64 h, .slice A n c] w fun e w' => ∃ cs, e = .returned (.tuple #[.agg cs, .int .i64 (chk h)]) ∧ Wr6 w' h s d xs cs ∧ Below w.heap.size w w' := by
  subst h1 h2
  exact (rwrap_any h s d A n c xs w hr hn).mono fun _ _ H => H.wr6

/-- The number that Unwrap hands back. -/
def form (x : Int) : Int := if x = 4 then 0 else 4
def within (x : Int) (xs : List Int) : List Int := if x = 4 then xs else []
theorem unwrap_o {t f x h : Int} {s d : Nat → Int} {A : Option Addr} {n c : Nat} {xs : List Int} {w : World} {cs : Array Value} (e : cs = six6 t f x h s d (.slice A n c)) (hr : BReads w A n xs) (hn : n ≤ 1099511627776) :
    Calls Try.prog 8 #[.agg cs] w fun r w' => ∃ A' m c', r = .returned (.tuple #[.slice A' m c', .int .i64 (form x)]) ∧ BReads w' A' m (within x xs) ∧ Below w.heap.size w w' := by
  subst e
  exact (unwrap_any t f x h s d A n c xs w hr hn).mono fun _ _ H => H
theorem runwrap_o {t f x h : Int} {s d : Nat → Int} {A : Option Addr} {n c : Nat} {xs : List Int} {w : World} {cs : Array Value} (e : cs = six6 t f x h s d (.slice A n c)) (hr : BReads w A n xs) (hn : n ≤ 1099511627776) :
    Calls Try.prog 9 #[.agg cs] w fun r w' => ∃ A' m c', r = .returned (.tuple #[.slice A' m c', .int .i64 (form x)]) ∧ BReads w' A' m (within x xs) ∧ Below w.heap.size w w' := by
  subst e
  exact (runwrap_any t f x h s d A n c xs w hr hn).mono fun _ _ H => H

/-- What Hop hands back. -/
def Hp4 (w : World) (f : Nat → Int) (p q : Bool) (xs ys : List Int) (cs : Array Value) : Prop :=
  ∃ A n a B m b, cs = (if 1 < f 3 then cells4 (less f) p q (.slice A n a) (.slice B m b) else four4 0) ∧ BReads w A n xs ∧ BReads w B m ys
theorem Hp4.on {w w' : World} {f : Nat → Int} {p q : Bool} {xs ys : List Int} {cs : Array Value} (H : Hp4 w f p q xs ys cs) (hb : Below w.heap.size w w') : Hp4 w' f p q xs ys cs := by
  obtain ⟨A, n, a, B, m, b, e, h1, h2⟩ := H
  exact ⟨A, n, a, B, m, b, e, h1.below hb, h2.below hb⟩
theorem Hp4.size {w : World} {f : Nat → Int} {p q : Bool} {xs ys : List Int} {cs : Array Value} (H : Hp4 w f p q xs ys cs) :
    (Try.prog.info? 28).map (·.size) = some cs.size ∧ (four4 0).size = cs.size ∧ cs.all (·.oneCell') = true := by
  obtain ⟨A, n, a, B, m, b, e, h1, h2⟩ := H
  by_cases hc : 1 < f 3
  · rw [if_pos hc] at e
    subst e
    exact ⟨v4_size, rfl, one4 _ _ _ _ _ _ _ _ _⟩
  · rw [if_neg hc] at e
    subst e
    exact ⟨v4_size, rfl, by simp [Value.oneCell']⟩
theorem Hp4.same {w : World} {f : Nat → Int} {p q : Bool} {xs ys : List Int} {c1 c2 : Array Value} (H1 : Hp4 w f p q xs ys c1) (H2 : Hp4 w f p q xs ys c2) :
    Calls Try.prog 14 #[.agg c1, .agg c2] w fun r w' => r = .returned (.bool true) ∧ Below w.heap.size w w' := by
  obtain ⟨A, n, a, B, m, b, e1, h1, h2⟩ := H1
  obtain ⟨A', n', a', B', m', b', e2, h3, h4⟩ := H2
  by_cases hc : 1 < f 3
  · rw [if_pos hc] at e1 e2
    subst e1 e2
    exact same4_any (less f) p q A B A' B' n m n' m' a b a' b' xs ys w h1 h2 h3 h4
  · rw [if_neg hc] at e1 e2
    subst e1 e2
    have e : BReads w none 0 [] := ⟨Reads.none_, fun _ => rfl⟩
    exact same4_any (fun _ => 0) false false none none none none 0 0 0 0 0 0 0 0 [] [] w e e e e
theorem hop_o {f : Nat → Int} {p q : Bool} {A B : Option Addr} {n m a b : Nat} {xs ys : List Int} {w : World} {cs : Array Value} {ok : Bool} (e : cs = cells4 f p q (.slice A n a) (.slice B m b)) (hk : decide (1 < f 3) = ok)
    (h1 : BReads w A n xs) (h2 : BReads w B m ys) (hn : n ≤ 3000) (hm : m ≤ 3000) (ht2 : f 3 ≤ 9223372036854775807) :
    Calls Try.prog 10 #[.agg cs] w fun r w' => ∃ c, r = .returned (.tuple #[.agg c, .bool ok]) ∧ Hp4 w' f p q xs ys c ∧ Below w.heap.size w w' := by
  subst e hk
  by_cases ht : 1 < f 3
  · refine (hop_any f p q A B n m a b xs ys w h1 h2 hn hm ht ht2).mono ?_
    rintro r w' ⟨A', n', a', B', m', b', rfl, h3, h4, hb⟩
    exact ⟨_, by rw [decide_eq_true ht], ⟨A', n', a', B', m', b', by rw [if_pos ht], h3, h4⟩, hb⟩
  · refine (hop_done f p q A B n m a b w (by omega)).mono ?_
    rintro r w' ⟨rfl, hb⟩
    exact ⟨_, by rw [decide_eq_false ht], ⟨A, n, a, B, m, b, by rw [if_neg ht], h1.below hb, h2.below hb⟩, hb⟩
theorem rhop_o {f : Nat → Int} {p q : Bool} {A B : Option Addr} {n m a b : Nat} {xs ys : List Int} {w : World} {cs : Array Value} {ok : Bool} (e : cs = cells4 f p q (.slice A n a) (.slice B m b)) (hk : decide (1 < f 3) = ok)
    (h1 : BReads w A n xs) (h2 : BReads w B m ys) (hn : n ≤ 3000) (hm : m ≤ 3000) (ht2 : f 3 ≤ 9223372036854775807) :
    Calls Try.prog 11 #[.agg cs] w fun r w' => ∃ c, r = .returned (.tuple #[.agg c, .bool ok]) ∧ Hp4 w' f p q xs ys c ∧ Below w.heap.size w w' := by
  subst e hk
  by_cases ht : 1 < f 3
  · refine (rhop_any f p q A B n m a b xs ys w h1 h2 hn hm ht ht2).mono ?_
    rintro r w' ⟨A', n', a', B', m', b', rfl, h3, h4, hb⟩
    exact ⟨_, by rw [decide_eq_true ht], ⟨A', n', a', B', m', b', by rw [if_pos ht], h3, h4⟩, hb⟩
  · refine (rhop_done f p q A B n m a b w (by omega)).mono ?_
    rintro r w' ⟨rfl, hb⟩
    exact ⟨_, by rw [decide_eq_false ht], ⟨A, n, a, B, m, b, by rw [if_neg ht], h1.below hb, h2.below hb⟩, hb⟩
end Go.Proofs.Ytpjndplinplkjaa
