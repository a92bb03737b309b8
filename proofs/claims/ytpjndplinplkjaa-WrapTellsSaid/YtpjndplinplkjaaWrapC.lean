/-
  wrap: Unwrap and Wrap, of the program and of the document: the walks.
-/
import Derived.Test.YtpjndplinplkjaaWrapB
namespace Go.Proofs.Ytpjndplinplkjaa
open Go.RowKit

/-- Bytes of the call's own that read as xs. -/
theorem breads_of {A : Option Addr} {n : Nat} {xs : List Int} {A' : Option Addr} {w' : World} (h : Reads w' w'.heap.size 1 A' n (xs.map (Value.int .u8))) (hi : A = none ↔ A' = none) (hA : A = none → n = 0) : BReads w' A' n xs :=
  ⟨h, fun e => hA (hi.2 e)⟩

set_option maxHeartbeats 400000 in
/-- slices.Clone of bytes. -/
theorem clone_b (A : Option Addr) (n c : Nat) (xs : List Int) (w : World) (h : BReads w A n xs) (hn : n ≤ 1099511627776) :
    Calls Try.prog 17 #[.slice A n c] w fun e w' => ∃ A' c', e = .returned (.slice A' n c') ∧ BReads w' A' n xs ∧ Below w.heap.size w w' :=
  (clone_bytes A n c _ w h.1 (by intro u hu; obtain ⟨x, _, rfl⟩ := List.mem_map.1 hu; rfl) hn h.2).mono fun e w' ⟨A', c', h1, h2, h3, _, h5⟩ => ⟨A', c', h1, breads_of h2 h5 h.2, h3⟩

/-- What Unwrap hands back of a packet whose next header is x and whose data read xs. -/
def Unwrapped (w : World) (x : Int) (xs : List Int) (e : Ending) (w' : World) : Prop :=
  ∃ A' m c', e = .returned (.tuple #[.slice A' m c', .int .i64 (if x = 4 then 0 else 4)]) ∧ BReads w' A' m (if x = 4 then xs else []) ∧ Below w.heap.size w w'

set_option maxRecDepth 100000 in
set_option maxHeartbeats 1000000 in
theorem unwrap_any (t f x h : Int) (s d : Nat → Int) (A : Option Addr) (n c : Nat) (xs : List Int) (w : World) (hr : BReads w A n xs) (hn : n ≤ 1099511627776) :
    Calls Try.prog 8 #[.agg (six6 t f x h s d (.slice A n c))] w (Unwrapped w x xs) := by
  by_cases hx : x = 4
  · subst hx
    have b1 : Below w.heap.size w (w.alloc (.cells (six6 t f 4 h s d (.slice A n c)) 26)) := (Below.refl _ _).alloc (Nat.le_refl _) _
    have B1 := Lib.hid b1
    have HR := Lib.hid hr
    clear hr b1
    go_enter Try.func8, Try.ntmps8
    go_wp2_with fail
    refine (clone_b A n c xs _ (HR.out.below B1.out) hn).mono ?_
    rintro r w' ⟨A', c', rfl, h2, h3⟩
    go_wp2
    go_ret2
    exact ⟨A', n, c', rfl, h2, B1.out.trans (h3.mono (by simp))⟩
  · have hy := Lib.hid hx
    have e1 : (x != 4) = true := by simpa using hx
    go_enter Try.func8, Try.ntmps8
    go_wp2
    go_ret2
    exact ⟨none, 0, 0, by rw [if_neg hy.out]; rfl, by rw [if_neg hy.out]; exact ⟨Reads.none_, fun _ => rfl⟩, (Below.refl _ _).alloc (Nat.le_refl _) _⟩

/-- append onto nil of bytes. -/
theorem breads_own {w w1 : World} {t : TypeId} {v : Value} {n : Nat} {xs : List Int} (h : w1.ownsRow w.heap.size t 1 v n (xs.map (Value.int .u8))) : ∃ A' c', v = .slice A' n c' ∧ BReads w1 A' n xs := by
  rcases h.2 with ⟨h0, h1⟩ | ⟨g, cap, cur, rfl, hg, hh, hn, hc, hs, ht⟩
  · subst h0
    obtain rfl : n = 0 := by simpa using h1
    exact ⟨none, 0, rfl, Reads.of_own h, fun _ => rfl⟩
  · exact ⟨_, _, rfl, Reads.of_own h, fun e => by cases e⟩

set_option maxRecDepth 100000 in
set_option maxHeartbeats 1000000 in
theorem runwrap_any (t f x h : Int) (s d : Nat → Int) (A : Option Addr) (n c : Nat) (xs : List Int) (w : World) (hr : BReads w A n xs) (hn : n ≤ 1099511627776) :
    Calls Try.prog 9 #[.agg (six6 t f x h s d (.slice A n c))] w (Unwrapped w x xs) := by
  by_cases hx : x = 4
  · subst hx
    obtain ⟨i0, hi0, hz0, hz1, hz2⟩ := info_parts byte_info
    have b1 : Below w.heap.size w (w.alloc (.cells (six6 t f 4 h s d (.slice A n c)) 26)) := (Below.refl _ _).alloc (Nat.le_refl _) _
    have B1 := Lib.hid b1
    have HR := Lib.hid hr
    clear hr b1
    go_enter Try.func9, Try.ntmps9
    go_wp2_with (first
       | (at_builtin
          refine wpList_append_any _ rfl (.const (.slice none 0 0)) (.tmp 8) 24 rfl w.heap.size 5 i0 _ 1 1 Try.underlying24 hi0 hz0 hz1 hz2 rfl (by omega) (.slice none 0 0) 0 [] rfl
            (World.ownsRow_nil _ _ _ _) _ A n c (xs.map (Value.int .u8)) rfl (HR.out.below B1.out).1 (by intro u hu; obtain ⟨x, _, rfl⟩ := List.mem_map.1 hu; rfl) (by simp only [maxLen]; omega) (by omega) (by simp) ?_
          intro v1 w1 hown1 hg1 hat1))
    go_ret2
    rw [List.nil_append, Nat.zero_add] at hown1
    obtain ⟨A', c', rfl, hb⟩ := breads_own hown1
    exact ⟨A', n, c', rfl, hb, B1.out.grown hg1 (by simp) (by simp [Value.ownBlock])⟩
  · have hy := Lib.hid hx
    have e1 : (x != 4) = true := by simpa using hx
    go_enter Try.func9, Try.ntmps9
    go_wp2
    go_ret2
    exact ⟨none, 0, 0, by rw [if_neg hy.out]; rfl, by rw [if_neg hy.out]; exact ⟨Reads.none_, fun _ => rfl⟩, (Below.refl _ _).alloc (Nat.le_refl _) _⟩
end Go.Proofs.Ytpjndplinplkjaa
