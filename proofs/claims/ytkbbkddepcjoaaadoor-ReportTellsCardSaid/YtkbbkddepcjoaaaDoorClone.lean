/-
  slices.Clone of a slice of one-cell elements.
-/
import Derived.Test.YtkbbkddepcjoaaaDoorRows
import Derived.Test.YtkbbkddepcjoaaaDoorAppend
import Derived.WalkKit
import Derived.WalkSpells
import Derived.WalkLawsBesides
import Derived.Lib.Hide
namespace Go.Proofs.YtkbbkddepcjoaaaDoor
open Go.RowKit

/-- The result of a clone: a slice that reads as xs, in blocks of the call's own; nil just where the source is nil. -/
def Cloned (w : World) (A : Option Addr) (n : Nat) (xs : List Value) (e : Ending) (w' : World) : Prop :=
  ∃ A' c', e = .returned (.slice A' n c') ∧ Reads w' w'.heap.size 1 A' n xs ∧ Below w.heap.size w w' ∧ (∀ ad, A' = some ad → ∃ g, ad = ⟨g, 0, none⟩ ∧ w.heap.size ≤ g) ∧ (A = none ↔ A' = none)


theorem clone_end {w w1 : World} {e : TypeId} {v : Value} {n : Nat} {xs : List Value} {ad : Addr} (h : w1.ownsRow w.heap.size e 1 v n xs) (hv : v ≠ .slice none 0 0) (hb : Below w.heap.size w w1) :
    Cloned w (some ad) n xs (.returned v) w1 := by
  have hl := h.1
  rcases h.2 with ⟨h0, _⟩ | ⟨g, cap, cur, rfl, hg, hh, hn, hc, hs, ht⟩
  · exact absurd h0 hv
  · have hlt : g < w1.heap.size := by
      rcases Nat.lt_or_ge g w1.heap.size with h1 | h1
      · exact h1
      · rw [Array.getElem?_eq_none h1] at hh; cases hh
    exact ⟨_, _, rfl, Reads.of_blk hh (by simpa using ht) (by omega) hlt, hb, (fun a ha => ⟨g, by cases ha; rfl, hg⟩), by simp⟩


end Go.Proofs.YtkbbkddepcjoaaaDoor
