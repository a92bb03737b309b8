/-
  slices.Clone of a slice of one-cell elements.
-/
import Derived.Test.YtfgcbpchapkjbaaRows
import Derived.Test.YtfgcbpchapkjbaaAppend
import Derived.WalkKit
import Derived.WalkSpells
import Derived.WalkLawsBesides
import Derived.Lib.Hide
namespace Go.Proofs.Ytfgcbpchapkjbaa
open Go.RowKit

/-- The result of a clone: a slice that reads as xs, in blocks of the call's own; nil just where the source is nil. -/
def Cloned (w : World) (A : Option Addr) (n : Nat) (xs : List Value) (e : Ending) (w' : World) : Prop :=
  ∃ A' c', e = .returned (.slice A' n c') ∧ Reads w' w'.heap.size 1 A' n xs ∧ Below w.heap.size w w' ∧ (∀ ad, A' = some ad → ∃ g, ad = ⟨g, 0, none⟩ ∧ w.heap.size ≤ g) ∧ (A = none ↔ A' = none)

theorem byte_info : (Try.prog.info? 5).map (fun i => (i.zero, i.size, i.bytes)) = some (some (.int .u8 0), 1, 1) := by kernel_rfl

theorem clone_end {w w1 : World} {e : TypeId} {v : Value} {n : Nat} {xs : List Value} {ad : Addr} (h : w1.ownsRow w.heap.size e 1 v n xs) (hv : v ≠ .slice none 0 0) (hb : Below w.heap.size w w1) :
    Cloned w (some ad) n xs (.returned v) w1 := by
  have hl := h.1
  rcases h.2 with ⟨h0, _⟩ | ⟨g, cap, cur, rfl, hg, hh, hn, hc, hs, ht⟩
  · exact absurd h0 hv
  · have hlt : g < w1.heap.size := by
      rcases Nat.lt_or_ge g w1.heap.size with h1 | h1
      · exact h1
      · rw [Array.getElem?_eq_none h1] at hh; cases hh
    exact ⟨_, _, rfl, Reads.of_blk hh (by simpa using ht) (by omega) hlt, hb, (fun a ha => ⟨g, by cases ha; rfl, hg⟩), by simp⟩


set_option maxHeartbeats 400000 in
theorem clone_bytes (A : Option Addr) (n c : Nat) (xs : List Value) (w : World) (hr : Reads w w.heap.size 1 A n xs) (h1 : ∀ u ∈ xs, u.oneCell' = true) (hn : n ≤ 1099511627776) (hA : A = none → n = 0) :
    Calls Try.prog 37 #[.slice A n c] w (Cloned w A n xs) := by
  obtain ⟨i0, hi0, hz0, hz1, hz2⟩ := info_parts byte_info
  rcases A with _ | ad
  · obtain rfl := hA rfl
    obtain rfl : xs = [] := List.eq_nil_of_length_eq_zero (by simpa using hr.1)
    have hnil := fun w : World => Lib.run_eql_slice_nil (P := Try.prog) w 22 5 none 0 c 0 0 Try.underlying22
    go_enter Try.func37, Try.ntmps37
    go_wp2
    go_ret
    exact ⟨none, 0, rfl, Reads.none_, Below.refl _ _, (fun _ h => nomatch h), Iff.rfl⟩
  · have hnil := fun w : World => Lib.run_eql_slice_nil (P := Try.prog) w 22 5 (some ad) n c 0 0 Try.underlying22
    have hown := World.ownsRow_made (base := w.heap.size) (e := 5) (size := 1) w #[] 0 (Nat.le_refl _) (by simp [maxLen]) rfl
    have hr2 := hr.alloc (Nat.le_refl _) (.cells #[] 5)
    go_enter Try.func37, Try.ntmps37
    go_wp2_with (first
      | (at_builtin
         refine wpList_append_any _ rfl (.tmp 5) (.tmp 6) _ rfl w.heap.size 5 i0 _ 1 1 Try.underlying22 hi0 hz0 hz1 hz2 rfl (by omega) (.slice (some ⟨w.heap.size, 0, none⟩) 0 0) 0 [] rfl
           hown w.heap.size (some ad) n c xs rfl hr2 h1 (by simp only [maxLen]; omega) (by omega) (by simp) ?_
         intro v1 w1 hown1 hg1 hat1))
    go_ret
    have hb1 : Below w.heap.size w w1 := ((Below.refl _ w).alloc (Nat.le_refl _) _).grown hg1 (by simp) (by simp [Value.ownBlock])
    rw [List.nil_append, Nat.zero_add] at hown1
    exact clone_end hown1 (by rintro rfl; rcases hat1 with h | h <;> simp [Value.ownBlock] at h) hb1
end Go.Proofs.Ytfgcbpchapkjbaa
