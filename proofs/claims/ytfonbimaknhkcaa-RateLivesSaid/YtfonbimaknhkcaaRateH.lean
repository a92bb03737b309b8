/-
  A slice of calls that came in, opened.
-/
import Derived.Test.YtfonbimaknhkcaaRateG
import Derived.Deep.SlicePairs
namespace Go.Proofs.Ytfonbimaknhkcaa
open Go.RowKit Go.ChangeShapes Go.WideShapes Go.Deep

theorem addr_off (b off i : Nat) : (⟨b, off, none⟩ : Addr).add i = ⟨b, off + i, none⟩ := by
  unfold Addr.add
  split
  · rename_i h; subst h; rfl
  · rfl

theorem doRow_of {H : Type} {enc : TypeId × Value → H} {w : World} {base : Nat} {spare : Nat → Bool} {held : Bool} {a : Option Addr} {len cap : Nat} {d : DataW H} {p : List MemPlace}
    (h : DataW.Trod enc Try.prog w base spare held 22 (.slice a len cap) d p) : DoRow w a len := by
  obtain ⟨fuel, hf⟩ := h
  rcases open_slice_pairs Try.underlying22 Try.underlying31 (by kernel_rfl) rfl rfl (by kernel_rfl) (by kernel_rfl) hf with ⟨hcs, _⟩ | ⟨x, l, c, m, n, V0, V1, D0, D1, P0, P1, hcs, _, hl, hm, hmm, _, hi⟩
  · simp [Value.cells] at hcs
    obtain ⟨rfl, rfl, rfl⟩ := hcs
    exact ⟨by omega, fun i hi => absurd hi (by omega)⟩
  · simp [Value.cells] at hcs
    obtain ⟨rfl, rfl, rfl⟩ := hcs
    unfold maxLen at hm
    have hlm : len ≤ m := by rw [hmm]; split <;> omega
    refine ⟨by omega, fun i hil => ?_⟩
    obtain ⟨bx, off, spot⟩ := x
    have hspot : spot = none := by simpa [Addr.add] using World.cell?_spot (hi 0 (by omega)).1
    subst hspot
    obtain ⟨g1, g2, t1, t2⟩ := hi i (by omega)
    rw [addr_off] at g1 g2
    obtain ⟨y0, e0, _, _⟩ := DataW.trod_int Try.underlying3 t1
    obtain ⟨y1, e1, _, _⟩ := DataW.trod_int Try.underlying3 t2
    simp at e0 e1
    subst_vars
    rw [e0] at g1
    rw [e1] at g2
    exact ⟨bx, off, y0, y1, rfl, World.block_lt_of_cell? w _ g1, g1, g2⟩
theorem lives_walk (e m : Int) (a : Option Addr) (len cap : Nat) (w : World) (hr : DoRow w a len) :
    Calls Try.prog 3 #[.int .i64 e, .int .i64 m, .slice a len cap] w fun r w' => r = .returned (.bool true) ∧ Below w.heap.size w w' := by
  by_cases h : OkNum e ∧ OkNum m
  · exact lives_yes e m a len cap w h.1 h.2 hr
  · exact lives_no e m a len cap w h hr
end Go.Proofs.Ytfonbimaknhkcaa
