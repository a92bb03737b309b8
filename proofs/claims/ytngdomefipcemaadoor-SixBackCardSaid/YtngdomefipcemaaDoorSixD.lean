/-
  six: trailing zeros of 16 (one cell of the table math/bits.deBruijn64tab).
-/
import Derived.Test.YtngdomefipcemaaDoorSixC
import Derived.Laws.Bits64b
namespace Go.Proofs.YtngdomefipcemaaDoor
open Go.RowKit

/-- The table's fifteenth cell. -/
def Deb (w : World) : Prop := w.cell? ⟨5, 15, none⟩ = some (.int .u8 4)
theorem deb_below {w w' : World} (h : Deb w) (hb : Below w.heap.size w w') : Deb w' :=
  (hb.cell (p := ⟨5, 15, none⟩) (World.block_lt_of_cell? w _ h)).trans h

set_option maxRecDepth 100000 in
theorem tz64_16 (w : World) (h : Deb w) : Calls Tryd.prog 79 #[.int .u64 16] w fun r w' => r = .returned (.int .i64 4) ∧ w = w' := by
  unfold Deb at h
  have h1 : IntKind.u64.wrap (bits .and .u64 16 (IntKind.u64.wrap (-16)) * 285870213051353865) / 288230376151711744 = 15 := by decide +kernel
  go_enter Tryd.func79, Tryd.ntmps79
  go_wp2
  go_ret
  exact ⟨rfl, rfl⟩
set_option maxRecDepth 100000 in
theorem tz_16 (w : World) (h : Deb w) : Calls Tryd.prog 72 #[.int .u64 16] w fun r w' => r = .returned (.int .i64 4) ∧ w = w' := by
  go_enter Tryd.func72, Tryd.ntmps72
  go_wp2_with fail
  refine (tz64_16 w h).mono ?_
  rintro r w' ⟨rfl, rfl⟩
  go_wp2
  go_ret
  exact ⟨rfl, rfl⟩
set_option maxRecDepth 100000 in
theorem pow_16 (w : World) : Calls Tryd.prog 71 #[.int .i64 16] w fun r w' => r = .returned (.bool true) ∧ w = w' := by
  have h1 : bits .and .i64 16 15 = 0 := by decide +kernel
  go_enter Tryd.func71, Tryd.ntmps71
  go_wp2
  go_ret
  exact ⟨rfl, rfl⟩
end Go.Proofs.YtngdomefipcemaaDoor
