/-
  RateLives: the walk.
-/
import Derived.Test.YtfonbimaknhkcaaRateE
import Derived.Deep.Slices
import Derived.Deep.Fields
namespace Go.Proofs.Ytfonbimaknhkcaa
open Go.RowKit Go.ChangeShapes Go.WideShapes Go.Deep

theorem only_cell {a w : World} {g : Nat} (h : a.grownBy w (some g)) (p : Addr) (hp : p.block < a.heap.size) (hne : p.block ≠ g) : w.cell? p = a.cell? p :=
  World.cell?_of_block (h.block p.block hp (fun e => hne (by injection e)))

/-- A slice of calls that came in: at each index below the length its two cells. -/
def DoRow (w : World) (a : Option Addr) (len : Nat) : Prop :=
  len ≤ 9223372036854775807 ∧ ∀ i, i < len → ∃ b off x y, a = some ⟨b, off, none⟩ ∧ b < w.heap.size ∧ w.cell? ⟨b, off + i * 2, none⟩ = some (.int .i64 x) ∧ w.cell? ⟨b, off + i * 2 + 1, none⟩ = some (.int .i64 y)

theorem DoRow.at_ {w : World} {a : Option Addr} {len : Nat} (h : DoRow w a len) {w' : World} (hb : Below w.heap.size w w') {i : Nat} (hi : i < len) :
    ∃ b off x y, a = some ⟨b, off, none⟩ ∧ b < w.heap.size ∧ w'.cell? ⟨b, off + i * 2, none⟩ = some (.int .i64 x) ∧ w'.cell? ⟨b, off + i * 2 + 1, none⟩ = some (.int .i64 y) := by
  obtain ⟨b, off, x, y, h1, h2, h3, h4⟩ := h.2 i hi
  exact ⟨b, off, x, y, h1, h2, (hb.cell (p := ⟨b, off + i * 2, none⟩) h2).trans h3, (hb.cell (p := ⟨b, off + i * 2 + 1, none⟩) h2).trans h4⟩

theorem Bd.taken {e m L N : Int} (h : Bd e m L N) : Bd e m (takenOf L) N := by
  obtain ⟨h1, h2, h3, h4, h5, h6, h7, h8⟩ := h
  refine ⟨h1, h2, ?_, ?_, h5, h6, h7, h8⟩ <;> unfold takenOf <;> split <;> omega

def LRel (w : World) (g g2 : Nat) (e m : Int) (wr : World) : Prop := ∃ l n, Blk wr g 42 (B4 e m l n) ∧ Blk wr g2 44 (B4 e m l n) ∧ Bd e m l n ∧ Below w.heap.size w wr

set_option maxHeartbeats 1000000 in
theorem lives_no (e m : Int) (a : Option Addr) (len cap : Nat) (w : World) (hno : ¬ (OkNum e ∧ OkNum m)) (hr : DoRow w a len) :
    Calls Try.prog 3 #[.int .i64 e, .int .i64 m, .slice a len cap] w fun r w' => r = .returned (.bool true) ∧ Below w.heap.size w w' := by
  have hl0 := hr.1
  go_enter Try.func3, Try.ntmps3
  go_wp2_with fail
  refine (new_no e m _ hno).mono ?_
  rintro r w1 ⟨rfl, rfl⟩
  go_wp2_with fail
  refine (rnew_no e m _ hno).mono ?_
  rintro r w1 ⟨rfl, rfl⟩
  go_wp2_with fail
  go_loopw [38] (fun i wr => i = .int .i64 0 ∧ wr = w) (fun _ _ => 0)
  case atStart => exact ⟨rfl, rfl⟩
  case round =>
    obtain ⟨rfl, rfl⟩ := hrel
    by_cases hlt : 0 < len
    · obtain ⟨b, off, x, y, rfl, hbk, hx, hy⟩ := hr.at_ (Below.refl _ _) hlt
      simp only [Nat.zero_mul, Nat.add_zero] at hx hy
      go_wp2_with fail
      refine (awake_any _).mono ?_
      rintro r w2 ⟨rfl, hb2⟩
      go_wp2
      go_ret
      exact ⟨rfl, (((Below.refl _ _).alloc (Nat.le_refl _) _)).trans (hb2.mono (by simp))⟩
    · go_wp2_with fail
      refine (awake_any _).mono ?_
      rintro r w2 ⟨rfl, hb2⟩
      go_wp2
      go_ret
      exact ⟨rfl, hb2⟩

set_option maxRecDepth 100000 in
set_option maxHeartbeats 2000000 in
theorem lives_yes (e m : Int) (a : Option Addr) (len cap : Nat) (w : World) (he : OkNum e) (hm : OkNum m) (hr : DoRow w a len) :
    Calls Try.prog 3 #[.int .i64 e, .int .i64 m, .slice a len cap] w fun r w' => r = .returned (.bool true) ∧ Below w.heap.size w w' := by
  have hl0 := hr.1
  go_enter Try.func3, Try.ntmps3
  go_wp2_with fail
  refine (new_ok e m _ he hm).mono ?_
  rintro r w1 ⟨rfl, hb1, hw1⟩
  generalize hG : w.heap.size = g at *
  have HG := Lib.hid hG
  clear hG
  go_wp2_with fail
  refine (rnew_ok e m _ he hm).mono ?_
  rintro r w2 ⟨rfl, hb2, hw2⟩
  have hb1' := hb1.below hw2 hb1.lt
  have hg2l : g ≤ w1.heap.size := by have := hb1.lt; omega
  generalize hG2 : w1.heap.size = g2 at *
  have HG2 := Lib.hid hG2
  clear hG2
  have hbel0 : Below g w w2 := hw1.trans (hw2.mono hg2l)
  go_wp2_with fail
  go_loopw [38] (fun i wr => ∃ (k : Nat), k ≤ len ∧ i = .int .i64 k ∧ LRel w g g2 e m wr) (fun i _ => len - (intOf i).toNat)
  case atStart => exact ⟨0, Nat.zero_le _, rfl, m, 0, hb1', hb2, ⟨he.1, he.2, by have := hm.1; omega, by omega, hm.1, hm.2, by omega, by omega⟩, by rw [HG.out]; exact hbel0⟩
  case round =>
    obtain ⟨k, hk, rfl, l, n, h1, h2, hbd, hbel⟩ := hrel
    have hbG : Below w.heap.size w wr := hbel
    have hne : g ≠ g2 := h1.ne_ h2 (by decide)
    have hlt1 := h1.lt
    have hlt2 := h2.lt
    have hgl : w.heap.size ≤ g := by rw [HG.out]; exact Nat.le_refl _
    have hgl2 : w.heap.size ≤ g2 := by rw [HG.out]; exact hg2l
    by_cases hlt : k < len
    · obtain ⟨b, off, x, y, rfl, hbk, hx, hy⟩ := hr.at_ hbG hlt
      by_cases h200 : 200 ≤ k
      · go_wp2_with fail
        refine (awake_any _).mono ?_
        rintro r w3 ⟨rfl, hb3⟩
        go_wp2
        go_ret
        exact ⟨rfl, (hbG.alloc hbG.size _).trans (hb3.mono (by have := hbG.size; simp; omega))⟩
      · go_wp2_with fail
        · go_region_held3 (fun w' => w'.cell? ⟨wr.heap.size, 1, none⟩ = some (.int .i64 y)) (first | go_keep | exact (only_cell hg3 _ (by simp) (by simp; omega)).trans (by assumption) | exact (only_cell hg4 _ (by have := hg3.size; simp at *; omega) (by simp; omega)).trans (by assumption))
            (first
              | (go_at_call 9; refine (take_any g e m l n y _ (by exact (h1.alloc _).drew) hbd).mono ?_; rintro r w3 ⟨rfl, hb3, hg3⟩)
              | (go_at_call 10; refine (rtake_any g2 e m l n y _ (by exact ((h2.alloc _).drew).grown hg3 (by simp; omega)) hbd).mono ?_; rintro r w4 ⟨rfl, hb4, hg4⟩))
          go_wp2
          go_roundw
          case rel => exact ⟨k + 1, by omega, by go_num, _, _, hb3.grown hg4 (by simp; omega), hb4, (hbd.pass y).taken, (((hbG.alloc hbG.size _).drew).trans (below_only hg3 (by have := hbG.size; simp; omega) hgl)).trans (below_only hg4 (by have := hbG.size; have := hg3.size; simp at *; omega) hgl2)⟩
          case measure => simp [intOf]; omega
        · go_region_held3 (fun w' => w'.cell? ⟨wr.heap.size, 1, none⟩ = some (.int .i64 y)) (first | go_keep | exact (only_cell hg3 _ (by simp) (by simp; omega)).trans (by assumption) | exact (only_cell hg4 _ (by have := hg3.size; simp at *; omega) (by simp; omega)).trans (by assumption))
            (first
              | (go_at_call 9; refine (take_any g e m l n y _ (by exact (h1.alloc _).drew) hbd).mono ?_; rintro r w3 ⟨rfl, hb3, hg3⟩)
              | (go_at_call 10; refine (rtake_any g2 e m l n y _ (by exact ((h2.alloc _).drew).grown hg3 (by simp; omega)) hbd).mono ?_; rintro r w4 ⟨rfl, hb4, hg4⟩))
          go_wp2
          go_roundw
          case rel => exact ⟨k + 1, by omega, by go_num, _, _, hb3.grown hg4 (by simp; omega), hb4, (hbd.pass y).taken, (((hbG.alloc hbG.size _).drew).trans (below_only hg3 (by have := hbG.size; simp; omega) hgl)).trans (below_only hg4 (by have := hbG.size; have := hg3.size; simp at *; omega) hgl2)⟩
          case measure => simp [intOf]; omega
        · go_region_held3 (fun w' => w'.cell? ⟨wr.heap.size, 1, none⟩ = some (.int .i64 y)) (first | go_keep | exact (only_cell hg3 _ (by simp) (by simp; omega)).trans (by assumption) | exact (only_cell hg4 _ (by have := hg3.size; simp at *; omega) (by simp; omega)).trans (by assumption))
            (first
              | (go_at_call 11; refine (left_any g e m l n y _ (by exact (h1.alloc _).drew) hbd).mono ?_; rintro r w3 ⟨rfl, hb3, hg3⟩)
              | (go_at_call 12; refine (rest_any g2 e m l n y _ (by exact ((h2.alloc _).drew).grown hg3 (by simp; omega)) hbd).mono ?_; rintro r w4 ⟨rfl, hb4, hg4⟩))
          go_wp2
          go_roundw
          case rel => exact ⟨k + 1, by omega, by go_num, _, _, hb3.grown hg4 (by simp; omega), hb4, hbd.pass y, (((hbG.alloc hbG.size _).drew).trans (below_only hg3 (by have := hbG.size; simp; omega) hgl)).trans (below_only hg4 (by have := hbG.size; have := hg3.size; simp at *; omega) hgl2)⟩
          case measure => simp [intOf]; omega
        · go_region_held3 (fun w' => w'.cell? ⟨wr.heap.size, 1, none⟩ = some (.int .i64 y)) (first | go_keep | exact (only_cell hg3 _ (by simp) (by simp; omega)).trans (by assumption) | exact (only_cell hg4 _ (by have := hg3.size; simp at *; omega) (by simp; omega)).trans (by assumption))
            (first
              | (go_at_call 13; refine (wait_any g e m l n y _ (by exact (h1.alloc _).drew) hbd).mono ?_; rintro r w3 ⟨rfl, hb3, hg3⟩)
              | (go_at_call 14; refine (rwait_any g2 e m l n y _ (by exact ((h2.alloc _).drew).grown hg3 (by simp; omega)) hbd).mono ?_; rintro r w4 ⟨rfl, hb4, hg4⟩))
          go_wp2
          go_roundw
          case rel => exact ⟨k + 1, by omega, by go_num, _, _, hb3.grown hg4 (by simp; omega), hb4, hbd.pass y, (((hbG.alloc hbG.size _).drew).trans (below_only hg3 (by have := hbG.size; simp; omega) hgl)).trans (below_only hg4 (by have := hbG.size; have := hg3.size; simp at *; omega) hgl2)⟩
          case measure => simp [intOf]; omega
    · go_wp2_with fail
      refine (awake_any _).mono ?_
      rintro r w3 ⟨rfl, hb3⟩
      go_wp2
      go_ret
      exact ⟨rfl, hbG.trans (hb3.mono hbG.size)⟩
end Go.Proofs.Ytfonbimaknhkcaa
