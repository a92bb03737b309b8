/-
  rate.Bucket and the document's Bucket: Left, Take, Wait, New at a bucket that a call made.
-/
import Derived.Test.YtfonbimaknhkcaaRateA
namespace Go.Proofs.Ytfonbimaknhkcaa
open Go.RowKit

/-- The bounds of a bucket that a call made. -/
def Bd (e m l n : Int) : Prop := 1 ≤ e ∧ e ≤ 1048576 ∧ 0 ≤ l ∧ l ≤ m ∧ 1 ≤ m ∧ m ≤ 1048576 ∧ 0 ≤ n ∧ n ≤ 1099511627776

theorem Bd.pass {e m l n : Int} (h : Bd e m l n) (t : Int) : Bd e m (leftOf e m l n t) (nowOf n t) := by
  obtain ⟨h1, h2, h3, h4, h5, h6, h7, h8⟩ := h
  have a := nowOf_bd n t h7 h8
  have b := leftOf_bd e m l n t h1 h3 h4 h7 h8
  exact ⟨h1, h2, b.1, b.2, h5, h6, by omega, a.2⟩

set_option maxHeartbeats 400000 in
theorem ready_any (g : Nat) (e m l n : Int) (w : World) (hb : Blk w g 42 (B4 e m l n)) (h : 1 ≤ e) :
    Calls Try.prog 18 #[.pointer (some ⟨g, 0, none⟩)] w fun r w' => r = .returned (.bool true) ∧ w = w' := by
  have c0 : w.cell? ⟨g, 0, none⟩ = some (.int .i64 e) := hb.cell 0
  have h' : 0 < e := by omega
  go_enter Try.func18, Try.ntmps18
  go_wp2
  go_ret
  exact ⟨rfl, rfl⟩

set_option maxHeartbeats 400000 in
theorem left_any (g : Nat) (e m l n t : Int) (w : World) (hb : Blk w g 42 (B4 e m l n)) (h : Bd e m l n) :
    Calls Try.prog 11 #[.pointer (some ⟨g, 0, none⟩), .int .i64 t] w fun r w' => r = .returned (.int .i64 (leftOf e m l n t)) ∧ Blk w' g 42 (B4 e m (leftOf e m l n t) (nowOf n t)) ∧ w.grownBy w' (some g) := by
  have hp := h.pass t
  obtain ⟨h1, h2, h3, h4, h5, h6, h7, h8⟩ := h
  have hq := pass_any g e m l n t w hb h1 h3 h4 h6 h7 h8
  generalize leftOf e m l n t = L at *
  generalize nowOf n t = N at *
  have HL := Lib.hid hq
  clear hq
  go_enter Try.func11, Try.ntmps11
  go_wp2_with fail
  refine (ready_any g e m l n _ hb h1).mono ?_
  rintro r w' ⟨rfl, rfl⟩
  go_wp2_with fail
  refine HL.out.mono ?_
  rintro r w' ⟨rfl, hb1, hg1⟩
  have c2 : w'.cell? ⟨g, 2, none⟩ = some (.int .i64 L) := hb1.cell 2
  go_wp2
  go_ret
  exact ⟨rfl, hb1, hg1⟩

set_option maxHeartbeats 400000 in
theorem rest_any (g : Nat) (e m l n t : Int) (w : World) (hb : Blk w g 44 (B4 e m l n)) (h : Bd e m l n) :
    Calls Try.prog 12 #[.pointer (some ⟨g, 0, none⟩), .int .i64 t] w fun r w' => r = .returned (.int .i64 (leftOf e m l n t)) ∧ Blk w' g 44 (B4 e m (leftOf e m l n t) (nowOf n t)) ∧ w.grownBy w' (some g) := by
  have hp := h.pass t
  obtain ⟨h1, h2, h3, h4, h5, h6, h7, h8⟩ := h
  have hq := rpass_any g e m l n t w hb h1 h3 h4 h6 h7 h8
  generalize leftOf e m l n t = L at *
  generalize nowOf n t = N at *
  have HL := Lib.hid hq
  clear hq
  go_enter Try.func12, Try.ntmps12
  go_wp2_with fail
  refine HL.out.mono ?_
  rintro r w' ⟨rfl, hb1, hg1⟩
  have c2 : w'.cell? ⟨g, 2, none⟩ = some (.int .i64 L) := hb1.cell 2
  go_wp2
  go_ret
  exact ⟨rfl, hb1, hg1⟩

/-- How many there are behind a take. -/
def takenOf (L : Int) : Int := if L = 0 then 0 else L - 1
/-- Whether a take takes one. -/
def tookB (L : Int) : Bool := decide (L ≠ 0)

set_option maxHeartbeats 400000 in
theorem take_any (g : Nat) (e m l n t : Int) (w : World) (hb : Blk w g 42 (B4 e m l n)) (h : Bd e m l n) :
    Calls Try.prog 9 #[.pointer (some ⟨g, 0, none⟩), .int .i64 t] w fun r w' => r = .returned (.bool (tookB (leftOf e m l n t))) ∧ Blk w' g 42 (B4 e m (takenOf (leftOf e m l n t)) (nowOf n t)) ∧ w.grownBy w' (some g) := by
  have hp := h.pass t
  have hl := left_any g e m l n t w hb h
  generalize leftOf e m l n t = L at *
  generalize nowOf n t = N at *
  obtain ⟨h1, h2, h3, h4, h5, h6, h7, h8⟩ := hp
  have HL := Lib.hid hl
  clear hl hb
  by_cases h0 : L = 0
  · subst h0
    go_enter Try.func9, Try.ntmps9
    go_wp2_with fail
    refine HL.out.mono ?_
    rintro r w' ⟨rfl, hb1, hg1⟩
    go_wp2
    go_ret
    exact ⟨rfl, hb1, hg1⟩
  · have h9 : (L == 0) = false := by simp [h0]
    have e1 := Lib.hid (show tookB L = true by simp [tookB, h0])
    have e2 := Lib.hid (show takenOf L = L - 1 by simp [takenOf, h0])
    go_enter Try.func9, Try.ntmps9
    go_wp2_with fail
    refine HL.out.mono ?_
    rintro r w' ⟨rfl, hb1, hg1⟩
    have c2 : w'.cell? ⟨g, 2, none⟩ = some (.int .i64 L) := hb1.cell 2
    have f2 := hb1.frozen 2
    go_wp2
    go_ret
    rw [e1.out, e2.out]
    exact ⟨rfl, hb1.set_ 2 (.int .i64 (L - 1)), only_setCell hg1 (p := ⟨g, 2, none⟩) (.inl rfl) _⟩

set_option maxHeartbeats 400000 in
theorem rtake_any (g : Nat) (e m l n t : Int) (w : World) (hb : Blk w g 44 (B4 e m l n)) (h : Bd e m l n) :
    Calls Try.prog 10 #[.pointer (some ⟨g, 0, none⟩), .int .i64 t] w fun r w' => r = .returned (.bool (tookB (leftOf e m l n t))) ∧ Blk w' g 44 (B4 e m (takenOf (leftOf e m l n t)) (nowOf n t)) ∧ w.grownBy w' (some g) := by
  have hp := h.pass t
  have hl := rpass_any g e m l n t w hb h.1 h.2.2.1 h.2.2.2.1 h.2.2.2.2.2.1 h.2.2.2.2.2.2.1 h.2.2.2.2.2.2.2
  generalize leftOf e m l n t = L at *
  generalize nowOf n t = N at *
  obtain ⟨h1, h2, h3, h4, h5, h6, h7, h8⟩ := hp
  have HL := Lib.hid hl
  clear hl hb
  by_cases h0 : L = 0
  · subst h0
    go_enter Try.func10, Try.ntmps10
    go_wp2_with fail
    refine HL.out.mono ?_
    rintro r w' ⟨rfl, hb1, hg1⟩
    have c2 : w'.cell? ⟨g, 2, none⟩ = some (.int .i64 0) := hb1.cell 2
    go_wp2
    go_ret
    exact ⟨rfl, hb1, hg1⟩
  · have h9 : (L == 0) = false := by simp [h0]
    have e1 := Lib.hid (show tookB L = true by simp [tookB, h0])
    have e2 := Lib.hid (show takenOf L = L - 1 by simp [takenOf, h0])
    go_enter Try.func10, Try.ntmps10
    go_wp2_with fail
    refine HL.out.mono ?_
    rintro r w' ⟨rfl, hb1, hg1⟩
    have c2 : w'.cell? ⟨g, 2, none⟩ = some (.int .i64 L) := hb1.cell 2
    have f2 := hb1.frozen 2
    go_wp2
    go_ret
    rw [e1.out, e2.out]
    exact ⟨rfl, hb1.set_ 2 (.int .i64 (L - 1)), only_setCell hg1 (p := ⟨g, 2, none⟩) (.inl rfl) _⟩
end Go.Proofs.Ytfonbimaknhkcaa
