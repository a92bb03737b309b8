/-
  net: Put refused, place: the walks.
-/
import Derived.Test.YtffbimebgledoaaNetC
import Derived.IntWalk
namespace Go.Proofs.Ytffbimebgledoaa
open Go.RowKit

def putCode (most : Int) (len : Nat) (b4 : Int) (n : Nat) : Int := if b4 < 0 ∨ 64 ≤ b4 then 1 else if 65575 < n then 6 else if most ≤ len then 7 else 0

set_option maxHeartbeats 4000000 in
set_option maxRecDepth 1000000 in
theorem put_bad (B g : Nat) (most : Int) (M : List Ent) (b4 : Int) (up : Bool) (A : Option Addr) (n c : Nat) (w : World) (h : NetP w B g most M) (hc : putCode most M.length b4 n ≠ 0) (hn : n ≤ 9223372036854775807) :
    Calls Try.prog 21 #[.pointer (some ⟨g, 0, none⟩), .agg #[.int .i64 b4, .bool up, .slice A n c]] w fun e w' => e = .returned (.int .i64 (putCode most M.length b4 n)) ∧ Below w.heap.size w w' := by
  have bw : Below w.heap.size w (w.alloc (.cells #[.int .i64 b4, .bool up, .slice A n c] 42)) := (Below.refl _ w).alloc (Nat.le_refl _) _
  have hr := Lib.hid (ready_any _ B g most M (h.below bw))
  obtain ⟨hB, Av, cv, hk, ho⟩ := h
  have K := Lib.hid (hk.below bw hk.lt)
  have BW := Lib.hid bw
  have c0 : (w.alloc (.cells #[.int .i64 b4, .bool up, .slice A n c] 42)).cell? ⟨g, 0, none⟩ = some (.slice Av M.length cv) := K.out.cell 0
  have c1 : (w.alloc (.cells #[.int .i64 b4, .bool up, .slice A n c] 42)).cell? ⟨g, 1, none⟩ = some (.int .i64 most) := K.out.cell 1
  have kp := Lib.hid (Blk.new w 42 #[.int .i64 b4, .bool up, .slice A n c])
  have d0 : (w.alloc (.cells #[.int .i64 b4, .bool up, .slice A n c] 42)).cell? ⟨w.heap.size, 0, none⟩ = some (.int .i64 b4) := kp.out.cell 0
  have d2 : (w.alloc (.cells #[.int .i64 b4, .bool up, .slice A n c] 42)).cell? ⟨w.heap.size, 2, none⟩ = some (.slice A n c) := kp.out.cell 2
  clear hk ho bw
  have hcase : (b4 < 0 ∧ putCode most M.length b4 n = 1) ∨ (¬ b4 < 0 ∧ 64 ≤ b4 ∧ putCode most M.length b4 n = 1) ∨ (¬ b4 < 0 ∧ ¬ 64 ≤ b4 ∧ 65575 < n ∧ putCode most M.length b4 n = 6) ∨ (¬ b4 < 0 ∧ ¬ 64 ≤ b4 ∧ ¬ 65575 < n ∧ most ≤ (M.length : Int) ∧ putCode most M.length b4 n = 7) := by
    unfold putCode at hc ⊢
    by_cases x1 : b4 < 0
    · exact .inl ⟨x1, if_pos (.inl x1)⟩
    by_cases x2 : 64 ≤ b4
    · exact .inr (.inl ⟨x1, x2, if_pos (.inr x2)⟩)
    rw [if_neg (by omega)] at hc ⊢
    by_cases x3 : 65575 < n
    · exact .inr (.inr (.inl ⟨x1, x2, x3, if_pos x3⟩))
    rw [if_neg x3] at hc ⊢
    by_cases x4 : most ≤ (M.length : Int)
    · exact .inr (.inr (.inr ⟨x1, x2, x3, x4, if_pos x4⟩))
    · exact absurd (if_neg x4) hc
  clear hc
  generalize putCode most M.length b4 n = C at hcase ⊢
  rcases hcase with ⟨x1, hC⟩ | ⟨x1, x2, hC⟩ | ⟨x1, x2, x3, hC⟩ | ⟨x1, x2, x3, x4, hC⟩
  · go_enter Try.func21, Try.ntmps21
    go_wp2_with fail
    refine hr.out.mono ?_
    rintro r w1 ⟨rfl, rfl⟩
    go_wp2
    go_ret
    exact ⟨by rw [hC]; rfl, BW.out⟩
  · go_enter Try.func21, Try.ntmps21
    go_wp2_with fail
    refine hr.out.mono ?_
    rintro r w1 ⟨rfl, rfl⟩
    go_wp2
    go_ret
    exact ⟨by rw [hC]; rfl, BW.out⟩
  · go_enter Try.func21, Try.ntmps21
    go_wp2_with fail
    refine hr.out.mono ?_
    rintro r w1 ⟨rfl, rfl⟩
    go_wp2
    go_ret
    exact ⟨by rw [hC]; rfl, BW.out⟩
  · go_enter Try.func21, Try.ntmps21
    go_wp2_with fail
    refine hr.out.mono ?_
    rintro r w1 ⟨rfl, rfl⟩
    go_wp2_with fail
    go_quiet (fail)
    go_wp2
    go_ret
    exact ⟨by rw [hC]; rfl, below_drewN BW.out _⟩

/-- (at % n + n) % n, as Go reckons it. -/
theorem place_eq (at_ : Int) (n : Nat) (hn : 0 < n) : (at_.tmod n + n).tmod n = at_ % n := by
  have hn' : (0 : Int) < n := by omega
  have h1 := Int.lt_tmod_of_pos at_ hn'
  rw [Int.tmod_eq_emod_of_nonneg (by omega), Int.add_emod_right]
  have h := Int.mul_tdiv_add_tmod at_ n
  generalize at_.tmod n = r at h ⊢
  rw [← h, Int.mul_add_emod_self_left]

set_option maxHeartbeats 1000000 in
theorem place_any (w : World) (B g : Nat) (most : Int) (M : List Ent) (at_ : Int) (k : Nat) (h : NetP w B g most M) (hk : at_ % (M.length : Int) = k) (hM : 0 < M.length) (hl : M.length ≤ 100000) :
    Calls Try.prog 36 #[.pointer (some ⟨g, 0, none⟩), .int .i64 at_] w fun e w' => e = .returned (.tuple #[.int .i64 k, .bool true]) ∧ w = w' := by
  have hr := Lib.hid (ready_any w B g most M h)
  obtain ⟨hB, A, c, hb, ho⟩ := h
  have c0 : w.cell? ⟨g, 0, none⟩ = some (.slice A M.length c) := hb.cell 0
  clear hb ho
  generalize M.length = n at *
  have e1 := place_eq at_ n hM
  rw [hk] at e1
  have e2 := Int.lt_tmod_of_pos at_ (show (0 : Int) < n by omega)
  have e3 := Int.tmod_lt_of_pos at_ (show (0 : Int) < n by omega)
  obtain ⟨r, hr1⟩ : ∃ r, at_.tmod n = r := ⟨_, rfl⟩
  rw [hr1] at e1 e2 e3
  have e4 : IntKind.i64.wrap r = r := IntWalk.i64_in _ (by omega)
  have e5 : IntKind.i64.wrap (r + n) = r + n := IntWalk.i64_in _ (by omega)
  have hk2 : k < n := by have := Int.emod_lt_of_pos at_ (show (0 : Int) < n by omega); omega
  have e6 : IntKind.i64.wrap (k : Int) = k := IntWalk.i64_in _ (by omega)
  clear hk e2 e3
  go_enter Try.func36, Try.ntmps36
  go_wp2_with fail
  refine hr.out.mono ?_
  rintro r1 w1 ⟨rfl, rfl⟩
  go_wp2
  go_ret2
  exact ⟨rfl, rfl⟩

theorem place_none (w : World) (B g : Nat) (most : Int) (at_ : Int) (h : NetP w B g most []) :
    Calls Try.prog 36 #[.pointer (some ⟨g, 0, none⟩), .int .i64 at_] w fun e w' => e = .returned (.tuple #[.int .i64 0, .bool false]) ∧ w = w' := by
  have hr := Lib.hid (ready_any w B g most [] h)
  obtain ⟨hB, A, c, hb, ho⟩ := h
  have c0 : w.cell? ⟨g, 0, none⟩ = some (.slice A 0 c) := hb.cell 0
  clear hb ho
  go_enter Try.func36, Try.ntmps36
  go_wp2_with fail
  refine hr.out.mono ?_
  rintro r1 w1 ⟨rfl, rfl⟩
  go_wp2
  go_ret2
  exact ⟨rfl, rfl⟩
end Go.Proofs.Ytffbimebgledoaa
