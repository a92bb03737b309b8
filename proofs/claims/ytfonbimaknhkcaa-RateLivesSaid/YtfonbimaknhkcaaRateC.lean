/-
  rate.Bucket and the document's Bucket: Wait, New; awake.
-/
import Derived.Test.YtfonbimaknhkcaaRateB
namespace Go.Proofs.Ytfonbimaknhkcaa
open Go.RowKit

def waitOf (e L N : Int) : Int := if 0 < L then 0 else e - N % e

set_option maxHeartbeats 400000 in
theorem wait_any (g : Nat) (e m l n t : Int) (w : World) (hb : Blk w g 42 (B4 e m l n)) (h : Bd e m l n) :
    Calls Try.prog 13 #[.pointer (some ⟨g, 0, none⟩), .int .i64 t] w fun r w' => r = .returned (.int .i64 (waitOf e (leftOf e m l n t) (nowOf n t))) ∧ Blk w' g 42 (B4 e m (leftOf e m l n t) (nowOf n t)) ∧ w.grownBy w' (some g) := by
  have hp := h.pass t
  have hq := left_any g e m l n t w hb h
  generalize leftOf e m l n t = L at *
  generalize nowOf n t = N at *
  obtain ⟨h1, h2, h3, h4, h5, h6, h7, h8⟩ := hp
  have HL := Lib.hid hq
  have hr := Lib.hid (ready_any g e m l n w hb h1)
  clear hq hb
  have q1 : 0 ≤ N % e := Int.emod_nonneg _ (by omega)
  have q2 : N % e < e := Int.emod_lt_of_pos _ (by omega)
  by_cases h0 : 0 < L
  · have e1 := Lib.hid (show waitOf e L N = 0 by simp [waitOf, h0])
    go_enter Try.func13, Try.ntmps13
    go_wp2_with fail
    refine hr.out.mono ?_
    rintro r w' ⟨rfl, rfl⟩
    go_wp2_with fail
    refine HL.out.mono ?_
    rintro r w' ⟨rfl, hb1, hg1⟩
    go_wp2
    go_ret
    rw [e1.out]
    exact ⟨rfl, hb1, hg1⟩
  · have e1 := Lib.hid (show waitOf e L N = e - N % e by simp [waitOf, h0])
    have h9 : L ≤ 0 := by omega
    go_enter Try.func13, Try.ntmps13
    go_wp2_with fail
    refine hr.out.mono ?_
    rintro r w' ⟨rfl, rfl⟩
    go_wp2_with fail
    refine HL.out.mono ?_
    rintro r w' ⟨rfl, hb1, hg1⟩
    have c0 : w'.cell? ⟨g, 0, none⟩ = some (.int .i64 e) := hb1.cell 0
    have c3 : w'.cell? ⟨g, 3, none⟩ = some (.int .i64 N) := hb1.cell 3
    go_wp2
    go_quiet (fail)
    go_wp2
    go_ret
    rw [e1.out]
    exact ⟨rfl, hb1.drewN _, only_drewN hg1 _⟩

set_option maxHeartbeats 400000 in
theorem rwait_any (g : Nat) (e m l n t : Int) (w : World) (hb : Blk w g 44 (B4 e m l n)) (h : Bd e m l n) :
    Calls Try.prog 14 #[.pointer (some ⟨g, 0, none⟩), .int .i64 t] w fun r w' => r = .returned (.int .i64 (waitOf e (leftOf e m l n t) (nowOf n t))) ∧ Blk w' g 44 (B4 e m (leftOf e m l n t) (nowOf n t)) ∧ w.grownBy w' (some g) := by
  have hp := h.pass t
  have hq := rpass_any g e m l n t w hb h.1 h.2.2.1 h.2.2.2.1 h.2.2.2.2.2.1 h.2.2.2.2.2.2.1 h.2.2.2.2.2.2.2
  generalize leftOf e m l n t = L at *
  generalize nowOf n t = N at *
  obtain ⟨h1, h2, h3, h4, h5, h6, h7, h8⟩ := hp
  have HL := Lib.hid hq
  clear hq hb
  have q1 : 0 ≤ N % e := Int.emod_nonneg _ (by omega)
  have q2 : N % e < e := Int.emod_lt_of_pos _ (by omega)
  by_cases h0 : 0 < L
  · have e1 := Lib.hid (show waitOf e L N = 0 by simp [waitOf, h0])
    go_enter Try.func14, Try.ntmps14
    go_wp2_with fail
    refine HL.out.mono ?_
    rintro r w' ⟨rfl, hb1, hg1⟩
    have c2 : w'.cell? ⟨g, 2, none⟩ = some (.int .i64 L) := hb1.cell 2
    go_wp2
    go_ret
    rw [e1.out]
    exact ⟨rfl, hb1, hg1⟩
  · have e1 := Lib.hid (show waitOf e L N = e - N % e by simp [waitOf, h0])
    have h9 : L ≤ 0 := by omega
    go_enter Try.func14, Try.ntmps14
    go_wp2_with fail
    refine HL.out.mono ?_
    rintro r w' ⟨rfl, hb1, hg1⟩
    have c2 : w'.cell? ⟨g, 2, none⟩ = some (.int .i64 L) := hb1.cell 2
    have c0 : w'.cell? ⟨g, 0, none⟩ = some (.int .i64 e) := hb1.cell 0
    have c3 : w'.cell? ⟨g, 3, none⟩ = some (.int .i64 N) := hb1.cell 3
    go_wp2
    go_quiet (fail)
    go_wp2
    go_ret
    rw [e1.out]
    exact ⟨rfl, hb1.drewN _, only_drewN hg1 _⟩

def OkNum (n : Int) : Prop := 1 ≤ n ∧ n ≤ 1048576
instance (n : Int) : Decidable (OkNum n) := inferInstanceAs (Decidable (1 ≤ n ∧ n ≤ 1048576))

set_option maxHeartbeats 400000 in
theorem new_ok (e m : Int) (w : World) (he : OkNum e) (hm : OkNum m) :
    Calls Try.prog 7 #[.int .i64 e, .int .i64 m] w fun r w' => r = .returned (.tuple #[.pointer (some ⟨w.heap.size, 0, none⟩), .int .i64 0]) ∧ Blk w' w.heap.size 42 (B4 e m m 0) ∧ Below w.heap.size w w' := by
  obtain ⟨h1, h2⟩ := he
  obtain ⟨h3, h4⟩ := hm
  go_enter Try.func7, Try.ntmps7
  go_wp2
  go_ret2
  exact ⟨rfl, Blk.new _ _ _, (Below.refl _ _).alloc (Nat.le_refl _) _⟩

set_option maxHeartbeats 400000 in
theorem new_no (e m : Int) (w : World) (h : ¬ (OkNum e ∧ OkNum m)) :
    Calls Try.prog 7 #[.int .i64 e, .int .i64 m] w fun r w' => r = .returned (.tuple #[.pointer none, .int .i64 1]) ∧ w = w' := by
  unfold OkNum at h
  by_cases h1 : 1 ≤ e
  · by_cases h2 : e ≤ 1048576
    · by_cases h3 : 1 ≤ m
      · have h4 : 1048576 < m := by omega
        have h5 : decide (m ≤ 1048576) = false := by simp; omega
        clear h
        go_enter Try.func7, Try.ntmps7
        go_wp2
        go_ret2
        exact ⟨rfl, rfl⟩
      · have h4 : m < 1 := by omega
        clear h h3
        go_enter Try.func7, Try.ntmps7
        go_wp2
        go_ret2
        exact ⟨rfl, rfl⟩
    · have h4 : 1048576 < e := by omega
      clear h h2
      go_enter Try.func7, Try.ntmps7
      go_wp2
      go_ret2
      exact ⟨rfl, rfl⟩
  · have h4 : e < 1 := by omega
    clear h h1
    go_enter Try.func7, Try.ntmps7
    go_wp2
    go_ret2
    exact ⟨rfl, rfl⟩

set_option maxHeartbeats 400000 in
theorem rnew_ok (e m : Int) (w : World) (he : OkNum e) (hm : OkNum m) :
    Calls Try.prog 8 #[.int .i64 e, .int .i64 m] w fun r w' => r = .returned (.tuple #[.pointer (some ⟨w.heap.size, 0, none⟩), .int .i64 0]) ∧ Blk w' w.heap.size 44 (B4 e m m 0) ∧ Below w.heap.size w w' := by
  obtain ⟨h1, h2⟩ := he
  obtain ⟨h3, h4⟩ := hm
  go_enter Try.func8, Try.ntmps8
  go_wp2
  go_ret2
  exact ⟨rfl, Blk.new _ _ _, (Below.refl _ _).alloc (Nat.le_refl _) _⟩

set_option maxHeartbeats 400000 in
theorem rnew_no (e m : Int) (w : World) (h : ¬ (OkNum e ∧ OkNum m)) :
    Calls Try.prog 8 #[.int .i64 e, .int .i64 m] w fun r w' => r = .returned (.tuple #[.pointer none, .int .i64 1]) ∧ w = w' := by
  unfold OkNum at h
  by_cases h1 : 1 ≤ e
  · by_cases h2 : e ≤ 1048576
    · by_cases h3 : 1 ≤ m
      · have h4 : 1048576 < m := by omega
        clear h
        go_enter Try.func8, Try.ntmps8
        go_wp2
        go_ret2
        exact ⟨rfl, rfl⟩
      · have h4 : m < 1 := by omega
        clear h h3
        go_enter Try.func8, Try.ntmps8
        go_wp2
        go_ret2
        exact ⟨rfl, rfl⟩
    · have h4 : 1048576 < e := by omega
      clear h h2
      go_enter Try.func8, Try.ntmps8
      go_wp2
      go_ret2
      exact ⟨rfl, rfl⟩
  · have h4 : e < 1 := by omega
    clear h h1
    go_enter Try.func8, Try.ntmps8
    go_wp2
    go_ret2
    exact ⟨rfl, rfl⟩

set_option maxHeartbeats 1000000 in
theorem awake_any (w : World) : Calls Try.prog 15 #[] w fun r w' => r = .returned (.bool true) ∧ Below w.heap.size w w' := by
  go_enter Try.func15, Try.ntmps15
  go_wp2_with fail
  refine (new_ok 10 1 _ (by decide) (by decide)).mono ?_
  rintro r w1 ⟨rfl, hb, hw⟩
  generalize hG : w.heap.size = G at *
  have HG := Lib.hid hG
  clear hG
  go_wp2_with fail
  refine (take_any G 10 1 1 0 0 _ hb (by unfold Bd; decide)).mono ?_
  rintro r w2 ⟨rfl, hb2, hg2⟩
  rw [show tookB (leftOf 10 1 1 0 0) = true from by decide]
  rw [show takenOf (leftOf 10 1 1 0 0) = 0 from by decide, show nowOf 0 0 = 0 from by decide] at hb2
  go_wp2_with fail
  refine (take_any G 10 1 0 0 5 _ hb2 (by unfold Bd; decide)).mono ?_
  rintro r w3 ⟨rfl, hb3, hg3⟩
  rw [show tookB (leftOf 10 1 0 0 5) = false from by decide]
  rw [show takenOf (leftOf 10 1 0 0 5) = 0 from by decide, show nowOf 0 5 = 5 from by decide] at hb3
  go_wp2_with fail
  refine (wait_any G 10 1 0 5 5 _ hb3 (by unfold Bd; decide)).mono ?_
  rintro r w4 ⟨rfl, hb4, hg4⟩
  rw [show waitOf 10 (leftOf 10 1 0 5 5) (nowOf 5 5) = 5 from by decide]
  rw [show leftOf 10 1 0 5 5 = 0 from by decide, show nowOf 5 5 = 5 from by decide] at hb4
  go_wp2_with fail
  refine (take_any G 10 1 0 5 10 _ hb4 (by unfold Bd; decide)).mono ?_
  rintro r w5 ⟨rfl, hb5, hg5⟩
  rw [show tookB (leftOf 10 1 0 5 10) = true from by decide]
  rw [show takenOf (leftOf 10 1 0 5 10) = 0 from by decide, show nowOf 5 10 = 10 from by decide] at hb5
  go_wp2_with fail
  refine (left_any G 10 1 0 10 10 _ hb5 (by unfold Bd; decide)).mono ?_
  rintro r w6 ⟨rfl, hb6, hg6⟩
  rw [show leftOf 10 1 0 10 10 = 0 from by decide]
  go_wp2
  go_ret
  exact ⟨rfl, by rw [HG.out]; exact hw.trans (below_only (only_trans (only_trans (only_trans (only_trans hg2 hg3) hg4) hg5) hg6) (by have := hw.size; have := HG.out; omega) (Nat.le_refl _))⟩
end Go.Proofs.Ytfonbimaknhkcaa
