/-
  four: whether an address is one of a host, or a private one; the same by the document.
-/
import Derived.Test.YtngdomefipcemaaDoorFourD
namespace Go.Proofs.YtngdomefipcemaaDoor
open Go.RowKit

/-- One of three blocks. -/
def three (x y z u v t : Value) : Array Value := #[x, y, z, u, v, t]

set_option maxRecDepth 100000 in
set_option maxHeartbeats 4000000 in
theorem one_three (g : Nat) (a q0 s0 q1 s1 q2 s2 : Int) (f0 f1 f2 : Bool) (w : World) (hg : Blk w g 47 #[.int .i64 q0, .int .i64 s0, .int .i64 q1, .int .i64 s1, .int .i64 q2, .int .i64 s2])
    (H0 : ∀ W : World, Calls Tryd.prog 48 #[.agg #[.int .i64 q0, .int .i64 s0], .int .i64 a] W fun r w' => r = .returned (.bool f0) ∧ Below W.heap.size W w')
    (H1 : ∀ W : World, Calls Tryd.prog 48 #[.agg #[.int .i64 q1, .int .i64 s1], .int .i64 a] W fun r w' => r = .returned (.bool f1) ∧ Below W.heap.size W w')
    (H2 : ∀ W : World, Calls Tryd.prog 48 #[.agg #[.int .i64 q2, .int .i64 s2], .int .i64 a] W fun r w' => r = .returned (.bool f2) ∧ Below W.heap.size W w') :
    Calls Tryd.prog 35 #[.int .i64 a, .slice (some ⟨g, 0, none⟩) 3 3] w fun r w' => r = .returned (.bool (f0 || f1 || f2)) ∧ Below w.heap.size w w' := by
  have HH0 := Lib.hid H0
  have HH1 := Lib.hid H1
  have HH2 := Lib.hid H2
  have HG := Lib.hid hg
  have hgl := hg.lt
  obtain ⟨R, hR⟩ : ∃ R, (f0 || f1 || f2) = R := ⟨_, rfl⟩
  rw [hR]
  have HR := Lib.hid hR
  clear H0 H1 H2 hg hR
  go_enter Tryd.func35, Tryd.ntmps35
  go_wp2
  go_loopw [9] (fun i wr => ∃ (k : Nat), i = .int .i64 k ∧ k ≤ 3 ∧ (0 < k → f0 = false) ∧ (1 < k → f1 = false) ∧ (2 < k → f2 = false) ∧ Below w.heap.size w wr) (fun i _ => 3 - (intOf i).toNat)
  case atStart => exact ⟨0, rfl, by omega, fun h => absurd h (by omega), fun h => absurd h (by omega), fun h => absurd h (by omega), Below.refl _ _⟩
  case round =>
    obtain ⟨k, rfl, hk, g0, g1, g2, hb⟩ := hrel
    have kg := HG.out.below hb hgl
    have m0 := kg.cell 0
    have m1 := kg.cell 1
    have m2 := kg.cell 2
    have m3 := kg.cell 3
    have m4 := kg.cell 4
    have m5 := kg.cell 5
    simp only [List.getElem?_toArray, List.getElem?_cons_zero, List.getElem?_cons_succ] at m0 m1 m2 m3 m4 m5
    have G0 := Lib.hid g0
    have G1 := Lib.hid g1
    have G2 := Lib.hid g2
    have HB := Lib.hid hb
    have hww : w.heap.size ≤ wr.heap.size := hb.size
    clear kg g0 g1 g2 hb
    rcases (show k = 0 ∨ k = 1 ∨ k = 2 ∨ k = 3 by omega) with rfl | rfl | rfl | rfl
    · have hbt : Below wr.heap.size wr (wr.alloc (.cells #[.int .i64 q0, .int .i64 s0] 47)) := (Below.refl _ _).alloc (Nat.le_refl _) _
      have kb := Blk.new wr 47 #[.int .i64 q0, .int .i64 s0]
      have c0 := kb.cell 0
      have c1 := kb.cell 1
      simp only [List.getElem?_toArray, List.getElem?_cons_zero, List.getElem?_cons_succ] at c0 c1
      have HBT := Lib.hid hbt
      clear kb hbt
      go_wp2_with fail
      refine (HH0.out _).mono ?_
      rintro r w1 ⟨rfl, bel1⟩
      have BEL := Lib.hid (HB.out.trans ((HBT.out.trans (bel1.mono HBT.out.size)).mono hww))
      clear bel1
      cases f0 with
      | true =>
        go_wp2
        go_ret
        exact ⟨by rw [← HR.out]; simp, BEL.out⟩
      | false =>
        go_wp2
        exact ⟨⟨1, rfl, by omega, fun _ => trivial, fun h => absurd h (by omega), fun h => absurd h (by omega), BEL.out⟩, by simp [intOf]⟩
    · have hbt : Below wr.heap.size wr (wr.alloc (.cells #[.int .i64 q1, .int .i64 s1] 47)) := (Below.refl _ _).alloc (Nat.le_refl _) _
      have kb := Blk.new wr 47 #[.int .i64 q1, .int .i64 s1]
      have c0 := kb.cell 0
      have c1 := kb.cell 1
      simp only [List.getElem?_toArray, List.getElem?_cons_zero, List.getElem?_cons_succ] at c0 c1
      have HBT := Lib.hid hbt
      clear kb hbt
      go_wp2_with fail
      refine (HH1.out _).mono ?_
      rintro r w1 ⟨rfl, bel1⟩
      have BEL := Lib.hid (HB.out.trans ((HBT.out.trans (bel1.mono HBT.out.size)).mono hww))
      clear bel1
      cases f1 with
      | true =>
        go_wp2
        go_ret
        exact ⟨by rw [← HR.out]; simp, BEL.out⟩
      | false =>
        go_wp2
        exact ⟨⟨2, rfl, by omega, fun _ => G0.out (by omega), fun _ => trivial, fun h => absurd h (by omega), BEL.out⟩, by simp [intOf]⟩
    · have hbt : Below wr.heap.size wr (wr.alloc (.cells #[.int .i64 q2, .int .i64 s2] 47)) := (Below.refl _ _).alloc (Nat.le_refl _) _
      have kb := Blk.new wr 47 #[.int .i64 q2, .int .i64 s2]
      have c0 := kb.cell 0
      have c1 := kb.cell 1
      simp only [List.getElem?_toArray, List.getElem?_cons_zero, List.getElem?_cons_succ] at c0 c1
      have HBT := Lib.hid hbt
      clear kb hbt
      go_wp2_with fail
      refine (HH2.out _).mono ?_
      rintro r w1 ⟨rfl, bel1⟩
      have BEL := Lib.hid (HB.out.trans ((HBT.out.trans (bel1.mono HBT.out.size)).mono hww))
      clear bel1
      cases f2 with
      | true =>
        go_wp2
        go_ret
        exact ⟨by rw [← HR.out]; simp, BEL.out⟩
      | false =>
        go_wp2
        exact ⟨⟨3, rfl, by omega, fun _ => G0.out (by omega), fun _ => G1.out (by omega), fun _ => trivial, BEL.out⟩, by simp [intOf]⟩
    · go_wp2
      go_ret
      exact ⟨by rw [← HR.out, G0.out (by omega), G1.out (by omega), G2.out (by omega)]; rfl, HB.out⟩

def hostV (a : Int) : Bool := decide (16777216 ≤ a ∧ a < 3758096384 ∧ a / 16777216 ≠ 127)
def privV (a : Int) : Bool := decide ((167772160 ≤ a ∧ a ≤ 184549375) ∨ (2886729728 ≤ a ∧ a ≤ 2887778303) ∨ (3232235520 ≤ a ∧ a ≤ 3232301055))

theorem host_eq {a : Int} (hr : right a = true) : (!(in_h0 a || in_h1 a || in_h2 a)) = hostV a := by
  obtain ⟨h0, h1⟩ := right_spec hr
  unfold in_h0 in_h1 in_h2 hostV
  rw [hr]
  simp only [Bool.true_and]
  rw [Bool.eq_iff_iff]
  simp
  omega
theorem host_not {a : Int} (hr : right a = false) : hostV a = false := by
  unfold right at hr
  unfold hostV
  simp at hr ⊢
  omega
theorem priv_eq (a : Int) : (in_p0 a || in_p1 a || in_p2 a) = privV a := by
  cases hr : right a with
  | true =>
    obtain ⟨h0, h1⟩ := right_spec hr
    unfold in_p0 in_p1 in_p2 privV
    rw [hr]
    simp only [Bool.true_and]
    rw [Bool.eq_iff_iff]
    simp
    omega
  | false =>
    have h : ¬ (0 ≤ a ∧ a < 4294967296) := by
      intro h
      unfold right at hr
      exact absurd hr (by simp [h])
    unfold in_p0 in_p1 in_p2 privV
    rw [hr]
    simp only [Bool.false_and, Bool.or_self]
    symm
    simp
    omega

set_option maxHeartbeats 2000000 in
theorem fhost_any (a : Int) (w : World) : Calls Tryd.prog 13 #[.int .i64 a] w fun r w' => r = .returned (.bool (hostV a)) ∧ Below w.heap.size w w' := by
  cases hr : right a with
  | false =>
    rw [host_not hr]
    go_enter Tryd.func13, Tryd.ntmps13
    go_wp2_with (go_at_call 9; refine (fright_any a _).mono ?_; rintro r w' ⟨rfl, rfl⟩; rw [hr])
    go_ret
    exact ⟨rfl, Below.refl _ _⟩
  | true =>
    rw [← host_eq hr]
    obtain ⟨R, hR⟩ : ∃ R, (in_h0 a || in_h1 a || in_h2 a) = R := ⟨_, rfl⟩
    have hbt : Below w.heap.size w (w.alloc (.cells #[.int .i64 0, .int .i64 8, .int .i64 2130706432, .int .i64 8, .int .i64 3758096384, .int .i64 3] 47)) := (Below.refl _ _).alloc (Nat.le_refl _) _
    have hone := one_three w.heap.size a 0 8 2130706432 8 3758096384 3 _ _ _ (w.alloc (.cells #[.int .i64 0, .int .i64 8, .int .i64 2130706432, .int .i64 8, .int .i64 3758096384, .int .i64 3] 47)) (Blk.new _ _ _) (has_h0 a) (has_h1 a) (has_h2 a)
    rw [hR] at hone ⊢
    have HONE := Lib.hid hone
    have HBT := Lib.hid hbt
    clear hone hbt hR
    go_enter Tryd.func13, Tryd.ntmps13
    go_wp2_with (go_at_call 9; refine (fright_any a _).mono ?_; rintro r w' ⟨rfl, rfl⟩; rw [hr])
    refine HONE.out.mono ?_
    rintro r w1 ⟨rfl, bel1⟩
    go_wp2
    go_ret
    exact ⟨rfl, HBT.out.trans (bel1.mono HBT.out.size)⟩
set_option maxHeartbeats 2000000 in
theorem fpriv_any (a : Int) (w : World) : Calls Tryd.prog 15 #[.int .i64 a] w fun r w' => r = .returned (.bool (privV a)) ∧ Below w.heap.size w w' := by
  rw [← priv_eq a]
  obtain ⟨R, hR⟩ : ∃ R, (in_p0 a || in_p1 a || in_p2 a) = R := ⟨_, rfl⟩
  have hbt : Below w.heap.size w (w.alloc (.cells #[.int .i64 167772160, .int .i64 8, .int .i64 2886729728, .int .i64 12, .int .i64 3232235520, .int .i64 16] 47)) := (Below.refl _ _).alloc (Nat.le_refl _) _
  have hone := one_three w.heap.size a 167772160 8 2886729728 12 3232235520 16 _ _ _ (w.alloc (.cells #[.int .i64 167772160, .int .i64 8, .int .i64 2886729728, .int .i64 12, .int .i64 3232235520, .int .i64 16] 47)) (Blk.new _ _ _) (has_p0 a) (has_p1 a) (has_p2 a)
  rw [hR] at hone ⊢
  have HONE := Lib.hid hone
  have HBT := Lib.hid hbt
  clear hone hbt hR
  go_enter Tryd.func15, Tryd.ntmps15
  go_wp2_with fail
  refine HONE.out.mono ?_
  rintro r w1 ⟨rfl, bel1⟩
  go_wp2
  go_ret
  exact ⟨rfl, HBT.out.trans (bel1.mono HBT.out.size)⟩

theorem rhost_any (a : Int) (w : World) : Calls Tryd.prog 14 #[.int .i64 a] w fun r w' => r = .returned (.bool (hostV a)) ∧ w = w' := by
  by_cases h0 : 16777216 ≤ a
  · by_cases h1 : a < 3758096384
    · have hv : hostV a = (a / 16777216 != 127) := by
        unfold hostV
        rw [Bool.eq_iff_iff]
        simp
        omega
      have hp : 0 ≤ a := by omega
      rw [hv]
      clear hv
      go_enter Tryd.func14, Tryd.ntmps14
      go_wp2
      go_ret
      exact ⟨rfl, rfl⟩
    · have hv : hostV a = false := by unfold hostV; simp; omega
      rw [hv]
      clear hv
      go_enter Tryd.func14, Tryd.ntmps14
      go_wp2
      go_ret
      exact ⟨rfl, rfl⟩
  · have hv : hostV a = false := by unfold hostV; simp; omega
    rw [hv]
    clear hv
    go_enter Tryd.func14, Tryd.ntmps14
    go_wp2
    go_ret
    exact ⟨rfl, rfl⟩
theorem rpriv_any (a : Int) (w : World) : Calls Tryd.prog 16 #[.int .i64 a] w fun r w' => r = .returned (.bool (privV a)) ∧ w = w' := by
  obtain ⟨R, hR⟩ : ∃ R, privV a = R := ⟨_, rfl⟩
  rw [hR]
  have HR := Lib.hid hR
  clear hR
  have fin : ∀ b : Bool, (b = true ↔ ((167772160 ≤ a ∧ a ≤ 184549375) ∨ (2886729728 ≤ a ∧ a ≤ 2887778303) ∨ (3232235520 ≤ a ∧ a ≤ 3232301055))) → b = R := fun b hb => by
    rw [← HR.out]
    unfold privV
    rw [Bool.eq_iff_iff, hb]
    simp
  have FIN := Lib.hid fin
  clear fin
  by_cases a0 : 167772160 ≤ a <;> by_cases a1 : a ≤ 184549375 <;> by_cases b0 : 2886729728 ≤ a <;> by_cases b1 : a ≤ 2887778303 <;> by_cases c0 : 3232235520 ≤ a <;> by_cases c1 : a ≤ 3232301055 <;>
    first
    | (exfalso; omega)
    | (go_enter Tryd.func16, Tryd.ntmps16
       go_wp2
       go_ret
       refine ⟨?_, rfl⟩
       first
       | exact congrArg (fun b => Ending.returned (Value.bool b)) (FIN.out true (by simp; omega))
       | exact congrArg (fun b => Ending.returned (Value.bool b)) (FIN.out false (by simp; omega)))
end Go.Proofs.YtngdomefipcemaaDoor
