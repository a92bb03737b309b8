/-
  rate.Bucket and the document's Bucket: the walks of pass, Left, Take, Wait, New.
-/
import Derived.Test.YtfonbimaknhkcaaRows
import Derived.Test.YtfonbimaknhkcaaBase
import Derived.Test.YtfonbimaknhkcaaQuiet
import Derived.WalkKit
import Derived.WalkSpells
import Derived.WalkLawsBesides
import Derived.Deep.QuietTactic
import Derived.BigQuiet
import Derived.Deep.RegionHeld3
import Derived.Deep.DrawnRows
import Derived.Lib.Hide
namespace Go.Proofs.Ytfonbimaknhkcaa
open Go.RowKit
attribute [local go_sem ↓] Go.wp_at_zero Go.wp_at_succ

set_option maxHeartbeats 400000 in
theorem between_any (e m a b : Int) (w : World) (h1 : 1 ≤ e) (h2 : 0 ≤ a) (h3 : 0 ≤ b) (h4 : b ≤ 1099511627776) (h5 : a ≤ 1099511627776) :
    Calls Try.prog 20 #[.agg #[.int .i64 e, .int .i64 m], .int .i64 a, .int .i64 b] w fun r w' => r = .returned (.int .i64 (b / e - a / e)) ∧ Below w.heap.size w w' := by
  have q1 : 0 ≤ a / e := Int.ediv_nonneg h2 (by omega)
  have q2 : 0 ≤ b / e := Int.ediv_nonneg h3 (by omega)
  have q3 : a / e ≤ a := Int.ediv_le_self _ h2
  have q4 : b / e ≤ b := Int.ediv_le_self _ h3
  go_enter Try.func20, Try.ntmps20
  go_wp2
  go_quiet (fail)
  go_wp2
  go_ret
  exact ⟨rfl, below_drewN ((Below.refl _ _).alloc (Nat.le_refl _) _) _⟩

/-- The clock behind a call at t, and how many tokens there are. -/
def nowOf (n t : Int) : Int := max n (min t 1099511627776)
def leftOf (e m l n t : Int) : Int := min (l + (nowOf n t / e - n / e)) m

def B4 (e m l n : Int) : Array Value := #[.int .i64 e, .int .i64 m, .int .i64 l, .int .i64 n]

set_option maxHeartbeats 1000000 in
theorem pass_any (g : Nat) (e m l n t : Int) (w : World) (hb : Blk w g 42 (B4 e m l n)) (h1 : 1 ≤ e) (h2 : 0 ≤ l) (h3 : l ≤ m) (h4 : m ≤ 1048576) (h5 : 0 ≤ n) (h6 : n ≤ 1099511627776) :
    Calls Try.prog 19 #[.pointer (some ⟨g, 0, none⟩), .int .i64 t] w fun r w' => r = .returned (.tuple #[]) ∧ Blk w' g 42 (B4 e m (leftOf e m l n t) (nowOf n t)) ∧ w.grownBy w' (some g) := by
  have c0 : w.cell? ⟨g, 0, none⟩ = some (.int .i64 e) := hb.cell 0
  have c1 : w.cell? ⟨g, 1, none⟩ = some (.int .i64 m) := hb.cell 1
  have c2 : w.cell? ⟨g, 2, none⟩ = some (.int .i64 l) := hb.cell 2
  have c3 : w.cell? ⟨g, 3, none⟩ = some (.int .i64 n) := hb.cell 3
  have f2 := hb.frozen 2
  have f3 := hb.frozen 3
  have hlt := hb.lt
  have HB := Lib.hid hb
  clear hb
  have q1 : 0 ≤ n / e := Int.ediv_nonneg h5 (by omega)
  have q2 : n / e ≤ n := Int.ediv_le_self _ h5
  obtain ⟨v1, hm1⟩ : ∃ v1, (if 1099511627776 < t then 1099511627776 else t) = v1 := ⟨_, rfl⟩
  obtain ⟨v, hm2⟩ : ∃ v, (if n < v1 then v1 else n) = v := ⟨_, rfl⟩
  have e1 : nowOf n t = v := by unfold nowOf; rw [← hm2, ← hm1]; split <;> split <;> omega
  have r1 : n ≤ v := by rw [← hm2]; split <;> omega
  have r2 : v ≤ 1099511627776 := by rw [← hm2, ← hm1]; split <;> (try split) <;> omega
  have r0 : 0 ≤ v := by omega
  have q3 : 0 ≤ v / e := Int.ediv_nonneg (by omega) (by omega)
  have q4 : v / e ≤ v := Int.ediv_le_self _ (by omega)
  have q5 : n / e ≤ v / e := Int.ediv_le_ediv (by omega) r1
  obtain ⟨u, hm3⟩ : ∃ u, (if m < l + (v / e - n / e) then m else l + (v / e - n / e)) = u := ⟨_, rfl⟩
  have E2 := Lib.hid (show leftOf e m l n t = u by unfold leftOf; rw [e1, ← hm3]; split <;> omega)
  have E1 := Lib.hid e1
  clear e1
  go_enter Try.func19, Try.ntmps19
  go_wp2_with fail
  have d0 := fun p : After w => p.read c0
  have d1 := fun p : After w => p.read c1
  have d2 := fun p : After w => p.read c2
  have d3 := fun p : After w => p.read c3
  refine wp_after_tail 24 (by kernel_rfl) (by kernel_rfl) ?_
  simp only [List.take_succ_cons, List.take_zero, List.drop_succ_cons, List.drop_zero]
  repeat (go_big_quiet_step ((go_at_call 20; exact calls_after (between_any _ _ _ _ _ h1 h5 r0 r2 h6))))
  refine wpQuiet_nil ?_
  intro w' hw'
  obtain ⟨p, rfl⟩ := hw'
  have x2 := p.frozen (a := ⟨g, 2, none⟩) hlt f2
  have x3 := p.frozen (a := ⟨g, 3, none⟩) hlt f3
  go_wp2
  go_end0
  have k1 := only_setCell (g := g) (only_of_below p.below (some g)) (p := ⟨g, 2, none⟩) (.inl rfl) (.int .i64 u)
  have k2 := only_setCell k1 (p := ⟨g, 3, none⟩) (.inl rfl) (.int .i64 v)
  have k3 := ((HB.out.below p.below hlt).set_ 2 (.int .i64 u)).set_ 3 (.int .i64 v)
  refine ⟨rfl, ?_, k2⟩
  rw [E1.out, E2.out]
  exact k3

/-- What holds of a bucket that a call made. -/
def Good (w : World) (g : Nat) (t : TypeId) (e m l n : Int) : Prop := Blk w g t (B4 e m l n)

theorem nowOf_bd (n t : Int) (h5 : 0 ≤ n) (h6 : n ≤ 1099511627776) : n ≤ nowOf n t ∧ nowOf n t ≤ 1099511627776 := by unfold nowOf; omega
theorem leftOf_bd (e m l n t : Int) (h1 : 1 ≤ e) (h2 : 0 ≤ l) (h3 : l ≤ m) (h5 : 0 ≤ n) (h6 : n ≤ 1099511627776) : 0 ≤ leftOf e m l n t ∧ leftOf e m l n t ≤ m := by
  have := nowOf_bd n t h5 h6
  have q5 : n / e ≤ nowOf n t / e := Int.ediv_le_ediv (by omega) this.1
  unfold leftOf; omega

set_option maxHeartbeats 1000000 in
theorem rpass_any (g : Nat) (e m l n t : Int) (w : World) (hb : Blk w g 44 (B4 e m l n)) (h1 : 1 ≤ e) (h2 : 0 ≤ l) (h3 : l ≤ m) (h4 : m ≤ 1048576) (h5 : 0 ≤ n) (h6 : n ≤ 1099511627776) :
    Calls Try.prog 17 #[.pointer (some ⟨g, 0, none⟩), .int .i64 t] w fun r w' => r = .returned (.tuple #[]) ∧ Blk w' g 44 (B4 e m (leftOf e m l n t) (nowOf n t)) ∧ w.grownBy w' (some g) := by
  have c0 : w.cell? ⟨g, 0, none⟩ = some (.int .i64 e) := hb.cell 0
  have c1 : w.cell? ⟨g, 1, none⟩ = some (.int .i64 m) := hb.cell 1
  have c2 : w.cell? ⟨g, 2, none⟩ = some (.int .i64 l) := hb.cell 2
  have c3 : w.cell? ⟨g, 3, none⟩ = some (.int .i64 n) := hb.cell 3
  have f2 := hb.frozen 2
  have f3 := hb.frozen 3
  have hlt := hb.lt
  have HB := Lib.hid hb
  clear hb
  have q1 : 0 ≤ n / e := Int.ediv_nonneg h5 (by omega)
  have q2 : n / e ≤ n := Int.ediv_le_self _ h5
  obtain ⟨v1, hm1⟩ : ∃ v1, (if 1099511627776 < t then 1099511627776 else t) = v1 := ⟨_, rfl⟩
  obtain ⟨v, hm2⟩ : ∃ v, (if n < v1 then v1 else n) = v := ⟨_, rfl⟩
  have e1 : nowOf n t = v := by unfold nowOf; rw [← hm2, ← hm1]; split <;> split <;> omega
  have r1 : n ≤ v := by rw [← hm2]; split <;> omega
  have r2 : v ≤ 1099511627776 := by rw [← hm2, ← hm1]; split <;> (try split) <;> omega
  have r0 : 0 ≤ v := by omega
  have q3 : 0 ≤ v / e := Int.ediv_nonneg (by omega) (by omega)
  have q4 : v / e ≤ v := Int.ediv_le_self _ (by omega)
  have q5 : n / e ≤ v / e := Int.ediv_le_ediv (by omega) r1
  obtain ⟨u, hm3⟩ : ∃ u, (if m < l + v / e - n / e then m else l + v / e - n / e) = u := ⟨_, rfl⟩
  have E2 := Lib.hid (show leftOf e m l n t = u by unfold leftOf; rw [e1, ← hm3]; split <;> omega)
  have E1 := Lib.hid e1
  clear e1
  go_enter Try.func17, Try.ntmps17
  go_wp2_with fail
  have d0 := fun p : After w => p.read c0
  have d1 := fun p : After w => p.read c1
  have d2 := fun p : After w => p.read c2
  have d3 := fun p : After w => p.read c3
  refine wp_after_tail 29 (by kernel_rfl) (by kernel_rfl) ?_
  simp only [List.take_succ_cons, List.take_zero, List.drop_succ_cons, List.drop_zero]
  repeat (go_big_quiet_step (fail))
  refine wpQuiet_nil ?_
  intro w' hw'
  obtain ⟨p, rfl⟩ := hw'
  have x2 := p.frozen (a := ⟨g, 2, none⟩) hlt f2
  have x3 := p.frozen (a := ⟨g, 3, none⟩) hlt f3
  go_wp2
  go_end0
  have k1 := only_setCell (g := g) (only_of_below p.below (some g)) (p := ⟨g, 2, none⟩) (.inl rfl) (.int .i64 u)
  have k2 := only_setCell k1 (p := ⟨g, 3, none⟩) (.inl rfl) (.int .i64 v)
  have k3 := ((HB.out.below p.below hlt).set_ 2 (.int .i64 u)).set_ 3 (.int .i64 v)
  refine ⟨rfl, ?_, k2⟩
  rw [E1.out, E2.out]
  exact k3
end Go.Proofs.Ytfonbimaknhkcaa
