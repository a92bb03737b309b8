/-
  cmd: endpoints, by the document.
-/
import Derived.Test.YtkbbkddepcjoaaaDoorCmdJ
namespace Go.Proofs.YtkbbkddepcjoaaaDoor
open Go.RowKit Go.Great

def inC (q : Int × Int × Int × Int) : Array Value := #[.int .i64 q.1, .int .i64 q.2.1, .int .i64 q.2.2.1, .int .i64 q.2.2.2]
def ouC (r : Int × Int × Int) : Array Value := #[.int .i64 r.1, .int .i64 r.2.1, .int .i64 r.2.2]
theorem in_size {q : Int × Int × Int × Int} : (Tryd.prog.info? 24).map (·.size) = some (inC q).size := (by kernel_rfl : (Tryd.prog.info? 24).map (·.size) = some 4)
theorem ou_size {r : Int × Int × Int} : (Tryd.prog.info? 26).map (·.size) = some (ouC r).size := (by kernel_rfl : (Tryd.prog.info? 26).map (·.size) = some 3)
theorem rinner_ret {w W : World} {a : Act} {q : Int × Int × Int × Int} {z : Bool} {R : Ending → World → Prop} (h2 : a.tmps[2]?.getD undef = .pointer (some ⟨w.heap.size, 0, none⟩)) (h3 : a.tmps[3]?.getD undef = .bool z) (hd : a.defers = [])
    (hb : Blk W w.heap.size 24 (inC q)) (hR : R (.returned (.tuple #[.agg (inC q), .bool z])) W) : bodyPost Tryd.prog Tryd.f35 R .ret a W := by
  refine bodyPost_ret (v := .tuple #[.agg (inC q), .bool z]) ?_ hd hR
  simp [results, Tryd.f35, asAddr, h2, h3, run_loadVar_row _ w.heap.size 24 24 (inC q) (0, 0) _ hb Tryd.underlying24 rfl in_size]
theorem router_ret {w W : World} {a : Act} {q : Int × Int × Int} {z : Bool} {R : Ending → World → Prop} (h2 : a.tmps[4]?.getD undef = .pointer (some ⟨w.heap.size, 0, none⟩)) (h3 : a.tmps[5]?.getD undef = .bool z) (hd : a.defers = [])
    (hb : Blk W w.heap.size 26 (ouC q)) (hR : R (.returned (.tuple #[.agg (ouC q), .bool z])) W) : bodyPost Tryd.prog Tryd.f36 R .ret a W := by
  refine bodyPost_ret (v := .tuple #[.agg (ouC q), .bool z]) ?_ hd hR
  simp [results, Tryd.f36, asAddr, h2, h3, run_loadVar_row _ w.heap.size 26 26 (ouC q) (0, 0) _ hb Tryd.underlying26 rfl ou_size]

def InP (w : World) (o : Option (Nat × Nat × Nat × Nat)) (e : Ending) (w' : World) : Prop := ∃ q, e = .returned (.tuple #[.agg (inC q), .bool o.isSome]) ∧ (∀ x, o = some x → q = innerI x) ∧ Below w.heap.size w w'
def OuP (w : World) (p : Int) (o : Option (Nat × Nat)) (e : Ending) (w' : World) : Prop := ∃ q, e = .returned (.tuple #[.agg (ouC q), .bool o.isSome]) ∧ (∀ x, o = some x → q = (p, (x.1 : Int), (x.2 : Int))) ∧ Below w.heap.size w w'

set_option linter.unusedSimpArgs false in
set_option maxRecDepth 100000 in
set_option maxHeartbeats 4000000 in
theorem rinner_any (A : Option Addr) (n m : Nat) (a b c d : List UInt8) (r : List (List UInt8)) (ha : a.length ≤ 1048576) (hc : c.length ≤ 1048576) (hd : d.length ≤ 1048576) (w : World) (h : TS w.heap.size w A n m (a :: b :: c :: d :: r)) : Calls Tryd.prog 35 #[.slice A n m] w (InP w (innerL a b c d)) := by
  have hn4 : 4 ≤ n := by have := h.1; simp at this; omega
  have h1 := h.kept ((Below.refl _ _).alloc (o := .cells (inC (0, 0, 0, 0)) 24) (Nat.le_refl _))
  obtain ⟨g, o, rfl, x0, _⟩ := h1.at_ (k := 0) rfl
  obtain ⟨g', o', e', x1, _⟩ := h1.at_ (k := 1) rfl
  injection e' with e'; injection e' with e1 e2; subst e1; subst e2
  obtain ⟨g', o', e', x2, _⟩ := h1.at_ (k := 2) rfl
  injection e' with e'; injection e' with e1 e2; subst e1; subst e2
  obtain ⟨g', o', e', x3, _⟩ := h1.at_ (k := 3) rfl
  injection e' with e'; injection e' with e1 e2; subst e1; subst e2
  unfold inC at x0 x1 x2 x3
  simp only [Nat.add_zero] at x0
  have i0 : (0 : Int) < (n : Int) := by omega
  have i1 : (1 : Int) < (n : Int) := by omega
  have i2 : (2 : Int) < (n : Int) := by omega
  have i3 : (3 : Int) < (n : Int) := by omega
  have c1 := fun W => rnum_any a 63 ha W
  have c2 := fun W => rproto_any b W
  have c3 := fun W => rparse_any c hc W
  have c4 := fun W => rnum_any d 65535 hd W
  obtain ⟨N1, hN1⟩ : ∃ N, (numV a 63).getD 0 = N := ⟨_, rfl⟩
  obtain ⟨N2, hN2⟩ : ∃ N, (protoV b).getD 0 = N := ⟨_, rfl⟩
  obtain ⟨N3, hN3⟩ : ∃ N, (parseV c).getD 0 = N := ⟨_, rfl⟩
  obtain ⟨N4, hN4⟩ : ∃ N, (numV d 65535).getD 0 = N := ⟨_, rfl⟩
  obtain ⟨B1, hB1⟩ : ∃ B, (numV a 63).isSome = B := ⟨_, rfl⟩
  obtain ⟨B2, hB2⟩ : ∃ B, (protoV b).isSome = B := ⟨_, rfl⟩
  obtain ⟨B3, hB3⟩ : ∃ B, (parseV c).isSome = B := ⟨_, rfl⟩
  obtain ⟨B4, hB4⟩ : ∃ B, (numV d 65535).isSome = B := ⟨_, rfl⟩
  have hO : (innerL a b c d).isSome = (B1 && B2 && B3 && B4) := by
    rw [← hB1, ← hB2, ← hB3, ← hB4]
    unfold innerL
    cases numV a 63 <;> cases protoV b <;> cases parseV c <;> cases numV d 65535 <;> rfl
  have hQ : ∀ x, innerL a b c d = some x → ((N1 : Int), (N2 : Int), (N3 : Int), (N4 : Int)) = innerI x := by
    intro x hx
    rw [← hN1, ← hN2, ← hN3, ← hN4]
    exact innerL_good hx
  unfold numR at c1 c2 c4
  unfold pvV at c3
  rw [hN1, hB1] at c1
  rw [hN2, hB2] at c2
  rw [hN3, hB3] at c3
  rw [hN4, hB4] at c4
  obtain ⟨E3, hE3⟩ : ∃ E : Int, (if B3 = true then 0 else 4) = E := ⟨_, rfl⟩
  rw [hE3] at c3
  have e3 : (E3 != 0) = !B3 := by rw [← hE3]; cases B3 <;> rfl
  obtain ⟨O, hOO⟩ : ∃ O, innerL a b c d = O := ⟨_, rfl⟩
  rw [hOO] at hO hQ ⊢
  clear h h1 hN1 hN2 hN3 hN4 hB1 hB2 hB3 hB4 hE3 hOO
  have C1 := Lib.hid c1
  have C2 := Lib.hid c2
  have C3 := Lib.hid c3
  have C4 := Lib.hid c4
  have HO := Lib.hid hO
  have HQ := Lib.hid hQ
  clear c1 c2 c3 c4 hO hQ
  go_enter Tryd.func35, Tryd.ntmps35
  go_wp2_with (first
    | (go_at_call 20; refine (C2.out _).mono ?_; rintro e w2 ⟨rfl, rfl⟩)
    | (go_at_call 55; refine (C3.out _).mono ?_; rintro e w2 ⟨rfl, rfl⟩)
    | (go_at_call 18; first | (with_reducible refine (C1.out _).mono ?_) | (with_reducible refine (C4.out _).mono ?_); rintro e w2 ⟨rfl, rfl⟩))
  all_goals
    clear x0 x1 x2 x3 C1 C2 C3 C4
    rename_i hz
    try simp only [Bool.not_eq_true', Bool.not_eq_false'] at hz
  all_goals first
    | (refine rinner_ret (w := w) (q := (N1, N2, N3, N4)) (z := true) rfl rfl rfl (Blk.new _ _ _) ⟨_, ?_, HQ.out, (Below.refl _ _).alloc (Nat.le_refl _) _⟩; have ho := HO.out; simp [*] at ho; rw [ho])
    | (refine rinner_ret (w := w) (q := (0, 0, 0, 0)) (z := false) rfl rfl rfl (Blk.new _ _ _) ?_; have ho : O = none := (by have ho := HO.out; simp [*] at ho; exact ho); rw [ho]; exact ⟨_, rfl, nofun, (Below.refl _ _).alloc (Nat.le_refl _) _⟩)

set_option linter.unusedSimpArgs false in
set_option maxRecDepth 100000 in
set_option maxHeartbeats 4000000 in
theorem router_any (A : Option Addr) (n m : Nat) (p : Int) (c d : List UInt8) (r : List (List UInt8)) (hc : c.length ≤ 1048576) (hd : d.length ≤ 1048576) (w : World) (h : TS w.heap.size w A n m (c :: d :: r)) : Calls Tryd.prog 36 #[.slice A n m, .int .i64 p] w (OuP w p (outerL c d)) := by
  have hn4 : 2 ≤ n := by have := h.1; simp at this; omega
  have h1 := h.kept ((Below.refl _ _).alloc (o := .cells (ouC (0, 0, 0)) 26) (Nat.le_refl _))
  obtain ⟨g, o, rfl, x0, _⟩ := h1.at_ (k := 0) rfl
  obtain ⟨g', o', e', x1, _⟩ := h1.at_ (k := 1) rfl
  injection e' with e'; injection e' with e1 e2; subst e1; subst e2
  unfold ouC at x0 x1
  simp only [Nat.add_zero] at x0
  have i0 : (0 : Int) < (n : Int) := by omega
  have i1 : (1 : Int) < (n : Int) := by omega
  have c3 := fun W => rparse_any c hc W
  have c4 := fun W => rnum_any d 65535 hd W
  obtain ⟨N3, hN3⟩ : ∃ N, (parseV c).getD 0 = N := ⟨_, rfl⟩
  obtain ⟨N4, hN4⟩ : ∃ N, (numV d 65535).getD 0 = N := ⟨_, rfl⟩
  obtain ⟨B3, hB3⟩ : ∃ B, (parseV c).isSome = B := ⟨_, rfl⟩
  obtain ⟨B4, hB4⟩ : ∃ B, (numV d 65535).isSome = B := ⟨_, rfl⟩
  have hO : (outerL c d).isSome = (B3 && B4) := by
    rw [← hB3, ← hB4]
    unfold outerL
    cases parseV c <;> cases numV d 65535 <;> rfl
  have hQ : ∀ x, outerL c d = some x → ((p : Int), (N3 : Int), (N4 : Int)) = (p, (x.1 : Int), (x.2 : Int)) := by
    intro x hx
    obtain ⟨u, v⟩ := x
    obtain ⟨h1, h2⟩ := outerL_some hx
    rw [← hN3, ← hN4, h1, h2]
    rfl
  unfold numR at c4
  unfold pvV at c3
  rw [hN3, hB3] at c3
  rw [hN4, hB4] at c4
  obtain ⟨E3, hE3⟩ : ∃ E : Int, (if B3 = true then 0 else 4) = E := ⟨_, rfl⟩
  rw [hE3] at c3
  have e3 : (E3 != 0) = !B3 := by rw [← hE3]; cases B3 <;> rfl
  obtain ⟨O, hOO⟩ : ∃ O, outerL c d = O := ⟨_, rfl⟩
  rw [hOO] at hO hQ ⊢
  clear h h1 hN3 hN4 hB3 hB4 hE3 hOO
  have C3 := Lib.hid c3
  have C4 := Lib.hid c4
  have HO := Lib.hid hO
  have HQ := Lib.hid hQ
  clear c3 c4 hO hQ
  go_enter Tryd.func36, Tryd.ntmps36
  go_wp2_with (first
    | (go_at_call 55; refine (C3.out _).mono ?_; rintro e w2 ⟨rfl, rfl⟩)
    | (go_at_call 18; refine (C4.out _).mono ?_; rintro e w2 ⟨rfl, rfl⟩))
  all_goals
    clear x0 x1 C3 C4
    rename_i hz
    try simp only [Bool.not_eq_true', Bool.not_eq_false'] at hz
  all_goals first
    | (refine router_ret (w := w) (q := (p, N3, N4)) (z := true) rfl rfl rfl (Blk.new _ _ _) ⟨_, ?_, HQ.out, (Below.refl _ _).alloc (Nat.le_refl _) _⟩; have ho := HO.out; simp [*] at ho; rw [ho])
    | (refine router_ret (w := w) (q := (0, 0, 0)) (z := false) rfl rfl rfl (Blk.new _ _ _) ?_; have ho : O = none := (by have ho := HO.out; simp [*] at ho; exact ho); rw [ho]; exact ⟨_, rfl, nofun, (Below.refl _ _).alloc (Nat.le_refl _) _⟩)
end Go.Proofs.YtkbbkddepcjoaaaDoor
