/-
  counts.Counts and the document's Counts: New, has, Add, Get at counts that a call made.
-/
import Derived.Test.YtffbimebgledoaaClone
import Derived.Test.YtffbimebgledoaaBase
import Derived.Deep.QuietTactic
import Derived.BigQuiet
namespace Go.Proofs.Ytffbimebgledoaa
open Go.RowKit

def cs (L : List Int) : Array Value := (L.map (Value.int .i64)).toArray
theorem cs_get (L : List Int) (i : Nat) (h : i < L.length) : (cs L)[i]? = some (.int .i64 (L.getD i 0)) := by
  simp [cs, h, List.getD_eq_getElem?_getD]
theorem cs_set (L : List Int) (i : Nat) (v : Int) : (cs L).setIfInBounds i (.int .i64 v) = cs (L.set i v) := by
  simp [cs, List.map_set]

/-- Block g is the struct (of type t), block h its fourteen numbers L. -/
structure Cnt (w : World) (t g h : Nat) (L : List Int) : Prop where
  str : Blk w g t #[.slice (some ⟨h, 0, none⟩) 14 14]
  row : Blk w h 3 (cs L)
  len : L.length = 14
  ne : g ≠ h
theorem Cnt.keep {w w' : World} {t g h : Nat} {L : List Int} (k : Cnt w t g h L) {B : Nat} (hb : Below B w w') (h1 : g < B) (h2 : h < B) : Cnt w' t g h L := ⟨k.str.below hb h1, k.row.below hb h2, k.len, k.ne⟩
theorem Cnt.grown {w w' : World} {t g h : Nat} {L : List Int} (k : Cnt w t g h L) {row : Option Nat} (hb : w.grownBy w' row) (h1 : some g ≠ row) (h2 : some h ≠ row) : Cnt w' t g h L := ⟨k.str.grown hb h1, k.row.grown hb h2, k.len, k.ne⟩

def zero14 : List Int := [0, 0, 0, 0, 0, 0, 0, 0, 0, 0, 0, 0, 0, 0]

set_option maxHeartbeats 400000 in
theorem cnew_any (w : World) : Calls Try.prog 10 #[] w fun r w' => r = .returned (.pointer (some ⟨w.heap.size + 1, 0, none⟩)) ∧ Cnt w' 52 (w.heap.size + 1) w.heap.size zero14 ∧ Below w.heap.size w w' := by
  have hmk : ∀ w, (Instr.makeSlice 22 (.int .i64 14) (.int .i64 14)).run Try.prog w = .ok (.slice (some ⟨w.heap.size, 0, none⟩) 14 14) (w.alloc (.cells (cs zero14) 3)) := fun _ => by kernel_rfl
  go_enter Try.func10, Try.ntmps10
  go_wp2
  go_ret
  have h1 : Blk (w.alloc (.cells (cs zero14) 3)) w.heap.size 3 (cs zero14) := Blk.new _ _ _
  have h2 := Blk.new (w.alloc (.cells (cs zero14) 3)) 52 #[.slice (some ⟨w.heap.size, 0, none⟩) 14 14]
  simp only [World.size_alloc] at h2
  exact ⟨rfl, ⟨h2, h1.alloc _, rfl, by omega⟩, ((Below.refl _ _).alloc (Nat.le_refl _) _).alloc (by simp) _⟩

set_option maxHeartbeats 400000 in
theorem crnew_any (w : World) : Calls Try.prog 11 #[] w fun r w' => r = .returned (.pointer (some ⟨w.heap.size + 1, 0, none⟩)) ∧ Cnt w' 33 (w.heap.size + 1) w.heap.size zero14 ∧ Below w.heap.size w w' := by
  have hmk : ∀ w, (Instr.makeSlice 22 (.int .i64 14) (.int .i64 14)).run Try.prog w = .ok (.slice (some ⟨w.heap.size, 0, none⟩) 14 14) (w.alloc (.cells (cs zero14) 3)) := fun _ => by kernel_rfl
  go_enter Try.func11, Try.ntmps11
  go_wp2
  go_ret
  have h1 : Blk (w.alloc (.cells (cs zero14) 3)) w.heap.size 3 (cs zero14) := Blk.new _ _ _
  have h2 := Blk.new (w.alloc (.cells (cs zero14) 3)) 33 #[.slice (some ⟨w.heap.size, 0, none⟩) 14 14]
  simp only [World.size_alloc] at h2
  exact ⟨rfl, ⟨h2, h1.alloc _, rfl, by omega⟩, ((Below.refl _ _).alloc (Nat.le_refl _) _).alloc (by simp) _⟩

set_option maxHeartbeats 400000 in
theorem chas_any (g h : Nat) (L : List Int) (n : Int) (w : World) (k : Cnt w 52 g h L) :
    Calls Try.prog 32 #[.pointer (some ⟨g, 0, none⟩), .int .i64 n] w fun r w' => r = .returned (.bool (decide (0 ≤ n) && decide (n < 14))) ∧ w = w' := by
  have c0 : w.cell? ⟨g, 0, none⟩ = some (.slice (some ⟨h, 0, none⟩) 14 14) := k.str.cell 0
  by_cases h1 : 0 ≤ n
  · by_cases h2 : n < 14
    all_goals
      go_enter Try.func32, Try.ntmps32
      go_wp2
      go_ret
      exact ⟨by simp [h1, h2], rfl⟩
  · have h2 : n < 0 := by omega
    go_enter Try.func32, Try.ntmps32
    go_wp2
    go_ret
    exact ⟨by simp; omega, rfl⟩

/-- Whether one is counted, and the numbers behind it. -/
def addB (n : Int) : Bool := decide (1 ≤ n) && decide (n < 14)
def addL (n : Int) (L : List Int) : List Int := if addB n then L.set n.toNat (L.getD n.toNat 0 + 1) else L
def getN (n : Int) (L : List Int) : Int := if 0 ≤ n ∧ n < 14 then L.getD n.toNat 0 else 0

set_option maxHeartbeats 400000 in
theorem cadd_any (g h : Nat) (L : List Int) (n : Int) (w : World) (k : Cnt w 52 g h L) (hL : ∀ i, 0 ≤ L.getD i 0 ∧ L.getD i 0 ≤ 1000000) :
    Calls Try.prog 12 #[.pointer (some ⟨g, 0, none⟩), .int .i64 n] w fun r w' => r = .returned (.bool (addB n)) ∧ Cnt w' 52 g h (addL n L) ∧ w.grownBy w' (some h) := by
  have c0 : w.cell? ⟨g, 0, none⟩ = some (.slice (some ⟨h, 0, none⟩) 14 14) := k.str.cell 0
  have hh := Lib.hid (chas_any g h L n w k)
  have K := Lib.hid k
  by_cases h1 : 0 ≤ n ∧ n < 14
  · by_cases h0 : n = 0
    · subst h0
      clear k
      go_enter Try.func12, Try.ntmps12
      go_wp2_with fail
      refine hh.out.mono ?_
      rintro r w' ⟨rfl, rfl⟩
      go_wp2
      go_ret
      exact ⟨rfl, by simpa [addL, addB] using K.out, only_refl _ _⟩
    · obtain ⟨i, rfl⟩ := Int.eq_ofNat_of_zero_le h1.1
      obtain ⟨h2, h3⟩ := h1
      have hi : i < 14 := by omega
      have hi1 : 1 ≤ i := by omega
      have c1 : w.cell? ⟨h, i, none⟩ = some (.int .i64 (L.getD i 0)) := (k.row.cell i).trans (cs_get L i (by rw [k.len]; exact hi))
      have f1 := k.row.frozen i
      obtain ⟨b1, b2⟩ := hL i
      have hs := (k.row.set_ i (.int .i64 (L.getD i 0 + 1)))
      rw [cs_set] at hs
      have hst := k.str.far (p := ⟨h, i, none⟩) k.ne (.int .i64 (L.getD i 0 + 1))
      have e1 : addB (i : Int) = true := by simp [addB]; omega
      have HF : Hid (addB (i : Int) = true ∧ Cnt (w.setCell ⟨h, i, none⟩ (.int .i64 (L.getD i 0 + 1))) 52 g h (addL i L)) := ⟨e1, hst, by rw [addL, if_pos e1]; simpa using hs, by rw [addL, if_pos e1]; simpa using k.len, k.ne⟩
      have d1 : decide ((0 : Int) ≤ (i : Int)) = true := by simp
      have d2 : decide ((i : Int) < 14) = true := by simp; omega
      rw [d1, d2] at hh
      generalize L.getD i 0 = v at *
      clear k hs hst e1 hL d1 d2
      go_enter Try.func12, Try.ntmps12
      go_wp2_with fail
      refine hh.out.mono ?_
      rintro r w' ⟨rfl, rfl⟩
      go_wp2
      go_ret
      exact ⟨by rw [HF.out.1]; rfl, HF.out.2, only_setCell (only_refl _ _) (p := ⟨h, i, none⟩) (.inl rfl) _⟩
  · have e1 : (decide (0 ≤ n) && decide (n < 14)) = false := by simp; omega
    have e2 : addB n = false := by simp [addB]; omega
    have E2 := Lib.hid e2
    rw [e1] at hh
    clear k e1 e2
    go_enter Try.func12, Try.ntmps12
    go_wp2_with fail
    refine hh.out.mono ?_
    rintro r w' ⟨rfl, rfl⟩
    go_wp2
    go_ret
    rw [E2.out]
    exact ⟨rfl, by have := E2.out; simpa [addL, this] using K.out, only_refl _ _⟩
end Go.Proofs.Ytffbimebgledoaa
