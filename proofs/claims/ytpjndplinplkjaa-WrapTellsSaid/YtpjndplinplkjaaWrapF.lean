/-
  wrap: the law's own example (awake): the walk.
-/
import Derived.Test.YtpjndplinplkjaaWrapE
namespace Go.Proofs.Ytpjndplinplkjaa
open Go.RowKit Go.Great

theorem wrapped_ok {w w' : World} {h : Int} {s d : Nat → Int} {n : Nat} {xs : List Int} {e : Ending} (hc : chk h = 0) (H : Wrapped w h s d n xs e w') :
    ∃ A' c', e = .returned (.tuple #[.agg (wrapped h s d (.slice A' n c')), .int .i64 0]) ∧ BReads w' A' n xs ∧ Below w.heap.size w w' := by
  obtain ⟨A', c', h1, h2, h3⟩ := H
  exact ⟨A', c', by rw [h1, hc]; rfl, h2, h3⟩

theorem unwrapped_ok {w w' : World} {xs : List Int} {e : Ending} (H : Unwrapped w 4 xs e w') :
    ∃ A' m c', e = .returned (.tuple #[.slice A' m c', .int .i64 0]) ∧ BReads w' A' m xs ∧ Below w.heap.size w w' := by
  obtain ⟨A', m, c', h1, h2, h3⟩ := H
  exact ⟨A', m, c', h1, h2, h3⟩

theorem breads_one (w : World) (t : TypeId) : BReads (w.alloc (.cells #[.int .u8 7] t)) (some ⟨w.heap.size, 0, none⟩) 1 [7] :=
  ⟨Reads.of_blk (Blk.new w t _) rfl rfl (by simp), fun e => by cases e⟩

/-- Unwrap of what Wrap handed back. -/
theorem unwrap_of {h : Int} {s d : Nat → Int} {cs : Array Value} {A : Option Addr} {n c : Nat} {xs : List Int} {w : World} (hcs : cs = wrapped h s d (.slice A n c)) (hr : BReads w A n xs) (hn : n ≤ 1099511627776) :
    Calls Try.prog 8 #[.agg cs] w fun e w' => ∃ A' m c', e = .returned (.tuple #[.slice A' m c', .int .i64 0]) ∧ BReads w' A' m xs ∧ Below w.heap.size w w' := by
  subst hcs
  exact (unwrap_any 0 0 4 h s d A n c xs w hr hn).mono fun _ _ H => unwrapped_ok H

theorem size_of_wrapped {h : Int} {s d : Nat → Int} {cs : Array Value} {A : Option Addr} {n c : Nat} (hcs : cs = wrapped h s d (.slice A n c)) :
    (Try.prog.info? 26).map (·.size) = some cs.size ∧ none6.size = cs.size ∧ cs.all (·.oneCell') = true := by
  subst hcs
  exact ⟨v6_size, rfl, one6 0 0 4 h s d A n c⟩

def six1 : Nat → Int := fun i => if i = 0 then 1 else 0
def six2 : Nat → Int := fun i => if i = 0 then 2 else 0

set_option maxRecDepth 100000 in
set_option maxHeartbeats 4000000 in
theorem awake_any (w : World) : Calls Try.prog 5 #[] w fun r w' => r = .returned (.bool true) ∧ Below w.heap.size w w' := by
  go_enter Try.func5, Try.ntmps5
  go_wp2_with fail
  refine (wrap_any 64 six1 six2 (some ⟨w.heap.size, 0, none⟩) 1 1 [7] _ (breads_one w _) (by decide) (by decide)).mono ?_
  intro r w1 H1
  obtain ⟨A1, c1, rfl, h1, b1⟩ := wrapped_ok rfl H1
  clear H1
  have B1 := Lib.hid (((Below.refl w.heap.size w).alloc (Nat.le_refl _) _).trans (b1.mono (by simp)))
  clear b1
  have H1 := Lib.hid h1
  clear h1
  obtain ⟨cs, hcs⟩ : ∃ cs, cs = wrapped 64 six1 six2 (.slice A1 1 c1) := ⟨_, rfl⟩
  rw [← hcs]
  obtain ⟨s1, s2, s3⟩ := size_of_wrapped hcs
  have CS := Lib.hid hcs
  have S1 := Lib.hid s1
  have S2 := Lib.hid s2
  have S3 := Lib.hid s3
  have KN := Lib.hid (show Blk (w1.alloc (.cells none6 26)) w1.heap.size 26 none6 from Blk.at_ rfl)
  have KR := Lib.hid (KN.out.row (cs := cs))
  have B2 := Lib.hid (below_setRow ((Below.refl w1.heap.size w1).alloc (Nat.le_refl _) (.cells none6 26)) (Nat.le_refl _) cs)
  clear hcs s1 s2 s3
  go_wp2_with (first
    | (refine wpList_store_row rfl 26 (.tmp 1) (.tmp 12) rfl w1.heap.size cs rfl rfl 26 none6 KN.out S1.out S2.out S3.out ?_)
    | (refine wpList_load_row rfl 26 (.tmp 1) rfl w1.heap.size rfl 26 cs (0, 0) _ KR.out Try.underlying26 rfl S1.out ?_))
  refine (unwrap_of CS.out (H1.out.below B2.out) (by decide)).mono ?_
  rintro r w2 ⟨A2, m2, c2, rfl, h2, b2⟩
  have B3 := Lib.hid (B1.out.trans ((B2.out.trans (b2.mono (by simp))).mono B1.out.size))
  have H2 := Lib.hid h2
  clear B1 B2 H1 b2 h2 KN KR CS S1 S2 S3
  go_wp2_with fail
  refine (hop_nil _).mono ?_
  rintro r w3 ⟨rfl, b3⟩
  have B4 := Lib.hid (B3.out.trans (b3.mono B3.out.size))
  have H3 := Lib.hid (H2.out.below b3)
  clear B3 b3 H2
  go_wp2_with fail
  have sz : (w3.alloc (.cells (four4 1) 28)).heap.size = w3.heap.size + 1 := by simp
  have b5 : Below w3.heap.size w3 ((w3.alloc (.cells (four4 1) 28)).alloc (.cells #[.int .u8 7] 5)) := ((Below.refl _ _).alloc (Nat.le_refl _) _).alloc (by simp) _
  refine (equal_same A2 (some ⟨w3.heap.size + 1, 0, none⟩) m2 1 c2 1 [7] _ (H3.out.below b5) (sz ▸ breads_one (w3.alloc (.cells (four4 1) 28)) 5)).mono ?_
  rintro r w5 ⟨rfl, rfl⟩
  have B5 := Lib.hid (B4.out.trans (b5.mono B4.out.size))
  clear b5 sz B4 H3
  go_wp2_with fail
  refine (room_1500 _).mono ?_
  rintro r w6 ⟨rfl, rfl⟩
  go_wp2
  go_ret
  exact ⟨rfl, B5.out⟩
end Go.Proofs.Ytpjndplinplkjaa
