/-
  WrapBack: the walk. (Printed by wip/gen/wrapG.py.)
-/
import Derived.Test.YtpjndplinplkjaaWrapF
namespace Go.Proofs.Ytpjndplinplkjaa
open Go.RowKit Go.Great

theorem range_src {w : World} {g : Nat} {t : TypeId} {cs : Array Value} {h : Int} {s d : Nat → Int} {x : Value} (hb : Blk w g t cs) (hcs : cs = wrapped h s d x) : w.rangeAt g 4 [.int .u8 (s 0), .int .u8 (s 1), .int .u8 (s 2), .int .u8 (s 3), .int .u8 (s 4), .int .u8 (s 5), .int .u8 (s 6), .int .u8 (s 7), .int .u8 (s 8), .int .u8 (s 9), .int .u8 (s 10), .int .u8 (s 11), .int .u8 (s 12), .int .u8 (s 13), .int .u8 (s 14), .int .u8 (s 15)] := by
  subst hcs
  have := World.rangeAt_of_block hb 4 16
  simpa using this
theorem range_dst {w : World} {g : Nat} {t : TypeId} {cs : Array Value} {h : Int} {s d : Nat → Int} {x : Value} (hb : Blk w g t cs) (hcs : cs = wrapped h s d x) : w.rangeAt g 20 [.int .u8 (d 0), .int .u8 (d 1), .int .u8 (d 2), .int .u8 (d 3), .int .u8 (d 4), .int .u8 (d 5), .int .u8 (d 6), .int .u8 (d 7), .int .u8 (d 8), .int .u8 (d 9), .int .u8 (d 10), .int .u8 (d 11), .int .u8 (d 12), .int .u8 (d 13), .int .u8 (d 14), .int .u8 (d 15)] := by
  subst hcs
  have := World.rangeAt_of_block hb 20 16
  simpa using this

set_option maxRecDepth 100000 in
set_option maxHeartbeats 4000000 in
theorem back_walk (s d : Nat → Int) (hop : Int) (A : Option Addr) (n c : Nat) (xs : List Int) (w : World) (hr : BReads w A n xs) (h0 : 0 ≤ hop) (h1 : hop ≤ 255) (hm : n ≤ 9223372036854775807) :
    Calls Try.prog 4 #[.agg #[.int .u8 (s 0), .int .u8 (s 1), .int .u8 (s 2), .int .u8 (s 3), .int .u8 (s 4), .int .u8 (s 5), .int .u8 (s 6), .int .u8 (s 7), .int .u8 (s 8), .int .u8 (s 9), .int .u8 (s 10), .int .u8 (s 11), .int .u8 (s 12), .int .u8 (s 13), .int .u8 (s 14), .int .u8 (s 15)], .agg #[.int .u8 (d 0), .int .u8 (d 1), .int .u8 (d 2), .int .u8 (d 3), .int .u8 (d 4), .int .u8 (d 5), .int .u8 (d 6), .int .u8 (d 7), .int .u8 (d 8), .int .u8 (d 9), .int .u8 (d 10), .int .u8 (d 11), .int .u8 (d 12), .int .u8 (d 13), .int .u8 (d 14), .int .u8 (d 15)], .int .u8 hop, .slice A n c] w fun r w' => r = .returned (.bool true) ∧ Below w.heap.size w w' := by
  have bw : Below w.heap.size w ((w.alloc (.cells #[.int .u8 (s 0), .int .u8 (s 1), .int .u8 (s 2), .int .u8 (s 3), .int .u8 (s 4), .int .u8 (s 5), .int .u8 (s 6), .int .u8 (s 7), .int .u8 (s 8), .int .u8 (s 9), .int .u8 (s 10), .int .u8 (s 11), .int .u8 (s 12), .int .u8 (s 13), .int .u8 (s 14), .int .u8 (s 15)] 23)).alloc (.cells #[.int .u8 (d 0), .int .u8 (d 1), .int .u8 (d 2), .int .u8 (d 3), .int .u8 (d 4), .int .u8 (d 5), .int .u8 (d 6), .int .u8 (d 7), .int .u8 (d 8), .int .u8 (d 9), .int .u8 (d 10), .int .u8 (d 11), .int .u8 (d 12), .int .u8 (d 13), .int .u8 (d 14), .int .u8 (d 15)] 23)) := ((Below.refl w.heap.size w).alloc (Nat.le_refl _) _).alloc (by simp) _
  have k4 : Blk ((w.alloc (.cells #[.int .u8 (s 0), .int .u8 (s 1), .int .u8 (s 2), .int .u8 (s 3), .int .u8 (s 4), .int .u8 (s 5), .int .u8 (s 6), .int .u8 (s 7), .int .u8 (s 8), .int .u8 (s 9), .int .u8 (s 10), .int .u8 (s 11), .int .u8 (s 12), .int .u8 (s 13), .int .u8 (s 14), .int .u8 (s 15)] 23)).alloc (.cells #[.int .u8 (d 0), .int .u8 (d 1), .int .u8 (d 2), .int .u8 (d 3), .int .u8 (d 4), .int .u8 (d 5), .int .u8 (d 6), .int .u8 (d 7), .int .u8 (d 8), .int .u8 (d 9), .int .u8 (d 10), .int .u8 (d 11), .int .u8 (d 12), .int .u8 (d 13), .int .u8 (d 14), .int .u8 (d 15)] 23)) w.heap.size 23 #[.int .u8 (s 0), .int .u8 (s 1), .int .u8 (s 2), .int .u8 (s 3), .int .u8 (s 4), .int .u8 (s 5), .int .u8 (s 6), .int .u8 (s 7), .int .u8 (s 8), .int .u8 (s 9), .int .u8 (s 10), .int .u8 (s 11), .int .u8 (s 12), .int .u8 (s 13), .int .u8 (s 14), .int .u8 (s 15)] := (Blk.at_ rfl).alloc _
  have k5 : Blk ((w.alloc (.cells #[.int .u8 (s 0), .int .u8 (s 1), .int .u8 (s 2), .int .u8 (s 3), .int .u8 (s 4), .int .u8 (s 5), .int .u8 (s 6), .int .u8 (s 7), .int .u8 (s 8), .int .u8 (s 9), .int .u8 (s 10), .int .u8 (s 11), .int .u8 (s 12), .int .u8 (s 13), .int .u8 (s 14), .int .u8 (s 15)] 23)).alloc (.cells #[.int .u8 (d 0), .int .u8 (d 1), .int .u8 (d 2), .int .u8 (d 3), .int .u8 (d 4), .int .u8 (d 5), .int .u8 (d 6), .int .u8 (d 7), .int .u8 (d 8), .int .u8 (d 9), .int .u8 (d 10), .int .u8 (d 11), .int .u8 (d 12), .int .u8 (d 13), .int .u8 (d 14), .int .u8 (d 15)] 23)) (w.heap.size + 1) 23 #[.int .u8 (d 0), .int .u8 (d 1), .int .u8 (d 2), .int .u8 (d 3), .int .u8 (d 4), .int .u8 (d 5), .int .u8 (d 6), .int .u8 (d 7), .int .u8 (d 8), .int .u8 (d 9), .int .u8 (d 10), .int .u8 (d 11), .int .u8 (d 12), .int .u8 (d 13), .int .u8 (d 14), .int .u8 (d 15)] := Blk.at_ (by simp)
  have BW := Lib.hid bw
  have K4 := Lib.hid k4
  have K5 := Lib.hid k5
  have HR := Lib.hid hr
  clear bw k4 k5 hr
  by_cases hn : 3000 < n
  · go_enter Try.func4, Try.ntmps4
    go_wp2_with fail
    refine (awake_any _).mono ?_
    rintro r w1 ⟨rfl, b1⟩
    go_wp2
    go_ret
    exact ⟨rfl, BW.out.trans (b1.mono (by simp; omega))⟩
  · have hf : fit1 hop = true := by unfold fit1; simp; omega
    have hc : chk hop = 0 := by unfold chk; rw [hf]; rfl
    clear hf
    have HC := Lib.hid hc
    clear hc
    go_enter Try.func4, Try.ntmps4
    go_upto_region 3 with fail
    apply wp_region_lit
    refine wpList_load_row rfl 23 (.tmp 4) rfl w.heap.size rfl 23 _ (0, 0) _ K4.out Try.underlying23 rfl six_size ?_
    refine wpList_load_row rfl 23 (.tmp 5) rfl (w.heap.size + 1) rfl 23 _ (0, 0) _ K5.out Try.underlying23 rfl six_size ?_
    go_wp2_with fail
    refine (wrap_any hop s d A n c xs _ (HR.out.below BW.out) (by omega) (by omega)).mono ?_
    intro r w1 H1
    obtain ⟨A1, c1, rfl, h2, b1⟩ := wrapped_ok HC.out H1
    clear H1
    have B1 := Lib.hid (BW.out.trans (b1.mono (by simp; omega)))
    have lt1 : w.heap.size + 1 + 1 ≤ w1.heap.size := by have := b1.size; simpa using this
    have J4 := Lib.hid (K4.out.below b1 (by simp; omega))
    have J5 := Lib.hid (K5.out.below b1 (by simp))
    have HA := Lib.hid (HR.out.below B1.out)
    have H2 := Lib.hid h2
    clear b1 h2 K4 K5 BW HR
    obtain ⟨cs, hcs⟩ : ∃ cs, cs = wrapped hop s d (.slice A1 n c1) := ⟨_, rfl⟩
    rw [← hcs]
    obtain ⟨s1, s2, s3⟩ := size_of_wrapped hcs
    have CS := Lib.hid hcs
    have S1 := Lib.hid s1
    have S2 := Lib.hid s2
    have S3 := Lib.hid s3
    have KN := Lib.hid (show Blk (w1.alloc (.cells none6 26)) w1.heap.size 26 none6 from Blk.at_ rfl)
    have KR := Lib.hid (KN.out.row (cs := cs))
    have B2 := Lib.hid (below_setRow ((Below.refl w1.heap.size w1).alloc (Nat.le_refl _) (.cells none6 26)) (Nat.le_refl _) cs)
    clear hcs s1 s2 s3
    go_wp2_with (first
      | (refine wpList_store_row rfl 26 (.tmp 9) (.tmp 24) rfl w1.heap.size cs rfl rfl 26 none6 KN.out S1.out S2.out S3.out ?_)
      | (refine wpList_load_row rfl 26 (.tmp 9) rfl w1.heap.size rfl 26 cs (0, 0) _ KR.out Try.underlying26 rfl S1.out ?_))
    refine (unwrap_of CS.out (H2.out.below B2.out) (by omega)).mono ?_
    rintro r w2 ⟨A2, m2, c2, rfl, h3, b2⟩
    have R9 := Lib.hid (KR.out.below b2 (by simp))
    have b3 := B2.out.trans (b2.mono (by simp))
    have R4 := Lib.hid (J4.out.below b3 (by omega))
    have R5 := Lib.hid (J5.out.below b3 (by omega))
    have HB := Lib.hid (HA.out.below b3)
    have B3 := Lib.hid (B1.out.trans (b3.mono B1.out.size))
    have H3 := Lib.hid h3
    clear b2 b3 h3 B1 B2 H2 KN KR J4 J5 HA S1 S2 S3
    go_wp2_with fail
    refine (equal_same A A2 n m2 c c2 xs _ HB.out H3.out).mono ?_
    rintro r w3 ⟨rfl, rfl⟩
    have q1 := fun w => eq16 s w
    have q2 := fun w => eq16 d w
    have RS := Lib.hid (range_src R9.out CS.out)
    have RD := Lib.hid (range_dst R9.out CS.out)
    have m3 : w2.cell? ⟨w1.heap.size, 3, none⟩ = some (.int .i64 hop) := (R9.out.cell 3).trans (by rw [CS.out]; rfl)
    go_wp2_with (first
      | (refine wpList_step fun K hK => ?_; rw [if_pos (by rfl)]; refine wp_load_mid 23 (.tmp 43) rfl w1.heap.size 4 rfl _ _ RS.out Try.underlying23 rfl six_size (hK _ _ ?_))
      | (refine wpList_step fun K hK => ?_; rw [if_pos (by rfl)]; refine wp_load_mid 23 (.tmp 49) rfl w1.heap.size 20 rfl _ _ RD.out Try.underlying23 rfl six_size (hK _ _ ?_))
      | (refine wpList_step fun K hK => ?_; rw [if_pos (by rfl)]; refine wp_load_row 23 (.tmp 4) rfl w.heap.size rfl 23 _ (0, 0) _ R4.out Try.underlying23 rfl six_size (hK _ _ ?_))
      | (refine wpList_step fun K hK => ?_; rw [if_pos (by rfl)]; refine wp_load_row 23 (.tmp 5) rfl (w.heap.size + 1) rfl 23 _ (0, 0) _ R5.out Try.underlying23 rfl six_size (hK _ _ ?_)))
    refine (awake_any _).mono ?_
    rintro r w4 ⟨rfl, b4⟩
    go_wp2
    go_ret
    exact ⟨rfl, B3.out.trans (b4.mono B3.out.size)⟩
end Go.Proofs.Ytpjndplinplkjaa
