/-
  wrap: Hop of any packet: the walk.
-/
import Derived.Test.YtpjndplinplkjaaWrapI
namespace Go.Proofs.Ytpjndplinplkjaa
open Go.RowKit Go.Great

/-- The cells of a packet that has gone one further. -/
def less (f : Nat → Int) : Nat → Int := fun i => if i = 3 then f 3 - 1 else f i

/-- What Hop hands back. -/
def Hopped (w : World) (f : Nat → Int) (p q : Bool) (xs ys : List Int) (e : Ending) (w' : World) : Prop :=
  ∃ A n a B m b, e = .returned (.tuple #[.agg (cells4 (less f) p q (.slice A n a) (.slice B m b)), .bool true]) ∧ BReads w' A n xs ∧ BReads w' B m ys ∧ Below w.heap.size w w'

theorem one4 (f : Nat → Int) (p q : Bool) (A B : Option Addr) (n m a b : Nat) : (cells4 f p q (.slice A n a) (.slice B m b)).all (·.oneCell') = true := by simp [Value.oneCell']

/-- A world in which the packet's block stands, whose rest is as in w. -/
def Mid (w : World) (f : Nat → Int) (p q : Bool) (x y : Value) (w' : World) : Prop :=
  Blk w' w.heap.size 28 (cells4 f p q x y) ∧ Blk w' (w.heap.size + 1) 28 (four4 0) ∧ Below w.heap.size w w'

set_option maxRecDepth 100000 in
set_option maxHeartbeats 4000000 in
theorem hop_any (f : Nat → Int) (p q : Bool) (A B : Option Addr) (n m a b : Nat) (xs ys : List Int) (w : World) (h1 : BReads w A n xs) (h2 : BReads w B m ys) (hn : n ≤ 3000) (hm : m ≤ 3000) (ht : 1 < f 3) (ht2 : f 3 ≤ 9223372036854775807) :
    Calls Try.prog 10 #[.agg (cells4 f p q (.slice A n a) (.slice B m b))] w (Hopped w f p q xs ys) := by
  have H1 := Lib.hid h1
  have H2 := Lib.hid h2
  clear h1 h2
  go_enter Try.func10, Try.ntmps10
  go_wp2_with fail
  have bw : Below w.heap.size w ((w.alloc (.cells (cells4 (less f) p q (.slice A n a) (.slice B m b)) 28)).alloc (.cells (four4 0) 28)) := ((Below.refl _ _).alloc (Nat.le_refl _) _).alloc (by simp) _
  have k1 : Blk ((w.alloc (.cells (cells4 (less f) p q (.slice A n a) (.slice B m b)) 28)).alloc (.cells (four4 0) 28)) w.heap.size 28 (cells4 (less f) p q (.slice A n a) (.slice B m b)) := (Blk.at_ rfl).alloc _
  have k2 : Blk ((w.alloc (.cells (cells4 (less f) p q (.slice A n a) (.slice B m b)) 28)).alloc (.cells (four4 0) 28)) (w.heap.size + 1) 28 (four4 0) := Blk.at_ (by simp)
  have sz : ((w.alloc (.cells (cells4 (less f) p q (.slice A n a) (.slice B m b)) 28)).alloc (.cells (four4 0) 28)).heap.size = w.heap.size + 1 + 1 := by simp
  change Code.wp _ _ _ _ ((w.alloc (.cells (cells4 (less f) p q (.slice A n a) (.slice B m b)) 28)).alloc (.cells (four4 0) 28))
  generalize ((w.alloc (.cells (cells4 (less f) p q (.slice A n a) (.slice B m b)) 28)).alloc (.cells (four4 0) 28)) = W0 at bw k1 k2 sz ⊢
  have HA := Lib.hid (H1.out.below bw)
  have HB := Lib.hid (H2.out.below bw)
  have J1 := Lib.hid k1
  have J2 := Lib.hid k2
  have BW := Lib.hid bw
  clear bw k1 k2 H1 H2
  have c9 : W0.cell? ⟨w.heap.size, 9, none⟩ = some (.slice A n a) := J1.out.cell 9
  have c10 : W0.cell? ⟨w.heap.size, 10, none⟩ = some (.slice B m b) := J1.out.cell 10
  have z9 : W0.frozen? ⟨w.heap.size, 9, none⟩ = false := J1.out.frozen 9
  have z10 : W0.frozen? ⟨w.heap.size, 10, none⟩ = false := J1.out.frozen 10
  go_region_with (first
    | (go_at_call 17
       refine (clone_f A n a xs W0.drew HA.out (by omega)).mono ?_
       rintro r w1 ⟨A1, c1, rfl, ha, hb, hc⟩
       have HA1 := Lib.hid ha
       have HB1 := Lib.hid (HB.out.below (w := W0.drew) hb)
       have K1 := Lib.hid (J1.out.drew.below hb (show w.heap.size < W0.heap.size by omega))
       have K2 := Lib.hid (J2.out.drew.below hb (show w.heap.size + 1 < W0.heap.size by omega))
       have BA := Lib.hid (show Behind (w.heap.size + 1 + 1) A1 from sz ▸ hc)
       have BW1 := Lib.hid (show Below w.heap.size w w1 from BW.out.drew.trans (hb.mono (show w.heap.size ≤ W0.heap.size by omega)))
       clear ha hb hc c9 c10 z9 z10
       have c9 : w1.cell? ⟨w.heap.size, 9, none⟩ = some (.slice A n a) := K1.out.cell 9
       have c10 : w1.cell? ⟨w.heap.size, 10, none⟩ = some (.slice B m b) := K1.out.cell 10
       have z9 : w1.frozen? ⟨w.heap.size, 9, none⟩ = false := K1.out.frozen 9
       have z10 : w1.frozen? ⟨w.heap.size, 10, none⟩ = false := K1.out.frozen 10)
    | (go_at_call 17
       refine (clone_f B m b ys w1 HB1.out (by omega)).mono ?_
       rintro r w2 ⟨B1, d1, rfl, ha, hb, hc⟩
       have HB2 := Lib.hid ha
       have HA2 := Lib.hid (HA1.out.below hb)
       have lt1 := K2.out.lt
       have L1 := Lib.hid (K1.out.below hb K1.out.lt)
       have L2 := Lib.hid (K2.out.below hb K2.out.lt)
       have BB := Lib.hid (show Behind (w.heap.size + 1 + 1) B1 from fun ad e => Nat.le_trans lt1 (hc ad e))
       have BW2 := Lib.hid (show Below w.heap.size w w2 from BW1.out.trans (hb.mono BW1.out.size))
       clear ha hb hc c9 c10 z9 z10
       have c9 : w2.cell? ⟨w.heap.size, 9, none⟩ = some (.slice A n a) := L1.out.cell 9
       have c10 : w2.cell? ⟨w.heap.size, 10, none⟩ = some (.slice B m b) := L1.out.cell 10
       have z9 : w2.frozen? ⟨w.heap.size, 9, none⟩ = false := L1.out.frozen 9
       have z10 : w2.frozen? ⟨w.heap.size, 10, none⟩ = false := L1.out.frozen 10)
    | (go_at_call 17
       refine (clone_f B m b ys W0.drew HB.out (by omega)).mono ?_
       rintro r w1 ⟨B1, d1, rfl, ha, hb, hc⟩
       have HB1 := Lib.hid ha
       have HA1 := Lib.hid (HA.out.below (w := W0.drew) hb)
       have K1 := Lib.hid (J1.out.drew.below hb (show w.heap.size < W0.heap.size by omega))
       have K2 := Lib.hid (J2.out.drew.below hb (show w.heap.size + 1 < W0.heap.size by omega))
       have BB := Lib.hid (show Behind (w.heap.size + 1 + 1) B1 from sz ▸ hc)
       have BW1 := Lib.hid (show Below w.heap.size w w1 from BW.out.drew.trans (hb.mono (show w.heap.size ≤ W0.heap.size by omega)))
       clear ha hb hc c9 c10 z9 z10
       have c9 : w1.cell? ⟨w.heap.size, 9, none⟩ = some (.slice A n a) := K1.out.cell 9
       have c10 : w1.cell? ⟨w.heap.size, 10, none⟩ = some (.slice B m b) := K1.out.cell 10
       have z9 : w1.frozen? ⟨w.heap.size, 9, none⟩ = false := K1.out.frozen 9
       have z10 : w1.frozen? ⟨w.heap.size, 10, none⟩ = false := K1.out.frozen 10)
    | (go_at_call 17
       refine (clone_f A n a xs w1 HA1.out (by omega)).mono ?_
       rintro r w2 ⟨A1, c1, rfl, ha, hb, hc⟩
       have HA2 := Lib.hid ha
       have HB2 := Lib.hid (HB1.out.below hb)
       have lt1 := K2.out.lt
       have L1 := Lib.hid (K1.out.below hb K1.out.lt)
       have L2 := Lib.hid (K2.out.below hb K2.out.lt)
       have BA := Lib.hid (show Behind (w.heap.size + 1 + 1) A1 from fun ad e => Nat.le_trans lt1 (hc ad e))
       have BW2 := Lib.hid (show Below w.heap.size w w2 from BW1.out.trans (hb.mono BW1.out.size))
       clear ha hb hc c9 c10 z9 z10
       have c9 : w2.cell? ⟨w.heap.size, 9, none⟩ = some (.slice A n a) := L1.out.cell 9
       have c10 : w2.cell? ⟨w.heap.size, 10, none⟩ = some (.slice B m b) := L1.out.cell 10
       have z9 : w2.frozen? ⟨w.heap.size, 9, none⟩ = false := L1.out.frozen 9
       have z10 : w2.frozen? ⟨w.heap.size, 10, none⟩ = false := L1.out.frozen 10))
  all_goals
    have M1 := Lib.hid (show Blk ((w2.setCell ⟨w.heap.size, 9, none⟩ (.slice A1 n c1)).setCell ⟨w.heap.size, 10, none⟩ (.slice B1 m d1)) w.heap.size 28 (cells4 (less f) p q (.slice A1 n c1) (.slice B1 m d1)) from (L1.out.set_ 9 _).set_ 10 _)
    have M2 := Lib.hid (show Blk ((w2.setCell ⟨w.heap.size, 9, none⟩ (.slice A1 n c1)).setCell ⟨w.heap.size, 10, none⟩ (.slice B1 m d1)) (w.heap.size + 1) 28 (four4 0) from (L2.out.far (by simp) _).far (by simp) _)
    have FA := Lib.hid (show BReads ((w2.setCell ⟨w.heap.size, 9, none⟩ (.slice A1 n c1)).setCell ⟨w.heap.size, 10, none⟩ (.slice B1 m d1)) A1 n xs from (HA2.out.far BA.out (show w.heap.size < w.heap.size + 1 + 1 by omega) _).far BA.out (show w.heap.size < w.heap.size + 1 + 1 by omega) _)
    have FB := Lib.hid (show BReads ((w2.setCell ⟨w.heap.size, 9, none⟩ (.slice A1 n c1)).setCell ⟨w.heap.size, 10, none⟩ (.slice B1 m d1)) B1 m ys from (HB2.out.far BB.out (show w.heap.size < w.heap.size + 1 + 1 by omega) _).far BB.out (show w.heap.size < w.heap.size + 1 + 1 by omega) _)
    have FW := Lib.hid (show Below w.heap.size w ((w2.setCell ⟨w.heap.size, 9, none⟩ (.slice A1 n c1)).setCell ⟨w.heap.size, 10, none⟩ (.slice B1 m d1)) from (BW2.out.setCell (by simp) _).setCell (by simp) _)
    clear c9 c10 z9 z10
    generalize ((w2.setCell ⟨w.heap.size, 9, none⟩ (.slice A1 n c1)).setCell ⟨w.heap.size, 10, none⟩ (.slice B1 m d1)) = w3 at M1 M2 FA FB FW ⊢
    go_wp2_with (first
      | (refine wpList_load_row rfl 28 (.tmp 1) rfl w.heap.size rfl 28 (cells4 (less f) p q (.slice A1 n c1) (.slice B1 m d1)) (0, 0) _ M1.out Try.underlying28 rfl v4_size ?_)
      | (refine wpList_store_row rfl 28 (.tmp 2) (.tmp 20) rfl (w.heap.size + 1) (cells4 (less f) p q (.slice A1 n c1) (.slice B1 m d1)) rfl rfl 28 (four4 0) M2.out v4_size rfl (one4 _ _ _ _ _ _ _ _ _) ?_))
    refine bodyPost_ret (v := .tuple #[.agg (cells4 (less f) p q (.slice A1 n c1) (.slice B1 m d1)), .bool true]) ?_ rfl ?_
    · simp [results, Try.f10, asAddr, run_loadVar_row _ (w.heap.size + 1) 28 28 (cells4 (less f) p q (.slice A1 n c1) (.slice B1 m d1)) (0, 0) _ M2.out.row Try.underlying28 rfl v4_size]
    · exact ⟨A1, n, c1, B1, m, d1, rfl, FA.out.row BA.out (show w.heap.size + 1 < w.heap.size + 1 + 1 by omega) _, FB.out.row BB.out (show w.heap.size + 1 < w.heap.size + 1 + 1 by omega) _, below_setRow FW.out (by omega) _⟩
end Go.Proofs.Ytpjndplinplkjaa
