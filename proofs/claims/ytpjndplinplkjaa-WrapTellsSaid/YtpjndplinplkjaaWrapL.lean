/-
  wrap: the document's Hop of any packet: the walk. (Bytes appended onto nil, as one step.)
-/
import Derived.Test.YtpjndplinplkjaaWrapK
import Derived.Deep.RegionLaw
namespace Go.Proofs.Ytpjndplinplkjaa
open Go.RowKit Go.Great

theorem breads_own_f {w w1 : World} {t : TypeId} {v : Value} {n : Nat} {xs : List Int} (h : w1.ownsRow w.heap.size t 1 v n (xs.map (Value.int .u8))) : ∃ A' c', v = .slice A' n c' ∧ BReads w1 A' n xs ∧ Behind w.heap.size A' := by
  rcases h.2 with ⟨h0, h1⟩ | ⟨g, cap, cur, rfl, hg, hh, hn, hc, hs, ht⟩
  · subst h0
    obtain rfl : n = 0 := by simpa using h1
    exact ⟨none, 0, rfl, ⟨Reads.of_own h, fun _ => rfl⟩, fun ad e => by cases e⟩
  · exact ⟨_, _, rfl, ⟨Reads.of_own h, fun e => by cases e⟩, fun ad e => by cases e; exact hg⟩

/-- append onto nil of bytes, as one step of a region that draws. -/
theorem step_bytes {ops : Array Oper} {o : Oper} {a : Act} {K : Act → World → Prop} {Q : Exit → Act → World → Prop} {E : Prop} (w : World) (hgd : o.guard = none) (x : Operand)
    (ho : o.op = .call { callee := .builtin .append, args := #[.const (.slice none 0 0), x], argTypes := #[24, 24] })
    (A : Option Addr) (n c : Nat) (xs : List Int) (hx : a.eval x = .slice A n c) (hr : BReads w A n xs) (hn : n ≤ 3000)
    (h : ∀ A' c' w', BReads w' A' n xs → Below w.heap.size w w' → Behind w.heap.size A' → K (a.put o.dst (.slice A' n c')) w') :
    if Region.wanted o (yielded ops a.tmps) = true then Oper.wp Try.prog o a w K Q else E := by
  obtain ⟨i0, hi0, hz0, hz1, hz2⟩ := info_parts byte_info
  refine step_append_any w hgd _ x 24 ho w.heap.size 5 i0 _ 1 1 Try.underlying24 hi0 hz0 hz1 hz2 rfl (by omega) (.slice none 0 0) 0 [] rfl
    (World.ownsRow_nil _ _ _ _) _ A n c (xs.map (Value.int .u8)) hx hr.1 (by intro u hu; obtain ⟨x, _, rfl⟩ := List.mem_map.1 hu; rfl) (by simp only [maxLen]; omega) (by omega) (Nat.le_refl _) ?_
  intro v1 w1 hown1 hg1 hat1
  rw [List.nil_append, Nat.zero_add] at hown1
  obtain ⟨A', c', rfl, hb, hc⟩ := breads_own_f hown1
  exact h A' c' w1 hb ((Below.refl _ _).grown hg1 (Nat.le_refl _) (by simp [Value.ownBlock])) hc

set_option maxRecDepth 100000 in
set_option maxHeartbeats 4000000 in
theorem rhop_any (f : Nat → Int) (p q : Bool) (A B : Option Addr) (n m a b : Nat) (xs ys : List Int) (w : World) (h1 : BReads w A n xs) (h2 : BReads w B m ys) (hn : n ≤ 3000) (hm : m ≤ 3000) (ht : 1 < f 3) (ht2 : f 3 ≤ 9223372036854775807) :
    Calls Try.prog 11 #[.agg (cells4 f p q (.slice A n a) (.slice B m b))] w (Hopped w f p q xs ys) := by
  have H1 := Lib.hid h1
  have H2 := Lib.hid h2
  clear h1 h2
  go_enter Try.func11, Try.ntmps11
  go_wp2_with fail
  have bw : Below w.heap.size w ((w.alloc (.cells (cells4 (less f) p q (.slice A n a) (.slice B m b)) 28)).alloc (.cells (four4 0) 28)) := ((Below.refl _ _).alloc (Nat.le_refl _) _).alloc (by simp) _
  have k1 : Blk ((w.alloc (.cells (cells4 (less f) p q (.slice A n a) (.slice B m b)) 28)).alloc (.cells (four4 0) 28)) w.heap.size 28 (cells4 (less f) p q (.slice A n a) (.slice B m b)) := (Blk.at_ rfl).alloc _
  have k2 : Blk ((w.alloc (.cells (cells4 (less f) p q (.slice A n a) (.slice B m b)) 28)).alloc (.cells (four4 0) 28)) (w.heap.size + 1) 28 (four4 0) := Blk.at_ (by simp)
  have sz : ((w.alloc (.cells (cells4 (less f) p q (.slice A n a) (.slice B m b)) 28)).alloc (.cells (four4 0) 28)).heap.size = w.heap.size + 1 + 1 := by simp
  change Code.wp _ _ _ _ ((w.alloc (.cells (cells4 (less f) p q (.slice A n a) (.slice B m b)) 28)).alloc (.cells (four4 0) 28))
  generalize ((w.alloc (.cells (cells4 (less f) p q (.slice A n a) (.slice B m b)) 28)).alloc (.cells (four4 0) 28)) = W0 at bw k1 k2 sz ⊢
  have HA := Lib.hid (H1.out.below bw)
  have HB := Lib.hid (H2.out.below bw)
  have J1 := Lib.hid k1
  have J2 := Lib.hid k2
  have BW := Lib.hid bw
  clear bw k1 k2 H1 H2
  have c9 : W0.cell? ⟨w.heap.size, 9, none⟩ = some (.slice A n a) := J1.out.cell 9
  have c10 : W0.cell? ⟨w.heap.size, 10, none⟩ = some (.slice B m b) := J1.out.cell 10
  have z9 : W0.frozen? ⟨w.heap.size, 9, none⟩ = false := J1.out.frozen 9
  have z10 : W0.frozen? ⟨w.heap.size, 10, none⟩ = false := J1.out.frozen 10
  go_region_law (first
    | (refine step_bytes (W0.drew) rfl (.tmp 13) rfl A n a xs rfl HA.out (by omega) ?_
       intro A1 c1 w1 ha hb hc
       have HA1 := Lib.hid ha
       have HB1 := Lib.hid (HB.out.below (w := W0.drew) hb)
       have K1 := Lib.hid (J1.out.drew.below hb (show w.heap.size < W0.heap.size by omega))
       have K2 := Lib.hid (J2.out.drew.below hb (show w.heap.size + 1 < W0.heap.size by omega))
       have BA := Lib.hid (show Behind (w.heap.size + 1 + 1) A1 from sz ▸ hc)
       have BW1 := Lib.hid (show Below w.heap.size w w1 from BW.out.drew.trans (hb.mono (show w.heap.size ≤ W0.heap.size by omega)))
       clear ha hb hc c9 c10 z9 z10
       have c9 : w1.cell? ⟨w.heap.size, 9, none⟩ = some (.slice A n a) := K1.out.cell 9
       have c10 : w1.cell? ⟨w.heap.size, 10, none⟩ = some (.slice B m b) := K1.out.cell 10
       have z9 : w1.frozen? ⟨w.heap.size, 9, none⟩ = false := K1.out.frozen 9
       have z10 : w1.frozen? ⟨w.heap.size, 10, none⟩ = false := K1.out.frozen 10)
    | (refine step_bytes (w1) rfl (.tmp 16) rfl B m b ys rfl HB1.out (by omega) ?_
       intro B1 d1 w2 ha hb hc
       have HB2 := Lib.hid ha
       have HA2 := Lib.hid (HA1.out.below hb)
       have lt1 := K2.out.lt
       have L1 := Lib.hid (K1.out.below hb K1.out.lt)
       have L2 := Lib.hid (K2.out.below hb K2.out.lt)
       have BB := Lib.hid (show Behind (w.heap.size + 1 + 1) B1 from fun ad e => Nat.le_trans lt1 (hc ad e))
       have BW2 := Lib.hid (show Below w.heap.size w w2 from BW1.out.trans (hb.mono BW1.out.size))
       clear ha hb hc c9 c10 z9 z10
       have c9 : w2.cell? ⟨w.heap.size, 9, none⟩ = some (.slice A n a) := L1.out.cell 9
       have c10 : w2.cell? ⟨w.heap.size, 10, none⟩ = some (.slice B m b) := L1.out.cell 10
       have z9 : w2.frozen? ⟨w.heap.size, 9, none⟩ = false := L1.out.frozen 9
       have z10 : w2.frozen? ⟨w.heap.size, 10, none⟩ = false := L1.out.frozen 10)
    | (refine step_bytes (W0.drew) rfl (.tmp 16) rfl B m b ys rfl HB.out (by omega) ?_
       intro B1 d1 w1 ha hb hc
       have HB1 := Lib.hid ha
       have HA1 := Lib.hid (HA.out.below (w := W0.drew) hb)
       have K1 := Lib.hid (J1.out.drew.below hb (show w.heap.size < W0.heap.size by omega))
       have K2 := Lib.hid (J2.out.drew.below hb (show w.heap.size + 1 < W0.heap.size by omega))
       have BB := Lib.hid (show Behind (w.heap.size + 1 + 1) B1 from sz ▸ hc)
       have BW1 := Lib.hid (show Below w.heap.size w w1 from BW.out.drew.trans (hb.mono (show w.heap.size ≤ W0.heap.size by omega)))
       clear ha hb hc c9 c10 z9 z10
       have c9 : w1.cell? ⟨w.heap.size, 9, none⟩ = some (.slice A n a) := K1.out.cell 9
       have c10 : w1.cell? ⟨w.heap.size, 10, none⟩ = some (.slice B m b) := K1.out.cell 10
       have z9 : w1.frozen? ⟨w.heap.size, 9, none⟩ = false := K1.out.frozen 9
       have z10 : w1.frozen? ⟨w.heap.size, 10, none⟩ = false := K1.out.frozen 10)
    | (refine step_bytes (w1) rfl (.tmp 13) rfl A n a xs rfl HA1.out (by omega) ?_
       intro A1 c1 w2 ha hb hc
       have HA2 := Lib.hid ha
       have HB2 := Lib.hid (HB1.out.below hb)
       have lt1 := K2.out.lt
       have L1 := Lib.hid (K1.out.below hb K1.out.lt)
       have L2 := Lib.hid (K2.out.below hb K2.out.lt)
       have BA := Lib.hid (show Behind (w.heap.size + 1 + 1) A1 from fun ad e => Nat.le_trans lt1 (hc ad e))
       have BW2 := Lib.hid (show Below w.heap.size w w2 from BW1.out.trans (hb.mono BW1.out.size))
       clear ha hb hc c9 c10 z9 z10
       have c9 : w2.cell? ⟨w.heap.size, 9, none⟩ = some (.slice A n a) := L1.out.cell 9
       have c10 : w2.cell? ⟨w.heap.size, 10, none⟩ = some (.slice B m b) := L1.out.cell 10
       have z9 : w2.frozen? ⟨w.heap.size, 9, none⟩ = false := L1.out.frozen 9
       have z10 : w2.frozen? ⟨w.heap.size, 10, none⟩ = false := L1.out.frozen 10))
  all_goals
    have M1 := Lib.hid (show Blk ((w2.setCell ⟨w.heap.size, 9, none⟩ (.slice A1 n c1)).setCell ⟨w.heap.size, 10, none⟩ (.slice B1 m d1)) w.heap.size 28 (cells4 (less f) p q (.slice A1 n c1) (.slice B1 m d1)) from (L1.out.set_ 9 _).set_ 10 _)
    have M2 := Lib.hid (show Blk ((w2.setCell ⟨w.heap.size, 9, none⟩ (.slice A1 n c1)).setCell ⟨w.heap.size, 10, none⟩ (.slice B1 m d1)) (w.heap.size + 1) 28 (four4 0) from (L2.out.far (by simp) _).far (by simp) _)
    have FA := Lib.hid (show BReads ((w2.setCell ⟨w.heap.size, 9, none⟩ (.slice A1 n c1)).setCell ⟨w.heap.size, 10, none⟩ (.slice B1 m d1)) A1 n xs from (HA2.out.far BA.out (show w.heap.size < w.heap.size + 1 + 1 by omega) _).far BA.out (show w.heap.size < w.heap.size + 1 + 1 by omega) _)
    have FB := Lib.hid (show BReads ((w2.setCell ⟨w.heap.size, 9, none⟩ (.slice A1 n c1)).setCell ⟨w.heap.size, 10, none⟩ (.slice B1 m d1)) B1 m ys from (HB2.out.far BB.out (show w.heap.size < w.heap.size + 1 + 1 by omega) _).far BB.out (show w.heap.size < w.heap.size + 1 + 1 by omega) _)
    have FW := Lib.hid (show Below w.heap.size w ((w2.setCell ⟨w.heap.size, 9, none⟩ (.slice A1 n c1)).setCell ⟨w.heap.size, 10, none⟩ (.slice B1 m d1)) from (BW2.out.setCell (by simp) _).setCell (by simp) _)
    clear c9 c10 z9 z10
    generalize ((w2.setCell ⟨w.heap.size, 9, none⟩ (.slice A1 n c1)).setCell ⟨w.heap.size, 10, none⟩ (.slice B1 m d1)) = w3 at M1 M2 FA FB FW ⊢
    go_wp2_with (first
      | (refine wpList_load_row rfl 28 (.tmp 1) rfl w.heap.size rfl 28 (cells4 (less f) p q (.slice A1 n c1) (.slice B1 m d1)) (0, 0) _ M1.out Try.underlying28 rfl v4_size ?_)
      | (refine wpList_store_row rfl 28 (.tmp 2) (.tmp 20) rfl (w.heap.size + 1) (cells4 (less f) p q (.slice A1 n c1) (.slice B1 m d1)) rfl rfl 28 (four4 0) M2.out v4_size rfl (one4 _ _ _ _ _ _ _ _ _) ?_))
    refine bodyPost_ret (v := .tuple #[.agg (cells4 (less f) p q (.slice A1 n c1) (.slice B1 m d1)), .bool true]) ?_ rfl ?_
    · simp [results, Try.f11, asAddr, run_loadVar_row _ (w.heap.size + 1) 28 28 (cells4 (less f) p q (.slice A1 n c1) (.slice B1 m d1)) (0, 0) _ M2.out.row Try.underlying28 rfl v4_size]
    · exact ⟨A1, n, c1, B1, m, d1, rfl, FA.out.row BA.out (show w.heap.size + 1 < w.heap.size + 1 + 1 by omega) _, FB.out.row BB.out (show w.heap.size + 1 < w.heap.size + 1 + 1 by omega) _, below_setRow FW.out (by omega) _⟩
end Go.Proofs.Ytpjndplinplkjaa
