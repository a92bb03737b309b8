/-
  WrapTells: the walk. (Printed by wip/gen/wrapO.py.)
-/
import Derived.Test.YtpjndplinplkjaaWrapN
namespace Go.Proofs.Ytpjndplinplkjaa
open Go.RowKit Go.Great

/-- The law's own variables. -/
def Bag (w : World) (c1 c2 pc qc : Array Value) (w' : World) : Prop :=
  Blk w' w.heap.size 23 c1 ∧ Blk w' (w.heap.size + 1) 23 c2 ∧ Blk w' (w.heap.size + 1 + 1) 26 pc ∧ Blk w' (w.heap.size + 1 + 1 + 1) 28 qc ∧ Below w.heap.size w w'
theorem Bag.on {w w' w2 : World} {c1 c2 pc qc : Array Value} (h : Bag w c1 c2 pc qc w') (hb : Below w'.heap.size w' w2) : Bag w c1 c2 pc qc w2 :=
  ⟨h.1.on hb, h.2.1.on hb, h.2.2.1.on hb, h.2.2.2.1.on hb, h.2.2.2.2.trans (hb.mono h.2.2.2.2.size)⟩
theorem BReads.on {w w' : World} {A : Option Addr} {n : Nat} {xs : List Int} (h : BReads w A n xs) (hb : Below w.heap.size w w') : BReads w' A n xs := h.below hb
theorem bel_made (w : World) (old cs : Array Value) (t : TypeId) : Below w.heap.size w ((w.alloc (.cells old t)).setRow w.heap.size cs) := below_setRow ((Below.refl _ _).alloc (Nat.le_refl _) _) (Nat.le_refl _) _
theorem blk_made (w : World) (old cs : Array Value) (t : TypeId) : Blk ((w.alloc (.cells old t)).setRow w.heap.size cs) w.heap.size t cs := Blk.row (Blk.at_ rfl)

set_option maxRecDepth 100000 in
set_option maxHeartbeats 4000000 in
theorem tells_walk (s d : Nat → Int) (hop : Int) (A : Option Addr) (n c : Nat) (xs : List Int) (c1 c2 pc qc : Array Value) (t f x h : Int) (s' d' : Nat → Int) (B : Option Addr) (m b : Nat) (ys : List Int)
    (u : Nat → Int) (p q : Bool) (C : Option Addr) (k e : Nat) (zs : List Int) (D : Option Addr) (l e' : Nat) (us : List Int) (w : World)
    (h1 : c1 = cells16 s) (h2 : c2 = cells16 d) (hp : pc = six6 t f x h s' d' (.slice B m b)) (hq : qc = cells4 u p q (.slice C k e) (.slice D l e'))
    (r1 : BReads w A n xs) (r2 : BReads w B m ys) (r3 : BReads w C k zs) (r4 : BReads w D l us)
    (i1 : n ≤ 9223372036854775807) (i2 : m ≤ 9223372036854775807) (i3 : k ≤ 9223372036854775807) (i4 : l ≤ 9223372036854775807)
    (l1 : -9223372036854775808 ≤ hop) (l2 : hop ≤ 9223372036854775807) (l3 : u 3 ≤ 9223372036854775807) :
    Calls Try.prog 3 #[.agg c1, .agg c2, .int .i64 hop, .slice A n c, .agg pc, .agg qc] w fun r w' => r = .returned (.bool true) ∧ Below w.heap.size w w' := by
  have zp : (Try.prog.info? 26).map (·.size) = some pc.size := by rw [hp]; exact v6_size
  have zq : (Try.prog.info? 28).map (·.size) = some qc.size := by rw [hq]; exact v4_size
  have z1 : (Try.prog.info? 23).map (·.size) = some c1.size := by rw [h1]; exact six_size
  have z2 : (Try.prog.info? 23).map (·.size) = some c2.size := by rw [h2]; exact six_size
  have bag : Bag w c1 c2 pc qc ((((w.alloc (.cells c1 23)).alloc (.cells c2 23)).alloc (.cells pc 26)).alloc (.cells qc 28)) := ⟨(((Blk.at_ rfl).alloc _).alloc _).alloc _, ((Blk.at_ (by simp)).alloc _).alloc _, (Blk.at_ (by simp)).alloc _, Blk.at_ (by simp), ((((Below.refl _ w).alloc (Nat.le_refl _) _).alloc (by simp) _).alloc (by simp; omega) _).alloc (by simp; omega) _⟩
  have p36 : pc[36]? = some (.slice B m b) := by rw [hp]; rfl
  have q9 : qc[9]? = some (.slice C k e) := by rw [hq]; rfl
  have q10 : qc[10]? = some (.slice D l e') := by rw [hq]; rfl
  obtain ⟨ok, hok⟩ : ∃ ok, decide (1 < u 3) = ok := ⟨_, rfl⟩
  have OK := Lib.hid hok
  have ZP := Lib.hid zp
  have ZQ := Lib.hid zq
  have Z1 := Lib.hid z1
  have Z2 := Lib.hid z2
  have H1 := Lib.hid h1
  have H2 := Lib.hid h2
  have HP := Lib.hid hp
  have HQ := Lib.hid hq
  have R1 := Lib.hid r1
  have R2 := Lib.hid r2
  have R3 := Lib.hid r3
  have R4 := Lib.hid r4
  have L3 := Lib.hid l3
  clear hok zp zq z1 z2 h1 h2 hp hq r1 r2 r3 r4 l3
  go_enter Try.func3, Try.ntmps3
  go_upto_region 1 with fail
  change Code.wp _ _ _ _ ((((w.alloc (.cells c1 23)).alloc (.cells c2 23)).alloc (.cells pc 26)).alloc (.cells qc 28))
  generalize ((((w.alloc (.cells c1 23)).alloc (.cells c2 23)).alloc (.cells pc 26)).alloc (.cells qc 28)) = w0 at bag ⊢
  have a36 : w0.cell? ⟨w.heap.size + 1 + 1, 36, none⟩ = some (.slice B m b) := (bag.2.2.1.cell 36).trans p36
  have a9 : w0.cell? ⟨w.heap.size + 1 + 1 + 1, 9, none⟩ = some (.slice C k e) := (bag.2.2.2.1.cell 9).trans q9
  have a10 : w0.cell? ⟨w.heap.size + 1 + 1 + 1, 10, none⟩ = some (.slice D l e') := (bag.2.2.2.1.cell 10).trans q10
  have BG := Lib.hid bag
  clear bag p36 q9 q10
  by_cases n1 : 3000 < n
  · go_wp2_with fail
    refine (awake_any _).mono ?_
    rintro r w1 ⟨rfl, b1⟩
    go_wp2
    go_ret
    exact ⟨rfl, BG.out.2.2.2.2.trans (b1.mono BG.out.2.2.2.2.size)⟩
  by_cases n2 : 3000 < m
  · go_wp2_with fail
    refine (awake_any _).mono ?_
    rintro r w1 ⟨rfl, b1⟩
    go_wp2
    go_ret
    exact ⟨rfl, BG.out.2.2.2.2.trans (b1.mono BG.out.2.2.2.2.size)⟩
  by_cases n3 : 3000 < l
  · go_wp2_with fail
    refine (awake_any _).mono ?_
    rintro r w1 ⟨rfl, b1⟩
    go_wp2
    go_ret
    exact ⟨rfl, BG.out.2.2.2.2.trans (b1.mono BG.out.2.2.2.2.size)⟩
  by_cases n4 : 200 < k
  · go_wp2_with fail
    refine (awake_any _).mono ?_
    rintro r w1 ⟨rfl, b1⟩
    go_wp2
    go_ret
    exact ⟨rfl, BG.out.2.2.2.2.trans (b1.mono BG.out.2.2.2.2.size)⟩
  go_upto_region 3 with fail
  clear a36 a9 a10
  apply wp_region_lit
  refine wpList_load_row rfl 23 (.tmp 6) rfl w.heap.size rfl 23 c1 (0, 0) _ BG.out.1 Try.underlying23 rfl Z1.out ?_
  refine wpList_load_row rfl 23 (.tmp 7) rfl (w.heap.size + 1) rfl 23 c2 (0, 0) _ BG.out.2.1 Try.underlying23 rfl Z2.out ?_
  go_wp2_with fail
  refine (wrap_o H1.out H2.out (R1.out.below BG.out.2.2.2.2) (by omega) l2).mono ?_
  rintro r v3 ⟨k3, rfl, y3, b3⟩
  replace BG := Lib.hid (BG.out.on b3)
  obtain ⟨za, zb, zc⟩ := y3.size
  have Y1 := Lib.hid za
  have Y2 := Lib.hid zb
  have Y3 := Lib.hid zc
  have kn := Lib.hid (show Blk (v3.alloc (.cells none6 26)) v3.heap.size 26 none6 from Blk.at_ rfl)
  have bm := bel_made v3 none6 k3 26
  have K3 := Lib.hid (blk_made v3 none6 k3 26)
  have Y30 := Lib.hid (y3.on bm)
  replace BG := Lib.hid (BG.out.on bm)
  clear za zb zc y3 b3 bm
  go_upto_region 4 with (first | (refine wpList_store_row rfl 26 (.tmp 13) (.tmp 53) rfl v3.heap.size k3 rfl rfl 26 none6 kn.out Y1.out Y2.out Y3.out ?_))
  clear kn Y2 Y3
  have Z30 := Lib.hid Y1.out
  clear Y1
  generalize (v3.alloc (.cells none6 26)).setRow v3.heap.size k3 = w3 at K3 Y30 BG ⊢
  generalize v3.heap.size = g3 at K3 ⊢
  apply wp_region_lit
  refine wpList_load_row rfl 23 (.tmp 6) rfl w.heap.size rfl 23 c1 (0, 0) _ BG.out.1 Try.underlying23 rfl Z1.out ?_
  refine wpList_load_row rfl 23 (.tmp 7) rfl (w.heap.size + 1) rfl 23 c2 (0, 0) _ BG.out.2.1 Try.underlying23 rfl Z2.out ?_
  go_wp2_with fail
  refine (rwrap_o H1.out H2.out (R1.out.below BG.out.2.2.2.2) (by omega)).mono ?_
  rintro r v4 ⟨k4, rfl, y4, b4⟩
  replace BG := Lib.hid (BG.out.on b4)
  replace K3 := Lib.hid (K3.out.on b4)
  replace Y30 := Lib.hid (Y30.out.on b4)
  obtain ⟨za, zb, zc⟩ := y4.size
  have Y1 := Lib.hid za
  have Y2 := Lib.hid zb
  have Y3 := Lib.hid zc
  have kn := Lib.hid (show Blk (v4.alloc (.cells none6 26)) v4.heap.size 26 none6 from Blk.at_ rfl)
  have bm := bel_made v4 none6 k4 26
  have K4 := Lib.hid (blk_made v4 none6 k4 26)
  have Y40 := Lib.hid (y4.on bm)
  replace BG := Lib.hid (BG.out.on bm)
  replace K3 := Lib.hid (K3.out.on bm)
  replace Y30 := Lib.hid (Y30.out.on bm)
  clear za zb zc y4 b4 bm
  go_upto_region 5 with (first | (refine wpList_store_row rfl 26 (.tmp 15) (.tmp 61) rfl v4.heap.size k4 rfl rfl 26 none6 kn.out Y1.out Y2.out Y3.out ?_))
  clear kn Y2 Y3
  have Z40 := Lib.hid Y1.out
  clear Y1
  generalize (v4.alloc (.cells none6 26)).setRow v4.heap.size k4 = w4 at K4 Y40 BG K3 Y30 ⊢
  generalize v4.heap.size = g4 at K4 ⊢
  apply wp_region_lit
  refine wpList_load_row rfl 26 (.tmp 10) rfl (w.heap.size + 1 + 1) rfl 26 pc (0, 0) _ BG.out.2.2.1 Try.underlying26 rfl ZP.out ?_
  go_wp2_with fail
  refine (unwrap_o HP.out (R2.out.below BG.out.2.2.2.2) (by omega)).mono ?_
  rintro r w5 ⟨A5, m5, e5, rfl, y5, b5⟩
  replace BG := Lib.hid (BG.out.on b5)
  replace K3 := Lib.hid (K3.out.on b5)
  replace Y30 := Lib.hid (Y30.out.on b5)
  replace K4 := Lib.hid (K4.out.on b5)
  replace Y40 := Lib.hid (Y40.out.on b5)
  have U5 := Lib.hid y5
  clear y5 b5
  go_upto_region 6 with fail
  apply wp_region_lit
  refine wpList_load_row rfl 26 (.tmp 10) rfl (w.heap.size + 1 + 1) rfl 26 pc (0, 0) _ BG.out.2.2.1 Try.underlying26 rfl ZP.out ?_
  go_wp2_with fail
  refine (runwrap_o HP.out (R2.out.below BG.out.2.2.2.2) (by omega)).mono ?_
  rintro r w6 ⟨A6, m6, e6, rfl, y6, b6⟩
  replace BG := Lib.hid (BG.out.on b6)
  replace K3 := Lib.hid (K3.out.on b6)
  replace Y30 := Lib.hid (Y30.out.on b6)
  replace K4 := Lib.hid (K4.out.on b6)
  replace Y40 := Lib.hid (Y40.out.on b6)
  replace U5 := Lib.hid (U5.out.on b6)
  have U6 := Lib.hid y6
  clear y6 b6
  go_upto_region 7 with fail
  apply wp_region_lit
  refine wpList_load_row rfl 28 (.tmp 11) rfl (w.heap.size + 1 + 1 + 1) rfl 28 qc (0, 0) _ BG.out.2.2.2.1 Try.underlying28 rfl ZQ.out ?_
  go_wp2_with fail
  refine (hop_o HQ.out OK.out (R3.out.below BG.out.2.2.2.2) (R4.out.below BG.out.2.2.2.2) (by omega) (by omega) L3.out).mono ?_
  rintro r v7 ⟨k7, rfl, y7, b7⟩
  replace BG := Lib.hid (BG.out.on b7)
  replace K3 := Lib.hid (K3.out.on b7)
  replace Y30 := Lib.hid (Y30.out.on b7)
  replace K4 := Lib.hid (K4.out.on b7)
  replace Y40 := Lib.hid (Y40.out.on b7)
  replace U5 := Lib.hid (U5.out.on b7)
  replace U6 := Lib.hid (U6.out.on b7)
  obtain ⟨za, zb, zc⟩ := y7.size
  have Y1 := Lib.hid za
  have Y2 := Lib.hid zb
  have Y3 := Lib.hid zc
  have kn := Lib.hid (show Blk (v7.alloc (.cells (four4 0) 28)) v7.heap.size 28 (four4 0) from Blk.at_ rfl)
  have bm := bel_made v7 (four4 0) k7 28
  have K7 := Lib.hid (blk_made v7 (four4 0) k7 28)
  have Y70 := Lib.hid (y7.on bm)
  replace BG := Lib.hid (BG.out.on bm)
  replace K3 := Lib.hid (K3.out.on bm)
  replace Y30 := Lib.hid (Y30.out.on bm)
  replace K4 := Lib.hid (K4.out.on bm)
  replace Y40 := Lib.hid (Y40.out.on bm)
  replace U5 := Lib.hid (U5.out.on bm)
  replace U6 := Lib.hid (U6.out.on bm)
  clear za zb zc y7 b7 bm
  go_upto_region 8 with (first | (refine wpList_store_row rfl 28 (.tmp 21) (.tmp 76) rfl v7.heap.size k7 rfl rfl 28 (four4 0) kn.out Y1.out Y2.out Y3.out ?_))
  clear kn Y2 Y3
  have Z70 := Lib.hid Y1.out
  clear Y1
  generalize (v7.alloc (.cells (four4 0) 28)).setRow v7.heap.size k7 = w7 at K7 Y70 BG K3 Y30 K4 Y40 U5 U6 ⊢
  generalize v7.heap.size = g7 at K7 ⊢
  apply wp_region_lit
  refine wpList_load_row rfl 28 (.tmp 11) rfl (w.heap.size + 1 + 1 + 1) rfl 28 qc (0, 0) _ BG.out.2.2.2.1 Try.underlying28 rfl ZQ.out ?_
  go_wp2_with fail
  refine (rhop_o HQ.out OK.out (R3.out.below BG.out.2.2.2.2) (R4.out.below BG.out.2.2.2.2) (by omega) (by omega) L3.out).mono ?_
  rintro r v8 ⟨k8, rfl, y8, b8⟩
  replace BG := Lib.hid (BG.out.on b8)
  replace K3 := Lib.hid (K3.out.on b8)
  replace Y30 := Lib.hid (Y30.out.on b8)
  replace K4 := Lib.hid (K4.out.on b8)
  replace Y40 := Lib.hid (Y40.out.on b8)
  replace U5 := Lib.hid (U5.out.on b8)
  replace U6 := Lib.hid (U6.out.on b8)
  replace K7 := Lib.hid (K7.out.on b8)
  replace Y70 := Lib.hid (Y70.out.on b8)
  obtain ⟨za, zb, zc⟩ := y8.size
  have Y1 := Lib.hid za
  have Y2 := Lib.hid zb
  have Y3 := Lib.hid zc
  have kn := Lib.hid (show Blk (v8.alloc (.cells (four4 0) 28)) v8.heap.size 28 (four4 0) from Blk.at_ rfl)
  have bm := bel_made v8 (four4 0) k8 28
  have K8 := Lib.hid (blk_made v8 (four4 0) k8 28)
  have Y80 := Lib.hid (y8.on bm)
  replace BG := Lib.hid (BG.out.on bm)
  replace K3 := Lib.hid (K3.out.on bm)
  replace Y30 := Lib.hid (Y30.out.on bm)
  replace K4 := Lib.hid (K4.out.on bm)
  replace Y40 := Lib.hid (Y40.out.on bm)
  replace U5 := Lib.hid (U5.out.on bm)
  replace U6 := Lib.hid (U6.out.on bm)
  replace K7 := Lib.hid (K7.out.on bm)
  replace Y70 := Lib.hid (Y70.out.on bm)
  clear za zb zc y8 b8 bm
  go_upto_region 9 with (first | (refine wpList_store_row rfl 28 (.tmp 23) (.tmp 81) rfl v8.heap.size k8 rfl rfl 28 (four4 0) kn.out Y1.out Y2.out Y3.out ?_))
  clear kn Y2 Y3
  have Z80 := Lib.hid Y1.out
  clear Y1
  generalize (v8.alloc (.cells (four4 0) 28)).setRow v8.heap.size k8 = w8 at K8 Y80 BG K3 Y30 K4 Y40 U5 U6 K7 Y70 ⊢
  generalize v8.heap.size = g8 at K8 ⊢
  go_wp2_with (first
    | (refine wpList_step fun K hK => ?_; rw [if_pos (by rfl)]; refine wp_load_row 26 (.tmp 13) rfl g3 rfl 26 k3 (0, 0) _ K3.out Try.underlying26 rfl Z30.out (hK _ _ ?_))
    | (refine wpList_step fun K hK => ?_; rw [if_pos (by rfl)]; refine wp_load_row 26 (.tmp 15) rfl g4 rfl 26 k4 (0, 0) _ K4.out Try.underlying26 rfl Z40.out (hK _ _ ?_)))
  refine (Wr6.same Y30.out Y40.out).mono ?_
  rintro r w9 ⟨rfl, b9⟩
  replace BG := Lib.hid (BG.out.on b9)
  replace U5 := Lib.hid (U5.out.on b9)
  replace U6 := Lib.hid (U6.out.on b9)
  replace K7 := Lib.hid (K7.out.on b9)
  replace Y70 := Lib.hid (Y70.out.on b9)
  replace K8 := Lib.hid (K8.out.on b9)
  replace Y80 := Lib.hid (Y80.out.on b9)
  clear b9 K3 Y30 K4 Y40
  go_wp2_with fail
  refine (equal_same A5 A6 m5 m6 e5 e6 _ _ U5.out U6.out).mono ?_
  rintro r wx ⟨rfl, rfl⟩
  go_wp2_with (first
    | (refine wpList_step fun K hK => ?_; rw [if_pos (by rfl)]; refine wp_load_row 28 (.tmp 21) rfl g7 rfl 28 k7 (0, 0) _ K7.out Try.underlying28 rfl Z70.out (hK _ _ ?_))
    | (refine wpList_step fun K hK => ?_; rw [if_pos (by rfl)]; refine wp_load_row 28 (.tmp 23) rfl g8 rfl 28 k8 (0, 0) _ K8.out Try.underlying28 rfl Z80.out (hK _ _ ?_)))
  refine (Hp4.same Y70.out Y80.out).mono ?_
  rintro r w10 ⟨rfl, b10⟩
  replace BG := Lib.hid (BG.out.on b10)
  clear b10 K7 Y70 K8 Y80 U5 U6
  go_wp2_with fail
  refine (room_any hop _ l1 l2).mono ?_
  rintro r wx ⟨rfl, rfl⟩
  go_wp2_with fail
  refine (rroom_any hop _ l1 l2).mono ?_
  rintro r wx ⟨rfl, rfl⟩
  go_wp2_with fail
  refine (awake_any _).mono ?_
  rintro r w11 ⟨rfl, b11⟩
  go_wp2
  go_ret
  exact ⟨rfl, BG.out.2.2.2.2.trans (b11.mono BG.out.2.2.2.2.size)⟩
end Go.Proofs.Ytpjndplinplkjaa
