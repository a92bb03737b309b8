/-
  report: how many lines there are; ReportCounts walked. Printed by wip/gen/repP.py.
-/
import Derived.Test.YtkbbkddepcjoaaaDoorRepH
import Derived.Test.YtkbbkddepcjoaaaDoorRepM
import Derived.Test.YtkbbkddepcjoaaaDoorOpenF
namespace Go.Proofs.YtkbbkddepcjoaaaDoor
open Go.RowKit Go.Great

theorem IntRow.below {k : IntKind} {w w' : World} {a : Option Addr} {len : Nat} {zs : List Int} (h : IntRow k w a len zs) (hb : Below w.heap.size w w') : IntRow k w' a len zs :=
  ⟨h.1, h.2.1, fun i hi => by
    obtain ⟨b, off, e1, e2, e3, e4⟩ := h.2.2 i hi
    exact ⟨b, off, e1, Nat.lt_of_lt_of_le e2 hb.size, (hb.cell (p := ⟨b, off + i, none⟩) e2).trans e3, e4⟩⟩
theorem drops_len : ∀ (L : List Int) (k : Nat), (dropsT k L).length ≤ 14 - k
  | [], k => by simp [dropsT]
  | n :: r, k => by
    have ih := drops_len r (k + 1)
    rw [dropsT]
    split
    · simp
    · split
      · simp only [List.length_cons]; omega
      · omega
theorem lines_len (now : Int) (Bs : List Bd) (Ts : List Ss) (Cs : List Int) (h1 : Bs.length ≤ 60) (h2 : Ts.length ≤ 60) : (linesT now Bs Ts Cs).length ≤ 135 := by
  have := drops_len Cs 0
  simp only [linesT, List.length_cons, List.length_append, List.length_map]
  omega

set_option linter.unusedSimpArgs false in
set_option maxRecDepth 100000 in
set_option maxHeartbeats 8000000 in
theorem counts_view (now x3 x4 x5 : Int) (A1 A2 A3 : Option Addr) (n1 c1 n2 c2 n3 c3 : Nat) (Bs : List Bd) (Ts : List Ss) (Cs : List Int) (hnow : IntKind.i64.has now) (w : World) (htab : TabW w) (h1 : BRd w A1 n1 Bs) (h2 : TRd w A2 n2 Ts) (h3 : IntRow .i64 w A3 n3 Cs) : Calls Tryd.prog 8 #[.agg #[.int .i64 now, .slice A1 n1 c1, .slice A2 n2 c2, .int .i64 x3, .int .i64 x4, .int .i64 x5, .slice A3 n3 c3]] w fun r w' => r = .returned (.bool true) ∧ Below w.heap.size w w' := by
  have hb := (Below.refl w.heap.size w).alloc (Nat.le_refl _) (.cells #[.int .i64 now, .slice A1 n1 c1, .slice A2 n2 c2, .int .i64 x3, .int .i64 x4, .int .i64 x5, .slice A3 n3 c3] 56)
  have bk := Blk.new w 56 #[.int .i64 now, .slice A1 n1 c1, .slice A2 n2 c2, .int .i64 x3, .int .i64 x4, .int .i64 x5, .slice A3 n3 c3]
  have HT := Lib.hid htab
  by_cases l1 : 60 < n1
  · have d1 : decide ((60 : Int) < (n1 : Int)) = true := by simp; omega
    clear htab h1 h2 h3 hnow
    go_enter Tryd.func8, Tryd.ntmps8
    go_upto_region 1 with fail
    obtain ⟨V, hV⟩ : ∃ V, w.heap.size = V := ⟨_, rfl⟩
    rw [hV] at bk ⊢
    generalize (w.alloc (.cells #[.int .i64 now, .slice A1 n1 c1, .slice A2 n2 c2, .int .i64 x3, .int .i64 x4, .int .i64 x5, .slice A3 n3 c3] 56)) = w0 at bk hb ⊢
    have f0 := bk.cell 0
    have f1 := bk.cell 1
    have f2 := bk.cell 2
    have f3 := bk.cell 3
    have f4 := bk.cell 4
    have f5 := bk.cell 5
    have f6 := bk.cell 6
    simp only [List.getElem?_toArray, List.getElem?_cons_zero, List.getElem?_cons_succ] at f0 f1 f2 f3 f4 f5 f6
    have BK := Lib.hid bk
    have HB := Lib.hid hb
    clear bk hb hV
    go_wp2_with (go_at_call 10; refine (awake40 _ (tab_below HT.out HB.out)).mono ?_; rintro e wa ⟨rfl, ba⟩; have LA := Lib.hid (HB.out.trans (ba.mono HB.out.size)); clear ba)
    go_ret
    exact ⟨rfl, LA.out⟩
  · have d1 : decide ((60 : Int) < (n1 : Int)) = false := by simp; omega
    by_cases l2 : 60 < n2
    · have d2 : decide ((60 : Int) < (n2 : Int)) = true := by simp; omega
      clear htab h1 h2 h3 hnow
      go_enter Tryd.func8, Tryd.ntmps8
      go_upto_region 1 with fail
      obtain ⟨V, hV⟩ : ∃ V, w.heap.size = V := ⟨_, rfl⟩
      rw [hV] at bk ⊢
      generalize (w.alloc (.cells #[.int .i64 now, .slice A1 n1 c1, .slice A2 n2 c2, .int .i64 x3, .int .i64 x4, .int .i64 x5, .slice A3 n3 c3] 56)) = w0 at bk hb ⊢
      have f0 := bk.cell 0
      have f1 := bk.cell 1
      have f2 := bk.cell 2
      have f3 := bk.cell 3
      have f4 := bk.cell 4
      have f5 := bk.cell 5
      have f6 := bk.cell 6
      simp only [List.getElem?_toArray, List.getElem?_cons_zero, List.getElem?_cons_succ] at f0 f1 f2 f3 f4 f5 f6
      have BK := Lib.hid bk
      have HB := Lib.hid hb
      clear bk hb hV
      go_wp2_with (go_at_call 10; refine (awake40 _ (tab_below HT.out HB.out)).mono ?_; rintro e wa ⟨rfl, ba⟩; have LA := Lib.hid (HB.out.trans (ba.mono HB.out.size)); clear ba)
      go_ret
      exact ⟨rfl, LA.out⟩
    · have d2 : decide ((60 : Int) < (n2 : Int)) = false := by simp; omega
      by_cases l3 : 60 < n3
      · have d3 : decide ((60 : Int) < (n3 : Int)) = true := by simp; omega
        clear htab h1 h2 h3 hnow
        go_enter Tryd.func8, Tryd.ntmps8
        go_upto_region 1 with fail
        obtain ⟨V, hV⟩ : ∃ V, w.heap.size = V := ⟨_, rfl⟩
        rw [hV] at bk ⊢
        generalize (w.alloc (.cells #[.int .i64 now, .slice A1 n1 c1, .slice A2 n2 c2, .int .i64 x3, .int .i64 x4, .int .i64 x5, .slice A3 n3 c3] 56)) = w0 at bk hb ⊢
        have f0 := bk.cell 0
        have f1 := bk.cell 1
        have f2 := bk.cell 2
        have f3 := bk.cell 3
        have f4 := bk.cell 4
        have f5 := bk.cell 5
        have f6 := bk.cell 6
        simp only [List.getElem?_toArray, List.getElem?_cons_zero, List.getElem?_cons_succ] at f0 f1 f2 f3 f4 f5 f6
        have BK := Lib.hid bk
        have HB := Lib.hid hb
        clear bk hb hV
        go_wp2_with (go_at_call 10; refine (awake40 _ (tab_below HT.out HB.out)).mono ?_; rintro e wa ⟨rfl, ba⟩; have LA := Lib.hid (HB.out.trans (ba.mono HB.out.size)); clear ba)
        go_ret
        exact ⟨rfl, LA.out⟩
      · have d3 : decide ((60 : Int) < (n3 : Int)) = false := by simp; omega
        have hc := fun W ht hB hT hC => lines_any now x3 x4 x5 A1 A2 A3 n1 c1 n2 c2 n3 c3 Bs Ts Cs hnow (by omega) (by omega) W ht hB hT hC
        have hlen := lines_len now Bs Ts Cs (by have := h1.len; omega) (by have := h2.len; omega)
        have e1 := count_bound now Bs Ts Cs
        have e2 := count_session now Bs Ts Cs
        have e3 := count_now now Bs Ts Cs
        rw [h1.len] at e1
        rw [h2.len] at e2
        obtain ⟨L, hL⟩ : ∃ L, linesT now Bs Ts Cs = L := ⟨_, rfl⟩
        rw [hL] at hc hlen e1 e2 e3
        have k := fun (wd : List UInt8) (hw : wd.length ≤ 140737488355327) A c W h => count_any A L.length c L wd hw (by omega) W h
        have k1 : ∀ A c W, TS W.heap.size W A L.length c L → Calls Tryd.prog 25 #[.slice A L.length c, .string ⟨#[98, 111, 117, 110, 100]⟩] W fun r w' => r = .returned (.int .i64 (countV wBound L : Nat)) ∧ Below W.heap.size W w' := k wBound (by decide)
        have k2 : ∀ A c W, TS W.heap.size W A L.length c L → Calls Tryd.prog 25 #[.slice A L.length c, .string ⟨#[115, 116, 97, 116, 105, 99]⟩] W fun r w' => r = .returned (.int .i64 (countV wStatic L : Nat)) ∧ Below W.heap.size W w' := k wStatic (by decide)
        have k3 : ∀ A c W, TS W.heap.size W A L.length c L → Calls Tryd.prog 25 #[.slice A L.length c, .string ⟨#[115, 101, 115, 115, 105, 111, 110]⟩] W fun r w' => r = .returned (.int .i64 (countV wSession L : Nat)) ∧ Below W.heap.size W w' := k wSession (by decide)
        have k4 : ∀ A c W, TS W.heap.size W A L.length c L → Calls Tryd.prog 25 #[.slice A L.length c, .string ⟨#[110, 111, 119]⟩] W fun r w' => r = .returned (.int .i64 (countV wNow L : Nat)) ∧ Below W.heap.size W w' := k wNow (by decide)
        unfold wBound at k1 e1
        unfold wStatic at k2 e1
        unfold wSession at k3 e2
        unfold wNow at k4 e3
        obtain ⟨K1, hK1⟩ : ∃ K, countV [98, 111, 117, 110, 100] L = K := ⟨_, rfl⟩
        rw [hK1] at k1 e1
        obtain ⟨K2, hK2⟩ : ∃ K, countV [115, 116, 97, 116, 105, 99] L = K := ⟨_, rfl⟩
        rw [hK2] at k2 e1
        obtain ⟨K3, hK3⟩ : ∃ K, countV [115, 101, 115, 115, 105, 111, 110] L = K := ⟨_, rfl⟩
        rw [hK3] at k3 e2
        obtain ⟨K4, hK4⟩ : ∃ K, countV [110, 111, 119] L = K := ⟨_, rfl⟩
        rw [hK4] at k4 e3
        obtain ⟨N, hN⟩ : ∃ N, L.length = N := ⟨_, rfl⟩
        rw [hN] at hc k1 k2 k3 k4
        have q1 : ((K1 : Int) + (K2 : Int) == (n1 : Int)) = true := by simp; omega
        have q2 : ((K3 : Int) == (n2 : Int)) = true := by simp; omega
        have q3 : ((K4 : Int) == 1) = true := by simp; omega
        have b1 : K1 ≤ 60 := by omega
        have b2 : K2 ≤ 60 := by omega
        have H1 := Lib.hid h1
        have H2 := Lib.hid h2
        have H3 := Lib.hid h3
        have HC := Lib.hid hc
        have C1 := Lib.hid k1
        have C2 := Lib.hid k2
        have C3 := Lib.hid k3
        have C4 := Lib.hid k4
        clear hc k k1 k2 k3 k4 hK1 hK2 hK3 hK4 hN hL hlen e1 e2 e3 h1 h2 h3 htab hnow
        go_enter Tryd.func8, Tryd.ntmps8
        go_upto_region 1 with fail
        obtain ⟨V, hV⟩ : ∃ V, w.heap.size = V := ⟨_, rfl⟩
        rw [hV] at bk ⊢
        generalize (w.alloc (.cells #[.int .i64 now, .slice A1 n1 c1, .slice A2 n2 c2, .int .i64 x3, .int .i64 x4, .int .i64 x5, .slice A3 n3 c3] 56)) = w0 at bk hb ⊢
        have f0 := bk.cell 0
        have f1 := bk.cell 1
        have f2 := bk.cell 2
        have f3 := bk.cell 3
        have f4 := bk.cell 4
        have f5 := bk.cell 5
        have f6 := bk.cell 6
        simp only [List.getElem?_toArray, List.getElem?_cons_zero, List.getElem?_cons_succ] at f0 f1 f2 f3 f4 f5 f6
        have BK := Lib.hid bk
        have HB := Lib.hid hb
        clear bk hb hV
        go_upto_region 4 with (go_at_call 24; refine (HC.out _ (tab_below HT.out HB.out) (H1.out.below HB.out) (H2.out.below HB.out) (H3.out.below HB.out)).mono ?_; rintro e w1 ⟨A, c, rfl, ts, b1⟩; have HTS := Lib.hid ts; have L1 := Lib.hid (HB.out.trans (b1.mono HB.out.size)); have B1 := Lib.hid (BK.out.on b1); clear ts b1)
        have u1 := B1.out.cell 1
        have u2 := B1.out.cell 2
        simp only [List.getElem?_toArray, List.getElem?_cons_zero, List.getElem?_cons_succ] at u1 u2
        have r1 := fun p : After w1 => p.read u1
        have r2 := fun p : After w1 => p.read u2
        clear u1 u2
        refine wp_after (by kernel_rfl) (by kernel_rfl) ?_
        repeat go_big_quiet_step (first
          | (go_at_call 25; with_reducible exact calls_after (C1.out _ _ _ (HTS.out.kept (After.below _)).in_))
          | (go_at_call 25; with_reducible exact calls_after (C2.out _ _ _ (HTS.out.kept (After.below _)).in_))
          | (go_at_call 25; with_reducible exact calls_after (C3.out _ _ _ (HTS.out.kept (After.below _)).in_))
          | (go_at_call 25; with_reducible exact calls_after (C4.out _ _ _ (HTS.out.kept (After.below _)).in_))
          | (go_at_call 10; exact calls_after (awake40 _ (tab_below HT.out (L1.out.trans ((After.below _).mono L1.out.size))))))
        refine wpQuiet_nil ?_
        intro w' hw'
        obtain ⟨p, rfl⟩ := hw'
        go_wp2
        go_ret
        exact ⟨rfl, L1.out.trans (p.below.mono L1.out.size)⟩
end Go.Proofs.YtkbbkddepcjoaaaDoor
