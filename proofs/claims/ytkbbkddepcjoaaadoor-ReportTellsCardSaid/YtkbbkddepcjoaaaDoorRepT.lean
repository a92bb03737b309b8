/-
  report: a view in lines, and how many lines begin with a word, by the document; ReportTells walked. (Joined of RepN, RepO, RepQ.)
-/
import Derived.Test.YtkbbkddepcjoaaaDoorRepM
import Derived.Test.YtkbbkddepcjoaaaDoorRepG
import Derived.Test.YtkbbkddepcjoaaaDoorRepP
import Derived.Test.YtkbbkddepcjoaaaDoorRepB
import Derived.Test.YtkbbkddepcjoaaaDoorShelf
namespace Go.Proofs.YtkbbkddepcjoaaaDoor
open Go.RowKit Go.Great

theorem sz_name (k : Nat) (hk : k < 14) : ∃ T : ByteArray, bs (nameV k) = T ∧ T.size ≤ 20 := ⟨_, rfl, by
  rw [bs_size]
  rcases (show k = 0 ∨ k = 1 ∨ k = 2 ∨ k = 3 ∨ k = 4 ∨ k = 5 ∨ k = 6 ∨ k = 7 ∨ k = 8 ∨ k = 9 ∨ k = 10 ∨ k = 11 ∨ k = 12 ∨ k = 13 by omega) with rfl | rfl | rfl | rfl | rfl | rfl | rfl | rfl | rfl | rfl | rfl | rfl | rfl | rfl <;> decide⟩

set_option linter.unusedSimpArgs false in
set_option linter.unusedVariables false in
set_option maxRecDepth 100000 in
set_option maxHeartbeats 16000000 in
theorem rlines_any (now x3 x4 x5 : Int) (A1 A2 A3 : Option Addr) (n1 c1 n2 c2 n3 c3 : Nat) (Bs : List Bd) (Ts : List Ss) (Cs : List Int) (hnow : IntKind.i64.has now) (l1 : n1 ≤ 60) (l2 : n2 ≤ 60) (w : World) (h1 : BRd w A1 n1 Bs) (h2 : TRd w A2 n2 Ts) (h3 : IntRow .i64 w A3 n3 Cs) : Calls Tryd.prog 30 #[.agg #[.int .i64 now, .slice A1 n1 c1, .slice A2 n2 c2, .int .i64 x3, .int .i64 x4, .int .i64 x5, .slice A3 n3 c3]] w fun r w' => ∃ A c, r = .returned (.slice A (linesT now Bs Ts Cs).length c) ∧ TS w'.heap.size w' A (linesT now Bs Ts Cs).length c (linesT now Bs Ts Cs) ∧ Below w.heap.size w w' := by
  obtain ⟨i0, hi0, hz0, hz1, hz2⟩ := info_parts str_info
  have c1' := fun W => rnumber_any now hnow W
  obtain ⟨TN, hTN, zN⟩ := sz_itoa now hnow
  have e0 : (⟨#[110, 111, 119, 32]⟩ : ByteArray) ++ TN = bs (nowT now) := by
    rw [← hTN, show (⟨#[110, 111, 119, 32]⟩ : ByteArray) = bs [110, 111, 119, 32] from rfl, bs_append]
    show _ = bs (Lib.join [wNow, Lib.itoa now] [32])
    rw [join2, Lib.join_one]
    rfl
  rw [hTN] at c1'
  have hR : linesT now Bs Ts Cs = nowT now :: (Bs.map bindT ++ Ts.map sessT ++ dropsT 0 Cs) := rfl
  obtain ⟨R, hRR⟩ : ∃ R, linesT now Bs Ts Cs = R := ⟨_, rfl⟩
  rw [hRR] at hR ⊢
  obtain ⟨T0, hT0⟩ : ∃ T, nowT now = T := ⟨_, rfl⟩
  rw [hT0] at e0 hR
  have hb := (Below.refl w.heap.size w).alloc (Nat.le_refl _) (.cells #[.int .i64 now, .slice A1 n1 c1, .slice A2 n2 c2, .int .i64 x3, .int .i64 x4, .int .i64 x5, .slice A3 n3 c3] 56)
  have bk := Blk.new w 56 #[.int .i64 now, .slice A1 n1 c1, .slice A2 n2 c2, .int .i64 x3, .int .i64 x4, .int .i64 x5, .slice A3 n3 c3]
  have H1 := Lib.hid h1
  have H2 := Lib.hid h2
  have H3 := Lib.hid h3
  have HR := Lib.hid hR
  have E1 := Lib.hid h1.len
  have E2 := Lib.hid h2.len
  have E3 := Lib.hid h3.2.1
  have l3 := h3.1
  have C1 := Lib.hid c1'
  have EJ := Lib.hid e0
  clear h1 h2 h3 hR hRR hT0 hTN e0 c1' hnow
  go_enter Tryd.func30, Tryd.ntmps30
  go_upto_region 1 with fail
  obtain ⟨V, hV⟩ : ∃ V, w.heap.size = V := ⟨_, rfl⟩
  rw [hV] at bk ⊢
  generalize (w.alloc (.cells #[.int .i64 now, .slice A1 n1 c1, .slice A2 n2 c2, .int .i64 x3, .int .i64 x4, .int .i64 x5, .slice A3 n3 c3] 56)) = w0 at bk hb ⊢
  have f0 := bk.cell 0
  simp only [List.getElem?_toArray, List.getElem?_cons_zero] at f0
  have BK := Lib.hid bk
  have HB := Lib.hid hb
  have HV := Lib.hid hV
  clear bk hb hV
  go_upto_region 2 with (go_at_call 49; refine (C1.out _).mono ?_; rintro e w1 ⟨rfl, rfl⟩)
  rw [EJ.out]
  have own0 : (w0.alloc (.cells #[.string (bs T0)] 9)).ownsRow w0.heap.size 9 1 (.slice (some ⟨w0.heap.size, 0, none⟩) 1 1) 1 (strs [T0]) := World.ownsRow_lit w0 #[.string (bs T0)] 1 (Nat.le_refl _) (by decide) rfl
  have k3 := BK.out.alloc (.cells #[.string (bs T0)] 9)
  have l3' := HB.out.alloc (o := .cells #[.string (bs T0)] 9) HB.out.size
  have vlt := BK.out.lt
  have hNW : w0.heap.size ≤ (w0.alloc (.cells #[.string (bs T0)] 9)).heap.size := by simp
  have hwN := HB.out.size
  rw [HV.out] at hwN
  obtain ⟨N2, hN2⟩ : ∃ N, w0.heap.size = N := ⟨_, rfl⟩
  rw [hN2] at own0 vlt hNW hwN ⊢
  generalize (w0.alloc (.cells #[.string (bs T0)] 9)) = W at own0 k3 l3' hNW ⊢
  have KB := Lib.hid k3
  have LB := Lib.hid l3'
  have OWN0 := Lib.hid own0
  have HNW := Lib.hid hNW
  have VLT := Lib.hid vlt
  have WN := Lib.hid hwN
  clear own0 k3 l3' vlt hNW hwN hN2 f0 BK HB C1 EJ zN
  have KEPT := Lib.hid (show ∀ X, Below N2 W X → Blk X V 56 #[.int .i64 now, .slice A1 n1 c1, .slice A2 n2 c2, .int .i64 x3, .int .i64 x4, .int .i64 x5, .slice A3 n3 c3] ∧ Below w.heap.size w X from fun X h => ⟨KB.out.below h VLT.out, LB.out.trans (h.mono (by rw [HV.out]; exact WN.out))⟩)
  go_wp2
  go_loopw [3, 4] (fun v i wr => ∃ k : Nat, k ≤ n1 ∧ i = .int .i64 k ∧ wr.ownsRow N2 9 1 v (k + 1) (strs (T0 :: (Bs.take k).map bindT)) ∧ Below N2 W wr) (fun _ i _ => n1 - (intOf i).toNat)
  case atStart => exact ⟨0, by omega, rfl, OWN0.out, Below.refl _ _⟩
  case round =>
    obtain ⟨k, hk, rfl, own, hbw⟩ := hrel
    have hws : N2 ≤ wr.heap.size := Nat.le_trans HNW.out hbw.size
    obtain ⟨g, cap, rfl, hg, hgl⟩ := own.form (by omega)
    have OWN := Lib.hid own
    have HBW := Lib.hid hbw
    obtain ⟨kbox, kbel⟩ := KEPT.out wr hbw
    have KBEL := Lib.hid kbel
    have KBOX := Lib.hid kbox
    have f1 := kbox.cell 1
    simp only [List.getElem?_toArray, List.getElem?_cons_zero, List.getElem?_cons_succ] at f1
    by_cases hlt : k < n1
    · obtain ⟨x, hx⟩ : ∃ x, Bs[k]? = some x := ⟨_, List.getElem?_eq_getElem (by rw [E1.out]; exact hlt)⟩
      have htm := take_map bindT hx
      obtain ⟨⟨g1, g2, g4, g7⟩, b', o', rfl, hcl⟩ := H1.out.at_ kbel hx
      obtain ⟨⟨n, p, a, y⟩, ⟨p2, a2, y2⟩, st⟩ := x
      have q1 := fun X => rbind_any n p a y p2 a2 y2 st g1 g2 g4 g7 X
      obtain ⟨T, hT⟩ : ∃ T, bindT ((n, p, a, y), (p2, a2, y2), st) = T := ⟨_, rfl⟩
      rw [hT] at q1 htm
      have m0 := hcl 0 (by omega)
      have m1 := hcl 1 (by omega)
      have m2 := hcl 2 (by omega)
      have m3 := hcl 3 (by omega)
      have m4 := hcl 4 (by omega)
      have m5 := hcl 5 (by omega)
      have m6 := hcl 6 (by omega)
      have m7 := hcl 7 (by omega)
      simp only [bdL, List.getElem?_toArray, List.getElem?_cons_zero, List.getElem?_cons_succ, Nat.add_zero] at m0 m1 m2 m3 m4 m5 m6 m7
      have Q1 := Lib.hid q1
      have HTM := Lib.hid htm
      clear own hbw kbox kbel hx htm g1 g2 g4 g7 q1 hT hcl
      go_wp2_with (first
        | (go_at_call 26; refine (Q1.out _).mono ?_; rintro e w2 ⟨rfl, b2⟩; have B2 := Lib.hid b2; clear b2)
        | (at_builtin; refine wpList_append_any _ rfl (.tmp 19) (.tmp 26) _ rfl N2 9 i0 _ 1 16 Tryd.underlying57 hi0 hz0 hz1 hz2 rfl (by omega) _ (k + 1) (strs (T0 :: (Bs.take k).map bindT)) rfl (owns_below OWN.out (B2.out.alloc B2.out.size _)) (w2.heap.size + 1) (some ⟨w2.heap.size, 0, none⟩) 1 1 [.string (bs T)] rfl (reads_one _ _ _) (by simp [Value.oneCell']) (by simp only [maxLen]; omega) (by omega) (by have := B2.out.size; simp; omega) ?_; intro v6 w6 own6 grow6 _))
      have hb6 := (app_others (B2.out.alloc (o := .cells #[.string (bs T)] 9) B2.out.size) OWN.out hws grow6).2
      refine ⟨⟨k + 1, hlt, by go_num, ?_, HBW.out.trans hb6⟩, by simp [intOf]; omega⟩
      rw [HTM.out, ← List.cons_append, strs_snoc]
      exact own6
    · obtain rfl : k = n1 := by omega
      have ht : Bs.take k = Bs := by rw [← E1.out]; exact List.take_length
      rw [ht] at own
      obtain ⟨D, hD⟩ : ∃ D, T0 :: Bs.map bindT = D := ⟨_, rfl⟩
      rw [hD] at own
      have HD := Lib.hid hD
      have OWN1 := Lib.hid own
      have HBW1 := Lib.hid hbw
      clear own hbw kbox kbel hD ht hws OWN HBW KBEL KBOX OWN0
      go_wp2
      go_loopw [3, 5] (fun v i wx => ∃ k2 : Nat, k2 ≤ n2 ∧ i = .int .i64 k2 ∧ wx.ownsRow N2 9 1 v (k + 1 + k2) (strs (D ++ (Ts.take k2).map sessT)) ∧ Below N2 W wx) (fun _ i _ => n2 - (intOf i).toNat)
      case atStart => exact ⟨0, by omega, rfl, by simpa using OWN1.out, HBW1.out⟩
      case round =>
        obtain ⟨k2, hk2, rfl, own, hbw⟩ := hrel
        obtain ⟨g2, cap2, rfl, hg2, hgl2⟩ := own.form (by omega)
        have hws : N2 ≤ wr.heap.size := Nat.le_trans HNW.out hbw.size
        have OWN := Lib.hid own
        have HBW := Lib.hid hbw
        obtain ⟨kbox, kbel⟩ := KEPT.out wr hbw
        have KBEL := Lib.hid kbel
        have DL := Lib.hid (show D.length = k + 1 by rw [← HD.out]; simp [E1.out])
        have f2 := kbox.cell 2
        simp only [List.getElem?_toArray, List.getElem?_cons_zero, List.getElem?_cons_succ] at f2
        clear f1
        by_cases hlt2 : k2 < n2
        · obtain ⟨x, hx⟩ : ∃ x, Ts[k2]? = some x := ⟨_, List.getElem?_eq_getElem (by rw [E2.out]; exact hlt2)⟩
          have htm := take_map sessT hx
          obtain ⟨⟨g1, g2', g3, g4⟩, b', o', rfl, hcl⟩ := H2.out.at_ kbel hx
          obtain ⟨b, s, u, a, p⟩ := x
          have q1 := fun X => rsess_any b s u a p g1 g2' g3 g4 X
          obtain ⟨T, hT⟩ : ∃ T, sessT (b, s, u, a, p) = T := ⟨_, rfl⟩
          rw [hT] at q1 htm
          have m0 := hcl 0 (by omega)
          have m1 := hcl 1 (by omega)
          have m2 := hcl 2 (by omega)
          have m3 := hcl 3 (by omega)
          have m4 := hcl 4 (by omega)
          simp only [ssC, List.getElem?_toArray, List.getElem?_cons_zero, List.getElem?_cons_succ, Nat.add_zero] at m0 m1 m2 m3 m4
          have Q1 := Lib.hid q1
          have HTM := Lib.hid htm
          clear own hbw kbox kbel hx htm g1 g2' g3 g4 q1 hT hcl
          go_wp2_with (first
            | (go_at_call 28; refine (Q1.out _).mono ?_; rintro e w2 ⟨rfl, b2⟩; have B2 := Lib.hid b2; clear b2)
            | (at_builtin; refine wpList_append_any _ rfl (.tmp 35) (.tmp 42) _ rfl N2 9 i0 _ 1 16 Tryd.underlying57 hi0 hz0 hz1 hz2 rfl (by omega) _ (k + 1 + k2) (strs (D ++ (Ts.take k2).map sessT)) rfl (owns_below OWN.out (B2.out.alloc B2.out.size _)) (w2.heap.size + 1) (some ⟨w2.heap.size, 0, none⟩) 1 1 [.string (bs T)] rfl (reads_one _ _ _) (by simp [Value.oneCell']) (by simp only [maxLen]; omega) (by omega) (by have := B2.out.size; simp; omega) ?_; intro v6 w6 own6 grow6 _))
          have hb6 := (app_others (B2.out.alloc (o := .cells #[.string (bs T)] 9) B2.out.size) OWN.out hws grow6).2
          refine ⟨⟨k2 + 1, hlt2, by go_num, ?_, HBW.out.trans hb6⟩, by simp [intOf]; omega⟩
          rw [HTM.out, ← List.append_assoc, strs_snoc]
          exact own6
        · obtain rfl : k2 = n2 := by omega
          have ht : Ts.take k2 = Ts := by rw [← E2.out]; exact List.take_length
          rw [ht] at own
          obtain ⟨D2, hD2⟩ : ∃ D2, D ++ Ts.map sessT = D2 := ⟨_, rfl⟩
          rw [hD2] at own
          have HD2 := Lib.hid hD2
          obtain ⟨R3, hR3⟩ : ∃ R3, dropsT 0 Cs = R3 := ⟨_, rfl⟩
          have HR3 := Lib.hid (show R = D2 ++ R3 by rw [HR.out, hR3, ← hD2, ← HD.out]; simp)
          have HDR := Lib.hid (show dropsT 1 (Cs.drop 1) = R3 by rw [← drops_start]; exact hR3)
          obtain ⟨d2, hd2⟩ : ∃ d2, k + 1 + k2 = d2 := ⟨_, rfl⟩
          rw [hd2] at own ⊢
          have DL2 := Lib.hid (show D2.length = d2 by rw [← hD2, List.length_append, DL.out, List.length_map, E2.out]; exact hd2)
          have hd2b : d2 ≤ 121 := by omega
          have hd20 : 0 < d2 := by omega
          have OWN2 := Lib.hid own
          have HBW2 := Lib.hid hbw
          clear own hbw kbox kbel hD2 hR3 ht hd2 OWN HBW KBEL OWN1 HBW1
          go_wp2
          go_loopw [3, 6] (fun v i wx => ∃ (k3 m : Nat) (E : List (List UInt8)), i = .int .i64 k3 ∧ 1 ≤ k3 ∧ k3 ≤ 14 ∧ E.length = m ∧ m ≤ k3 ∧ wx.ownsRow N2 9 1 v (d2 + m) (strs (D2 ++ E)) ∧ E ++ dropsT k3 (Cs.drop k3) = R3 ∧ Below N2 W wx) (fun _ i _ => n3 - (intOf i).toNat)
          case atStart => exact ⟨1, 0, [], rfl, by omega, by omega, rfl, by omega, by simpa using OWN2.out, by simpa using HDR.out, HBW2.out⟩
          case round =>
            obtain ⟨k3, m, E, rfl, hk1, hk14, hEm, hmk, own, hRk, hbw⟩ := hrel
            obtain ⟨g2, cap2, rfl, hg2, hgl2⟩ := own.form (by omega)
            have hws : N2 ≤ wr.heap.size := Nat.le_trans HNW.out hbw.size
            obtain ⟨kbox, kbel⟩ := KEPT.out wr hbw
            have f6 := kbox.cell 6
            simp only [List.getElem?_toArray, List.getElem?_cons_zero, List.getElem?_cons_succ] at f6
            clear f2
            have KBEL := Lib.hid kbel
            by_cases hlt3 : k3 < n3
            · obtain ⟨b, off, z, rfl, hbl, hcell, hz, hwf⟩ := H3.out.at_ kbel hlt3
              by_cases h14 : 14 ≤ k3
              · have hd : decide ((k3 : Int) < 14) = false := by simp; omega
                rw [drops_end _ h14, List.append_nil] at hRk
                have hle : R.length = d2 + m := by rw [HR3.out, List.length_append, DL2.out, ← hRk, hEm]
                rw [hRk, ← HR3.out] at own
                have HTS := Lib.hid (own_ts own hle.symm (by omega))
                have HLE := Lib.hid hle
                clear own hbw kbox kbel hRk h14 hle hEm hz hwf hcell
                go_wp2
                try simp only [Exit.noGoto]
                go_ret
                rw [HLE.out]
                exact ⟨_, _, rfl, HTS.out, KBEL.out⟩
              · have hd : decide ((k3 : Int) < 14) = true := by simp; omega
                have hk15 : k3 + 1 ≤ 14 := by omega
                have hzk : Cs[k3]? = some z := by
                  have : k3 < Cs.length := by rw [E3.out]; exact hlt3
                  rw [List.getD_eq_getElem?_getD, List.getElem?_eq_getElem this] at hz
                  rw [List.getElem?_eq_getElem this, hz]
                  rfl
                have hdc := drop_cons hzk
                rw [hdc] at hRk
                have hzr : IntKind.i64.has z := by
                  have : -9223372036854775808 ≤ z ∧ z ≤ 9223372036854775807 := by simpa [Lit.wf, IntKind.min, IntKind.max, IntKind.bits, IntKind.signed] using hwf
                  exact i64_of this.1 this.2
                clear hdc hz hwf hzk
                by_cases hz0 : 0 < z
                · have hdz : decide (0 < z) = true := decide_eq_true hz0
                  rw [drops_take _ _ _ (by omega) (by omega)] at hRk
                  have q1 := fun X => rname_any k3 (by omega) X
                  have q2 := fun X => rnumber_any z hzr X
                  obtain ⟨T, hT⟩ : ∃ T, dropT k3 z = T := ⟨_, rfl⟩
                  obtain ⟨TA, hTA, zA⟩ := sz_name k3 (by omega)
                  obtain ⟨TZ, hTZ, zZ⟩ := sz_itoa z hzr
                  have e0 : (((⟨#[100, 114, 111, 112, 32]⟩ : ByteArray) ++ TA) ++ ⟨#[32]⟩) ++ TZ = bs T := by
                    rw [← hT, ← hTA, ← hTZ, show (⟨#[100, 114, 111, 112, 32]⟩ : ByteArray) = bs [100, 114, 111, 112, 32] from rfl, show (⟨#[32]⟩ : ByteArray) = bs [32] from rfl]
                    simp only [bs_append]
                    congr 1
                    show _ = Lib.join [wDrop, nameV k3, Lib.itoa z] [32]
                    simp [join2, Lib.join_one, wDrop]
                  rw [hT] at hRk
                  rw [hTA] at q1
                  rw [hTZ] at q2
                  rw [show E ++ T :: dropsT (k3 + 1) (Cs.drop (k3 + 1)) = (E ++ [T]) ++ dropsT (k3 + 1) (Cs.drop (k3 + 1)) by simp] at hRk
                  have HRK := Lib.hid hRk
                  have OWN := Lib.hid own
                  have HBW := Lib.hid hbw
                  have Q1 := Lib.hid q1
                  have Q2 := Lib.hid q2
                  have HCAT := Lib.hid e0
                  have HEM := Lib.hid (show (E ++ [T]).length = m + 1 by simp [hEm])
                  have hm14 : m ≤ 14 := by omega
                  have VWR := Lib.hid kbox.lt
                  have BN := Lib.hid (show b < N2 from Nat.lt_of_lt_of_le (by rw [HV.out] at hbl; exact hbl) WN.out)
                  have BWR := Lib.hid (Nat.lt_of_lt_of_le hbl kbel.size)
                  clear own hbw kbox kbel hRk h14 hzr hz0 q1 q2 e0 hT hTA hTZ hEm
                  go_upto_region 14 with fail
                  refine wp_region_held_drew (S := (fun W' : World => W'.cell? ⟨V, 6, none⟩ = some (.slice (some ⟨b, off, none⟩) n3 c3) ∧ W'.cell? ⟨b, off + k3, none⟩ = some (.int .i64 z))) (by kernel_rfl) ⟨f6, hcell⟩ (fun H0 => ?_)
                  refine wpAnyH_take (i := 0) (v := .slice (some ⟨g2, 0, none⟩) (d2 + m) cap2) rfl (by kernel_rfl) (by kernel_rfl) (by kernel_rfl) (fun _ _ _ h => h) (.inl ⟨rfl, fun w hS => by go_simp⟩) H0 ?_
                  simp only [Act.put, List.getElem_toArray, List.getElem_cons_zero, List.setIfInBounds_toArray, List.set_cons_zero, List.set_cons_succ]
                  refine wpAnyH_take (i := 1) (v := .int .i64 k3) rfl (by kernel_rfl) (by kernel_rfl) (by kernel_rfl) (fun _ _ _ h => h) (.inl ⟨rfl, fun w hS => by go_simp⟩) H0 ?_
                  simp only [Act.put, List.getElem_toArray, List.getElem_cons_succ, List.getElem_cons_zero, List.setIfInBounds_toArray, List.set_cons_zero, List.set_cons_succ]
                  refine wpAnyH_take (i := 5) (v := .pointer (some ⟨V, 6, none⟩)) rfl (by kernel_rfl) (by kernel_rfl) (by kernel_rfl) (fun _ _ _ h => h) (.inl ⟨rfl, fun w hS => by go_simp⟩) H0 ?_
                  simp only [Act.put, List.getElem_toArray, List.getElem_cons_succ, List.getElem_cons_zero, List.setIfInBounds_toArray, List.set_cons_zero, List.set_cons_succ]
                  refine wpAnyH_take (i := 6) (v := .slice (some ⟨b, off, none⟩) n3 c3) rfl (by kernel_rfl) (by kernel_rfl) (by kernel_rfl) (fun _ _ _ h => h) (.inl ⟨rfl, fun w hS => by obtain ⟨m6, mz⟩ := hS; go_simp⟩) H0 ?_
                  simp only [Act.put, List.getElem_toArray, List.getElem_cons_succ, List.getElem_cons_zero, List.setIfInBounds_toArray, List.set_cons_zero, List.set_cons_succ]
                  refine wpAnyH_take (i := 7) (v := .int .i64 k3) rfl (by kernel_rfl) (by kernel_rfl) (by kernel_rfl) (fun _ _ _ h => h) (.inl ⟨rfl, fun w hS => by go_simp⟩) H0 ?_
                  simp only [Act.put, List.getElem_toArray, List.getElem_cons_succ, List.getElem_cons_zero, List.setIfInBounds_toArray, List.set_cons_zero, List.set_cons_succ]
                  refine wpAnyH_take (i := 8) (v := .pointer (some ⟨b, off + k3, none⟩)) rfl (by kernel_rfl) (by kernel_rfl) (by kernel_rfl) (fun _ _ _ h => h) (.inl ⟨rfl, fun w hS => by go_simp⟩) H0 ?_
                  simp only [Act.put, List.getElem_toArray, List.getElem_cons_succ, List.getElem_cons_zero, List.setIfInBounds_toArray, List.set_cons_zero, List.set_cons_succ]
                  refine wpAnyH_take (i := 9) (v := .int .i64 z) rfl (by kernel_rfl) (by kernel_rfl) (by kernel_rfl) (fun _ _ _ h => h) (.inl ⟨rfl, fun w hS => by obtain ⟨m6, mz⟩ := hS; go_simp⟩) H0 ?_
                  simp only [Act.put, List.getElem_toArray, List.getElem_cons_succ, List.getElem_cons_zero, List.setIfInBounds_toArray, List.set_cons_zero, List.set_cons_succ]
                  refine wpAnyH_ready (rs := [2]) (by kernel_rfl) (by simp) ?_
                  refine AllReadyH.cons rfl (fun KK hK => ?_) AllReadyH.nil
                  refine step_call rfl 52 #[.tmp 62] #[3] rfl #[.int .i64 k3] (by simp [Act.eval]) (enters_of Tryd.func52 (by kernel_rfl) rfl) ?_
                  refine (Q1.out _).mono ?_
                  rintro r w7 ⟨rfl, b7⟩
                  have b7 : Below wr.heap.size wr w7 := ⟨b7.os, b7.tape, b7.output, b7.size, b7.block⟩
                  have h7 : (fun W' : World => W'.cell? ⟨V, 6, none⟩ = some (.slice (some ⟨b, off, none⟩) n3 c3) ∧ W'.cell? ⟨b, off + k3, none⟩ = some (.int .i64 z)) w7 := ⟨(b7.cell (p := ⟨V, 6, none⟩) VWR.out).trans f6, (b7.cell (p := ⟨b, off + k3, none⟩) BWR.out).trans hcell⟩
                  have B7 := Lib.hid b7
                  clear b7
                  refine ⟨_, rfl, hK.out _ _ h7 (fun _ => ?_)⟩
                  clear hK KK
                  simp only [Act.put, List.getElem_toArray, List.getElem_cons_succ, List.getElem_cons_zero, List.setIfInBounds_toArray, List.set_cons_zero, List.set_cons_succ]
                  refine wpAnyH_take (i := 3) (v := .string ((⟨#[100, 114, 111, 112, 32]⟩ : ByteArray) ++ TA)) rfl (by kernel_rfl) (by kernel_rfl) (by kernel_rfl) (fun _ _ _ h => h) (.inl ⟨rfl, fun w hS => by go_simp; omega⟩) h7 ?_
                  simp only [Act.put, List.getElem_toArray, List.getElem_cons_succ, List.getElem_cons_zero, List.setIfInBounds_toArray, List.set_cons_zero, List.set_cons_succ]
                  refine wpAnyH_take (i := 4) (v := .string (((⟨#[100, 114, 111, 112, 32]⟩ : ByteArray) ++ TA) ++ ⟨#[32]⟩)) rfl (by kernel_rfl) (by kernel_rfl) (by kernel_rfl) (fun _ _ _ h => h) (.inl ⟨rfl, fun w hS => by go_simp; omega⟩) h7 ?_
                  simp only [Act.put, List.getElem_toArray, List.getElem_cons_succ, List.getElem_cons_zero, List.setIfInBounds_toArray, List.set_cons_zero, List.set_cons_succ]
                  refine wpAnyH_ready (rs := [10]) (by kernel_rfl) (by simp) ?_
                  refine AllReadyH.cons rfl (fun KK hK => ?_) AllReadyH.nil
                  refine step_call rfl 49 #[.tmp 70] #[3] rfl #[.int .i64 z] (by simp [Act.eval]) (enters_of Tryd.func49 (by kernel_rfl) rfl) ?_
                  refine (Q2.out _).mono ?_
                  rintro r w9 ⟨rfl, rfl⟩
                  refine ⟨_, rfl, hK.out _ _ h7 (fun _ => ?_)⟩
                  clear hK KK
                  simp only [Act.put, List.getElem_toArray, List.getElem_cons_succ, List.getElem_cons_zero, List.setIfInBounds_toArray, List.set_cons_zero, List.set_cons_succ]
                  refine wpAnyH_take (i := 11) (v := .string ((((⟨#[100, 114, 111, 112, 32]⟩ : ByteArray) ++ TA) ++ ⟨#[32]⟩) ++ TZ)) rfl (by kernel_rfl) (by kernel_rfl) (by kernel_rfl) (fun _ _ _ h => h) (.inl ⟨rfl, fun w hS => by go_simp; omega⟩) h7 ?_
                  simp only [Act.put, List.getElem_toArray, List.getElem_cons_succ, List.getElem_cons_zero, List.setIfInBounds_toArray, List.set_cons_zero, List.set_cons_succ]
                  rw [HCAT.out]
                  refine wpAnyH_ready (rs := [12]) (by kernel_rfl) (by simp) ?_
                  refine AllReadyH.cons rfl (fun KK hK => ?_) AllReadyH.nil
                  go_simp
                  have own9 := (owns_below OWN.out B7.out).alloc (.cells #[.string (bs T)] 9)
                  have l9 := B7.out.alloc B7.out.size (.cells #[.string (bs T)] 9)
                  have x9 := Blk.new w7 9 #[.string (bs T)]
                  obtain ⟨V8, hV8⟩ : ∃ V8, w7.heap.size = V8 := ⟨_, rfl⟩
                  have h9 : (fun W' : World => W'.cell? ⟨V, 6, none⟩ = some (.slice (some ⟨b, off, none⟩) n3 c3) ∧ W'.cell? ⟨b, off + k3, none⟩ = some (.int .i64 z)) (w7.alloc (.cells #[.string (bs T)] 9)) := ⟨(l9.cell (p := ⟨V, 6, none⟩) VWR.out).trans f6, (l9.cell (p := ⟨b, off + k3, none⟩) BWR.out).trans hcell⟩
                  rw [hV8] at x9 ⊢
                  generalize (w7.alloc (.cells #[.string (bs T)] 9)) = w9 at own9 l9 x9 h9 ⊢
                  have hw9 : N2 ≤ w9.heap.size := Nat.le_trans hws l9.size
                  have OWN9 := Lib.hid own9
                  have L9 := Lib.hid l9
                  have X9 := Lib.hid x9
                  clear own9 l9 x9 hV8
                  refine hK.out _ _ h9 (fun _ => ?_)
                  clear hK KK
                  try simp only [Act.put, List.getElem_toArray, List.getElem_cons_succ, List.getElem_cons_zero, List.setIfInBounds_toArray, List.set_cons_zero, List.set_cons_succ]
                  refine wpAnyH_ready (rs := [13]) (by kernel_rfl) (by simp) ?_
                  refine AllReadyH.cons rfl (fun KK hK => ?_) AllReadyH.nil
                  refine step_append_any _ rfl (.tmp 61) (.tmp 73) _ rfl N2 9 i0 _ 1 16 Tryd.underlying57 hi0 hz0 hz1 hz2 rfl (by omega) _ (d2 + m) (strs (D2 ++ E)) rfl
                    OWN9.out w9.heap.size (some ⟨V8, 0, none⟩) 1 1 [.string (bs T)] rfl (show Reads w9 w9.heap.size 1 (some ⟨V8, 0, none⟩) 1 [.string (bs T)] from blk_reads (L := [T]) X9.out rfl) (by simp [Value.oneCell']) (by simp only [maxLen]; omega) (by omega) hw9 ?_
                  intro v8 w10 own8 grow8 _
                  have hb8 := (L9.out.mono hws).trans (app_others (Below.refl _ _) OWN9.out hw9 grow8).2
                  have h10 : (fun W' : World => W'.cell? ⟨V, 6, none⟩ = some (.slice (some ⟨b, off, none⟩) n3 c3) ∧ W'.cell? ⟨b, off + k3, none⟩ = some (.int .i64 z)) w10 := ⟨(hb8.cell (p := ⟨V, 6, none⟩) VLT.out).trans f6, (hb8.cell (p := ⟨b, off + k3, none⟩) BN.out).trans hcell⟩
                  refine hK.out _ _ h10 (fun _ => ?_)
                  clear hK KK
                  try simp only [Act.put, List.getElem_toArray, List.getElem_cons_succ, List.getElem_cons_zero, List.setIfInBounds_toArray, List.set_cons_zero, List.set_cons_succ]
                  refine wpAnyH_take (i := 14) (v := v8) rfl (by kernel_rfl) (by kernel_rfl) (by kernel_rfl) (fun _ _ _ h => h) (.inl ⟨rfl, fun w hS => by go_simp⟩) h10 ?_
                  simp only [Act.put, List.getElem_toArray, List.getElem_cons_succ, List.getElem_cons_zero, List.setIfInBounds_toArray, List.set_cons_zero, List.set_cons_succ]
                  refine wpAnyH_done (by kernel_rfl) ?_ _
                  go_wp2
                  refine ⟨⟨k3 + 1, m + 1, E ++ [T], by go_num, by omega, hk15, HEM.out, by omega, ?_, HRK.out, HBW.out.trans hb8⟩, by simp [intOf]; omega⟩
                  rw [← List.append_assoc, strs_snoc]
                  exact own8
                · have hdz : decide (0 < z) = false := decide_eq_false hz0
                  rw [drops_skip _ _ _ (by omega) (by omega)] at hRk
                  have HRK := Lib.hid hRk
                  have OWN := Lib.hid own
                  have HBW := Lib.hid hbw
                  clear own hbw kbox kbel hRk h14 hzr hz0
                  go_wp2
                  exact ⟨⟨k3 + 1, m, E, by go_num, by omega, hk15, hEm, by omega, OWN.out, HRK.out, HBW.out⟩, by simp [intOf]; omega⟩
            · have hnil : Cs.drop k3 = [] := List.drop_eq_nil_of_le (by rw [E3.out]; omega)
              rw [hnil, show dropsT k3 [] = [] by simp [dropsT], List.append_nil] at hRk
              have hle : R.length = d2 + m := by rw [HR3.out, List.length_append, DL2.out, ← hRk, hEm]
              rw [hRk, ← HR3.out] at own
              have HTS := Lib.hid (own_ts own hle.symm (by omega))
              have HLE := Lib.hid hle
              clear own hbw kbox kbel hRk hle hEm hnil
              go_wp2
              try simp only [Exit.noGoto]
              go_ret
              rw [HLE.out]
              exact ⟨_, _, rfl, HTS.out, KBEL.out⟩
end Go.Proofs.YtkbbkddepcjoaaaDoor
namespace Go.Proofs.YtkbbkddepcjoaaaDoor
open Go.RowKit Go.Great

theorem hit_short {w s : List UInt8} (h : ¬ w.length < s.length) (hne : s ≠ w) : hitV w s = false := by
  unfold hitV
  rw [decide_eq_false hne, Bool.false_or, Bool.eq_false_iff]
  intro hp
  rw [List.isPrefixOf_iff_prefix] at hp
  have := hp.length_le
  simp at this
  omega
theorem hit_head {w s : List UInt8} (hne : s ≠ w) (h : s.take w.length ≠ w) : hitV w s = false := by
  unfold hitV
  rw [decide_eq_false hne, Bool.false_or, Bool.eq_false_iff]
  intro hp
  rw [List.isPrefixOf_iff_prefix] at hp
  obtain ⟨t, rfl⟩ := hp
  apply h
  simp
theorem hit_next {w s : List UInt8} (hne : s ≠ w) (hl : w.length < s.length) (h : s.take w.length = w) : hitV w s = ((s.getD w.length 0).toNat == 32) := by
  unfold hitV
  rw [decide_eq_false hne, Bool.false_or]
  have hs : s = w ++ s.getD w.length 0 :: s.drop (w.length + 1) := by
    conv => lhs; rw [← List.take_append_drop w.length s, h, List.drop_eq_getElem_cons hl]
    rw [List.getD_eq_getElem?_getD, List.getElem?_eq_getElem hl]
    rfl
  generalize s.getD w.length 0 = c at hs
  generalize s.drop (w.length + 1) = r at hs
  subst hs
  by_cases hc : c = 32
  · subst hc
    rw [show ((32 : UInt8).toNat == 32) = true from rfl, List.isPrefixOf_iff_prefix]
    exact ⟨r, by simp⟩
  · have h1 : (c.toNat == 32) = false := by
      rw [Bool.eq_false_iff]
      intro e
      exact hc (UInt8.toNat_inj.1 (by simpa using e))
    rw [h1, Bool.eq_false_iff]
    intro hp
    rw [List.isPrefixOf_iff_prefix] at hp
    rw [List.prefix_append_right_inj] at hp
    obtain ⟨t, ht⟩ := hp
    injection ht with ht _
    exact hc ht.symm

set_option linter.unusedSimpArgs false in
set_option maxRecDepth 100000 in
set_option maxHeartbeats 4000000 in
theorem rcount_any (A : Option Addr) (n c : Nat) (L : List (List UInt8)) (wd : List UInt8) (hwd : wd.length ≤ 140737488355328) (hn : n ≤ 1048576) (w : World) (h : TS w.heap.size w A n c L) : Calls Tryd.prog 31 #[.slice A n c, .string (bs wd)] w fun r w' => r = .returned (.int .i64 (countV wd L : Nat)) ∧ Below w.heap.size w w' := by
  have HL := Lib.hid h.1
  have HTS := Lib.hid h
  have hsz : (bs wd).size = wd.length := rfl
  clear h
  go_enter Tryd.func31, Tryd.ntmps31
  go_wp2
  go_loopw [5, 6] (fun v i wr => ∃ k : Nat, k ≤ n ∧ i = .int .i64 k ∧ v = .int .i64 (countV wd (L.take k) : Nat) ∧ Below w.heap.size w wr) (fun _ i _ => n - (intOf i).toNat)
  case atStart => exact ⟨0, by omega, rfl, by simp [countV], Below.refl _ _⟩
  case round =>
    obtain ⟨k, hk, rfl, rfl, hb⟩ := hrel
    have HB := Lib.hid hb
    have hkc := count_le wd L k
    clear hb
    by_cases hlt : k < n
    · obtain ⟨x, hx⟩ : ∃ x, L[k]? = some x := ⟨_, List.getElem?_eq_getElem (by rw [← HL.out]; exact hlt)⟩
      obtain ⟨g, o, rfl, hcell, _⟩ := (HTS.out.kept HB.out).at_ hx
      have hst := count_step wd L k x hx
      have hle := list_eq x wd
      have HX := Lib.hid hx
      obtain ⟨K, hK⟩ : ∃ K, countV wd (L.take k) = K := ⟨_, rfl⟩
      rw [hK] at hst hkc
      rw [hK]
      have hxs : (bs x).size = x.length := rfl
      clear hx hK
      by_cases he : x = wd
      · rw [decide_eq_true he] at hle
        have hit : hitV wd x = true := by rw [hit_eq, he]; simp
        rw [hit] at hst
        have HST := Lib.hid hst
        clear hst he hit
        go_wp2
        exact ⟨⟨k + 1, by omega, by go_num, by rw [HST.out]; rfl, HB.out⟩, by simp [intOf]; omega⟩
      · rw [decide_eq_false he] at hle
        by_cases hlen : wd.length < x.length
        · have hd : decide ((wd.length : Int) < (x.length : Int)) = true := by simp; omega
          have hex : (bs x).extract 0 wd.length = bs (x.take wd.length) := by rw [Lib.extract_eq]; simp [bs]
          have hh := list_eq (x.take wd.length) wd
          obtain ⟨XT, hXT⟩ : ∃ XT, bs (x.take wd.length) = XT := ⟨_, rfl⟩
          rw [hXT] at hex hh
          by_cases ht : x.take wd.length = wd
          · rw [decide_eq_true ht] at hh
            have hit := hit_next he hlen ht
            have hix := fun W => idx_string (P := Tryd.prog) (t := 9) (bs x) wd.length Tryd.underlying9 hlen W
            simp only [bs_data] at hix
            obtain ⟨Y, hY⟩ : ∃ Y : Nat, (x.getD wd.length 0).toNat = Y := ⟨_, rfl⟩
            rw [hY] at hit hix
            have hy : (((Y : Nat) : Int) == 32) = (Y == 32) := by rw [Bool.eq_iff_iff]; simp; omega
            obtain ⟨Z, hZ⟩ : ∃ Z, (Y == 32) = Z := ⟨_, rfl⟩
            rw [hZ] at hit hy
            rw [hit] at hst
            have HST := Lib.hid hst
            clear hst he hit hY hZ hXT ht
            cases Z with
            | true =>
              go_wp2
              exact ⟨⟨k + 1, by omega, by go_num, by rw [HST.out]; rfl, HB.out⟩, by simp [intOf]; omega⟩
            | false =>
              go_wp2
              exact ⟨⟨k + 1, by omega, by go_num, by rw [HST.out]; rfl, HB.out⟩, by simp [intOf]; omega⟩
          · rw [decide_eq_false ht] at hh
            have hit := hit_head he ht
            rw [hit] at hst
            have HST := Lib.hid hst
            clear hst he hit hXT ht
            go_wp2
            exact ⟨⟨k + 1, by omega, by go_num, by rw [HST.out]; rfl, HB.out⟩, by simp [intOf]; omega⟩
        · have hd : decide ((wd.length : Int) < (x.length : Int)) = false := by simp; omega
          have hit := hit_short hlen he
          rw [hit] at hst
          have HST := Lib.hid hst
          clear hst he hit
          go_wp2
          exact ⟨⟨k + 1, by omega, by go_num, by rw [HST.out]; rfl, HB.out⟩, by simp [intOf]; omega⟩
    · obtain rfl : k = n := by omega
      have ht : L.take k = L := by rw [HL.out]; exact List.take_length
      rw [ht]
      go_wp2
      go_ret
      exact ⟨rfl, HB.out⟩
end Go.Proofs.YtkbbkddepcjoaaaDoor
namespace Go.Proofs.YtkbbkddepcjoaaaDoor
open Go.RowKit Go.Great

/-- Two rows of the same texts are equal. -/
theorem equal_rows (A A' : Option Addr) (n c c' : Nat) (L : List (List UInt8)) (hn : n = L.length) (h1 : n ≤ 1048576) (w : World) (h : TS w.heap.size w A n c L) (h' : TS w.heap.size w A' n c' L) : Calls Tryd.prog 29 #[.slice A n c, .slice A' n c'] w fun r w' => r = .returned (.bool true) ∧ Below w.heap.size w w' := by
  rcases Nat.eq_zero_or_pos n with h0 | h0
  · subst h0
    refine (Tryd.slices_Equal_string_empty A A' c 0 c' w (by omega)).mono ?_
    rintro e w' ⟨rfl, rfl⟩
    exact ⟨by simp, Below.refl _ _⟩
  · obtain ⟨g, o, rfl, _, tr⟩ := h.2.2.2 h0
    obtain ⟨g', o', rfl, _, tr'⟩ := h'.2.2.2 h0
    have cells : ∀ g o, TRow w g o L → ∀ j, j < (L.map bs).length → w.cell? ⟨g, o + j, none⟩ = some (.string ((L.map bs).getD j ByteArray.empty)) := by
      intro g o tr j hj
      have hj' : j < L.length := by simpa using hj
      rw [tr.2 j L[j] (List.getElem?_eq_getElem hj')]
      simp [List.getD_eq_getElem?_getD, List.getElem?_map, List.getElem?_eq_getElem hj']
    refine (Tryd.slices_Equal_string g o n c g' o' n c' (L.map bs) (L.map bs) w (by simp; omega) (by simp; omega) (by omega) (by omega) (cells g o tr) (cells g' o' tr')).mono ?_
    rintro e w' ⟨rfl, q, rfl⟩
    exact ⟨by simp, below_drewN (Below.refl _ _) q⟩

/-- A load of a row, taken first. -/
theorem yields_row {P : Program} {ops : Array Oper} {S : World → Prop} {o : Oper} {a : Act} (ty : TypeId) (x : Operand) (ho : o.op = .load ty x) (hw : Region.wanted o (yielded ops a.tmps) = true)
    (g : Nat) (hx : a.eval x = .pointer (some ⟨g, 0, none⟩)) (t : TypeId) (cs : Array Value) (d : TypeDesc) (hC : ∀ w, S w → w.heap[g]? = some (.cells cs t (0, 0)))
    (hu : P.underlying ty = some d) (hd : (match d with | .struct _ | .array _ _ => true | _ => false) = true) (hi : (P.info? ty).map (·.size) = some cs.size) : YieldsIf P ops S o (.agg cs) a :=
  .inl ⟨hw, fun w hS => by
    unfold execOp
    simp only [ho, hx, Instr.loadAt, Instr.sureAddr, Sem.run_bind, Sem.run_pure, Result.andThen_ok, run_loadVar_row w g t ty cs (0, 0) d (hC w hS) hu hd hi]⟩
/-- A call, its guard open. -/
theorem step_call_on {P : Program} {ops : Array Oper} {o : Oper} {a : Act} {w : World} {K : Act → World → Prop} {Q : Exit → Act → World → Prop} {E : Prop} (hw : Region.wanted o (yielded ops a.tmps) = true) (f : Nat) (args : Array Operand) (types : Array TypeId)
    (ho : o.op = .call { callee := .value (.func f), args := args, argTypes := types }) (vals : Array Value) (hv : args.map a.eval = vals) (eg : ∀ args w, (callFunc f args).run P w = .ok (.enter f args) w)
    (h : Calls P f vals w fun r w' => ∃ v, r = .returned v ∧ K (a.put o.dst v) w') : if Region.wanted o (yielded ops a.tmps) = true then Oper.wp P o a w K Q else E := by
  rw [if_pos hw]
  unfold Oper.wp execOp
  have he : a.eval (.func f) = .func (.func f) #[] #[] := rfl
  simp only [ho, resolve, invoke, Sem.run_bind, he, hv, Deferred.ofValue, Sem.run_pure, Result.andThen_ok, Array.append_empty, Array.empty_append, eg]
  refine h.mono ?_
  rintro r w' ⟨v, rfl, hk⟩
  exact hk

set_option linter.unusedSimpArgs false in
set_option maxRecDepth 100000 in
set_option maxHeartbeats 16000000 in
theorem tells_view (now x3 x4 x5 : Int) (A1 A2 A3 : Option Addr) (n1 c1 n2 c2 n3 c3 : Nat) (Bs : List Bd) (Ts : List Ss) (Cs : List Int) (hnow : IntKind.i64.has now) (n p a y p2 a2 y2 : Int) (st : Bool) (g1 : IntKind.i64.has n) (g2 : IntKind.i64.has p) (g4 : IntKind.i64.has y) (g7 : IntKind.i64.has y2)
    (sb ss su sa sp : Int) (s1 : IntKind.i64.has sb) (s2 : IntKind.i64.has ss) (s3 : IntKind.i64.has su) (s5 : IntKind.i64.has sp) (A4 : Option Addr) (n4 c4 : Nat) (Ls : List (List UInt8)) (wd : List UInt8) (hwd : wd.length ≤ 140737488355327)
    (w : World) (htab : TabW w) (h1 : BRd w A1 n1 Bs) (h2 : TRd w A2 n2 Ts) (h3 : IntRow .i64 w A3 n3 Cs) (h4 : TS w.heap.size w A4 n4 c4 Ls) : Calls Tryd.prog 9 #[.agg #[.int .i64 now, .slice A1 n1 c1, .slice A2 n2 c2, .int .i64 x3, .int .i64 x4, .int .i64 x5, .slice A3 n3 c3], .agg #[.int .i64 n, .int .i64 p, .int .i64 a, .int .i64 y, .int .i64 p2, .int .i64 a2, .int .i64 y2, .bool st], .agg #[.int .i64 sb, .int .i64 ss, .int .i64 su, .int .i64 sa, .int .i64 sp], .slice A4 n4 c4, .string (bs wd)] w fun r w' => r = .returned (.bool true) ∧ Below w.heap.size w w' := by
  have bk : Blk (((w.alloc (.cells #[.int .i64 now, .slice A1 n1 c1, .slice A2 n2 c2, .int .i64 x3, .int .i64 x4, .int .i64 x5, .slice A3 n3 c3] 56)).alloc (.cells #[.int .i64 n, .int .i64 p, .int .i64 a, .int .i64 y, .int .i64 p2, .int .i64 a2, .int .i64 y2, .bool st] 28)).alloc (.cells #[.int .i64 sb, .int .i64 ss, .int .i64 su, .int .i64 sa, .int .i64 sp] 64)) w.heap.size 56 #[.int .i64 now, .slice A1 n1 c1, .slice A2 n2 c2, .int .i64 x3, .int .i64 x4, .int .i64 x5, .slice A3 n3 c3] := ((Blk.new w 56 #[.int .i64 now, .slice A1 n1 c1, .slice A2 n2 c2, .int .i64 x3, .int .i64 x4, .int .i64 x5, .slice A3 n3 c3]).alloc _).alloc _
  have bk2 : Blk (((w.alloc (.cells #[.int .i64 now, .slice A1 n1 c1, .slice A2 n2 c2, .int .i64 x3, .int .i64 x4, .int .i64 x5, .slice A3 n3 c3] 56)).alloc (.cells #[.int .i64 n, .int .i64 p, .int .i64 a, .int .i64 y, .int .i64 p2, .int .i64 a2, .int .i64 y2, .bool st] 28)).alloc (.cells #[.int .i64 sb, .int .i64 ss, .int .i64 su, .int .i64 sa, .int .i64 sp] 64)) (w.heap.size + 1) 28 #[.int .i64 n, .int .i64 p, .int .i64 a, .int .i64 y, .int .i64 p2, .int .i64 a2, .int .i64 y2, .bool st] := by
    have := (Blk.new (w.alloc (.cells #[.int .i64 now, .slice A1 n1 c1, .slice A2 n2 c2, .int .i64 x3, .int .i64 x4, .int .i64 x5, .slice A3 n3 c3] 56)) 28 #[.int .i64 n, .int .i64 p, .int .i64 a, .int .i64 y, .int .i64 p2, .int .i64 a2, .int .i64 y2, .bool st]).alloc (.cells #[.int .i64 sb, .int .i64 ss, .int .i64 su, .int .i64 sa, .int .i64 sp] 64)
    simpa using this
  have bk3 : Blk (((w.alloc (.cells #[.int .i64 now, .slice A1 n1 c1, .slice A2 n2 c2, .int .i64 x3, .int .i64 x4, .int .i64 x5, .slice A3 n3 c3] 56)).alloc (.cells #[.int .i64 n, .int .i64 p, .int .i64 a, .int .i64 y, .int .i64 p2, .int .i64 a2, .int .i64 y2, .bool st] 28)).alloc (.cells #[.int .i64 sb, .int .i64 ss, .int .i64 su, .int .i64 sa, .int .i64 sp] 64)) (w.heap.size + 1 + 1) 64 #[.int .i64 sb, .int .i64 ss, .int .i64 su, .int .i64 sa, .int .i64 sp] := by
    have := Blk.new ((w.alloc (.cells #[.int .i64 now, .slice A1 n1 c1, .slice A2 n2 c2, .int .i64 x3, .int .i64 x4, .int .i64 x5, .slice A3 n3 c3] 56)).alloc (.cells #[.int .i64 n, .int .i64 p, .int .i64 a, .int .i64 y, .int .i64 p2, .int .i64 a2, .int .i64 y2, .bool st] 28)) 64 #[.int .i64 sb, .int .i64 ss, .int .i64 su, .int .i64 sa, .int .i64 sp]
    simpa using this
  have hb : Below w.heap.size w (((w.alloc (.cells #[.int .i64 now, .slice A1 n1 c1, .slice A2 n2 c2, .int .i64 x3, .int .i64 x4, .int .i64 x5, .slice A3 n3 c3] 56)).alloc (.cells #[.int .i64 n, .int .i64 p, .int .i64 a, .int .i64 y, .int .i64 p2, .int .i64 a2, .int .i64 y2, .bool st] 28)).alloc (.cells #[.int .i64 sb, .int .i64 ss, .int .i64 su, .int .i64 sa, .int .i64 sp] 64)) := (((Below.refl _ _).alloc (Nat.le_refl _) _).alloc (by simp) _).alloc (by simp; omega) _
  have HT := Lib.hid htab
  by_cases l1 : 60 < n1
  · have d1 : decide ((60 : Int) < (n1 : Int)) = true := by simp; omega
    clear htab h1 h2 h3 hnow
    go_enter Tryd.func9, Tryd.ntmps9
    go_upto_region 1 with fail
    obtain ⟨V, hV⟩ : ∃ V, w.heap.size = V := ⟨_, rfl⟩
    rw [hV] at bk bk2 bk3 ⊢
    generalize (((w.alloc (.cells #[.int .i64 now, .slice A1 n1 c1, .slice A2 n2 c2, .int .i64 x3, .int .i64 x4, .int .i64 x5, .slice A3 n3 c3] 56)).alloc (.cells #[.int .i64 n, .int .i64 p, .int .i64 a, .int .i64 y, .int .i64 p2, .int .i64 a2, .int .i64 y2, .bool st] 28)).alloc (.cells #[.int .i64 sb, .int .i64 ss, .int .i64 su, .int .i64 sa, .int .i64 sp] 64)) = w0 at bk bk2 bk3 hb ⊢
    have f1 := bk.cell 1
    have f2 := bk.cell 2
    simp only [List.getElem?_toArray, List.getElem?_cons_zero, List.getElem?_cons_succ] at f1 f2
    have BK := Lib.hid bk
    have BK2 := Lib.hid bk2
    have BK3 := Lib.hid bk3
    have HB := Lib.hid hb
    clear bk bk2 bk3 hb hV
    go_wp2_with (go_at_call 10; refine (awake40 _ (tab_below HT.out HB.out)).mono ?_; rintro e wa ⟨rfl, ba⟩; have LA := Lib.hid (HB.out.trans (ba.mono HB.out.size)); clear ba)
    go_ret
    exact ⟨rfl, LA.out⟩
  · have d1 : decide ((60 : Int) < (n1 : Int)) = false := by simp; omega
    by_cases l2 : 60 < n2
    · have d2 : decide ((60 : Int) < (n2 : Int)) = true := by simp; omega
      clear htab h1 h2 h3 hnow
      go_enter Tryd.func9, Tryd.ntmps9
      go_upto_region 1 with fail
      obtain ⟨V, hV⟩ : ∃ V, w.heap.size = V := ⟨_, rfl⟩
      rw [hV] at bk bk2 bk3 ⊢
      generalize (((w.alloc (.cells #[.int .i64 now, .slice A1 n1 c1, .slice A2 n2 c2, .int .i64 x3, .int .i64 x4, .int .i64 x5, .slice A3 n3 c3] 56)).alloc (.cells #[.int .i64 n, .int .i64 p, .int .i64 a, .int .i64 y, .int .i64 p2, .int .i64 a2, .int .i64 y2, .bool st] 28)).alloc (.cells #[.int .i64 sb, .int .i64 ss, .int .i64 su, .int .i64 sa, .int .i64 sp] 64)) = w0 at bk bk2 bk3 hb ⊢
      have f1 := bk.cell 1
      have f2 := bk.cell 2
      simp only [List.getElem?_toArray, List.getElem?_cons_zero, List.getElem?_cons_succ] at f1 f2
      have BK := Lib.hid bk
      have BK2 := Lib.hid bk2
      have BK3 := Lib.hid bk3
      have HB := Lib.hid hb
      clear bk bk2 bk3 hb hV
      go_wp2_with (go_at_call 10; refine (awake40 _ (tab_below HT.out HB.out)).mono ?_; rintro e wa ⟨rfl, ba⟩; have LA := Lib.hid (HB.out.trans (ba.mono HB.out.size)); clear ba)
      go_ret
      exact ⟨rfl, LA.out⟩
    · have d2 : decide ((60 : Int) < (n2 : Int)) = false := by simp; omega
      by_cases l3 : 60 < n4
      · have d3 : decide ((60 : Int) < (n4 : Int)) = true := by simp; omega
        clear htab h1 h2 h3 hnow
        go_enter Tryd.func9, Tryd.ntmps9
        go_upto_region 1 with fail
        obtain ⟨V, hV⟩ : ∃ V, w.heap.size = V := ⟨_, rfl⟩
        rw [hV] at bk bk2 bk3 ⊢
        generalize (((w.alloc (.cells #[.int .i64 now, .slice A1 n1 c1, .slice A2 n2 c2, .int .i64 x3, .int .i64 x4, .int .i64 x5, .slice A3 n3 c3] 56)).alloc (.cells #[.int .i64 n, .int .i64 p, .int .i64 a, .int .i64 y, .int .i64 p2, .int .i64 a2, .int .i64 y2, .bool st] 28)).alloc (.cells #[.int .i64 sb, .int .i64 ss, .int .i64 su, .int .i64 sa, .int .i64 sp] 64)) = w0 at bk bk2 bk3 hb ⊢
        have f1 := bk.cell 1
        have f2 := bk.cell 2
        simp only [List.getElem?_toArray, List.getElem?_cons_zero, List.getElem?_cons_succ] at f1 f2
        have BK := Lib.hid bk
        have BK2 := Lib.hid bk2
        have BK3 := Lib.hid bk3
        have HB := Lib.hid hb
        clear bk bk2 bk3 hb hV
        go_wp2_with (go_at_call 10; refine (awake40 _ (tab_below HT.out HB.out)).mono ?_; rintro e wa ⟨rfl, ba⟩; have LA := Lib.hid (HB.out.trans (ba.mono HB.out.size)); clear ba)
        go_ret
        exact ⟨rfl, LA.out⟩
      · have d3 : decide ((60 : Int) < (n4 : Int)) = false := by simp; omega
        have k1 := fun W ht => bind_any n p a y p2 a2 y2 st g1 g2 g4 g7 W ht
        have k2 := fun W => rbind_any n p a y p2 a2 y2 st g1 g2 g4 g7 W
        have k3 := fun W ht => sess_any sb ss su sa sp s1 s2 s3 s5 W ht
        have k4 := fun W => rsess_any sb ss su sa sp s1 s2 s3 s5 W
        have k5 := fun W ht hB hT hC => lines_any now x3 x4 x5 A1 A2 A3 n1 c1 n2 c2 n3 c3 Bs Ts Cs hnow (by omega) (by omega) W ht hB hT hC
        have k6 := fun W hB hT hC => rlines_any now x3 x4 x5 A1 A2 A3 n1 c1 n2 c2 n3 c3 Bs Ts Cs hnow (by omega) (by omega) W hB hT hC
        have hlen := lines_len now Bs Ts Cs (by have := h1.len; omega) (by have := h2.len; omega)
        obtain ⟨L, hL⟩ : ∃ L, linesT now Bs Ts Cs = L := ⟨_, rfl⟩
        rw [hL] at k5 k6 hlen
        obtain ⟨N, hN⟩ : ∃ N, L.length = N := ⟨_, rfl⟩
        have k7 := fun A A' c c' W h h' => equal_rows A A' N c c' L hN.symm (by omega) W h h'
        rw [hN] at k5 k6
        have k8 := fun W h => count_any A4 n4 c4 Ls wd hwd (by omega) W h
        have k9 := fun W h => rcount_any A4 n4 c4 Ls wd (by omega) (by omega) W h
        obtain ⟨T, hT⟩ : ∃ T, bs (bindT ((n, p, a, y), (p2, a2, y2), st)) = T := ⟨_, rfl⟩
        obtain ⟨T', hT'⟩ : ∃ T, bs (sessT (sb, ss, su, sa, sp)) = T := ⟨_, rfl⟩
        obtain ⟨K, hK⟩ : ∃ K, countV wd Ls = K := ⟨_, rfl⟩
        rw [hT] at k1 k2
        rw [hT'] at k3 k4
        rw [hK] at k8 k9
        have H1 := Lib.hid h1
        have H2 := Lib.hid h2
        have H3 := Lib.hid h3
        have H4 := Lib.hid h4
        have C1 := Lib.hid k1
        have C2 := Lib.hid k2
        have C3 := Lib.hid k3
        have C4 := Lib.hid k4
        have C5 := Lib.hid k5
        have C6 := Lib.hid k6
        have C7 := Lib.hid k7
        have C8 := Lib.hid k8
        have C9 := Lib.hid k9
        clear k1 k2 k3 k4 k5 k6 k7 k8 k9 hT hT' hK hN hL hlen h1 h2 h3 h4 htab hnow g1 g2 g4 g7 s1 s2 s3 s5 hwd
        go_enter Tryd.func9, Tryd.ntmps9
        go_upto_region 1 with fail
        obtain ⟨V, hV⟩ : ∃ V, w.heap.size = V := ⟨_, rfl⟩
        rw [hV] at bk bk2 bk3 ⊢
        generalize (((w.alloc (.cells #[.int .i64 now, .slice A1 n1 c1, .slice A2 n2 c2, .int .i64 x3, .int .i64 x4, .int .i64 x5, .slice A3 n3 c3] 56)).alloc (.cells #[.int .i64 n, .int .i64 p, .int .i64 a, .int .i64 y, .int .i64 p2, .int .i64 a2, .int .i64 y2, .bool st] 28)).alloc (.cells #[.int .i64 sb, .int .i64 ss, .int .i64 su, .int .i64 sa, .int .i64 sp] 64)) = w0 at bk bk2 bk3 hb ⊢
        have f1 := bk.cell 1
        have f2 := bk.cell 2
        simp only [List.getElem?_toArray, List.getElem?_cons_zero, List.getElem?_cons_succ] at f1 f2
        have BK := Lib.hid bk
        have BK2 := Lib.hid bk2
        have BK3 := Lib.hid bk3
        have HB := Lib.hid hb
        clear bk bk2 bk3 hb hV
        go_upto_region 3 with fail
        have h0 : (fun W' : World => Blk W' V 56 #[.int .i64 now, .slice A1 n1 c1, .slice A2 n2 c2, .int .i64 x3, .int .i64 x4, .int .i64 x5, .slice A3 n3 c3] ∧ Blk W' (V + 1) 28 #[.int .i64 n, .int .i64 p, .int .i64 a, .int .i64 y, .int .i64 p2, .int .i64 a2, .int .i64 y2, .bool st] ∧ Blk W' (V + 1 + 1) 64 #[.int .i64 sb, .int .i64 ss, .int .i64 su, .int .i64 sa, .int .i64 sp]) w0.drew := ⟨BK.out.drew, BK2.out.drew, BK3.out.drew⟩
        have LB := Lib.hid HB.out.drew
        refine wp_region_held_drew (S := (fun W' : World => Blk W' V 56 #[.int .i64 now, .slice A1 n1 c1, .slice A2 n2 c2, .int .i64 x3, .int .i64 x4, .int .i64 x5, .slice A3 n3 c3] ∧ Blk W' (V + 1) 28 #[.int .i64 n, .int .i64 p, .int .i64 a, .int .i64 y, .int .i64 p2, .int .i64 a2, .int .i64 y2, .bool st] ∧ Blk W' (V + 1 + 1) 64 #[.int .i64 sb, .int .i64 ss, .int .i64 su, .int .i64 sa, .int .i64 sp])) (by kernel_rfl) h0 (fun G0 => ?_)
        generalize w0.drew = v0 at h0 G0 LB ⊢
        clear BK BK2 BK3 HB h0
        refine wpAnyH_take (i := 0) (v := .agg #[.int .i64 n, .int .i64 p, .int .i64 a, .int .i64 y, .int .i64 p2, .int .i64 a2, .int .i64 y2, .bool st]) rfl (by kernel_rfl) (by kernel_rfl) (by kernel_rfl) (fun _ _ _ h => h) (yields_row 28 (.tmp 6) rfl rfl (V + 1) rfl 28 #[.int .i64 n, .int .i64 p, .int .i64 a, .int .i64 y, .int .i64 p2, .int .i64 a2, .int .i64 y2, .bool st] _ (fun w hS => hS.2.1) Tryd.underlying28 rfl (by kernel_rfl)) G0 ?_
        simp only [Act.put, List.getElem_toArray, List.getElem_cons_zero, List.setIfInBounds_toArray, List.set_cons_zero, List.set_cons_succ]
        refine wpAnyH_take (i := 2) (v := .agg #[.int .i64 n, .int .i64 p, .int .i64 a, .int .i64 y, .int .i64 p2, .int .i64 a2, .int .i64 y2, .bool st]) rfl (by kernel_rfl) (by kernel_rfl) (by kernel_rfl) (fun _ _ _ h => h) (yields_row 28 (.tmp 6) rfl rfl (V + 1) rfl 28 #[.int .i64 n, .int .i64 p, .int .i64 a, .int .i64 y, .int .i64 p2, .int .i64 a2, .int .i64 y2, .bool st] _ (fun w hS => hS.2.1) Tryd.underlying28 rfl (by kernel_rfl)) G0 ?_
        simp only [Act.put, List.getElem_toArray, List.getElem_cons_succ, List.getElem_cons_zero, List.setIfInBounds_toArray, List.set_cons_zero, List.set_cons_succ]
        refine wpAnyH_ready (rs := [1]) (by kernel_rfl) (by simp) ?_
        refine AllReadyH.cons rfl (fun KK hK => ?_) AllReadyH.nil
        refine step_call_on rfl 13 #[.tmp 27] #[28] rfl #[.agg #[.int .i64 n, .int .i64 p, .int .i64 a, .int .i64 y, .int .i64 p2, .int .i64 a2, .int .i64 y2, .bool st]] (by simp [Act.eval]) (enters_of Tryd.func13 (by kernel_rfl) rfl) ?_
        refine (C1.out _ (tab_below HT.out LB.out)).mono ?_
        rintro r v1 ⟨rfl, b⟩
        have G1 : (fun W' : World => Blk W' V 56 #[.int .i64 now, .slice A1 n1 c1, .slice A2 n2 c2, .int .i64 x3, .int .i64 x4, .int .i64 x5, .slice A3 n3 c3] ∧ Blk W' (V + 1) 28 #[.int .i64 n, .int .i64 p, .int .i64 a, .int .i64 y, .int .i64 p2, .int .i64 a2, .int .i64 y2, .bool st] ∧ Blk W' (V + 1 + 1) 64 #[.int .i64 sb, .int .i64 ss, .int .i64 su, .int .i64 sa, .int .i64 sp]) v1 := ⟨G0.1.on b, G0.2.1.on b, G0.2.2.on b⟩
        have LB1 := Lib.hid (LB.out.trans (b.mono LB.out.size))
        clear b
        refine ⟨_, rfl, hK.out _ _ G1 (fun _ => ?_)⟩
        clear hK KK
        simp only [Act.put, List.getElem_toArray, List.getElem_cons_succ, List.getElem_cons_zero, List.setIfInBounds_toArray, List.set_cons_zero, List.set_cons_succ]
        refine wpAnyH_ready (rs := [3]) (by kernel_rfl) (by simp) ?_
        refine AllReadyH.cons rfl (fun KK hK => ?_) AllReadyH.nil
        refine step_call_on rfl 26 #[.tmp 29] #[28] rfl #[.agg #[.int .i64 n, .int .i64 p, .int .i64 a, .int .i64 y, .int .i64 p2, .int .i64 a2, .int .i64 y2, .bool st]] (by simp [Act.eval]) (enters_of Tryd.func26 (by kernel_rfl) rfl) ?_
        refine (C2.out _).mono ?_
        rintro r v2 ⟨rfl, b⟩
        have G2 : (fun W' : World => Blk W' V 56 #[.int .i64 now, .slice A1 n1 c1, .slice A2 n2 c2, .int .i64 x3, .int .i64 x4, .int .i64 x5, .slice A3 n3 c3] ∧ Blk W' (V + 1) 28 #[.int .i64 n, .int .i64 p, .int .i64 a, .int .i64 y, .int .i64 p2, .int .i64 a2, .int .i64 y2, .bool st] ∧ Blk W' (V + 1 + 1) 64 #[.int .i64 sb, .int .i64 ss, .int .i64 su, .int .i64 sa, .int .i64 sp]) v2 := ⟨G1.1.on b, G1.2.1.on b, G1.2.2.on b⟩
        have LB2 := Lib.hid (LB1.out.trans (b.mono LB1.out.size))
        clear b
        refine ⟨_, rfl, hK.out _ _ G2 (fun _ => ?_)⟩
        clear hK KK
        simp only [Act.put, List.getElem_toArray, List.getElem_cons_succ, List.getElem_cons_zero, List.setIfInBounds_toArray, List.set_cons_zero, List.set_cons_succ]
        refine wpAnyH_take (i := 4) (v := .bool true) rfl (by kernel_rfl) (by kernel_rfl) (by kernel_rfl) (fun _ _ _ h => h) (.inl ⟨rfl, fun w hS => by go_simp⟩) G2 ?_
        simp only [Act.put, List.getElem_toArray, List.getElem_cons_succ, List.getElem_cons_zero, List.setIfInBounds_toArray, List.set_cons_zero, List.set_cons_succ]
        refine wpAnyH_take (i := 5) (v := .bool true) rfl (by kernel_rfl) (by kernel_rfl) (by kernel_rfl) (fun _ _ _ h => h) (.inl ⟨rfl, fun w hS => by go_simp⟩) G2 ?_
        simp only [Act.put, List.getElem_toArray, List.getElem_cons_succ, List.getElem_cons_zero, List.setIfInBounds_toArray, List.set_cons_zero, List.set_cons_succ]
        refine wpAnyH_take (i := 6) (v := .agg #[.int .i64 sb, .int .i64 ss, .int .i64 su, .int .i64 sa, .int .i64 sp]) rfl (by kernel_rfl) (by kernel_rfl) (by kernel_rfl) (fun _ _ _ h => h) (yields_row 64 (.tmp 7) rfl rfl (V + 1 + 1) rfl 64 #[.int .i64 sb, .int .i64 ss, .int .i64 su, .int .i64 sa, .int .i64 sp] _ (fun w hS => hS.2.2) Tryd.underlying64 rfl (by kernel_rfl)) G2 ?_
        simp only [Act.put, List.getElem_toArray, List.getElem_cons_succ, List.getElem_cons_zero, List.setIfInBounds_toArray, List.set_cons_zero, List.set_cons_succ]
        refine wpAnyH_take (i := 8) (v := .agg #[.int .i64 sb, .int .i64 ss, .int .i64 su, .int .i64 sa, .int .i64 sp]) rfl (by kernel_rfl) (by kernel_rfl) (by kernel_rfl) (fun _ _ _ h => h) (yields_row 64 (.tmp 7) rfl rfl (V + 1 + 1) rfl 64 #[.int .i64 sb, .int .i64 ss, .int .i64 su, .int .i64 sa, .int .i64 sp] _ (fun w hS => hS.2.2) Tryd.underlying64 rfl (by kernel_rfl)) G2 ?_
        simp only [Act.put, List.getElem_toArray, List.getElem_cons_succ, List.getElem_cons_zero, List.setIfInBounds_toArray, List.set_cons_zero, List.set_cons_succ]
        refine wpAnyH_ready (rs := [7]) (by kernel_rfl) (by simp) ?_
        refine AllReadyH.cons rfl (fun KK hK => ?_) AllReadyH.nil
        refine step_call_on rfl 27 #[.tmp 33] #[64] rfl #[.agg #[.int .i64 sb, .int .i64 ss, .int .i64 su, .int .i64 sa, .int .i64 sp]] (by simp [Act.eval]) (enters_of Tryd.func27 (by kernel_rfl) rfl) ?_
        refine (C3.out _ (tab_below HT.out LB2.out)).mono ?_
        rintro r v3 ⟨rfl, b⟩
        have G3 : (fun W' : World => Blk W' V 56 #[.int .i64 now, .slice A1 n1 c1, .slice A2 n2 c2, .int .i64 x3, .int .i64 x4, .int .i64 x5, .slice A3 n3 c3] ∧ Blk W' (V + 1) 28 #[.int .i64 n, .int .i64 p, .int .i64 a, .int .i64 y, .int .i64 p2, .int .i64 a2, .int .i64 y2, .bool st] ∧ Blk W' (V + 1 + 1) 64 #[.int .i64 sb, .int .i64 ss, .int .i64 su, .int .i64 sa, .int .i64 sp]) v3 := ⟨G2.1.on b, G2.2.1.on b, G2.2.2.on b⟩
        have LB3 := Lib.hid (LB2.out.trans (b.mono LB2.out.size))
        clear b
        refine ⟨_, rfl, hK.out _ _ G3 (fun _ => ?_)⟩
        clear hK KK
        simp only [Act.put, List.getElem_toArray, List.getElem_cons_succ, List.getElem_cons_zero, List.setIfInBounds_toArray, List.set_cons_zero, List.set_cons_succ]
        refine wpAnyH_ready (rs := [9]) (by kernel_rfl) (by simp) ?_
        refine AllReadyH.cons rfl (fun KK hK => ?_) AllReadyH.nil
        refine step_call_on rfl 28 #[.tmp 35] #[64] rfl #[.agg #[.int .i64 sb, .int .i64 ss, .int .i64 su, .int .i64 sa, .int .i64 sp]] (by simp [Act.eval]) (enters_of Tryd.func28 (by kernel_rfl) rfl) ?_
        refine (C4.out _).mono ?_
        rintro r v4 ⟨rfl, b⟩
        have G4 : (fun W' : World => Blk W' V 56 #[.int .i64 now, .slice A1 n1 c1, .slice A2 n2 c2, .int .i64 x3, .int .i64 x4, .int .i64 x5, .slice A3 n3 c3] ∧ Blk W' (V + 1) 28 #[.int .i64 n, .int .i64 p, .int .i64 a, .int .i64 y, .int .i64 p2, .int .i64 a2, .int .i64 y2, .bool st] ∧ Blk W' (V + 1 + 1) 64 #[.int .i64 sb, .int .i64 ss, .int .i64 su, .int .i64 sa, .int .i64 sp]) v4 := ⟨G3.1.on b, G3.2.1.on b, G3.2.2.on b⟩
        have LB4 := Lib.hid (LB3.out.trans (b.mono LB3.out.size))
        clear b
        refine ⟨_, rfl, hK.out _ _ G4 (fun _ => ?_)⟩
        clear hK KK
        simp only [Act.put, List.getElem_toArray, List.getElem_cons_succ, List.getElem_cons_zero, List.setIfInBounds_toArray, List.set_cons_zero, List.set_cons_succ]
        refine wpAnyH_take (i := 10) (v := .bool true) rfl (by kernel_rfl) (by kernel_rfl) (by kernel_rfl) (fun _ _ _ h => h) (.inl ⟨rfl, fun w hS => by go_simp⟩) G4 ?_
        simp only [Act.put, List.getElem_toArray, List.getElem_cons_succ, List.getElem_cons_zero, List.setIfInBounds_toArray, List.set_cons_zero, List.set_cons_succ]
        refine wpAnyH_take (i := 11) (v := .bool true) rfl (by kernel_rfl) (by kernel_rfl) (by kernel_rfl) (fun _ _ _ h => h) (.inl ⟨rfl, fun w hS => by go_simp⟩) G4 ?_
        simp only [Act.put, List.getElem_toArray, List.getElem_cons_succ, List.getElem_cons_zero, List.setIfInBounds_toArray, List.set_cons_zero, List.set_cons_succ]
        refine wpAnyH_take (i := 12) (v := .bool true) rfl (by kernel_rfl) (by kernel_rfl) (by kernel_rfl) (fun _ _ _ h => h) (.inl ⟨rfl, fun w hS => by go_simp⟩) G4 ?_
        simp only [Act.put, List.getElem_toArray, List.getElem_cons_succ, List.getElem_cons_zero, List.setIfInBounds_toArray, List.set_cons_zero, List.set_cons_succ]
        refine wpAnyH_take (i := 13) (v := .agg #[.int .i64 now, .slice A1 n1 c1, .slice A2 n2 c2, .int .i64 x3, .int .i64 x4, .int .i64 x5, .slice A3 n3 c3]) rfl (by kernel_rfl) (by kernel_rfl) (by kernel_rfl) (fun _ _ _ h => h) (yields_row 56 (.tmp 5) rfl rfl V rfl 56 #[.int .i64 now, .slice A1 n1 c1, .slice A2 n2 c2, .int .i64 x3, .int .i64 x4, .int .i64 x5, .slice A3 n3 c3] _ (fun w hS => hS.1) Tryd.underlying56 rfl (by kernel_rfl)) G4 ?_
        simp only [Act.put, List.getElem_toArray, List.getElem_cons_succ, List.getElem_cons_zero, List.setIfInBounds_toArray, List.set_cons_zero, List.set_cons_succ]
        refine wpAnyH_take (i := 15) (v := .agg #[.int .i64 now, .slice A1 n1 c1, .slice A2 n2 c2, .int .i64 x3, .int .i64 x4, .int .i64 x5, .slice A3 n3 c3]) rfl (by kernel_rfl) (by kernel_rfl) (by kernel_rfl) (fun _ _ _ h => h) (yields_row 56 (.tmp 5) rfl rfl V rfl 56 #[.int .i64 now, .slice A1 n1 c1, .slice A2 n2 c2, .int .i64 x3, .int .i64 x4, .int .i64 x5, .slice A3 n3 c3] _ (fun w hS => hS.1) Tryd.underlying56 rfl (by kernel_rfl)) G4 ?_
        simp only [Act.put, List.getElem_toArray, List.getElem_cons_succ, List.getElem_cons_zero, List.setIfInBounds_toArray, List.set_cons_zero, List.set_cons_succ]
        refine wpAnyH_ready (rs := [14]) (by kernel_rfl) (by simp) ?_
        refine AllReadyH.cons rfl (fun KK hK => ?_) AllReadyH.nil
        refine step_call_on rfl 24 #[.tmp 40] #[56] rfl #[.agg #[.int .i64 now, .slice A1 n1 c1, .slice A2 n2 c2, .int .i64 x3, .int .i64 x4, .int .i64 x5, .slice A3 n3 c3]] (by simp [Act.eval]) (enters_of Tryd.func24 (by kernel_rfl) rfl) ?_
        refine (C5.out _ (tab_below HT.out LB4.out) (H1.out.below LB4.out) (H2.out.below LB4.out) (H3.out.below LB4.out)).mono ?_
        rintro r v5 ⟨A5, c5, rfl, ts5, b⟩
        have G5 : (fun W' : World => Blk W' V 56 #[.int .i64 now, .slice A1 n1 c1, .slice A2 n2 c2, .int .i64 x3, .int .i64 x4, .int .i64 x5, .slice A3 n3 c3] ∧ Blk W' (V + 1) 28 #[.int .i64 n, .int .i64 p, .int .i64 a, .int .i64 y, .int .i64 p2, .int .i64 a2, .int .i64 y2, .bool st] ∧ Blk W' (V + 1 + 1) 64 #[.int .i64 sb, .int .i64 ss, .int .i64 su, .int .i64 sa, .int .i64 sp]) v5 := ⟨G4.1.on b, G4.2.1.on b, G4.2.2.on b⟩
        have LB5 := Lib.hid (LB4.out.trans (b.mono LB4.out.size))
        have TS5 := Lib.hid ts5
        clear ts5
        clear b
        refine ⟨_, rfl, hK.out _ _ G5 (fun _ => ?_)⟩
        clear hK KK
        simp only [Act.put, List.getElem_toArray, List.getElem_cons_succ, List.getElem_cons_zero, List.setIfInBounds_toArray, List.set_cons_zero, List.set_cons_succ]
        refine wpAnyH_ready (rs := [16]) (by kernel_rfl) (by simp) ?_
        refine AllReadyH.cons rfl (fun KK hK => ?_) AllReadyH.nil
        refine step_call_on rfl 30 #[.tmp 42] #[56] rfl #[.agg #[.int .i64 now, .slice A1 n1 c1, .slice A2 n2 c2, .int .i64 x3, .int .i64 x4, .int .i64 x5, .slice A3 n3 c3]] (by simp [Act.eval]) (enters_of Tryd.func30 (by kernel_rfl) rfl) ?_
        refine (C6.out _ (H1.out.below LB5.out) (H2.out.below LB5.out) (H3.out.below LB5.out)).mono ?_
        rintro r v6 ⟨A6, c6, rfl, ts6, b⟩
        have G6 : (fun W' : World => Blk W' V 56 #[.int .i64 now, .slice A1 n1 c1, .slice A2 n2 c2, .int .i64 x3, .int .i64 x4, .int .i64 x5, .slice A3 n3 c3] ∧ Blk W' (V + 1) 28 #[.int .i64 n, .int .i64 p, .int .i64 a, .int .i64 y, .int .i64 p2, .int .i64 a2, .int .i64 y2, .bool st] ∧ Blk W' (V + 1 + 1) 64 #[.int .i64 sb, .int .i64 ss, .int .i64 su, .int .i64 sa, .int .i64 sp]) v6 := ⟨G5.1.on b, G5.2.1.on b, G5.2.2.on b⟩
        have LB6 := Lib.hid (LB5.out.trans (b.mono LB5.out.size))
        have TS6 := Lib.hid ts6
        have TS7 := Lib.hid (TS5.out.kept b).in_
        clear ts6
        clear b
        refine ⟨_, rfl, hK.out _ _ G6 (fun _ => ?_)⟩
        clear hK KK
        simp only [Act.put, List.getElem_toArray, List.getElem_cons_succ, List.getElem_cons_zero, List.setIfInBounds_toArray, List.set_cons_zero, List.set_cons_succ]
        refine wpAnyH_ready (rs := [17]) (by kernel_rfl) (by simp) ?_
        refine AllReadyH.cons rfl (fun KK hK => ?_) AllReadyH.nil
        refine step_call_on rfl 29 #[.tmp 41, .tmp 43] #[57, 57] rfl #[.slice A5 N c5, .slice A6 N c6] (by simp [Act.eval]) (enters_of Tryd.func29 (by kernel_rfl) rfl) ?_
        refine (C7.out _ _ _ _ _ TS7.out TS6.out).mono ?_
        rintro r v7 ⟨rfl, b⟩
        have G7 : (fun W' : World => Blk W' V 56 #[.int .i64 now, .slice A1 n1 c1, .slice A2 n2 c2, .int .i64 x3, .int .i64 x4, .int .i64 x5, .slice A3 n3 c3] ∧ Blk W' (V + 1) 28 #[.int .i64 n, .int .i64 p, .int .i64 a, .int .i64 y, .int .i64 p2, .int .i64 a2, .int .i64 y2, .bool st] ∧ Blk W' (V + 1 + 1) 64 #[.int .i64 sb, .int .i64 ss, .int .i64 su, .int .i64 sa, .int .i64 sp]) v7 := ⟨G6.1.on b, G6.2.1.on b, G6.2.2.on b⟩
        have LB7 := Lib.hid (LB6.out.trans (b.mono LB6.out.size))
        clear b
        refine ⟨_, rfl, hK.out _ _ G7 (fun _ => ?_)⟩
        clear hK KK
        simp only [Act.put, List.getElem_toArray, List.getElem_cons_succ, List.getElem_cons_zero, List.setIfInBounds_toArray, List.set_cons_zero, List.set_cons_succ]
        refine wpAnyH_take (i := 18) (v := .bool true) rfl (by kernel_rfl) (by kernel_rfl) (by kernel_rfl) (fun _ _ _ h => h) (.inl ⟨rfl, fun w hS => by go_simp⟩) G7 ?_
        simp only [Act.put, List.getElem_toArray, List.getElem_cons_succ, List.getElem_cons_zero, List.setIfInBounds_toArray, List.set_cons_zero, List.set_cons_succ]
        refine wpAnyH_take (i := 19) (v := .bool true) rfl (by kernel_rfl) (by kernel_rfl) (by kernel_rfl) (fun _ _ _ h => h) (.inl ⟨rfl, fun w hS => by go_simp⟩) G7 ?_
        simp only [Act.put, List.getElem_toArray, List.getElem_cons_succ, List.getElem_cons_zero, List.setIfInBounds_toArray, List.set_cons_zero, List.set_cons_succ]
        refine wpAnyH_take (i := 20) (v := .slice A4 n4 c4) rfl (by kernel_rfl) (by kernel_rfl) (by kernel_rfl) (fun _ _ _ h => h) (.inl ⟨rfl, fun w hS => by go_simp⟩) G7 ?_
        simp only [Act.put, List.getElem_toArray, List.getElem_cons_succ, List.getElem_cons_zero, List.setIfInBounds_toArray, List.set_cons_zero, List.set_cons_succ]
        refine wpAnyH_take (i := 21) (v := .string (bs wd)) rfl (by kernel_rfl) (by kernel_rfl) (by kernel_rfl) (fun _ _ _ h => h) (.inl ⟨rfl, fun w hS => by go_simp⟩) G7 ?_
        simp only [Act.put, List.getElem_toArray, List.getElem_cons_succ, List.getElem_cons_zero, List.setIfInBounds_toArray, List.set_cons_zero, List.set_cons_succ]
        refine wpAnyH_take (i := 23) (v := .slice A4 n4 c4) rfl (by kernel_rfl) (by kernel_rfl) (by kernel_rfl) (fun _ _ _ h => h) (.inl ⟨rfl, fun w hS => by go_simp⟩) G7 ?_
        simp only [Act.put, List.getElem_toArray, List.getElem_cons_succ, List.getElem_cons_zero, List.setIfInBounds_toArray, List.set_cons_zero, List.set_cons_succ]
        refine wpAnyH_take (i := 24) (v := .string (bs wd)) rfl (by kernel_rfl) (by kernel_rfl) (by kernel_rfl) (fun _ _ _ h => h) (.inl ⟨rfl, fun w hS => by go_simp⟩) G7 ?_
        simp only [Act.put, List.getElem_toArray, List.getElem_cons_succ, List.getElem_cons_zero, List.setIfInBounds_toArray, List.set_cons_zero, List.set_cons_succ]
        refine wpAnyH_ready (rs := [22]) (by kernel_rfl) (by simp) ?_
        refine AllReadyH.cons rfl (fun KK hK => ?_) AllReadyH.nil
        refine step_call_on rfl 25 #[.tmp 47, .tmp 48] #[57, 9] rfl #[.slice A4 n4 c4, .string (bs wd)] (by simp [Act.eval]) (enters_of Tryd.func25 (by kernel_rfl) rfl) ?_
        refine (C8.out _ (H4.out.kept LB7.out).in_).mono ?_
        rintro r v8 ⟨rfl, b⟩
        have G8 : (fun W' : World => Blk W' V 56 #[.int .i64 now, .slice A1 n1 c1, .slice A2 n2 c2, .int .i64 x3, .int .i64 x4, .int .i64 x5, .slice A3 n3 c3] ∧ Blk W' (V + 1) 28 #[.int .i64 n, .int .i64 p, .int .i64 a, .int .i64 y, .int .i64 p2, .int .i64 a2, .int .i64 y2, .bool st] ∧ Blk W' (V + 1 + 1) 64 #[.int .i64 sb, .int .i64 ss, .int .i64 su, .int .i64 sa, .int .i64 sp]) v8 := ⟨G7.1.on b, G7.2.1.on b, G7.2.2.on b⟩
        have LB8 := Lib.hid (LB7.out.trans (b.mono LB7.out.size))
        clear b
        refine ⟨_, rfl, hK.out _ _ G8 (fun _ => ?_)⟩
        clear hK KK
        simp only [Act.put, List.getElem_toArray, List.getElem_cons_succ, List.getElem_cons_zero, List.setIfInBounds_toArray, List.set_cons_zero, List.set_cons_succ]
        refine wpAnyH_ready (rs := [25]) (by kernel_rfl) (by simp) ?_
        refine AllReadyH.cons rfl (fun KK hK => ?_) AllReadyH.nil
        refine step_call_on rfl 31 #[.tmp 50, .tmp 51] #[57, 9] rfl #[.slice A4 n4 c4, .string (bs wd)] (by simp [Act.eval]) (enters_of Tryd.func31 (by kernel_rfl) rfl) ?_
        refine (C9.out _ (H4.out.kept LB8.out).in_).mono ?_
        rintro r v9 ⟨rfl, b⟩
        have G9 : (fun W' : World => Blk W' V 56 #[.int .i64 now, .slice A1 n1 c1, .slice A2 n2 c2, .int .i64 x3, .int .i64 x4, .int .i64 x5, .slice A3 n3 c3] ∧ Blk W' (V + 1) 28 #[.int .i64 n, .int .i64 p, .int .i64 a, .int .i64 y, .int .i64 p2, .int .i64 a2, .int .i64 y2, .bool st] ∧ Blk W' (V + 1 + 1) 64 #[.int .i64 sb, .int .i64 ss, .int .i64 su, .int .i64 sa, .int .i64 sp]) v9 := ⟨G8.1.on b, G8.2.1.on b, G8.2.2.on b⟩
        have LB9 := Lib.hid (LB8.out.trans (b.mono LB8.out.size))
        clear b
        refine ⟨_, rfl, hK.out _ _ G9 (fun _ => ?_)⟩
        clear hK KK
        simp only [Act.put, List.getElem_toArray, List.getElem_cons_succ, List.getElem_cons_zero, List.setIfInBounds_toArray, List.set_cons_zero, List.set_cons_succ]
        refine wpAnyH_take (i := 26) (v := .bool true) rfl (by kernel_rfl) (by kernel_rfl) (by kernel_rfl) (fun _ _ _ h => h) (.inl ⟨rfl, fun w hS => by go_simp⟩) G9 ?_
        simp only [Act.put, List.getElem_toArray, List.getElem_cons_succ, List.getElem_cons_zero, List.setIfInBounds_toArray, List.set_cons_zero, List.set_cons_succ]
        refine wpAnyH_take (i := 27) (v := .bool true) rfl (by kernel_rfl) (by kernel_rfl) (by kernel_rfl) (fun _ _ _ h => h) (.inl ⟨rfl, fun w hS => by go_simp⟩) G9 ?_
        simp only [Act.put, List.getElem_toArray, List.getElem_cons_succ, List.getElem_cons_zero, List.setIfInBounds_toArray, List.set_cons_zero, List.set_cons_succ]
        refine wpAnyH_take (i := 28) (v := .bool true) rfl (by kernel_rfl) (by kernel_rfl) (by kernel_rfl) (fun _ _ _ h => h) (.inl ⟨rfl, fun w hS => by go_simp⟩) G9 ?_
        simp only [Act.put, List.getElem_toArray, List.getElem_cons_succ, List.getElem_cons_zero, List.setIfInBounds_toArray, List.set_cons_zero, List.set_cons_succ]
        refine wpAnyH_ready (rs := [29]) (by kernel_rfl) (by simp) ?_
        refine AllReadyH.cons rfl (fun KK hK => ?_) AllReadyH.nil
        refine step_call_on rfl 10 #[] #[] rfl #[] (by simp [Act.eval]) (enters_of Tryd.func10 (by kernel_rfl) rfl) ?_
        refine (awake40 _ (tab_below HT.out LB9.out)).mono ?_
        rintro r v10 ⟨rfl, b⟩
        have G10 : (fun W' : World => Blk W' V 56 #[.int .i64 now, .slice A1 n1 c1, .slice A2 n2 c2, .int .i64 x3, .int .i64 x4, .int .i64 x5, .slice A3 n3 c3] ∧ Blk W' (V + 1) 28 #[.int .i64 n, .int .i64 p, .int .i64 a, .int .i64 y, .int .i64 p2, .int .i64 a2, .int .i64 y2, .bool st] ∧ Blk W' (V + 1 + 1) 64 #[.int .i64 sb, .int .i64 ss, .int .i64 su, .int .i64 sa, .int .i64 sp]) v10 := ⟨G9.1.on b, G9.2.1.on b, G9.2.2.on b⟩
        have LB10 := Lib.hid (LB9.out.trans (b.mono LB9.out.size))
        clear b
        refine ⟨_, rfl, hK.out _ _ G10 (fun _ => ?_)⟩
        clear hK KK
        simp only [Act.put, List.getElem_toArray, List.getElem_cons_succ, List.getElem_cons_zero, List.setIfInBounds_toArray, List.set_cons_zero, List.set_cons_succ]
        refine wpAnyH_take (i := 30) (v := .bool true) rfl (by kernel_rfl) (by kernel_rfl) (by kernel_rfl) (fun _ _ _ h => h) (.inl ⟨rfl, fun w hS => by go_simp⟩) G10 ?_
        simp only [Act.put, List.getElem_toArray, List.getElem_cons_succ, List.getElem_cons_zero, List.setIfInBounds_toArray, List.set_cons_zero, List.set_cons_succ]
        refine wpAnyH_take (i := 31) (v := .bool true) rfl (by kernel_rfl) (by kernel_rfl) (by kernel_rfl) (fun _ _ _ h => h) (.inl ⟨rfl, fun w hS => by go_simp⟩) G10 ?_
        simp only [Act.put, List.getElem_toArray, List.getElem_cons_succ, List.getElem_cons_zero, List.setIfInBounds_toArray, List.set_cons_zero, List.set_cons_succ]
        refine wpAnyH_done (by kernel_rfl) ?_ _
        go_wp2
        go_ret
        exact ⟨rfl, LB10.out⟩
theorem tells_arg (now x3 x4 x5 : Int) (A1 A2 A3 : Option Addr) (n1 c1 n2 c2 n3 c3 : Nat) (Bs : List Bd) (Ts : List Ss) (Cs : List Int) (hnow : IntKind.i64.has now) (n p a y p2 a2 y2 : Int) (st : Bool) (g1 : IntKind.i64.has n) (g2 : IntKind.i64.has p) (g4 : IntKind.i64.has y) (g7 : IntKind.i64.has y2)
    (sb ss su sa sp : Int) (s1 : IntKind.i64.has sb) (s2 : IntKind.i64.has ss) (s3 : IntKind.i64.has su) (s5 : IntKind.i64.has sp) (A4 : Option Addr) (n4 c4 : Nat) (Ls : List (List UInt8)) (wd : ByteArray) (hwd : wd.size ≤ 140737488355327)
    (w : World) (htab : TabW w) (h1 : BRd w A1 n1 Bs) (h2 : TRd w A2 n2 Ts) (h3 : IntRow .i64 w A3 n3 Cs) (h4 : TS w.heap.size w A4 n4 c4 Ls) : Calls Tryd.prog 9 #[.agg #[.int .i64 now, .slice A1 n1 c1, .slice A2 n2 c2, .int .i64 x3, .int .i64 x4, .int .i64 x5, .slice A3 n3 c3], .agg #[.int .i64 n, .int .i64 p, .int .i64 a, .int .i64 y, .int .i64 p2, .int .i64 a2, .int .i64 y2, .bool st], .agg #[.int .i64 sb, .int .i64 ss, .int .i64 su, .int .i64 sa, .int .i64 sp], .slice A4 n4 c4, .string wd] w fun r w' => r = .returned (.bool true) ∧ Below w.heap.size w w' := by
  have h := tells_view now x3 x4 x5 A1 A2 A3 n1 c1 n2 c2 n3 c3 Bs Ts Cs hnow n p a y p2 a2 y2 st g1 g2 g4 g7 sb ss su sa sp s1 s2 s3 s5 A4 n4 c4 Ls wd.data.toList (by simpa using hwd) w htab h1 h2 h3 h4
  rwa [bs_of] at h
end Go.Proofs.YtkbbkddepcjoaaaDoor
