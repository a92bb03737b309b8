/-
  report: a view's rows; a view in lines, by the program. Printed by wip/gen/repM.py.
-/
import Derived.Test.YtkbbkddepcjoaaaDoorRepK
import Derived.Test.YtkbbkddepcjoaaaDoorRepL
import Derived.Test.YtkbbkddepcjoaaaDoorRows2
import Derived.WalkMore
import Derived.Scope
namespace Go.Proofs.YtkbbkddepcjoaaaDoor
open Go.RowKit Go.Great

def ssC (s : Ss) : Array Value := #[.int .i64 s.1, .int .i64 s.2.1, .int .i64 s.2.2.1, .int .i64 s.2.2.2.1, .int .i64 s.2.2.2.2]
def bdL (b : Bd) : Array Value := #[.int .i64 b.1.1, .int .i64 b.1.2.1, .int .i64 b.1.2.2.1, .int .i64 b.1.2.2.2, .int .i64 b.2.1.1, .int .i64 b.2.1.2.1, .int .i64 b.2.1.2.2, .bool b.2.2]
/-- Structs of m cells each, to be read. -/
structure SRd {α : Type} (f : α → Array Value) (m : Nat) (ok : α → Prop) (w : World) (A : Option Addr) (n : Nat) (L : List α) : Prop where
  len : L.length = n
  rd : 0 < n → ∃ g o, A = some ⟨g, o, none⟩ ∧ g < w.heap.size ∧ ∀ k x, L[k]? = some x → ∀ j, j < m → w.cell? ⟨g, o + k * m + j, none⟩ = (f x)[j]?
  ok : ∀ x ∈ L, ok x
theorem SRd.below {α : Type} {f : α → Array Value} {m : Nat} {ok : α → Prop} {w w' : World} {A : Option Addr} {n : Nat} {L : List α} (h : SRd f m ok w A n L) (hb : Below w.heap.size w w') : SRd f m ok w' A n L :=
  ⟨h.len, fun hn => by
    obtain ⟨g, o, e, hlt, hc⟩ := h.rd hn
    exact ⟨g, o, e, Nat.lt_of_lt_of_le hlt hb.size, fun k x hk j hj => (hb.cell (p := ⟨g, o + k * m + j, none⟩) hlt).trans (hc k x hk j hj)⟩, h.ok⟩
theorem SRd.at_ {α : Type} {f : α → Array Value} {m : Nat} {ok : α → Prop} {w w' : World} {A : Option Addr} {n k : Nat} {L : List α} {x : α} (h : SRd f m ok w A n L) (hb : Below w.heap.size w w') (hx : L[k]? = some x) : ok x ∧ ∃ g o, A = some ⟨g, o, none⟩ ∧ ∀ j, j < m → w'.cell? ⟨g, o + k * m + j, none⟩ = (f x)[j]? := by
  have hk := (List.getElem?_eq_some_iff.1 hx).1
  have h' := h.below hb
  obtain ⟨g, o, e, _, hc⟩ := h'.rd (by have := h.len; omega)
  exact ⟨h.ok x (List.mem_iff_getElem?.2 ⟨k, hx⟩), g, o, e, hc k x hx⟩
def okB (b : Bd) : Prop := IntKind.i64.has b.1.1 ∧ IntKind.i64.has b.1.2.1 ∧ IntKind.i64.has b.1.2.2.2 ∧ IntKind.i64.has b.2.1.2.2
def okS (s : Ss) : Prop := IntKind.i64.has s.1 ∧ IntKind.i64.has s.2.1 ∧ IntKind.i64.has s.2.2.1 ∧ IntKind.i64.has s.2.2.2.2
abbrev BRd := SRd bdL 8 okB
abbrev TRd := SRd ssC 5 okS

theorem drops_start (L : List Int) : dropsT 0 L = dropsT 1 (L.drop 1) := by
  cases L with
  | nil => rfl
  | cons n r => rw [dropsT, if_neg (by omega), if_neg (by omega)]; rfl
theorem drops_end (k : Nat) (h : 14 ≤ k) (L : List Int) : dropsT k L = [] := by
  cases L with
  | nil => rfl
  | cons n r => rw [dropsT, if_pos h]
theorem drops_skip (k : Nat) (n : Int) (L : List Int) (h : k < 14) (h2 : ¬ (1 ≤ k ∧ 0 < n)) : dropsT k (n :: L) = dropsT (k + 1) L := by rw [dropsT, if_neg (by omega), if_neg h2]
theorem drops_take (k : Nat) (n : Int) (L : List Int) (h : k < 14) (h2 : 1 ≤ k ∧ 0 < n) : dropsT k (n :: L) = dropT k n :: dropsT (k + 1) L := by rw [dropsT, if_neg (by omega), if_pos h2]
theorem drop_cons {α : Type} {L : List α} {k : Nat} {x : α} (h : L[k]? = some x) : L.drop k = x :: L.drop (k + 1) := by
  have hk := (List.getElem?_eq_some_iff.1 h).1
  rw [List.drop_eq_getElem_cons hk]
  congr 1
  rw [List.getElem?_eq_getElem hk] at h
  exact Option.some.inj h
theorem take_map {α β : Type} (f : α → β) {L : List α} {k : Nat} {x : α} (h : L[k]? = some x) : (L.take (k + 1)).map f = (L.take k).map f ++ [f x] := by
  rw [List.take_add_one, h]; simp
theorem dropT_len (k : Nat) (n : Int) (hk : k < 14) (h : IntKind.i64.has n) : (dropT k n).length ≤ 63 := by
  have := join_len [wDrop, nameV k, Lib.itoa n] 20 (by
    intro x hx
    simp only [List.mem_cons, List.not_mem_nil, or_false] at hx
    rcases hx with rfl | rfl | rfl
    · decide
    · rcases (show k = 0 ∨ k = 1 ∨ k = 2 ∨ k = 3 ∨ k = 4 ∨ k = 5 ∨ k = 6 ∨ k = 7 ∨ k = 8 ∨ k = 9 ∨ k = 10 ∨ k = 11 ∨ k = 12 ∨ k = 13 by omega) with rfl | rfl | rfl | rfl | rfl | rfl | rfl | rfl | rfl | rfl | rfl | rfl | rfl | rfl <;> decide
    · exact itoa_len (i64_le h).1 (i64_le h).2)
  exact this
theorem nowT_len (n : Int) (h : IntKind.i64.has n) : (nowT n).length ≤ 42 := by
  exact join_len [wNow, Lib.itoa n] 20 (by
    intro x hx
    simp only [List.mem_cons, List.not_mem_nil, or_false] at hx
    rcases hx with rfl | rfl
    · decide
    · exact itoa_len (i64_le h).1 (i64_le h).2)
/-- A row of texts that the call owns, handed over. -/
theorem own_ts {w : World} {B g n c : Nat} {L : List (List UInt8)} (h : w.ownsRow B 9 1 (.slice (some ⟨g, 0, none⟩) n c) n (strs L)) (hn : n = L.length) (h0 : 0 < n) : TS w.heap.size w (some ⟨g, 0, none⟩) n c L := by
  rcases h.2 with ⟨_, h1⟩ | ⟨g', cap, cur, hv, _, hg, hc1, hc2, _⟩
  · omega
  · injection hv with hv _ hc
    injection hv with hv
    injection hv with hv
    subst hv hc
    have hlt : g < w.heap.size := (show Blk w g 9 cur from hg).lt
    exact ⟨hn, hc1, hc2, fun _ => ⟨g, 0, rfl, hlt, hlt, fun j x hx => by
      have hj : j < L.length := (List.getElem?_eq_some_iff.1 hx).1
      rw [Nat.zero_add, h.cellAt j (by omega)]
      simp [strs, hx]⟩⟩

set_option linter.unusedSimpArgs false in
set_option maxRecDepth 100000 in
set_option maxHeartbeats 16000000 in
theorem lines_any (now x3 x4 x5 : Int) (A1 A2 A3 : Option Addr) (n1 c1 n2 c2 n3 c3 : Nat) (Bs : List Bd) (Ts : List Ss) (Cs : List Int) (hnow : IntKind.i64.has now) (l1 : n1 ≤ 60) (l2 : n2 ≤ 60) (w : World) (htab : TabW w) (h1 : BRd w A1 n1 Bs) (h2 : TRd w A2 n2 Ts) (h3 : IntRow .i64 w A3 n3 Cs) : Calls Tryd.prog 24 #[.agg #[.int .i64 now, .slice A1 n1 c1, .slice A2 n2 c2, .int .i64 x3, .int .i64 x4, .int .i64 x5, .slice A3 n3 c3]] w fun r w' => ∃ A c, r = .returned (.slice A (linesT now Bs Ts Cs).length c) ∧ TS w'.heap.size w' A (linesT now Bs Ts Cs).length c (linesT now Bs Ts Cs) ∧ Below w.heap.size w w' := by
  obtain ⟨i0, hi0, hz0, hz1, hz2⟩ := info_parts str_info
  have c1' := fun W ht => num_any now hnow W ht
  have e0 : Lib.join [wNow, Lib.itoa now] [32] = nowT now := rfl
  have hl := nowT_len now hnow
  have hR : linesT now Bs Ts Cs = nowT now :: (Bs.map bindT ++ Ts.map sessT ++ dropsT 0 Cs) := rfl
  obtain ⟨R, hRR⟩ : ∃ R, linesT now Bs Ts Cs = R := ⟨_, rfl⟩
  rw [hRR] at hR ⊢
  obtain ⟨T0, hT0⟩ : ∃ T, nowT now = T := ⟨_, rfl⟩
  rw [hT0] at e0 hl hR
  obtain ⟨TN, hTN⟩ : ∃ T, Lib.itoa now = T := ⟨_, rfl⟩
  rw [hTN] at c1' e0
  have c2' := fun g W h => line_any g 2 [wNow, TN] W h (by simp) (by rw [e0]; omega) (by simp)
  rw [e0] at c2'
  have hb := (Below.refl w.heap.size w).alloc (Nat.le_refl _) (.cells #[.int .i64 now, .slice A1 n1 c1, .slice A2 n2 c2, .int .i64 x3, .int .i64 x4, .int .i64 x5, .slice A3 n3 c3] 56)
  have bk := Blk.new w 56 #[.int .i64 now, .slice A1 n1 c1, .slice A2 n2 c2, .int .i64 x3, .int .i64 x4, .int .i64 x5, .slice A3 n3 c3]
  have HT := Lib.hid htab
  have H1 := Lib.hid h1
  have H2 := Lib.hid h2
  have H3 := Lib.hid h3
  have HR := Lib.hid hR
  have E1 := Lib.hid h1.len
  have E2 := Lib.hid h2.len
  have E3 := Lib.hid h3.2.1
  have l3 := h3.1
  have C1 := Lib.hid c1'
  have C2 := Lib.hid c2'
  clear h1 h2 h3 hR hRR hT0 hTN e0 hl c1' c2' htab hnow
  go_enter Tryd.func24, Tryd.ntmps24
  go_upto_region 1 with fail
  obtain ⟨V, hV⟩ : ∃ V, w.heap.size = V := ⟨_, rfl⟩
  rw [hV] at bk ⊢
  generalize (w.alloc (.cells #[.int .i64 now, .slice A1 n1 c1, .slice A2 n2 c2, .int .i64 x3, .int .i64 x4, .int .i64 x5, .slice A3 n3 c3] 56)) = w0 at bk hb ⊢
  have f0 := bk.cell 0
  simp only [List.getElem?_toArray, List.getElem?_cons_zero] at f0
  have BK := Lib.hid bk
  have HB := Lib.hid hb
  have HV := Lib.hid hV
  clear bk hb hV
  go_step3
  go_upto_region 2 with (first
    | (go_at_call 38; refine (C1.out _ (tab_below HT.out HB.out)).mono ?_; rintro e w1 ⟨rfl, b1⟩; have K1 := Lib.hid (BK.out.on b1); have L1 := Lib.hid (HB.out.trans (b1.mono HB.out.size)); clear b1)
    | (go_at_call 37; refine (C2.out _ _ (TRow.of_blk (L := [wNow, TN]) (Blk.new w1 9 (strs [wNow, TN]).toArray))).mono ?_; rintro e w2 ⟨rfl, b2⟩; have K2 := Lib.hid ((K1.out.alloc (.cells (strs [wNow, TN]).toArray 9)).on b2); have L2 := Lib.hid ((L1.out.alloc (o := .cells (strs [wNow, TN]).toArray 9) L1.out.size).trans (b2.mono (Nat.le_trans L1.out.size (by simp)))); clear b2))
  have own0 : (w2.alloc (.cells #[.string (bs T0)] 9)).ownsRow w2.heap.size 9 1 (.slice (some ⟨w2.heap.size, 0, none⟩) 1 1) 1 (strs [T0]) := World.ownsRow_lit w2 #[.string (bs T0)] 1 (Nat.le_refl _) (by decide) rfl
  have k3 := K2.out.alloc (.cells #[.string (bs T0)] 9)
  have l3' := L2.out.alloc (o := .cells #[.string (bs T0)] 9) L2.out.size
  have vlt := K2.out.lt
  have hNW : w2.heap.size ≤ (w2.alloc (.cells #[.string (bs T0)] 9)).heap.size := by simp
  have hwN := L2.out.size
  rw [HV.out] at hwN
  obtain ⟨N2, hN2⟩ : ∃ N, w2.heap.size = N := ⟨_, rfl⟩
  rw [hN2] at own0 vlt hNW hwN ⊢
  generalize (w2.alloc (.cells #[.string (bs T0)] 9)) = W at own0 k3 l3' hNW ⊢
  have KB := Lib.hid k3
  have LB := Lib.hid l3'
  have OWN0 := Lib.hid own0
  have HNW := Lib.hid hNW
  have VLT := Lib.hid vlt
  have WN := Lib.hid hwN
  have f1 := k3.cell 1
  simp only [List.getElem?_toArray, List.getElem?_cons_zero, List.getElem?_cons_succ] at f1
  clear own0 k3 l3' vlt hNW hwN hN2 f0 K2 L2 K1 L1 BK HB C1 C2
  have KEPT := Lib.hid (show ∀ X, Below N2 W X → Blk X V 56 #[.int .i64 now, .slice A1 n1 c1, .slice A2 n2 c2, .int .i64 x3, .int .i64 x4, .int .i64 x5, .slice A3 n3 c3] ∧ Below w.heap.size w X from fun X h => ⟨KB.out.below h VLT.out, LB.out.trans (h.mono (by rw [HV.out]; exact WN.out))⟩)
  go_wp2
  go_loopw [3, 19] (fun v i wr => ∃ k : Nat, k ≤ n1 ∧ i = .int .i64 k ∧ wr.ownsRow N2 9 1 v (k + 1) (strs (T0 :: (Bs.take k).map bindT)) ∧ Below N2 W wr) (fun _ i _ => n1 - (intOf i).toNat)
  case atStart => exact ⟨0, by omega, rfl, OWN0.out, Below.refl _ _⟩
  case round =>
    obtain ⟨k, hk, rfl, own, hbw⟩ := hrel
    have hws : N2 ≤ wr.heap.size := Nat.le_trans HNW.out hbw.size
    obtain ⟨g, cap, rfl, hg, hgl⟩ := own.form (by omega)
    have OWN := Lib.hid own
    have HBW := Lib.hid hbw
    obtain ⟨kbox, kbel⟩ := KEPT.out wr hbw
    have KBEL := Lib.hid kbel
    have KBOX := Lib.hid kbox
    by_cases hlt : k < n1
    · obtain ⟨x, hx⟩ : ∃ x, Bs[k]? = some x := ⟨_, List.getElem?_eq_getElem (by rw [E1.out]; exact hlt)⟩
      have htm := take_map bindT hx
      obtain ⟨⟨g1, g2, g4, g7⟩, b', o', rfl, hcl⟩ := H1.out.at_ kbel hx
      obtain ⟨⟨n, p, a, y⟩, ⟨p2, a2, y2⟩, st⟩ := x
      have q1 := fun X ht => bind_any n p a y p2 a2 y2 st g1 g2 g4 g7 X ht
      obtain ⟨T, hT⟩ : ∃ T, bindT ((n, p, a, y), (p2, a2, y2), st) = T := ⟨_, rfl⟩
      rw [hT] at q1 htm
      have m0 := hcl 0 (by omega)
      have m1 := hcl 1 (by omega)
      have m2 := hcl 2 (by omega)
      have m3 := hcl 3 (by omega)
      have m4 := hcl 4 (by omega)
      have m5 := hcl 5 (by omega)
      have m6 := hcl 6 (by omega)
      have m7 := hcl 7 (by omega)
      simp only [bdL, List.getElem?_toArray, List.getElem?_cons_zero, List.getElem?_cons_succ, Nat.add_zero] at m0 m1 m2 m3 m4 m5 m6 m7
      have Q1 := Lib.hid q1
      have HTM := Lib.hid htm
      clear own hbw kbox kbel hx htm g1 g2 g4 g7 q1 hT hcl
      go_upto_region 5 with fail
      have j := Blk.new wr 28 #[.int .i64 n, .int .i64 p, .int .i64 a, .int .i64 y, .int .i64 p2, .int .i64 a2, .int .i64 y2, .bool st]
      have ja := (Below.refl wr.heap.size wr).alloc (Nat.le_refl _) (.cells #[.int .i64 n, .int .i64 p, .int .i64 a, .int .i64 y, .int .i64 p2, .int .i64 a2, .int .i64 y2, .bool st] 28)
      obtain ⟨J, hJ⟩ : ∃ N, wr.heap.size = N := ⟨_, rfl⟩
      rw [hJ] at j ⊢
      generalize (wr.alloc (.cells #[.int .i64 n, .int .i64 p, .int .i64 a, .int .i64 y, .int .i64 p2, .int .i64 a2, .int .i64 y2, .bool st] 28)) = wj at j ja ⊢
      have j0 := j.cell 0
      have j1 := j.cell 1
      have j2 := j.cell 2
      have j3 := j.cell 3
      have j4 := j.cell 4
      have j5 := j.cell 5
      have j6 := j.cell 6
      have j7 := j.cell 7
      simp only [List.getElem?_toArray, List.getElem?_cons_zero, List.getElem?_cons_succ] at j0 j1 j2 j3 j4 j5 j6 j7
      have JA := Lib.hid ja
      clear j ja hJ m0 m1 m2 m3 m4 m5 m6 m7
      go_wp2_with (first
        | (go_at_call 13; refine (Q1.out _ (tab_below HT.out (KBEL.out.trans (JA.out.mono KBEL.out.size)))).mono ?_; rintro e w2 ⟨rfl, b2⟩; have B2 := Lib.hid (JA.out.trans (b2.mono JA.out.size)); clear b2)
        | (at_builtin; refine wpList_append_any _ rfl (.tmp 23) (.tmp 26) _ rfl N2 9 i0 _ 1 16 Tryd.underlying57 hi0 hz0 hz1 hz2 rfl (by omega) _ (k + 1) (strs (T0 :: (Bs.take k).map bindT)) rfl (owns_below OWN.out (B2.out.alloc B2.out.size _)) (w2.heap.size + 1) (some ⟨w2.heap.size, 0, none⟩) 1 1 [.string (bs T)] rfl (reads_one _ _ _) (by simp [Value.oneCell']) (by simp only [maxLen]; omega) (by omega) (by have := B2.out.size; simp; omega) ?_; intro v6 w6 own6 grow6 _))
      have hb6 := (app_others (B2.out.alloc (o := .cells #[.string (bs T)] 9) B2.out.size) OWN.out hws grow6).2
      refine ⟨⟨k + 1, hlt, by go_num, ?_, HBW.out.trans hb6⟩, by simp [intOf]; omega⟩
      rw [HTM.out, ← List.cons_append, strs_snoc]
      exact own6
    · obtain rfl : k = n1 := by omega
      have ht : Bs.take k = Bs := by rw [← E1.out]; exact List.take_length
      rw [ht] at own
      obtain ⟨D, hD⟩ : ∃ D, T0 :: Bs.map bindT = D := ⟨_, rfl⟩
      rw [hD] at own
      have HD := Lib.hid hD
      have OWN1 := Lib.hid own
      have f2 := kbox.cell 2
      simp only [List.getElem?_toArray, List.getElem?_cons_zero, List.getElem?_cons_succ] at f2
      have HWS := Lib.hid hws
      have HBW1 := Lib.hid hbw
      clear own hbw kbox kbel hD ht hws OWN HBW KBEL KBOX OWN0
      go_wp2
      go_loopw [3, 32] (fun v i wx => ∃ k2 : Nat, k2 ≤ n2 ∧ i = .int .i64 k2 ∧ wx.ownsRow N2 9 1 v (k + 1 + k2) (strs (D ++ (Ts.take k2).map sessT)) ∧ Below N2 W wx) (fun _ i _ => n2 - (intOf i).toNat)
      case atStart => exact ⟨0, by omega, rfl, by simpa using OWN1.out, HBW1.out⟩
      case round =>
        obtain ⟨k2, hk2, rfl, own, hbw⟩ := hrel
        obtain ⟨g2, cap2, rfl, hg2, hgl2⟩ := own.form (by omega)
        have hws : N2 ≤ wr.heap.size := Nat.le_trans HNW.out hbw.size
        have OWN := Lib.hid own
        have HBW := Lib.hid hbw
        obtain ⟨kbox, kbel⟩ := KEPT.out wr hbw
        have KBEL := Lib.hid kbel
        have DL := Lib.hid (show D.length = k + 1 by rw [← HD.out]; simp [E1.out])
        by_cases hlt2 : k2 < n2
        · obtain ⟨x, hx⟩ : ∃ x, Ts[k2]? = some x := ⟨_, List.getElem?_eq_getElem (by rw [E2.out]; exact hlt2)⟩
          have htm := take_map sessT hx
          obtain ⟨⟨g1, g2', g3, g4⟩, b', o', rfl, hcl⟩ := H2.out.at_ kbel hx
          obtain ⟨b, s, u, a, p⟩ := x
          have q1 := fun X ht => sess_any b s u a p g1 g2' g3 g4 X ht
          obtain ⟨T, hT⟩ : ∃ T, sessT (b, s, u, a, p) = T := ⟨_, rfl⟩
          rw [hT] at q1 htm
          have m0 := hcl 0 (by omega)
          have m1 := hcl 1 (by omega)
          have m2 := hcl 2 (by omega)
          have m3 := hcl 3 (by omega)
          have m4 := hcl 4 (by omega)
          simp only [ssC, List.getElem?_toArray, List.getElem?_cons_zero, List.getElem?_cons_succ, Nat.add_zero] at m0 m1 m2 m3 m4
          have Q1 := Lib.hid q1
          have HTM := Lib.hid htm
          clear own hbw kbox kbel hx htm g1 g2' g3 g4 q1 hT hcl f2
          go_upto_region 10 with fail
          have j := Blk.new wr 64 #[.int .i64 b, .int .i64 s, .int .i64 u, .int .i64 a, .int .i64 p]
          have ja := (Below.refl wr.heap.size wr).alloc (Nat.le_refl _) (.cells #[.int .i64 b, .int .i64 s, .int .i64 u, .int .i64 a, .int .i64 p] 64)
          obtain ⟨J, hJ⟩ : ∃ N, wr.heap.size = N := ⟨_, rfl⟩
          rw [hJ] at j ⊢
          generalize (wr.alloc (.cells #[.int .i64 b, .int .i64 s, .int .i64 u, .int .i64 a, .int .i64 p] 64)) = wj at j ja ⊢
          have j0 := j.cell 0
          have j1 := j.cell 1
          have j2 := j.cell 2
          have j3 := j.cell 3
          have j4 := j.cell 4
          simp only [List.getElem?_toArray, List.getElem?_cons_zero, List.getElem?_cons_succ] at j0 j1 j2 j3 j4
          have JA := Lib.hid ja
          clear j ja hJ m0 m1 m2 m3 m4
          go_wp2_with (first
            | (go_at_call 27; refine (Q1.out _ (tab_below HT.out (KBEL.out.trans (JA.out.mono KBEL.out.size)))).mono ?_; rintro e w2 ⟨rfl, b2⟩; have B2 := Lib.hid (JA.out.trans (b2.mono JA.out.size)); clear b2)
            | (at_builtin; refine wpList_append_any _ rfl (.tmp 36) (.tmp 39) _ rfl N2 9 i0 _ 1 16 Tryd.underlying57 hi0 hz0 hz1 hz2 rfl (by omega) _ (k + 1 + k2) (strs (D ++ (Ts.take k2).map sessT)) rfl (owns_below OWN.out (B2.out.alloc B2.out.size _)) (w2.heap.size + 1) (some ⟨w2.heap.size, 0, none⟩) 1 1 [.string (bs T)] rfl (reads_one _ _ _) (by simp [Value.oneCell']) (by simp only [maxLen]; omega) (by omega) (by have := B2.out.size; simp; omega) ?_; intro v6 w6 own6 grow6 _))
          have hb6 := (app_others (B2.out.alloc (o := .cells #[.string (bs T)] 9) B2.out.size) OWN.out hws grow6).2
          refine ⟨⟨k2 + 1, hlt2, by go_num, ?_, HBW.out.trans hb6⟩, by simp [intOf]; omega⟩
          rw [HTM.out, ← List.append_assoc, strs_snoc]
          exact own6
        · obtain rfl : k2 = n2 := by omega
          have ht : Ts.take k2 = Ts := by rw [← E2.out]; exact List.take_length
          rw [ht] at own
          obtain ⟨D2, hD2⟩ : ∃ D2, D ++ Ts.map sessT = D2 := ⟨_, rfl⟩
          rw [hD2] at own
          have HD2 := Lib.hid hD2
          obtain ⟨R3, hR3⟩ : ∃ R3, dropsT 0 Cs = R3 := ⟨_, rfl⟩
          have HR3 := Lib.hid (show R = D2 ++ R3 by rw [HR.out, hR3, ← hD2, ← HD.out]; simp)
          have HDR := Lib.hid hR3
          obtain ⟨d2, hd2⟩ : ∃ d2, k + 1 + k2 = d2 := ⟨_, rfl⟩
          rw [hd2] at own ⊢
          have DL2 := Lib.hid (show D2.length = d2 by rw [← hD2, List.length_append, DL.out, List.length_map, E2.out]; exact hd2)
          have hd2b : d2 ≤ 121 := by omega
          have hd20 : 0 < d2 := by omega
          have OWN2 := Lib.hid own
          have f6 := kbox.cell 6
          simp only [List.getElem?_toArray, List.getElem?_cons_zero, List.getElem?_cons_succ] at f6
          have HBW2 := Lib.hid hbw
          clear own hbw kbox kbel hD2 hR3 ht hd2 OWN HBW KBEL OWN1 HBW1 HWS f2
          go_wp2
          go_step3
          go_wp2
          go_loopw [3, 45] (fun v i wx => ∃ (k3 m : Nat) (E : List (List UInt8)), i = .int .i64 k3 ∧ k3 ≤ n3 ∧ k3 ≤ 14 ∧ E.length = m ∧ m ≤ k3 ∧ wx.ownsRow N2 9 1 v (d2 + m) (strs (D2 ++ E)) ∧ E ++ dropsT k3 (Cs.drop k3) = R3 ∧ Below N2 W wx) (fun _ i _ => n3 - (intOf i).toNat)
          case atStart => exact ⟨0, 0, [], rfl, by omega, by omega, rfl, by omega, by simpa using OWN2.out, by simpa using HDR.out, HBW2.out⟩
          case round =>
            obtain ⟨k3, m, E, rfl, hk3, hk14, hEm, hmk, own, hRk, hbw⟩ := hrel
            obtain ⟨g2, cap2, rfl, hg2, hgl2⟩ := own.form (by omega)
            have hws : N2 ≤ wr.heap.size := Nat.le_trans HNW.out hbw.size
            obtain ⟨kbox, kbel⟩ := KEPT.out wr hbw
            by_cases hlt3 : k3 < n3
            · obtain ⟨b, off, z, rfl, hbl, hcell, hz, hwf⟩ := H3.out.at_ kbel hlt3
              have hzk : Cs[k3]? = some z := by
                have : k3 < Cs.length := by rw [E3.out]; exact hlt3
                rw [List.getD_eq_getElem?_getD, List.getElem?_eq_getElem this] at hz
                rw [List.getElem?_eq_getElem this, hz]
                rfl
              have hdc := drop_cons hzk
              rw [hdc] at hRk
              have hzr : IntKind.i64.has z := by
                have : -9223372036854775808 ≤ z ∧ z ≤ 9223372036854775807 := by simpa [Lit.wf, IntKind.min, IntKind.max, IntKind.bits, IntKind.signed] using hwf
                exact i64_of this.1 this.2
              clear hdc hz hwf hzk
              by_cases h14 : 14 ≤ k3
              · have hd : decide ((14 : Int) ≤ (k3 : Int)) = true := by simp; omega
                rw [drops_end _ h14, List.append_nil] at hRk
                have hle : R.length = d2 + m := by rw [HR3.out, List.length_append, DL2.out, ← hRk, hEm]
                rw [hRk, ← HR3.out] at own
                have HTS := Lib.hid (own_ts own hle.symm (by omega))
                have HLE := Lib.hid hle
                have KBEL := Lib.hid kbel
                clear own hbw kbox kbel hRk h14 hle hEm hzr
                go_wp2
                try simp only [Exit.noGoto]
                go_ret
                rw [HLE.out]
                exact ⟨_, _, rfl, HTS.out, KBEL.out⟩
              · have hd : decide ((14 : Int) ≤ (k3 : Int)) = false := by simp; omega
                have hk15 : k3 + 1 ≤ 14 := by omega
                by_cases h0 : k3 = 0
                · have hd0 : ((k3 : Int) == 0) = true := by simp [h0]
                  rw [drops_skip _ _ _ (by omega) (by omega)] at hRk
                  have HRK := Lib.hid hRk
                  have OWN := Lib.hid own
                  have HBW := Lib.hid hbw
                  clear own hbw kbox kbel hRk h14 h0 hzr
                  go_wp2
                  exact ⟨⟨k3 + 1, m, E, by go_num, hlt3, hk15, hEm, by omega, OWN.out, HRK.out, HBW.out⟩, by simp [intOf]; omega⟩
                · have hd0 : ((k3 : Int) == 0) = false := by simp [h0]
                  by_cases hz0 : z ≤ 0
                  · have hdz : decide (z ≤ 0) = true := decide_eq_true hz0
                    rw [drops_skip _ _ _ (by omega) (by omega)] at hRk
                    have HRK := Lib.hid hRk
                    have OWN := Lib.hid own
                    have HBW := Lib.hid hbw
                    clear own hbw kbox kbel hRk h14 h0 hzr hz0
                    go_wp2
                    exact ⟨⟨k3 + 1, m, E, by go_num, hlt3, hk15, hEm, by omega, OWN.out, HRK.out, HBW.out⟩, by simp [intOf]; omega⟩
                  · have hdz : decide (z ≤ 0) = false := decide_eq_false hz0
                    rw [drops_take _ _ _ (by omega) (by omega)] at hRk
                    have hlen := dropT_len k3 z (by omega) hzr
                    have q1 := fun X => name_any k3 (by omega) X
                    have q2 := fun X ht => num_any z hzr X ht
                    have e0 : Lib.join [wDrop, nameV k3, Lib.itoa z] [32] = dropT k3 z := rfl
                    obtain ⟨T, hT⟩ : ∃ T, dropT k3 z = T := ⟨_, rfl⟩
                    rw [hT] at e0 hRk hlen
                    obtain ⟨TA, hTA⟩ : ∃ T, nameV k3 = T := ⟨_, rfl⟩
                    rw [hTA] at q1 e0
                    obtain ⟨TZ, hTZ⟩ : ∃ T, Lib.itoa z = T := ⟨_, rfl⟩
                    rw [hTZ] at q2 e0
                    have q3 := fun g W h => line_any g 3 [wDrop, TA, TZ] W h (by simp) (by rw [e0]; omega) (by simp)
                    rw [e0] at q3
                    rw [show E ++ T :: dropsT (k3 + 1) (Cs.drop (k3 + 1)) = (E ++ [T]) ++ dropsT (k3 + 1) (Cs.drop (k3 + 1)) by simp] at hRk
                    have HRK := Lib.hid hRk
                    have OWN := Lib.hid own
                    have HBW := Lib.hid hbw
                    have KBEL := Lib.hid kbel
                    have Q1 := Lib.hid q1
                    have Q2 := Lib.hid q2
                    have Q3 := Lib.hid q3
                    have HEM := Lib.hid (show (E ++ [T]).length = m + 1 by simp [hEm])
                    have hm14 : m ≤ 14 := by omega
                    clear own hbw kbox kbel hRk h14 h0 hzr hz0 q1 q2 q3 e0 hT hTA hTZ hlen hEm
                    go_wp2_with (first
                      | (go_at_call 47; refine (Q1.out _).mono ?_; rintro e w1 ⟨rfl, b1⟩; have B1 := Lib.hid b1; clear b1)
                      | (go_at_call 38; refine (Q2.out _ (tab_below HT.out (KBEL.out.trans (B1.out.mono KBEL.out.size)))).mono ?_; rintro e w2 ⟨rfl, b2⟩; have B2 := Lib.hid (B1.out.trans (b2.mono B1.out.size)); clear b2)
                      | (go_at_call 37; refine (Q3.out _ _ (TRow.of_blk (L := [wDrop, TA, TZ]) (Blk.new w2 9 (strs [wDrop, TA, TZ]).toArray))).mono ?_; rintro e w3 ⟨rfl, b3⟩; have B3 := Lib.hid ((B2.out.alloc (o := .cells (strs [wDrop, TA, TZ]).toArray 9) B2.out.size).trans (b3.mono (Nat.le_trans B2.out.size (by simp)))); clear b3)
                      | (at_builtin; refine wpList_append_any _ rfl (.tmp 58) (.tmp 65) _ rfl N2 9 i0 _ 1 16 Tryd.underlying57 hi0 hz0 hz1 hz2 rfl (by omega) _ (d2 + m) (strs (D2 ++ E)) rfl (owns_below OWN.out (B3.out.alloc B3.out.size _)) (w3.heap.size + 1) (some ⟨w3.heap.size, 0, none⟩) 1 1 [.string (bs T)] rfl (reads_one _ _ _) (by simp [Value.oneCell']) (by simp only [maxLen]; omega) (by omega) (by have := B3.out.size; simp; omega) ?_; intro v6 w6 own6 grow6 _))
                    have hb6 := (app_others (B3.out.alloc (o := .cells #[.string (bs T)] 9) B3.out.size) OWN.out hws grow6).2
                    refine ⟨⟨k3 + 1, m + 1, E ++ [T], by go_num, hlt3, hk15, HEM.out, by omega, ?_, HRK.out, HBW.out.trans hb6⟩, by simp [intOf]; omega⟩
                    rw [← List.append_assoc, strs_snoc]
                    exact own6
            · obtain rfl : k3 = n3 := by omega
              have hnil : Cs.drop k3 = [] := by rw [← E3.out]; exact List.drop_length
              rw [hnil, show dropsT k3 [] = [] by simp [dropsT], List.append_nil] at hRk
              have hle : R.length = d2 + m := by rw [HR3.out, List.length_append, DL2.out, ← hRk, hEm]
              rw [hRk, ← HR3.out] at own
              have HTS := Lib.hid (own_ts own hle.symm (by omega))
              have HLE := Lib.hid hle
              have KBEL := Lib.hid kbel
              clear own hbw kbox kbel hRk hle hEm hnil
              go_wp2
              try simp only [Exit.noGoto]
              go_ret
              rw [HLE.out]
              exact ⟨_, _, rfl, HTS.out, KBEL.out⟩
end Go.Proofs.YtkbbkddepcjoaaaDoor
