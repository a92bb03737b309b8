/-
  cmd: a reader of words: the next one, the next as a number, a protocol, an address.
-/
import Derived.Test.YtkbbkddepcjoaaaDoorCmdG
namespace Go.Proofs.YtkbbkddepcjoaaaDoor
open Go.RowKit

/-- A slice of texts, that lies in a block below B. -/
def TS (B : Nat) (w : World) (A : Option Addr) (n c : Nat) (L : List (List UInt8)) : Prop := n = L.length ∧ n ≤ c ∧ c ≤ maxLen ∧ (0 < n → ∃ g o, A = some ⟨g, o, none⟩ ∧ g < B ∧ TRow w g o L)
theorem TS.of {B : Nat} {w : World} {g c : Nat} {L : List (List UInt8)} (h : TRow w g 0 L) (hg : g < B) (hc : L.length ≤ c) (hm : c ≤ maxLen) : TS B w (some ⟨g, 0, none⟩) L.length c L := ⟨rfl, hc, hm, fun _ => ⟨g, 0, rfl, hg, h⟩⟩
theorem TS.kept {B : Nat} {w w' : World} {A : Option Addr} {n c : Nat} {L : List (List UInt8)} (h : TS B w A n c L) (hb : Below B w w') : TS B w' A n c L :=
  ⟨h.1, h.2.1, h.2.2.1, fun h0 => by
    obtain ⟨g, o, e, hg, ht⟩ := h.2.2.2 h0
    exact ⟨g, o, e, hg, Nat.lt_of_lt_of_le ht.1 hb.size, fun j x hx => (hb.cell (p := ⟨g, o + j, none⟩) hg).trans (ht.2 j x hx)⟩⟩
theorem TS.up {B B' : Nat} {w : World} {A : Option Addr} {n c : Nat} {L : List (List UInt8)} (h : TS B w A n c L) (hb : B ≤ B') : TS B' w A n c L :=
  ⟨h.1, h.2.1, h.2.2.1, fun h0 => by
    obtain ⟨g, o, e, hg, ht⟩ := h.2.2.2 h0
    exact ⟨g, o, e, by omega, ht⟩⟩
theorem TS.in_ {B : Nat} {w : World} {A : Option Addr} {n c : Nat} {L : List (List UInt8)} (h : TS B w A n c L) : TS w.heap.size w A n c L :=
  ⟨h.1, h.2.1, h.2.2.1, fun h0 => by
    obtain ⟨g, o, e, hg, ht⟩ := h.2.2.2 h0
    exact ⟨g, o, e, ht.1, ht⟩⟩
theorem TS.at_ {B : Nat} {w : World} {A : Option Addr} {n c : Nat} {L : List (List UInt8)} (h : TS B w A n c L) {k : Nat} {x : List UInt8} (hx : L[k]? = some x) : ∃ g o, A = some ⟨g, o, none⟩ ∧ w.cell? ⟨g, o + k, none⟩ = some (.string (bs x)) ∧ k < n := by
  have hk : k < L.length := (List.getElem?_eq_some_iff.1 hx).1
  obtain ⟨g, o, e, _, ht⟩ := h.2.2.2 (by have := h.1; omega)
  exact ⟨g, o, e, ht.2 k x hx, by have := h.1; omega⟩
theorem str_size : (Tryd.prog.info? 9).map (·.size) = some 1 := by kernel_rfl
/-- 'l[k:]', k a number. -/
theorem TS.tail {B : Nat} {A : Option Addr} {n c : Nat} (hc : n ≤ c) (k : Nat) (hk : k ≤ n) : ∃ A', (∀ w' : World, (Instr.slice 57 (.slice A n c) (some (.int .i64 (k : Int))) none none).run Tryd.prog w' = .ok (.slice A' (n - k) (c - k)) w') ∧ ∀ (w : World) (L : List (List UInt8)), TS B w A n c L → TS B w A' (n - k) (c - k) (L.drop k) := by
  refine ⟨if c = k then A else A.map (·.add (k * 1)), fun w' => ?_, fun w L h => ⟨by rw [List.length_drop, h.1], by omega, by have := h.2.2.1; omega, fun h0 => ?_⟩⟩
  · have hel : Tryd.prog.elem 57 = 9 := by simp [Program.elem, Tryd.underlying57]
    rw [run_slice_l w' 57 A n c (by rw [hel]; exact Tryd.underlying57) .i64 k (by omega) (by omega), hel]
    obtain ⟨i, hi, hz'⟩ := Option.map_eq_some_iff.1 str_size
    have e1 : ((k : Int)).toNat = k := by omega
    simp [sizeOf, typeInfo, hi, hz', Result.andThen, sliced, e1]
  · obtain ⟨g, o, e, hg, ht⟩ := h.2.2.2 (by omega)
    refine ⟨g, o + k, ?_, hg, ht.drop k⟩
    rw [e, if_neg (by omega)]
    simp [Addr.add]

/-- A reader: what is left, and whether anything was bad. -/
def Rd (w : World) (r : Nat) (L : List (List UInt8)) (bad : Bool) : Prop := ∃ A n c, Blk w r 97 #[.slice A n c, .bool bad] ∧ TS r w A n c L

set_option maxRecDepth 100000 in
set_option maxHeartbeats 2000000 in
theorem next_any (r : Nat) (x : List UInt8) (L : List (List UInt8)) (bad : Bool) (w : World) (h : Rd w r (x :: L) bad) : Calls Tryd.prog 77 #[.pointer (some ⟨r, 0, none⟩)] w fun e w' => e = .returned (.string (bs x)) ∧ Rd w' r L bad ∧ w.grownBy w' (some r) := by
  obtain ⟨A, n, c, hb, ht⟩ := h
  obtain ⟨g, o, rfl, hcell, hn⟩ := ht.at_ (k := 0) rfl
  obtain ⟨A', hsl, hts⟩ := TS.tail (A := some ⟨g, o, none⟩) (B := r) ht.2.1 1 hn
  have hsl : ∀ w' : World, (Instr.slice 57 (.slice (some ⟨g, o, none⟩) n c) (some (.int .i64 1)) none none).run Tryd.prog w' = .ok (.slice A' (n - 1) (c - 1)) w' := hsl
  have h0 := hb.cell 0
  have f0 := hb.frozen 0
  have hcell : w.cell? ⟨g, o, none⟩ = some (.string (bs x)) := hcell
  have HTS := Lib.hid (hts w _ ht)
  have HB := Lib.hid hb
  clear hb ht hts
  simp only [List.getElem?_toArray, List.getElem?_cons_zero] at h0
  go_enter Tryd.func77, Tryd.ntmps77
  go_wp2
  go_ret
  refine ⟨rfl, ⟨A', n - 1, c - 1, HB.out.set_ 0 _, HTS.out.kept ((Below.refl _ _).setCell (p := ⟨r, 0, none⟩) (Nat.le_refl _) _)⟩, only_setCell (only_refl _ _) (.inl rfl) _⟩

theorem Rd.lt {w : World} {r : Nat} {L : List (List UInt8)} {bad : Bool} (h : Rd w r L bad) : r < w.heap.size := by
  obtain ⟨A, n, c, hb, _⟩ := h
  exact hb.lt
theorem Rd.on {w w' : World} {r : Nat} {L : List (List UInt8)} {bad : Bool} (h : Rd w r L bad) (hb : Below w.heap.size w w') : Rd w' r L bad := by
  obtain ⟨A, n, c, hb', ht⟩ := h
  exact ⟨A, n, c, hb'.on hb, ht.kept (hb.mono (Nat.le_of_lt hb'.lt))⟩
theorem Rd.bad_ {w : World} {r : Nat} {L : List (List UInt8)} {bad : Bool} (h : Rd w r L bad) (b : Bool) : Rd (w.setCell ⟨r, 1, none⟩ (.bool b)) r L b := by
  obtain ⟨A, n, c, hb', ht⟩ := h
  exact ⟨A, n, c, hb'.set_ 1 _, ht.kept ((Below.refl _ _).setCell (p := ⟨r, 1, none⟩) (Nat.le_refl _) _)⟩
theorem Rd.flag {w : World} {r : Nat} {L : List (List UInt8)} {bad : Bool} (h : Rd w r L bad) : w.cell? ⟨r, 1, none⟩ = some (.bool bad) ∧ w.frozen? ⟨r, 1, none⟩ = false := by
  obtain ⟨A, n, c, hb', ht⟩ := h
  exact ⟨hb'.cell 1, hb'.frozen 1⟩
theorem grown_below {w w' w'' : World} {r : Nat} (h : w.grownBy w' (some r)) (hb : Below w'.heap.size w' w'') : w.grownBy w'' (some r) := only_trans h (only_of_below hb _)

set_option maxRecDepth 100000 in
set_option maxHeartbeats 2000000 in
theorem rdnum_any (r : Nat) (x : List UInt8) (L : List (List UInt8)) (bad : Bool) (most : Int) (hx : x.length ≤ 1048576) (w : World) (h : Rd w r (x :: L) bad) : Calls Tryd.prog 59 #[.pointer (some ⟨r, 0, none⟩), .int .i64 most] w fun e w' => e = .returned (.int .i64 (((numV x most).getD 0 : Nat) : Int)) ∧ Rd w' r L (bad || (numV x most).isNone) ∧ w.grownBy w' (some r) := by
  have hn := fun W h => next_any r x L bad W h
  have hm := fun W => cnum_any x most hx W
  obtain ⟨R, hR⟩ : ∃ R, numV x most = R := ⟨_, rfl⟩
  rw [hR] at hm ⊢
  have H := Lib.hid h
  have HN := Lib.hid hn
  have HM := Lib.hid hm
  clear h hn hm hR
  go_enter Tryd.func59, Tryd.ntmps59
  go_wp2_with (first
    | (go_at_call 77; refine (HN.out _ H.out).mono ?_; rintro e w1 ⟨rfl, r1, g1⟩; have R1 := Lib.hid r1; have G1 := Lib.hid g1; clear r1 g1)
    | (go_at_call 17; refine (HM.out _).mono ?_; rintro e w2 ⟨rfl, b2⟩; have R2 := Lib.hid (R1.out.on b2); have G2 := Lib.hid (grown_below G1.out b2); have x1 := R2.out.flag.1; have x2 := R2.out.flag.2; unfold numR; clear b2 R1 G1))
  all_goals
    rename_i hbad
    go_ret
    refine ⟨rfl, ?_, only_setCell G2.out (.inl rfl) _⟩
    have := R2.out.bad_
    revert hbad
    cases bad <;> cases R <;> intro hbad <;> first | exact this _ | simp at hbad

set_option maxRecDepth 100000 in
set_option maxHeartbeats 2000000 in
theorem rdproto_any (r : Nat) (x : List UInt8) (L : List (List UInt8)) (bad : Bool) (w : World) (h : Rd w r (x :: L) bad) : Calls Tryd.prog 78 #[.pointer (some ⟨r, 0, none⟩)] w fun e w' => e = .returned (.int .i64 (((protoV x).getD 0 : Nat) : Int)) ∧ Rd w' r L (bad || (protoV x).isNone) ∧ w.grownBy w' (some r) := by
  have hn := fun W h => next_any r x L bad W h
  have hm := fun W => cproto_any x W
  obtain ⟨R, hR⟩ : ∃ R, protoV x = R := ⟨_, rfl⟩
  rw [hR] at hm ⊢
  have H := Lib.hid h
  have HN := Lib.hid hn
  have HM := Lib.hid hm
  clear h hn hm hR
  go_enter Tryd.func78, Tryd.ntmps78
  go_wp2_with (first
    | (go_at_call 77; refine (HN.out _ H.out).mono ?_; rintro e w1 ⟨rfl, r1, g1⟩; have R1 := Lib.hid r1; have G1 := Lib.hid g1; clear r1 g1)
    | (go_at_call 19; refine (HM.out _).mono ?_; rintro e w2 ⟨rfl, b2⟩; have R2 := Lib.hid (R1.out.on b2); have G2 := Lib.hid (grown_below G1.out b2); have x1 := R2.out.flag.1; have x2 := R2.out.flag.2; unfold numR; clear b2 R1 G1))
  all_goals
    rename_i hbad
    go_ret
    refine ⟨rfl, ?_, only_setCell G2.out (.inl rfl) _⟩
    have := R2.out.bad_
    revert hbad
    cases bad <;> cases R <;> intro hbad <;> first | exact this _ | simp at hbad

set_option maxRecDepth 100000 in
set_option maxHeartbeats 2000000 in
theorem rdaddr_any (r : Nat) (x : List UInt8) (L : List (List UInt8)) (bad : Bool) (hx : x.length ≤ 1048576) (w : World) (h : Rd w r (x :: L) bad) : Calls Tryd.prog 61 #[.pointer (some ⟨r, 0, none⟩)] w fun e w' => e = .returned (.int .i64 (((parseV x).getD 0 : Nat) : Int)) ∧ Rd w' r L (bad || (parseV x).isNone) ∧ w.grownBy w' (some r) := by
  have hn := fun W h => next_any r x L bad W h
  have hm := fun W => fparse_any x hx W
  obtain ⟨R, hR⟩ : ∃ R, parseV x = R := ⟨_, rfl⟩
  rw [hR] at hm ⊢
  have H := Lib.hid h
  have HN := Lib.hid hn
  have HM := Lib.hid hm
  clear h hn hm hR
  cases R with
  | none =>
    have HM := Lib.hid (show ∀ W, Calls Tryd.prog 54 #[.string (bs x)] W fun r w' => r = .returned (.tuple #[.int .i64 0, .int .i64 4]) ∧ Below W.heap.size W w' from HM.out)
    go_enter Tryd.func61, Tryd.ntmps61
    go_wp2_with (first
      | (go_at_call 77; refine (HN.out _ H.out).mono ?_; rintro e w1 ⟨rfl, r1, g1⟩; have R1 := Lib.hid r1; have G1 := Lib.hid g1; clear r1 g1)
      | (go_at_call 54; refine (HM.out _).mono ?_; rintro e w2 ⟨rfl, b2⟩; have R2 := Lib.hid (R1.out.on b2); have G2 := Lib.hid (grown_below G1.out b2); have x1 := R2.out.flag.1; have x2 := R2.out.flag.2; clear b2 R1 G1))
    all_goals
      rename_i hbad
      go_ret
      refine ⟨rfl, ?_, only_setCell G2.out (.inl rfl) _⟩
      have := R2.out.bad_
      revert hbad
      cases bad <;> intro hbad <;> first | exact this _ | simp at hbad
  | some a =>
    have HM := Lib.hid (show ∀ W, Calls Tryd.prog 54 #[.string (bs x)] W fun r w' => r = .returned (.tuple #[.int .i64 (a : Int), .int .i64 0]) ∧ Below W.heap.size W w' from HM.out)
    go_enter Tryd.func61, Tryd.ntmps61
    go_wp2_with (first
      | (go_at_call 77; refine (HN.out _ H.out).mono ?_; rintro e w1 ⟨rfl, r1, g1⟩; have R1 := Lib.hid r1; have G1 := Lib.hid g1; clear r1 g1)
      | (go_at_call 54; refine (HM.out _).mono ?_; rintro e w2 ⟨rfl, b2⟩; have R2 := Lib.hid (R1.out.on b2); have G2 := Lib.hid (grown_below G1.out b2); have x1 := R2.out.flag.1; have x2 := R2.out.flag.2; clear b2 R1 G1))
    all_goals
      rename_i hbad
      go_ret
      refine ⟨rfl, ?_, only_setCell G2.out (.inl rfl) _⟩
      have := R2.out.bad_
      revert hbad
      cases bad <;> intro hbad <;> first | exact this _ | simp at hbad

theorem Rd.far {w : World} {r : Nat} {L : List (List UInt8)} {bad : Bool} (h : Rd w r L bad) {p : Addr} (hp : r < p.block) (u : Value) : Rd (w.setCell p u) r L bad := by
  obtain ⟨A, n, c, hb', ht⟩ := h
  exact ⟨A, n, c, hb'.far (by omega) _, ht.kept ((Below.refl _ _).setCell (Nat.le_of_lt hp) _)⟩
/-- Four words' endpoint, as the reader has it. -/
def innerG (a b c d : List UInt8) : Int × Int × Int × Int := (((numV a 63).getD 0 : Nat), ((protoV b).getD 0 : Nat), ((parseV c).getD 0 : Nat), ((numV d 65535).getD 0 : Nat))
def inV (q : Int × Int × Int × Int) : Value := .agg #[.int .i64 q.1, .int .i64 q.2.1, .int .i64 q.2.2.1, .int .i64 q.2.2.2]
theorem innerL_bad (a b c d : List UInt8) : (innerL a b c d).isNone = (((((numV a 63).isNone) || (protoV b).isNone) || (parseV c).isNone) || (numV d 65535).isNone) := by
  unfold innerL
  cases numV a 63 <;> cases protoV b <;> cases parseV c <;> cases numV d 65535 <;> rfl
theorem innerL_good {a b c d : List UInt8} {q : Nat × Nat × Nat × Nat} (h : innerL a b c d = some q) : innerG a b c d = innerI q := by
  obtain ⟨n, p, x, y⟩ := q
  obtain ⟨h1, h2, h3, h4⟩ := innerL_some h
  unfold innerG innerI
  rw [h1, h2, h3, h4]
  rfl

set_option maxRecDepth 100000 in
set_option maxHeartbeats 4000000 in
theorem rdinner_any (r : Nat) (a b c d : List UInt8) (L : List (List UInt8)) (ha : a.length ≤ 1048576) (hc : c.length ≤ 1048576) (hd : d.length ≤ 1048576) (w : World) (h : Rd w r (a :: b :: c :: d :: L) false) : Calls Tryd.prog 60 #[.pointer (some ⟨r, 0, none⟩)] w fun e w' => e = .returned (inV (innerG a b c d)) ∧ Rd w' r L (innerL a b c d).isNone ∧ w.grownBy w' (some r) := by
  have h1 := fun W h => rdnum_any r a (b :: c :: d :: L) false 63 ha W h
  have h2 := fun v W h => rdproto_any r b (c :: d :: L) v W h
  have h3 := fun v W h => rdaddr_any r c (d :: L) v hc W h
  have h4 := fun v W h => rdnum_any r d L v 65535 hd W h
  rw [innerL_bad]
  unfold innerG inV
  obtain ⟨A, hA⟩ : ∃ A, numV a 63 = A := ⟨_, rfl⟩
  obtain ⟨B, hB⟩ : ∃ B, protoV b = B := ⟨_, rfl⟩
  obtain ⟨C, hC⟩ : ∃ C, parseV c = C := ⟨_, rfl⟩
  obtain ⟨D, hD⟩ : ∃ D, numV d 65535 = D := ⟨_, rfl⟩
  rw [hA] at h1 ⊢
  rw [hB] at h2 ⊢
  rw [hC] at h3 ⊢
  rw [hD] at h4 ⊢
  have H := Lib.hid h
  have HW := Lib.hid h.lt
  have H1 := Lib.hid h1
  have H2 := Lib.hid h2
  have H3 := Lib.hid h3
  have H4 := Lib.hid h4
  clear h h1 h2 h3 h4 hA hB hC hD
  go_enter Tryd.func60, Tryd.ntmps60
  go_wp2_with (first
    | (go_at_call 78; refine (H2.out _ _ R1.out).mono ?_; rintro e w2 ⟨rfl, r2, g2⟩; have R2 := Lib.hid r2; have G2 := Lib.hid (only_trans G1.out g2); clear r2 g2 R1 G1)
    | (go_at_call 61; refine (H3.out _ _ R2.out).mono ?_; rintro e w3 ⟨rfl, r3, g3⟩; have R3 := Lib.hid r3; have G3 := Lib.hid (only_trans G2.out g3); clear r3 g3 R2 G2)
    | (go_at_call 59; refine (H4.out _ _ R3.out).mono ?_; rintro e w4 ⟨rfl, r4, g4⟩; have R4 := Lib.hid r4; have G4 := Lib.hid (only_trans G3.out g4); have BK := Lib.hid ((Blk.new w 24 #[.int .i64 0, .int .i64 0, .int .i64 0, .int .i64 0]).grown G4.out (by intro e; injection e with e; have := HW.out; omega)); have x0 := BK.out.cell 0; have x1 := BK.out.cell 1; have x2 := BK.out.cell 2; have x3 := BK.out.cell 3; have f0 := BK.out.frozen 0; have f1 := BK.out.frozen 1; have f2 := BK.out.frozen 2; have f3 := BK.out.frozen 3; simp only [List.getElem?_toArray, List.getElem?_cons_zero, List.getElem?_cons_succ] at x0 x1 x2 x3; clear r4 g4 R3 G3)
    | (go_at_call 59; refine (H1.out _ (H.out.on ((Below.refl _ _).alloc (Nat.le_refl _) _))).mono ?_; rintro e w1 ⟨rfl, r1, g1⟩; have R1 := Lib.hid r1; have G1 := Lib.hid g1; clear r1 g1))
  have hw := HW.out
  have b4 := (((BK.out.set_ 0 (.int .i64 (A.getD 0 : Nat))).set_ 1 (.int .i64 (B.getD 0 : Nat))).set_ 2 (.int .i64 (C.getD 0 : Nat))).set_ 3 (.int .i64 (D.getD 0 : Nat))
  refine bodyPost_ret (results_cell_row rfl _ _ w.heap.size 24 #[.int .i64 (A.getD 0 : Nat), .int .i64 (B.getD 0 : Nat), .int .i64 (C.getD 0 : Nat), .int .i64 (D.getD 0 : Nat)] (0, 0) _ rfl b4 Tryd.underlying24 rfl (by kernel_rfl)) rfl ⟨rfl, ?_, ?_⟩
  · exact (((R4.out.far (p := ⟨w.heap.size, 0, none⟩) hw _).far (p := ⟨w.heap.size, 1, none⟩) hw _).far (p := ⟨w.heap.size, 2, none⟩) hw _).far (p := ⟨w.heap.size, 3, none⟩) hw _
  · have g5 := only_trans (only_alloc (only_refl w (some r)) _) G4.out
    exact only_setCell (only_setCell (only_setCell (only_setCell g5 (p := ⟨w.heap.size, 0, none⟩) (.inr (Nat.le_refl _)) _) (p := ⟨w.heap.size, 1, none⟩) (.inr (Nat.le_refl _)) _) (p := ⟨w.heap.size, 2, none⟩) (.inr (Nat.le_refl _)) _) (p := ⟨w.heap.size, 3, none⟩) (.inr (Nat.le_refl _)) _
end Go.Proofs.YtkbbkddepcjoaaaDoor
