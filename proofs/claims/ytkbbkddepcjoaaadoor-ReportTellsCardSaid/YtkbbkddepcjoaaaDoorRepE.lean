/-
  report: Read. Printed by wip/gen/repE.py.
-/
import Derived.Test.YtkbbkddepcjoaaaDoorRepD
namespace Go.Proofs.YtkbbkddepcjoaaaDoor
open Go.RowKit Go.Great

theorem of_not {b : Bool} (h : (!b) = false) : b = true := by
  cases b with
  | false => cases h
  | true => rfl
/-- The world while a text is read. -/
def PB (w : World) (M : List (List UInt8)) (W : World) : Prop := Blk W w.heap.size 28 (bdC zeroB) ∧ TRow W (w.heap.size + 1) 0 M ∧ Below w.heap.size w W
theorem PB.on {w W W' : World} {M : List (List UInt8)} (h : PB w M W) (hb : Below W.heap.size W W') : PB w M W' := ⟨h.1.on hb, h.2.1.on hb, h.2.2.trans (hb.mono h.2.2.size)⟩
theorem PB.new {w W : World} {M : List (List UInt8)} (h : PB w M W) (o : Obj) : PB w M (W.alloc o) := h.on ((Below.refl _ _).alloc (Nat.le_refl _) _)
theorem PB.lt {w W : World} {M : List (List UInt8)} (h : PB w M W) : w.heap.size + 1 < W.heap.size := h.2.1.1
/-- A row above is written anew. -/
theorem PB.row {w W : World} {M : List (List UInt8)} (h : PB w M W) {V : Nat} (hV : w.heap.size + 1 < V) (cs : Array Value) : PB w M (W.setRow V cs) :=
  ⟨(setRow_other W V _ _ (by omega)).trans h.1, ⟨by simpa [World.setRow] using h.2.1.1, fun j x hx => (World.cell?_of_block (setRow_other W V _ _ (by simp only; omega))).trans (h.2.1.2 j x hx)⟩, below_setRow h.2.2 (by omega) _⟩
theorem PB.at_ {w W : World} {M : List (List UInt8)} (h : PB w M W) {k : Nat} {x : List UInt8} (hx : M[k]? = some x) : W.cell? ⟨w.heap.size + 1, k, none⟩ = some (.string (bs x)) := by
  have := h.2.1.2 k x hx
  rwa [Nat.zero_add] at this
theorem PB.start {w w1 : World} {M : List (List UInt8)} (tr1 : TRow w1 (w.alloc (.cells (bdC zeroB) 28)).heap.size 0 M) (b1 : Below (w.alloc (.cells (bdC zeroB) 28)).heap.size (w.alloc (.cells (bdC zeroB) 28)) w1) : PB w M w1 := by
  have e0 : (w.alloc (.cells (bdC zeroB) 28)).heap.size = w.heap.size + 1 := by simp
  have l0 : Below w.heap.size w (w.alloc (.cells (bdC zeroB) 28)) := (Below.refl _ _).alloc (Nat.le_refl _) _
  exact ⟨(Blk.new w _ _).on b1, by rw [← e0]; exact tr1, l0.trans (b1.mono (by omega))⟩
theorem read_ret {w W : World} {a : Act} {q : Bd} {z : Int} {R : Ending → World → Prop} (h2 : a.tmps[2]?.getD undef = .pointer (some ⟨w.heap.size, 0, none⟩)) (h3 : a.tmps[3]?.getD undef = .int .i64 z) (hd : a.defers = [])
    (hb : Blk W w.heap.size 28 (bdC q)) (hR : R (.returned (.tuple #[.agg (bdC q), .int .i64 z])) W) : bodyPost Tryd.prog Tryd.f11 R .ret a W := by
  refine bodyPost_ret (v := .tuple #[.agg (bdC q), .int .i64 z]) ?_ hd hR
  simp [results, Tryd.f11, asAddr, h2, h3, run_loadVar_row _ w.heap.size 28 28 (bdC q) (0, 0) _ hb Tryd.underlying28 rfl bd_size]
theorem splitB_row (M : List (List UInt8)) (N : Nat) (s : List UInt8) (h : piecesB [] s = M) (hN : M.length = N) (hs : s.length ≤ 1048576) (w : World) : Calls Tryd.prog 32 #[.string (bs s), .string ⟨#[32]⟩] w fun e w' => e = .returned (.slice (some ⟨w.heap.size, 0, none⟩) N N) ∧ TRow w' w.heap.size 0 M ∧ Below w.heap.size w w' := by
  have := splitB_any s hs w
  rw [h, hN] at this
  exact this
/-- What eight words say: their numbers, and whether all are there. -/
theorem bd_law (a0 a1 a2 a3 a4 a5 a6 a7 : List UInt8) (st : Bool) (h0 : a0 = firstW st) (h5 : a5 = wAs) : (parseBd [a0, a1, a2, a3, a4, a5, a6, a7]).isSome = ((numV a1 63).isSome && (protoV a2).isSome && (outerL a3 a4).isSome && (outerL a6 a7).isSome) ∧
    ∀ x, parseBd [a0, a1, a2, a3, a4, a5, a6, a7] = some x → x = (((((numV a1 63).getD 0 : Nat) : Int), (((protoV a2).getD 0 : Nat) : Int), (((parseV a3).getD 0 : Nat) : Int), (((numV a4 65535).getD 0 : Nat) : Int)), ((((protoV a2).getD 0 : Nat) : Int), (((parseV a6).getD 0 : Nat) : Int), (((numV a7 65535).getD 0 : Nat) : Int)), st) := by
  have hst : decide (a0 = wStatic) = st := by subst h0; cases st <;> decide
  have hc : (a0 = wBound ∨ a0 = wStatic) ∧ a5 = wAs := ⟨by subst h0; cases st; exact .inl rfl; exact .inr rfl, h5⟩
  have e : parseBd [a0, a1, a2, a3, a4, a5, a6, a7] = (innerL a1 a2 a3 a4).bind fun q => (outerL a6 a7).map fun r => (innerI q, ((q.2.1 : Int), (r.1 : Int), (r.2 : Int)), st) := by
    unfold parseBd
    simp only
    rw [if_pos hc, hst]
  rw [e]
  unfold innerL outerL
  constructor
  · cases numV a1 63 <;> cases protoV a2 <;> cases parseV a3 <;> cases numV a4 65535 <;> cases parseV a6 <;> cases numV a7 65535 <;> rfl
  · intro x
    cases numV a1 63 <;> cases protoV a2 <;> cases parseV a3 <;> cases numV a4 65535 <;> cases parseV a6 <;> cases numV a7 65535 <;> intro hx <;> first | (cases hx; done) | (injection hx with hx; exact hx.symm)
set_option linter.unusedSimpArgs false in
set_option maxRecDepth 100000 in
set_option maxHeartbeats 8000000 in
theorem read_else (s : List UInt8) (M : List (List UInt8)) (N : Nat) (hs : s.length ≤ 200) (hl : piecesB [] s = M) (hN : M.length = N) (h8 : N ≠ 8) (w : World) : Calls Tryd.prog 11 #[.string (bs s)] w fun e w' => e = .returned (readOV s) ∧ Below w.heap.size w w' := by
  have hsz : (bs s).size = s.length := rfl
  unfold readOV
  have hd : decide ((200 : Int) < (s.length : Int)) = false := by simp; omega
  have hsp := splitB_row M N s hl (hN) (by omega) (w.alloc (.cells (bdC zeroB) 28))
  have HSP := Lib.hid hsp
  clear hsp
  have HR := Lib.hid (readO_none (s := s) (by omega) (by rw [hl]; exact parseBd_len (by rw [hN]; exact h8)))
  have n8 : ((N : Int) != 8) = true := by simp; omega
  clear hl hN
  go_enter Tryd.func11, Tryd.ntmps11
  go_wp2_with (first
    | (go_at_call 32; refine HSP.out.mono ?_; rintro e w1 ⟨rfl, tr1, b1⟩; have HP1 := Lib.hid (PB.start tr1 b1); clear tr1 b1; skip)
    | (refine wpList_store_row rfl 28 (.tmp 2) (.tmp 40) rfl w.heap.size (bdC zeroB) rfl rfl 28 (bdC zeroB) HP1.out.1 bd_size rfl (bd_one _) ?_))
  refine read_ret (w := w) (q := zeroB) (z := 13) rfl rfl rfl (setRow_heap _ _ _ _ _ _ HP1.out.1) ⟨by rw [HR.out], below_setRow HP1.out.2.2 (Nat.le_refl _) _⟩
set_option linter.unusedSimpArgs false in
set_option maxRecDepth 100000 in
set_option maxHeartbeats 8000000 in
theorem read_first (s : List UInt8) (a0 a1 a2 a3 a4 a5 a6 a7 : List UInt8) (hs : s.length ≤ 200) (hl : piecesB [] s = [a0, a1, a2, a3, a4, a5, a6, a7]) (h1 : a0 ≠ wBound) (h2 : a0 ≠ wStatic) (w : World) : Calls Tryd.prog 11 #[.string (bs s)] w fun e w' => e = .returned (readOV s) ∧ Below w.heap.size w w' := by
  have hsz : (bs s).size = s.length := rfl
  unfold readOV
  have hd : decide ((200 : Int) < (s.length : Int)) = false := by simp; omega
  have hsp := splitB_row [a0, a1, a2, a3, a4, a5, a6, a7] 8 s hl (rfl) (by omega) (w.alloc (.cells (bdC zeroB) 28))
  have HSP := Lib.hid hsp
  clear hsp
  have HR := Lib.hid (readO_none (s := s) (by omega) (by rw [hl]; unfold parseBd; simp only; rw [if_neg (by intro h; rcases h.1 with h | h; exact h1 h; exact h2 h)]))
  have q1 := strs_ne h1
  have q2 := strs_ne h2
  unfold wBound at q1
  unfold wStatic at q2
  clear hl h1 h2
  go_enter Tryd.func11, Tryd.ntmps11
  go_wp2_with (first
    | (go_at_call 32; refine HSP.out.mono ?_; rintro e w1 ⟨rfl, tr1, b1⟩; have HP1 := Lib.hid (PB.start tr1 b1); clear tr1 b1; have x0 := HP1.out.at_ (k := 0) rfl)
    | (refine wpList_store_row rfl 28 (.tmp 2) (.tmp 40) rfl w.heap.size (bdC zeroB) rfl rfl 28 (bdC zeroB) HP1.out.1 bd_size rfl (bd_one _) ?_))
  refine read_ret (w := w) (q := zeroB) (z := 13) rfl rfl rfl (setRow_heap _ _ _ _ _ _ HP1.out.1) ⟨by rw [HR.out], below_setRow HP1.out.2.2 (Nat.le_refl _) _⟩
set_option linter.unusedSimpArgs false in
set_option maxRecDepth 100000 in
set_option maxHeartbeats 8000000 in
theorem read_as (s : List UInt8) (a0 a1 a2 a3 a4 a5 a6 a7 : List UInt8) (hs : s.length ≤ 200) (hl : piecesB [] s = [a0, a1, a2, a3, a4, a5, a6, a7]) (st : Bool) (h0 : a0 = firstW st) (h5 : a5 ≠ wAs) (w : World) : Calls Tryd.prog 11 #[.string (bs s)] w fun e w' => e = .returned (readOV s) ∧ Below w.heap.size w w' := by
  have hsz : (bs s).size = s.length := rfl
  unfold readOV
  have hd : decide ((200 : Int) < (s.length : Int)) = false := by simp; omega
  have hsp := splitB_row [a0, a1, a2, a3, a4, a5, a6, a7] 8 s hl (rfl) (by omega) (w.alloc (.cells (bdC zeroB) 28))
  have HSP := Lib.hid hsp
  clear hsp
  have HR := Lib.hid (readO_none (s := s) (by omega) (by rw [hl]; unfold parseBd; simp only; rw [if_neg (fun h => h5 h.2)]))
  have q5 := strs_ne h5
  unfold wAs at q5
  clear hl h5
  cases st
  · have q1 : ((bs a0).toList == [98, 111, 117, 110, 100]) = true := strs_eq h0
    clear h0
    go_enter Tryd.func11, Tryd.ntmps11
    go_wp2_with (first
      | (go_at_call 32; refine HSP.out.mono ?_; rintro e w1 ⟨rfl, tr1, b1⟩; have HP1 := Lib.hid (PB.start tr1 b1); clear tr1 b1; have x0 := HP1.out.at_ (k := 0) rfl; have x5 := HP1.out.at_ (k := 5) rfl)
      | (refine wpList_store_row rfl 28 (.tmp 2) (.tmp 40) rfl w.heap.size (bdC zeroB) rfl rfl 28 (bdC zeroB) HP1.out.1 bd_size rfl (bd_one _) ?_))
    refine read_ret (w := w) (q := zeroB) (z := 13) rfl rfl rfl (setRow_heap _ _ _ _ _ _ HP1.out.1) ⟨by rw [HR.out], below_setRow HP1.out.2.2 (Nat.le_refl _) _⟩
  · have q1 : ((bs a0).toList == [98, 111, 117, 110, 100]) = false := strs_ne (by rw [h0]; decide)
    have q2 : ((bs a0).toList == [115, 116, 97, 116, 105, 99]) = true := strs_eq h0
    clear h0
    go_enter Tryd.func11, Tryd.ntmps11
    go_wp2_with (first
      | (go_at_call 32; refine HSP.out.mono ?_; rintro e w1 ⟨rfl, tr1, b1⟩; have HP1 := Lib.hid (PB.start tr1 b1); clear tr1 b1; have x0 := HP1.out.at_ (k := 0) rfl; have x5 := HP1.out.at_ (k := 5) rfl)
      | (refine wpList_store_row rfl 28 (.tmp 2) (.tmp 40) rfl w.heap.size (bdC zeroB) rfl rfl 28 (bdC zeroB) HP1.out.1 bd_size rfl (bd_one _) ?_))
    refine read_ret (w := w) (q := zeroB) (z := 13) rfl rfl rfl (setRow_heap _ _ _ _ _ _ HP1.out.1) ⟨by rw [HR.out], below_setRow HP1.out.2.2 (Nat.le_refl _) _⟩
set_option linter.unusedSimpArgs false in
set_option maxRecDepth 100000 in
set_option maxHeartbeats 8000000 in
theorem read_main (s : List UInt8) (a0 a1 a2 a3 a4 a5 a6 a7 : List UInt8) (hs : s.length ≤ 200) (hl : piecesB [] s = [a0, a1, a2, a3, a4, a5, a6, a7]) (st : Bool) (h0 : a0 = firstW st) (h5 : a5 = wAs) (w : World) : Calls Tryd.prog 11 #[.string (bs s)] w fun e w' => e = .returned (readOV s) ∧ Below w.heap.size w w' := by
  have hsz : (bs s).size = s.length := rfl
  unfold readOV
  have hd : decide ((200 : Int) < (s.length : Int)) = false := by simp; omega
  have hsp := splitB_row [a0, a1, a2, a3, a4, a5, a6, a7] 8 s hl (rfl) (by omega) (w.alloc (.cells (bdC zeroB) 28))
  have HSP := Lib.hid hsp
  clear hsp
  have l1 : a1.length ≤ 1048576 := by
    have := piecesB_mem s [] a1 (by rw [hl]; simp)
    simp at this
    omega
  have l3 : a3.length ≤ 1048576 := by
    have := piecesB_mem s [] a3 (by rw [hl]; simp)
    simp at this
    omega
  have l4 : a4.length ≤ 1048576 := by
    have := piecesB_mem s [] a4 (by rw [hl]; simp)
    simp at this
    omega
  have l6 : a6.length ≤ 1048576 := by
    have := piecesB_mem s [] a6 (by rw [hl]; simp)
    simp at this
    omega
  have l7 : a7.length ≤ 1048576 := by
    have := piecesB_mem s [] a7 (by rw [hl]; simp)
    simp at this
    omega
  obtain ⟨hO, hQ⟩ := bd_law a0 a1 a2 a3 a4 a5 a6 a7 st h0 h5
  have hr : ∀ b, parseBd [a0, a1, a2, a3, a4, a5, a6, a7] = some b → readO s = (b, 0) := fun b hb => readO_some (by omega) (by rw [hl]; exact hb)
  have hn : parseBd [a0, a1, a2, a3, a4, a5, a6, a7] = none → readO s = (zeroB, 13) := fun hb => readO_none (by omega) (by rw [hl]; exact hb)
  have c1 := fun W => cnum_any a1 63 l1 W
  have c2 := fun W => cproto_any a2 W
  have c3 := fun W => endpoint_any a3 a4 l3 l4 W
  have c4 := fun W => endpoint_any a6 a7 l6 l7 W
  unfold numR at c1 c2
  obtain ⟨N1, hN1⟩ : ∃ N, (numV a1 63).getD 0 = N := ⟨_, rfl⟩
  obtain ⟨N2, hN2⟩ : ∃ N, (protoV a2).getD 0 = N := ⟨_, rfl⟩
  obtain ⟨N3, hN3⟩ : ∃ N, (parseV a3).getD 0 = N := ⟨_, rfl⟩
  obtain ⟨M3, hM3⟩ : ∃ N, (numV a4 65535).getD 0 = N := ⟨_, rfl⟩
  obtain ⟨N4, hN4⟩ : ∃ N, (parseV a6).getD 0 = N := ⟨_, rfl⟩
  obtain ⟨M4, hM4⟩ : ∃ N, (numV a7 65535).getD 0 = N := ⟨_, rfl⟩
  obtain ⟨B1, hB1⟩ : ∃ B, (numV a1 63).isSome = B := ⟨_, rfl⟩
  obtain ⟨B2, hB2⟩ : ∃ B, (protoV a2).isSome = B := ⟨_, rfl⟩
  obtain ⟨B3, hB3⟩ : ∃ B, (outerL a3 a4).isSome = B := ⟨_, rfl⟩
  obtain ⟨B4, hB4⟩ : ∃ B, (outerL a6 a7).isSome = B := ⟨_, rfl⟩
  rw [hN1, hN2, hN3, hM3, hN4, hM4] at hQ
  rw [hB1, hB2, hB3, hB4] at hO
  rw [hN1, hB1] at c1
  rw [hN2, hB2] at c2
  rw [hN3, hM3, hB3] at c3
  rw [hN4, hM4, hB4] at c4
  obtain ⟨O, hOO⟩ : ∃ O, parseBd [a0, a1, a2, a3, a4, a5, a6, a7] = O := ⟨_, rfl⟩
  rw [hOO] at hO hQ hr hn
  have HO := Lib.hid hO
  have HQ := Lib.hid hQ
  have HRS := Lib.hid hr
  have HRN := Lib.hid hn
  have C1 := Lib.hid c1
  have C2 := Lib.hid c2
  have C3 := Lib.hid c3
  have C4 := Lib.hid c4
  have q5 : ((bs a5).toList == [97, 115]) = true := strs_eq h5
  clear hN1 hN2 hN3 hM3 hN4 hM4 hB1 hB2 hB3 hB4 hOO hO hQ hr hn c1 c2 c3 c4 hl h5 l1 l3 l4 l6 l7
  cases st
  · have q1 : ((bs a0).toList == [98, 111, 117, 110, 100]) = true := strs_eq h0
    have q2 : ((bs a0).toList == [115, 116, 97, 116, 105, 99]) = false := strs_ne (by rw [h0]; decide)
    clear h0
    go_enter Tryd.func11, Tryd.ntmps11
    go_upto_region 8 with (first
      | (go_at_call 32; refine HSP.out.mono ?_; rintro e w1 ⟨rfl, tr1, b1⟩; have HP1 := Lib.hid (PB.start tr1 b1); clear tr1 b1; have x0 := HP1.out.at_ (k := 0) rfl; have x5 := HP1.out.at_ (k := 5) rfl; have x1 := HP1.out.at_ (k := 1) rfl)
      | (go_at_call 17; refine (C1.out _).mono ?_; rintro e w2 ⟨rfl, b2⟩; have HP2 := Lib.hid (HP1.out.on b2); have y2 := HP2.out.at_ (k := 2) rfl; clear b2)
      | (go_at_call 19; refine (C2.out _).mono ?_; rintro e w3 ⟨rfl, b3⟩; have HP3 := Lib.hid (HP2.out.on b3); clear b3 y2 x0 x5 x1 HP1 HP2 HSP))
    refine wp_region_held_drew (S := (fun W' : World => W'.cell? ⟨w.heap.size + 1, 3, none⟩ = some (.string (bs a3)) ∧ W'.cell? ⟨w.heap.size + 1, 4, none⟩ = some (.string (bs a4)))) (by kernel_rfl) ⟨HP3.out.at_ (k := 3) rfl, HP3.out.at_ (k := 4) rfl⟩ (fun H0 => ?_)
    refine wpAnyH_take (i := 0) (v := .slice (some ⟨w.heap.size + 1, 0, none⟩) 8 8) rfl (by kernel_rfl) (by kernel_rfl) (by kernel_rfl) (fun _ _ _ h => h) (.inl ⟨rfl, fun w hS => by go_simp⟩) H0 ?_
    simp only [Act.put, List.getElem_toArray, List.getElem_cons_zero, List.setIfInBounds_toArray, List.set_cons_zero, List.set_cons_succ]
    refine wpAnyH_take (i := 1) (v := .pointer (some ⟨w.heap.size + 1, 3, none⟩)) rfl (by kernel_rfl) (by kernel_rfl) (by kernel_rfl) (fun _ _ _ h => h) (.inl ⟨rfl, fun w hS => by go_simp⟩) H0 ?_
    simp only [Act.put, List.getElem_toArray, List.getElem_cons_succ, List.getElem_cons_zero, List.setIfInBounds_toArray, List.set_cons_zero, List.set_cons_succ]
    refine wpAnyH_take (i := 2) (v := .string (bs a3)) rfl (by kernel_rfl) (by kernel_rfl) (by kernel_rfl) (fun _ _ _ h => h) (.inl ⟨rfl, fun w hS => by obtain ⟨m1, m2⟩ := hS; go_simp⟩) H0 ?_
    simp only [Act.put, List.getElem_toArray, List.getElem_cons_succ, List.getElem_cons_zero, List.setIfInBounds_toArray, List.set_cons_zero, List.set_cons_succ]
    refine wpAnyH_take (i := 3) (v := .slice (some ⟨w.heap.size + 1, 0, none⟩) 8 8) rfl (by kernel_rfl) (by kernel_rfl) (by kernel_rfl) (fun _ _ _ h => h) (.inl ⟨rfl, fun w hS => by go_simp⟩) H0 ?_
    simp only [Act.put, List.getElem_toArray, List.getElem_cons_succ, List.getElem_cons_zero, List.setIfInBounds_toArray, List.set_cons_zero, List.set_cons_succ]
    refine wpAnyH_take (i := 4) (v := .pointer (some ⟨w.heap.size + 1, 4, none⟩)) rfl (by kernel_rfl) (by kernel_rfl) (by kernel_rfl) (fun _ _ _ h => h) (.inl ⟨rfl, fun w hS => by go_simp⟩) H0 ?_
    simp only [Act.put, List.getElem_toArray, List.getElem_cons_succ, List.getElem_cons_zero, List.setIfInBounds_toArray, List.set_cons_zero, List.set_cons_succ]
    refine wpAnyH_take (i := 5) (v := .string (bs a4)) rfl (by kernel_rfl) (by kernel_rfl) (by kernel_rfl) (fun _ _ _ h => h) (.inl ⟨rfl, fun w hS => by obtain ⟨m1, m2⟩ := hS; go_simp⟩) H0 ?_
    simp only [Act.put, List.getElem_toArray, List.getElem_cons_succ, List.getElem_cons_zero, List.setIfInBounds_toArray, List.set_cons_zero, List.set_cons_succ]
    refine wpAnyH_ready (rs := [6, 10]) (by kernel_rfl) (by simp) ?_
    refine AllReadyH.cons rfl (fun KK hK => ?_) (AllReadyH.cons rfl (fun KK hK => ?_) AllReadyH.nil)
    · refine step_call rfl 33 #[.tmp 58, .tmp 61] #[9, 9] rfl #[.string (bs a3), .string (bs a4)] (by simp [Act.eval]) (enters_of Tryd.func33 (by kernel_rfl) rfl) ?_
      refine (C3.out w3.drew).mono ?_
      rintro r w3a ⟨rfl, b4⟩
      have b4 : Below w3.heap.size w3 w3a := ⟨b4.os, b4.tape, b4.output, b4.size, b4.block⟩
      have HP3a := Lib.hid (HP3.out.on b4)
      clear b4 H0
      refine ⟨_, rfl, hK.out _ _ ⟨HP3a.out.at_ (k := 3) rfl, HP3a.out.at_ (k := 4) rfl⟩ (fun _ => ?_)⟩
      clear hK KK
      simp only [Act.put, List.getElem_toArray, List.getElem_cons_succ, List.getElem_cons_zero, List.setIfInBounds_toArray, List.set_cons_zero, List.set_cons_succ]
      refine wpAnyH_take (i := 7) (v := .tuple #[.agg (reC N3 M3), .bool B3]) rfl (by kernel_rfl) (by kernel_rfl) (by kernel_rfl) (fun _ _ _ h => h) (.inl ⟨rfl, fun w hS => by go_simp⟩) ⟨HP3a.out.at_ (k := 3) rfl, HP3a.out.at_ (k := 4) rfl⟩ ?_
      simp only [Act.put, List.getElem_toArray, List.getElem_cons_succ, List.getElem_cons_zero, List.setIfInBounds_toArray, List.set_cons_zero, List.set_cons_succ]
      refine wpAnyH_take (i := 8) (v := .agg (reC N3 M3)) rfl (by kernel_rfl) (by kernel_rfl) (by kernel_rfl) (fun _ _ _ h => h) (.inl ⟨rfl, fun w hS => by go_simp⟩) ⟨HP3a.out.at_ (k := 3) rfl, HP3a.out.at_ (k := 4) rfl⟩ ?_
      simp only [Act.put, List.getElem_toArray, List.getElem_cons_succ, List.getElem_cons_zero, List.setIfInBounds_toArray, List.set_cons_zero, List.set_cons_succ]
      refine wpAnyH_take (i := 9) (v := .bool B3) rfl (by kernel_rfl) (by kernel_rfl) (by kernel_rfl) (fun _ _ _ h => h) (.inl ⟨rfl, fun w hS => by go_simp⟩) ⟨HP3a.out.at_ (k := 3) rfl, HP3a.out.at_ (k := 4) rfl⟩ ?_
      simp only [Act.put, List.getElem_toArray, List.getElem_cons_succ, List.getElem_cons_zero, List.setIfInBounds_toArray, List.set_cons_zero, List.set_cons_succ]
      refine wpAnyH_ready (rs := [10]) (by kernel_rfl) (by simp) ?_
      refine AllReadyH.cons rfl (fun KK hK => ?_) AllReadyH.nil
      go_simp
      have hn := HP3a.out.new (.cells (reC 0 0) 62)
      have bn := Blk.new w3a 62 (reC 0 0)
      have hv := HP3a.out.lt
      obtain ⟨V9, hV⟩ : ∃ V, w3a.heap.size = V := ⟨_, rfl⟩
      rw [hV] at bn hv ⊢
      unfold reC at bn hn
      generalize (w3a.alloc (.cells _ 62)) = w3b at bn hn ⊢
      have HP3b := Lib.hid hn
      have BN := Lib.hid bn
      clear bn hn hV
      refine hK.out _ _ ⟨HP3b.out.at_ (k := 3) rfl, HP3b.out.at_ (k := 4) rfl⟩ (fun _ => ?_)
      clear hK KK
      try simp only [Act.put, List.getElem_toArray, List.getElem_cons_succ, List.getElem_cons_zero, List.setIfInBounds_toArray, List.set_cons_zero, List.set_cons_succ]
      refine wpAnyH_ready (rs := [11]) (by kernel_rfl) (by simp) ?_
      refine AllReadyH.cons rfl (fun KK hK => ?_) AllReadyH.nil
      refine (if_pos (show Region.wanted _ _ = true by rfl)).mpr ?_
      refine wp_store_row 62 (.tmp 9) (.tmp 63) rfl V9 (reC N3 M3) rfl rfl 62 (reC 0 0) BN.out re_size rfl (re_one _ _) ?_
      have hn := HP3b.out.row hv (reC N3 M3)
      have bn : Blk (w3b.setRow V9 (reC N3 M3)) V9 62 (reC N3 M3) := setRow_heap _ _ _ _ _ _ BN.out
      generalize w3b.setRow V9 (reC N3 M3) = w3c at bn hn ⊢
      have HP3c := Lib.hid hn
      have BVV9 := Lib.hid bn
      clear bn hn BN HP3b
      refine hK.out _ _ ⟨HP3c.out.at_ (k := 3) rfl, HP3c.out.at_ (k := 4) rfl⟩ (fun _ => ?_)
      clear hK KK
      try simp only [Act.put, List.getElem_toArray, List.getElem_cons_succ, List.getElem_cons_zero, List.setIfInBounds_toArray, List.set_cons_zero, List.set_cons_succ]
      refine wpAnyH_take (i := 12) (v := .bool B3) rfl (by kernel_rfl) (by kernel_rfl) (by kernel_rfl) (fun _ _ _ h => h) (.inl ⟨rfl, fun w hS => by go_simp⟩) ⟨HP3c.out.at_ (k := 3) rfl, HP3c.out.at_ (k := 4) rfl⟩ ?_
      simp only [Act.put, List.getElem_toArray, List.getElem_cons_succ, List.getElem_cons_zero, List.setIfInBounds_toArray, List.set_cons_zero, List.set_cons_succ]
      refine wpAnyH_done (by kernel_rfl) ?_ _
      go_upto_region 9 with fail
      refine wp_region_held_drew (S := (fun W' : World => W'.cell? ⟨w.heap.size + 1, 6, none⟩ = some (.string (bs a6)) ∧ W'.cell? ⟨w.heap.size + 1, 7, none⟩ = some (.string (bs a7)))) (by kernel_rfl) ⟨HP3c.out.at_ (k := 6) rfl, HP3c.out.at_ (k := 7) rfl⟩ (fun H0 => ?_)
      refine wpAnyH_take (i := 0) (v := .slice (some ⟨w.heap.size + 1, 0, none⟩) 8 8) rfl (by kernel_rfl) (by kernel_rfl) (by kernel_rfl) (fun _ _ _ h => h) (.inl ⟨rfl, fun w hS => by go_simp⟩) H0 ?_
      simp only [Act.put, List.getElem_toArray, List.getElem_cons_zero, List.setIfInBounds_toArray, List.set_cons_zero, List.set_cons_succ]
      refine wpAnyH_take (i := 1) (v := .pointer (some ⟨w.heap.size + 1, 6, none⟩)) rfl (by kernel_rfl) (by kernel_rfl) (by kernel_rfl) (fun _ _ _ h => h) (.inl ⟨rfl, fun w hS => by go_simp⟩) H0 ?_
      simp only [Act.put, List.getElem_toArray, List.getElem_cons_succ, List.getElem_cons_zero, List.setIfInBounds_toArray, List.set_cons_zero, List.set_cons_succ]
      refine wpAnyH_take (i := 2) (v := .string (bs a6)) rfl (by kernel_rfl) (by kernel_rfl) (by kernel_rfl) (fun _ _ _ h => h) (.inl ⟨rfl, fun w hS => by obtain ⟨m1, m2⟩ := hS; go_simp⟩) H0 ?_
      simp only [Act.put, List.getElem_toArray, List.getElem_cons_succ, List.getElem_cons_zero, List.setIfInBounds_toArray, List.set_cons_zero, List.set_cons_succ]
      refine wpAnyH_take (i := 3) (v := .slice (some ⟨w.heap.size + 1, 0, none⟩) 8 8) rfl (by kernel_rfl) (by kernel_rfl) (by kernel_rfl) (fun _ _ _ h => h) (.inl ⟨rfl, fun w hS => by go_simp⟩) H0 ?_
      simp only [Act.put, List.getElem_toArray, List.getElem_cons_succ, List.getElem_cons_zero, List.setIfInBounds_toArray, List.set_cons_zero, List.set_cons_succ]
      refine wpAnyH_take (i := 4) (v := .pointer (some ⟨w.heap.size + 1, 7, none⟩)) rfl (by kernel_rfl) (by kernel_rfl) (by kernel_rfl) (fun _ _ _ h => h) (.inl ⟨rfl, fun w hS => by go_simp⟩) H0 ?_
      simp only [Act.put, List.getElem_toArray, List.getElem_cons_succ, List.getElem_cons_zero, List.setIfInBounds_toArray, List.set_cons_zero, List.set_cons_succ]
      refine wpAnyH_take (i := 5) (v := .string (bs a7)) rfl (by kernel_rfl) (by kernel_rfl) (by kernel_rfl) (fun _ _ _ h => h) (.inl ⟨rfl, fun w hS => by obtain ⟨m1, m2⟩ := hS; go_simp⟩) H0 ?_
      simp only [Act.put, List.getElem_toArray, List.getElem_cons_succ, List.getElem_cons_zero, List.setIfInBounds_toArray, List.set_cons_zero, List.set_cons_succ]
      refine wpAnyH_ready (rs := [6, 10]) (by kernel_rfl) (by simp) ?_
      refine AllReadyH.cons rfl (fun KK hK => ?_) (AllReadyH.cons rfl (fun KK hK => ?_) AllReadyH.nil)
      · refine step_call rfl 33 #[.tmp 68, .tmp 71] #[9, 9] rfl #[.string (bs a6), .string (bs a7)] (by simp [Act.eval]) (enters_of Tryd.func33 (by kernel_rfl) rfl) ?_
        refine (C4.out w3c.drew).mono ?_
        rintro r w3ca ⟨rfl, b4⟩
        have b4 : Below w3c.heap.size w3c w3ca := ⟨b4.os, b4.tape, b4.output, b4.size, b4.block⟩
        have HP3ca := Lib.hid (HP3c.out.on b4)
        have BVV9a := Lib.hid (BVV9.out.on b4)
        clear b4 H0
        refine ⟨_, rfl, hK.out _ _ ⟨HP3ca.out.at_ (k := 6) rfl, HP3ca.out.at_ (k := 7) rfl⟩ (fun _ => ?_)⟩
        clear hK KK
        simp only [Act.put, List.getElem_toArray, List.getElem_cons_succ, List.getElem_cons_zero, List.setIfInBounds_toArray, List.set_cons_zero, List.set_cons_succ]
        refine wpAnyH_take (i := 7) (v := .tuple #[.agg (reC N4 M4), .bool B4]) rfl (by kernel_rfl) (by kernel_rfl) (by kernel_rfl) (fun _ _ _ h => h) (.inl ⟨rfl, fun w hS => by go_simp⟩) ⟨HP3ca.out.at_ (k := 6) rfl, HP3ca.out.at_ (k := 7) rfl⟩ ?_
        simp only [Act.put, List.getElem_toArray, List.getElem_cons_succ, List.getElem_cons_zero, List.setIfInBounds_toArray, List.set_cons_zero, List.set_cons_succ]
        refine wpAnyH_take (i := 8) (v := .agg (reC N4 M4)) rfl (by kernel_rfl) (by kernel_rfl) (by kernel_rfl) (fun _ _ _ h => h) (.inl ⟨rfl, fun w hS => by go_simp⟩) ⟨HP3ca.out.at_ (k := 6) rfl, HP3ca.out.at_ (k := 7) rfl⟩ ?_
        simp only [Act.put, List.getElem_toArray, List.getElem_cons_succ, List.getElem_cons_zero, List.setIfInBounds_toArray, List.set_cons_zero, List.set_cons_succ]
        refine wpAnyH_take (i := 9) (v := .bool B4) rfl (by kernel_rfl) (by kernel_rfl) (by kernel_rfl) (fun _ _ _ h => h) (.inl ⟨rfl, fun w hS => by go_simp⟩) ⟨HP3ca.out.at_ (k := 6) rfl, HP3ca.out.at_ (k := 7) rfl⟩ ?_
        simp only [Act.put, List.getElem_toArray, List.getElem_cons_succ, List.getElem_cons_zero, List.setIfInBounds_toArray, List.set_cons_zero, List.set_cons_succ]
        refine wpAnyH_ready (rs := [10]) (by kernel_rfl) (by simp) ?_
        refine AllReadyH.cons rfl (fun KK hK => ?_) AllReadyH.nil
        go_simp
        have hn := HP3ca.out.new (.cells (reC 0 0) 62)
        have bn := Blk.new w3ca 62 (reC 0 0)
        have hv := HP3ca.out.lt
        have hxBVV9 := BVV9a.out.alloc (.cells (reC 0 0) 62)
        have hltBVV9 := BVV9a.out.lt
        obtain ⟨V11, hV⟩ : ∃ V, w3ca.heap.size = V := ⟨_, rfl⟩
        rw [hV] at bn hv hltBVV9 ⊢
        unfold reC at bn hn hxBVV9
        generalize (w3ca.alloc (.cells _ 62)) = w3cb at bn hn hxBVV9 ⊢
        have HP3cb := Lib.hid hn
        have BN := Lib.hid bn
        have BVV9b := Lib.hid hxBVV9
        clear bn hn hV hxBVV9
        refine hK.out _ _ ⟨HP3cb.out.at_ (k := 6) rfl, HP3cb.out.at_ (k := 7) rfl⟩ (fun _ => ?_)
        clear hK KK
        try simp only [Act.put, List.getElem_toArray, List.getElem_cons_succ, List.getElem_cons_zero, List.setIfInBounds_toArray, List.set_cons_zero, List.set_cons_succ]
        refine wpAnyH_ready (rs := [11]) (by kernel_rfl) (by simp) ?_
        refine AllReadyH.cons rfl (fun KK hK => ?_) AllReadyH.nil
        refine (if_pos (show Region.wanted _ _ = true by rfl)).mpr ?_
        refine wp_store_row 62 (.tmp 11) (.tmp 73) rfl V11 (reC N4 M4) rfl rfl 62 (reC 0 0) BN.out re_size rfl (re_one _ _) ?_
        have hn := HP3cb.out.row hv (reC N4 M4)
        have bn : Blk (w3cb.setRow V11 (reC N4 M4)) V11 62 (reC N4 M4) := setRow_heap _ _ _ _ _ _ BN.out
        have hxBVV9 : Blk (w3cb.setRow V11 (reC N4 M4)) V9 62 (reC N3 M3) := (setRow_other w3cb V11 _ _ (by omega)).trans BVV9b.out
        generalize w3cb.setRow V11 (reC N4 M4) = w3cc at bn hn hxBVV9 ⊢
        have HP3cc := Lib.hid hn
        have BVV11 := Lib.hid bn
        have BVV9c := Lib.hid hxBVV9
        clear bn hn BN HP3cb BVV9b hxBVV9
        refine hK.out _ _ ⟨HP3cc.out.at_ (k := 6) rfl, HP3cc.out.at_ (k := 7) rfl⟩ (fun _ => ?_)
        clear hK KK
        try simp only [Act.put, List.getElem_toArray, List.getElem_cons_succ, List.getElem_cons_zero, List.setIfInBounds_toArray, List.set_cons_zero, List.set_cons_succ]
        refine wpAnyH_take (i := 12) (v := .bool B4) rfl (by kernel_rfl) (by kernel_rfl) (by kernel_rfl) (fun _ _ _ h => h) (.inl ⟨rfl, fun w hS => by go_simp⟩) ⟨HP3cc.out.at_ (k := 6) rfl, HP3cc.out.at_ (k := 7) rfl⟩ ?_
        simp only [Act.put, List.getElem_toArray, List.getElem_cons_succ, List.getElem_cons_zero, List.setIfInBounds_toArray, List.set_cons_zero, List.set_cons_succ]
        refine wpAnyH_done (by kernel_rfl) ?_ _
        by_cases hall : (B1 && B2 && B3 && B4) = true
        · obtain ⟨⟨⟨b1, b2⟩, b3⟩, b4⟩ : ((B1 = true ∧ B2 = true) ∧ B3 = true) ∧ B4 = true := by simpa using hall
          have hso := HO.out
          rw [hall] at hso
          obtain ⟨x, hx⟩ := Option.isSome_iff_exists.1 hso
          have hxe := HQ.out x hx
          have HR := Lib.hid (HRS.out x hx)
          have HXE := Lib.hid hxe
          clear hall hso hx hxe
          go_upto_region 12 with fail
          have v0 := BVV9c.out.cell 0
          have v1 := BVV9c.out.cell 1
          have u0 := BVV11.out.cell 0
          have u1 := BVV11.out.cell 1
          unfold reC at v0 v1 u0 u1
          simp only [List.getElem?_toArray, List.getElem?_cons_zero, List.getElem?_cons_succ] at v0 v1 u0 u1
          have x0 := HP3cc.out.at_ (k := 0) rfl
          refine wp_region_held_drew (S := (fun W' : World => W'.cell? ⟨V9, 0, none⟩ = some (.int .i64 N3) ∧ W'.cell? ⟨V9, 1, none⟩ = some (.int .i64 M3) ∧ W'.cell? ⟨V11, 0, none⟩ = some (.int .i64 N4) ∧ W'.cell? ⟨V11, 1, none⟩ = some (.int .i64 M4) ∧ W'.cell? ⟨w.heap.size + 1, 0, none⟩ = some (.string (bs a0)))) (by kernel_rfl) ⟨v0, v1, u0, u1, x0⟩ (fun H0 => ?_)
          refine wpAnyH_take (i := 0) (v := .int .i64 N1) rfl (by kernel_rfl) (by kernel_rfl) (by kernel_rfl) (fun _ _ _ h => h) (.inl ⟨rfl, fun w hS => by go_simp⟩) H0 ?_
          simp only [Act.put, List.getElem_toArray, List.getElem_cons_zero, List.setIfInBounds_toArray, List.set_cons_zero, List.set_cons_succ]
          refine wpAnyH_take (i := 1) (v := .int .i64 N2) rfl (by kernel_rfl) (by kernel_rfl) (by kernel_rfl) (fun _ _ _ h => h) (.inl ⟨rfl, fun w hS => by go_simp⟩) H0 ?_
          simp only [Act.put, List.getElem_toArray, List.getElem_cons_succ, List.getElem_cons_zero, List.setIfInBounds_toArray, List.set_cons_zero, List.set_cons_succ]
          refine wpAnyH_take (i := 2) (v := .pointer (some ⟨V9, 0, none⟩)) rfl (by kernel_rfl) (by kernel_rfl) (by kernel_rfl) (fun _ _ _ h => h) (.inl ⟨rfl, fun w hS => by go_simp⟩) H0 ?_
          simp only [Act.put, List.getElem_toArray, List.getElem_cons_succ, List.getElem_cons_zero, List.setIfInBounds_toArray, List.set_cons_zero, List.set_cons_succ]
          refine wpAnyH_take (i := 3) (v := .int .i64 N3) rfl (by kernel_rfl) (by kernel_rfl) (by kernel_rfl) (fun _ _ _ h => h) (.inl ⟨rfl, fun w hS => by obtain ⟨m1, m2, m3, m4, m5⟩ := hS; go_simp⟩) H0 ?_
          simp only [Act.put, List.getElem_toArray, List.getElem_cons_succ, List.getElem_cons_zero, List.setIfInBounds_toArray, List.set_cons_zero, List.set_cons_succ]
          refine wpAnyH_take (i := 4) (v := .pointer (some ⟨V9, 1, none⟩)) rfl (by kernel_rfl) (by kernel_rfl) (by kernel_rfl) (fun _ _ _ h => h) (.inl ⟨rfl, fun w hS => by go_simp⟩) H0 ?_
          simp only [Act.put, List.getElem_toArray, List.getElem_cons_succ, List.getElem_cons_zero, List.setIfInBounds_toArray, List.set_cons_zero, List.set_cons_succ]
          refine wpAnyH_take (i := 5) (v := .int .i64 M3) rfl (by kernel_rfl) (by kernel_rfl) (by kernel_rfl) (fun _ _ _ h => h) (.inl ⟨rfl, fun w hS => by obtain ⟨m1, m2, m3, m4, m5⟩ := hS; go_simp⟩) H0 ?_
          simp only [Act.put, List.getElem_toArray, List.getElem_cons_succ, List.getElem_cons_zero, List.setIfInBounds_toArray, List.set_cons_zero, List.set_cons_succ]
          refine wpAnyH_take (i := 6) (v := .agg #[.int .i64 N1, .int .i64 N2, .int .i64 N3, .int .i64 M3]) rfl (by kernel_rfl) (by kernel_rfl) (by kernel_rfl) (fun _ _ _ h => h) (.inl ⟨rfl, fun w hS => by go_simp⟩) H0 ?_
          simp only [Act.put, List.getElem_toArray, List.getElem_cons_succ, List.getElem_cons_zero, List.setIfInBounds_toArray, List.set_cons_zero, List.set_cons_succ]
          refine wpAnyH_take (i := 7) (v := .int .i64 N2) rfl (by kernel_rfl) (by kernel_rfl) (by kernel_rfl) (fun _ _ _ h => h) (.inl ⟨rfl, fun w hS => by go_simp⟩) H0 ?_
          simp only [Act.put, List.getElem_toArray, List.getElem_cons_succ, List.getElem_cons_zero, List.setIfInBounds_toArray, List.set_cons_zero, List.set_cons_succ]
          refine wpAnyH_take (i := 8) (v := .pointer (some ⟨V11, 0, none⟩)) rfl (by kernel_rfl) (by kernel_rfl) (by kernel_rfl) (fun _ _ _ h => h) (.inl ⟨rfl, fun w hS => by go_simp⟩) H0 ?_
          simp only [Act.put, List.getElem_toArray, List.getElem_cons_succ, List.getElem_cons_zero, List.setIfInBounds_toArray, List.set_cons_zero, List.set_cons_succ]
          refine wpAnyH_take (i := 9) (v := .int .i64 N4) rfl (by kernel_rfl) (by kernel_rfl) (by kernel_rfl) (fun _ _ _ h => h) (.inl ⟨rfl, fun w hS => by obtain ⟨m1, m2, m3, m4, m5⟩ := hS; go_simp⟩) H0 ?_
          simp only [Act.put, List.getElem_toArray, List.getElem_cons_succ, List.getElem_cons_zero, List.setIfInBounds_toArray, List.set_cons_zero, List.set_cons_succ]
          refine wpAnyH_take (i := 10) (v := .pointer (some ⟨V11, 1, none⟩)) rfl (by kernel_rfl) (by kernel_rfl) (by kernel_rfl) (fun _ _ _ h => h) (.inl ⟨rfl, fun w hS => by go_simp⟩) H0 ?_
          simp only [Act.put, List.getElem_toArray, List.getElem_cons_succ, List.getElem_cons_zero, List.setIfInBounds_toArray, List.set_cons_zero, List.set_cons_succ]
          refine wpAnyH_take (i := 11) (v := .int .i64 M4) rfl (by kernel_rfl) (by kernel_rfl) (by kernel_rfl) (fun _ _ _ h => h) (.inl ⟨rfl, fun w hS => by obtain ⟨m1, m2, m3, m4, m5⟩ := hS; go_simp⟩) H0 ?_
          simp only [Act.put, List.getElem_toArray, List.getElem_cons_succ, List.getElem_cons_zero, List.setIfInBounds_toArray, List.set_cons_zero, List.set_cons_succ]
          refine wpAnyH_take (i := 12) (v := .agg #[.int .i64 N2, .int .i64 N4, .int .i64 M4]) rfl (by kernel_rfl) (by kernel_rfl) (by kernel_rfl) (fun _ _ _ h => h) (.inl ⟨rfl, fun w hS => by go_simp⟩) H0 ?_
          simp only [Act.put, List.getElem_toArray, List.getElem_cons_succ, List.getElem_cons_zero, List.setIfInBounds_toArray, List.set_cons_zero, List.set_cons_succ]
          refine wpAnyH_take (i := 13) (v := .slice (some ⟨w.heap.size + 1, 0, none⟩) 8 8) rfl (by kernel_rfl) (by kernel_rfl) (by kernel_rfl) (fun _ _ _ h => h) (.inl ⟨rfl, fun w hS => by go_simp⟩) H0 ?_
          simp only [Act.put, List.getElem_toArray, List.getElem_cons_succ, List.getElem_cons_zero, List.setIfInBounds_toArray, List.set_cons_zero, List.set_cons_succ]
          refine wpAnyH_take (i := 14) (v := .pointer (some ⟨w.heap.size + 1, 0, none⟩)) rfl (by kernel_rfl) (by kernel_rfl) (by kernel_rfl) (fun _ _ _ h => h) (.inl ⟨rfl, fun w hS => by go_simp⟩) H0 ?_
          simp only [Act.put, List.getElem_toArray, List.getElem_cons_succ, List.getElem_cons_zero, List.setIfInBounds_toArray, List.set_cons_zero, List.set_cons_succ]
          refine wpAnyH_take (i := 15) (v := .string (bs a0)) rfl (by kernel_rfl) (by kernel_rfl) (by kernel_rfl) (fun _ _ _ h => h) (.inl ⟨rfl, fun w hS => by obtain ⟨m1, m2, m3, m4, m5⟩ := hS; go_simp⟩) H0 ?_
          simp only [Act.put, List.getElem_toArray, List.getElem_cons_succ, List.getElem_cons_zero, List.setIfInBounds_toArray, List.set_cons_zero, List.set_cons_succ]
          refine wpAnyH_take (i := 16) (v := .bool false) rfl (by kernel_rfl) (by kernel_rfl) (by kernel_rfl) (fun _ _ _ h => h) (.inl ⟨rfl, fun w hS => by go_simp⟩) H0 ?_
          simp only [Act.put, List.getElem_toArray, List.getElem_cons_succ, List.getElem_cons_zero, List.setIfInBounds_toArray, List.set_cons_zero, List.set_cons_succ]
          refine wpAnyH_take (i := 17) (v := .agg (bdC ((N1, N2, N3, M3), (N2, N4, M4), false))) rfl (by kernel_rfl) (by kernel_rfl) (by kernel_rfl) (fun _ _ _ h => h) (.inl ⟨rfl, fun w hS => by go_simp; first | done | rfl⟩) H0 ?_
          simp only [Act.put, List.getElem_toArray, List.getElem_cons_succ, List.getElem_cons_zero, List.setIfInBounds_toArray, List.set_cons_zero, List.set_cons_succ]
          refine wpAnyH_ready (rs := [18]) (by kernel_rfl) (by simp) ?_
          refine AllReadyH.cons rfl (fun KK hK => ?_) AllReadyH.nil
          refine (if_pos (show Region.wanted _ _ = true by rfl)).mpr ?_
          refine wp_store_row 28 (.tmp 2) (.tmp 107) rfl w.heap.size (bdC ((N1, N2, N3, M3), (N2, N4, M4), false)) rfl rfl 28 (bdC zeroB) HP3cc.out.1 bd_size rfl (bd_one _) ?_
          have hlt9 := HP3cc.out.lt
          have hfar : ∀ (p : Addr), w.heap.size ≠ p.block → (w3cc.drew.setRow w.heap.size (bdC ((N1, N2, N3, M3), (N2, N4, M4), false))).cell? p = w3cc.cell? p := fun p hp => World.cell?_of_block (setRow_other w3cc.drew w.heap.size _ _ (Ne.symm hp))
          have hS' := (⟨(hfar ⟨V9, 0, none⟩ (by simp only; omega)).trans v0, (hfar ⟨V9, 1, none⟩ (by simp only; omega)).trans v1, (hfar ⟨V11, 0, none⟩ (by simp only; omega)).trans u0, (hfar ⟨V11, 1, none⟩ (by simp only; omega)).trans u1, (hfar ⟨w.heap.size + 1, 0, none⟩ (by simp only; omega)).trans x0⟩ : (fun W' : World => W'.cell? ⟨V9, 0, none⟩ = some (.int .i64 N3) ∧ W'.cell? ⟨V9, 1, none⟩ = some (.int .i64 M3) ∧ W'.cell? ⟨V11, 0, none⟩ = some (.int .i64 N4) ∧ W'.cell? ⟨V11, 1, none⟩ = some (.int .i64 M4) ∧ W'.cell? ⟨w.heap.size + 1, 0, none⟩ = some (.string (bs a0))) (w3cc.drew.setRow w.heap.size (bdC ((N1, N2, N3, M3), (N2, N4, M4), false))))
          refine hK.out _ _ hS' (fun _ => ?_)
          clear hK KK
          try simp only [Act.put, List.getElem_toArray, List.getElem_cons_succ, List.getElem_cons_zero, List.setIfInBounds_toArray, List.set_cons_zero, List.set_cons_succ]
          refine wpAnyH_take (i := 19) (v := .int .i64 0) rfl (by kernel_rfl) (by kernel_rfl) (by kernel_rfl) (fun _ _ _ h => h) (.inl ⟨rfl, fun w hS => by go_simp⟩) hS' ?_
          simp only [Act.put, List.getElem_toArray, List.getElem_cons_succ, List.getElem_cons_zero, List.setIfInBounds_toArray, List.set_cons_zero, List.set_cons_succ]
          refine wpAnyH_done (by kernel_rfl) ?_ _
          go_wp2_with fail
          refine read_ret (w := w) (q := ((N1, N2, N3, M3), (N2, N4, M4), false)) (z := 0) rfl rfl rfl (setRow_heap _ _ _ _ _ _ HP3cc.out.1) ⟨by rw [HR.out, HXE.out], below_setRow HP3cc.out.2.2.drew (Nat.le_refl _) _⟩
        · have hso := HO.out
          have hon : O = none := by
            cases O with
            | none => rfl
            | some x => exact absurd hso.symm hall
          have HR := Lib.hid (HRN.out hon)
          clear hso hon
          go_upto_region 10 with fail
          go_wp2_with (refine wpList_store_row rfl 28 (.tmp 2) (.tmp 89) rfl w.heap.size (bdC zeroB) rfl rfl 28 (bdC zeroB) HP3cc.out.1 bd_size rfl (bd_one _) ?_)
          all_goals first
            | (exfalso; apply hall; simp only [Bool.and_eq_true]; refine ⟨⟨⟨?_, ?_⟩, ?_⟩, ?_⟩ <;> first | assumption | exact of_not (by assumption))
            | (refine read_ret (w := w) (q := zeroB) (z := 13) rfl rfl rfl (setRow_heap _ _ _ _ _ _ HP3cc.out.1) ⟨by rw [HR.out], below_setRow HP3cc.out.2.2 (Nat.le_refl _) _⟩)
      · go_simp
        have hn := HP3c.out.new (.cells (reC 0 0) 62)
        have bn := Blk.new w3c 62 (reC 0 0)
        have hv := HP3c.out.lt
        have hxBVV9 := BVV9.out.alloc (.cells (reC 0 0) 62)
        have hltBVV9 := BVV9.out.lt
        obtain ⟨V11, hV⟩ : ∃ V, w3c.heap.size = V := ⟨_, rfl⟩
        rw [hV] at bn hv hltBVV9 ⊢
        obtain ⟨w3ca, hw4⟩ : ∃ W, (w3c.alloc (.cells (reC 0 0) 62)).drew = W := ⟨_, rfl⟩
        have bn : Blk w3ca V11 62 (reC 0 0) := by rw [← hw4]; exact bn
        have hn : PB w [a0, a1, a2, a3, a4, a5, a6, a7] w3ca := by rw [← hw4]; exact ⟨hn.1, hn.2.1, hn.2.2.drew⟩
        have hxBVV9 : Blk w3ca V9 62 (reC N3 M3) := by rw [← hw4]; exact hxBVV9
        unfold reC at hw4 bn hxBVV9
        rw [hw4]
        have HP3ca := Lib.hid hn
        have BN0 := Lib.hid bn
        have BVV9a := Lib.hid hxBVV9
        clear bn hn hV hw4 H0 hxBVV9
        refine hK.out _ _ ⟨HP3ca.out.at_ (k := 6) rfl, HP3ca.out.at_ (k := 7) rfl⟩ (fun _ => ?_)
        clear hK KK
        try simp only [Act.put, List.getElem_toArray, List.getElem_cons_succ, List.getElem_cons_zero, List.setIfInBounds_toArray, List.set_cons_zero, List.set_cons_succ]
        refine wpAnyH_ready (rs := [6]) (by kernel_rfl) (by simp) ?_
        refine AllReadyH.cons rfl (fun KK hK => ?_) AllReadyH.nil
        refine step_call rfl 33 #[.tmp 68, .tmp 71] #[9, 9] rfl #[.string (bs a6), .string (bs a7)] (by simp [Act.eval]) (enters_of Tryd.func33 (by kernel_rfl) rfl) ?_
        refine (C4.out _).mono ?_
        rintro r w3cb ⟨rfl, b4⟩
        have HP3cb := Lib.hid (HP3ca.out.on b4)
        have BN := Lib.hid (BN0.out.on b4)
        have BVV9b := Lib.hid (BVV9a.out.on b4)
        clear b4
        refine ⟨_, rfl, hK.out _ _ ⟨HP3cb.out.at_ (k := 6) rfl, HP3cb.out.at_ (k := 7) rfl⟩ (fun _ => ?_)⟩
        clear hK KK
        simp only [Act.put, List.getElem_toArray, List.getElem_cons_succ, List.getElem_cons_zero, List.setIfInBounds_toArray, List.set_cons_zero, List.set_cons_succ]
        refine wpAnyH_take (i := 7) (v := .tuple #[.agg (reC N4 M4), .bool B4]) rfl (by kernel_rfl) (by kernel_rfl) (by kernel_rfl) (fun _ _ _ h => h) (.inl ⟨rfl, fun w hS => by go_simp⟩) ⟨HP3cb.out.at_ (k := 6) rfl, HP3cb.out.at_ (k := 7) rfl⟩ ?_
        simp only [Act.put, List.getElem_toArray, List.getElem_cons_succ, List.getElem_cons_zero, List.setIfInBounds_toArray, List.set_cons_zero, List.set_cons_succ]
        refine wpAnyH_take (i := 8) (v := .agg (reC N4 M4)) rfl (by kernel_rfl) (by kernel_rfl) (by kernel_rfl) (fun _ _ _ h => h) (.inl ⟨rfl, fun w hS => by go_simp⟩) ⟨HP3cb.out.at_ (k := 6) rfl, HP3cb.out.at_ (k := 7) rfl⟩ ?_
        simp only [Act.put, List.getElem_toArray, List.getElem_cons_succ, List.getElem_cons_zero, List.setIfInBounds_toArray, List.set_cons_zero, List.set_cons_succ]
        refine wpAnyH_take (i := 9) (v := .bool B4) rfl (by kernel_rfl) (by kernel_rfl) (by kernel_rfl) (fun _ _ _ h => h) (.inl ⟨rfl, fun w hS => by go_simp⟩) ⟨HP3cb.out.at_ (k := 6) rfl, HP3cb.out.at_ (k := 7) rfl⟩ ?_
        simp only [Act.put, List.getElem_toArray, List.getElem_cons_succ, List.getElem_cons_zero, List.setIfInBounds_toArray, List.set_cons_zero, List.set_cons_succ]
        refine wpAnyH_ready (rs := [11]) (by kernel_rfl) (by simp) ?_
        refine AllReadyH.cons rfl (fun KK hK => ?_) AllReadyH.nil
        refine (if_pos (show Region.wanted _ _ = true by rfl)).mpr ?_
        refine wp_store_row 62 (.tmp 11) (.tmp 73) rfl V11 (reC N4 M4) rfl rfl 62 (reC 0 0) BN.out re_size rfl (re_one _ _) ?_
        have hn := HP3cb.out.row hv (reC N4 M4)
        have bn : Blk (w3cb.setRow V11 (reC N4 M4)) V11 62 (reC N4 M4) := setRow_heap _ _ _ _ _ _ BN.out
        have hxBVV9 : Blk (w3cb.setRow V11 (reC N4 M4)) V9 62 (reC N3 M3) := (setRow_other w3cb V11 _ _ (by omega)).trans BVV9b.out
        generalize w3cb.setRow V11 (reC N4 M4) = w3cc at bn hn hxBVV9 ⊢
        have HP3cc := Lib.hid hn
        have BVV11 := Lib.hid bn
        have BVV9c := Lib.hid hxBVV9
        clear bn hn BN HP3cb BVV9b hxBVV9
        refine hK.out _ _ ⟨HP3cc.out.at_ (k := 6) rfl, HP3cc.out.at_ (k := 7) rfl⟩ (fun _ => ?_)
        clear hK KK
        try simp only [Act.put, List.getElem_toArray, List.getElem_cons_succ, List.getElem_cons_zero, List.setIfInBounds_toArray, List.set_cons_zero, List.set_cons_succ]
        refine wpAnyH_take (i := 12) (v := .bool B4) rfl (by kernel_rfl) (by kernel_rfl) (by kernel_rfl) (fun _ _ _ h => h) (.inl ⟨rfl, fun w hS => by go_simp⟩) ⟨HP3cc.out.at_ (k := 6) rfl, HP3cc.out.at_ (k := 7) rfl⟩ ?_
        simp only [Act.put, List.getElem_toArray, List.getElem_cons_succ, List.getElem_cons_zero, List.setIfInBounds_toArray, List.set_cons_zero, List.set_cons_succ]
        refine wpAnyH_done (by kernel_rfl) ?_ _
        by_cases hall : (B1 && B2 && B3 && B4) = true
        · obtain ⟨⟨⟨b1, b2⟩, b3⟩, b4⟩ : ((B1 = true ∧ B2 = true) ∧ B3 = true) ∧ B4 = true := by simpa using hall
          have hso := HO.out
          rw [hall] at hso
          obtain ⟨x, hx⟩ := Option.isSome_iff_exists.1 hso
          have hxe := HQ.out x hx
          have HR := Lib.hid (HRS.out x hx)
          have HXE := Lib.hid hxe
          clear hall hso hx hxe
          go_upto_region 12 with fail
          have v0 := BVV9c.out.cell 0
          have v1 := BVV9c.out.cell 1
          have u0 := BVV11.out.cell 0
          have u1 := BVV11.out.cell 1
          unfold reC at v0 v1 u0 u1
          simp only [List.getElem?_toArray, List.getElem?_cons_zero, List.getElem?_cons_succ] at v0 v1 u0 u1
          have x0 := HP3cc.out.at_ (k := 0) rfl
          refine wp_region_held_drew (S := (fun W' : World => W'.cell? ⟨V9, 0, none⟩ = some (.int .i64 N3) ∧ W'.cell? ⟨V9, 1, none⟩ = some (.int .i64 M3) ∧ W'.cell? ⟨V11, 0, none⟩ = some (.int .i64 N4) ∧ W'.cell? ⟨V11, 1, none⟩ = some (.int .i64 M4) ∧ W'.cell? ⟨w.heap.size + 1, 0, none⟩ = some (.string (bs a0)))) (by kernel_rfl) ⟨v0, v1, u0, u1, x0⟩ (fun H0 => ?_)
          refine wpAnyH_take (i := 0) (v := .int .i64 N1) rfl (by kernel_rfl) (by kernel_rfl) (by kernel_rfl) (fun _ _ _ h => h) (.inl ⟨rfl, fun w hS => by go_simp⟩) H0 ?_
          simp only [Act.put, List.getElem_toArray, List.getElem_cons_zero, List.setIfInBounds_toArray, List.set_cons_zero, List.set_cons_succ]
          refine wpAnyH_take (i := 1) (v := .int .i64 N2) rfl (by kernel_rfl) (by kernel_rfl) (by kernel_rfl) (fun _ _ _ h => h) (.inl ⟨rfl, fun w hS => by go_simp⟩) H0 ?_
          simp only [Act.put, List.getElem_toArray, List.getElem_cons_succ, List.getElem_cons_zero, List.setIfInBounds_toArray, List.set_cons_zero, List.set_cons_succ]
          refine wpAnyH_take (i := 2) (v := .pointer (some ⟨V9, 0, none⟩)) rfl (by kernel_rfl) (by kernel_rfl) (by kernel_rfl) (fun _ _ _ h => h) (.inl ⟨rfl, fun w hS => by go_simp⟩) H0 ?_
          simp only [Act.put, List.getElem_toArray, List.getElem_cons_succ, List.getElem_cons_zero, List.setIfInBounds_toArray, List.set_cons_zero, List.set_cons_succ]
          refine wpAnyH_take (i := 3) (v := .int .i64 N3) rfl (by kernel_rfl) (by kernel_rfl) (by kernel_rfl) (fun _ _ _ h => h) (.inl ⟨rfl, fun w hS => by obtain ⟨m1, m2, m3, m4, m5⟩ := hS; go_simp⟩) H0 ?_
          simp only [Act.put, List.getElem_toArray, List.getElem_cons_succ, List.getElem_cons_zero, List.setIfInBounds_toArray, List.set_cons_zero, List.set_cons_succ]
          refine wpAnyH_take (i := 4) (v := .pointer (some ⟨V9, 1, none⟩)) rfl (by kernel_rfl) (by kernel_rfl) (by kernel_rfl) (fun _ _ _ h => h) (.inl ⟨rfl, fun w hS => by go_simp⟩) H0 ?_
          simp only [Act.put, List.getElem_toArray, List.getElem_cons_succ, List.getElem_cons_zero, List.setIfInBounds_toArray, List.set_cons_zero, List.set_cons_succ]
          refine wpAnyH_take (i := 5) (v := .int .i64 M3) rfl (by kernel_rfl) (by kernel_rfl) (by kernel_rfl) (fun _ _ _ h => h) (.inl ⟨rfl, fun w hS => by obtain ⟨m1, m2, m3, m4, m5⟩ := hS; go_simp⟩) H0 ?_
          simp only [Act.put, List.getElem_toArray, List.getElem_cons_succ, List.getElem_cons_zero, List.setIfInBounds_toArray, List.set_cons_zero, List.set_cons_succ]
          refine wpAnyH_take (i := 6) (v := .agg #[.int .i64 N1, .int .i64 N2, .int .i64 N3, .int .i64 M3]) rfl (by kernel_rfl) (by kernel_rfl) (by kernel_rfl) (fun _ _ _ h => h) (.inl ⟨rfl, fun w hS => by go_simp⟩) H0 ?_
          simp only [Act.put, List.getElem_toArray, List.getElem_cons_succ, List.getElem_cons_zero, List.setIfInBounds_toArray, List.set_cons_zero, List.set_cons_succ]
          refine wpAnyH_take (i := 7) (v := .int .i64 N2) rfl (by kernel_rfl) (by kernel_rfl) (by kernel_rfl) (fun _ _ _ h => h) (.inl ⟨rfl, fun w hS => by go_simp⟩) H0 ?_
          simp only [Act.put, List.getElem_toArray, List.getElem_cons_succ, List.getElem_cons_zero, List.setIfInBounds_toArray, List.set_cons_zero, List.set_cons_succ]
          refine wpAnyH_take (i := 8) (v := .pointer (some ⟨V11, 0, none⟩)) rfl (by kernel_rfl) (by kernel_rfl) (by kernel_rfl) (fun _ _ _ h => h) (.inl ⟨rfl, fun w hS => by go_simp⟩) H0 ?_
          simp only [Act.put, List.getElem_toArray, List.getElem_cons_succ, List.getElem_cons_zero, List.setIfInBounds_toArray, List.set_cons_zero, List.set_cons_succ]
          refine wpAnyH_take (i := 9) (v := .int .i64 N4) rfl (by kernel_rfl) (by kernel_rfl) (by kernel_rfl) (fun _ _ _ h => h) (.inl ⟨rfl, fun w hS => by obtain ⟨m1, m2, m3, m4, m5⟩ := hS; go_simp⟩) H0 ?_
          simp only [Act.put, List.getElem_toArray, List.getElem_cons_succ, List.getElem_cons_zero, List.setIfInBounds_toArray, List.set_cons_zero, List.set_cons_succ]
          refine wpAnyH_take (i := 10) (v := .pointer (some ⟨V11, 1, none⟩)) rfl (by kernel_rfl) (by kernel_rfl) (by kernel_rfl) (fun _ _ _ h => h) (.inl ⟨rfl, fun w hS => by go_simp⟩) H0 ?_
          simp only [Act.put, List.getElem_toArray, List.getElem_cons_succ, List.getElem_cons_zero, List.setIfInBounds_toArray, List.set_cons_zero, List.set_cons_succ]
          refine wpAnyH_take (i := 11) (v := .int .i64 M4) rfl (by kernel_rfl) (by kernel_rfl) (by kernel_rfl) (fun _ _ _ h => h) (.inl ⟨rfl, fun w hS => by obtain ⟨m1, m2, m3, m4, m5⟩ := hS; go_simp⟩) H0 ?_
          simp only [Act.put, List.getElem_toArray, List.getElem_cons_succ, List.getElem_cons_zero, List.setIfInBounds_toArray, List.set_cons_zero, List.set_cons_succ]
          refine wpAnyH_take (i := 12) (v := .agg #[.int .i64 N2, .int .i64 N4, .int .i64 M4]) rfl (by kernel_rfl) (by kernel_rfl) (by kernel_rfl) (fun _ _ _ h => h) (.inl ⟨rfl, fun w hS => by go_simp⟩) H0 ?_
          simp only [Act.put, List.getElem_toArray, List.getElem_cons_succ, List.getElem_cons_zero, List.setIfInBounds_toArray, List.set_cons_zero, List.set_cons_succ]
          refine wpAnyH_take (i := 13) (v := .slice (some ⟨w.heap.size + 1, 0, none⟩) 8 8) rfl (by kernel_rfl) (by kernel_rfl) (by kernel_rfl) (fun _ _ _ h => h) (.inl ⟨rfl, fun w hS => by go_simp⟩) H0 ?_
          simp only [Act.put, List.getElem_toArray, List.getElem_cons_succ, List.getElem_cons_zero, List.setIfInBounds_toArray, List.set_cons_zero, List.set_cons_succ]
          refine wpAnyH_take (i := 14) (v := .pointer (some ⟨w.heap.size + 1, 0, none⟩)) rfl (by kernel_rfl) (by kernel_rfl) (by kernel_rfl) (fun _ _ _ h => h) (.inl ⟨rfl, fun w hS => by go_simp⟩) H0 ?_
          simp only [Act.put, List.getElem_toArray, List.getElem_cons_succ, List.getElem_cons_zero, List.setIfInBounds_toArray, List.set_cons_zero, List.set_cons_succ]
          refine wpAnyH_take (i := 15) (v := .string (bs a0)) rfl (by kernel_rfl) (by kernel_rfl) (by kernel_rfl) (fun _ _ _ h => h) (.inl ⟨rfl, fun w hS => by obtain ⟨m1, m2, m3, m4, m5⟩ := hS; go_simp⟩) H0 ?_
          simp only [Act.put, List.getElem_toArray, List.getElem_cons_succ, List.getElem_cons_zero, List.setIfInBounds_toArray, List.set_cons_zero, List.set_cons_succ]
          refine wpAnyH_take (i := 16) (v := .bool false) rfl (by kernel_rfl) (by kernel_rfl) (by kernel_rfl) (fun _ _ _ h => h) (.inl ⟨rfl, fun w hS => by go_simp⟩) H0 ?_
          simp only [Act.put, List.getElem_toArray, List.getElem_cons_succ, List.getElem_cons_zero, List.setIfInBounds_toArray, List.set_cons_zero, List.set_cons_succ]
          refine wpAnyH_take (i := 17) (v := .agg (bdC ((N1, N2, N3, M3), (N2, N4, M4), false))) rfl (by kernel_rfl) (by kernel_rfl) (by kernel_rfl) (fun _ _ _ h => h) (.inl ⟨rfl, fun w hS => by go_simp; first | done | rfl⟩) H0 ?_
          simp only [Act.put, List.getElem_toArray, List.getElem_cons_succ, List.getElem_cons_zero, List.setIfInBounds_toArray, List.set_cons_zero, List.set_cons_succ]
          refine wpAnyH_ready (rs := [18]) (by kernel_rfl) (by simp) ?_
          refine AllReadyH.cons rfl (fun KK hK => ?_) AllReadyH.nil
          refine (if_pos (show Region.wanted _ _ = true by rfl)).mpr ?_
          refine wp_store_row 28 (.tmp 2) (.tmp 107) rfl w.heap.size (bdC ((N1, N2, N3, M3), (N2, N4, M4), false)) rfl rfl 28 (bdC zeroB) HP3cc.out.1 bd_size rfl (bd_one _) ?_
          have hlt9 := HP3cc.out.lt
          have hfar : ∀ (p : Addr), w.heap.size ≠ p.block → (w3cc.drew.setRow w.heap.size (bdC ((N1, N2, N3, M3), (N2, N4, M4), false))).cell? p = w3cc.cell? p := fun p hp => World.cell?_of_block (setRow_other w3cc.drew w.heap.size _ _ (Ne.symm hp))
          have hS' := (⟨(hfar ⟨V9, 0, none⟩ (by simp only; omega)).trans v0, (hfar ⟨V9, 1, none⟩ (by simp only; omega)).trans v1, (hfar ⟨V11, 0, none⟩ (by simp only; omega)).trans u0, (hfar ⟨V11, 1, none⟩ (by simp only; omega)).trans u1, (hfar ⟨w.heap.size + 1, 0, none⟩ (by simp only; omega)).trans x0⟩ : (fun W' : World => W'.cell? ⟨V9, 0, none⟩ = some (.int .i64 N3) ∧ W'.cell? ⟨V9, 1, none⟩ = some (.int .i64 M3) ∧ W'.cell? ⟨V11, 0, none⟩ = some (.int .i64 N4) ∧ W'.cell? ⟨V11, 1, none⟩ = some (.int .i64 M4) ∧ W'.cell? ⟨w.heap.size + 1, 0, none⟩ = some (.string (bs a0))) (w3cc.drew.setRow w.heap.size (bdC ((N1, N2, N3, M3), (N2, N4, M4), false))))
          refine hK.out _ _ hS' (fun _ => ?_)
          clear hK KK
          try simp only [Act.put, List.getElem_toArray, List.getElem_cons_succ, List.getElem_cons_zero, List.setIfInBounds_toArray, List.set_cons_zero, List.set_cons_succ]
          refine wpAnyH_take (i := 19) (v := .int .i64 0) rfl (by kernel_rfl) (by kernel_rfl) (by kernel_rfl) (fun _ _ _ h => h) (.inl ⟨rfl, fun w hS => by go_simp⟩) hS' ?_
          simp only [Act.put, List.getElem_toArray, List.getElem_cons_succ, List.getElem_cons_zero, List.setIfInBounds_toArray, List.set_cons_zero, List.set_cons_succ]
          refine wpAnyH_done (by kernel_rfl) ?_ _
          go_wp2_with fail
          refine read_ret (w := w) (q := ((N1, N2, N3, M3), (N2, N4, M4), false)) (z := 0) rfl rfl rfl (setRow_heap _ _ _ _ _ _ HP3cc.out.1) ⟨by rw [HR.out, HXE.out], below_setRow HP3cc.out.2.2.drew (Nat.le_refl _) _⟩
        · have hso := HO.out
          have hon : O = none := by
            cases O with
            | none => rfl
            | some x => exact absurd hso.symm hall
          have HR := Lib.hid (HRN.out hon)
          clear hso hon
          go_upto_region 10 with fail
          go_wp2_with (refine wpList_store_row rfl 28 (.tmp 2) (.tmp 89) rfl w.heap.size (bdC zeroB) rfl rfl 28 (bdC zeroB) HP3cc.out.1 bd_size rfl (bd_one _) ?_)
          all_goals first
            | (exfalso; apply hall; simp only [Bool.and_eq_true]; refine ⟨⟨⟨?_, ?_⟩, ?_⟩, ?_⟩ <;> first | assumption | exact of_not (by assumption))
            | (refine read_ret (w := w) (q := zeroB) (z := 13) rfl rfl rfl (setRow_heap _ _ _ _ _ _ HP3cc.out.1) ⟨by rw [HR.out], below_setRow HP3cc.out.2.2 (Nat.le_refl _) _⟩)
    · go_simp
      have hn := HP3.out.new (.cells (reC 0 0) 62)
      have bn := Blk.new w3 62 (reC 0 0)
      have hv := HP3.out.lt
      obtain ⟨V9, hV⟩ : ∃ V, w3.heap.size = V := ⟨_, rfl⟩
      rw [hV] at bn hv ⊢
      obtain ⟨w3a, hw4⟩ : ∃ W, (w3.alloc (.cells (reC 0 0) 62)).drew = W := ⟨_, rfl⟩
      have bn : Blk w3a V9 62 (reC 0 0) := by rw [← hw4]; exact bn
      have hn : PB w [a0, a1, a2, a3, a4, a5, a6, a7] w3a := by rw [← hw4]; exact ⟨hn.1, hn.2.1, hn.2.2.drew⟩
      unfold reC at hw4 bn
      rw [hw4]
      have HP3a := Lib.hid hn
      have BN0 := Lib.hid bn
      clear bn hn hV hw4 H0
      refine hK.out _ _ ⟨HP3a.out.at_ (k := 3) rfl, HP3a.out.at_ (k := 4) rfl⟩ (fun _ => ?_)
      clear hK KK
      try simp only [Act.put, List.getElem_toArray, List.getElem_cons_succ, List.getElem_cons_zero, List.setIfInBounds_toArray, List.set_cons_zero, List.set_cons_succ]
      refine wpAnyH_ready (rs := [6]) (by kernel_rfl) (by simp) ?_
      refine AllReadyH.cons rfl (fun KK hK => ?_) AllReadyH.nil
      refine step_call rfl 33 #[.tmp 58, .tmp 61] #[9, 9] rfl #[.string (bs a3), .string (bs a4)] (by simp [Act.eval]) (enters_of Tryd.func33 (by kernel_rfl) rfl) ?_
      refine (C3.out _).mono ?_
      rintro r w3b ⟨rfl, b4⟩
      have HP3b := Lib.hid (HP3a.out.on b4)
      have BN := Lib.hid (BN0.out.on b4)
      clear b4
      refine ⟨_, rfl, hK.out _ _ ⟨HP3b.out.at_ (k := 3) rfl, HP3b.out.at_ (k := 4) rfl⟩ (fun _ => ?_)⟩
      clear hK KK
      simp only [Act.put, List.getElem_toArray, List.getElem_cons_succ, List.getElem_cons_zero, List.setIfInBounds_toArray, List.set_cons_zero, List.set_cons_succ]
      refine wpAnyH_take (i := 7) (v := .tuple #[.agg (reC N3 M3), .bool B3]) rfl (by kernel_rfl) (by kernel_rfl) (by kernel_rfl) (fun _ _ _ h => h) (.inl ⟨rfl, fun w hS => by go_simp⟩) ⟨HP3b.out.at_ (k := 3) rfl, HP3b.out.at_ (k := 4) rfl⟩ ?_
      simp only [Act.put, List.getElem_toArray, List.getElem_cons_succ, List.getElem_cons_zero, List.setIfInBounds_toArray, List.set_cons_zero, List.set_cons_succ]
      refine wpAnyH_take (i := 8) (v := .agg (reC N3 M3)) rfl (by kernel_rfl) (by kernel_rfl) (by kernel_rfl) (fun _ _ _ h => h) (.inl ⟨rfl, fun w hS => by go_simp⟩) ⟨HP3b.out.at_ (k := 3) rfl, HP3b.out.at_ (k := 4) rfl⟩ ?_
      simp only [Act.put, List.getElem_toArray, List.getElem_cons_succ, List.getElem_cons_zero, List.setIfInBounds_toArray, List.set_cons_zero, List.set_cons_succ]
      refine wpAnyH_take (i := 9) (v := .bool B3) rfl (by kernel_rfl) (by kernel_rfl) (by kernel_rfl) (fun _ _ _ h => h) (.inl ⟨rfl, fun w hS => by go_simp⟩) ⟨HP3b.out.at_ (k := 3) rfl, HP3b.out.at_ (k := 4) rfl⟩ ?_
      simp only [Act.put, List.getElem_toArray, List.getElem_cons_succ, List.getElem_cons_zero, List.setIfInBounds_toArray, List.set_cons_zero, List.set_cons_succ]
      refine wpAnyH_ready (rs := [11]) (by kernel_rfl) (by simp) ?_
      refine AllReadyH.cons rfl (fun KK hK => ?_) AllReadyH.nil
      refine (if_pos (show Region.wanted _ _ = true by rfl)).mpr ?_
      refine wp_store_row 62 (.tmp 9) (.tmp 63) rfl V9 (reC N3 M3) rfl rfl 62 (reC 0 0) BN.out re_size rfl (re_one _ _) ?_
      have hn := HP3b.out.row hv (reC N3 M3)
      have bn : Blk (w3b.setRow V9 (reC N3 M3)) V9 62 (reC N3 M3) := setRow_heap _ _ _ _ _ _ BN.out
      generalize w3b.setRow V9 (reC N3 M3) = w3c at bn hn ⊢
      have HP3c := Lib.hid hn
      have BVV9 := Lib.hid bn
      clear bn hn BN HP3b
      refine hK.out _ _ ⟨HP3c.out.at_ (k := 3) rfl, HP3c.out.at_ (k := 4) rfl⟩ (fun _ => ?_)
      clear hK KK
      try simp only [Act.put, List.getElem_toArray, List.getElem_cons_succ, List.getElem_cons_zero, List.setIfInBounds_toArray, List.set_cons_zero, List.set_cons_succ]
      refine wpAnyH_take (i := 12) (v := .bool B3) rfl (by kernel_rfl) (by kernel_rfl) (by kernel_rfl) (fun _ _ _ h => h) (.inl ⟨rfl, fun w hS => by go_simp⟩) ⟨HP3c.out.at_ (k := 3) rfl, HP3c.out.at_ (k := 4) rfl⟩ ?_
      simp only [Act.put, List.getElem_toArray, List.getElem_cons_succ, List.getElem_cons_zero, List.setIfInBounds_toArray, List.set_cons_zero, List.set_cons_succ]
      refine wpAnyH_done (by kernel_rfl) ?_ _
      go_upto_region 9 with fail
      refine wp_region_held_drew (S := (fun W' : World => W'.cell? ⟨w.heap.size + 1, 6, none⟩ = some (.string (bs a6)) ∧ W'.cell? ⟨w.heap.size + 1, 7, none⟩ = some (.string (bs a7)))) (by kernel_rfl) ⟨HP3c.out.at_ (k := 6) rfl, HP3c.out.at_ (k := 7) rfl⟩ (fun H0 => ?_)
      refine wpAnyH_take (i := 0) (v := .slice (some ⟨w.heap.size + 1, 0, none⟩) 8 8) rfl (by kernel_rfl) (by kernel_rfl) (by kernel_rfl) (fun _ _ _ h => h) (.inl ⟨rfl, fun w hS => by go_simp⟩) H0 ?_
      simp only [Act.put, List.getElem_toArray, List.getElem_cons_zero, List.setIfInBounds_toArray, List.set_cons_zero, List.set_cons_succ]
      refine wpAnyH_take (i := 1) (v := .pointer (some ⟨w.heap.size + 1, 6, none⟩)) rfl (by kernel_rfl) (by kernel_rfl) (by kernel_rfl) (fun _ _ _ h => h) (.inl ⟨rfl, fun w hS => by go_simp⟩) H0 ?_
      simp only [Act.put, List.getElem_toArray, List.getElem_cons_succ, List.getElem_cons_zero, List.setIfInBounds_toArray, List.set_cons_zero, List.set_cons_succ]
      refine wpAnyH_take (i := 2) (v := .string (bs a6)) rfl (by kernel_rfl) (by kernel_rfl) (by kernel_rfl) (fun _ _ _ h => h) (.inl ⟨rfl, fun w hS => by obtain ⟨m1, m2⟩ := hS; go_simp⟩) H0 ?_
      simp only [Act.put, List.getElem_toArray, List.getElem_cons_succ, List.getElem_cons_zero, List.setIfInBounds_toArray, List.set_cons_zero, List.set_cons_succ]
      refine wpAnyH_take (i := 3) (v := .slice (some ⟨w.heap.size + 1, 0, none⟩) 8 8) rfl (by kernel_rfl) (by kernel_rfl) (by kernel_rfl) (fun _ _ _ h => h) (.inl ⟨rfl, fun w hS => by go_simp⟩) H0 ?_
      simp only [Act.put, List.getElem_toArray, List.getElem_cons_succ, List.getElem_cons_zero, List.setIfInBounds_toArray, List.set_cons_zero, List.set_cons_succ]
      refine wpAnyH_take (i := 4) (v := .pointer (some ⟨w.heap.size + 1, 7, none⟩)) rfl (by kernel_rfl) (by kernel_rfl) (by kernel_rfl) (fun _ _ _ h => h) (.inl ⟨rfl, fun w hS => by go_simp⟩) H0 ?_
      simp only [Act.put, List.getElem_toArray, List.getElem_cons_succ, List.getElem_cons_zero, List.setIfInBounds_toArray, List.set_cons_zero, List.set_cons_succ]
      refine wpAnyH_take (i := 5) (v := .string (bs a7)) rfl (by kernel_rfl) (by kernel_rfl) (by kernel_rfl) (fun _ _ _ h => h) (.inl ⟨rfl, fun w hS => by obtain ⟨m1, m2⟩ := hS; go_simp⟩) H0 ?_
      simp only [Act.put, List.getElem_toArray, List.getElem_cons_succ, List.getElem_cons_zero, List.setIfInBounds_toArray, List.set_cons_zero, List.set_cons_succ]
      refine wpAnyH_ready (rs := [6, 10]) (by kernel_rfl) (by simp) ?_
      refine AllReadyH.cons rfl (fun KK hK => ?_) (AllReadyH.cons rfl (fun KK hK => ?_) AllReadyH.nil)
      · refine step_call rfl 33 #[.tmp 68, .tmp 71] #[9, 9] rfl #[.string (bs a6), .string (bs a7)] (by simp [Act.eval]) (enters_of Tryd.func33 (by kernel_rfl) rfl) ?_
        refine (C4.out w3c.drew).mono ?_
        rintro r w3ca ⟨rfl, b4⟩
        have b4 : Below w3c.heap.size w3c w3ca := ⟨b4.os, b4.tape, b4.output, b4.size, b4.block⟩
        have HP3ca := Lib.hid (HP3c.out.on b4)
        have BVV9a := Lib.hid (BVV9.out.on b4)
        clear b4 H0
        refine ⟨_, rfl, hK.out _ _ ⟨HP3ca.out.at_ (k := 6) rfl, HP3ca.out.at_ (k := 7) rfl⟩ (fun _ => ?_)⟩
        clear hK KK
        simp only [Act.put, List.getElem_toArray, List.getElem_cons_succ, List.getElem_cons_zero, List.setIfInBounds_toArray, List.set_cons_zero, List.set_cons_succ]
        refine wpAnyH_take (i := 7) (v := .tuple #[.agg (reC N4 M4), .bool B4]) rfl (by kernel_rfl) (by kernel_rfl) (by kernel_rfl) (fun _ _ _ h => h) (.inl ⟨rfl, fun w hS => by go_simp⟩) ⟨HP3ca.out.at_ (k := 6) rfl, HP3ca.out.at_ (k := 7) rfl⟩ ?_
        simp only [Act.put, List.getElem_toArray, List.getElem_cons_succ, List.getElem_cons_zero, List.setIfInBounds_toArray, List.set_cons_zero, List.set_cons_succ]
        refine wpAnyH_take (i := 8) (v := .agg (reC N4 M4)) rfl (by kernel_rfl) (by kernel_rfl) (by kernel_rfl) (fun _ _ _ h => h) (.inl ⟨rfl, fun w hS => by go_simp⟩) ⟨HP3ca.out.at_ (k := 6) rfl, HP3ca.out.at_ (k := 7) rfl⟩ ?_
        simp only [Act.put, List.getElem_toArray, List.getElem_cons_succ, List.getElem_cons_zero, List.setIfInBounds_toArray, List.set_cons_zero, List.set_cons_succ]
        refine wpAnyH_take (i := 9) (v := .bool B4) rfl (by kernel_rfl) (by kernel_rfl) (by kernel_rfl) (fun _ _ _ h => h) (.inl ⟨rfl, fun w hS => by go_simp⟩) ⟨HP3ca.out.at_ (k := 6) rfl, HP3ca.out.at_ (k := 7) rfl⟩ ?_
        simp only [Act.put, List.getElem_toArray, List.getElem_cons_succ, List.getElem_cons_zero, List.setIfInBounds_toArray, List.set_cons_zero, List.set_cons_succ]
        refine wpAnyH_ready (rs := [10]) (by kernel_rfl) (by simp) ?_
        refine AllReadyH.cons rfl (fun KK hK => ?_) AllReadyH.nil
        go_simp
        have hn := HP3ca.out.new (.cells (reC 0 0) 62)
        have bn := Blk.new w3ca 62 (reC 0 0)
        have hv := HP3ca.out.lt
        have hxBVV9 := BVV9a.out.alloc (.cells (reC 0 0) 62)
        have hltBVV9 := BVV9a.out.lt
        obtain ⟨V11, hV⟩ : ∃ V, w3ca.heap.size = V := ⟨_, rfl⟩
        rw [hV] at bn hv hltBVV9 ⊢
        unfold reC at bn hn hxBVV9
        generalize (w3ca.alloc (.cells _ 62)) = w3cb at bn hn hxBVV9 ⊢
        have HP3cb := Lib.hid hn
        have BN := Lib.hid bn
        have BVV9b := Lib.hid hxBVV9
        clear bn hn hV hxBVV9
        refine hK.out _ _ ⟨HP3cb.out.at_ (k := 6) rfl, HP3cb.out.at_ (k := 7) rfl⟩ (fun _ => ?_)
        clear hK KK
        try simp only [Act.put, List.getElem_toArray, List.getElem_cons_succ, List.getElem_cons_zero, List.setIfInBounds_toArray, List.set_cons_zero, List.set_cons_succ]
        refine wpAnyH_ready (rs := [11]) (by kernel_rfl) (by simp) ?_
        refine AllReadyH.cons rfl (fun KK hK => ?_) AllReadyH.nil
        refine (if_pos (show Region.wanted _ _ = true by rfl)).mpr ?_
        refine wp_store_row 62 (.tmp 11) (.tmp 73) rfl V11 (reC N4 M4) rfl rfl 62 (reC 0 0) BN.out re_size rfl (re_one _ _) ?_
        have hn := HP3cb.out.row hv (reC N4 M4)
        have bn : Blk (w3cb.setRow V11 (reC N4 M4)) V11 62 (reC N4 M4) := setRow_heap _ _ _ _ _ _ BN.out
        have hxBVV9 : Blk (w3cb.setRow V11 (reC N4 M4)) V9 62 (reC N3 M3) := (setRow_other w3cb V11 _ _ (by omega)).trans BVV9b.out
        generalize w3cb.setRow V11 (reC N4 M4) = w3cc at bn hn hxBVV9 ⊢
        have HP3cc := Lib.hid hn
        have BVV11 := Lib.hid bn
        have BVV9c := Lib.hid hxBVV9
        clear bn hn BN HP3cb BVV9b hxBVV9
        refine hK.out _ _ ⟨HP3cc.out.at_ (k := 6) rfl, HP3cc.out.at_ (k := 7) rfl⟩ (fun _ => ?_)
        clear hK KK
        try simp only [Act.put, List.getElem_toArray, List.getElem_cons_succ, List.getElem_cons_zero, List.setIfInBounds_toArray, List.set_cons_zero, List.set_cons_succ]
        refine wpAnyH_take (i := 12) (v := .bool B4) rfl (by kernel_rfl) (by kernel_rfl) (by kernel_rfl) (fun _ _ _ h => h) (.inl ⟨rfl, fun w hS => by go_simp⟩) ⟨HP3cc.out.at_ (k := 6) rfl, HP3cc.out.at_ (k := 7) rfl⟩ ?_
        simp only [Act.put, List.getElem_toArray, List.getElem_cons_succ, List.getElem_cons_zero, List.setIfInBounds_toArray, List.set_cons_zero, List.set_cons_succ]
        refine wpAnyH_done (by kernel_rfl) ?_ _
        by_cases hall : (B1 && B2 && B3 && B4) = true
        · obtain ⟨⟨⟨b1, b2⟩, b3⟩, b4⟩ : ((B1 = true ∧ B2 = true) ∧ B3 = true) ∧ B4 = true := by simpa using hall
          have hso := HO.out
          rw [hall] at hso
          obtain ⟨x, hx⟩ := Option.isSome_iff_exists.1 hso
          have hxe := HQ.out x hx
          have HR := Lib.hid (HRS.out x hx)
          have HXE := Lib.hid hxe
          clear hall hso hx hxe
          go_upto_region 12 with fail
          have v0 := BVV9c.out.cell 0
          have v1 := BVV9c.out.cell 1
          have u0 := BVV11.out.cell 0
          have u1 := BVV11.out.cell 1
          unfold reC at v0 v1 u0 u1
          simp only [List.getElem?_toArray, List.getElem?_cons_zero, List.getElem?_cons_succ] at v0 v1 u0 u1
          have x0 := HP3cc.out.at_ (k := 0) rfl
          refine wp_region_held_drew (S := (fun W' : World => W'.cell? ⟨V9, 0, none⟩ = some (.int .i64 N3) ∧ W'.cell? ⟨V9, 1, none⟩ = some (.int .i64 M3) ∧ W'.cell? ⟨V11, 0, none⟩ = some (.int .i64 N4) ∧ W'.cell? ⟨V11, 1, none⟩ = some (.int .i64 M4) ∧ W'.cell? ⟨w.heap.size + 1, 0, none⟩ = some (.string (bs a0)))) (by kernel_rfl) ⟨v0, v1, u0, u1, x0⟩ (fun H0 => ?_)
          refine wpAnyH_take (i := 0) (v := .int .i64 N1) rfl (by kernel_rfl) (by kernel_rfl) (by kernel_rfl) (fun _ _ _ h => h) (.inl ⟨rfl, fun w hS => by go_simp⟩) H0 ?_
          simp only [Act.put, List.getElem_toArray, List.getElem_cons_zero, List.setIfInBounds_toArray, List.set_cons_zero, List.set_cons_succ]
          refine wpAnyH_take (i := 1) (v := .int .i64 N2) rfl (by kernel_rfl) (by kernel_rfl) (by kernel_rfl) (fun _ _ _ h => h) (.inl ⟨rfl, fun w hS => by go_simp⟩) H0 ?_
          simp only [Act.put, List.getElem_toArray, List.getElem_cons_succ, List.getElem_cons_zero, List.setIfInBounds_toArray, List.set_cons_zero, List.set_cons_succ]
          refine wpAnyH_take (i := 2) (v := .pointer (some ⟨V9, 0, none⟩)) rfl (by kernel_rfl) (by kernel_rfl) (by kernel_rfl) (fun _ _ _ h => h) (.inl ⟨rfl, fun w hS => by go_simp⟩) H0 ?_
          simp only [Act.put, List.getElem_toArray, List.getElem_cons_succ, List.getElem_cons_zero, List.setIfInBounds_toArray, List.set_cons_zero, List.set_cons_succ]
          refine wpAnyH_take (i := 3) (v := .int .i64 N3) rfl (by kernel_rfl) (by kernel_rfl) (by kernel_rfl) (fun _ _ _ h => h) (.inl ⟨rfl, fun w hS => by obtain ⟨m1, m2, m3, m4, m5⟩ := hS; go_simp⟩) H0 ?_
          simp only [Act.put, List.getElem_toArray, List.getElem_cons_succ, List.getElem_cons_zero, List.setIfInBounds_toArray, List.set_cons_zero, List.set_cons_succ]
          refine wpAnyH_take (i := 4) (v := .pointer (some ⟨V9, 1, none⟩)) rfl (by kernel_rfl) (by kernel_rfl) (by kernel_rfl) (fun _ _ _ h => h) (.inl ⟨rfl, fun w hS => by go_simp⟩) H0 ?_
          simp only [Act.put, List.getElem_toArray, List.getElem_cons_succ, List.getElem_cons_zero, List.setIfInBounds_toArray, List.set_cons_zero, List.set_cons_succ]
          refine wpAnyH_take (i := 5) (v := .int .i64 M3) rfl (by kernel_rfl) (by kernel_rfl) (by kernel_rfl) (fun _ _ _ h => h) (.inl ⟨rfl, fun w hS => by obtain ⟨m1, m2, m3, m4, m5⟩ := hS; go_simp⟩) H0 ?_
          simp only [Act.put, List.getElem_toArray, List.getElem_cons_succ, List.getElem_cons_zero, List.setIfInBounds_toArray, List.set_cons_zero, List.set_cons_succ]
          refine wpAnyH_take (i := 6) (v := .agg #[.int .i64 N1, .int .i64 N2, .int .i64 N3, .int .i64 M3]) rfl (by kernel_rfl) (by kernel_rfl) (by kernel_rfl) (fun _ _ _ h => h) (.inl ⟨rfl, fun w hS => by go_simp⟩) H0 ?_
          simp only [Act.put, List.getElem_toArray, List.getElem_cons_succ, List.getElem_cons_zero, List.setIfInBounds_toArray, List.set_cons_zero, List.set_cons_succ]
          refine wpAnyH_take (i := 7) (v := .int .i64 N2) rfl (by kernel_rfl) (by kernel_rfl) (by kernel_rfl) (fun _ _ _ h => h) (.inl ⟨rfl, fun w hS => by go_simp⟩) H0 ?_
          simp only [Act.put, List.getElem_toArray, List.getElem_cons_succ, List.getElem_cons_zero, List.setIfInBounds_toArray, List.set_cons_zero, List.set_cons_succ]
          refine wpAnyH_take (i := 8) (v := .pointer (some ⟨V11, 0, none⟩)) rfl (by kernel_rfl) (by kernel_rfl) (by kernel_rfl) (fun _ _ _ h => h) (.inl ⟨rfl, fun w hS => by go_simp⟩) H0 ?_
          simp only [Act.put, List.getElem_toArray, List.getElem_cons_succ, List.getElem_cons_zero, List.setIfInBounds_toArray, List.set_cons_zero, List.set_cons_succ]
          refine wpAnyH_take (i := 9) (v := .int .i64 N4) rfl (by kernel_rfl) (by kernel_rfl) (by kernel_rfl) (fun _ _ _ h => h) (.inl ⟨rfl, fun w hS => by obtain ⟨m1, m2, m3, m4, m5⟩ := hS; go_simp⟩) H0 ?_
          simp only [Act.put, List.getElem_toArray, List.getElem_cons_succ, List.getElem_cons_zero, List.setIfInBounds_toArray, List.set_cons_zero, List.set_cons_succ]
          refine wpAnyH_take (i := 10) (v := .pointer (some ⟨V11, 1, none⟩)) rfl (by kernel_rfl) (by kernel_rfl) (by kernel_rfl) (fun _ _ _ h => h) (.inl ⟨rfl, fun w hS => by go_simp⟩) H0 ?_
          simp only [Act.put, List.getElem_toArray, List.getElem_cons_succ, List.getElem_cons_zero, List.setIfInBounds_toArray, List.set_cons_zero, List.set_cons_succ]
          refine wpAnyH_take (i := 11) (v := .int .i64 M4) rfl (by kernel_rfl) (by kernel_rfl) (by kernel_rfl) (fun _ _ _ h => h) (.inl ⟨rfl, fun w hS => by obtain ⟨m1, m2, m3, m4, m5⟩ := hS; go_simp⟩) H0 ?_
          simp only [Act.put, List.getElem_toArray, List.getElem_cons_succ, List.getElem_cons_zero, List.setIfInBounds_toArray, List.set_cons_zero, List.set_cons_succ]
          refine wpAnyH_take (i := 12) (v := .agg #[.int .i64 N2, .int .i64 N4, .int .i64 M4]) rfl (by kernel_rfl) (by kernel_rfl) (by kernel_rfl) (fun _ _ _ h => h) (.inl ⟨rfl, fun w hS => by go_simp⟩) H0 ?_
          simp only [Act.put, List.getElem_toArray, List.getElem_cons_succ, List.getElem_cons_zero, List.setIfInBounds_toArray, List.set_cons_zero, List.set_cons_succ]
          refine wpAnyH_take (i := 13) (v := .slice (some ⟨w.heap.size + 1, 0, none⟩) 8 8) rfl (by kernel_rfl) (by kernel_rfl) (by kernel_rfl) (fun _ _ _ h => h) (.inl ⟨rfl, fun w hS => by go_simp⟩) H0 ?_
          simp only [Act.put, List.getElem_toArray, List.getElem_cons_succ, List.getElem_cons_zero, List.setIfInBounds_toArray, List.set_cons_zero, List.set_cons_succ]
          refine wpAnyH_take (i := 14) (v := .pointer (some ⟨w.heap.size + 1, 0, none⟩)) rfl (by kernel_rfl) (by kernel_rfl) (by kernel_rfl) (fun _ _ _ h => h) (.inl ⟨rfl, fun w hS => by go_simp⟩) H0 ?_
          simp only [Act.put, List.getElem_toArray, List.getElem_cons_succ, List.getElem_cons_zero, List.setIfInBounds_toArray, List.set_cons_zero, List.set_cons_succ]
          refine wpAnyH_take (i := 15) (v := .string (bs a0)) rfl (by kernel_rfl) (by kernel_rfl) (by kernel_rfl) (fun _ _ _ h => h) (.inl ⟨rfl, fun w hS => by obtain ⟨m1, m2, m3, m4, m5⟩ := hS; go_simp⟩) H0 ?_
          simp only [Act.put, List.getElem_toArray, List.getElem_cons_succ, List.getElem_cons_zero, List.setIfInBounds_toArray, List.set_cons_zero, List.set_cons_succ]
          refine wpAnyH_take (i := 16) (v := .bool false) rfl (by kernel_rfl) (by kernel_rfl) (by kernel_rfl) (fun _ _ _ h => h) (.inl ⟨rfl, fun w hS => by go_simp⟩) H0 ?_
          simp only [Act.put, List.getElem_toArray, List.getElem_cons_succ, List.getElem_cons_zero, List.setIfInBounds_toArray, List.set_cons_zero, List.set_cons_succ]
          refine wpAnyH_take (i := 17) (v := .agg (bdC ((N1, N2, N3, M3), (N2, N4, M4), false))) rfl (by kernel_rfl) (by kernel_rfl) (by kernel_rfl) (fun _ _ _ h => h) (.inl ⟨rfl, fun w hS => by go_simp; first | done | rfl⟩) H0 ?_
          simp only [Act.put, List.getElem_toArray, List.getElem_cons_succ, List.getElem_cons_zero, List.setIfInBounds_toArray, List.set_cons_zero, List.set_cons_succ]
          refine wpAnyH_ready (rs := [18]) (by kernel_rfl) (by simp) ?_
          refine AllReadyH.cons rfl (fun KK hK => ?_) AllReadyH.nil
          refine (if_pos (show Region.wanted _ _ = true by rfl)).mpr ?_
          refine wp_store_row 28 (.tmp 2) (.tmp 107) rfl w.heap.size (bdC ((N1, N2, N3, M3), (N2, N4, M4), false)) rfl rfl 28 (bdC zeroB) HP3cc.out.1 bd_size rfl (bd_one _) ?_
          have hlt9 := HP3cc.out.lt
          have hfar : ∀ (p : Addr), w.heap.size ≠ p.block → (w3cc.drew.setRow w.heap.size (bdC ((N1, N2, N3, M3), (N2, N4, M4), false))).cell? p = w3cc.cell? p := fun p hp => World.cell?_of_block (setRow_other w3cc.drew w.heap.size _ _ (Ne.symm hp))
          have hS' := (⟨(hfar ⟨V9, 0, none⟩ (by simp only; omega)).trans v0, (hfar ⟨V9, 1, none⟩ (by simp only; omega)).trans v1, (hfar ⟨V11, 0, none⟩ (by simp only; omega)).trans u0, (hfar ⟨V11, 1, none⟩ (by simp only; omega)).trans u1, (hfar ⟨w.heap.size + 1, 0, none⟩ (by simp only; omega)).trans x0⟩ : (fun W' : World => W'.cell? ⟨V9, 0, none⟩ = some (.int .i64 N3) ∧ W'.cell? ⟨V9, 1, none⟩ = some (.int .i64 M3) ∧ W'.cell? ⟨V11, 0, none⟩ = some (.int .i64 N4) ∧ W'.cell? ⟨V11, 1, none⟩ = some (.int .i64 M4) ∧ W'.cell? ⟨w.heap.size + 1, 0, none⟩ = some (.string (bs a0))) (w3cc.drew.setRow w.heap.size (bdC ((N1, N2, N3, M3), (N2, N4, M4), false))))
          refine hK.out _ _ hS' (fun _ => ?_)
          clear hK KK
          try simp only [Act.put, List.getElem_toArray, List.getElem_cons_succ, List.getElem_cons_zero, List.setIfInBounds_toArray, List.set_cons_zero, List.set_cons_succ]
          refine wpAnyH_take (i := 19) (v := .int .i64 0) rfl (by kernel_rfl) (by kernel_rfl) (by kernel_rfl) (fun _ _ _ h => h) (.inl ⟨rfl, fun w hS => by go_simp⟩) hS' ?_
          simp only [Act.put, List.getElem_toArray, List.getElem_cons_succ, List.getElem_cons_zero, List.setIfInBounds_toArray, List.set_cons_zero, List.set_cons_succ]
          refine wpAnyH_done (by kernel_rfl) ?_ _
          go_wp2_with fail
          refine read_ret (w := w) (q := ((N1, N2, N3, M3), (N2, N4, M4), false)) (z := 0) rfl rfl rfl (setRow_heap _ _ _ _ _ _ HP3cc.out.1) ⟨by rw [HR.out, HXE.out], below_setRow HP3cc.out.2.2.drew (Nat.le_refl _) _⟩
        · have hso := HO.out
          have hon : O = none := by
            cases O with
            | none => rfl
            | some x => exact absurd hso.symm hall
          have HR := Lib.hid (HRN.out hon)
          clear hso hon
          go_upto_region 10 with fail
          go_wp2_with (refine wpList_store_row rfl 28 (.tmp 2) (.tmp 89) rfl w.heap.size (bdC zeroB) rfl rfl 28 (bdC zeroB) HP3cc.out.1 bd_size rfl (bd_one _) ?_)
          all_goals first
            | (exfalso; apply hall; simp only [Bool.and_eq_true]; refine ⟨⟨⟨?_, ?_⟩, ?_⟩, ?_⟩ <;> first | assumption | exact of_not (by assumption))
            | (refine read_ret (w := w) (q := zeroB) (z := 13) rfl rfl rfl (setRow_heap _ _ _ _ _ _ HP3cc.out.1) ⟨by rw [HR.out], below_setRow HP3cc.out.2.2 (Nat.le_refl _) _⟩)
      · go_simp
        have hn := HP3c.out.new (.cells (reC 0 0) 62)
        have bn := Blk.new w3c 62 (reC 0 0)
        have hv := HP3c.out.lt
        have hxBVV9 := BVV9.out.alloc (.cells (reC 0 0) 62)
        have hltBVV9 := BVV9.out.lt
        obtain ⟨V11, hV⟩ : ∃ V, w3c.heap.size = V := ⟨_, rfl⟩
        rw [hV] at bn hv hltBVV9 ⊢
        obtain ⟨w3ca, hw4⟩ : ∃ W, (w3c.alloc (.cells (reC 0 0) 62)).drew = W := ⟨_, rfl⟩
        have bn : Blk w3ca V11 62 (reC 0 0) := by rw [← hw4]; exact bn
        have hn : PB w [a0, a1, a2, a3, a4, a5, a6, a7] w3ca := by rw [← hw4]; exact ⟨hn.1, hn.2.1, hn.2.2.drew⟩
        have hxBVV9 : Blk w3ca V9 62 (reC N3 M3) := by rw [← hw4]; exact hxBVV9
        unfold reC at hw4 bn hxBVV9
        rw [hw4]
        have HP3ca := Lib.hid hn
        have BN0 := Lib.hid bn
        have BVV9a := Lib.hid hxBVV9
        clear bn hn hV hw4 H0 hxBVV9
        refine hK.out _ _ ⟨HP3ca.out.at_ (k := 6) rfl, HP3ca.out.at_ (k := 7) rfl⟩ (fun _ => ?_)
        clear hK KK
        try simp only [Act.put, List.getElem_toArray, List.getElem_cons_succ, List.getElem_cons_zero, List.setIfInBounds_toArray, List.set_cons_zero, List.set_cons_succ]
        refine wpAnyH_ready (rs := [6]) (by kernel_rfl) (by simp) ?_
        refine AllReadyH.cons rfl (fun KK hK => ?_) AllReadyH.nil
        refine step_call rfl 33 #[.tmp 68, .tmp 71] #[9, 9] rfl #[.string (bs a6), .string (bs a7)] (by simp [Act.eval]) (enters_of Tryd.func33 (by kernel_rfl) rfl) ?_
        refine (C4.out _).mono ?_
        rintro r w3cb ⟨rfl, b4⟩
        have HP3cb := Lib.hid (HP3ca.out.on b4)
        have BN := Lib.hid (BN0.out.on b4)
        have BVV9b := Lib.hid (BVV9a.out.on b4)
        clear b4
        refine ⟨_, rfl, hK.out _ _ ⟨HP3cb.out.at_ (k := 6) rfl, HP3cb.out.at_ (k := 7) rfl⟩ (fun _ => ?_)⟩
        clear hK KK
        simp only [Act.put, List.getElem_toArray, List.getElem_cons_succ, List.getElem_cons_zero, List.setIfInBounds_toArray, List.set_cons_zero, List.set_cons_succ]
        refine wpAnyH_take (i := 7) (v := .tuple #[.agg (reC N4 M4), .bool B4]) rfl (by kernel_rfl) (by kernel_rfl) (by kernel_rfl) (fun _ _ _ h => h) (.inl ⟨rfl, fun w hS => by go_simp⟩) ⟨HP3cb.out.at_ (k := 6) rfl, HP3cb.out.at_ (k := 7) rfl⟩ ?_
        simp only [Act.put, List.getElem_toArray, List.getElem_cons_succ, List.getElem_cons_zero, List.setIfInBounds_toArray, List.set_cons_zero, List.set_cons_succ]
        refine wpAnyH_take (i := 8) (v := .agg (reC N4 M4)) rfl (by kernel_rfl) (by kernel_rfl) (by kernel_rfl) (fun _ _ _ h => h) (.inl ⟨rfl, fun w hS => by go_simp⟩) ⟨HP3cb.out.at_ (k := 6) rfl, HP3cb.out.at_ (k := 7) rfl⟩ ?_
        simp only [Act.put, List.getElem_toArray, List.getElem_cons_succ, List.getElem_cons_zero, List.setIfInBounds_toArray, List.set_cons_zero, List.set_cons_succ]
        refine wpAnyH_take (i := 9) (v := .bool B4) rfl (by kernel_rfl) (by kernel_rfl) (by kernel_rfl) (fun _ _ _ h => h) (.inl ⟨rfl, fun w hS => by go_simp⟩) ⟨HP3cb.out.at_ (k := 6) rfl, HP3cb.out.at_ (k := 7) rfl⟩ ?_
        simp only [Act.put, List.getElem_toArray, List.getElem_cons_succ, List.getElem_cons_zero, List.setIfInBounds_toArray, List.set_cons_zero, List.set_cons_succ]
        refine wpAnyH_ready (rs := [11]) (by kernel_rfl) (by simp) ?_
        refine AllReadyH.cons rfl (fun KK hK => ?_) AllReadyH.nil
        refine (if_pos (show Region.wanted _ _ = true by rfl)).mpr ?_
        refine wp_store_row 62 (.tmp 11) (.tmp 73) rfl V11 (reC N4 M4) rfl rfl 62 (reC 0 0) BN.out re_size rfl (re_one _ _) ?_
        have hn := HP3cb.out.row hv (reC N4 M4)
        have bn : Blk (w3cb.setRow V11 (reC N4 M4)) V11 62 (reC N4 M4) := setRow_heap _ _ _ _ _ _ BN.out
        have hxBVV9 : Blk (w3cb.setRow V11 (reC N4 M4)) V9 62 (reC N3 M3) := (setRow_other w3cb V11 _ _ (by omega)).trans BVV9b.out
        generalize w3cb.setRow V11 (reC N4 M4) = w3cc at bn hn hxBVV9 ⊢
        have HP3cc := Lib.hid hn
        have BVV11 := Lib.hid bn
        have BVV9c := Lib.hid hxBVV9
        clear bn hn BN HP3cb BVV9b hxBVV9
        refine hK.out _ _ ⟨HP3cc.out.at_ (k := 6) rfl, HP3cc.out.at_ (k := 7) rfl⟩ (fun _ => ?_)
        clear hK KK
        try simp only [Act.put, List.getElem_toArray, List.getElem_cons_succ, List.getElem_cons_zero, List.setIfInBounds_toArray, List.set_cons_zero, List.set_cons_succ]
        refine wpAnyH_take (i := 12) (v := .bool B4) rfl (by kernel_rfl) (by kernel_rfl) (by kernel_rfl) (fun _ _ _ h => h) (.inl ⟨rfl, fun w hS => by go_simp⟩) ⟨HP3cc.out.at_ (k := 6) rfl, HP3cc.out.at_ (k := 7) rfl⟩ ?_
        simp only [Act.put, List.getElem_toArray, List.getElem_cons_succ, List.getElem_cons_zero, List.setIfInBounds_toArray, List.set_cons_zero, List.set_cons_succ]
        refine wpAnyH_done (by kernel_rfl) ?_ _
        by_cases hall : (B1 && B2 && B3 && B4) = true
        · obtain ⟨⟨⟨b1, b2⟩, b3⟩, b4⟩ : ((B1 = true ∧ B2 = true) ∧ B3 = true) ∧ B4 = true := by simpa using hall
          have hso := HO.out
          rw [hall] at hso
          obtain ⟨x, hx⟩ := Option.isSome_iff_exists.1 hso
          have hxe := HQ.out x hx
          have HR := Lib.hid (HRS.out x hx)
          have HXE := Lib.hid hxe
          clear hall hso hx hxe
          go_upto_region 12 with fail
          have v0 := BVV9c.out.cell 0
          have v1 := BVV9c.out.cell 1
          have u0 := BVV11.out.cell 0
          have u1 := BVV11.out.cell 1
          unfold reC at v0 v1 u0 u1
          simp only [List.getElem?_toArray, List.getElem?_cons_zero, List.getElem?_cons_succ] at v0 v1 u0 u1
          have x0 := HP3cc.out.at_ (k := 0) rfl
          refine wp_region_held_drew (S := (fun W' : World => W'.cell? ⟨V9, 0, none⟩ = some (.int .i64 N3) ∧ W'.cell? ⟨V9, 1, none⟩ = some (.int .i64 M3) ∧ W'.cell? ⟨V11, 0, none⟩ = some (.int .i64 N4) ∧ W'.cell? ⟨V11, 1, none⟩ = some (.int .i64 M4) ∧ W'.cell? ⟨w.heap.size + 1, 0, none⟩ = some (.string (bs a0)))) (by kernel_rfl) ⟨v0, v1, u0, u1, x0⟩ (fun H0 => ?_)
          refine wpAnyH_take (i := 0) (v := .int .i64 N1) rfl (by kernel_rfl) (by kernel_rfl) (by kernel_rfl) (fun _ _ _ h => h) (.inl ⟨rfl, fun w hS => by go_simp⟩) H0 ?_
          simp only [Act.put, List.getElem_toArray, List.getElem_cons_zero, List.setIfInBounds_toArray, List.set_cons_zero, List.set_cons_succ]
          refine wpAnyH_take (i := 1) (v := .int .i64 N2) rfl (by kernel_rfl) (by kernel_rfl) (by kernel_rfl) (fun _ _ _ h => h) (.inl ⟨rfl, fun w hS => by go_simp⟩) H0 ?_
          simp only [Act.put, List.getElem_toArray, List.getElem_cons_succ, List.getElem_cons_zero, List.setIfInBounds_toArray, List.set_cons_zero, List.set_cons_succ]
          refine wpAnyH_take (i := 2) (v := .pointer (some ⟨V9, 0, none⟩)) rfl (by kernel_rfl) (by kernel_rfl) (by kernel_rfl) (fun _ _ _ h => h) (.inl ⟨rfl, fun w hS => by go_simp⟩) H0 ?_
          simp only [Act.put, List.getElem_toArray, List.getElem_cons_succ, List.getElem_cons_zero, List.setIfInBounds_toArray, List.set_cons_zero, List.set_cons_succ]
          refine wpAnyH_take (i := 3) (v := .int .i64 N3) rfl (by kernel_rfl) (by kernel_rfl) (by kernel_rfl) (fun _ _ _ h => h) (.inl ⟨rfl, fun w hS => by obtain ⟨m1, m2, m3, m4, m5⟩ := hS; go_simp⟩) H0 ?_
          simp only [Act.put, List.getElem_toArray, List.getElem_cons_succ, List.getElem_cons_zero, List.setIfInBounds_toArray, List.set_cons_zero, List.set_cons_succ]
          refine wpAnyH_take (i := 4) (v := .pointer (some ⟨V9, 1, none⟩)) rfl (by kernel_rfl) (by kernel_rfl) (by kernel_rfl) (fun _ _ _ h => h) (.inl ⟨rfl, fun w hS => by go_simp⟩) H0 ?_
          simp only [Act.put, List.getElem_toArray, List.getElem_cons_succ, List.getElem_cons_zero, List.setIfInBounds_toArray, List.set_cons_zero, List.set_cons_succ]
          refine wpAnyH_take (i := 5) (v := .int .i64 M3) rfl (by kernel_rfl) (by kernel_rfl) (by kernel_rfl) (fun _ _ _ h => h) (.inl ⟨rfl, fun w hS => by obtain ⟨m1, m2, m3, m4, m5⟩ := hS; go_simp⟩) H0 ?_
          simp only [Act.put, List.getElem_toArray, List.getElem_cons_succ, List.getElem_cons_zero, List.setIfInBounds_toArray, List.set_cons_zero, List.set_cons_succ]
          refine wpAnyH_take (i := 6) (v := .agg #[.int .i64 N1, .int .i64 N2, .int .i64 N3, .int .i64 M3]) rfl (by kernel_rfl) (by kernel_rfl) (by kernel_rfl) (fun _ _ _ h => h) (.inl ⟨rfl, fun w hS => by go_simp⟩) H0 ?_
          simp only [Act.put, List.getElem_toArray, List.getElem_cons_succ, List.getElem_cons_zero, List.setIfInBounds_toArray, List.set_cons_zero, List.set_cons_succ]
          refine wpAnyH_take (i := 7) (v := .int .i64 N2) rfl (by kernel_rfl) (by kernel_rfl) (by kernel_rfl) (fun _ _ _ h => h) (.inl ⟨rfl, fun w hS => by go_simp⟩) H0 ?_
          simp only [Act.put, List.getElem_toArray, List.getElem_cons_succ, List.getElem_cons_zero, List.setIfInBounds_toArray, List.set_cons_zero, List.set_cons_succ]
          refine wpAnyH_take (i := 8) (v := .pointer (some ⟨V11, 0, none⟩)) rfl (by kernel_rfl) (by kernel_rfl) (by kernel_rfl) (fun _ _ _ h => h) (.inl ⟨rfl, fun w hS => by go_simp⟩) H0 ?_
          simp only [Act.put, List.getElem_toArray, List.getElem_cons_succ, List.getElem_cons_zero, List.setIfInBounds_toArray, List.set_cons_zero, List.set_cons_succ]
          refine wpAnyH_take (i := 9) (v := .int .i64 N4) rfl (by kernel_rfl) (by kernel_rfl) (by kernel_rfl) (fun _ _ _ h => h) (.inl ⟨rfl, fun w hS => by obtain ⟨m1, m2, m3, m4, m5⟩ := hS; go_simp⟩) H0 ?_
          simp only [Act.put, List.getElem_toArray, List.getElem_cons_succ, List.getElem_cons_zero, List.setIfInBounds_toArray, List.set_cons_zero, List.set_cons_succ]
          refine wpAnyH_take (i := 10) (v := .pointer (some ⟨V11, 1, none⟩)) rfl (by kernel_rfl) (by kernel_rfl) (by kernel_rfl) (fun _ _ _ h => h) (.inl ⟨rfl, fun w hS => by go_simp⟩) H0 ?_
          simp only [Act.put, List.getElem_toArray, List.getElem_cons_succ, List.getElem_cons_zero, List.setIfInBounds_toArray, List.set_cons_zero, List.set_cons_succ]
          refine wpAnyH_take (i := 11) (v := .int .i64 M4) rfl (by kernel_rfl) (by kernel_rfl) (by kernel_rfl) (fun _ _ _ h => h) (.inl ⟨rfl, fun w hS => by obtain ⟨m1, m2, m3, m4, m5⟩ := hS; go_simp⟩) H0 ?_
          simp only [Act.put, List.getElem_toArray, List.getElem_cons_succ, List.getElem_cons_zero, List.setIfInBounds_toArray, List.set_cons_zero, List.set_cons_succ]
          refine wpAnyH_take (i := 12) (v := .agg #[.int .i64 N2, .int .i64 N4, .int .i64 M4]) rfl (by kernel_rfl) (by kernel_rfl) (by kernel_rfl) (fun _ _ _ h => h) (.inl ⟨rfl, fun w hS => by go_simp⟩) H0 ?_
          simp only [Act.put, List.getElem_toArray, List.getElem_cons_succ, List.getElem_cons_zero, List.setIfInBounds_toArray, List.set_cons_zero, List.set_cons_succ]
          refine wpAnyH_take (i := 13) (v := .slice (some ⟨w.heap.size + 1, 0, none⟩) 8 8) rfl (by kernel_rfl) (by kernel_rfl) (by kernel_rfl) (fun _ _ _ h => h) (.inl ⟨rfl, fun w hS => by go_simp⟩) H0 ?_
          simp only [Act.put, List.getElem_toArray, List.getElem_cons_succ, List.getElem_cons_zero, List.setIfInBounds_toArray, List.set_cons_zero, List.set_cons_succ]
          refine wpAnyH_take (i := 14) (v := .pointer (some ⟨w.heap.size + 1, 0, none⟩)) rfl (by kernel_rfl) (by kernel_rfl) (by kernel_rfl) (fun _ _ _ h => h) (.inl ⟨rfl, fun w hS => by go_simp⟩) H0 ?_
          simp only [Act.put, List.getElem_toArray, List.getElem_cons_succ, List.getElem_cons_zero, List.setIfInBounds_toArray, List.set_cons_zero, List.set_cons_succ]
          refine wpAnyH_take (i := 15) (v := .string (bs a0)) rfl (by kernel_rfl) (by kernel_rfl) (by kernel_rfl) (fun _ _ _ h => h) (.inl ⟨rfl, fun w hS => by obtain ⟨m1, m2, m3, m4, m5⟩ := hS; go_simp⟩) H0 ?_
          simp only [Act.put, List.getElem_toArray, List.getElem_cons_succ, List.getElem_cons_zero, List.setIfInBounds_toArray, List.set_cons_zero, List.set_cons_succ]
          refine wpAnyH_take (i := 16) (v := .bool false) rfl (by kernel_rfl) (by kernel_rfl) (by kernel_rfl) (fun _ _ _ h => h) (.inl ⟨rfl, fun w hS => by go_simp⟩) H0 ?_
          simp only [Act.put, List.getElem_toArray, List.getElem_cons_succ, List.getElem_cons_zero, List.setIfInBounds_toArray, List.set_cons_zero, List.set_cons_succ]
          refine wpAnyH_take (i := 17) (v := .agg (bdC ((N1, N2, N3, M3), (N2, N4, M4), false))) rfl (by kernel_rfl) (by kernel_rfl) (by kernel_rfl) (fun _ _ _ h => h) (.inl ⟨rfl, fun w hS => by go_simp; first | done | rfl⟩) H0 ?_
          simp only [Act.put, List.getElem_toArray, List.getElem_cons_succ, List.getElem_cons_zero, List.setIfInBounds_toArray, List.set_cons_zero, List.set_cons_succ]
          refine wpAnyH_ready (rs := [18]) (by kernel_rfl) (by simp) ?_
          refine AllReadyH.cons rfl (fun KK hK => ?_) AllReadyH.nil
          refine (if_pos (show Region.wanted _ _ = true by rfl)).mpr ?_
          refine wp_store_row 28 (.tmp 2) (.tmp 107) rfl w.heap.size (bdC ((N1, N2, N3, M3), (N2, N4, M4), false)) rfl rfl 28 (bdC zeroB) HP3cc.out.1 bd_size rfl (bd_one _) ?_
          have hlt9 := HP3cc.out.lt
          have hfar : ∀ (p : Addr), w.heap.size ≠ p.block → (w3cc.drew.setRow w.heap.size (bdC ((N1, N2, N3, M3), (N2, N4, M4), false))).cell? p = w3cc.cell? p := fun p hp => World.cell?_of_block (setRow_other w3cc.drew w.heap.size _ _ (Ne.symm hp))
          have hS' := (⟨(hfar ⟨V9, 0, none⟩ (by simp only; omega)).trans v0, (hfar ⟨V9, 1, none⟩ (by simp only; omega)).trans v1, (hfar ⟨V11, 0, none⟩ (by simp only; omega)).trans u0, (hfar ⟨V11, 1, none⟩ (by simp only; omega)).trans u1, (hfar ⟨w.heap.size + 1, 0, none⟩ (by simp only; omega)).trans x0⟩ : (fun W' : World => W'.cell? ⟨V9, 0, none⟩ = some (.int .i64 N3) ∧ W'.cell? ⟨V9, 1, none⟩ = some (.int .i64 M3) ∧ W'.cell? ⟨V11, 0, none⟩ = some (.int .i64 N4) ∧ W'.cell? ⟨V11, 1, none⟩ = some (.int .i64 M4) ∧ W'.cell? ⟨w.heap.size + 1, 0, none⟩ = some (.string (bs a0))) (w3cc.drew.setRow w.heap.size (bdC ((N1, N2, N3, M3), (N2, N4, M4), false))))
          refine hK.out _ _ hS' (fun _ => ?_)
          clear hK KK
          try simp only [Act.put, List.getElem_toArray, List.getElem_cons_succ, List.getElem_cons_zero, List.setIfInBounds_toArray, List.set_cons_zero, List.set_cons_succ]
          refine wpAnyH_take (i := 19) (v := .int .i64 0) rfl (by kernel_rfl) (by kernel_rfl) (by kernel_rfl) (fun _ _ _ h => h) (.inl ⟨rfl, fun w hS => by go_simp⟩) hS' ?_
          simp only [Act.put, List.getElem_toArray, List.getElem_cons_succ, List.getElem_cons_zero, List.setIfInBounds_toArray, List.set_cons_zero, List.set_cons_succ]
          refine wpAnyH_done (by kernel_rfl) ?_ _
          go_wp2_with fail
          refine read_ret (w := w) (q := ((N1, N2, N3, M3), (N2, N4, M4), false)) (z := 0) rfl rfl rfl (setRow_heap _ _ _ _ _ _ HP3cc.out.1) ⟨by rw [HR.out, HXE.out], below_setRow HP3cc.out.2.2.drew (Nat.le_refl _) _⟩
        · have hso := HO.out
          have hon : O = none := by
            cases O with
            | none => rfl
            | some x => exact absurd hso.symm hall
          have HR := Lib.hid (HRN.out hon)
          clear hso hon
          go_upto_region 10 with fail
          go_wp2_with (refine wpList_store_row rfl 28 (.tmp 2) (.tmp 89) rfl w.heap.size (bdC zeroB) rfl rfl 28 (bdC zeroB) HP3cc.out.1 bd_size rfl (bd_one _) ?_)
          all_goals first
            | (exfalso; apply hall; simp only [Bool.and_eq_true]; refine ⟨⟨⟨?_, ?_⟩, ?_⟩, ?_⟩ <;> first | assumption | exact of_not (by assumption))
            | (refine read_ret (w := w) (q := zeroB) (z := 13) rfl rfl rfl (setRow_heap _ _ _ _ _ _ HP3cc.out.1) ⟨by rw [HR.out], below_setRow HP3cc.out.2.2 (Nat.le_refl _) _⟩)
  · have q1 : ((bs a0).toList == [98, 111, 117, 110, 100]) = false := strs_ne (by rw [h0]; decide)
    have q2 : ((bs a0).toList == [115, 116, 97, 116, 105, 99]) = true := strs_eq h0
    clear h0
    go_enter Tryd.func11, Tryd.ntmps11
    go_upto_region 8 with (first
      | (go_at_call 32; refine HSP.out.mono ?_; rintro e w1 ⟨rfl, tr1, b1⟩; have HP1 := Lib.hid (PB.start tr1 b1); clear tr1 b1; have x0 := HP1.out.at_ (k := 0) rfl; have x5 := HP1.out.at_ (k := 5) rfl; have x1 := HP1.out.at_ (k := 1) rfl)
      | (go_at_call 17; refine (C1.out _).mono ?_; rintro e w2 ⟨rfl, b2⟩; have HP2 := Lib.hid (HP1.out.on b2); have y2 := HP2.out.at_ (k := 2) rfl; clear b2)
      | (go_at_call 19; refine (C2.out _).mono ?_; rintro e w3 ⟨rfl, b3⟩; have HP3 := Lib.hid (HP2.out.on b3); clear b3 y2 x0 x5 x1 HP1 HP2 HSP))
    refine wp_region_held_drew (S := (fun W' : World => W'.cell? ⟨w.heap.size + 1, 3, none⟩ = some (.string (bs a3)) ∧ W'.cell? ⟨w.heap.size + 1, 4, none⟩ = some (.string (bs a4)))) (by kernel_rfl) ⟨HP3.out.at_ (k := 3) rfl, HP3.out.at_ (k := 4) rfl⟩ (fun H0 => ?_)
    refine wpAnyH_take (i := 0) (v := .slice (some ⟨w.heap.size + 1, 0, none⟩) 8 8) rfl (by kernel_rfl) (by kernel_rfl) (by kernel_rfl) (fun _ _ _ h => h) (.inl ⟨rfl, fun w hS => by go_simp⟩) H0 ?_
    simp only [Act.put, List.getElem_toArray, List.getElem_cons_zero, List.setIfInBounds_toArray, List.set_cons_zero, List.set_cons_succ]
    refine wpAnyH_take (i := 1) (v := .pointer (some ⟨w.heap.size + 1, 3, none⟩)) rfl (by kernel_rfl) (by kernel_rfl) (by kernel_rfl) (fun _ _ _ h => h) (.inl ⟨rfl, fun w hS => by go_simp⟩) H0 ?_
    simp only [Act.put, List.getElem_toArray, List.getElem_cons_succ, List.getElem_cons_zero, List.setIfInBounds_toArray, List.set_cons_zero, List.set_cons_succ]
    refine wpAnyH_take (i := 2) (v := .string (bs a3)) rfl (by kernel_rfl) (by kernel_rfl) (by kernel_rfl) (fun _ _ _ h => h) (.inl ⟨rfl, fun w hS => by obtain ⟨m1, m2⟩ := hS; go_simp⟩) H0 ?_
    simp only [Act.put, List.getElem_toArray, List.getElem_cons_succ, List.getElem_cons_zero, List.setIfInBounds_toArray, List.set_cons_zero, List.set_cons_succ]
    refine wpAnyH_take (i := 3) (v := .slice (some ⟨w.heap.size + 1, 0, none⟩) 8 8) rfl (by kernel_rfl) (by kernel_rfl) (by kernel_rfl) (fun _ _ _ h => h) (.inl ⟨rfl, fun w hS => by go_simp⟩) H0 ?_
    simp only [Act.put, List.getElem_toArray, List.getElem_cons_succ, List.getElem_cons_zero, List.setIfInBounds_toArray, List.set_cons_zero, List.set_cons_succ]
    refine wpAnyH_take (i := 4) (v := .pointer (some ⟨w.heap.size + 1, 4, none⟩)) rfl (by kernel_rfl) (by kernel_rfl) (by kernel_rfl) (fun _ _ _ h => h) (.inl ⟨rfl, fun w hS => by go_simp⟩) H0 ?_
    simp only [Act.put, List.getElem_toArray, List.getElem_cons_succ, List.getElem_cons_zero, List.setIfInBounds_toArray, List.set_cons_zero, List.set_cons_succ]
    refine wpAnyH_take (i := 5) (v := .string (bs a4)) rfl (by kernel_rfl) (by kernel_rfl) (by kernel_rfl) (fun _ _ _ h => h) (.inl ⟨rfl, fun w hS => by obtain ⟨m1, m2⟩ := hS; go_simp⟩) H0 ?_
    simp only [Act.put, List.getElem_toArray, List.getElem_cons_succ, List.getElem_cons_zero, List.setIfInBounds_toArray, List.set_cons_zero, List.set_cons_succ]
    refine wpAnyH_ready (rs := [6, 10]) (by kernel_rfl) (by simp) ?_
    refine AllReadyH.cons rfl (fun KK hK => ?_) (AllReadyH.cons rfl (fun KK hK => ?_) AllReadyH.nil)
    · refine step_call rfl 33 #[.tmp 58, .tmp 61] #[9, 9] rfl #[.string (bs a3), .string (bs a4)] (by simp [Act.eval]) (enters_of Tryd.func33 (by kernel_rfl) rfl) ?_
      refine (C3.out w3.drew).mono ?_
      rintro r w3a ⟨rfl, b4⟩
      have b4 : Below w3.heap.size w3 w3a := ⟨b4.os, b4.tape, b4.output, b4.size, b4.block⟩
      have HP3a := Lib.hid (HP3.out.on b4)
      clear b4 H0
      refine ⟨_, rfl, hK.out _ _ ⟨HP3a.out.at_ (k := 3) rfl, HP3a.out.at_ (k := 4) rfl⟩ (fun _ => ?_)⟩
      clear hK KK
      simp only [Act.put, List.getElem_toArray, List.getElem_cons_succ, List.getElem_cons_zero, List.setIfInBounds_toArray, List.set_cons_zero, List.set_cons_succ]
      refine wpAnyH_take (i := 7) (v := .tuple #[.agg (reC N3 M3), .bool B3]) rfl (by kernel_rfl) (by kernel_rfl) (by kernel_rfl) (fun _ _ _ h => h) (.inl ⟨rfl, fun w hS => by go_simp⟩) ⟨HP3a.out.at_ (k := 3) rfl, HP3a.out.at_ (k := 4) rfl⟩ ?_
      simp only [Act.put, List.getElem_toArray, List.getElem_cons_succ, List.getElem_cons_zero, List.setIfInBounds_toArray, List.set_cons_zero, List.set_cons_succ]
      refine wpAnyH_take (i := 8) (v := .agg (reC N3 M3)) rfl (by kernel_rfl) (by kernel_rfl) (by kernel_rfl) (fun _ _ _ h => h) (.inl ⟨rfl, fun w hS => by go_simp⟩) ⟨HP3a.out.at_ (k := 3) rfl, HP3a.out.at_ (k := 4) rfl⟩ ?_
      simp only [Act.put, List.getElem_toArray, List.getElem_cons_succ, List.getElem_cons_zero, List.setIfInBounds_toArray, List.set_cons_zero, List.set_cons_succ]
      refine wpAnyH_take (i := 9) (v := .bool B3) rfl (by kernel_rfl) (by kernel_rfl) (by kernel_rfl) (fun _ _ _ h => h) (.inl ⟨rfl, fun w hS => by go_simp⟩) ⟨HP3a.out.at_ (k := 3) rfl, HP3a.out.at_ (k := 4) rfl⟩ ?_
      simp only [Act.put, List.getElem_toArray, List.getElem_cons_succ, List.getElem_cons_zero, List.setIfInBounds_toArray, List.set_cons_zero, List.set_cons_succ]
      refine wpAnyH_ready (rs := [10]) (by kernel_rfl) (by simp) ?_
      refine AllReadyH.cons rfl (fun KK hK => ?_) AllReadyH.nil
      go_simp
      have hn := HP3a.out.new (.cells (reC 0 0) 62)
      have bn := Blk.new w3a 62 (reC 0 0)
      have hv := HP3a.out.lt
      obtain ⟨V9, hV⟩ : ∃ V, w3a.heap.size = V := ⟨_, rfl⟩
      rw [hV] at bn hv ⊢
      unfold reC at bn hn
      generalize (w3a.alloc (.cells _ 62)) = w3b at bn hn ⊢
      have HP3b := Lib.hid hn
      have BN := Lib.hid bn
      clear bn hn hV
      refine hK.out _ _ ⟨HP3b.out.at_ (k := 3) rfl, HP3b.out.at_ (k := 4) rfl⟩ (fun _ => ?_)
      clear hK KK
      try simp only [Act.put, List.getElem_toArray, List.getElem_cons_succ, List.getElem_cons_zero, List.setIfInBounds_toArray, List.set_cons_zero, List.set_cons_succ]
      refine wpAnyH_ready (rs := [11]) (by kernel_rfl) (by simp) ?_
      refine AllReadyH.cons rfl (fun KK hK => ?_) AllReadyH.nil
      refine (if_pos (show Region.wanted _ _ = true by rfl)).mpr ?_
      refine wp_store_row 62 (.tmp 9) (.tmp 63) rfl V9 (reC N3 M3) rfl rfl 62 (reC 0 0) BN.out re_size rfl (re_one _ _) ?_
      have hn := HP3b.out.row hv (reC N3 M3)
      have bn : Blk (w3b.setRow V9 (reC N3 M3)) V9 62 (reC N3 M3) := setRow_heap _ _ _ _ _ _ BN.out
      generalize w3b.setRow V9 (reC N3 M3) = w3c at bn hn ⊢
      have HP3c := Lib.hid hn
      have BVV9 := Lib.hid bn
      clear bn hn BN HP3b
      refine hK.out _ _ ⟨HP3c.out.at_ (k := 3) rfl, HP3c.out.at_ (k := 4) rfl⟩ (fun _ => ?_)
      clear hK KK
      try simp only [Act.put, List.getElem_toArray, List.getElem_cons_succ, List.getElem_cons_zero, List.setIfInBounds_toArray, List.set_cons_zero, List.set_cons_succ]
      refine wpAnyH_take (i := 12) (v := .bool B3) rfl (by kernel_rfl) (by kernel_rfl) (by kernel_rfl) (fun _ _ _ h => h) (.inl ⟨rfl, fun w hS => by go_simp⟩) ⟨HP3c.out.at_ (k := 3) rfl, HP3c.out.at_ (k := 4) rfl⟩ ?_
      simp only [Act.put, List.getElem_toArray, List.getElem_cons_succ, List.getElem_cons_zero, List.setIfInBounds_toArray, List.set_cons_zero, List.set_cons_succ]
      refine wpAnyH_done (by kernel_rfl) ?_ _
      go_upto_region 9 with fail
      refine wp_region_held_drew (S := (fun W' : World => W'.cell? ⟨w.heap.size + 1, 6, none⟩ = some (.string (bs a6)) ∧ W'.cell? ⟨w.heap.size + 1, 7, none⟩ = some (.string (bs a7)))) (by kernel_rfl) ⟨HP3c.out.at_ (k := 6) rfl, HP3c.out.at_ (k := 7) rfl⟩ (fun H0 => ?_)
      refine wpAnyH_take (i := 0) (v := .slice (some ⟨w.heap.size + 1, 0, none⟩) 8 8) rfl (by kernel_rfl) (by kernel_rfl) (by kernel_rfl) (fun _ _ _ h => h) (.inl ⟨rfl, fun w hS => by go_simp⟩) H0 ?_
      simp only [Act.put, List.getElem_toArray, List.getElem_cons_zero, List.setIfInBounds_toArray, List.set_cons_zero, List.set_cons_succ]
      refine wpAnyH_take (i := 1) (v := .pointer (some ⟨w.heap.size + 1, 6, none⟩)) rfl (by kernel_rfl) (by kernel_rfl) (by kernel_rfl) (fun _ _ _ h => h) (.inl ⟨rfl, fun w hS => by go_simp⟩) H0 ?_
      simp only [Act.put, List.getElem_toArray, List.getElem_cons_succ, List.getElem_cons_zero, List.setIfInBounds_toArray, List.set_cons_zero, List.set_cons_succ]
      refine wpAnyH_take (i := 2) (v := .string (bs a6)) rfl (by kernel_rfl) (by kernel_rfl) (by kernel_rfl) (fun _ _ _ h => h) (.inl ⟨rfl, fun w hS => by obtain ⟨m1, m2⟩ := hS; go_simp⟩) H0 ?_
      simp only [Act.put, List.getElem_toArray, List.getElem_cons_succ, List.getElem_cons_zero, List.setIfInBounds_toArray, List.set_cons_zero, List.set_cons_succ]
      refine wpAnyH_take (i := 3) (v := .slice (some ⟨w.heap.size + 1, 0, none⟩) 8 8) rfl (by kernel_rfl) (by kernel_rfl) (by kernel_rfl) (fun _ _ _ h => h) (.inl ⟨rfl, fun w hS => by go_simp⟩) H0 ?_
      simp only [Act.put, List.getElem_toArray, List.getElem_cons_succ, List.getElem_cons_zero, List.setIfInBounds_toArray, List.set_cons_zero, List.set_cons_succ]
      refine wpAnyH_take (i := 4) (v := .pointer (some ⟨w.heap.size + 1, 7, none⟩)) rfl (by kernel_rfl) (by kernel_rfl) (by kernel_rfl) (fun _ _ _ h => h) (.inl ⟨rfl, fun w hS => by go_simp⟩) H0 ?_
      simp only [Act.put, List.getElem_toArray, List.getElem_cons_succ, List.getElem_cons_zero, List.setIfInBounds_toArray, List.set_cons_zero, List.set_cons_succ]
      refine wpAnyH_take (i := 5) (v := .string (bs a7)) rfl (by kernel_rfl) (by kernel_rfl) (by kernel_rfl) (fun _ _ _ h => h) (.inl ⟨rfl, fun w hS => by obtain ⟨m1, m2⟩ := hS; go_simp⟩) H0 ?_
      simp only [Act.put, List.getElem_toArray, List.getElem_cons_succ, List.getElem_cons_zero, List.setIfInBounds_toArray, List.set_cons_zero, List.set_cons_succ]
      refine wpAnyH_ready (rs := [6, 10]) (by kernel_rfl) (by simp) ?_
      refine AllReadyH.cons rfl (fun KK hK => ?_) (AllReadyH.cons rfl (fun KK hK => ?_) AllReadyH.nil)
      · refine step_call rfl 33 #[.tmp 68, .tmp 71] #[9, 9] rfl #[.string (bs a6), .string (bs a7)] (by simp [Act.eval]) (enters_of Tryd.func33 (by kernel_rfl) rfl) ?_
        refine (C4.out w3c.drew).mono ?_
        rintro r w3ca ⟨rfl, b4⟩
        have b4 : Below w3c.heap.size w3c w3ca := ⟨b4.os, b4.tape, b4.output, b4.size, b4.block⟩
        have HP3ca := Lib.hid (HP3c.out.on b4)
        have BVV9a := Lib.hid (BVV9.out.on b4)
        clear b4 H0
        refine ⟨_, rfl, hK.out _ _ ⟨HP3ca.out.at_ (k := 6) rfl, HP3ca.out.at_ (k := 7) rfl⟩ (fun _ => ?_)⟩
        clear hK KK
        simp only [Act.put, List.getElem_toArray, List.getElem_cons_succ, List.getElem_cons_zero, List.setIfInBounds_toArray, List.set_cons_zero, List.set_cons_succ]
        refine wpAnyH_take (i := 7) (v := .tuple #[.agg (reC N4 M4), .bool B4]) rfl (by kernel_rfl) (by kernel_rfl) (by kernel_rfl) (fun _ _ _ h => h) (.inl ⟨rfl, fun w hS => by go_simp⟩) ⟨HP3ca.out.at_ (k := 6) rfl, HP3ca.out.at_ (k := 7) rfl⟩ ?_
        simp only [Act.put, List.getElem_toArray, List.getElem_cons_succ, List.getElem_cons_zero, List.setIfInBounds_toArray, List.set_cons_zero, List.set_cons_succ]
        refine wpAnyH_take (i := 8) (v := .agg (reC N4 M4)) rfl (by kernel_rfl) (by kernel_rfl) (by kernel_rfl) (fun _ _ _ h => h) (.inl ⟨rfl, fun w hS => by go_simp⟩) ⟨HP3ca.out.at_ (k := 6) rfl, HP3ca.out.at_ (k := 7) rfl⟩ ?_
        simp only [Act.put, List.getElem_toArray, List.getElem_cons_succ, List.getElem_cons_zero, List.setIfInBounds_toArray, List.set_cons_zero, List.set_cons_succ]
        refine wpAnyH_take (i := 9) (v := .bool B4) rfl (by kernel_rfl) (by kernel_rfl) (by kernel_rfl) (fun _ _ _ h => h) (.inl ⟨rfl, fun w hS => by go_simp⟩) ⟨HP3ca.out.at_ (k := 6) rfl, HP3ca.out.at_ (k := 7) rfl⟩ ?_
        simp only [Act.put, List.getElem_toArray, List.getElem_cons_succ, List.getElem_cons_zero, List.setIfInBounds_toArray, List.set_cons_zero, List.set_cons_succ]
        refine wpAnyH_ready (rs := [10]) (by kernel_rfl) (by simp) ?_
        refine AllReadyH.cons rfl (fun KK hK => ?_) AllReadyH.nil
        go_simp
        have hn := HP3ca.out.new (.cells (reC 0 0) 62)
        have bn := Blk.new w3ca 62 (reC 0 0)
        have hv := HP3ca.out.lt
        have hxBVV9 := BVV9a.out.alloc (.cells (reC 0 0) 62)
        have hltBVV9 := BVV9a.out.lt
        obtain ⟨V11, hV⟩ : ∃ V, w3ca.heap.size = V := ⟨_, rfl⟩
        rw [hV] at bn hv hltBVV9 ⊢
        unfold reC at bn hn hxBVV9
        generalize (w3ca.alloc (.cells _ 62)) = w3cb at bn hn hxBVV9 ⊢
        have HP3cb := Lib.hid hn
        have BN := Lib.hid bn
        have BVV9b := Lib.hid hxBVV9
        clear bn hn hV hxBVV9
        refine hK.out _ _ ⟨HP3cb.out.at_ (k := 6) rfl, HP3cb.out.at_ (k := 7) rfl⟩ (fun _ => ?_)
        clear hK KK
        try simp only [Act.put, List.getElem_toArray, List.getElem_cons_succ, List.getElem_cons_zero, List.setIfInBounds_toArray, List.set_cons_zero, List.set_cons_succ]
        refine wpAnyH_ready (rs := [11]) (by kernel_rfl) (by simp) ?_
        refine AllReadyH.cons rfl (fun KK hK => ?_) AllReadyH.nil
        refine (if_pos (show Region.wanted _ _ = true by rfl)).mpr ?_
        refine wp_store_row 62 (.tmp 11) (.tmp 73) rfl V11 (reC N4 M4) rfl rfl 62 (reC 0 0) BN.out re_size rfl (re_one _ _) ?_
        have hn := HP3cb.out.row hv (reC N4 M4)
        have bn : Blk (w3cb.setRow V11 (reC N4 M4)) V11 62 (reC N4 M4) := setRow_heap _ _ _ _ _ _ BN.out
        have hxBVV9 : Blk (w3cb.setRow V11 (reC N4 M4)) V9 62 (reC N3 M3) := (setRow_other w3cb V11 _ _ (by omega)).trans BVV9b.out
        generalize w3cb.setRow V11 (reC N4 M4) = w3cc at bn hn hxBVV9 ⊢
        have HP3cc := Lib.hid hn
        have BVV11 := Lib.hid bn
        have BVV9c := Lib.hid hxBVV9
        clear bn hn BN HP3cb BVV9b hxBVV9
        refine hK.out _ _ ⟨HP3cc.out.at_ (k := 6) rfl, HP3cc.out.at_ (k := 7) rfl⟩ (fun _ => ?_)
        clear hK KK
        try simp only [Act.put, List.getElem_toArray, List.getElem_cons_succ, List.getElem_cons_zero, List.setIfInBounds_toArray, List.set_cons_zero, List.set_cons_succ]
        refine wpAnyH_take (i := 12) (v := .bool B4) rfl (by kernel_rfl) (by kernel_rfl) (by kernel_rfl) (fun _ _ _ h => h) (.inl ⟨rfl, fun w hS => by go_simp⟩) ⟨HP3cc.out.at_ (k := 6) rfl, HP3cc.out.at_ (k := 7) rfl⟩ ?_
        simp only [Act.put, List.getElem_toArray, List.getElem_cons_succ, List.getElem_cons_zero, List.setIfInBounds_toArray, List.set_cons_zero, List.set_cons_succ]
        refine wpAnyH_done (by kernel_rfl) ?_ _
        by_cases hall : (B1 && B2 && B3 && B4) = true
        · obtain ⟨⟨⟨b1, b2⟩, b3⟩, b4⟩ : ((B1 = true ∧ B2 = true) ∧ B3 = true) ∧ B4 = true := by simpa using hall
          have hso := HO.out
          rw [hall] at hso
          obtain ⟨x, hx⟩ := Option.isSome_iff_exists.1 hso
          have hxe := HQ.out x hx
          have HR := Lib.hid (HRS.out x hx)
          have HXE := Lib.hid hxe
          clear hall hso hx hxe
          go_upto_region 12 with fail
          have v0 := BVV9c.out.cell 0
          have v1 := BVV9c.out.cell 1
          have u0 := BVV11.out.cell 0
          have u1 := BVV11.out.cell 1
          unfold reC at v0 v1 u0 u1
          simp only [List.getElem?_toArray, List.getElem?_cons_zero, List.getElem?_cons_succ] at v0 v1 u0 u1
          have x0 := HP3cc.out.at_ (k := 0) rfl
          refine wp_region_held_drew (S := (fun W' : World => W'.cell? ⟨V9, 0, none⟩ = some (.int .i64 N3) ∧ W'.cell? ⟨V9, 1, none⟩ = some (.int .i64 M3) ∧ W'.cell? ⟨V11, 0, none⟩ = some (.int .i64 N4) ∧ W'.cell? ⟨V11, 1, none⟩ = some (.int .i64 M4) ∧ W'.cell? ⟨w.heap.size + 1, 0, none⟩ = some (.string (bs a0)))) (by kernel_rfl) ⟨v0, v1, u0, u1, x0⟩ (fun H0 => ?_)
          refine wpAnyH_take (i := 0) (v := .int .i64 N1) rfl (by kernel_rfl) (by kernel_rfl) (by kernel_rfl) (fun _ _ _ h => h) (.inl ⟨rfl, fun w hS => by go_simp⟩) H0 ?_
          simp only [Act.put, List.getElem_toArray, List.getElem_cons_zero, List.setIfInBounds_toArray, List.set_cons_zero, List.set_cons_succ]
          refine wpAnyH_take (i := 1) (v := .int .i64 N2) rfl (by kernel_rfl) (by kernel_rfl) (by kernel_rfl) (fun _ _ _ h => h) (.inl ⟨rfl, fun w hS => by go_simp⟩) H0 ?_
          simp only [Act.put, List.getElem_toArray, List.getElem_cons_succ, List.getElem_cons_zero, List.setIfInBounds_toArray, List.set_cons_zero, List.set_cons_succ]
          refine wpAnyH_take (i := 2) (v := .pointer (some ⟨V9, 0, none⟩)) rfl (by kernel_rfl) (by kernel_rfl) (by kernel_rfl) (fun _ _ _ h => h) (.inl ⟨rfl, fun w hS => by go_simp⟩) H0 ?_
          simp only [Act.put, List.getElem_toArray, List.getElem_cons_succ, List.getElem_cons_zero, List.setIfInBounds_toArray, List.set_cons_zero, List.set_cons_succ]
          refine wpAnyH_take (i := 3) (v := .int .i64 N3) rfl (by kernel_rfl) (by kernel_rfl) (by kernel_rfl) (fun _ _ _ h => h) (.inl ⟨rfl, fun w hS => by obtain ⟨m1, m2, m3, m4, m5⟩ := hS; go_simp⟩) H0 ?_
          simp only [Act.put, List.getElem_toArray, List.getElem_cons_succ, List.getElem_cons_zero, List.setIfInBounds_toArray, List.set_cons_zero, List.set_cons_succ]
          refine wpAnyH_take (i := 4) (v := .pointer (some ⟨V9, 1, none⟩)) rfl (by kernel_rfl) (by kernel_rfl) (by kernel_rfl) (fun _ _ _ h => h) (.inl ⟨rfl, fun w hS => by go_simp⟩) H0 ?_
          simp only [Act.put, List.getElem_toArray, List.getElem_cons_succ, List.getElem_cons_zero, List.setIfInBounds_toArray, List.set_cons_zero, List.set_cons_succ]
          refine wpAnyH_take (i := 5) (v := .int .i64 M3) rfl (by kernel_rfl) (by kernel_rfl) (by kernel_rfl) (fun _ _ _ h => h) (.inl ⟨rfl, fun w hS => by obtain ⟨m1, m2, m3, m4, m5⟩ := hS; go_simp⟩) H0 ?_
          simp only [Act.put, List.getElem_toArray, List.getElem_cons_succ, List.getElem_cons_zero, List.setIfInBounds_toArray, List.set_cons_zero, List.set_cons_succ]
          refine wpAnyH_take (i := 6) (v := .agg #[.int .i64 N1, .int .i64 N2, .int .i64 N3, .int .i64 M3]) rfl (by kernel_rfl) (by kernel_rfl) (by kernel_rfl) (fun _ _ _ h => h) (.inl ⟨rfl, fun w hS => by go_simp⟩) H0 ?_
          simp only [Act.put, List.getElem_toArray, List.getElem_cons_succ, List.getElem_cons_zero, List.setIfInBounds_toArray, List.set_cons_zero, List.set_cons_succ]
          refine wpAnyH_take (i := 7) (v := .int .i64 N2) rfl (by kernel_rfl) (by kernel_rfl) (by kernel_rfl) (fun _ _ _ h => h) (.inl ⟨rfl, fun w hS => by go_simp⟩) H0 ?_
          simp only [Act.put, List.getElem_toArray, List.getElem_cons_succ, List.getElem_cons_zero, List.setIfInBounds_toArray, List.set_cons_zero, List.set_cons_succ]
          refine wpAnyH_take (i := 8) (v := .pointer (some ⟨V11, 0, none⟩)) rfl (by kernel_rfl) (by kernel_rfl) (by kernel_rfl) (fun _ _ _ h => h) (.inl ⟨rfl, fun w hS => by go_simp⟩) H0 ?_
          simp only [Act.put, List.getElem_toArray, List.getElem_cons_succ, List.getElem_cons_zero, List.setIfInBounds_toArray, List.set_cons_zero, List.set_cons_succ]
          refine wpAnyH_take (i := 9) (v := .int .i64 N4) rfl (by kernel_rfl) (by kernel_rfl) (by kernel_rfl) (fun _ _ _ h => h) (.inl ⟨rfl, fun w hS => by obtain ⟨m1, m2, m3, m4, m5⟩ := hS; go_simp⟩) H0 ?_
          simp only [Act.put, List.getElem_toArray, List.getElem_cons_succ, List.getElem_cons_zero, List.setIfInBounds_toArray, List.set_cons_zero, List.set_cons_succ]
          refine wpAnyH_take (i := 10) (v := .pointer (some ⟨V11, 1, none⟩)) rfl (by kernel_rfl) (by kernel_rfl) (by kernel_rfl) (fun _ _ _ h => h) (.inl ⟨rfl, fun w hS => by go_simp⟩) H0 ?_
          simp only [Act.put, List.getElem_toArray, List.getElem_cons_succ, List.getElem_cons_zero, List.setIfInBounds_toArray, List.set_cons_zero, List.set_cons_succ]
          refine wpAnyH_take (i := 11) (v := .int .i64 M4) rfl (by kernel_rfl) (by kernel_rfl) (by kernel_rfl) (fun _ _ _ h => h) (.inl ⟨rfl, fun w hS => by obtain ⟨m1, m2, m3, m4, m5⟩ := hS; go_simp⟩) H0 ?_
          simp only [Act.put, List.getElem_toArray, List.getElem_cons_succ, List.getElem_cons_zero, List.setIfInBounds_toArray, List.set_cons_zero, List.set_cons_succ]
          refine wpAnyH_take (i := 12) (v := .agg #[.int .i64 N2, .int .i64 N4, .int .i64 M4]) rfl (by kernel_rfl) (by kernel_rfl) (by kernel_rfl) (fun _ _ _ h => h) (.inl ⟨rfl, fun w hS => by go_simp⟩) H0 ?_
          simp only [Act.put, List.getElem_toArray, List.getElem_cons_succ, List.getElem_cons_zero, List.setIfInBounds_toArray, List.set_cons_zero, List.set_cons_succ]
          refine wpAnyH_take (i := 13) (v := .slice (some ⟨w.heap.size + 1, 0, none⟩) 8 8) rfl (by kernel_rfl) (by kernel_rfl) (by kernel_rfl) (fun _ _ _ h => h) (.inl ⟨rfl, fun w hS => by go_simp⟩) H0 ?_
          simp only [Act.put, List.getElem_toArray, List.getElem_cons_succ, List.getElem_cons_zero, List.setIfInBounds_toArray, List.set_cons_zero, List.set_cons_succ]
          refine wpAnyH_take (i := 14) (v := .pointer (some ⟨w.heap.size + 1, 0, none⟩)) rfl (by kernel_rfl) (by kernel_rfl) (by kernel_rfl) (fun _ _ _ h => h) (.inl ⟨rfl, fun w hS => by go_simp⟩) H0 ?_
          simp only [Act.put, List.getElem_toArray, List.getElem_cons_succ, List.getElem_cons_zero, List.setIfInBounds_toArray, List.set_cons_zero, List.set_cons_succ]
          refine wpAnyH_take (i := 15) (v := .string (bs a0)) rfl (by kernel_rfl) (by kernel_rfl) (by kernel_rfl) (fun _ _ _ h => h) (.inl ⟨rfl, fun w hS => by obtain ⟨m1, m2, m3, m4, m5⟩ := hS; go_simp⟩) H0 ?_
          simp only [Act.put, List.getElem_toArray, List.getElem_cons_succ, List.getElem_cons_zero, List.setIfInBounds_toArray, List.set_cons_zero, List.set_cons_succ]
          refine wpAnyH_take (i := 16) (v := .bool true) rfl (by kernel_rfl) (by kernel_rfl) (by kernel_rfl) (fun _ _ _ h => h) (.inl ⟨rfl, fun w hS => by go_simp⟩) H0 ?_
          simp only [Act.put, List.getElem_toArray, List.getElem_cons_succ, List.getElem_cons_zero, List.setIfInBounds_toArray, List.set_cons_zero, List.set_cons_succ]
          refine wpAnyH_take (i := 17) (v := .agg (bdC ((N1, N2, N3, M3), (N2, N4, M4), true))) rfl (by kernel_rfl) (by kernel_rfl) (by kernel_rfl) (fun _ _ _ h => h) (.inl ⟨rfl, fun w hS => by go_simp; first | done | rfl⟩) H0 ?_
          simp only [Act.put, List.getElem_toArray, List.getElem_cons_succ, List.getElem_cons_zero, List.setIfInBounds_toArray, List.set_cons_zero, List.set_cons_succ]
          refine wpAnyH_ready (rs := [18]) (by kernel_rfl) (by simp) ?_
          refine AllReadyH.cons rfl (fun KK hK => ?_) AllReadyH.nil
          refine (if_pos (show Region.wanted _ _ = true by rfl)).mpr ?_
          refine wp_store_row 28 (.tmp 2) (.tmp 107) rfl w.heap.size (bdC ((N1, N2, N3, M3), (N2, N4, M4), true)) rfl rfl 28 (bdC zeroB) HP3cc.out.1 bd_size rfl (bd_one _) ?_
          have hlt9 := HP3cc.out.lt
          have hfar : ∀ (p : Addr), w.heap.size ≠ p.block → (w3cc.drew.setRow w.heap.size (bdC ((N1, N2, N3, M3), (N2, N4, M4), true))).cell? p = w3cc.cell? p := fun p hp => World.cell?_of_block (setRow_other w3cc.drew w.heap.size _ _ (Ne.symm hp))
          have hS' := (⟨(hfar ⟨V9, 0, none⟩ (by simp only; omega)).trans v0, (hfar ⟨V9, 1, none⟩ (by simp only; omega)).trans v1, (hfar ⟨V11, 0, none⟩ (by simp only; omega)).trans u0, (hfar ⟨V11, 1, none⟩ (by simp only; omega)).trans u1, (hfar ⟨w.heap.size + 1, 0, none⟩ (by simp only; omega)).trans x0⟩ : (fun W' : World => W'.cell? ⟨V9, 0, none⟩ = some (.int .i64 N3) ∧ W'.cell? ⟨V9, 1, none⟩ = some (.int .i64 M3) ∧ W'.cell? ⟨V11, 0, none⟩ = some (.int .i64 N4) ∧ W'.cell? ⟨V11, 1, none⟩ = some (.int .i64 M4) ∧ W'.cell? ⟨w.heap.size + 1, 0, none⟩ = some (.string (bs a0))) (w3cc.drew.setRow w.heap.size (bdC ((N1, N2, N3, M3), (N2, N4, M4), true))))
          refine hK.out _ _ hS' (fun _ => ?_)
          clear hK KK
          try simp only [Act.put, List.getElem_toArray, List.getElem_cons_succ, List.getElem_cons_zero, List.setIfInBounds_toArray, List.set_cons_zero, List.set_cons_succ]
          refine wpAnyH_take (i := 19) (v := .int .i64 0) rfl (by kernel_rfl) (by kernel_rfl) (by kernel_rfl) (fun _ _ _ h => h) (.inl ⟨rfl, fun w hS => by go_simp⟩) hS' ?_
          simp only [Act.put, List.getElem_toArray, List.getElem_cons_succ, List.getElem_cons_zero, List.setIfInBounds_toArray, List.set_cons_zero, List.set_cons_succ]
          refine wpAnyH_done (by kernel_rfl) ?_ _
          go_wp2_with fail
          refine read_ret (w := w) (q := ((N1, N2, N3, M3), (N2, N4, M4), true)) (z := 0) rfl rfl rfl (setRow_heap _ _ _ _ _ _ HP3cc.out.1) ⟨by rw [HR.out, HXE.out], below_setRow HP3cc.out.2.2.drew (Nat.le_refl _) _⟩
        · have hso := HO.out
          have hon : O = none := by
            cases O with
            | none => rfl
            | some x => exact absurd hso.symm hall
          have HR := Lib.hid (HRN.out hon)
          clear hso hon
          go_upto_region 10 with fail
          go_wp2_with (refine wpList_store_row rfl 28 (.tmp 2) (.tmp 89) rfl w.heap.size (bdC zeroB) rfl rfl 28 (bdC zeroB) HP3cc.out.1 bd_size rfl (bd_one _) ?_)
          all_goals first
            | (exfalso; apply hall; simp only [Bool.and_eq_true]; refine ⟨⟨⟨?_, ?_⟩, ?_⟩, ?_⟩ <;> first | assumption | exact of_not (by assumption))
            | (refine read_ret (w := w) (q := zeroB) (z := 13) rfl rfl rfl (setRow_heap _ _ _ _ _ _ HP3cc.out.1) ⟨by rw [HR.out], below_setRow HP3cc.out.2.2 (Nat.le_refl _) _⟩)
      · go_simp
        have hn := HP3c.out.new (.cells (reC 0 0) 62)
        have bn := Blk.new w3c 62 (reC 0 0)
        have hv := HP3c.out.lt
        have hxBVV9 := BVV9.out.alloc (.cells (reC 0 0) 62)
        have hltBVV9 := BVV9.out.lt
        obtain ⟨V11, hV⟩ : ∃ V, w3c.heap.size = V := ⟨_, rfl⟩
        rw [hV] at bn hv hltBVV9 ⊢
        obtain ⟨w3ca, hw4⟩ : ∃ W, (w3c.alloc (.cells (reC 0 0) 62)).drew = W := ⟨_, rfl⟩
        have bn : Blk w3ca V11 62 (reC 0 0) := by rw [← hw4]; exact bn
        have hn : PB w [a0, a1, a2, a3, a4, a5, a6, a7] w3ca := by rw [← hw4]; exact ⟨hn.1, hn.2.1, hn.2.2.drew⟩
        have hxBVV9 : Blk w3ca V9 62 (reC N3 M3) := by rw [← hw4]; exact hxBVV9
        unfold reC at hw4 bn hxBVV9
        rw [hw4]
        have HP3ca := Lib.hid hn
        have BN0 := Lib.hid bn
        have BVV9a := Lib.hid hxBVV9
        clear bn hn hV hw4 H0 hxBVV9
        refine hK.out _ _ ⟨HP3ca.out.at_ (k := 6) rfl, HP3ca.out.at_ (k := 7) rfl⟩ (fun _ => ?_)
        clear hK KK
        try simp only [Act.put, List.getElem_toArray, List.getElem_cons_succ, List.getElem_cons_zero, List.setIfInBounds_toArray, List.set_cons_zero, List.set_cons_succ]
        refine wpAnyH_ready (rs := [6]) (by kernel_rfl) (by simp) ?_
        refine AllReadyH.cons rfl (fun KK hK => ?_) AllReadyH.nil
        refine step_call rfl 33 #[.tmp 68, .tmp 71] #[9, 9] rfl #[.string (bs a6), .string (bs a7)] (by simp [Act.eval]) (enters_of Tryd.func33 (by kernel_rfl) rfl) ?_
        refine (C4.out _).mono ?_
        rintro r w3cb ⟨rfl, b4⟩
        have HP3cb := Lib.hid (HP3ca.out.on b4)
        have BN := Lib.hid (BN0.out.on b4)
        have BVV9b := Lib.hid (BVV9a.out.on b4)
        clear b4
        refine ⟨_, rfl, hK.out _ _ ⟨HP3cb.out.at_ (k := 6) rfl, HP3cb.out.at_ (k := 7) rfl⟩ (fun _ => ?_)⟩
        clear hK KK
        simp only [Act.put, List.getElem_toArray, List.getElem_cons_succ, List.getElem_cons_zero, List.setIfInBounds_toArray, List.set_cons_zero, List.set_cons_succ]
        refine wpAnyH_take (i := 7) (v := .tuple #[.agg (reC N4 M4), .bool B4]) rfl (by kernel_rfl) (by kernel_rfl) (by kernel_rfl) (fun _ _ _ h => h) (.inl ⟨rfl, fun w hS => by go_simp⟩) ⟨HP3cb.out.at_ (k := 6) rfl, HP3cb.out.at_ (k := 7) rfl⟩ ?_
        simp only [Act.put, List.getElem_toArray, List.getElem_cons_succ, List.getElem_cons_zero, List.setIfInBounds_toArray, List.set_cons_zero, List.set_cons_succ]
        refine wpAnyH_take (i := 8) (v := .agg (reC N4 M4)) rfl (by kernel_rfl) (by kernel_rfl) (by kernel_rfl) (fun _ _ _ h => h) (.inl ⟨rfl, fun w hS => by go_simp⟩) ⟨HP3cb.out.at_ (k := 6) rfl, HP3cb.out.at_ (k := 7) rfl⟩ ?_
        simp only [Act.put, List.getElem_toArray, List.getElem_cons_succ, List.getElem_cons_zero, List.setIfInBounds_toArray, List.set_cons_zero, List.set_cons_succ]
        refine wpAnyH_take (i := 9) (v := .bool B4) rfl (by kernel_rfl) (by kernel_rfl) (by kernel_rfl) (fun _ _ _ h => h) (.inl ⟨rfl, fun w hS => by go_simp⟩) ⟨HP3cb.out.at_ (k := 6) rfl, HP3cb.out.at_ (k := 7) rfl⟩ ?_
        simp only [Act.put, List.getElem_toArray, List.getElem_cons_succ, List.getElem_cons_zero, List.setIfInBounds_toArray, List.set_cons_zero, List.set_cons_succ]
        refine wpAnyH_ready (rs := [11]) (by kernel_rfl) (by simp) ?_
        refine AllReadyH.cons rfl (fun KK hK => ?_) AllReadyH.nil
        refine (if_pos (show Region.wanted _ _ = true by rfl)).mpr ?_
        refine wp_store_row 62 (.tmp 11) (.tmp 73) rfl V11 (reC N4 M4) rfl rfl 62 (reC 0 0) BN.out re_size rfl (re_one _ _) ?_
        have hn := HP3cb.out.row hv (reC N4 M4)
        have bn : Blk (w3cb.setRow V11 (reC N4 M4)) V11 62 (reC N4 M4) := setRow_heap _ _ _ _ _ _ BN.out
        have hxBVV9 : Blk (w3cb.setRow V11 (reC N4 M4)) V9 62 (reC N3 M3) := (setRow_other w3cb V11 _ _ (by omega)).trans BVV9b.out
        generalize w3cb.setRow V11 (reC N4 M4) = w3cc at bn hn hxBVV9 ⊢
        have HP3cc := Lib.hid hn
        have BVV11 := Lib.hid bn
        have BVV9c := Lib.hid hxBVV9
        clear bn hn BN HP3cb BVV9b hxBVV9
        refine hK.out _ _ ⟨HP3cc.out.at_ (k := 6) rfl, HP3cc.out.at_ (k := 7) rfl⟩ (fun _ => ?_)
        clear hK KK
        try simp only [Act.put, List.getElem_toArray, List.getElem_cons_succ, List.getElem_cons_zero, List.setIfInBounds_toArray, List.set_cons_zero, List.set_cons_succ]
        refine wpAnyH_take (i := 12) (v := .bool B4) rfl (by kernel_rfl) (by kernel_rfl) (by kernel_rfl) (fun _ _ _ h => h) (.inl ⟨rfl, fun w hS => by go_simp⟩) ⟨HP3cc.out.at_ (k := 6) rfl, HP3cc.out.at_ (k := 7) rfl⟩ ?_
        simp only [Act.put, List.getElem_toArray, List.getElem_cons_succ, List.getElem_cons_zero, List.setIfInBounds_toArray, List.set_cons_zero, List.set_cons_succ]
        refine wpAnyH_done (by kernel_rfl) ?_ _
        by_cases hall : (B1 && B2 && B3 && B4) = true
        · obtain ⟨⟨⟨b1, b2⟩, b3⟩, b4⟩ : ((B1 = true ∧ B2 = true) ∧ B3 = true) ∧ B4 = true := by simpa using hall
          have hso := HO.out
          rw [hall] at hso
          obtain ⟨x, hx⟩ := Option.isSome_iff_exists.1 hso
          have hxe := HQ.out x hx
          have HR := Lib.hid (HRS.out x hx)
          have HXE := Lib.hid hxe
          clear hall hso hx hxe
          go_upto_region 12 with fail
          have v0 := BVV9c.out.cell 0
          have v1 := BVV9c.out.cell 1
          have u0 := BVV11.out.cell 0
          have u1 := BVV11.out.cell 1
          unfold reC at v0 v1 u0 u1
          simp only [List.getElem?_toArray, List.getElem?_cons_zero, List.getElem?_cons_succ] at v0 v1 u0 u1
          have x0 := HP3cc.out.at_ (k := 0) rfl
          refine wp_region_held_drew (S := (fun W' : World => W'.cell? ⟨V9, 0, none⟩ = some (.int .i64 N3) ∧ W'.cell? ⟨V9, 1, none⟩ = some (.int .i64 M3) ∧ W'.cell? ⟨V11, 0, none⟩ = some (.int .i64 N4) ∧ W'.cell? ⟨V11, 1, none⟩ = some (.int .i64 M4) ∧ W'.cell? ⟨w.heap.size + 1, 0, none⟩ = some (.string (bs a0)))) (by kernel_rfl) ⟨v0, v1, u0, u1, x0⟩ (fun H0 => ?_)
          refine wpAnyH_take (i := 0) (v := .int .i64 N1) rfl (by kernel_rfl) (by kernel_rfl) (by kernel_rfl) (fun _ _ _ h => h) (.inl ⟨rfl, fun w hS => by go_simp⟩) H0 ?_
          simp only [Act.put, List.getElem_toArray, List.getElem_cons_zero, List.setIfInBounds_toArray, List.set_cons_zero, List.set_cons_succ]
          refine wpAnyH_take (i := 1) (v := .int .i64 N2) rfl (by kernel_rfl) (by kernel_rfl) (by kernel_rfl) (fun _ _ _ h => h) (.inl ⟨rfl, fun w hS => by go_simp⟩) H0 ?_
          simp only [Act.put, List.getElem_toArray, List.getElem_cons_succ, List.getElem_cons_zero, List.setIfInBounds_toArray, List.set_cons_zero, List.set_cons_succ]
          refine wpAnyH_take (i := 2) (v := .pointer (some ⟨V9, 0, none⟩)) rfl (by kernel_rfl) (by kernel_rfl) (by kernel_rfl) (fun _ _ _ h => h) (.inl ⟨rfl, fun w hS => by go_simp⟩) H0 ?_
          simp only [Act.put, List.getElem_toArray, List.getElem_cons_succ, List.getElem_cons_zero, List.setIfInBounds_toArray, List.set_cons_zero, List.set_cons_succ]
          refine wpAnyH_take (i := 3) (v := .int .i64 N3) rfl (by kernel_rfl) (by kernel_rfl) (by kernel_rfl) (fun _ _ _ h => h) (.inl ⟨rfl, fun w hS => by obtain ⟨m1, m2, m3, m4, m5⟩ := hS; go_simp⟩) H0 ?_
          simp only [Act.put, List.getElem_toArray, List.getElem_cons_succ, List.getElem_cons_zero, List.setIfInBounds_toArray, List.set_cons_zero, List.set_cons_succ]
          refine wpAnyH_take (i := 4) (v := .pointer (some ⟨V9, 1, none⟩)) rfl (by kernel_rfl) (by kernel_rfl) (by kernel_rfl) (fun _ _ _ h => h) (.inl ⟨rfl, fun w hS => by go_simp⟩) H0 ?_
          simp only [Act.put, List.getElem_toArray, List.getElem_cons_succ, List.getElem_cons_zero, List.setIfInBounds_toArray, List.set_cons_zero, List.set_cons_succ]
          refine wpAnyH_take (i := 5) (v := .int .i64 M3) rfl (by kernel_rfl) (by kernel_rfl) (by kernel_rfl) (fun _ _ _ h => h) (.inl ⟨rfl, fun w hS => by obtain ⟨m1, m2, m3, m4, m5⟩ := hS; go_simp⟩) H0 ?_
          simp only [Act.put, List.getElem_toArray, List.getElem_cons_succ, List.getElem_cons_zero, List.setIfInBounds_toArray, List.set_cons_zero, List.set_cons_succ]
          refine wpAnyH_take (i := 6) (v := .agg #[.int .i64 N1, .int .i64 N2, .int .i64 N3, .int .i64 M3]) rfl (by kernel_rfl) (by kernel_rfl) (by kernel_rfl) (fun _ _ _ h => h) (.inl ⟨rfl, fun w hS => by go_simp⟩) H0 ?_
          simp only [Act.put, List.getElem_toArray, List.getElem_cons_succ, List.getElem_cons_zero, List.setIfInBounds_toArray, List.set_cons_zero, List.set_cons_succ]
          refine wpAnyH_take (i := 7) (v := .int .i64 N2) rfl (by kernel_rfl) (by kernel_rfl) (by kernel_rfl) (fun _ _ _ h => h) (.inl ⟨rfl, fun w hS => by go_simp⟩) H0 ?_
          simp only [Act.put, List.getElem_toArray, List.getElem_cons_succ, List.getElem_cons_zero, List.setIfInBounds_toArray, List.set_cons_zero, List.set_cons_succ]
          refine wpAnyH_take (i := 8) (v := .pointer (some ⟨V11, 0, none⟩)) rfl (by kernel_rfl) (by kernel_rfl) (by kernel_rfl) (fun _ _ _ h => h) (.inl ⟨rfl, fun w hS => by go_simp⟩) H0 ?_
          simp only [Act.put, List.getElem_toArray, List.getElem_cons_succ, List.getElem_cons_zero, List.setIfInBounds_toArray, List.set_cons_zero, List.set_cons_succ]
          refine wpAnyH_take (i := 9) (v := .int .i64 N4) rfl (by kernel_rfl) (by kernel_rfl) (by kernel_rfl) (fun _ _ _ h => h) (.inl ⟨rfl, fun w hS => by obtain ⟨m1, m2, m3, m4, m5⟩ := hS; go_simp⟩) H0 ?_
          simp only [Act.put, List.getElem_toArray, List.getElem_cons_succ, List.getElem_cons_zero, List.setIfInBounds_toArray, List.set_cons_zero, List.set_cons_succ]
          refine wpAnyH_take (i := 10) (v := .pointer (some ⟨V11, 1, none⟩)) rfl (by kernel_rfl) (by kernel_rfl) (by kernel_rfl) (fun _ _ _ h => h) (.inl ⟨rfl, fun w hS => by go_simp⟩) H0 ?_
          simp only [Act.put, List.getElem_toArray, List.getElem_cons_succ, List.getElem_cons_zero, List.setIfInBounds_toArray, List.set_cons_zero, List.set_cons_succ]
          refine wpAnyH_take (i := 11) (v := .int .i64 M4) rfl (by kernel_rfl) (by kernel_rfl) (by kernel_rfl) (fun _ _ _ h => h) (.inl ⟨rfl, fun w hS => by obtain ⟨m1, m2, m3, m4, m5⟩ := hS; go_simp⟩) H0 ?_
          simp only [Act.put, List.getElem_toArray, List.getElem_cons_succ, List.getElem_cons_zero, List.setIfInBounds_toArray, List.set_cons_zero, List.set_cons_succ]
          refine wpAnyH_take (i := 12) (v := .agg #[.int .i64 N2, .int .i64 N4, .int .i64 M4]) rfl (by kernel_rfl) (by kernel_rfl) (by kernel_rfl) (fun _ _ _ h => h) (.inl ⟨rfl, fun w hS => by go_simp⟩) H0 ?_
          simp only [Act.put, List.getElem_toArray, List.getElem_cons_succ, List.getElem_cons_zero, List.setIfInBounds_toArray, List.set_cons_zero, List.set_cons_succ]
          refine wpAnyH_take (i := 13) (v := .slice (some ⟨w.heap.size + 1, 0, none⟩) 8 8) rfl (by kernel_rfl) (by kernel_rfl) (by kernel_rfl) (fun _ _ _ h => h) (.inl ⟨rfl, fun w hS => by go_simp⟩) H0 ?_
          simp only [Act.put, List.getElem_toArray, List.getElem_cons_succ, List.getElem_cons_zero, List.setIfInBounds_toArray, List.set_cons_zero, List.set_cons_succ]
          refine wpAnyH_take (i := 14) (v := .pointer (some ⟨w.heap.size + 1, 0, none⟩)) rfl (by kernel_rfl) (by kernel_rfl) (by kernel_rfl) (fun _ _ _ h => h) (.inl ⟨rfl, fun w hS => by go_simp⟩) H0 ?_
          simp only [Act.put, List.getElem_toArray, List.getElem_cons_succ, List.getElem_cons_zero, List.setIfInBounds_toArray, List.set_cons_zero, List.set_cons_succ]
          refine wpAnyH_take (i := 15) (v := .string (bs a0)) rfl (by kernel_rfl) (by kernel_rfl) (by kernel_rfl) (fun _ _ _ h => h) (.inl ⟨rfl, fun w hS => by obtain ⟨m1, m2, m3, m4, m5⟩ := hS; go_simp⟩) H0 ?_
          simp only [Act.put, List.getElem_toArray, List.getElem_cons_succ, List.getElem_cons_zero, List.setIfInBounds_toArray, List.set_cons_zero, List.set_cons_succ]
          refine wpAnyH_take (i := 16) (v := .bool true) rfl (by kernel_rfl) (by kernel_rfl) (by kernel_rfl) (fun _ _ _ h => h) (.inl ⟨rfl, fun w hS => by go_simp⟩) H0 ?_
          simp only [Act.put, List.getElem_toArray, List.getElem_cons_succ, List.getElem_cons_zero, List.setIfInBounds_toArray, List.set_cons_zero, List.set_cons_succ]
          refine wpAnyH_take (i := 17) (v := .agg (bdC ((N1, N2, N3, M3), (N2, N4, M4), true))) rfl (by kernel_rfl) (by kernel_rfl) (by kernel_rfl) (fun _ _ _ h => h) (.inl ⟨rfl, fun w hS => by go_simp; first | done | rfl⟩) H0 ?_
          simp only [Act.put, List.getElem_toArray, List.getElem_cons_succ, List.getElem_cons_zero, List.setIfInBounds_toArray, List.set_cons_zero, List.set_cons_succ]
          refine wpAnyH_ready (rs := [18]) (by kernel_rfl) (by simp) ?_
          refine AllReadyH.cons rfl (fun KK hK => ?_) AllReadyH.nil
          refine (if_pos (show Region.wanted _ _ = true by rfl)).mpr ?_
          refine wp_store_row 28 (.tmp 2) (.tmp 107) rfl w.heap.size (bdC ((N1, N2, N3, M3), (N2, N4, M4), true)) rfl rfl 28 (bdC zeroB) HP3cc.out.1 bd_size rfl (bd_one _) ?_
          have hlt9 := HP3cc.out.lt
          have hfar : ∀ (p : Addr), w.heap.size ≠ p.block → (w3cc.drew.setRow w.heap.size (bdC ((N1, N2, N3, M3), (N2, N4, M4), true))).cell? p = w3cc.cell? p := fun p hp => World.cell?_of_block (setRow_other w3cc.drew w.heap.size _ _ (Ne.symm hp))
          have hS' := (⟨(hfar ⟨V9, 0, none⟩ (by simp only; omega)).trans v0, (hfar ⟨V9, 1, none⟩ (by simp only; omega)).trans v1, (hfar ⟨V11, 0, none⟩ (by simp only; omega)).trans u0, (hfar ⟨V11, 1, none⟩ (by simp only; omega)).trans u1, (hfar ⟨w.heap.size + 1, 0, none⟩ (by simp only; omega)).trans x0⟩ : (fun W' : World => W'.cell? ⟨V9, 0, none⟩ = some (.int .i64 N3) ∧ W'.cell? ⟨V9, 1, none⟩ = some (.int .i64 M3) ∧ W'.cell? ⟨V11, 0, none⟩ = some (.int .i64 N4) ∧ W'.cell? ⟨V11, 1, none⟩ = some (.int .i64 M4) ∧ W'.cell? ⟨w.heap.size + 1, 0, none⟩ = some (.string (bs a0))) (w3cc.drew.setRow w.heap.size (bdC ((N1, N2, N3, M3), (N2, N4, M4), true))))
          refine hK.out _ _ hS' (fun _ => ?_)
          clear hK KK
          try simp only [Act.put, List.getElem_toArray, List.getElem_cons_succ, List.getElem_cons_zero, List.setIfInBounds_toArray, List.set_cons_zero, List.set_cons_succ]
          refine wpAnyH_take (i := 19) (v := .int .i64 0) rfl (by kernel_rfl) (by kernel_rfl) (by kernel_rfl) (fun _ _ _ h => h) (.inl ⟨rfl, fun w hS => by go_simp⟩) hS' ?_
          simp only [Act.put, List.getElem_toArray, List.getElem_cons_succ, List.getElem_cons_zero, List.setIfInBounds_toArray, List.set_cons_zero, List.set_cons_succ]
          refine wpAnyH_done (by kernel_rfl) ?_ _
          go_wp2_with fail
          refine read_ret (w := w) (q := ((N1, N2, N3, M3), (N2, N4, M4), true)) (z := 0) rfl rfl rfl (setRow_heap _ _ _ _ _ _ HP3cc.out.1) ⟨by rw [HR.out, HXE.out], below_setRow HP3cc.out.2.2.drew (Nat.le_refl _) _⟩
        · have hso := HO.out
          have hon : O = none := by
            cases O with
            | none => rfl
            | some x => exact absurd hso.symm hall
          have HR := Lib.hid (HRN.out hon)
          clear hso hon
          go_upto_region 10 with fail
          go_wp2_with (refine wpList_store_row rfl 28 (.tmp 2) (.tmp 89) rfl w.heap.size (bdC zeroB) rfl rfl 28 (bdC zeroB) HP3cc.out.1 bd_size rfl (bd_one _) ?_)
          all_goals first
            | (exfalso; apply hall; simp only [Bool.and_eq_true]; refine ⟨⟨⟨?_, ?_⟩, ?_⟩, ?_⟩ <;> first | assumption | exact of_not (by assumption))
            | (refine read_ret (w := w) (q := zeroB) (z := 13) rfl rfl rfl (setRow_heap _ _ _ _ _ _ HP3cc.out.1) ⟨by rw [HR.out], below_setRow HP3cc.out.2.2 (Nat.le_refl _) _⟩)
    · go_simp
      have hn := HP3.out.new (.cells (reC 0 0) 62)
      have bn := Blk.new w3 62 (reC 0 0)
      have hv := HP3.out.lt
      obtain ⟨V9, hV⟩ : ∃ V, w3.heap.size = V := ⟨_, rfl⟩
      rw [hV] at bn hv ⊢
      obtain ⟨w3a, hw4⟩ : ∃ W, (w3.alloc (.cells (reC 0 0) 62)).drew = W := ⟨_, rfl⟩
      have bn : Blk w3a V9 62 (reC 0 0) := by rw [← hw4]; exact bn
      have hn : PB w [a0, a1, a2, a3, a4, a5, a6, a7] w3a := by rw [← hw4]; exact ⟨hn.1, hn.2.1, hn.2.2.drew⟩
      unfold reC at hw4 bn
      rw [hw4]
      have HP3a := Lib.hid hn
      have BN0 := Lib.hid bn
      clear bn hn hV hw4 H0
      refine hK.out _ _ ⟨HP3a.out.at_ (k := 3) rfl, HP3a.out.at_ (k := 4) rfl⟩ (fun _ => ?_)
      clear hK KK
      try simp only [Act.put, List.getElem_toArray, List.getElem_cons_succ, List.getElem_cons_zero, List.setIfInBounds_toArray, List.set_cons_zero, List.set_cons_succ]
      refine wpAnyH_ready (rs := [6]) (by kernel_rfl) (by simp) ?_
      refine AllReadyH.cons rfl (fun KK hK => ?_) AllReadyH.nil
      refine step_call rfl 33 #[.tmp 58, .tmp 61] #[9, 9] rfl #[.string (bs a3), .string (bs a4)] (by simp [Act.eval]) (enters_of Tryd.func33 (by kernel_rfl) rfl) ?_
      refine (C3.out _).mono ?_
      rintro r w3b ⟨rfl, b4⟩
      have HP3b := Lib.hid (HP3a.out.on b4)
      have BN := Lib.hid (BN0.out.on b4)
      clear b4
      refine ⟨_, rfl, hK.out _ _ ⟨HP3b.out.at_ (k := 3) rfl, HP3b.out.at_ (k := 4) rfl⟩ (fun _ => ?_)⟩
      clear hK KK
      simp only [Act.put, List.getElem_toArray, List.getElem_cons_succ, List.getElem_cons_zero, List.setIfInBounds_toArray, List.set_cons_zero, List.set_cons_succ]
      refine wpAnyH_take (i := 7) (v := .tuple #[.agg (reC N3 M3), .bool B3]) rfl (by kernel_rfl) (by kernel_rfl) (by kernel_rfl) (fun _ _ _ h => h) (.inl ⟨rfl, fun w hS => by go_simp⟩) ⟨HP3b.out.at_ (k := 3) rfl, HP3b.out.at_ (k := 4) rfl⟩ ?_
      simp only [Act.put, List.getElem_toArray, List.getElem_cons_succ, List.getElem_cons_zero, List.setIfInBounds_toArray, List.set_cons_zero, List.set_cons_succ]
      refine wpAnyH_take (i := 8) (v := .agg (reC N3 M3)) rfl (by kernel_rfl) (by kernel_rfl) (by kernel_rfl) (fun _ _ _ h => h) (.inl ⟨rfl, fun w hS => by go_simp⟩) ⟨HP3b.out.at_ (k := 3) rfl, HP3b.out.at_ (k := 4) rfl⟩ ?_
      simp only [Act.put, List.getElem_toArray, List.getElem_cons_succ, List.getElem_cons_zero, List.setIfInBounds_toArray, List.set_cons_zero, List.set_cons_succ]
      refine wpAnyH_take (i := 9) (v := .bool B3) rfl (by kernel_rfl) (by kernel_rfl) (by kernel_rfl) (fun _ _ _ h => h) (.inl ⟨rfl, fun w hS => by go_simp⟩) ⟨HP3b.out.at_ (k := 3) rfl, HP3b.out.at_ (k := 4) rfl⟩ ?_
      simp only [Act.put, List.getElem_toArray, List.getElem_cons_succ, List.getElem_cons_zero, List.setIfInBounds_toArray, List.set_cons_zero, List.set_cons_succ]
      refine wpAnyH_ready (rs := [11]) (by kernel_rfl) (by simp) ?_
      refine AllReadyH.cons rfl (fun KK hK => ?_) AllReadyH.nil
      refine (if_pos (show Region.wanted _ _ = true by rfl)).mpr ?_
      refine wp_store_row 62 (.tmp 9) (.tmp 63) rfl V9 (reC N3 M3) rfl rfl 62 (reC 0 0) BN.out re_size rfl (re_one _ _) ?_
      have hn := HP3b.out.row hv (reC N3 M3)
      have bn : Blk (w3b.setRow V9 (reC N3 M3)) V9 62 (reC N3 M3) := setRow_heap _ _ _ _ _ _ BN.out
      generalize w3b.setRow V9 (reC N3 M3) = w3c at bn hn ⊢
      have HP3c := Lib.hid hn
      have BVV9 := Lib.hid bn
      clear bn hn BN HP3b
      refine hK.out _ _ ⟨HP3c.out.at_ (k := 3) rfl, HP3c.out.at_ (k := 4) rfl⟩ (fun _ => ?_)
      clear hK KK
      try simp only [Act.put, List.getElem_toArray, List.getElem_cons_succ, List.getElem_cons_zero, List.setIfInBounds_toArray, List.set_cons_zero, List.set_cons_succ]
      refine wpAnyH_take (i := 12) (v := .bool B3) rfl (by kernel_rfl) (by kernel_rfl) (by kernel_rfl) (fun _ _ _ h => h) (.inl ⟨rfl, fun w hS => by go_simp⟩) ⟨HP3c.out.at_ (k := 3) rfl, HP3c.out.at_ (k := 4) rfl⟩ ?_
      simp only [Act.put, List.getElem_toArray, List.getElem_cons_succ, List.getElem_cons_zero, List.setIfInBounds_toArray, List.set_cons_zero, List.set_cons_succ]
      refine wpAnyH_done (by kernel_rfl) ?_ _
      go_upto_region 9 with fail
      refine wp_region_held_drew (S := (fun W' : World => W'.cell? ⟨w.heap.size + 1, 6, none⟩ = some (.string (bs a6)) ∧ W'.cell? ⟨w.heap.size + 1, 7, none⟩ = some (.string (bs a7)))) (by kernel_rfl) ⟨HP3c.out.at_ (k := 6) rfl, HP3c.out.at_ (k := 7) rfl⟩ (fun H0 => ?_)
      refine wpAnyH_take (i := 0) (v := .slice (some ⟨w.heap.size + 1, 0, none⟩) 8 8) rfl (by kernel_rfl) (by kernel_rfl) (by kernel_rfl) (fun _ _ _ h => h) (.inl ⟨rfl, fun w hS => by go_simp⟩) H0 ?_
      simp only [Act.put, List.getElem_toArray, List.getElem_cons_zero, List.setIfInBounds_toArray, List.set_cons_zero, List.set_cons_succ]
      refine wpAnyH_take (i := 1) (v := .pointer (some ⟨w.heap.size + 1, 6, none⟩)) rfl (by kernel_rfl) (by kernel_rfl) (by kernel_rfl) (fun _ _ _ h => h) (.inl ⟨rfl, fun w hS => by go_simp⟩) H0 ?_
      simp only [Act.put, List.getElem_toArray, List.getElem_cons_succ, List.getElem_cons_zero, List.setIfInBounds_toArray, List.set_cons_zero, List.set_cons_succ]
      refine wpAnyH_take (i := 2) (v := .string (bs a6)) rfl (by kernel_rfl) (by kernel_rfl) (by kernel_rfl) (fun _ _ _ h => h) (.inl ⟨rfl, fun w hS => by obtain ⟨m1, m2⟩ := hS; go_simp⟩) H0 ?_
      simp only [Act.put, List.getElem_toArray, List.getElem_cons_succ, List.getElem_cons_zero, List.setIfInBounds_toArray, List.set_cons_zero, List.set_cons_succ]
      refine wpAnyH_take (i := 3) (v := .slice (some ⟨w.heap.size + 1, 0, none⟩) 8 8) rfl (by kernel_rfl) (by kernel_rfl) (by kernel_rfl) (fun _ _ _ h => h) (.inl ⟨rfl, fun w hS => by go_simp⟩) H0 ?_
      simp only [Act.put, List.getElem_toArray, List.getElem_cons_succ, List.getElem_cons_zero, List.setIfInBounds_toArray, List.set_cons_zero, List.set_cons_succ]
      refine wpAnyH_take (i := 4) (v := .pointer (some ⟨w.heap.size + 1, 7, none⟩)) rfl (by kernel_rfl) (by kernel_rfl) (by kernel_rfl) (fun _ _ _ h => h) (.inl ⟨rfl, fun w hS => by go_simp⟩) H0 ?_
      simp only [Act.put, List.getElem_toArray, List.getElem_cons_succ, List.getElem_cons_zero, List.setIfInBounds_toArray, List.set_cons_zero, List.set_cons_succ]
      refine wpAnyH_take (i := 5) (v := .string (bs a7)) rfl (by kernel_rfl) (by kernel_rfl) (by kernel_rfl) (fun _ _ _ h => h) (.inl ⟨rfl, fun w hS => by obtain ⟨m1, m2⟩ := hS; go_simp⟩) H0 ?_
      simp only [Act.put, List.getElem_toArray, List.getElem_cons_succ, List.getElem_cons_zero, List.setIfInBounds_toArray, List.set_cons_zero, List.set_cons_succ]
      refine wpAnyH_ready (rs := [6, 10]) (by kernel_rfl) (by simp) ?_
      refine AllReadyH.cons rfl (fun KK hK => ?_) (AllReadyH.cons rfl (fun KK hK => ?_) AllReadyH.nil)
      · refine step_call rfl 33 #[.tmp 68, .tmp 71] #[9, 9] rfl #[.string (bs a6), .string (bs a7)] (by simp [Act.eval]) (enters_of Tryd.func33 (by kernel_rfl) rfl) ?_
        refine (C4.out w3c.drew).mono ?_
        rintro r w3ca ⟨rfl, b4⟩
        have b4 : Below w3c.heap.size w3c w3ca := ⟨b4.os, b4.tape, b4.output, b4.size, b4.block⟩
        have HP3ca := Lib.hid (HP3c.out.on b4)
        have BVV9a := Lib.hid (BVV9.out.on b4)
        clear b4 H0
        refine ⟨_, rfl, hK.out _ _ ⟨HP3ca.out.at_ (k := 6) rfl, HP3ca.out.at_ (k := 7) rfl⟩ (fun _ => ?_)⟩
        clear hK KK
        simp only [Act.put, List.getElem_toArray, List.getElem_cons_succ, List.getElem_cons_zero, List.setIfInBounds_toArray, List.set_cons_zero, List.set_cons_succ]
        refine wpAnyH_take (i := 7) (v := .tuple #[.agg (reC N4 M4), .bool B4]) rfl (by kernel_rfl) (by kernel_rfl) (by kernel_rfl) (fun _ _ _ h => h) (.inl ⟨rfl, fun w hS => by go_simp⟩) ⟨HP3ca.out.at_ (k := 6) rfl, HP3ca.out.at_ (k := 7) rfl⟩ ?_
        simp only [Act.put, List.getElem_toArray, List.getElem_cons_succ, List.getElem_cons_zero, List.setIfInBounds_toArray, List.set_cons_zero, List.set_cons_succ]
        refine wpAnyH_take (i := 8) (v := .agg (reC N4 M4)) rfl (by kernel_rfl) (by kernel_rfl) (by kernel_rfl) (fun _ _ _ h => h) (.inl ⟨rfl, fun w hS => by go_simp⟩) ⟨HP3ca.out.at_ (k := 6) rfl, HP3ca.out.at_ (k := 7) rfl⟩ ?_
        simp only [Act.put, List.getElem_toArray, List.getElem_cons_succ, List.getElem_cons_zero, List.setIfInBounds_toArray, List.set_cons_zero, List.set_cons_succ]
        refine wpAnyH_take (i := 9) (v := .bool B4) rfl (by kernel_rfl) (by kernel_rfl) (by kernel_rfl) (fun _ _ _ h => h) (.inl ⟨rfl, fun w hS => by go_simp⟩) ⟨HP3ca.out.at_ (k := 6) rfl, HP3ca.out.at_ (k := 7) rfl⟩ ?_
        simp only [Act.put, List.getElem_toArray, List.getElem_cons_succ, List.getElem_cons_zero, List.setIfInBounds_toArray, List.set_cons_zero, List.set_cons_succ]
        refine wpAnyH_ready (rs := [10]) (by kernel_rfl) (by simp) ?_
        refine AllReadyH.cons rfl (fun KK hK => ?_) AllReadyH.nil
        go_simp
        have hn := HP3ca.out.new (.cells (reC 0 0) 62)
        have bn := Blk.new w3ca 62 (reC 0 0)
        have hv := HP3ca.out.lt
        have hxBVV9 := BVV9a.out.alloc (.cells (reC 0 0) 62)
        have hltBVV9 := BVV9a.out.lt
        obtain ⟨V11, hV⟩ : ∃ V, w3ca.heap.size = V := ⟨_, rfl⟩
        rw [hV] at bn hv hltBVV9 ⊢
        unfold reC at bn hn hxBVV9
        generalize (w3ca.alloc (.cells _ 62)) = w3cb at bn hn hxBVV9 ⊢
        have HP3cb := Lib.hid hn
        have BN := Lib.hid bn
        have BVV9b := Lib.hid hxBVV9
        clear bn hn hV hxBVV9
        refine hK.out _ _ ⟨HP3cb.out.at_ (k := 6) rfl, HP3cb.out.at_ (k := 7) rfl⟩ (fun _ => ?_)
        clear hK KK
        try simp only [Act.put, List.getElem_toArray, List.getElem_cons_succ, List.getElem_cons_zero, List.setIfInBounds_toArray, List.set_cons_zero, List.set_cons_succ]
        refine wpAnyH_ready (rs := [11]) (by kernel_rfl) (by simp) ?_
        refine AllReadyH.cons rfl (fun KK hK => ?_) AllReadyH.nil
        refine (if_pos (show Region.wanted _ _ = true by rfl)).mpr ?_
        refine wp_store_row 62 (.tmp 11) (.tmp 73) rfl V11 (reC N4 M4) rfl rfl 62 (reC 0 0) BN.out re_size rfl (re_one _ _) ?_
        have hn := HP3cb.out.row hv (reC N4 M4)
        have bn : Blk (w3cb.setRow V11 (reC N4 M4)) V11 62 (reC N4 M4) := setRow_heap _ _ _ _ _ _ BN.out
        have hxBVV9 : Blk (w3cb.setRow V11 (reC N4 M4)) V9 62 (reC N3 M3) := (setRow_other w3cb V11 _ _ (by omega)).trans BVV9b.out
        generalize w3cb.setRow V11 (reC N4 M4) = w3cc at bn hn hxBVV9 ⊢
        have HP3cc := Lib.hid hn
        have BVV11 := Lib.hid bn
        have BVV9c := Lib.hid hxBVV9
        clear bn hn BN HP3cb BVV9b hxBVV9
        refine hK.out _ _ ⟨HP3cc.out.at_ (k := 6) rfl, HP3cc.out.at_ (k := 7) rfl⟩ (fun _ => ?_)
        clear hK KK
        try simp only [Act.put, List.getElem_toArray, List.getElem_cons_succ, List.getElem_cons_zero, List.setIfInBounds_toArray, List.set_cons_zero, List.set_cons_succ]
        refine wpAnyH_take (i := 12) (v := .bool B4) rfl (by kernel_rfl) (by kernel_rfl) (by kernel_rfl) (fun _ _ _ h => h) (.inl ⟨rfl, fun w hS => by go_simp⟩) ⟨HP3cc.out.at_ (k := 6) rfl, HP3cc.out.at_ (k := 7) rfl⟩ ?_
        simp only [Act.put, List.getElem_toArray, List.getElem_cons_succ, List.getElem_cons_zero, List.setIfInBounds_toArray, List.set_cons_zero, List.set_cons_succ]
        refine wpAnyH_done (by kernel_rfl) ?_ _
        by_cases hall : (B1 && B2 && B3 && B4) = true
        · obtain ⟨⟨⟨b1, b2⟩, b3⟩, b4⟩ : ((B1 = true ∧ B2 = true) ∧ B3 = true) ∧ B4 = true := by simpa using hall
          have hso := HO.out
          rw [hall] at hso
          obtain ⟨x, hx⟩ := Option.isSome_iff_exists.1 hso
          have hxe := HQ.out x hx
          have HR := Lib.hid (HRS.out x hx)
          have HXE := Lib.hid hxe
          clear hall hso hx hxe
          go_upto_region 12 with fail
          have v0 := BVV9c.out.cell 0
          have v1 := BVV9c.out.cell 1
          have u0 := BVV11.out.cell 0
          have u1 := BVV11.out.cell 1
          unfold reC at v0 v1 u0 u1
          simp only [List.getElem?_toArray, List.getElem?_cons_zero, List.getElem?_cons_succ] at v0 v1 u0 u1
          have x0 := HP3cc.out.at_ (k := 0) rfl
          refine wp_region_held_drew (S := (fun W' : World => W'.cell? ⟨V9, 0, none⟩ = some (.int .i64 N3) ∧ W'.cell? ⟨V9, 1, none⟩ = some (.int .i64 M3) ∧ W'.cell? ⟨V11, 0, none⟩ = some (.int .i64 N4) ∧ W'.cell? ⟨V11, 1, none⟩ = some (.int .i64 M4) ∧ W'.cell? ⟨w.heap.size + 1, 0, none⟩ = some (.string (bs a0)))) (by kernel_rfl) ⟨v0, v1, u0, u1, x0⟩ (fun H0 => ?_)
          refine wpAnyH_take (i := 0) (v := .int .i64 N1) rfl (by kernel_rfl) (by kernel_rfl) (by kernel_rfl) (fun _ _ _ h => h) (.inl ⟨rfl, fun w hS => by go_simp⟩) H0 ?_
          simp only [Act.put, List.getElem_toArray, List.getElem_cons_zero, List.setIfInBounds_toArray, List.set_cons_zero, List.set_cons_succ]
          refine wpAnyH_take (i := 1) (v := .int .i64 N2) rfl (by kernel_rfl) (by kernel_rfl) (by kernel_rfl) (fun _ _ _ h => h) (.inl ⟨rfl, fun w hS => by go_simp⟩) H0 ?_
          simp only [Act.put, List.getElem_toArray, List.getElem_cons_succ, List.getElem_cons_zero, List.setIfInBounds_toArray, List.set_cons_zero, List.set_cons_succ]
          refine wpAnyH_take (i := 2) (v := .pointer (some ⟨V9, 0, none⟩)) rfl (by kernel_rfl) (by kernel_rfl) (by kernel_rfl) (fun _ _ _ h => h) (.inl ⟨rfl, fun w hS => by go_simp⟩) H0 ?_
          simp only [Act.put, List.getElem_toArray, List.getElem_cons_succ, List.getElem_cons_zero, List.setIfInBounds_toArray, List.set_cons_zero, List.set_cons_succ]
          refine wpAnyH_take (i := 3) (v := .int .i64 N3) rfl (by kernel_rfl) (by kernel_rfl) (by kernel_rfl) (fun _ _ _ h => h) (.inl ⟨rfl, fun w hS => by obtain ⟨m1, m2, m3, m4, m5⟩ := hS; go_simp⟩) H0 ?_
          simp only [Act.put, List.getElem_toArray, List.getElem_cons_succ, List.getElem_cons_zero, List.setIfInBounds_toArray, List.set_cons_zero, List.set_cons_succ]
          refine wpAnyH_take (i := 4) (v := .pointer (some ⟨V9, 1, none⟩)) rfl (by kernel_rfl) (by kernel_rfl) (by kernel_rfl) (fun _ _ _ h => h) (.inl ⟨rfl, fun w hS => by go_simp⟩) H0 ?_
          simp only [Act.put, List.getElem_toArray, List.getElem_cons_succ, List.getElem_cons_zero, List.setIfInBounds_toArray, List.set_cons_zero, List.set_cons_succ]
          refine wpAnyH_take (i := 5) (v := .int .i64 M3) rfl (by kernel_rfl) (by kernel_rfl) (by kernel_rfl) (fun _ _ _ h => h) (.inl ⟨rfl, fun w hS => by obtain ⟨m1, m2, m3, m4, m5⟩ := hS; go_simp⟩) H0 ?_
          simp only [Act.put, List.getElem_toArray, List.getElem_cons_succ, List.getElem_cons_zero, List.setIfInBounds_toArray, List.set_cons_zero, List.set_cons_succ]
          refine wpAnyH_take (i := 6) (v := .agg #[.int .i64 N1, .int .i64 N2, .int .i64 N3, .int .i64 M3]) rfl (by kernel_rfl) (by kernel_rfl) (by kernel_rfl) (fun _ _ _ h => h) (.inl ⟨rfl, fun w hS => by go_simp⟩) H0 ?_
          simp only [Act.put, List.getElem_toArray, List.getElem_cons_succ, List.getElem_cons_zero, List.setIfInBounds_toArray, List.set_cons_zero, List.set_cons_succ]
          refine wpAnyH_take (i := 7) (v := .int .i64 N2) rfl (by kernel_rfl) (by kernel_rfl) (by kernel_rfl) (fun _ _ _ h => h) (.inl ⟨rfl, fun w hS => by go_simp⟩) H0 ?_
          simp only [Act.put, List.getElem_toArray, List.getElem_cons_succ, List.getElem_cons_zero, List.setIfInBounds_toArray, List.set_cons_zero, List.set_cons_succ]
          refine wpAnyH_take (i := 8) (v := .pointer (some ⟨V11, 0, none⟩)) rfl (by kernel_rfl) (by kernel_rfl) (by kernel_rfl) (fun _ _ _ h => h) (.inl ⟨rfl, fun w hS => by go_simp⟩) H0 ?_
          simp only [Act.put, List.getElem_toArray, List.getElem_cons_succ, List.getElem_cons_zero, List.setIfInBounds_toArray, List.set_cons_zero, List.set_cons_succ]
          refine wpAnyH_take (i := 9) (v := .int .i64 N4) rfl (by kernel_rfl) (by kernel_rfl) (by kernel_rfl) (fun _ _ _ h => h) (.inl ⟨rfl, fun w hS => by obtain ⟨m1, m2, m3, m4, m5⟩ := hS; go_simp⟩) H0 ?_
          simp only [Act.put, List.getElem_toArray, List.getElem_cons_succ, List.getElem_cons_zero, List.setIfInBounds_toArray, List.set_cons_zero, List.set_cons_succ]
          refine wpAnyH_take (i := 10) (v := .pointer (some ⟨V11, 1, none⟩)) rfl (by kernel_rfl) (by kernel_rfl) (by kernel_rfl) (fun _ _ _ h => h) (.inl ⟨rfl, fun w hS => by go_simp⟩) H0 ?_
          simp only [Act.put, List.getElem_toArray, List.getElem_cons_succ, List.getElem_cons_zero, List.setIfInBounds_toArray, List.set_cons_zero, List.set_cons_succ]
          refine wpAnyH_take (i := 11) (v := .int .i64 M4) rfl (by kernel_rfl) (by kernel_rfl) (by kernel_rfl) (fun _ _ _ h => h) (.inl ⟨rfl, fun w hS => by obtain ⟨m1, m2, m3, m4, m5⟩ := hS; go_simp⟩) H0 ?_
          simp only [Act.put, List.getElem_toArray, List.getElem_cons_succ, List.getElem_cons_zero, List.setIfInBounds_toArray, List.set_cons_zero, List.set_cons_succ]
          refine wpAnyH_take (i := 12) (v := .agg #[.int .i64 N2, .int .i64 N4, .int .i64 M4]) rfl (by kernel_rfl) (by kernel_rfl) (by kernel_rfl) (fun _ _ _ h => h) (.inl ⟨rfl, fun w hS => by go_simp⟩) H0 ?_
          simp only [Act.put, List.getElem_toArray, List.getElem_cons_succ, List.getElem_cons_zero, List.setIfInBounds_toArray, List.set_cons_zero, List.set_cons_succ]
          refine wpAnyH_take (i := 13) (v := .slice (some ⟨w.heap.size + 1, 0, none⟩) 8 8) rfl (by kernel_rfl) (by kernel_rfl) (by kernel_rfl) (fun _ _ _ h => h) (.inl ⟨rfl, fun w hS => by go_simp⟩) H0 ?_
          simp only [Act.put, List.getElem_toArray, List.getElem_cons_succ, List.getElem_cons_zero, List.setIfInBounds_toArray, List.set_cons_zero, List.set_cons_succ]
          refine wpAnyH_take (i := 14) (v := .pointer (some ⟨w.heap.size + 1, 0, none⟩)) rfl (by kernel_rfl) (by kernel_rfl) (by kernel_rfl) (fun _ _ _ h => h) (.inl ⟨rfl, fun w hS => by go_simp⟩) H0 ?_
          simp only [Act.put, List.getElem_toArray, List.getElem_cons_succ, List.getElem_cons_zero, List.setIfInBounds_toArray, List.set_cons_zero, List.set_cons_succ]
          refine wpAnyH_take (i := 15) (v := .string (bs a0)) rfl (by kernel_rfl) (by kernel_rfl) (by kernel_rfl) (fun _ _ _ h => h) (.inl ⟨rfl, fun w hS => by obtain ⟨m1, m2, m3, m4, m5⟩ := hS; go_simp⟩) H0 ?_
          simp only [Act.put, List.getElem_toArray, List.getElem_cons_succ, List.getElem_cons_zero, List.setIfInBounds_toArray, List.set_cons_zero, List.set_cons_succ]
          refine wpAnyH_take (i := 16) (v := .bool true) rfl (by kernel_rfl) (by kernel_rfl) (by kernel_rfl) (fun _ _ _ h => h) (.inl ⟨rfl, fun w hS => by go_simp⟩) H0 ?_
          simp only [Act.put, List.getElem_toArray, List.getElem_cons_succ, List.getElem_cons_zero, List.setIfInBounds_toArray, List.set_cons_zero, List.set_cons_succ]
          refine wpAnyH_take (i := 17) (v := .agg (bdC ((N1, N2, N3, M3), (N2, N4, M4), true))) rfl (by kernel_rfl) (by kernel_rfl) (by kernel_rfl) (fun _ _ _ h => h) (.inl ⟨rfl, fun w hS => by go_simp; first | done | rfl⟩) H0 ?_
          simp only [Act.put, List.getElem_toArray, List.getElem_cons_succ, List.getElem_cons_zero, List.setIfInBounds_toArray, List.set_cons_zero, List.set_cons_succ]
          refine wpAnyH_ready (rs := [18]) (by kernel_rfl) (by simp) ?_
          refine AllReadyH.cons rfl (fun KK hK => ?_) AllReadyH.nil
          refine (if_pos (show Region.wanted _ _ = true by rfl)).mpr ?_
          refine wp_store_row 28 (.tmp 2) (.tmp 107) rfl w.heap.size (bdC ((N1, N2, N3, M3), (N2, N4, M4), true)) rfl rfl 28 (bdC zeroB) HP3cc.out.1 bd_size rfl (bd_one _) ?_
          have hlt9 := HP3cc.out.lt
          have hfar : ∀ (p : Addr), w.heap.size ≠ p.block → (w3cc.drew.setRow w.heap.size (bdC ((N1, N2, N3, M3), (N2, N4, M4), true))).cell? p = w3cc.cell? p := fun p hp => World.cell?_of_block (setRow_other w3cc.drew w.heap.size _ _ (Ne.symm hp))
          have hS' := (⟨(hfar ⟨V9, 0, none⟩ (by simp only; omega)).trans v0, (hfar ⟨V9, 1, none⟩ (by simp only; omega)).trans v1, (hfar ⟨V11, 0, none⟩ (by simp only; omega)).trans u0, (hfar ⟨V11, 1, none⟩ (by simp only; omega)).trans u1, (hfar ⟨w.heap.size + 1, 0, none⟩ (by simp only; omega)).trans x0⟩ : (fun W' : World => W'.cell? ⟨V9, 0, none⟩ = some (.int .i64 N3) ∧ W'.cell? ⟨V9, 1, none⟩ = some (.int .i64 M3) ∧ W'.cell? ⟨V11, 0, none⟩ = some (.int .i64 N4) ∧ W'.cell? ⟨V11, 1, none⟩ = some (.int .i64 M4) ∧ W'.cell? ⟨w.heap.size + 1, 0, none⟩ = some (.string (bs a0))) (w3cc.drew.setRow w.heap.size (bdC ((N1, N2, N3, M3), (N2, N4, M4), true))))
          refine hK.out _ _ hS' (fun _ => ?_)
          clear hK KK
          try simp only [Act.put, List.getElem_toArray, List.getElem_cons_succ, List.getElem_cons_zero, List.setIfInBounds_toArray, List.set_cons_zero, List.set_cons_succ]
          refine wpAnyH_take (i := 19) (v := .int .i64 0) rfl (by kernel_rfl) (by kernel_rfl) (by kernel_rfl) (fun _ _ _ h => h) (.inl ⟨rfl, fun w hS => by go_simp⟩) hS' ?_
          simp only [Act.put, List.getElem_toArray, List.getElem_cons_succ, List.getElem_cons_zero, List.setIfInBounds_toArray, List.set_cons_zero, List.set_cons_succ]
          refine wpAnyH_done (by kernel_rfl) ?_ _
          go_wp2_with fail
          refine read_ret (w := w) (q := ((N1, N2, N3, M3), (N2, N4, M4), true)) (z := 0) rfl rfl rfl (setRow_heap _ _ _ _ _ _ HP3cc.out.1) ⟨by rw [HR.out, HXE.out], below_setRow HP3cc.out.2.2.drew (Nat.le_refl _) _⟩
        · have hso := HO.out
          have hon : O = none := by
            cases O with
            | none => rfl
            | some x => exact absurd hso.symm hall
          have HR := Lib.hid (HRN.out hon)
          clear hso hon
          go_upto_region 10 with fail
          go_wp2_with (refine wpList_store_row rfl 28 (.tmp 2) (.tmp 89) rfl w.heap.size (bdC zeroB) rfl rfl 28 (bdC zeroB) HP3cc.out.1 bd_size rfl (bd_one _) ?_)
          all_goals first
            | (exfalso; apply hall; simp only [Bool.and_eq_true]; refine ⟨⟨⟨?_, ?_⟩, ?_⟩, ?_⟩ <;> first | assumption | exact of_not (by assumption))
            | (refine read_ret (w := w) (q := zeroB) (z := 13) rfl rfl rfl (setRow_heap _ _ _ _ _ _ HP3cc.out.1) ⟨by rw [HR.out], below_setRow HP3cc.out.2.2 (Nat.le_refl _) _⟩)
      · go_simp
        have hn := HP3c.out.new (.cells (reC 0 0) 62)
        have bn := Blk.new w3c 62 (reC 0 0)
        have hv := HP3c.out.lt
        have hxBVV9 := BVV9.out.alloc (.cells (reC 0 0) 62)
        have hltBVV9 := BVV9.out.lt
        obtain ⟨V11, hV⟩ : ∃ V, w3c.heap.size = V := ⟨_, rfl⟩
        rw [hV] at bn hv hltBVV9 ⊢
        obtain ⟨w3ca, hw4⟩ : ∃ W, (w3c.alloc (.cells (reC 0 0) 62)).drew = W := ⟨_, rfl⟩
        have bn : Blk w3ca V11 62 (reC 0 0) := by rw [← hw4]; exact bn
        have hn : PB w [a0, a1, a2, a3, a4, a5, a6, a7] w3ca := by rw [← hw4]; exact ⟨hn.1, hn.2.1, hn.2.2.drew⟩
        have hxBVV9 : Blk w3ca V9 62 (reC N3 M3) := by rw [← hw4]; exact hxBVV9
        unfold reC at hw4 bn hxBVV9
        rw [hw4]
        have HP3ca := Lib.hid hn
        have BN0 := Lib.hid bn
        have BVV9a := Lib.hid hxBVV9
        clear bn hn hV hw4 H0 hxBVV9
        refine hK.out _ _ ⟨HP3ca.out.at_ (k := 6) rfl, HP3ca.out.at_ (k := 7) rfl⟩ (fun _ => ?_)
        clear hK KK
        try simp only [Act.put, List.getElem_toArray, List.getElem_cons_succ, List.getElem_cons_zero, List.setIfInBounds_toArray, List.set_cons_zero, List.set_cons_succ]
        refine wpAnyH_ready (rs := [6]) (by kernel_rfl) (by simp) ?_
        refine AllReadyH.cons rfl (fun KK hK => ?_) AllReadyH.nil
        refine step_call rfl 33 #[.tmp 68, .tmp 71] #[9, 9] rfl #[.string (bs a6), .string (bs a7)] (by simp [Act.eval]) (enters_of Tryd.func33 (by kernel_rfl) rfl) ?_
        refine (C4.out _).mono ?_
        rintro r w3cb ⟨rfl, b4⟩
        have HP3cb := Lib.hid (HP3ca.out.on b4)
        have BN := Lib.hid (BN0.out.on b4)
        have BVV9b := Lib.hid (BVV9a.out.on b4)
        clear b4
        refine ⟨_, rfl, hK.out _ _ ⟨HP3cb.out.at_ (k := 6) rfl, HP3cb.out.at_ (k := 7) rfl⟩ (fun _ => ?_)⟩
        clear hK KK
        simp only [Act.put, List.getElem_toArray, List.getElem_cons_succ, List.getElem_cons_zero, List.setIfInBounds_toArray, List.set_cons_zero, List.set_cons_succ]
        refine wpAnyH_take (i := 7) (v := .tuple #[.agg (reC N4 M4), .bool B4]) rfl (by kernel_rfl) (by kernel_rfl) (by kernel_rfl) (fun _ _ _ h => h) (.inl ⟨rfl, fun w hS => by go_simp⟩) ⟨HP3cb.out.at_ (k := 6) rfl, HP3cb.out.at_ (k := 7) rfl⟩ ?_
        simp only [Act.put, List.getElem_toArray, List.getElem_cons_succ, List.getElem_cons_zero, List.setIfInBounds_toArray, List.set_cons_zero, List.set_cons_succ]
        refine wpAnyH_take (i := 8) (v := .agg (reC N4 M4)) rfl (by kernel_rfl) (by kernel_rfl) (by kernel_rfl) (fun _ _ _ h => h) (.inl ⟨rfl, fun w hS => by go_simp⟩) ⟨HP3cb.out.at_ (k := 6) rfl, HP3cb.out.at_ (k := 7) rfl⟩ ?_
        simp only [Act.put, List.getElem_toArray, List.getElem_cons_succ, List.getElem_cons_zero, List.setIfInBounds_toArray, List.set_cons_zero, List.set_cons_succ]
        refine wpAnyH_take (i := 9) (v := .bool B4) rfl (by kernel_rfl) (by kernel_rfl) (by kernel_rfl) (fun _ _ _ h => h) (.inl ⟨rfl, fun w hS => by go_simp⟩) ⟨HP3cb.out.at_ (k := 6) rfl, HP3cb.out.at_ (k := 7) rfl⟩ ?_
        simp only [Act.put, List.getElem_toArray, List.getElem_cons_succ, List.getElem_cons_zero, List.setIfInBounds_toArray, List.set_cons_zero, List.set_cons_succ]
        refine wpAnyH_ready (rs := [11]) (by kernel_rfl) (by simp) ?_
        refine AllReadyH.cons rfl (fun KK hK => ?_) AllReadyH.nil
        refine (if_pos (show Region.wanted _ _ = true by rfl)).mpr ?_
        refine wp_store_row 62 (.tmp 11) (.tmp 73) rfl V11 (reC N4 M4) rfl rfl 62 (reC 0 0) BN.out re_size rfl (re_one _ _) ?_
        have hn := HP3cb.out.row hv (reC N4 M4)
        have bn : Blk (w3cb.setRow V11 (reC N4 M4)) V11 62 (reC N4 M4) := setRow_heap _ _ _ _ _ _ BN.out
        have hxBVV9 : Blk (w3cb.setRow V11 (reC N4 M4)) V9 62 (reC N3 M3) := (setRow_other w3cb V11 _ _ (by omega)).trans BVV9b.out
        generalize w3cb.setRow V11 (reC N4 M4) = w3cc at bn hn hxBVV9 ⊢
        have HP3cc := Lib.hid hn
        have BVV11 := Lib.hid bn
        have BVV9c := Lib.hid hxBVV9
        clear bn hn BN HP3cb BVV9b hxBVV9
        refine hK.out _ _ ⟨HP3cc.out.at_ (k := 6) rfl, HP3cc.out.at_ (k := 7) rfl⟩ (fun _ => ?_)
        clear hK KK
        try simp only [Act.put, List.getElem_toArray, List.getElem_cons_succ, List.getElem_cons_zero, List.setIfInBounds_toArray, List.set_cons_zero, List.set_cons_succ]
        refine wpAnyH_take (i := 12) (v := .bool B4) rfl (by kernel_rfl) (by kernel_rfl) (by kernel_rfl) (fun _ _ _ h => h) (.inl ⟨rfl, fun w hS => by go_simp⟩) ⟨HP3cc.out.at_ (k := 6) rfl, HP3cc.out.at_ (k := 7) rfl⟩ ?_
        simp only [Act.put, List.getElem_toArray, List.getElem_cons_succ, List.getElem_cons_zero, List.setIfInBounds_toArray, List.set_cons_zero, List.set_cons_succ]
        refine wpAnyH_done (by kernel_rfl) ?_ _
        by_cases hall : (B1 && B2 && B3 && B4) = true
        · obtain ⟨⟨⟨b1, b2⟩, b3⟩, b4⟩ : ((B1 = true ∧ B2 = true) ∧ B3 = true) ∧ B4 = true := by simpa using hall
          have hso := HO.out
          rw [hall] at hso
          obtain ⟨x, hx⟩ := Option.isSome_iff_exists.1 hso
          have hxe := HQ.out x hx
          have HR := Lib.hid (HRS.out x hx)
          have HXE := Lib.hid hxe
          clear hall hso hx hxe
          go_upto_region 12 with fail
          have v0 := BVV9c.out.cell 0
          have v1 := BVV9c.out.cell 1
          have u0 := BVV11.out.cell 0
          have u1 := BVV11.out.cell 1
          unfold reC at v0 v1 u0 u1
          simp only [List.getElem?_toArray, List.getElem?_cons_zero, List.getElem?_cons_succ] at v0 v1 u0 u1
          have x0 := HP3cc.out.at_ (k := 0) rfl
          refine wp_region_held_drew (S := (fun W' : World => W'.cell? ⟨V9, 0, none⟩ = some (.int .i64 N3) ∧ W'.cell? ⟨V9, 1, none⟩ = some (.int .i64 M3) ∧ W'.cell? ⟨V11, 0, none⟩ = some (.int .i64 N4) ∧ W'.cell? ⟨V11, 1, none⟩ = some (.int .i64 M4) ∧ W'.cell? ⟨w.heap.size + 1, 0, none⟩ = some (.string (bs a0)))) (by kernel_rfl) ⟨v0, v1, u0, u1, x0⟩ (fun H0 => ?_)
          refine wpAnyH_take (i := 0) (v := .int .i64 N1) rfl (by kernel_rfl) (by kernel_rfl) (by kernel_rfl) (fun _ _ _ h => h) (.inl ⟨rfl, fun w hS => by go_simp⟩) H0 ?_
          simp only [Act.put, List.getElem_toArray, List.getElem_cons_zero, List.setIfInBounds_toArray, List.set_cons_zero, List.set_cons_succ]
          refine wpAnyH_take (i := 1) (v := .int .i64 N2) rfl (by kernel_rfl) (by kernel_rfl) (by kernel_rfl) (fun _ _ _ h => h) (.inl ⟨rfl, fun w hS => by go_simp⟩) H0 ?_
          simp only [Act.put, List.getElem_toArray, List.getElem_cons_succ, List.getElem_cons_zero, List.setIfInBounds_toArray, List.set_cons_zero, List.set_cons_succ]
          refine wpAnyH_take (i := 2) (v := .pointer (some ⟨V9, 0, none⟩)) rfl (by kernel_rfl) (by kernel_rfl) (by kernel_rfl) (fun _ _ _ h => h) (.inl ⟨rfl, fun w hS => by go_simp⟩) H0 ?_
          simp only [Act.put, List.getElem_toArray, List.getElem_cons_succ, List.getElem_cons_zero, List.setIfInBounds_toArray, List.set_cons_zero, List.set_cons_succ]
          refine wpAnyH_take (i := 3) (v := .int .i64 N3) rfl (by kernel_rfl) (by kernel_rfl) (by kernel_rfl) (fun _ _ _ h => h) (.inl ⟨rfl, fun w hS => by obtain ⟨m1, m2, m3, m4, m5⟩ := hS; go_simp⟩) H0 ?_
          simp only [Act.put, List.getElem_toArray, List.getElem_cons_succ, List.getElem_cons_zero, List.setIfInBounds_toArray, List.set_cons_zero, List.set_cons_succ]
          refine wpAnyH_take (i := 4) (v := .pointer (some ⟨V9, 1, none⟩)) rfl (by kernel_rfl) (by kernel_rfl) (by kernel_rfl) (fun _ _ _ h => h) (.inl ⟨rfl, fun w hS => by go_simp⟩) H0 ?_
          simp only [Act.put, List.getElem_toArray, List.getElem_cons_succ, List.getElem_cons_zero, List.setIfInBounds_toArray, List.set_cons_zero, List.set_cons_succ]
          refine wpAnyH_take (i := 5) (v := .int .i64 M3) rfl (by kernel_rfl) (by kernel_rfl) (by kernel_rfl) (fun _ _ _ h => h) (.inl ⟨rfl, fun w hS => by obtain ⟨m1, m2, m3, m4, m5⟩ := hS; go_simp⟩) H0 ?_
          simp only [Act.put, List.getElem_toArray, List.getElem_cons_succ, List.getElem_cons_zero, List.setIfInBounds_toArray, List.set_cons_zero, List.set_cons_succ]
          refine wpAnyH_take (i := 6) (v := .agg #[.int .i64 N1, .int .i64 N2, .int .i64 N3, .int .i64 M3]) rfl (by kernel_rfl) (by kernel_rfl) (by kernel_rfl) (fun _ _ _ h => h) (.inl ⟨rfl, fun w hS => by go_simp⟩) H0 ?_
          simp only [Act.put, List.getElem_toArray, List.getElem_cons_succ, List.getElem_cons_zero, List.setIfInBounds_toArray, List.set_cons_zero, List.set_cons_succ]
          refine wpAnyH_take (i := 7) (v := .int .i64 N2) rfl (by kernel_rfl) (by kernel_rfl) (by kernel_rfl) (fun _ _ _ h => h) (.inl ⟨rfl, fun w hS => by go_simp⟩) H0 ?_
          simp only [Act.put, List.getElem_toArray, List.getElem_cons_succ, List.getElem_cons_zero, List.setIfInBounds_toArray, List.set_cons_zero, List.set_cons_succ]
          refine wpAnyH_take (i := 8) (v := .pointer (some ⟨V11, 0, none⟩)) rfl (by kernel_rfl) (by kernel_rfl) (by kernel_rfl) (fun _ _ _ h => h) (.inl ⟨rfl, fun w hS => by go_simp⟩) H0 ?_
          simp only [Act.put, List.getElem_toArray, List.getElem_cons_succ, List.getElem_cons_zero, List.setIfInBounds_toArray, List.set_cons_zero, List.set_cons_succ]
          refine wpAnyH_take (i := 9) (v := .int .i64 N4) rfl (by kernel_rfl) (by kernel_rfl) (by kernel_rfl) (fun _ _ _ h => h) (.inl ⟨rfl, fun w hS => by obtain ⟨m1, m2, m3, m4, m5⟩ := hS; go_simp⟩) H0 ?_
          simp only [Act.put, List.getElem_toArray, List.getElem_cons_succ, List.getElem_cons_zero, List.setIfInBounds_toArray, List.set_cons_zero, List.set_cons_succ]
          refine wpAnyH_take (i := 10) (v := .pointer (some ⟨V11, 1, none⟩)) rfl (by kernel_rfl) (by kernel_rfl) (by kernel_rfl) (fun _ _ _ h => h) (.inl ⟨rfl, fun w hS => by go_simp⟩) H0 ?_
          simp only [Act.put, List.getElem_toArray, List.getElem_cons_succ, List.getElem_cons_zero, List.setIfInBounds_toArray, List.set_cons_zero, List.set_cons_succ]
          refine wpAnyH_take (i := 11) (v := .int .i64 M4) rfl (by kernel_rfl) (by kernel_rfl) (by kernel_rfl) (fun _ _ _ h => h) (.inl ⟨rfl, fun w hS => by obtain ⟨m1, m2, m3, m4, m5⟩ := hS; go_simp⟩) H0 ?_
          simp only [Act.put, List.getElem_toArray, List.getElem_cons_succ, List.getElem_cons_zero, List.setIfInBounds_toArray, List.set_cons_zero, List.set_cons_succ]
          refine wpAnyH_take (i := 12) (v := .agg #[.int .i64 N2, .int .i64 N4, .int .i64 M4]) rfl (by kernel_rfl) (by kernel_rfl) (by kernel_rfl) (fun _ _ _ h => h) (.inl ⟨rfl, fun w hS => by go_simp⟩) H0 ?_
          simp only [Act.put, List.getElem_toArray, List.getElem_cons_succ, List.getElem_cons_zero, List.setIfInBounds_toArray, List.set_cons_zero, List.set_cons_succ]
          refine wpAnyH_take (i := 13) (v := .slice (some ⟨w.heap.size + 1, 0, none⟩) 8 8) rfl (by kernel_rfl) (by kernel_rfl) (by kernel_rfl) (fun _ _ _ h => h) (.inl ⟨rfl, fun w hS => by go_simp⟩) H0 ?_
          simp only [Act.put, List.getElem_toArray, List.getElem_cons_succ, List.getElem_cons_zero, List.setIfInBounds_toArray, List.set_cons_zero, List.set_cons_succ]
          refine wpAnyH_take (i := 14) (v := .pointer (some ⟨w.heap.size + 1, 0, none⟩)) rfl (by kernel_rfl) (by kernel_rfl) (by kernel_rfl) (fun _ _ _ h => h) (.inl ⟨rfl, fun w hS => by go_simp⟩) H0 ?_
          simp only [Act.put, List.getElem_toArray, List.getElem_cons_succ, List.getElem_cons_zero, List.setIfInBounds_toArray, List.set_cons_zero, List.set_cons_succ]
          refine wpAnyH_take (i := 15) (v := .string (bs a0)) rfl (by kernel_rfl) (by kernel_rfl) (by kernel_rfl) (fun _ _ _ h => h) (.inl ⟨rfl, fun w hS => by obtain ⟨m1, m2, m3, m4, m5⟩ := hS; go_simp⟩) H0 ?_
          simp only [Act.put, List.getElem_toArray, List.getElem_cons_succ, List.getElem_cons_zero, List.setIfInBounds_toArray, List.set_cons_zero, List.set_cons_succ]
          refine wpAnyH_take (i := 16) (v := .bool true) rfl (by kernel_rfl) (by kernel_rfl) (by kernel_rfl) (fun _ _ _ h => h) (.inl ⟨rfl, fun w hS => by go_simp⟩) H0 ?_
          simp only [Act.put, List.getElem_toArray, List.getElem_cons_succ, List.getElem_cons_zero, List.setIfInBounds_toArray, List.set_cons_zero, List.set_cons_succ]
          refine wpAnyH_take (i := 17) (v := .agg (bdC ((N1, N2, N3, M3), (N2, N4, M4), true))) rfl (by kernel_rfl) (by kernel_rfl) (by kernel_rfl) (fun _ _ _ h => h) (.inl ⟨rfl, fun w hS => by go_simp; first | done | rfl⟩) H0 ?_
          simp only [Act.put, List.getElem_toArray, List.getElem_cons_succ, List.getElem_cons_zero, List.setIfInBounds_toArray, List.set_cons_zero, List.set_cons_succ]
          refine wpAnyH_ready (rs := [18]) (by kernel_rfl) (by simp) ?_
          refine AllReadyH.cons rfl (fun KK hK => ?_) AllReadyH.nil
          refine (if_pos (show Region.wanted _ _ = true by rfl)).mpr ?_
          refine wp_store_row 28 (.tmp 2) (.tmp 107) rfl w.heap.size (bdC ((N1, N2, N3, M3), (N2, N4, M4), true)) rfl rfl 28 (bdC zeroB) HP3cc.out.1 bd_size rfl (bd_one _) ?_
          have hlt9 := HP3cc.out.lt
          have hfar : ∀ (p : Addr), w.heap.size ≠ p.block → (w3cc.drew.setRow w.heap.size (bdC ((N1, N2, N3, M3), (N2, N4, M4), true))).cell? p = w3cc.cell? p := fun p hp => World.cell?_of_block (setRow_other w3cc.drew w.heap.size _ _ (Ne.symm hp))
          have hS' := (⟨(hfar ⟨V9, 0, none⟩ (by simp only; omega)).trans v0, (hfar ⟨V9, 1, none⟩ (by simp only; omega)).trans v1, (hfar ⟨V11, 0, none⟩ (by simp only; omega)).trans u0, (hfar ⟨V11, 1, none⟩ (by simp only; omega)).trans u1, (hfar ⟨w.heap.size + 1, 0, none⟩ (by simp only; omega)).trans x0⟩ : (fun W' : World => W'.cell? ⟨V9, 0, none⟩ = some (.int .i64 N3) ∧ W'.cell? ⟨V9, 1, none⟩ = some (.int .i64 M3) ∧ W'.cell? ⟨V11, 0, none⟩ = some (.int .i64 N4) ∧ W'.cell? ⟨V11, 1, none⟩ = some (.int .i64 M4) ∧ W'.cell? ⟨w.heap.size + 1, 0, none⟩ = some (.string (bs a0))) (w3cc.drew.setRow w.heap.size (bdC ((N1, N2, N3, M3), (N2, N4, M4), true))))
          refine hK.out _ _ hS' (fun _ => ?_)
          clear hK KK
          try simp only [Act.put, List.getElem_toArray, List.getElem_cons_succ, List.getElem_cons_zero, List.setIfInBounds_toArray, List.set_cons_zero, List.set_cons_succ]
          refine wpAnyH_take (i := 19) (v := .int .i64 0) rfl (by kernel_rfl) (by kernel_rfl) (by kernel_rfl) (fun _ _ _ h => h) (.inl ⟨rfl, fun w hS => by go_simp⟩) hS' ?_
          simp only [Act.put, List.getElem_toArray, List.getElem_cons_succ, List.getElem_cons_zero, List.setIfInBounds_toArray, List.set_cons_zero, List.set_cons_succ]
          refine wpAnyH_done (by kernel_rfl) ?_ _
          go_wp2_with fail
          refine read_ret (w := w) (q := ((N1, N2, N3, M3), (N2, N4, M4), true)) (z := 0) rfl rfl rfl (setRow_heap _ _ _ _ _ _ HP3cc.out.1) ⟨by rw [HR.out, HXE.out], below_setRow HP3cc.out.2.2.drew (Nat.le_refl _) _⟩
        · have hso := HO.out
          have hon : O = none := by
            cases O with
            | none => rfl
            | some x => exact absurd hso.symm hall
          have HR := Lib.hid (HRN.out hon)
          clear hso hon
          go_upto_region 10 with fail
          go_wp2_with (refine wpList_store_row rfl 28 (.tmp 2) (.tmp 89) rfl w.heap.size (bdC zeroB) rfl rfl 28 (bdC zeroB) HP3cc.out.1 bd_size rfl (bd_one _) ?_)
          all_goals first
            | (exfalso; apply hall; simp only [Bool.and_eq_true]; refine ⟨⟨⟨?_, ?_⟩, ?_⟩, ?_⟩ <;> first | assumption | exact of_not (by assumption))
            | (refine read_ret (w := w) (q := zeroB) (z := 13) rfl rfl rfl (setRow_heap _ _ _ _ _ _ HP3cc.out.1) ⟨by rw [HR.out], below_setRow HP3cc.out.2.2 (Nat.le_refl _) _⟩)
end Go.Proofs.YtkbbkddepcjoaaaDoor
