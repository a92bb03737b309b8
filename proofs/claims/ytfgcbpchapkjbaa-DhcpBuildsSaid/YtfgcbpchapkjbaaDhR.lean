/-
  dhcp: bytes' options: the plain function; one option.
-/
import Derived.Test.YtfgcbpchapkjbaaDhQ
import Derived.Great.BuildSlice
namespace Go.Proofs.Ytfgcbpchapkjbaa
open Go.RowKit Go.Great

/-- Bytes' options. -/
def parseB (d : List UInt8) : Option (List (Int × List UInt8)) :=
  match d with
  | [] => some []
  | a :: b :: c :: e :: r =>
    if r.length < c.toNat * 256 + e.toNat then none
    else (parseB (r.drop (c.toNat * 256 + e.toNat))).map (fun l => (((a.toNat * 256 + b.toNat : Nat) : Int), r.take (c.toNat * 256 + e.toNat)) :: l)
  | _ => none
termination_by d.length
decreasing_by simp; omega

theorem parse_nil : parseB [] = some [] := by rw [parseB]
theorem parse_short {d : List UInt8} (h0 : d ≠ []) (h : d.length < 4) : parseB d = none := by
  match d, h0, h with
  | [a], _, _ => rw [parseB] <;> simp
  | [a, b], _, _ => rw [parseB] <;> simp
  | [a, b, c], _, _ => rw [parseB] <;> simp
theorem parse_next (a b c e : UInt8) (r : List UInt8) : parseB (a :: b :: c :: e :: r) = if r.length < c.toNat * 256 + e.toNat then none
    else (parseB (r.drop (c.toNat * 256 + e.toNat))).map (fun l => (((a.toNat * 256 + b.toNat : Nat) : Int), r.take (c.toNat * 256 + e.toNat)) :: l) := by
  rw [parseB]

/-- 'b[k:]'. -/
theorem tail_runs {P : Program} {A : Option Addr} {n c : Nat} {d : List UInt8} {t e : TypeId} (ht : P.underlying t = some (.slice e)) (hz : (P.info? e).map (·.size) = some 1) (hc : n ≤ c) (k : Nat) (hk : k ≤ n) :
    ∃ A', (∀ w' : World, (Instr.slice t (.slice A n c) (some (.int .i64 (k : Int))) none none).run P w' = .ok (.slice A' (n - k) (c - k)) w') ∧ ∀ W : World, BReads W A n (nums d) → BReads W A' (n - k) (nums (d.drop k)) := by
  refine ⟨if c = k then A else A.map (·.add (k * 1)), fun w' => ?_, fun W h => ⟨?_, fun e => ?_⟩⟩
  · have hel : P.elem t = e := by simp [Program.elem, ht]
    rw [run_slice_l w' t A n c (by rw [hel]; exact ht) .i64 k (by omega) (by omega), hel]
    obtain ⟨i, hi, hz'⟩ := Option.map_eq_some_iff.1 hz
    have e1 : ((k : Int)).toNat = k := by omega
    simp [sizeOf, typeInfo, hi, hz', Result.andThen, sliced, e1]
  · have h1 := h.1.cut (k := k) (cap := c) hk hc
    simpa [nums, List.map_drop] using h1
  · rcases A with _ | ad
    · have := h.2 rfl; omega
    · split at e <;> simp at e

set_option maxRecDepth 1000000 in
set_option maxHeartbeats 4000000 in
theorem one_ok (A : Option Addr) (n c : Nat) (a b x y : UInt8) (r : List UInt8) (w : World) (h : BReads w A n (nums (a :: b :: x :: y :: r))) (hc : n ≤ c) (hn : n ≤ 1048576) (hr : x.toNat * 256 + y.toNat ≤ r.length) :
    Calls Try.prog 45 #[.slice A n c] w fun e w' => ∃ A7 c7 A6 m6 c6, e = .returned (.tuple #[.agg #[.int .i64 ((a.toNat * 256 + b.toNat : Nat) : Int), .slice A7 (x.toNat * 256 + y.toNat) c7], .slice A6 m6 c6, .bool true]) ∧
      w'.ownsRow w.heap.size 5 1 (.slice A7 (x.toNat * 256 + y.toNat) c7) (x.toNat * 256 + y.toNat) ((nums (r.take (x.toNat * 256 + y.toNat))).map (Value.int .u8)) ∧ (∀ W : World, BReads W A n (nums (a :: b :: x :: y :: r)) → BReads W A6 m6 (nums (r.drop (x.toNat * 256 + y.toNat)))) ∧ m6 ≤ c6 ∧ Below w.heap.size w w' := by
  have hlen : n = 4 + r.length := by have := h.len; rw [nums_length] at this; simp at this; omega
  have hn4 : 4 ≤ n := by omega
  obtain ⟨N, hN⟩ : ∃ N : Nat, x.toNat * 256 + y.toNat = N := ⟨_, rfl⟩
  obtain ⟨C, hC⟩ : ∃ C : Nat, a.toNat * 256 + b.toNat = C := ⟨_, rfl⟩
  rw [hN, hC]
  rw [hN] at hr
  have g1 := fun W hb => get_two A n c (a :: b :: x :: y :: r) W (h.below (w' := W) hb) hc (by omega) 0 a b rfl rfl
  have g2 := fun W hb => get_two A n c (a :: b :: x :: y :: r) W (h.below (w' := W) hb) hc (by omega) 2 x y rfl rfl
  rw [show ((a.toNat : Int) * 256 + (b.toNat : Int)) = (C : Int) by omega] at g1
  rw [show ((x.toNat : Int) * 256 + (y.toNat : Int)) = (N : Int) by omega] at g2
  have G1 := Lib.hid g1
  have G2 := Lib.hid g2
  clear g1 g2
  obtain ⟨A4, hs4, ht4⟩ := tail_runs (P := Try.prog) (A := A) (d := a :: b :: x :: y :: r) (t := 22) (e := 5) Try.underlying22 byte_size hc 4 hn4
  obtain ⟨m4, hm4⟩ : ∃ m4, n - 4 = m4 := ⟨_, rfl⟩
  obtain ⟨c4, hc4⟩ : ∃ c4, c - 4 = c4 := ⟨_, rfl⟩
  simp only [hm4, hc4, show ((4 : Nat) : Int) = 4 from rfl] at hs4
  rw [hm4, show (a :: b :: x :: y :: r).drop 4 = r from rfl] at ht4
  have hb4 := ht4 w h
  obtain ⟨A5, c5, hs5, hb5⟩ := head_runs (P := Try.prog) (w := w) (t := 22) (e := 5) Try.underlying22 byte_size hb4 (c := c4) (by omega) N (by omega)
  obtain ⟨A6, hs6, ht6⟩ := tail_runs (P := Try.prog) (A := A4) (d := r) (t := 22) (e := 5) Try.underlying22 byte_size (c := c4) (show m4 ≤ c4 by omega) N (by omega)
  have hd1 : decide ((n : Int) < 4) = false := by simp; omega
  have hd2 : decide ((m4 : Int) < (N : Int)) = false := by simp; omega
  have hw0 : Below w.heap.size w (w.alloc (.cells #[.int .i64 0, .slice none 0 0] 65)) := (Below.refl _ _).alloc (Nat.le_refl _) _
  have K0 := Lib.hid (Blk.new w 65 #[.int .i64 0, .slice none 0 0])
  have HB5 := Lib.hid (hb5.below hw0)
  have HB6 := Lib.hid (fun (W : World) (hW : BReads W A n (nums (a :: b :: x :: y :: r))) => ht6 W (ht4 W hW))
  have HW0 := Lib.hid hw0
  have hm4n : N ≤ m4 := by omega
  have hmc : m4 - N ≤ c4 - N := by omega
  have hNb : N ≤ 1048576 := by omega
  clear hb4 hb5 ht4 ht6 hw0 h hN hC hm4 hc4 hlen
  go_enter Try.func45, Try.ntmps45
  go_wp2_with fail
  generalize hW0 : w.alloc (.cells #[.int .i64 0, .slice none 0 0] 65) = W0 at *
  refine (G1.out _ HW0.out).mono ?_
  rintro e w1 ⟨rfl, rfl⟩
  go_wp2_with fail
  refine (G2.out _ HW0.out).mono ?_
  rintro e w2 ⟨rfl, rfl⟩
  go_wp2_with fail
  refine wp_region_held_drew (S := fun _ : World => True) (by kernel_rfl) trivial (fun H0 => ?_)
  refine wpAnyH_take (i := 0) (v := .int .i64 C) rfl (by kernel_rfl) (by kernel_rfl) (by kernel_rfl) (fun _ _ _ h => h) (.inl ⟨rfl, fun w hS => by go_simp⟩) H0 ?_
  simp only [Act.put, List.getElem_toArray, List.getElem_cons_zero, List.setIfInBounds_toArray, List.set_cons_zero, List.set_cons_succ]
  refine wpAnyH_take (i := 1) (v := .slice A4 m4 c4) rfl (by kernel_rfl) (by kernel_rfl) (by kernel_rfl) (fun _ _ _ h => h) (.inl ⟨rfl, fun w hS => by go_simp⟩) H0 ?_
  simp only [Act.put, List.getElem_toArray, List.getElem_cons_succ, List.getElem_cons_zero, List.setIfInBounds_toArray, List.set_cons_zero, List.set_cons_succ]
  refine wpAnyH_take (i := 2) (v := .int .i64 N) rfl (by kernel_rfl) (by kernel_rfl) (by kernel_rfl) (fun _ _ _ h => h) (.inl ⟨rfl, fun w hS => by go_simp⟩) H0 ?_
  simp only [Act.put, List.getElem_toArray, List.getElem_cons_succ, List.getElem_cons_zero, List.setIfInBounds_toArray, List.set_cons_zero, List.set_cons_succ]
  refine wpAnyH_take (i := 3) (v := .slice A5 N c5) rfl (by kernel_rfl) (by kernel_rfl) (by kernel_rfl) (fun _ _ _ h => h) (.inl ⟨rfl, fun w hS => by go_simp⟩) H0 ?_
  simp only [Act.put, List.getElem_toArray, List.getElem_cons_succ, List.getElem_cons_zero, List.setIfInBounds_toArray, List.set_cons_zero, List.set_cons_succ]
  refine wpAnyH_take (i := 6) (v := .slice A4 m4 c4) rfl (by kernel_rfl) (by kernel_rfl) (by kernel_rfl) (fun _ _ _ h => h) (.inl ⟨rfl, fun w hS => by go_simp⟩) H0 ?_
  simp only [Act.put, List.getElem_toArray, List.getElem_cons_succ, List.getElem_cons_zero, List.setIfInBounds_toArray, List.set_cons_zero, List.set_cons_succ]
  refine wpAnyH_take (i := 7) (v := .int .i64 N) rfl (by kernel_rfl) (by kernel_rfl) (by kernel_rfl) (fun _ _ _ h => h) (.inl ⟨rfl, fun w hS => by go_simp⟩) H0 ?_
  simp only [Act.put, List.getElem_toArray, List.getElem_cons_succ, List.getElem_cons_zero, List.setIfInBounds_toArray, List.set_cons_zero, List.set_cons_succ]
  refine wpAnyH_take (i := 8) (v := .slice A6 (m4 - N) (c4 - N)) rfl (by kernel_rfl) (by kernel_rfl) (by kernel_rfl) (fun _ _ _ h => h) (.inl ⟨rfl, fun w hS => by go_simp⟩) H0 ?_
  simp only [Act.put, List.getElem_toArray, List.getElem_cons_succ, List.getElem_cons_zero, List.setIfInBounds_toArray, List.set_cons_zero, List.set_cons_succ]
  refine wpAnyH_ready (rs := [4]) (by kernel_rfl) (by simp) ?_
  refine AllReadyH.cons rfl (fun KK hK => ?_) AllReadyH.nil
  refine step_call rfl 37 #[.tmp 33] #[22] rfl #[.slice A5 N c5] (by simp [Act.eval]) (enters_of Try.func37 (by kernel_rfl) rfl) ?_
  refine (clone_own A5 N c5 _ _ (show BReads W0.drew A5 N _ from HB5.out) (by omega)).mono ?_
  rintro r w7 ⟨v7, rfl, own7, bel7⟩
  have OWN7 := Lib.hid own7
  have BEL7 := Lib.hid (show Below W0.heap.size W0 w7 from ⟨bel7.os, bel7.tape, bel7.output, bel7.size, bel7.block⟩)
  obtain ⟨A7, c7, rfl, _⟩ := own_slice' own7
  have k7 : Blk w7 w.heap.size 65 #[.int .i64 0, .slice none 0 0] := K0.out.on BEL7.out
  clear own7 bel7
  refine ⟨_, rfl, hK.out _ _ trivial (fun _ => ?_)⟩
  clear hK KK
  simp only [Act.put, List.getElem_toArray, List.getElem_cons_succ, List.getElem_cons_zero, List.setIfInBounds_toArray, List.set_cons_zero, List.set_cons_succ]
  refine wpAnyH_take (i := 5) (v := .agg #[.int .i64 C, .slice A7 N c7]) rfl (by kernel_rfl) (by kernel_rfl) (by kernel_rfl) (fun _ _ _ h => h) (yields_build2 rfl 65 _ rfl #[.int .i64 C, .slice A7 N c7] (by kernel_rfl)) trivial ?_
  simp only [Act.put, List.getElem_toArray, List.getElem_cons_succ, List.getElem_cons_zero, List.setIfInBounds_toArray, List.set_cons_zero, List.set_cons_succ]
  have c70 : w7.cell? ⟨w.heap.size, 0, none⟩ = some (.int .i64 0) := k7.cell 0
  have c71 : w7.cell? ⟨w.heap.size, 1, none⟩ = some (.slice none 0 0) := k7.cell 1
  have f70 := k7.frozen 0
  have f71 := k7.frozen 1
  refine wpAnyH_ready (rs := [9]) (by kernel_rfl) (by simp) ?_
  refine AllReadyH.cons rfl (fun KK hK => ?_) AllReadyH.nil
  go_simp
  refine hK.out _ _ trivial (fun _ => ?_)
  clear hK KK
  refine wpAnyH_take (i := 10) (v := .slice A6 (m4 - N) (c4 - N)) rfl (by kernel_rfl) (by kernel_rfl) (by kernel_rfl) (fun _ _ _ h => h) (.inl ⟨rfl, fun w hS => by go_simp⟩) trivial ?_
  simp only [Act.put, List.getElem_toArray, List.getElem_cons_succ, List.getElem_cons_zero, List.setIfInBounds_toArray, List.set_cons_zero, List.set_cons_succ]
  refine wpAnyH_take (i := 11) (v := .bool true) rfl (by kernel_rfl) (by kernel_rfl) (by kernel_rfl) (fun _ _ _ h => h) (.inl ⟨rfl, fun w hS => by go_simp⟩) trivial ?_
  simp only [Act.put, List.getElem_toArray, List.getElem_cons_succ, List.getElem_cons_zero, List.setIfInBounds_toArray, List.set_cons_zero, List.set_cons_succ]
  refine wpAnyH_done (by kernel_rfl) ?_ _
  have k9 : Blk ((w7.setCell ⟨w.heap.size, 0, none⟩ (.int .i64 C)).setCell ⟨w.heap.size, 1, none⟩ (.slice A7 N c7)) w.heap.size 65 #[.int .i64 C, .slice A7 N c7] := (k7.set_ 0 (.int .i64 C)).set_ 1 (.slice A7 N c7)
  have hc0 := k9.cell 0
  have hc1 := k9.cell 1
  simp only [List.getElem?_toArray, List.getElem?_cons_zero, List.getElem?_cons_succ] at hc0 hc1
  have bel9 : Below w.heap.size w ((w7.setCell ⟨w.heap.size, 0, none⟩ (.int .i64 C)).setCell ⟨w.heap.size, 1, none⟩ (.slice A7 N c7)) :=
    ((HW0.out.trans (BEL7.out.mono HW0.out.size)).setCell (p := ⟨w.heap.size, 0, none⟩) (Nat.le_refl _) _).setCell (p := ⟨w.heap.size, 1, none⟩) (Nat.le_refl _) _
  have hne7 : (Value.slice A7 N c7).ownBlock ≠ some w.heap.size := fun e => owns_ne OWN7.out k7 (by decide) e.symm
  have own9 := owns_far (owns_far (owns_base OWN7.out HW0.out.size) (p := ⟨w.heap.size, 0, none⟩) hne7 (.int .i64 C)) (p := ⟨w.heap.size, 1, none⟩) hne7 (.slice A7 N c7)
  go_wp2
  refine ⟨rfl, .tuple #[.agg #[.int .i64 C, .slice A7 N c7], .slice A6 (m4 - N) (c4 - N), .bool true], ?_, A7, c7, A6, m4 - N, c4 - N, rfl, own9, HB6.out, hmc, bel9⟩
  simp [results, Try.f45, go_sem, hc0, hc1]

set_option maxRecDepth 100000 in
set_option maxHeartbeats 2000000 in
theorem one_short (A : Option Addr) (n c : Nat) (hn : n < 4) (w : World) :
    Calls Try.prog 45 #[.slice A n c] w fun e w' => e = .returned (.tuple #[.agg #[.int .i64 0, .slice none 0 0], .slice none 0 0, .bool false]) ∧ Below w.heap.size w w' := by
  have hd1 : decide ((n : Int) < 4) = true := by simp; omega
  have k0 := Blk.new w 65 #[.int .i64 0, .slice none 0 0]
  have bel0 : Below w.heap.size w (w.alloc (.cells #[.int .i64 0, .slice none 0 0] 65)) := (Below.refl _ _).alloc (Nat.le_refl _) _
  have c0 : (w.alloc (.cells #[.int .i64 0, .slice none 0 0] 65)).cell? ⟨w.heap.size, 0, none⟩ = some (.int .i64 0) := k0.cell 0
  have c1 : (w.alloc (.cells #[.int .i64 0, .slice none 0 0] 65)).cell? ⟨w.heap.size, 1, none⟩ = some (.slice none 0 0) := k0.cell 1
  have f0 := k0.frozen 0
  have f1 := k0.frozen 1
  go_enter Try.func45, Try.ntmps45
  go_wp2
  refine ⟨rfl, .tuple #[.agg #[.int .i64 0, .slice none 0 0], .slice none 0 0, .bool false], ?_, rfl, bel0⟩
  simp [results, Try.f45, go_sem, c0, c1]

set_option maxRecDepth 100000 in
set_option maxHeartbeats 2000000 in
theorem one_long (A : Option Addr) (n c : Nat) (a b x y : UInt8) (r : List UInt8) (w : World) (h : BReads w A n (nums (a :: b :: x :: y :: r))) (hc : n ≤ c) (hn : n ≤ 1048576) (hr : r.length < x.toNat * 256 + y.toNat) :
    Calls Try.prog 45 #[.slice A n c] w fun e w' => e = .returned (.tuple #[.agg #[.int .i64 0, .slice none 0 0], .slice none 0 0, .bool false]) ∧ Below w.heap.size w w' := by
  have hlen : n = 4 + r.length := by have := h.len; rw [nums_length] at this; simp at this; omega
  have hn4 : 4 ≤ n := by omega
  obtain ⟨N, hN⟩ : ∃ N : Nat, x.toNat * 256 + y.toNat = N := ⟨_, rfl⟩
  obtain ⟨C, hC⟩ : ∃ C : Nat, a.toNat * 256 + b.toNat = C := ⟨_, rfl⟩
  rw [hN] at hr
  have g1 := fun W hb => get_two A n c (a :: b :: x :: y :: r) W (h.below (w' := W) hb) hc (by omega) 0 a b rfl rfl
  have g2 := fun W hb => get_two A n c (a :: b :: x :: y :: r) W (h.below (w' := W) hb) hc (by omega) 2 x y rfl rfl
  rw [show ((a.toNat : Int) * 256 + (b.toNat : Int)) = (C : Int) by omega] at g1
  rw [show ((x.toNat : Int) * 256 + (y.toNat : Int)) = (N : Int) by omega] at g2
  have G1 := Lib.hid g1
  have G2 := Lib.hid g2
  clear g1 g2
  obtain ⟨A4, hs4, ht4⟩ := tail_runs (P := Try.prog) (A := A) (d := a :: b :: x :: y :: r) (t := 22) (e := 5) Try.underlying22 byte_size hc 4 hn4
  obtain ⟨m4, hm4⟩ : ∃ m4, n - 4 = m4 := ⟨_, rfl⟩
  obtain ⟨c4, hc4⟩ : ∃ c4, c - 4 = c4 := ⟨_, rfl⟩
  simp only [hm4, hc4, show ((4 : Nat) : Int) = 4 from rfl] at hs4
  have hd1 : decide ((n : Int) < 4) = false := by simp; omega
  have hm4n : m4 < N := by omega
  have k0 := Blk.new w 65 #[.int .i64 0, .slice none 0 0]
  have bel0 : Below w.heap.size w (w.alloc (.cells #[.int .i64 0, .slice none 0 0] 65)) := (Below.refl _ _).alloc (Nat.le_refl _) _
  have c0 : (w.alloc (.cells #[.int .i64 0, .slice none 0 0] 65)).cell? ⟨w.heap.size, 0, none⟩ = some (.int .i64 0) := k0.cell 0
  have c1 : (w.alloc (.cells #[.int .i64 0, .slice none 0 0] 65)).cell? ⟨w.heap.size, 1, none⟩ = some (.slice none 0 0) := k0.cell 1
  have f0 := k0.frozen 0
  have f1 := k0.frozen 1
  have BEL0 := Lib.hid bel0
  have K0 := Lib.hid k0
  clear ht4 h hN hC hm4 hc4 hlen bel0 k0
  go_enter Try.func45, Try.ntmps45
  go_wp2_with fail
  generalize hW0 : w.alloc (.cells #[.int .i64 0, .slice none 0 0] 65) = W0 at *
  refine (G1.out _ BEL0.out).mono ?_
  rintro e w1 ⟨rfl, rfl⟩
  go_wp2_with fail
  refine (G2.out _ BEL0.out).mono ?_
  rintro e w2 ⟨rfl, rfl⟩
  go_wp2
  have k9 := (K0.out.set_ 0 (.int .i64 0)).set_ 1 (.slice none 0 0)
  have d0 := k9.cell 0
  have d1 := k9.cell 1
  have bel9 := (BEL0.out.setCell (p := ⟨w.heap.size, 0, none⟩) (Nat.le_refl _) (.int .i64 0)).setCell (p := ⟨w.heap.size, 1, none⟩) (Nat.le_refl _) (.slice none 0 0)
  simp only [List.setIfInBounds_toArray, List.set_cons_zero, List.set_cons_succ, List.getElem?_toArray, List.getElem?_cons_zero, List.getElem?_cons_succ] at d0 d1
  refine ⟨rfl, .tuple #[.agg #[.int .i64 0, .slice none 0 0], .slice none 0 0, .bool false], ?_, rfl, bel9⟩
  simp [results, Try.f45, go_sem, d0, d1]
end Go.Proofs.Ytfgcbpchapkjbaa
