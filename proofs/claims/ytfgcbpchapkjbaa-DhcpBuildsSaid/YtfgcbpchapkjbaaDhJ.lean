/-
  dhcp: options with a name, by the document.
-/
import Derived.Test.YtfgcbpchapkjbaaDhI
import Derived.Deep.RegionHeld3
import Derived.Great.BuildSlice
namespace Go.Proofs.Ytfgcbpchapkjbaa
open Go.RowKit Go.Great

theorem yields_build2 {P : Program} {ops : Array Oper} {S : World → Prop} {op : Oper} {a : Act} (hw : Region.wanted op (yielded ops a.tmps) = true) (t : TypeId) (parts : Array (Nat × Operand)) (ho : op.op = .build t parts) (cells : Array Value)
    (hf : P.built t (parts.map fun (i, x) => (i, a.eval x)).toList = some cells) : YieldsIf P ops S op (.agg cells) a :=
  .inl ⟨hw, fun w _ => by
    unfold execOp
    simp only [ho, Sem.run_bind, run_build w t _ _ hf, Result.andThen_ok]
    rfl⟩

theorem rwith_bad (A : Option Addr) (n c : Nat) (s : List UInt8) (hs : s.length ≤ 1048576) (hf : ¬ fits (labels s) ∨ s = []) (w : World) :
    Calls Try.prog 28 #[.slice A n c, .string (bs s)] w fun r w' => r = .returned (.tuple #[.slice none 0 0, .int .i64 4]) ∧ Below w.heap.size w w' := by
  have hnil := bs_nil s
  by_cases hf' : fits (labels s)
  · have h0 : s = [] := by rcases hf with h | h; exact absurd hf' h; exact h
    subst h0
    go_enter Try.func28, Try.ntmps28
    go_wp2_with fail
    refine (rput_ok none 0 0 [] [] hs hf' w ⟨Reads.none_, fun _ => rfl⟩ (by omega)).mono ?_
    rintro r w1 ⟨A1, n1, c1, rfl, _, _, hb1⟩
    go_wp2
    go_ret2
    exact ⟨rfl, hb1⟩
  · go_enter Try.func28, Try.ntmps28
    go_wp2_with fail
    refine (rput_bad none 0 0 s hs hf' w).mono ?_
    rintro r w1 ⟨rfl, hb1⟩
    go_wp2
    go_ret2
    exact ⟨rfl, hb1⟩

set_option maxRecDepth 1000000 in
set_option maxHeartbeats 4000000 in
theorem rwith_ok (A : Option Addr) (n c : Nat) (its : List It) (s : List UInt8) (hs : s.length ≤ 1048576) (hf : fits (labels s)) (h0 : s ≠ []) (w : World) (h : ORd w A n its) (hn : n ≤ 1000000) (hD : ∀ it ∈ its, it.n ≤ 1048576) :
    Calls Try.prog 28 #[.slice A n c, .string (bs s)] w (WithP w 70 (said its) s) := by
  obtain rfl : its.length = n := h.len
  have hnil : ((bs s).toList == []) = false := by rw [bs_nil]; simpa using h0
  have H := Lib.hid h
  have HD := Lib.hid hD
  obtain ⟨i0, hi0, hz0, hz1, hz2⟩ := info_parts ropt_info
  obtain ⟨j0, hj0, hjz0, hjz1, hjz2⟩ := info_parts byte_info
  clear h hD h0
  go_enter Try.func28, Try.ntmps28
  go_wp2_with fail
  refine (rput_ok none 0 0 [] s hs hf w ⟨Reads.none_, fun _ => rfl⟩ (by omega)).mono ?_
  rintro r w1 ⟨Ab, nb, cb, rfl, hbr, hbc, hb1⟩
  have HBR1 := Lib.hid hbr
  have HB1 := Lib.hid hb1
  have H1 := Lib.hid (H.out.below hb1)
  obtain ⟨b0, hb0⟩ : ∃ x, w1.heap.size = x := ⟨_, rfl⟩
  have HB0 := Lib.hid hb0
  clear hbr hb1 hb0
  go_wp2
  go_loopw [8, 9] (fun v i wr => ∃ (k : Nat) (v' : Value) (its' : List It), i = .int .i64 k ∧ v = v' ∧ k ≤ its.length ∧ ORow b0 70 wr v' its' ∧ said its' = said ((its.take k).filter (pick false)) ∧ Below b0 w1 wr) (fun _ i _ => its.length - (intOf i).toNat)
  case atStart => exact ⟨0, _, [], rfl, rfl, by omega, ORow.nil _ _ _, rfl, Below.refl _ _⟩
  case round =>
    obtain ⟨k, v', its', rfl, rfl, hk, hrow, hsaid, hb⟩ := hrel
    have hbw : b0 ≤ wr.heap.size := by have := hb.size; have := HB0.out; omega
    obtain ⟨A3, c3, rfl, _⟩ := hrow.reads
    have hlq : its'.length ≤ its.length := by
      have h1 : (said its').length = (said ((its.take k).filter (pick false))).length := by rw [hsaid]
      rw [said_length, said_length] at h1
      have h2 := List.length_filter_le (pick false) (its.take k)
      rw [List.length_take] at h2
      omega
    by_cases hlt : k < its.length
    · obtain ⟨it, hit⟩ : ∃ x, its[k]? = some x := ⟨_, List.getElem?_eq_getElem hlt⟩
      have hmem := List.mem_iff_getElem?.2 ⟨k, hit⟩
      have hbk : Below w1.heap.size w1 wr := by rw [HB0.out]; exact hb
      obtain ⟨b, o, rfl, hbl1, hcells1⟩ := H1.out.rd (by omega)
      have hbb : b < b0 := by rw [← HB0.out]; exact hbl1
      have H2 := H1.out.below hbk
      have hbl : b < wr.heap.size := by omega
      obtain ⟨m0, m1⟩ := hcells1 k it hit
      replace m0 : wr.cell? ⟨b, o + k * 2, none⟩ = some (.int .i64 it.code) := (hbk.cell (p := ⟨b, o + k * 2, none⟩) hbl1).trans m0
      replace m1 : wr.cell? ⟨b, o + k * 2 + 1, none⟩ = some (.slice it.A it.n it.c) := (hbk.cell (p := ⟨b, o + k * 2 + 1, none⟩) hbl1).trans m1
      have hitn := HD.out it hmem
      have HBR := Lib.hid (H2.ok it hmem).1
      have htk : (its.take (k + 1)).filter (pick false) = (its.take k).filter (pick false) ++ (if pick false it then [it] else []) := by
        rw [List.take_add_one, hit, List.filter_append]
        simp [List.filter_cons]
      have HTK := Lib.hid (congrArg said htk)
      obtain ⟨q, hq⟩ : ∃ q, its'.length = q := ⟨_, rfl⟩
      rw [hq] at hrow hlq ⊢
      have ROW := Lib.hid hrow
      have SAID := Lib.hid hsaid
      have HB := Lib.hid hb
      clear hcells1 hit htk hmem hbk H2 hrow hsaid hb hbl1
      have hk0 : (0 : Int) ≤ (k : Int) := by omega
      have hlt' : (k : Int) < (its.length : Int) := by omega
      by_cases hp : pick false it = true
      · have hne : (it.code != 64) = true := by
          have : (it.code == 64) = false := by unfold pick at hp; exact eq_of_beq hp
          simpa [bne] using this
        rw [if_pos hp, said_append] at HTK
        go_wp2_with fail
        refine wp_region_held_drew (S := fun w' : World => w'.cell? ⟨b, o + k * 2, none⟩ = some (.int .i64 it.code) ∧ w'.cell? ⟨b, o + k * 2 + 1, none⟩ = some (.slice it.A it.n it.c)) (by kernel_rfl) ⟨m0, m1⟩ (fun H0 => ?_)
        refine wpAnyH_take (i := 0) (v := .slice A3 q c3) rfl (by kernel_rfl) (by kernel_rfl) (by kernel_rfl) (fun _ _ _ h => h) (.inl ⟨rfl, fun w hS => by obtain ⟨m0, m1⟩ := hS; go_simp⟩) H0 ?_
        simp only [Act.put, List.getElem_toArray, List.getElem_cons_zero, List.setIfInBounds_toArray, List.set_cons_zero, List.set_cons_succ]
        refine wpAnyH_take (i := 1) (v := .slice (some ⟨b, o, none⟩) its.length c) rfl (by kernel_rfl) (by kernel_rfl) (by kernel_rfl) (fun _ _ _ h => h) (.inl ⟨rfl, fun w hS => by obtain ⟨m0, m1⟩ := hS; go_simp⟩) H0 ?_
        simp only [Act.put, List.getElem_toArray, List.getElem_cons_succ, List.getElem_cons_zero, List.setIfInBounds_toArray, List.set_cons_zero, List.set_cons_succ]
        refine wpAnyH_take (i := 2) (v := .int .i64 k) rfl (by kernel_rfl) (by kernel_rfl) (by kernel_rfl) (fun _ _ _ h => h) (.inl ⟨rfl, fun w hS => by obtain ⟨m0, m1⟩ := hS; go_simp⟩) H0 ?_
        simp only [Act.put, List.getElem_toArray, List.getElem_cons_succ, List.getElem_cons_zero, List.setIfInBounds_toArray, List.set_cons_zero, List.set_cons_succ]
        refine wpAnyH_take (i := 3) (v := .pointer (some ⟨b, o + k * 2, none⟩)) rfl (by kernel_rfl) (by kernel_rfl) (by kernel_rfl) (fun _ _ _ h => h) (.inl ⟨rfl, fun w hS => by obtain ⟨m0, m1⟩ := hS; go_simp⟩) H0 ?_
        simp only [Act.put, List.getElem_toArray, List.getElem_cons_succ, List.getElem_cons_zero, List.setIfInBounds_toArray, List.set_cons_zero, List.set_cons_succ]
        refine wpAnyH_take (i := 4) (v := .pointer (some ⟨b, o + k * 2, none⟩)) rfl (by kernel_rfl) (by kernel_rfl) (by kernel_rfl) (fun _ _ _ h => h) (.inl ⟨rfl, fun w hS => by obtain ⟨m0, m1⟩ := hS; go_simp⟩) H0 ?_
        simp only [Act.put, List.getElem_toArray, List.getElem_cons_succ, List.getElem_cons_zero, List.setIfInBounds_toArray, List.set_cons_zero, List.set_cons_succ]
        refine wpAnyH_take (i := 5) (v := .int .i64 it.code) rfl (by kernel_rfl) (by kernel_rfl) (by kernel_rfl) (fun _ _ _ h => h) (.inl ⟨rfl, fun w hS => by obtain ⟨m0, m1⟩ := hS; go_simp⟩) H0 ?_
        simp only [Act.put, List.getElem_toArray, List.getElem_cons_succ, List.getElem_cons_zero, List.setIfInBounds_toArray, List.set_cons_zero, List.set_cons_succ]
        refine wpAnyH_take (i := 6) (v := .slice (some ⟨b, o, none⟩) its.length c) rfl (by kernel_rfl) (by kernel_rfl) (by kernel_rfl) (fun _ _ _ h => h) (.inl ⟨rfl, fun w hS => by obtain ⟨m0, m1⟩ := hS; go_simp⟩) H0 ?_
        simp only [Act.put, List.getElem_toArray, List.getElem_cons_succ, List.getElem_cons_zero, List.setIfInBounds_toArray, List.set_cons_zero, List.set_cons_succ]
        refine wpAnyH_take (i := 7) (v := .int .i64 k) rfl (by kernel_rfl) (by kernel_rfl) (by kernel_rfl) (fun _ _ _ h => h) (.inl ⟨rfl, fun w hS => by obtain ⟨m0, m1⟩ := hS; go_simp⟩) H0 ?_
        simp only [Act.put, List.getElem_toArray, List.getElem_cons_succ, List.getElem_cons_zero, List.setIfInBounds_toArray, List.set_cons_zero, List.set_cons_succ]
        refine wpAnyH_take (i := 8) (v := .pointer (some ⟨b, o + k * 2, none⟩)) rfl (by kernel_rfl) (by kernel_rfl) (by kernel_rfl) (fun _ _ _ h => h) (.inl ⟨rfl, fun w hS => by obtain ⟨m0, m1⟩ := hS; go_simp⟩) H0 ?_
        simp only [Act.put, List.getElem_toArray, List.getElem_cons_succ, List.getElem_cons_zero, List.setIfInBounds_toArray, List.set_cons_zero, List.set_cons_succ]
        refine wpAnyH_take (i := 9) (v := .pointer (some ⟨b, o + k * 2 + 1, none⟩)) rfl (by kernel_rfl) (by kernel_rfl) (by kernel_rfl) (fun _ _ _ h => h) (.inl ⟨rfl, fun w hS => by obtain ⟨m0, m1⟩ := hS; go_simp⟩) H0 ?_
        simp only [Act.put, List.getElem_toArray, List.getElem_cons_succ, List.getElem_cons_zero, List.setIfInBounds_toArray, List.set_cons_zero, List.set_cons_succ]
        refine wpAnyH_take (i := 10) (v := .slice it.A it.n it.c) rfl (by kernel_rfl) (by kernel_rfl) (by kernel_rfl) (fun _ _ _ h => h) (.inl ⟨rfl, fun w hS => by obtain ⟨m0, m1⟩ := hS; go_simp⟩) H0 ?_
        simp only [Act.put, List.getElem_toArray, List.getElem_cons_succ, List.getElem_cons_zero, List.setIfInBounds_toArray, List.set_cons_zero, List.set_cons_succ]
        refine wpAnyH_ready (rs := [11]) (by kernel_rfl) (by simp) ?_
        refine AllReadyH.cons rfl (fun KK hK => ?_) AllReadyH.nil
        refine step_append_any wr.drew rfl (.const (.slice none 0 0)) (.tmp 43) 22 rfl wr.heap.size 5 j0 _ 1 1 Try.underlying22 hj0 hjz0 hjz1 hjz2 rfl (by omega) (.slice none 0 0) 0 [] rfl
          (World.ownsRow_nil _ _ _ _) wr.heap.size it.A it.n it.c ((nums it.d).map (Value.int .u8)) rfl HBR.out.1 (by intro u hu; obtain ⟨x, _, rfl⟩ := List.mem_map.1 hu; rfl) (by simp only [maxLen]; omega) (by omega) (Nat.le_refl _) ?_
        intro v6 w6 own6 grow6 _
        rw [List.nil_append, Nat.zero_add] at own6
        have b6 : Below wr.heap.size wr w6 := ⟨grow6.os, grow6.tape, grow6.output, grow6.size, fun i hi => grow6.block i hi (by simp [Value.ownBlock])⟩
        obtain ⟨A6, c6, rfl, dat6, hc6⟩ := Dat.own own6
        have dat7 : Dat b0 w6 A6 it.n it.d := by
          refine ⟨dat6.1, fun ad e hn => ?_⟩
          rcases (Dat.own (owns_base own6 hbw)) with ⟨A8, c8, e8, d8, _⟩
          injection e8 with e8 _ _
          subst e8
          exact d8.2 ad e hn
        have B6 := Lib.hid b6
        have R6 := Lib.hid (ROW.out.below b6)
        have D6 := Lib.hid dat7
        have m06 := (b6.cell (p := ⟨b, o + k * 2, none⟩) hbl).trans m0
        have m16 := (b6.cell (p := ⟨b, o + k * 2 + 1, none⟩) hbl).trans m1
        refine hK.out _ _ ⟨m06, m16⟩ (fun _ => ?_)
        clear hK KK own6 grow6 b6 dat6 dat7
        simp only [Act.put, List.getElem_toArray, List.getElem_cons_succ, List.getElem_cons_zero, List.setIfInBounds_toArray, List.set_cons_zero, List.set_cons_succ]
        refine wpAnyH_take (i := 12) (v := .agg #[.int .i64 it.code, .slice A6 it.n c6]) rfl (by kernel_rfl) (by kernel_rfl) (by kernel_rfl) (fun _ _ _ h => h) (yields_build2 rfl 70 _ rfl #[.int .i64 it.code, .slice A6 it.n c6] (by kernel_rfl)) ⟨m06, m16⟩ ?_
        simp only [Act.put, List.getElem_toArray, List.getElem_cons_succ, List.getElem_cons_zero, List.setIfInBounds_toArray, List.set_cons_zero, List.set_cons_succ]
        refine wpAnyH_ready (rs := [13]) (by kernel_rfl) (by simp) ?_
        refine AllReadyH.cons rfl (fun KK hK => ?_) AllReadyH.nil
        go_simp
        have hbA : Below w6.heap.size w6 (w6.alloc (.cells #[.int .i64 it.code, .slice A6 it.n c6] 70)) := (Below.refl _ _).alloc (Nat.le_refl _) _
        have m07 := (hbA.cell (p := ⟨b, o + k * 2, none⟩) (Nat.lt_of_lt_of_le hbl B6.out.size)).trans m06
        have m17 := (hbA.cell (p := ⟨b, o + k * 2 + 1, none⟩) (Nat.lt_of_lt_of_le hbl B6.out.size)).trans m16
        refine hK.out _ _ ⟨m07, m17⟩ (fun _ => ?_)
        clear hK KK
        refine wpAnyH_ready (rs := [14]) (by kernel_rfl) (by simp) ?_
        refine AllReadyH.cons rfl (fun KK hK => ?_) AllReadyH.nil
        have R7 := Lib.hid (R6.out.below hbA)
        have hs6 := B6.out.size
        refine step_append_any (w6.alloc (.cells #[.int .i64 it.code, .slice A6 it.n c6] 70)) rfl (.tmp 33) (.tmp 46) 47 rfl b0 70 i0 _ 2 32 Try.underlying47 hi0 hz0 hz1 hz2 rfl (by omega) (.slice A3 q c3) q (rows its') rfl
          (by have := R7.out.own; rwa [hq] at this) (w6.heap.size + 1) (some ⟨w6.heap.size, 0, none⟩) 1 1 (It.cells ⟨it.code, A6, it.n, c6, it.d⟩) rfl (reads_two w6 _ _ _) one2 (by simp only [maxLen]; omega) (by omega) (by simp; omega) ?_
        intro v8 w8 own8 grow8 _
        have row8 := Lib.hid (R7.out.snoc (it := ⟨it.code, A6, it.n, c6, it.d⟩) grow8 (by rw [hq]; exact own8) (by decide) ⟨D6.out.below hbA, hc6⟩)
        have b8 := Lib.hid ((B6.out.mono hbw).trans ((hbA.mono (by omega)).trans (app_others (Below.refl _ _) R7.out.own (by simp; omega) grow8).2))
        have hs8 : ∀ p : Addr, p.block < w6.heap.size → p.block < b0 → ∀ v, (w6.alloc (.cells #[.int .i64 it.code, .slice A6 it.n c6] 70)).cell? p = some v → w8.cell? p = some v := fun p hp hb v hv => (World.cell?_of_block (w := w6.alloc (.cells #[.int .i64 it.code, .slice A6 it.n c6] 70)) (grow8.block p.block (World.block_lt_of_cell? _ p hv) (fun e => by
          rcases R7.out.own.2 with ⟨h1, _⟩ | ⟨g, cap, cur, h1, hB, _⟩
          · rw [h1] at e; simp [Value.ownBlock] at e
          · rw [h1] at e
            have : p.block = g := by simpa [Value.ownBlock] using e
            omega))).trans hv
        have m08 := hs8 ⟨b, o + k * 2, none⟩ (Nat.lt_of_lt_of_le hbl hs6) hbb _ m07
        have m18 := hs8 ⟨b, o + k * 2 + 1, none⟩ (Nat.lt_of_lt_of_le hbl hs6) hbb _ m17
        refine hK.out _ _ ⟨m08, m18⟩ (fun _ => ?_)
        clear hK KK own8 grow8 hs8
        simp only [Act.put, List.getElem_toArray, List.getElem_cons_succ, List.getElem_cons_zero, List.setIfInBounds_toArray, List.set_cons_zero, List.set_cons_succ]
        refine wpAnyH_take (i := 15) (v := v8) rfl (by kernel_rfl) (by kernel_rfl) (by kernel_rfl) (fun _ _ _ h => h) (.inl ⟨rfl, fun w hS => by go_simp⟩) ⟨m08, m18⟩ ?_
        simp only [Act.put, List.getElem_toArray, List.getElem_cons_succ, List.getElem_cons_zero, List.setIfInBounds_toArray, List.set_cons_zero, List.set_cons_succ]
        refine wpAnyH_done (by kernel_rfl) ?_ _
        clear m07 m17 m06 m16 m0 m1 m08 m18 H0
        go_wp2
        refine ⟨⟨k + 1, v8, _, by go_num, rfl, hlt, row8.out, ?_, HB.out.trans b8.out⟩, by simp [intOf]; omega⟩
        rw [said_append, SAID.out, HTK.out]
        rfl
      · have hne : (it.code != 64) = false := by
          have : pick false it = false := by simpa using hp
          unfold pick at this
          cases h5 : (it.code == 64)
          · rw [h5] at this; cases this
          · simp [bne, h5]
        rw [if_neg hp, List.append_nil] at HTK
        go_wp2
        exact ⟨⟨k + 1, _, its', by go_num, by first | rfl | trivial, hlt, ROW.out, by rw [HTK.out]; exact SAID.out, HB.out⟩, by simp [intOf]; omega⟩
    · obtain rfl : k = its.length := by omega
      rw [List.take_length] at hsaid
      have hbk : Below w1.heap.size w1 wr := by rw [HB0.out]; exact hb
      have hbA : Below wr.heap.size wr (wr.alloc (.cells #[.int .i64 64, .slice Ab nb cb] 70)) := (Below.refl _ _).alloc (Nat.le_refl _) _
      have RD := Lib.hid (show Reads (wr.alloc (.cells #[.int .i64 64, .slice Ab nb cb] 70)) (wr.heap.size + 1) 2 (some ⟨wr.heap.size, 0, none⟩) 1 (It.cells ⟨64, Ab, nb, cb, packB (labels s) ++ [0]⟩) from reads_two wr _ _ _)
      have hsz8 : b0 ≤ (wr.alloc (.cells #[.int .i64 64, .slice Ab nb cb] 70)).heap.size := by simp; omega
      have ITOK := Lib.hid (show It.ok b0 wr ⟨64, Ab, nb, cb, packB (labels s) ++ [0]⟩ from ⟨Dat.old (by have := HBR1.out; rwa [List.nil_append, ← nums_packB, show ([0] : List Int) = nums [0] from rfl, ← nums_append] at this) (Nat.le_of_eq HB0.out) hbk, hbc⟩)
      obtain ⟨q, hq⟩ : ∃ q, its'.length = q := ⟨_, rfl⟩
      rw [hq] at hrow hlq ⊢
      have R7 := Lib.hid (hrow.below hbA)
      have OWN := Lib.hid R7.out.own
      rw [hq] at OWN
      have HB := Lib.hid hb
      have HBK := Lib.hid hbk
      have SAID := Lib.hid hsaid
      have HBA := Lib.hid hbA
      clear hrow hsaid hb hbk hbA
      go_wp2_with (at_builtin
                   refine wpList_append_any _ rfl (.tmp 48) (.tmp 51) _ rfl b0 70 i0 _ 2 32 Try.underlying47 hi0 hz0 hz1 hz2 rfl (by omega) (.slice A3 q c3) q (rows its') rfl
                     OWN.out (wr.heap.size + 1) (some ⟨wr.heap.size, 0, none⟩) 1 1 _ rfl RD.out one2 (by simp only [maxLen]; omega) (by omega) hsz8 ?_
                   intro v8 w8 own8 grow8 _)
      have row8 := R7.out.snoc grow8 (by rw [hq]; exact own8) (by decide) ⟨ITOK.out.1.below HBA.out, hbc⟩
      have b8 := (HBA.out.mono hbw).trans (app_others (Below.refl _ _) R7.out.own hsz8 grow8).2
      go_ret2
      refine ⟨b0, v8, _, rfl, row8, ?_, HB1.out.trans ((HBK.out.trans (b8.mono (Nat.le_of_eq HB0.out))).mono HB1.out.size)⟩
      rw [said_append, SAID.out, withName, said_filter']
      rfl
end Go.Proofs.Ytfgcbpchapkjbaa
