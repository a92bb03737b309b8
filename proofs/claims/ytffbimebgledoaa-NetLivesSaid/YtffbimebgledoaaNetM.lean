/-
  net: the document's Take: the walk.
-/
import Derived.Test.YtffbimebgledoaaNetL
namespace Go.Proofs.Ytffbimebgledoaa
open Go.RowKit

theorem rows_drop_length (M : List Ent) (k : Nat) : (rows (M.drop k)).length = (M.length - k) * 3 := by rw [rows_length, List.length_drop]

set_option maxHeartbeats 4000000 in
set_option maxRecDepth 1000000 in
theorem rtake_full (w : World) (B g : Nat) (most : Int) (M : List Ent) (at_ : Int) (k : Nat) (e : Ent) (h : RNet w B g most M) (hk : at_ % (M.length : Int) = k) (hm : M[k]? = some e) (hl : M.length ≤ 100000) :
    Calls Try.prog 30 #[.pointer (some ⟨g, 0, none⟩), .int .i64 at_] w fun r w' => r = .returned (.tuple #[e.val, .bool true]) ∧ RNet w' B g most (M.take k ++ M.drop (k + 1)) ∧ Chg B 73 66 w w' ∧ (∀ j, j < w.heap.size → j ≠ g → w'.heap[j]? = w.heap[j]?) ∧
      (∀ j, j < w.heap.size → (∀ ad n c, w.cell? ⟨g, 0, none⟩ = some (.slice (some ad) n c) → ad.block ≠ j) → ∀ ad n c, w'.cell? ⟨g, 0, none⟩ = some (.slice (some ad) n c) → ad.block ≠ j) := by
  obtain ⟨i0, hi0, hz0, hz1, hz2⟩ := info_parts ritem_info
  have hlt : k < M.length := (List.getElem?_eq_some_iff.1 hm).1
  have bw : Below w.heap.size w (w.alloc (.cells zero3.toArray 66)) := (Below.refl _ w).alloc (Nat.le_refl _) _
  have k4 : Blk (w.alloc (.cells zero3.toArray 66)) w.heap.size 66 #[.int .i64 0, .bool false, .slice none 0 0] := Blk.new _ _ _
  have hlk := Lib.hid (rlook_any _ B g most M at_ k e (h.below bw) hk hm hl)
  have H0 := Lib.hid (h.below bw)
  have hBs : B ≤ w.heap.size := by obtain ⟨hB, A, c, hb, _⟩ := h; have := hb.lt; omega
  have hgs : g < w.heap.size := by obtain ⟨hB, A, c, hb, _⟩ := h; exact hb.lt
  have BW := Lib.hid bw
  have K4 := Lib.hid k4
  have HM := Lib.hid hm
  clear bw k4 h hm
  go_enter Try.func30, Try.ntmps30
  go_wp2_with fail
  change Calls _ _ _ (w.alloc (.cells zero3.toArray 66)) _
  generalize (w.alloc (.cells zero3.toArray 66)) = W0 at *
  refine hlk.out.mono ?_
  rintro r w1 ⟨rfl, b1⟩
  have al := (Below.refl w1.heap.size w1).alloc (Nat.le_refl _) (.cells #[.int .i64 e.b4, .bool e.up, .slice e.A e.n e.c] 66)
  have b2 := b1.trans (al.mono b1.size)
  have k6 := Blk.new w1 66 #[.int .i64 e.b4, .bool e.up, .slice e.A e.n e.c]
  obtain ⟨hB, A, c, hb, ho⟩ := H0.out.below b2
  obtain ⟨hh, cur, rfl, hBh, hcur, hcap, hcapm, hra⟩ := row_at2 ho HM.out
  have hs4 := K4.out.lt
  have k42 := K4.out.below b2 hs4
  have hs6 : w.heap.size < w1.heap.size := by have := b1.size; omega
  have BZ := Lib.hid (BW.out.trans (b2.mono BW.out.size))
  have K42 := Lib.hid k42
  have K6 := Lib.hid k6
  have KG := Lib.hid hb
  have c0 : (w1.alloc (.cells #[.int .i64 e.b4, .bool e.up, .slice e.A e.n e.c] 66)).cell? ⟨g, 0, none⟩ = some (.slice (some ⟨hh, 0, none⟩) M.length c) := hb.cell 0
  have hW1s : w.heap.size < (w1.alloc (.cells #[.int .i64 e.b4, .bool e.up, .slice e.A e.n e.c] 66)).heap.size := k42.lt
  have src1 := Lib.hid (show Reads (w1.alloc (.cells #[.int .i64 e.b4, .bool e.up, .slice e.A e.n e.c] 66)) (w1.alloc (.cells #[.int .i64 e.b4, .bool e.up, .slice e.A e.n e.c] 66)).heap.size 3 (some ⟨hh, 0, none⟩) k (rows (M.take k)) from
    ⟨by rw [rows_length, List.length_take]; omega, fun _ => ⟨_, rfl, hcur.lt, fun j u hu => by
      rw [Addr.add_lit, Nat.zero_add]
      rw [← rows_take] at hu
      rw [List.getElem?_take] at hu
      split at hu
      · exact hra j u hu
      · cases hu⟩⟩)
  obtain ⟨A2, hA2, src2⟩ : ∃ A2 : Addr, (if c = k + 1 then some (⟨hh, 0, none⟩ : Addr) else some ⟨hh, (k + 1) * 3, none⟩) = some A2 ∧ Hid (Reads (w1.alloc (.cells #[.int .i64 e.b4, .bool e.up, .slice e.A e.n e.c] 66)) (w1.alloc (.cells #[.int .i64 e.b4, .bool e.up, .slice e.A e.n e.c] 66)).heap.size 3 (some A2) (M.length - (k + 1)) (rows (M.drop (k + 1)))) := by
    by_cases hc1 : c = k + 1
    · refine ⟨⟨hh, 0, none⟩, by simp [hc1], Lib.hid ⟨rows_drop_length M (k + 1), fun h0 => absurd h0 (by omega)⟩⟩
    · refine ⟨⟨hh, (k + 1) * 3, none⟩, by simp [hc1], Lib.hid ⟨rows_drop_length M (k + 1), fun _ => ⟨_, rfl, hcur.lt, fun j u hu => ?_⟩⟩⟩
      rw [← rows_drop, List.getElem?_drop] at hu
      rw [Addr.add_lit]
      exact hra _ u hu
  have hM : 0 < M.length := by omega
  have e1 := place_eq at_ M.length hM
  rw [hk] at e1
  have e2 := Int.lt_tmod_of_pos at_ (show (0 : Int) < M.length by omega)
  have e3 := Int.tmod_lt_of_pos at_ (show (0 : Int) < M.length by omega)
  obtain ⟨r, hr1⟩ : ∃ r, at_.tmod M.length = r := ⟨_, rfl⟩
  rw [hr1] at e1 e2 e3
  have e4 : IntKind.i64.wrap r = r := IntWalk.i64_in _ (by omega)
  have e5 : IntKind.i64.wrap (r + M.length) = r + M.length := IntWalk.i64_in _ (by omega)
  have e6 : IntKind.i64.wrap (k : Int) = k := IntWalk.i64_in _ (by omega)
  have e7 : IntKind.i64.wrap ((k : Int) + 1) = (k : Int) + 1 := IntWalk.i64_in _ (by omega)
  have f1 : ((k : Int) + 1).toNat = k + 1 := by omega
  have f2 : 0 ≤ (k : Int) + 1 := by omega
  have f3 : (k : Int) + 1 ≤ (M.length : Int) := by omega
  have f4 : (k : Int) ≤ (c : Int) := by omega
  have f5 : k ≤ c := by omega
  have hBW : B ≤ (w1.alloc (.cells #[.int .i64 e.b4, .bool e.up, .slice e.A e.n e.c] 66)).heap.size := by omega
  clear hk e2 e3 al b1 b2 k6 k42 hb ho hcur hra hcap hcapm H0 hlk K4
  go_upto_region 2 with fail
  change Code.wp _ _ _ _ (w1.alloc (.cells #[.int .i64 e.b4, .bool e.up, .slice e.A e.n e.c] 66))
  generalize (w1.alloc (.cells #[.int .i64 e.b4, .bool e.up, .slice e.A e.n e.c] 66)) = W1 at *
  generalize w1.heap.size = p6 at *
  go_wp2_with fail
  go_quiet (fail)
  go_wp2_with fail
  go_region_law (first
    | (refine step_append_any _ rfl (.const (.slice none 0 0)) (.tmp 43) 71 rfl B 66 i0 _ 3 40 Try.underlying71 hi0 hz0 hz1 hz2 rfl (by omega) (.slice none 0 0) 0 [] (by simp [Act.eval])
         (World.ownsRow_nil _ _ _ _) W1.heap.size (some ⟨hh, 0, none⟩) k c (rows (M.take k)) (by simp [Act.eval, Act.put]) src1.out (rows_one_cell _) (by simp only [maxLen]; omega) (by omega) (show B ≤ W1.heap.size from hBW) ?_
       intro v1 w2 o1 g1 at1
       have O1 := Lib.hid o1
       have bb : Below W1.heap.size W1 w2 := ⟨g1.os, g1.tape, g1.output, g1.size, fun i hi => g1.block i hi (by simp [Value.ownBlock])⟩
       have B1 := Lib.hid bb
       have AT1 := Lib.hid at1
       have m0 : w2.cell? ⟨g, 0, none⟩ = some (.slice (some ⟨hh, 0, none⟩) M.length c) := (KG.out.below bb KG.out.lt).cell 0
       clear o1 g1 at1 bb)
    | (refine step_append_any w2 rfl (.tmp 44) (.tmp 51) 71 rfl B 66 i0 _ 3 40 Try.underlying71 hi0 hz0 hz1 hz2 rfl (by omega) v1 (0 + k) ([] ++ rows (M.take k)) (by simp [Act.eval, Act.put])
         O1.out W1.heap.size (some A2) (M.length - (k + 1)) (c - (k + 1)) (rows (M.drop (k + 1))) (by simp [Act.eval, Act.put]) (src2.out.below B1.out) (rows_one_cell _) (by simp only [maxLen]; omega) (by omega) (by have := B1.out.size; omega) ?_
       intro v2 w3 o2 g2 at2
       obtain ⟨A3, c3, rfl⟩ := owns_form o2
       have O2 := Lib.hid o2
       have AT2 := Lib.hid at2
       have bb2 : Below W1.heap.size W1 w3 := B1.out.grown g2 B1.out.size (fun j ej => by
         rcases AT1.out with e | e
         · rw [e] at ej; simp [Value.ownBlock] at ej
         · rw [e] at ej; injection ej with ej; exact Nat.le_of_eq (show W1.heap.size = j from ej))
       have B2 := Lib.hid bb2
       have kg := KG.out.below bb2 KG.out.lt
       have m1 : w3.cell? ⟨g, 0, none⟩ = some (.slice (some ⟨hh, 0, none⟩) M.length c) := kg.cell 0
       have m2 : w3.frozen? ⟨g, 0, none⟩ = false := kg.frozen 0
       clear kg bb2 o2 g2 at2))
  all_goals
    obtain ⟨q, hq⟩ : ∃ q, k + (M.length - (k + 1)) = q := ⟨_, rfl⟩
    have hkg := KG.out.below B2.out KG.out.lt
    have C3 := Lib.hid (show Chg B 73 66 w3 (w3.setCell ⟨g, 0, none⟩ (.slice A3 (k + (M.length - (k + 1))) c3)) from Chg.set_ hkg (.inl rfl) hB 0 _)
    have C3' := Lib.hid (show Chg B 73 73 w3 (w3.setCell ⟨g, 0, none⟩ (.slice A3 (k + (M.length - (k + 1))) c3)) from Chg.set_ hkg (.inl rfl) hB 0 _)
    have KG3 := Lib.hid (show Blk (w3.setCell ⟨g, 0, none⟩ (.slice A3 (k + (M.length - (k + 1))) c3)) g 73 #[.slice A3 (k + (M.length - (k + 1))) c3, .int .i64 most] from hkg.set_ 0 _)
    have k43 := (K42.out.below B2.out K42.out.lt).far (p := ⟨g, 0, none⟩) (by simp; omega) (.slice A3 (k + (M.length - (k + 1))) c3)
    have k63 := (K6.out.below B2.out K6.out.lt).far (p := ⟨g, 0, none⟩) (by simp; omega) (.slice A3 (k + (M.length - (k + 1))) c3)
    have K43 := Lib.hid k43
    have OW := Lib.hid (owns_far (p := ⟨g, 0, none⟩) O2.out (fun e => owns_ne O2.out hkg (by decide) e.symm) (.slice A3 (k + (M.length - (k + 1))) c3))
    have ON := Lib.hid (show ∀ j, j ≤ w.heap.size → some j ≠ (Value.slice A3 (k + (M.length - (k + 1))) c3).ownBlock from fun j hj ej => by
      obtain ⟨q1, hq1⟩ : ∃ q1, (Value.slice A3 (k + (M.length - (k + 1))) c3).ownBlock = q1 := ⟨_, rfl⟩
      have hq2 : (Value.slice A3 (0 + k + (M.length - (k + 1))) c3).ownBlock = q1 := by rw [← hq1]; cases A3 <;> rfl
      rw [hq1] at ej
      have hat := AT2.out
      rw [hq2, ← ej] at hat
      rcases hat with e | e
      · rcases AT1.out with e' | e'
        · rw [e'] at e; simp [Value.ownBlock] at e
        · rw [e'] at e
          have : j = W1.heap.size := Option.some.inj e
          omega
      · injection e with e; have := B1.out.size; omega)
    have CB := Lib.hid (show Chg B 73 66 w w3 from (Chg.of_below BZ.out hBs).trans (Chg.of_below B2.out hBW))
    have t0 := k43.cell 0
    have t1 := k43.cell 1
    have t2 := k43.cell 2
    have y0 := k43.frozen 0
    have y1 := k43.frozen 1
    have y2 := k43.frozen 2
    have x0 := k63.cell 0
    have x1 := k63.cell 1
    have x2 := k63.cell 2
    simp at t0 t1 t2 x0 x1 x2
    clear k43 k63 hkg m0 m1 m2 c0 e1 hr1 e4 e5 e6 e7 f1 f2 f3 f4 f5 hA2
    have HW4 := Lib.hid (show ∀ j, j ≠ g → (w3.setCell ⟨g, 0, none⟩ (.slice A3 (k + (M.length - (k + 1))) c3)).heap[j]? = w3.heap[j]? from fun j hj => Below.heap_setCell _ _ _ _ hj)
    generalize (w3.setCell ⟨g, 0, none⟩ (.slice A3 (k + (M.length - (k + 1))) c3)) = w4 at *
    go_wp2
    have CI : Chg B 73 66 w4 _ := Chg.item K43.out (.inr rfl) hBs (.int .i64 e.b4) (.bool e.up) (.slice e.A e.n e.c)
    have hrest : (M.take k ++ M.drop (k + 1)).length = k + (M.length - (k + 1)) := by rw [List.length_append, List.length_take, List.length_drop]; omega
    refine bodyPost_ret (v := .tuple #[e.val, .bool true]) ?_ rfl ?_
    · simp [results, Try.f30, asAddr, run_loadVar_row _ w.heap.size 66 66 #[.int .i64 e.b4, .bool e.up, .slice e.A e.n e.c] (0, 0) _ (K43.out.item (.int .i64 e.b4) (.bool e.up) (.slice e.A e.n e.c)) Try.underlying66 rfl ritem_size]
    · refine ⟨rfl, ⟨hB, A3, c3, ?_, ?_⟩, (CB.out.trans C3.out).trans CI, fun j hj hjg => ?_, fun j hj _ ad n0 c0 hcell => ?_⟩
      · rw [hrest]
        exact ((KG3.out.far (by simp; omega) _).far (by simp; omega) _).far (by simp; omega) _
      · rw [hrest, rows_append]
        have := OW.out
        rw [List.nil_append, Nat.zero_add] at this
        exact owns_far (owns_far (owns_far this (fun e => ON.out _ (Nat.le_refl _) e.symm) _) (fun e => ON.out _ (Nat.le_refl _) e.symm) _) (fun e => ON.out _ (Nat.le_refl _) e.symm) _
      · rw [Below.heap_setCell _ _ _ _ (by simp; omega), Below.heap_setCell _ _ _ _ (by simp; omega), Below.heap_setCell _ _ _ _ (by simp; omega)]
        exact (HW4.out j hjg).trans ((B2.out.block j (by omega)).trans (BZ.out.block j hj))
      · have hk5 := (((KG3.out.far (p := ⟨w.heap.size, 0, none⟩) (by simp; omega) (.int .i64 e.b4)).far (p := ⟨w.heap.size, 1, none⟩) (by simp; omega) (.bool e.up)).far (p := ⟨w.heap.size, 2, none⟩) (by simp; omega) (.slice e.A e.n e.c)).cell 0
        have hk6 := Option.some.inj (hk5.symm.trans hcell)
        injection hk6 with hk7
        subst hk7
        intro hk8
        exact ON.out j (Nat.le_of_lt hj) (by rw [← hk8]; rfl)

theorem rtake_any (w : World) (B g : Nat) (most : Int) (M : List Ent) (at_ : Int) (k : Nat) (e : Ent) (h : RNet w B g most M) (hk : at_ % (M.length : Int) = k) (hm : M[k]? = some e) (hl : M.length ≤ 100000) :
    Calls Try.prog 30 #[.pointer (some ⟨g, 0, none⟩), .int .i64 at_] w fun r w' => r = .returned (.tuple #[e.val, .bool true]) ∧ RNet w' B g most (M.take k ++ M.drop (k + 1)) ∧ Chg B 73 66 w w' :=
  (rtake_full w B g most M at_ k e h hk hm hl).mono fun _ _ H => ⟨H.1, H.2.1, H.2.2.1⟩
end Go.Proofs.Ytffbimebgledoaa
