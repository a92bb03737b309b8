/-
  net: Take: the walk; what no call made.
-/
import Derived.Test.YtffbimebgledoaaNetE
namespace Go.Proofs.Ytffbimebgledoaa
open Go.RowKit

theorem owns_far {w : World} {base n e size : Nat} {v : Value} {xs : List Value} (ho : w.ownsRow base e size v n xs) {p : Addr} (hp : v.ownBlock ≠ some p.block) (u : Value) : (w.setCell p u).ownsRow base e size v n xs := by
  refine ⟨ho.1, ?_⟩
  rcases ho.2 with h0 | ⟨g, cap, cur, hv, hg, hh, hr⟩
  · exact .inl h0
  · subst hv
    exact .inr ⟨g, cap, cur, rfl, hg, (show Blk w g e cur from hh).far (by rintro rfl; exact hp rfl) u, hr⟩

set_option maxHeartbeats 4000000 in
set_option maxRecDepth 1000000 in
theorem take_full (w : World) (B g : Nat) (most : Int) (M : List Ent) (at_ : Int) (k : Nat) (e : Ent) (h : NetP w B g most M) (hk : at_ % (M.length : Int) = k) (hm : M[k]? = some e) (hl : M.length ≤ 100000) :
    Calls Try.prog 22 #[.pointer (some ⟨g, 0, none⟩), .int .i64 at_] w fun r w' => r = .returned (.tuple #[e.val, .bool true]) ∧ NetP w' B g most (M.take k ++ M.drop (k + 1)) ∧ Chg B 55 42 w w' ∧
      (∀ j, j < w.heap.size → j ≠ g → (∀ ad n c, w.cell? ⟨g, 0, none⟩ = some (.slice (some ad) n c) → ad.block ≠ j) → w'.heap[j]? = w.heap[j]?) ∧
      (∀ j, j < w.heap.size → (∀ ad n c, w.cell? ⟨g, 0, none⟩ = some (.slice (some ad) n c) → ad.block ≠ j) → ∀ ad n c, w'.cell? ⟨g, 0, none⟩ = some (.slice (some ad) n c) → ad.block ≠ j) := by
  have hlt : k < M.length := (List.getElem?_eq_some_iff.1 hm).1
  have bw : Below w.heap.size w (w.alloc (.cells zero3.toArray 42)) := (Below.refl _ w).alloc (Nat.le_refl _) _
  have hpl := Lib.hid (place_any _ B g most M at_ k (h.below bw) hk (by omega) hl)
  have hBs : B ≤ w.heap.size := by obtain ⟨hB, A, c, hb, _⟩ := h; have := hb.lt; omega
  obtain ⟨hB, A, c, hb0, ho0⟩ := h
  obtain ⟨hh0, cur0, e0, _, hcur0, _⟩ := row_at ho0 hm
  have hhs : hh0 < w.heap.size := hcur0.lt
  have hgs : g < w.heap.size := hb0.lt
  have hb := hb0.below bw hb0.lt
  have ho := owns_below ho0 bw
  obtain ⟨hh, cur, e1, hBh, hcur, hra⟩ := row_at ho hm
  obtain rfl : hh0 = hh := by rw [e0] at e1; injection e1 with e1; injection e1
  subst e0
  have G0 := Lib.hid (show w.cell? ⟨g, 0, none⟩ = some (.slice (some ⟨hh0, 0, none⟩) M.length c) from by
    have e2 := hb0.below bw hb0.lt
    have e3 : Blk (w.alloc (.cells zero3.toArray 42)) g 55 #[.slice (some ⟨hh0, 0, none⟩) M.length c, .int .i64 most, .bool true] := hb
    exact (bw.cell (p := ⟨g, 0, none⟩) hgs).symm.trans (e3.cell 0))
  clear e1 hcur0 ho0 hb0
  obtain ⟨m, hmm⟩ : ∃ m, M.length = m + 1 := ⟨M.length - 1, by omega⟩
  have hlen := Lib.hid hmm
  have hrest : (M.take k ++ M.drop (k + 1)).length = m := by rw [List.length_append, List.length_take, List.length_drop]; omega
  have HL := Lib.hid hrest
  rw [hmm] at hb ho
  have k4 := Blk.new w 42 #[.int .i64 0, .bool false, .slice none 0 0]
  have BW := Lib.hid bw
  have RA := Lib.hid hra
  have K4 := Lib.hid k4
  have HO := Lib.hid ho
  have HK := Lib.hid hb
  have HC := Lib.hid hcur
  have c0 : (w.alloc (.cells zero3.toArray 42)).cell? ⟨g, 0, none⟩ = some (.slice (some ⟨hh0, 0, none⟩) (m + 1) c) := hb.cell 0
  have e4 : IntKind.i64.wrap ((k : Int) + 1) = (k : Int) + 1 := IntWalk.i64_in _ (by omega)
  have hk1 : (k : Int) < (m : Int) + 1 := by omega
  have hkm : k ≤ m := by omega
  have hml : m ≤ 100000 := by omega
  have sz : (w.alloc (.cells zero3.toArray 42)).heap.size = w.heap.size + 1 := by simp
  clear bw hb ho hra hcur k4 hm hk hrest hmm hl hlt
  go_enter Try.func22, Try.ntmps22
  go_wp2_with fail
  change Calls _ _ _ (w.alloc (.cells zero3.toArray 42)) _
  generalize (w.alloc (.cells zero3.toArray 42)) = W0 at *
  refine hpl.out.mono ?_
  rintro r w1 ⟨rfl, rfl⟩
  have kn := Blk.new W0 42 #[.int .i64 e.b4, .bool e.up, .slice e.A e.n e.c]
  rw [sz] at kn
  have K8 := Lib.hid kn
  have BB := Lib.hid (show Below W0.heap.size W0 (W0.alloc (.cells #[.int .i64 e.b4, .bool e.up, .slice e.A e.n e.c] 42)) from (Below.refl W0.heap.size W0).alloc (Nat.le_refl _) _)
  clear kn
  go_wp2_with (first
    | (refine wpList_load_mid rfl 42 (.tmp 23) rfl hh0 (k * 3) rfl _ _ RA.out Try.underlying42 rfl item_size ?_))
  change Calls _ _ _ (W0.alloc (.cells #[.int .i64 e.b4, .bool e.up, .slice e.A e.n e.c] 42)) _
  generalize (W0.alloc (.cells #[.int .i64 e.b4, .bool e.up, .slice e.A e.n e.c] 42)) = W1 at K8 BB ⊢
  have K4' := Lib.hid (K4.out.below BB.out K4.out.lt)
  have HK' := Lib.hid (HK.out.below BB.out HK.out.lt)
  have HO' := Lib.hid (owns_below HO.out BB.out)
  refine (del_any B m k k ((k : Int) + 1) _ (rows M) W1 HO'.out (rows_one_cell M) hkm hml rfl rfl).mono ?_
  rintro r w2 ⟨v2, rfl, o2, g2, ob⟩
  obtain ⟨A2, c2, rfl⟩ := owns_form o2
  have k2g := HK'.out.grown g2 (owns_ne HO'.out HK'.out (by decide))
  have k24 := K4'.out.grown g2 (by simp [Value.ownBlock]; omega)
  have k28 := K8.out.grown g2 (by simp [Value.ownBlock]; omega)
  have C2 := Lib.hid (show Chg B 55 42 w w2 from ((Chg.of_below BW.out hBs).trans (Chg.of_below BB.out (by omega))).trans (Chg.of_owns HO'.out g2 (.inr rfl) (Nat.le_refl _) (by have := BB.out.size; omega)))
  have O2 := Lib.hid o2
  have G2 := Lib.hid g2
  have OB := Lib.hid ob
  have f0 : w2.cell? ⟨g, 0, none⟩ = some (.slice (some ⟨hh0, 0, none⟩) (m + 1) c) := k2g.cell 0
  have f1 : w2.frozen? ⟨g, 0, none⟩ = false := k2g.frozen 0
  have C3 := Lib.hid (show Chg B 55 42 w2 (w2.setCell ⟨g, 0, none⟩ (.slice A2 m c2)) from Chg.set_ k2g (.inl rfl) hB 0 _)
  have KG := Lib.hid (show Blk (w2.setCell ⟨g, 0, none⟩ (.slice A2 m c2)) g 55 #[.slice A2 m c2, .int .i64 most, .bool true] from k2g.set_ 0 _)
  have k34 := k24.far (p := ⟨g, 0, none⟩) (by simp; omega) (.slice A2 m c2)
  have k38 := k28.far (p := ⟨g, 0, none⟩) (by simp; omega) (.slice A2 m c2)
  have K34 := Lib.hid k34
  have p0 : (w2.setCell ⟨g, 0, none⟩ (.slice A2 m c2)).cell? ⟨w.heap.size, 0, none⟩ = some (.int .i64 0) := k34.cell 0
  have p1 : (w2.setCell ⟨g, 0, none⟩ (.slice A2 m c2)).cell? ⟨w.heap.size, 1, none⟩ = some (.bool false) := k34.cell 1
  have p2 : (w2.setCell ⟨g, 0, none⟩ (.slice A2 m c2)).cell? ⟨w.heap.size, 2, none⟩ = some (.slice none 0 0) := k34.cell 2
  have y0 := k34.frozen 0
  have y1 := k34.frozen 1
  have y2 := k34.frozen 2
  have q0 : (w2.setCell ⟨g, 0, none⟩ (.slice A2 m c2)).cell? ⟨w.heap.size + 1, 0, none⟩ = some (.int .i64 e.b4) := k38.cell 0
  have q1 : (w2.setCell ⟨g, 0, none⟩ (.slice A2 m c2)).cell? ⟨w.heap.size + 1, 1, none⟩ = some (.bool e.up) := k38.cell 1
  have q2 : (w2.setCell ⟨g, 0, none⟩ (.slice A2 m c2)).cell? ⟨w.heap.size + 1, 2, none⟩ = some (.slice e.A e.n e.c) := k38.cell 2
  have O3 := Lib.hid (owns_far (p := ⟨g, 0, none⟩) o2 (fun e => owns_ne o2 k2g (by decide) e.symm) (.slice A2 m c2))
  clear o2 g2 ob k2g k24 k28 k34 k38
  go_wp2
  have CI : Chg B 55 42 (w2.setCell ⟨g, 0, none⟩ (.slice A2 m c2)) _ := Chg.item K34.out (.inr rfl) hBs (.int .i64 e.b4) (.bool e.up) (.slice e.A e.n e.c)
  have ne : ∀ i, (Value.slice A2 m c2).ownBlock ≠ some (⟨w.heap.size, i, none⟩ : Addr).block := fun i => by
    rw [OB.out]
    simp [Value.ownBlock]
    omega
  refine bodyPost_ret (v := .tuple #[e.val, .bool true]) ?_ rfl ?_
  · simp [results, Try.f22, asAddr, run_loadVar_row _ w.heap.size 42 42 #[.int .i64 e.b4, .bool e.up, .slice e.A e.n e.c] (0, 0) _ (K34.out.item (.int .i64 e.b4) (.bool e.up) (.slice e.A e.n e.c)) Try.underlying42 rfl item_size]
  · refine ⟨rfl, ⟨hB, A2, c2, ?_, ?_⟩, (C2.out.trans C3.out).trans CI, fun j hj hjg hrow => ?_, fun j hj hrow ad n0 c0 hcell => ?_⟩
    · rw [HL.out]
      exact ((KG.out.far (by simp; omega) _).far (by simp; omega) _).far (by simp; omega) _
    · rw [HL.out, rows_append, ← rows_take, ← rows_drop, show (k + 1) * 3 = k * 3 + 3 by omega]
      exact owns_far (owns_far (owns_far O3.out (ne 0) _) (ne 1) _) (ne 2) _
    · have hjh : hh0 ≠ j := hrow _ _ _ G0.out
      rw [Below.heap_setCell _ _ _ _ (by simp; omega), Below.heap_setCell _ _ _ _ (by simp; omega), Below.heap_setCell _ _ _ _ (by simp; omega), Below.heap_setCell _ _ _ _ (by simp; omega)]
      exact (G2.out.block j (by have := BB.out.size; omega) (by simp [Value.ownBlock]; omega)).trans ((BB.out.block j (by omega)).trans (BW.out.block j hj))
    · have hk5 := (((KG.out.far (p := ⟨w.heap.size, 0, none⟩) (by simp; omega) (.int .i64 e.b4)).far (p := ⟨w.heap.size, 1, none⟩) (by simp; omega) (.bool e.up)).far (p := ⟨w.heap.size, 2, none⟩) (by simp; omega) (.slice e.A e.n e.c)).cell 0
      have hk6 := Option.some.inj (hk5.symm.trans hcell)
      injection hk6 with hk7
      subst hk7
      have hk8 := OB.out
      simp only [Value.ownBlock, Option.some.injEq] at hk8
      rw [hk8]
      exact hrow _ _ _ G0.out

theorem take_any (w : World) (B g : Nat) (most : Int) (M : List Ent) (at_ : Int) (k : Nat) (e : Ent) (h : NetP w B g most M) (hk : at_ % (M.length : Int) = k) (hm : M[k]? = some e) (hl : M.length ≤ 100000) :
    Calls Try.prog 22 #[.pointer (some ⟨g, 0, none⟩), .int .i64 at_] w fun r w' => r = .returned (.tuple #[e.val, .bool true]) ∧ NetP w' B g most (M.take k ++ M.drop (k + 1)) ∧ Chg B 55 42 w w' :=
  (take_full w B g most M at_ k e h hk hm hl).mono fun _ _ H => ⟨H.1, H.2.1, H.2.2.1⟩

/-- What no call made: nil, or the zero value. -/
def NetZ (w : World) (v : Value) : Prop := v = .pointer none ∨ ∃ g, v = .pointer (some ⟨g, 0, none⟩) ∧ w.cell? ⟨g, 2, none⟩ = some (.bool false) ∧ g < w.heap.size
theorem NetZ.below {w w' : World} {v : Value} (h : NetZ w v) (hb : Below w.heap.size w w') : NetZ w' v := by
  rcases h with h | ⟨g, h, hc, hg⟩
  · exact .inl h
  · exact .inr ⟨g, h, (hb.cell (p := ⟨g, 2, none⟩) hg).trans hc, Nat.lt_of_lt_of_le hg hb.size⟩

theorem ready_nobody (v : Value) (w : World) (h : NetZ w v) : Calls Try.prog 34 #[v] w fun e w' => e = .returned (.bool false) ∧ w = w' := by
  rcases h with rfl | ⟨g, rfl, hc, _⟩
  · go_enter Try.func34, Try.ntmps34
    go_wp2
    go_ret
    exact ⟨rfl, rfl⟩
  · go_enter Try.func34, Try.ntmps34
    go_wp2
    go_ret
    exact ⟨rfl, rfl⟩

theorem place_nobody (v : Value) (at_ : Int) (w : World) (h : NetZ w v) : Calls Try.prog 36 #[v, .int .i64 at_] w fun e w' => e = .returned (.tuple #[.int .i64 0, .bool false]) ∧ w = w' := by
  have H := Lib.hid h
  clear h
  go_enter Try.func36, Try.ntmps36
  go_wp2_with fail
  refine (ready_nobody v _ H.out).mono ?_
  rintro r w1 ⟨rfl, rfl⟩
  go_wp2
  go_ret2
  exact ⟨rfl, rfl⟩

theorem len_nobody (v : Value) (w : World) (h : NetZ w v) : Calls Try.prog 23 #[v] w fun e w' => e = .returned (.int .i64 0) ∧ w = w' := by
  have H := Lib.hid h
  clear h
  go_enter Try.func23, Try.ntmps23
  go_wp2_with fail
  refine (ready_nobody v _ H.out).mono ?_
  rintro r w1 ⟨rfl, rfl⟩
  go_wp2
  go_ret
  exact ⟨rfl, rfl⟩

theorem put_nobody (v : Value) (x : Array Value) (w : World) (h : NetZ w v) : Calls Try.prog 21 #[v, .agg x] w fun e w' => e = .returned (.int .i64 2) ∧ Below w.heap.size w w' := by
  have bw : Below w.heap.size w (w.alloc (.cells x 42)) := (Below.refl _ w).alloc (Nat.le_refl _) _
  have H := Lib.hid (h.below bw)
  have BW := Lib.hid bw
  clear h bw
  go_enter Try.func21, Try.ntmps21
  go_wp2_with fail
  refine (ready_nobody v _ H.out).mono ?_
  rintro r w1 ⟨rfl, rfl⟩
  go_wp2
  go_ret
  exact ⟨rfl, BW.out⟩
end Go.Proofs.Ytffbimebgledoaa
