/-
  be: bytes with a number of two behind them.
-/
import Derived.Test.YtfgcbpchapkjbaaDhM
namespace Go.Proofs.Ytfgcbpchapkjbaa
open Go.RowKit Go.Shelf
attribute [local go_sem] Oper.semAt_some

theorem digits_any (n : Int) (w : World) : Calls Try.prog 58 #[.int .i64 n, .int .i64 2] w fun r w' => r = .returned (.func (.func 64) #[] #[.pointer (some ⟨w.heap.size + 1, 0, none⟩), .pointer (some ⟨w.heap.size, 0, none⟩)]) ∧ (w.alloc (.cells #[.int .i64 n] 3)).alloc (.cells #[.int .i64 2] 3) = w' := by
  go_enter Try.func58, Try.ntmps58
  go_wp2
  go_ret
  exact ⟨by simp, rfl⟩

abbrev encB (x : Int) : Array Value := #[.int .u8 x]

set_option maxHeartbeats 4000000 in
set_option maxRecDepth 100000 in
theorem digits_goes (f : Nat) (hf : 2 ≤ f) (B1 B2 : Nat) (n : Int) (h0 : 0 ≤ n) (hn : n < 65536) (S : Nat → Prop) (w : World) (hc1 : w.cell? ⟨B1, 0, none⟩ = some (.int .i64 2)) (hc2 : w.cell? ⟨B2, 0, none⟩ = some (.int .i64 n)) (hS2 : S B2) :
    SeqV Fence.wide f Try.prog 64 #[.pointer (some ⟨B1, 0, none⟩), .pointer (some ⟨B2, 0, none⟩)] encB (KpS S) (fun _ _ _ => True) (fun xs => xs = two n) 2 w := fun lp J W hW hJ hY h0' => by
  have hc1' := (hW.cell (p := ⟨B1, 0, none⟩) (World.block_lt_of_cell? w _ hc1)).trans hc1
  have C2 := Lib.hid ((hW.cell (p := ⟨B2, 0, none⟩) (World.block_lt_of_cell? w _ hc2)).trans hc2)
  have HY := Lib.hid hY
  have hn1 : 1 ≤ f := by omega
  clear hc1 hc2 hY
  refine callsIn_of_wp Try.func64 rfl trivial ?_ rfl
  simp only [Try.ntmps64, List.size_toArray, List.length_cons, List.length_nil, Nat.reduceAdd, Nat.reduceSub, Array.replicate_succ, Array.replicate_zero, List.push_toArray, List.append_toArray, List.nil_append, List.cons_append]
  gi_wp2_with fail
  gi_loopw [4] (fun i wr => ∃ (j : Nat), i = .int .i64 (1 - (j : Int)) ∧ j ≤ 2 ∧ J ((two n).take j) wr ∧ Hid (KpS S W wr)) (fun i _ => (intOf i + 1).toNat)
  case atStart => exact ⟨0, rfl, by omega, h0', Lib.hid (KpS.of_below (Below.refl _ _))⟩
  case round =>
    obtain ⟨j, rfl, hj, hJs, hkp⟩ := hrel
    have d2 : wr.cell? ⟨B2, 0, none⟩ = some (.int .i64 n) := hkp.out.cell (p := ⟨B2, 0, none⟩) hS2 C2.out
    rcases (show j = 0 ∨ j = 1 ∨ j = 2 by omega) with rfl | rfl | rfl
    · obtain ⟨fn, tmps, assign, body, hy, hR⟩ := HY.out [] (n / 256) wr hJs (by simp) trivial
      dsimp only [encB] at hy
      have HR := Lib.hid hR
      have hx : n / 256 % 256 = n / 256 := by omega
      clear hR
      simp only [Int.sub_zero, Int.ofNat_zero]
      gi_wp2_with fail
      refine HR.out.mono ?_
      rintro e W3 ⟨rfl, hJ3, hk3⟩
      have L3 := Lib.hid (hkp.out.t hk3)
      clear hk3
      gi_wp2
      go_roundw
      case rel => exact ⟨1, rfl, by omega, by simpa [two] using hJ3, L3⟩
      case measure => simp [intOf]
    · obtain ⟨fn, tmps, assign, body, hy, hR⟩ := HY.out [n / 256] (n % 256) wr (by simpa [two] using hJs) (by simp) trivial
      dsimp only [encB] at hy
      have HR := Lib.hid hR
      clear hR
      simp only [show (1 : Int) - ((1 : Nat) : Int) = 0 from rfl]
      gi_wp2_with fail
      refine HR.out.mono ?_
      rintro e W3 ⟨rfl, hJ3, hk3⟩
      have L3 := Lib.hid (hkp.out.t hk3)
      clear hk3
      gi_wp2
      go_roundw
      case rel => exact ⟨2, rfl, by omega, by simpa [two] using hJ3, L3⟩
      case measure => simp [intOf]
    · simp only [show (1 : Int) - ((2 : Nat) : Int) = -1 from rfl]
      gi_wp2
      go_end0
      exact ⟨⟨_, rfl⟩, _, rfl, by simpa [two] using hJs⟩

structure BSt (w : World) (b0 g B2 k : Nat) (n : Int) (xs : List Int) (W : World) : Prop where
  out : ∃ v, Blk W g 22 #[v] ∧ W.ownsRow b0 5 1 v k (xs.map (Value.int .u8))
  num : Blk W B2 3 #[.int .i64 n]
  bel : Below b0 w W
theorem BSt.kept {w : World} {B b0 g B2 k : Nat} {n : Int} (hB : b0 ≤ B) (hbw : b0 ≤ w.heap.size) {xs : List Int} {W W' : World} {row : Option Nat} (h : BSt w b0 g B2 k n xs W) (hg : W.grownBy W' row) (hr : ∀ r, row = some r → B ≤ r ∧ ∃ o : Obj, W.heap[r]? = some o ∧ o.isCells = false) : BSt w b0 g B2 k n xs W' := by
  obtain ⟨v, h1, h2⟩ := h.out
  exact ⟨⟨v, blk_kept h1 hg (fun r e => (hr r e).2), owns_kept h2 hg (fun r e => (hr r e).2)⟩, blk_kept h.num hg (fun r e => (hr r e).2), h.bel.grown hg (Nat.le_trans hbw h.bel.size) (fun r e => Nat.le_trans hB (hr r e).1)⟩

set_option maxRecDepth 100000 in
set_option maxHeartbeats 4000000 in
theorem bseq_any (b0 B1 B2 k : Nat) (v : Value) (xs : List Int) (n : Int) (h0 : 0 ≤ n) (hn : n < 65536) (w : World) (hown : w.ownsRow b0 5 1 v k (xs.map (Value.int .u8))) (hb0 : b0 ≤ w.heap.size) (hk : k ≤ 1099511627776)
    (hc1 : w.cell? ⟨B1, 0, none⟩ = some (.int .i64 2)) (hc2 : Blk w B2 3 #[.int .i64 n]) :
    Calls Try.prog 57 #[v, .func (.func 64) #[] #[.pointer (some ⟨B1, 0, none⟩), .pointer (some ⟨B2, 0, none⟩)]] w fun e w' => ∃ v', e = .returned v' ∧ w'.ownsRow b0 5 1 v' (k + 2) ((xs ++ two n).map (Value.int .u8)) ∧ Below b0 w w' := by
  have hB1 := World.block_lt_of_cell? w _ hc1
  have hB2 := hc2.lt
  obtain ⟨A0, c0, rfl, _⟩ := own_breads hown
  have hbt : Below w.heap.size w (w.alloc (.cells #[.slice A0 k c0] 22)) := (Below.refl _ _).alloc (Nat.le_refl _) _
  refine (callsIn_wide (n := 6)).1 ?_
  refine callsIn_of_wp_marks Try.func57 rfl trivial ?_ rfl
  simp only [Try.ntmps57, List.size_toArray, List.length_cons, List.length_nil, Nat.reduceAdd, Nat.reduceSub, Array.replicate_succ, Array.replicate_zero, List.push_toArray, List.append_toArray, List.nil_append, List.cons_append]
  have st : BSt w b0 w.heap.size B2 k n xs (w.alloc (.cells #[.slice A0 k c0] 22)) := ⟨⟨_, Blk.new _ _ _, hown.alloc _⟩, hc2.alloc _, hbt.mono hb0⟩
  have SEQ := digits_goes 5 (by omega) B1 B2 n h0 hn (fun i => i = B2) (w.alloc (.cells #[.slice A0 k c0] 22))
    ((hbt.cell (p := ⟨B1, 0, none⟩) hB1).trans hc1) ((hc2.alloc _).cell 0) rfl
  have hxk : xs.length = k := by have := hown.1; simpa using this
  have hlen2 : (two n).length = 2 := rfl
  clear hc1 hown
  gi_wp2_with fail
  generalize hW0 : w.alloc (.cells #[.slice A0 k c0] 22) = W0 at *
  have hw0 : w.heap.size + 1 = W0.heap.size := by rw [← hW0]; simp
  refine range_v (fun a _ x => { tmps := (a.tmps.setIfInBounds 7 (.int .u8 x)).setIfInBounds 5 (.int .u8 x), defers := [] }) (fun _ _ _ _ => True)
    rfl (by omega) (gf := 64) (lb := #[.pointer (some ⟨B1, 0, none⟩), .pointer (some ⟨B2, 0, none⟩)]) rfl trivial (enters_of Try.func64 (by kernel_rfl) rfl)
    SEQ (fun h1 h2 => h1.t h2) (fun h => KpS.of_below h) (fun W l o o' hl _ _ => KpS.put (b0 := w.heap.size) (fun i h => by omega) W l o' (by omega)) (fun _ => rfl)
    (fun pre W => BSt w b0 w.heap.size B2 (k + pre.length) n (xs ++ pre) W) ?own ?ownV ?ownU (by simpa using st) ?assign ?body ?done
  case own => exact fun pre W W' row hs hg hr => hs.kept (by omega) hb0 hg hr
  case ownV => exact fun pre x _ W W' row hs hg hr => trivial
  case ownU => exact fun _ b x _ W W' row hs hg hr => trivial
  case assign =>
    intro l pre x W K _ hlt hK
    gi_wp2
    exact hK 0 W (Below.refl _ _) trivial
  case body =>
    rintro l bl pre x W sW hlen _ _
    simp only [List.setIfInBounds_toArray, List.set_cons_succ, List.set_cons_zero]
    obtain ⟨v, k1, o1⟩ := sW.out
    obtain ⟨A3, c3, rfl, _⟩ := own_breads o1
    have c1 := k1.cell 0
    have f1 := k1.frozen 0
    have hbW : Below W.heap.size W (W.alloc (.cells #[.int .u8 x] 5)) := (Below.refl _ _).alloc (Nat.le_refl _) _
    have hwW : b0 ≤ W.heap.size := Nat.le_trans hb0 sW.bel.size
    obtain ⟨q, hq⟩ : ∃ q, k + pre.length = q := ⟨_, rfl⟩
    rw [hq] at o1 k1 c1
    have hqm : q ≤ 1099511627778 := by omega
    have SW := Lib.hid sW
    have K1 := Lib.hid k1
    have O1 := Lib.hid o1
    clear SEQ st sW k1 o1
    obtain ⟨i0, hi0, hz0, hz1, hz2⟩ := info_parts byte_info
    gi_wp2_with (gi_at_builtin
                 refine wpListIn_append_any _ rfl (.tmp 8) (.tmp 10) _ rfl b0 5 i0 _ 1 1 Try.underlying22 hi0 hz0 hz1 hz2 rfl (by omega) (.slice A3 q c3) q ((xs ++ pre).map (Value.int .u8)) rfl
                   (O1.out.alloc _) (W.heap.size + 1) (some ⟨W.heap.size, 0, none⟩) 1 1 [.int .u8 x] rfl (reads_one _ _ _) (by simp [Value.oneCell']) (by simp only [maxLen]; omega) (by omega) (by simp; omega) ?_
                 intro v1 w1 own1 grow1
                 have own1' : w1.ownsRow b0 5 1 v1 (q + 1) ((xs ++ (pre ++ [x])).map (Value.int .u8)) := by simpa using own1
                 obtain ⟨A4, c4, rfl, _⟩ := own_breads own1'
                 obtain ⟨k1', k2', o2', ko2, bb2⟩ := box_app hbW K1.out (by decide) O1.out hwW hb0 own1' grow1
                 have c2' := k1'.cell 0
                 have f2' := k1'.frozen 0
                 have num2 := ((SW.out.num.on hbW).grown grow1 (owns_ne (owns_below O1.out hbW) (SW.out.num.on hbW) (by decide))).far (p := ⟨w.heap.size, 0, none⟩) (by simp only; omega) (.slice A4 (q + 1) c4)
                 have K2 := Lib.hid k2'
                 have O2 := Lib.hid o2'
                 have KO2 := Lib.hid ko2
                 have BB2 := Lib.hid bb2
                 have N2 := Lib.hid num2
                 clear own1 own1' grow1 k1' k2' o2' ko2 bb2 num2)
    refine ⟨KO2.out, fun i hi _ => ?_, ⟨⟨_, K2.out, ?_⟩, N2.out, SW.out.bel.trans BB2.out⟩⟩
    · subst hi
      exact N2.out.trans SW.out.num.symm
    · rw [List.length_append, ← Nat.add_assoc, hq]
      exact O2.out
  case done =>
    rintro D ps W hD hps sW hK
    subst hps
    obtain ⟨v, k1, o1⟩ := sW.out
    have c1 := k1.cell 0
    clear SEQ st
    gi_wp2
    refine ⟨by simp, .inl ⟨_, _, rfl, run_takeDeferred hK, ?_⟩⟩
    refine ⟨v, ?_, ⟨v, rfl, ?_, ?_⟩⟩
    · simp [results, Try.f57, go_sem]
    · exact owns_kept o1 (grownBy_putObj' _ D (.deferred none)) (fun r e => by cases e; exact ⟨_, hK, rfl⟩)
    · exact sW.bel.trans ((belowK_b (w := w) (Nat.le_refl _) _ D _ _ (by omega) hK rfl rfl).mono hb0)

set_option maxHeartbeats 2000000 in
theorem put_two (A : Option Addr) (k c : Nat) (xs : List Int) (n : Int) (h0 : 0 ≤ n) (hn : n < 65536) (w : World) (h : BReads w A k xs) (hk : k ≤ 1099511627776) :
    Calls Try.prog 44 #[.slice A k c, .int .i64 n, .int .i64 2] w fun r w' => ∃ v, r = .returned v ∧ w'.ownsRow w.heap.size 5 1 v (k + 2) ((xs ++ two n).map (Value.int .u8)) ∧ Below w.heap.size w w' := by
  have hf : fits2 n = true := by unfold fits2; simp [h0, hn]
  have H := Lib.hid h
  clear h
  go_enter Try.func44, Try.ntmps44
  go_wp2_with fail
  refine (clone_own A k c xs _ H.out hk).mono ?_
  rintro r w1 ⟨v1, rfl, own1, bel1⟩
  obtain ⟨A1, c1, rfl, _⟩ := own_breads own1
  have OWN1 := Lib.hid own1
  have BEL1 := Lib.hid bel1
  clear own1 bel1 H
  go_wp2_with (go_at_call 43; refine (befits_two n (by omega) (by omega) _).mono ?_; rintro r w' ⟨rfl, rfl⟩; rw [hf])
  refine (digits_any n _).mono ?_
  rintro r w2 ⟨rfl, hw2⟩
  have hb2 : Below w1.heap.size w1 w2 := by rw [← hw2]; exact ((Below.refl _ _).alloc (Nat.le_refl _) _).alloc (by simp) _
  have hk2 : Blk w2 w1.heap.size 3 #[.int .i64 n] := by rw [← hw2]; exact (Blk.new w1 3 #[.int .i64 n]).alloc _
  have hc1 : w2.cell? ⟨w1.heap.size + 1, 0, none⟩ = some (.int .i64 2) := by
    rw [← hw2]
    have := (Blk.new (w1.alloc (.cells #[.int .i64 n] 3)) 3 #[.int .i64 2]).cell 0
    simp only [World.size_alloc] at this
    exact this
  have hs1 := BEL1.out.size
  have hs2 := hb2.size
  have OWN2 := Lib.hid (owns_below OWN1.out hb2)
  have BEL2 := Lib.hid (BEL1.out.trans (hb2.mono hs1))
  have HC1 := Lib.hid hc1
  have HK2 := Lib.hid hk2
  clear hw2 hb2 hk2 hc1
  go_wp2_with fail
  refine (bseq_any w.heap.size (w1.heap.size + 1) w1.heap.size k (.slice A1 k c1) xs n h0 hn _ OWN2.out (by omega) hk HC1.out HK2.out).mono ?_
  rintro r w3 ⟨v3, rfl, own3, bel3⟩
  go_wp2
  go_ret
  exact ⟨v3, rfl, own3, BEL2.out.trans bel3⟩
end Go.Proofs.Ytfgcbpchapkjbaa
