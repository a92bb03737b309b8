/-
  six: the address that a text says.
-/
import Derived.Test.YtngdomefipcemaaDoorSixP
import Derived.Laws.ResultCell
namespace Go.Proofs.YtngdomefipcemaaDoor
open Go.RowKit Go.Great

theorem introw_of_blk {w : World} {g : Nat} {t : TypeId} {ns : List Nat} (hb : Blk w g t (wcells ns)) (hn : ∀ n ∈ ns, n < 65536) (hl : ns.length ≤ 1048576) : IntRow .i64 w (some ⟨g, 0, none⟩) ns.length (ns.map fun n : Nat => (n : Int)) := by
  refine ⟨by omega, by simp, fun i hi => ⟨g, 0, rfl, hb.lt, ?_, ?_⟩⟩
  · rw [Nat.zero_add, hb.cell i, wcells_at hi]
    simp [List.getD_eq_getElem?_getD, hi]
  · have h1 := hn _ (List.getElem_mem hi)
    have e : (ns.map fun n : Nat => (n : Int)).getD i 0 = (ns[i] : Int) := by simp [List.getD_eq_getElem?_getD, hi]
    rw [e]
    simp [Lit.wf, IntKind.min, IntKind.max, IntKind.bits, IntKind.signed]
    omega
theorem of6_words {ns : List Nat} (h : ns.length = 8) (hn : ∀ n ∈ ns, n < 65536) : of6 (ns.map fun n : Nat => (n : Int)) = ofW ns := by
  have e : ∀ n ∈ ns, ((n : Int) % 65536).toNat = n := fun n hm => by have := hn n hm; omega
  obtain ⟨a, b, c, d, f, g, i, j, rfl⟩ := eight h
  rw [← puts6_eight h]
  simp only [List.mem_cons, List.not_mem_nil, or_false, forall_eq_or_imp, forall_eq] at e
  obtain ⟨e1, e2, e3, e4, e5, e6, e7, e8⟩ := e
  unfold of6
  simp only [List.map_cons, List.map_nil, List.length_cons, List.length_nil, Nat.zero_add, Nat.reduceAdd, Nat.min_self, stZ, List.getD_cons_zero, List.getD_cons_succ, e1, e2, e3, e4, e5, e6, e7, e8, puts6]

theorem z16_one : z16.all (·.oneCell') = true := by simp [z16, Value.oneCell']
theorem wordsV_cons (x : List UInt8) (r : List (List UInt8)) : wordsV (x :: r) = (wordV x).bind fun n => (wordsV r).map (n :: ·) := rfl
theorem wcells_set (ns : List Nat) (n m : Nat) : (wcells (ns ++ List.replicate (m + 1) 0)).setIfInBounds ns.length (.int .i64 (n : Int)) = wcells ((ns ++ [n]) ++ List.replicate m 0) := by
  unfold wcells
  simp only [List.setIfInBounds_toArray, List.map_append, List.replicate_succ, List.map_cons, List.map_nil]
  congr 1
  rw [List.set_append_right _ _ (by simp)]
  simp
/-- What Parse gives back. -/
def p6V (R : Option (List Nat)) : Value := .tuple #[.agg (match R with | some ws => cells6 (ofW ws) | none => z16), .int .i64 (if R.isSome then 0 else 4)]

set_option maxRecDepth 100000 in
set_option maxHeartbeats 4000000 in
theorem parse6_any (s : List UInt8) (hs : s.length ≤ 1048576) (w : World) : Calls Tryd.prog 21 #[.string (bs s)] w fun r w' => r = .returned (p6V (parse6 s)) ∧ Below w.heap.size w w' := by
  have hpl : parse6 s = if (cuts 58 [] s).length = 8 then wordsV (cuts 58 [] s) else none := rfl
  obtain ⟨R, hR⟩ : ∃ R, parse6 s = R := ⟨_, rfl⟩
  rw [hR] at hpl ⊢
  have hsum : ∀ x ∈ cuts 58 [] s, x.length ≤ 1048576 := by
    intro x hx
    have hgen : ∀ (t cur : List UInt8), ∀ x ∈ cuts 58 cur t, x.length ≤ cur.length + t.length := by
      intro t
      induction t with
      | nil => intro cur x hx; simp [cuts] at hx; simp [hx]
      | cons c cs ih =>
        intro cur x hx
        unfold cuts at hx
        split at hx
        · rcases List.mem_cons.1 hx with rfl | hx
          · simp
          · have := ih [] x hx; simp at this ⊢; omega
        · have := ih _ x hx; simp at this ⊢; omega
    have := hgen s [] x hx
    simp at this
    omega
  have hsp := fun W => csplit_any s hs W
  obtain ⟨L, hL⟩ : ∃ L, cuts 58 [] s = L := ⟨_, rfl⟩
  rw [hL] at hpl hsum hsp
  have HSP := Lib.hid hsp
  have HSUM := Lib.hid hsum
  clear hR hL hsp hsum
  have hz0 : Blk (w.alloc (.cells z16 31)) w.heap.size 31 z16 := Blk.new _ _ _
  have hbw0 : Below w.heap.size w (w.alloc (.cells z16 31)) := (Below.refl _ _).alloc (Nat.le_refl _) _
  have hsz1 : (w.alloc (.cells z16 31)).heap.size = w.heap.size + 1 := by simp
  by_cases h8 : L.length = 8
  · rw [if_pos h8] at hpl
    have HPL := Lib.hid hpl
    clear hpl
    go_enter Tryd.func21, Tryd.ntmps21
    go_upto_region 1 with fail
    change Code.wp _ _ _ _ (w.alloc (.cells z16 31))
    generalize w.alloc (.cells z16 31) = W1 at hz0 hbw0 hsz1 ⊢
    have HZ0 := Lib.hid hz0
    have HBW0 := Lib.hid hbw0
    have HSZ1 := Lib.hid hsz1
    clear hz0 hbw0 hsz1
    go_wp2_with fail
    refine (HSP.out W1).mono ?_
    rintro r w2 ⟨rfl, blk, bel1⟩
    rw [h8]
    have BLK := Lib.hid blk
    have BZ := Lib.hid (HZ0.out.below bel1 HZ0.out.lt)
    have BEL2 := Lib.hid (HBW0.out.trans (bel1.mono HBW0.out.size))
    have hlt0 : w.heap.size < w2.heap.size := by have := BZ.out.lt; omega
    clear blk bel1
    go_upto_region 5 with fail
    change Code.wp _ _ _ _ (w2.alloc (.cells z8 52))
    have hb5 : Blk (w2.alloc (.cells z8 52)) w2.heap.size 52 z8 := Blk.new _ _ _
    have hbw5 : Below w2.heap.size w2 (w2.alloc (.cells z8 52)) := (Below.refl _ _).alloc (Nat.le_refl _) _
    generalize w2.alloc (.cells z8 52) = W3 at hb5 hbw5 ⊢
    have HB5 := Lib.hid hb5
    have HBW5 := Lib.hid hbw5
    clear hb5 hbw5
    go_wp2
    go_loopw [18] (fun i wr => ∃ (k : Nat) (ns : List Nat), i = .int .i64 k ∧ k ≤ 8 ∧ ns.length = k ∧ (∀ n ∈ ns, n < 65536) ∧ R = (wordsV (L.drop k)).map (ns ++ ·) ∧ Blk wr w2.heap.size 52 (wcells (ns ++ List.replicate (8 - k) 0)) ∧ Below w2.heap.size w2 wr) (fun i _ => 8 - (intOf i).toNat)
    case atStart => exact ⟨0, [], rfl, by omega, rfl, by simp, by rw [HPL.out]; cases h : wordsV L <;> simp [h], HB5.out, HBW5.out⟩
    case round =>
      obtain ⟨k, ns, rfl, hk, hnl, hnb, hRk, hb5, hb⟩ := hrel
      clear HB5 HBW5
      have HB := Lib.hid hb
      have HNB := Lib.hid hnb
      have HRK := Lib.hid hRk
      have HB5 := Lib.hid hb5
      have hwr : w2.heap.size ≤ wr.heap.size := hb.size
      clear hb hRk hnb hb5
      by_cases hlt : k < 8
      · obtain ⟨x, hx⟩ : ∃ x, L[k]? = some x := ⟨_, List.getElem?_eq_getElem (by omega)⟩
        have hm : wr.cell? ⟨W1.heap.size, k, none⟩ = some (.string (bs x)) := by
          have h1 := (BLK.out.below HB.out BLK.out.lt).cell k
          rw [h1]
          simp [strs, hx]
        have hxl := HSUM.out x (List.mem_iff_getElem?.2 ⟨k, hx⟩)
        have hdr : L.drop k = x :: L.drop (k + 1) := by
          have hkl : k < L.length := by omega
          rw [List.drop_eq_getElem_cons hkl]
          congr 1
          rw [List.getElem?_eq_getElem hkl] at hx
          exact Option.some.inj hx
        have HDR := Lib.hid hdr
        clear hx hdr
        go_wp2_with fail
        refine (word_any x hxl wr).mono ?_
        rintro r w4 ⟨n, ok, rfl, bel4, hok, hbad⟩
        have BEL4 := Lib.hid (HB.out.trans (bel4.mono hwr))
        have B5 := Lib.hid (HB5.out.below bel4 HB5.out.lt)
        have HOK := Lib.hid hok
        have HBAD := Lib.hid hbad
        clear bel4 hok hbad
        cases ok with
        | false =>
          have hn := HBAD.out rfl
          have hRn := Lib.hid (show R = none by rw [HRK.out, HDR.out]; rw [wordsV_cons, hn]; rfl)
          have Z4 := Lib.hid (BZ.out.below BEL4.out hlt0)
          clear hn
          go_upto_region 10 with fail
          apply wp_region_lit
          refine wpList_buildTo rfl 31 _ rfl (some 30) rfl z16 (by kernel_rfl) ?_
          refine wpList_store_row rfl 31 (.tmp 2) (.tmp 30) rfl w.heap.size z16 rfl rfl 31 z16 Z4.out six_size rfl z16_one ?_
          go_wp2_with fail
          refine bodyPost_ret (v := p6V none) ?_ rfl ⟨by rw [hRn.out], below_setRow (BEL2.out.trans (BEL4.out.mono (by omega))) (Nat.le_refl _) _⟩
          simp [results, Tryd.f21, asAddr, run_loadVar_row _ w.heap.size 31 31 z16 (0, 0) _ (setRow_heap _ _ z16 z16 _ _ Z4.out) Tryd.underlying31 rfl six_size]
          rfl
        | true =>
          have hn := HOK.out rfl
          obtain ⟨hn1, hn2⟩ := word_back hn
          have hRn := Lib.hid (show R = (wordsV (L.drop (k + 1))).map ((ns ++ [n]) ++ ·) by
            rw [HRK.out, HDR.out, wordsV_cons, hn]
            cases wordsV (L.drop (k + 1)) <;> simp)
          obtain ⟨u, hu⟩ : ∃ u, w4.cell? ⟨w2.heap.size, k, none⟩ = some u := by
            rw [B5.out.cell k]
            exact ⟨_, Array.getElem?_eq_getElem (by rw [wcells_size]; simp; omega)⟩
          have hfz := B5.out.frozen k
          have hset := B5.out.set_ k (.int .i64 (n : Int))
          obtain ⟨m, hm8⟩ : ∃ m, 8 - k = m + 1 := ⟨7 - k, by omega⟩
          rw [hm8, show k = ns.length from hnl.symm, wcells_set, hnl, show m = 8 - (k + 1) by omega] at hset
          have HSET := Lib.hid hset
          have HN2 := Lib.hid (show ∀ x ∈ ns ++ [n], x < 65536 from fun x hx => by
            rcases List.mem_append.1 hx with h | h
            · exact HNB.out x h
            · rw [List.mem_singleton.1 h]; exact hn1)
          clear hn hn2 hset hm8
          go_wp2
          exact ⟨⟨k + 1, ns ++ [n], by go_num, hlt, by simp [hnl], HN2.out, hRn.out, HSET.out, BEL4.out.setCell (p := ⟨w2.heap.size, k, none⟩) (Nat.le_refl _) _⟩, by simp [intOf]; omega⟩
      · obtain rfl : k = 8 := by omega
        have hRk := HRK.out
        rw [← h8, List.drop_length] at hRk
        have HRS := Lib.hid (show R = some ns by rw [hRk]; simp [wordsV])
        have hb8 := HB5.out
        simp only [Nat.sub_self, List.replicate_zero, List.append_nil] at hb8
        have hir := introw_of_blk hb8 HNB.out (by omega)
        rw [hnl] at hir
        have hof := of6_words hnl HNB.out
        obtain ⟨C, hC⟩ : ∃ C, cells6 (ofW ns) = C := ⟨_, rfl⟩
        have hcall := of6_any (some ⟨w2.heap.size, 0, none⟩) 8 8 _ wr hir
        rw [hof, hC] at hcall
        have hlen : (ofW ns).length = 16 := by rw [ofW_len, hnl]
        have hsz := six_of hlen
        have hone := cells6_one (ofW ns)
        have hlen2 : z16.size = (cells6 (ofW ns)).size := by rw [cells6_size, hlen]; rfl
        rw [hC] at hsz hone hlen2
        have HC := Lib.hid hC
        have HCALL := Lib.hid hcall
        have HSZ := Lib.hid hsz
        have HONE := Lib.hid hone
        have HLEN := Lib.hid hlen2
        clear hRk hb8 hir hof hC hcall hlen hsz hone hlen2
        go_wp2_with fail
        refine HCALL.out.mono ?_
        rintro r w7 ⟨rfl, bel7⟩
        have BEL7 := Lib.hid (HB.out.trans (bel7.mono hwr))
        have Z7 := Lib.hid (BZ.out.below BEL7.out hlt0)
        clear bel7
        go_wp2_with (refine wpList_store_row rfl 31 (.tmp 2) (.tmp 36) rfl w.heap.size C rfl rfl 31 z16 Z7.out HSZ.out HLEN.out HONE.out ?_)
        refine bodyPost_ret (v := .tuple #[.agg C, .int .i64 0]) ?_ rfl ⟨by rw [HRS.out, ← HC.out]; rfl, below_setRow (BEL2.out.trans (BEL7.out.mono (by omega))) (Nat.le_refl _) _⟩
        simp [results, Tryd.f21, asAddr, run_loadVar_row _ w.heap.size 31 31 C (0, 0) _ (setRow_heap _ _ z16 C _ _ Z7.out) Tryd.underlying31 rfl HSZ.out]
  · rw [if_neg h8] at hpl
    have HPL := Lib.hid hpl
    clear hpl
    obtain ⟨m, hm⟩ : ∃ m, L.length = m := ⟨_, rfl⟩
    rw [hm] at h8 HSP
    have hne : ((m : Int) != 8) = true := by simp; omega
    clear hm
    go_enter Tryd.func21, Tryd.ntmps21
    go_upto_region 1 with fail
    change Code.wp _ _ _ _ (w.alloc (.cells z16 31))
    generalize w.alloc (.cells z16 31) = W1 at hz0 hbw0 hsz1 ⊢
    have HZ0 := Lib.hid hz0
    have HBW0 := Lib.hid hbw0
    clear hz0 hbw0 hsz1
    go_wp2_with fail
    refine (HSP.out W1).mono ?_
    rintro r w2 ⟨rfl, _, bel1⟩
    have BZ := Lib.hid (HZ0.out.below bel1 HZ0.out.lt)
    have BEL2 := Lib.hid (HBW0.out.trans (bel1.mono HBW0.out.size))
    clear bel1
    go_upto_region 3 with fail
    apply wp_region_lit
    refine wpList_buildTo rfl 31 _ rfl (some 15) rfl z16 (by kernel_rfl) ?_
    refine wpList_store_row rfl 31 (.tmp 2) (.tmp 15) rfl w.heap.size z16 rfl rfl 31 z16 BZ.out six_size rfl z16_one ?_
    go_wp2_with fail
    refine bodyPost_ret (v := p6V none) ?_ rfl ⟨by rw [HPL.out], below_setRow BEL2.out (Nat.le_refl _) _⟩
    simp [results, Tryd.f21, asAddr, run_loadVar_row _ w.heap.size 31 31 z16 (0, 0) _ (setRow_heap _ _ z16 z16 _ _ BZ.out) Tryd.underlying31 rfl six_size]
    rfl
end Go.Proofs.YtngdomefipcemaaDoor
