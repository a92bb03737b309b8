/-
  NameBack: the walk.
-/
import Derived.Test.YtfgcbpchapkjbaaNamM
import Derived.Test.YtfgcbpchapkjbaaNamK
namespace Go.Proofs.Ytfgcbpchapkjbaa
open Go.RowKit

theorem jn_length : ∀ L : List (List UInt8), (jn L).length ≤ (packB L).length
  | [] => by simp [jn_nil]
  | [x] => by simp [jn, Lib.join_one, packB]
  | x :: y :: L => by
    have e : jn (x :: y :: L) = x ++ 46 :: jn (y :: L) := by simp [jn, Lib.join_cons, Lib.joinTail]
    have e2 : packB (x :: y :: L) = (UInt8.ofNat x.length :: x) ++ packB (y :: L) := by simp [packB]
    have ih := jn_length (y :: L)
    rw [e, e2]
    simp
    omega

/-- 'b[:m]'. -/
theorem head_runs {P : Program} {w : World} {A : Option Addr} {n c : Nat} {d : List UInt8} {t e : TypeId} (ht : P.underlying t = some (.slice e)) (hz : (P.info? e).map (·.size) = some 1)
    (h : BReads w A n (nums d)) (hc : n ≤ c) (m : Nat) (hm : m ≤ n) :
    ∃ A' c', (∀ w' : World, (Instr.slice t (.slice A n c) none (some (.int .i64 (m : Int))) none).run P w' = .ok (.slice A' m c') w') ∧ BReads w A' m (nums (d.take m)) := by
  refine ⟨if c = 0 then A else A.map (·.add (0 * 1)), c, fun w' => ?_, ?_, fun e => ?_⟩
  · have hel : P.elem t = e := by simp [Program.elem, ht]
    rw [run_slice_h w' t A n c (by rw [hel]; exact ht) .i64 m (by omega) (by omega), hel]
    obtain ⟨i, hi, hz'⟩ := Option.map_eq_some_iff.1 hz
    have e1 : ((m : Int)).toNat = m := by omega
    simp [sizeOf, typeInfo, hi, hz', Result.andThen, sliced, e1]
  · have h1 := (h.1.cut (k := 0) (cap := c) (by omega) hc).take (k := m) (by omega)
    simpa [nums, List.map_take] using h1
  · rcases A with _ | ad
    · have := h.2 rfl; omega
    · split at e <;> simp at e

set_option maxHeartbeats 400000 in
/-- bytes.Clone: the call owns what comes back. -/
theorem bclone_own (A : Option Addr) (n c : Nat) (xs : List Int) (w : World) (h : BReads w A n xs) (hn : n ≤ 1099511627776) :
    Calls Try.prog 13 #[.slice A n c] w fun e w' => ∃ v, e = .returned v ∧ w'.ownsRow w.heap.size 5 1 v n (xs.map (Value.int .u8)) ∧ Below w.heap.size w w' := by
  obtain ⟨i0, hi0, hz0, hz1, hz2⟩ := info_parts byte_info
  rcases A with _ | ad
  · obtain rfl := h.2 rfl
    obtain rfl : xs = [] := List.eq_nil_of_length_eq_zero (by simpa using h.1.1)
    have hnil := fun w : World => Lib.run_eql_slice_nil (P := Try.prog) w 22 5 none 0 c 0 0 Try.underlying22
    clear h
    go_enter Try.func13, Try.ntmps13
    go_wp2
    go_ret
    exact ⟨_, rfl, World.ownsRow_nil _ _ _ _, Below.refl _ _⟩
  · have hnil := fun w : World => Lib.run_eql_slice_nil (P := Try.prog) w 22 5 (some ad) n c 0 0 Try.underlying22
    have hown := World.ownsRow_made (base := w.heap.size) (e := 5) (size := 1) w #[] 0 (Nat.le_refl _) (by simp [maxLen]) rfl
    have hr2 := h.1.alloc (Nat.le_refl _) (.cells #[] 5)
    clear h
    go_enter Try.func13, Try.ntmps13
    go_wp2_with (first
      | (at_builtin
         refine wpList_append_any _ rfl (.tmp 5) (.tmp 6) _ rfl w.heap.size 5 i0 _ 1 1 Try.underlying22 hi0 hz0 hz1 hz2 rfl (by omega) (.slice (some ⟨w.heap.size, 0, none⟩) 0 0) 0 [] rfl
           hown w.heap.size (some ad) n c _ rfl hr2 (by intro u hu; obtain ⟨x, _, rfl⟩ := List.mem_map.1 hu; rfl) (by simp only [maxLen]; omega) (by omega) (by simp) ?_
         intro v1 w1 hown1 hg1 hat1))
    go_ret
    have hb1 : Below w.heap.size w w1 := ((Below.refl _ w).alloc (Nat.le_refl _) _).grown hg1 (by simp) (by simp [Value.ownBlock])
    rw [List.nil_append, Nat.zero_add] at hown1
    exact ⟨_, rfl, hown1, hb1⟩

set_option maxRecDepth 100000 in
set_option maxHeartbeats 4000000 in
theorem nback_walk (l : List UInt8) (hl : l.length ≤ 9223372036854775807) (A : Option Addr) (n c : Nat) (d : List UInt8) (w : World) (h : BReads w A n (nums d)) (hc : n ≤ c) (hn : n ≤ 9223372036854775807) :
    Calls Try.prog 4 #[.string (bs l), .slice A n c] w fun r w' => r = .returned (.bool true) ∧ Below w.heap.size w w' := by
  have hsz : (bs l).size = l.length := rfl
  by_cases hl2 : 500 < l.length
  · clear h
    go_enter Try.func4, Try.ntmps4
    go_wp2_with (go_at_call 9; refine (nameawake_any _).mono ?_; rintro r w' ⟨rfl, hb⟩)
    go_ret
    exact ⟨rfl, hb⟩
  · by_cases hn2 : 500 < n
    · clear h
      go_enter Try.func4, Try.ntmps4
      go_wp2_with (go_at_call 9; refine (nameawake_any _).mono ?_; rintro r w' ⟨rfl, hb⟩)
      go_ret
      exact ⟨rfl, hb⟩
    · have hdl : d.length = n := by have := h.len; rw [nums_length] at this; exact this
      have H := Lib.hid h
      clear h
      by_cases hfit : fits (labels l)
      · have HF := Lib.hid hfit
        clear hfit
        go_enter Try.func4, Try.ntmps4
        go_wp2_with fail
        refine (nput_ok none 0 0 [] l (by omega) HF.out _ ⟨Reads.none_, fun _ => rfl⟩ (by omega)).mono ?_
        rintro r w1 ⟨A1, n1, c1, rfl, hb1, hc1, bel1⟩
        rw [List.nil_append, ← nums_packB, show ([0] : List Int) = nums [0] from rfl, ← nums_append] at hb1
        have hn1 : n1 = (packB (labels l)).length + 1 := by have := hb1.len; rw [nums_length] at this; rw [← this]; simp
        have hn1b : n1 ≤ 255 := by have h1 := packB_length (labels l); have h2 := HF.out.2; omega
        have HN1 := Lib.hid hn1
        have HB1 := Lib.hid hb1
        have BEL1 := Lib.hid bel1
        have H1 := Lib.hid (H.out.below bel1)
        have hw1 : w.heap.size ≤ w1.heap.size := bel1.size
        clear hb1 bel1 hn1
        go_wp2_with fail
        refine (bclone_own A1 n1 c1 _ _ HB1.out (by omega)).mono ?_
        rintro r w2 ⟨v, rfl, own2, bel2⟩
        have H2 := Lib.hid (H1.out.below bel2)
        have BEL2 := Lib.hid (BEL1.out.trans (bel2.mono BEL1.out.size))
        have hw12 : w1.heap.size ≤ w2.heap.size := bel2.size
        have OWN2 := Lib.hid own2
        obtain ⟨i0, hi0, hz0, hz1, hz2⟩ := info_parts byte_info
        clear bel2 H1 BEL1 own2
        go_wp2_with (at_builtin
                     refine wpList_append_any _ rfl (.tmp 33) (.tmp 34) _ rfl w1.heap.size 5 i0 _ 1 1 Try.underlying22 hi0 hz0 hz1 hz2 rfl (by omega) v n1 _ rfl
                       OWN2.out w2.heap.size A n c ((nums d).map (Value.int .u8)) rfl H2.out.1 (by intro u hu; obtain ⟨x, _, rfl⟩ := List.mem_map.1 hu; rfl) (by simp only [maxLen]; omega) (by omega) hw12 ?_
                     intro v3 w3 own3 grow3 _
                     have b3 := app_others (Below.refl _ _) OWN2.out hw12 grow3
                     rw [← List.map_append, ← nums_append] at own3
                     obtain ⟨A3, c3, rfl, br3, hc3⟩ := own_breads own3)
        have hT : takeFrom ((packB (labels l) ++ [0]) ++ d) 0 [] = (l, n1, 0) := by
          have := take_pack d (labels l) [] (fun x hx => List.all_eq_true.1 HF.out.1 x hx) HF.out.2
          rw [List.nil_append, jn_labels, ← HN1.out] at this
          rw [List.append_assoc]
          exact this
        have bel3 : Below w.heap.size w w3 := BEL2.out.trans (b3.2.mono hw1)
        have HM := Lib.hid (H.out.below bel3)
        have BEL := Lib.hid bel3
        have HB3 := Lib.hid br3
        have HT := Lib.hid hT
        have heql : (l == l) = true := by simp
        clear H2 BEL2 HB1 OWN2 own3 grow3 b3 bel3 br3 hT H HN1 hw1 hw12
        refine (ntake_any A3 (n1 + n) c3 _ _ HB3.out hc3 (by omega)).mono ?_
        rintro r w4 ⟨rfl, bel4⟩
        rw [HT.out]
        have HM4 := Lib.hid (HM.out.below bel4)
        have BEL4 := Lib.hid (BEL.out.trans (bel4.mono BEL.out.size))
        clear HM BEL HB3 HT bel4 HF
        have HM := HM4
        have BEL := BEL4
        clear HM4 BEL4
        unfold tkV
        go_wp2_with fail
        refine (ntake_any A n c d _ HM.out hc (by omega)).mono ?_
        rintro r w5 ⟨rfl, bel5⟩
        have HM5 := Lib.hid (HM.out.below bel5)
        have BEL5 := Lib.hid (BEL.out.trans (bel5.mono BEL.out.size))
        clear bel5 HM BEL
        obtain ⟨⟨r1, r2, r3⟩, hr⟩ : ∃ r, takeFrom d 0 [] = r := ⟨_, rfl⟩
        have hfound := take_found d d.length 0 [] (by omega) (by omega) rfl rfl (by omega)
        have herr := take_err d d.length 0 [] (by omega)
        rw [jn_nil] at hfound
        rw [hr] at hfound herr ⊢
        unfold tkV
        by_cases he : r3 = 0
        · subst he
          obtain ⟨L, hf, e1, e2, e3⟩ := hfound rfl
          simp only at e1 e2 e3
          subst e1
          clear herr hfound hr
          have hlj := labels_jn L hf.1
          have hjl : (jn L).length ≤ 255 := by have h1 := jn_length L; have h2 := packB_length L; have h3 := hf.2; omega
          have HF := Lib.hid hf
          obtain ⟨A2, c2, hsl, hbr⟩ := head_runs (P := Try.prog) (w := w5) (t := 22) (e := 5) Try.underlying22 byte_size HM5.out hc r2 (by have := HM5.out.len; rw [nums_length] at this; omega)
          rw [e3] at hbr
          have HBR := Lib.hid hbr
          have hr2 : r2 ≤ n := by have := HM5.out.len; rw [nums_length] at this; omega
          have hrl : (packB L ++ [0]).length = r2 := by have h := congrArg List.length e3; rw [List.length_take] at h; rw [← h]; omega
          clear hf hbr e3 e2 HM5
          go_wp2_with fail
          refine (nput_ok none 0 0 [] (jn L) (by omega) (by rw [hlj]; exact HF.out) _ ⟨Reads.none_, fun _ => rfl⟩ (by omega)).mono ?_
          rintro r w6 ⟨A6, n6, c6, rfl, hb6, hc6, bel6⟩
          rw [hlj, List.nil_append, ← nums_packB, show ([0] : List Int) = nums [0] from rfl, ← nums_append] at hb6
          obtain rfl : n6 = r2 := by have := hb6.len; rw [nums_length, hrl] at this; exact this.symm
          have HB6 := Lib.hid hb6
          have HBR6 := Lib.hid (HBR.out.below bel6)
          have BEL6 := Lib.hid (BEL5.out.trans (bel6.mono BEL5.out.size))
          clear bel6 HBR BEL5 HF hb6
          go_wp2_with fail
          refine (equal_same A6 A2 _ _ c6 c2 _ _ HB6.out HBR6.out).mono ?_
          rintro r w7 ⟨rfl, rfl⟩
          go_wp2_with fail
          refine (nameawake_any _).mono ?_
          rintro r w8 ⟨rfl, bel8⟩
          go_wp2
          go_ret
          exact ⟨rfl, BEL6.out.trans (bel8.mono BEL6.out.size)⟩
        · obtain ⟨e1, e2⟩ := herr he
          simp only at e1 e2
          subst e1
          subst e2
          have d0 : (r3 == 0) = false := by simp [he]
          have d1 : (r3 != 0) = true := by simp [he]
          have heq : (bs []).toList = [] := by rw [ByteArray.toList_eq]; rfl
          clear hfound herr hr
          go_wp2_with fail
          refine (nameawake_any _).mono ?_
          rintro r w8 ⟨rfl, bel8⟩
          go_wp2
          go_ret
          exact ⟨rfl, BEL5.out.trans (bel8.mono BEL5.out.size)⟩
      · go_enter Try.func4, Try.ntmps4
        go_wp2_with fail
        refine (nput_bad none 0 0 l (by omega) hfit _).mono ?_
        rintro r w4 ⟨rfl, bel4⟩
        have HM := Lib.hid (H.out.below bel4)
        have BEL := Lib.hid bel4
        clear H bel4 hfit
        go_wp2_with fail
        refine (ntake_any A n c d _ HM.out hc (by omega)).mono ?_
        rintro r w5 ⟨rfl, bel5⟩
        have HM5 := Lib.hid (HM.out.below bel5)
        have BEL5 := Lib.hid (BEL.out.trans (bel5.mono BEL.out.size))
        clear bel5 HM BEL
        obtain ⟨⟨r1, r2, r3⟩, hr⟩ : ∃ r, takeFrom d 0 [] = r := ⟨_, rfl⟩
        have hfound := take_found d d.length 0 [] (by omega) (by omega) rfl rfl (by omega)
        have herr := take_err d d.length 0 [] (by omega)
        rw [jn_nil] at hfound
        rw [hr] at hfound herr ⊢
        unfold tkV
        by_cases he : r3 = 0
        · subst he
          obtain ⟨L, hf, e1, e2, e3⟩ := hfound rfl
          simp only at e1 e2 e3
          subst e1
          clear herr hfound hr
          have hlj := labels_jn L hf.1
          have hjl : (jn L).length ≤ 255 := by have h1 := jn_length L; have h2 := packB_length L; have h3 := hf.2; omega
          have HF := Lib.hid hf
          obtain ⟨A2, c2, hsl, hbr⟩ := head_runs (P := Try.prog) (w := w5) (t := 22) (e := 5) Try.underlying22 byte_size HM5.out hc r2 (by have := HM5.out.len; rw [nums_length] at this; omega)
          rw [e3] at hbr
          have HBR := Lib.hid hbr
          have hr2 : r2 ≤ n := by have := HM5.out.len; rw [nums_length] at this; omega
          have hrl : (packB L ++ [0]).length = r2 := by have h := congrArg List.length e3; rw [List.length_take] at h; rw [← h]; omega
          clear hf hbr e3 e2 HM5
          go_wp2_with fail
          refine (nput_ok none 0 0 [] (jn L) (by omega) (by rw [hlj]; exact HF.out) _ ⟨Reads.none_, fun _ => rfl⟩ (by omega)).mono ?_
          rintro r w6 ⟨A6, n6, c6, rfl, hb6, hc6, bel6⟩
          rw [hlj, List.nil_append, ← nums_packB, show ([0] : List Int) = nums [0] from rfl, ← nums_append] at hb6
          obtain rfl : n6 = r2 := by have := hb6.len; rw [nums_length, hrl] at this; exact this.symm
          have HB6 := Lib.hid hb6
          have HBR6 := Lib.hid (HBR.out.below bel6)
          have BEL6 := Lib.hid (BEL5.out.trans (bel6.mono BEL5.out.size))
          clear bel6 HBR BEL5 HF hb6
          go_wp2_with fail
          refine (equal_same A6 A2 _ _ c6 c2 _ _ HB6.out HBR6.out).mono ?_
          rintro r w7 ⟨rfl, rfl⟩
          go_wp2_with fail
          refine (nameawake_any _).mono ?_
          rintro r w8 ⟨rfl, bel8⟩
          go_wp2
          go_ret
          exact ⟨rfl, BEL6.out.trans (bel8.mono BEL6.out.size)⟩
        · obtain ⟨e1, e2⟩ := herr he
          simp only at e1 e2
          subst e1
          subst e2
          have d0 : (r3 == 0) = false := by simp [he]
          have d1 : (r3 != 0) = true := by simp [he]
          have heq : (bs []).toList = [] := by rw [ByteArray.toList_eq]; rfl
          clear hfound herr hr
          go_wp2_with fail
          refine (nameawake_any _).mono ?_
          rintro r w8 ⟨rfl, bel8⟩
          go_wp2
          go_ret
          exact ⟨rfl, BEL5.out.trans (bel8.mono BEL5.out.size)⟩
end Go.Proofs.Ytfgcbpchapkjbaa
