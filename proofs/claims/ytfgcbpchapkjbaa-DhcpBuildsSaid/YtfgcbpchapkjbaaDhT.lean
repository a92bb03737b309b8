/-
  DhcpBack: the plain law (what was built is parsed), and the walk.
-/
import Derived.Test.YtfgcbpchapkjbaaDhS
namespace Go.Proofs.Ytfgcbpchapkjbaa
open Go.RowKit

def encE (e : Int × List UInt8) : List UInt8 := UInt8.ofNat (e.1.toNat / 256) :: UInt8.ofNat (e.1.toNat % 256) :: UInt8.ofNat (e.2.length / 256) :: UInt8.ofNat (e.2.length % 256) :: e.2
def encO (l : List (Int × List UInt8)) : List UInt8 := l.flatMap encE
theorem good_spec {e : Int × List UInt8} (h : good e = true) : 0 ≤ e.1 ∧ e.1 < 65536 ∧ e.2.length ≤ 65535 := by
  unfold good fits2 at h
  simp at h
  exact ⟨h.1.1, h.1.2, h.2⟩
theorem byte_toNat (k : Nat) (h : k < 256) : (UInt8.ofNat k).toNat = k := by simp; omega
theorem nums_encE {e : Int × List UInt8} (h : good e = true) : nums (encE e) = packE e := by
  obtain ⟨h0, h1, h2⟩ := good_spec h
  have a1 := byte_toNat (e.1.toNat / 256) (by omega)
  have a2 := byte_toNat (e.1.toNat % 256) (by omega)
  have a3 := byte_toNat (e.2.length / 256) (by omega)
  have a4 := byte_toNat (e.2.length % 256) (by omega)
  have b1 : ((e.1.toNat / 256 : Nat) : Int) = e.1 / 256 := by omega
  have b2 : ((e.1.toNat % 256 : Nat) : Int) = e.1 % 256 := by omega
  have b3 : ((e.2.length / 256 : Nat) : Int) = (e.2.length : Int) / 256 := by omega
  have b4 : ((e.2.length % 256 : Nat) : Int) = (e.2.length : Int) % 256 := by omega
  unfold encE packE two nums
  simp only [List.map_cons, a1, a2, a3, a4, b1, b2, b3, b4, List.cons_append, List.nil_append]
theorem nums_encO : ∀ (l : List (Int × List UInt8)), l.all good = true → nums (encO l) = packO l
  | [], _ => rfl
  | e :: l, h => by
    simp only [List.all_cons, Bool.and_eq_true] at h
    have ih := nums_encO l h.2
    have h1 := nums_encE h.1
    show nums (encE e ++ encO l) = packE e ++ packO l
    rw [nums_append, h1, ih]
theorem parse_enc : ∀ (l : List (Int × List UInt8)), l.all good = true → parseB (encO l) = some l
  | [], _ => parse_nil
  | e :: l, h => by
    simp only [List.all_cons, Bool.and_eq_true] at h
    have ih := parse_enc l h.2
    obtain ⟨h0, h1, h2⟩ := good_spec h.1
    have a1 := byte_toNat (e.1.toNat / 256) (by omega)
    have a2 := byte_toNat (e.1.toNat % 256) (by omega)
    have a3 := byte_toNat (e.2.length / 256) (by omega)
    have a4 := byte_toNat (e.2.length % 256) (by omega)
    show parseB (UInt8.ofNat (e.1.toNat / 256) :: UInt8.ofNat (e.1.toNat % 256) :: UInt8.ofNat (e.2.length / 256) :: UInt8.ofNat (e.2.length % 256) :: (e.2 ++ encO l)) = _
    rw [parse_next, a1, a2, a3, a4, show e.2.length / 256 * 256 + e.2.length % 256 = e.2.length by omega, if_neg (by simp), List.drop_left' rfl, List.take_left' rfl, ih]
    have hc : ((e.1.toNat / 256 * 256 + e.1.toNat % 256 : Nat) : Int) = e.1 := by omega
    rw [hc]
    rfl
theorem packO_length (B : Nat) : ∀ (l : List (Int × List UInt8)), (∀ e ∈ l, e.2.length ≤ B) → (packO l).length ≤ l.length * (4 + B)
  | [], _ => by simp [packO]
  | e :: l, h => by
    have ih := packO_length B l (fun y hy => h y (by simp [hy]))
    have h1 := packE_length e
    have h2 := h e (by simp)
    have h3 : (l.length + 1) * (4 + B) = l.length * (4 + B) + (4 + B) := Nat.succ_mul _ _
    show (packE e ++ packO l).length ≤ _
    rw [List.length_append, List.length_cons]
    omega
theorem good_with (l : List (Int × List UInt8)) (s : List UInt8) (h : l.all good = true) (hf : fits (labels s)) : (withName l s).all good = true := by
  rw [List.all_eq_true] at h ⊢
  intro e he
  rcases List.mem_append.1 he with he | he
  · exact h e (List.mem_filter.1 he).1
  · obtain rfl : e = (64, packB (labels s) ++ [0]) := by simpa using he
    have h1 := packB_length (labels s)
    have h2 := hf.2
    unfold good fits2
    simp
    omega

/-- What Build and Parse promise where all is within bounds. -/
theorem build_good {A : Option Addr} {n c : Nat} {its : List It} {w : World} (h : ORd w A n its) (hn : n ≤ 100) (hD : ∀ it ∈ its, it.n ≤ 1000) (hg : (said its).all good = true) :
    Calls Try.prog 30 #[.slice A n c] w fun r w' => ∃ A' n' c', r = .returned (.tuple #[.slice A' n' c', .int .i64 0]) ∧ BReads w' A' n' (nums (encO (said its))) ∧ n' ≤ c' ∧ n' ≤ 1048576 ∧ Below w.heap.size w w' := by
  have hcode : ∀ it ∈ its, it.n ≤ 1048576 ∧ -9223372036854775808 ≤ it.code ∧ it.code ≤ 9223372036854775807 := fun it hm => by
    rw [List.all_eq_true] at hg
    obtain ⟨h0, h1, _⟩ := good_spec (hg (it.code, it.d) (List.mem_map.2 ⟨it, hm, rfl⟩))
    have := hD it hm
    simp only at h0 h1
    exact ⟨by omega, by omega, by omega⟩
  have hl : (packO (said its)).length ≤ 1048576 := by
    have h1 := packO_length 1000 (said its) (fun e he => by
      obtain ⟨it, hm, rfl⟩ := List.mem_map.1 he
      have h2 := (h.ok it hm).1.len
      rw [nums_length] at h2
      have := hD it hm
      simp only
      omega)
    rw [said_length, h.len] at h1
    have h2 : n * (4 + 1000) ≤ 100 * (4 + 1000) := Nat.mul_le_mul_right _ hn
    omega
  refine (build_any A n c its w h (by omega) hcode).mono ?_
  rintro r w' (⟨_, A', n', c', rfl, hb, hc, hbel⟩ | ⟨hbad, _, _⟩)
  · refine ⟨A', n', c', rfl, by rw [nums_encO _ hg]; exact hb, hc, ?_, hbel⟩
    have := hb.len
    omega
  · rw [hg] at hbad; cases hbad
theorem parse_good {A : Option Addr} {n c : Nat} {l : List (Int × List UInt8)} {w : World} (h : BReads w A n (nums (encO l))) (hc : n ≤ c) (hn : n ≤ 1048576) (hg : l.all good = true) :
    Calls Try.prog 31 #[.slice A n c] w fun r w' => ∃ A' n' c' its', r = .returned (.tuple #[.slice A' n' c', .int .i64 0]) ∧ ORd w' A' n' its' ∧ said its' = l ∧ Below w.heap.size w w' := by
  refine (parse_any A n c _ w h hc hn).mono ?_
  rintro r w' (⟨l', A', n', c', its', hp, rfl, rd, hs, hb⟩ | ⟨hp, _, _⟩)
  · rw [parse_enc l hg] at hp
    injection hp with hp
    exact ⟨A', n', c', its', rfl, rd, hs.trans hp.symm, hb⟩
  · rw [parse_enc l hg] at hp; cases hp
theorem bound_of {w : World} {A : Option Addr} {n : Nat} {its : List It} (h : ORd w A n its) (B : Nat) (l : List (Int × List UInt8)) (hs : said its = l) (hl : ∀ e ∈ l, e.2.length ≤ B) : n = l.length ∧ ∀ it ∈ its, it.n ≤ B := by
  refine ⟨by rw [← hs, said_length, h.len], fun it hm => ?_⟩
  have h1 := (h.ok it hm).1.len
  rw [nums_length] at h1
  have h2 := hl (it.code, it.d) (by rw [← hs]; exact List.mem_map.2 ⟨it, hm, rfl⟩)
  simp only at h2
  omega

set_option maxRecDepth 100000 in
set_option maxHeartbeats 4000000 in
theorem dback_any (A : Option Addr) (n c : Nat) (its : List It) (s : List UInt8) (w : World) (h : ORd w A n its) (hn : n ≤ 9223372036854775807) (hD : ∀ it ∈ its, it.n ≤ 9223372036854775807 ∧ -9223372036854775808 ≤ it.code ∧ it.code ≤ 9223372036854775807) (hs : s.length ≤ 9223372036854775807) :
    Calls Try.prog 7 #[.slice A n c, .string (bs s)] w fun r w' => r = .returned (.bool true) ∧ Below w.heap.size w w' := by
  have hsz : (bs s).size = s.length := rfl
  have H := Lib.hid h
  have HDD := Lib.hid hD
  clear h hD
  go_enter Try.func7, Try.ntmps7
  go_wp2_with fail
  refine (far_any A n c its w H.out hn (fun it hm => (HDD.out it hm).1)).mono ?_
  rintro r w1 ⟨b, rfl, bel1, hfar⟩
  have BEL1 := Lib.hid bel1
  have FAR := Lib.hid hfar
  clear bel1 hfar
  by_cases hb : b = true ∨ 500 < s.length
  · rcases hb with rfl | hb
    · go_wp2_with (go_at_call 23; refine (dawake_any _).mono ?_; rintro r w' ⟨rfl, hb2⟩)
      go_ret
      exact ⟨rfl, BEL1.out.trans (hb2.mono BEL1.out.size)⟩
    · have hd : decide ((500 : Int) < (s.length : Int)) = true := by simp; omega
      go_wp2_with (go_at_call 23; refine (dawake_any _).mono ?_; rintro r w' ⟨rfl, hb2⟩)
      all_goals
        go_ret
        exact ⟨rfl, BEL1.out.trans (hb2.mono BEL1.out.size)⟩
  · have hbf : b = false := by cases b; rfl; exact absurd (.inl rfl) hb
    subst hbf
    have h5 : s.length ≤ 500 := by omega
    have hd : decide ((500 : Int) < (s.length : Int)) = false := by simp; omega
    obtain ⟨hn30, hdl⟩ := FAR.out rfl
    have HDL := Lib.hid hdl
    clear hb FAR hdl
    have H1 := Lib.hid (H.out.below BEL1.out)
    cases hg : (said its).all good with
    | false =>
      have HG := Lib.hid hg
      clear hg
      go_wp2_with fail
      refine (build_any A n c its _ H1.out (by omega) (fun it hm => ⟨by have := HDL.out it hm; omega, (HDD.out it hm).2⟩)).mono ?_
      rintro r w2 (⟨hgg, _⟩ | ⟨_, rfl, bel2⟩)
      · rw [HG.out] at hgg; cases hgg
      · have BEL2 := Lib.hid (BEL1.out.trans (bel2.mono BEL1.out.size))
        clear bel2 BEL1
        go_wp2_with (go_at_call 23; refine (dawake_any _).mono ?_; rintro r w' ⟨rfl, hb2⟩)
        go_ret
        exact ⟨rfl, BEL2.out.trans (hb2.mono BEL2.out.size)⟩
    | true =>
      have HG := Lib.hid hg
      have hlb : ∀ e ∈ said its, e.2.length ≤ 1000 := by
        intro e he
        obtain ⟨it, hm, rfl⟩ := List.mem_map.1 he
        have h1 := (H.out.ok it hm).1.len
        rw [nums_length] at h1
        have := HDL.out it hm
        simp only
        omega
      have HLB := Lib.hid hlb
      have hlen : its.length = n := H.out.len
      obtain ⟨G, M, hML, _, hGM, hG0, hW, _⟩ := with_both s (by omega) (said its) (by rw [said_length]; omega) (fun e he => by have := hlb e he; omega)
      rw [said_length] at hML
      have HW := Lib.hid hW
      have HG0 := Lib.hid hG0
      have HGM := Lib.hid hGM
      have HML := Lib.hid hML
      have HLEN := Lib.hid hlen
      clear hg hlb hW hG0 hGM hML hlen
      go_wp2_with fail
      refine (build_good H1.out (by omega) HDL.out HG.out).mono ?_
      rintro r w2 ⟨A2, n2, c2, rfl, hb2, hc2, hn2, bel2⟩
      have BEL2 := Lib.hid (BEL1.out.trans (bel2.mono BEL1.out.size))
      have H2 := Lib.hid (H1.out.below bel2)
      have HB2 := Lib.hid hb2
      clear bel2 BEL1 H1 hb2
      go_wp2_with fail
      refine (parse_good HB2.out hc2 hn2 HG.out).mono ?_
      rintro r w3 ⟨A3, n3, c3, its3, rfl, rd3, hs3, bel3⟩
      obtain rfl : n = n3 := by rw [← rd3.len, ← said_length, hs3, said_length, HLEN.out]
      have BEL3 := Lib.hid (BEL2.out.trans (bel3.mono BEL2.out.size))
      have H3 := Lib.hid (H2.out.below bel3)
      have RD3 := Lib.hid rd3
      have HS3 := Lib.hid hs3
      have hn1 : n ≤ 1000000 := by omega
      clear bel3 BEL2 H2 rd3 hs3 HB2
      go_wp2_with fail
      refine (own_any A3 n c3 its3 _ RD3.out hn1).mono ?_
      rintro r w4 ⟨v4, rfl, row4, bel4⟩
      obtain ⟨A4, c4, rfl, rd4, _⟩ := row4.reads
      rw [RD3.out.len] at rd4 ⊢
      have BEL4 := Lib.hid (BEL3.out.trans (bel4.mono BEL3.out.size))
      have H4 := Lib.hid (H3.out.below bel4)
      have RD34 := Lib.hid (RD3.out.below bel4)
      have RD4 := Lib.hid rd4
      clear bel4 BEL3 H3 rd4 row4 RD3
      go_wp2_with fail
      refine (own_any A n c its _ H4.out hn1).mono ?_
      rintro r w5 ⟨v5, rfl, row5, bel5⟩
      obtain ⟨A5, c5, rfl, rd5, _⟩ := row5.reads
      rw [H4.out.len] at rd5 ⊢
      have BEL5 := Lib.hid (BEL4.out.trans (bel5.mono BEL4.out.size))
      have RD35 := Lib.hid (RD34.out.below bel5)
      have RD45 := Lib.hid (RD4.out.below bel5)
      have RD5 := Lib.hid rd5
      clear bel5 BEL4 H4 rd5 row5 RD34 RD4
      go_wp2_with fail
      refine (same_any A4 A5 n c4 c5 its3 its _ RD45.out RD5.out HS3.out hn1).mono ?_
      rintro r w6 ⟨rfl, bel6⟩
      have BEL6 := Lib.hid (BEL5.out.trans (bel6.mono BEL5.out.size))
      have RD36 := Lib.hid (RD35.out.below bel6)
      clear bel6 BEL5 RD35 RD45 RD5
      go_wp2_with fail
      refine (HW.out A3 n c3 its3 _ RD36.out HS3.out).mono ?_
      rintro r w7 ⟨A7, n7, c7, its7, rfl, rd7, hs7, bel7⟩
      have BEL7 := Lib.hid (BEL6.out.trans (bel7.mono BEL6.out.size))
      have RD7 := Lib.hid rd7
      have HS7 := Lib.hid hs7
      clear bel7 BEL6 RD36 rd7 hs7
      by_cases hG : G = 0
      · subst hG
        obtain ⟨hM, hf, h0⟩ := HG0.out rfl
        have hMg : M.all good = true := by rw [hM]; exact good_with _ s HG.out hf
        have hMb : ∀ e ∈ M, e.2.length ≤ 1000 := by
          rw [hM]
          intro e he
          rcases List.mem_append.1 he with he | he
          · exact HLB.out e (List.mem_filter.1 he).1
          · obtain rfl : e = (64, packB (labels s) ++ [0]) := by simpa using he
            have h1 := packB_length (labels s)
            have h2 := hf.2
            simp
            omega
        obtain ⟨hl7, hd7⟩ := bound_of RD7.out 1000 M HS7.out hMb
        have hn7 : n7 ≤ 100 := by have := HML.out; have := HLEN.out; omega
        have HM := Lib.hid hM
        have HMG := Lib.hid hMg
        have HMB := Lib.hid hMb
        have HF := Lib.hid hf
        have HNE := Lib.hid h0
        clear hM hMg hMb hl7 hf h0
        go_wp2_with fail
        refine (build_good RD7.out hn7 hd7 (by rw [HS7.out]; exact HMG.out)).mono ?_
        rintro r w8 ⟨A8, n8, c8, rfl, hb8, hc8, hn8, bel8⟩
        rw [HS7.out] at hb8
        have BEL8 := Lib.hid (BEL7.out.trans (bel8.mono BEL7.out.size))
        have HB8 := Lib.hid hb8
        clear bel8 BEL7 hb8
        go_wp2_with fail
        refine (parse_good HB8.out hc8 hn8 HMG.out).mono ?_
        rintro r w9 ⟨A9, n9, c9, its9, rfl, rd9, hs9, bel9⟩
        have BEL9 := Lib.hid (BEL8.out.trans (bel9.mono BEL8.out.size))
        obtain ⟨hl9, hd9⟩ := bound_of rd9 1000 M hs9 HMB.out
        have hn9 : n9 ≤ 1000000 := by have := HML.out; have := HLEN.out; omega
        have HS9 := Lib.hid hs9
        have RD9 := Lib.hid rd9
        have HD9 := Lib.hid (show ∀ it ∈ its9, it.n ≤ 1048576 from fun it hm => by have := hd9 it hm; omega)
        clear bel9 BEL8 hl9 hd9 hs9 rd9
        go_wp2_with fail
        refine (aftr_any A9 n9 c9 its9 _ RD9.out hn9 HD9.out).mono ?_
        rintro r w10 ⟨rfl, bel10⟩
        rw [HS9.out, HM.out, aftr_with _ s HF.out HNE.out]
        have BEL10 := Lib.hid (BEL9.out.trans (bel10.mono BEL9.out.size))
        clear bel10 BEL9
        unfold aftrV
        go_wp2_with fail
        refine (dawake_any _).mono ?_
        rintro r w11 ⟨rfl, bel11⟩
        go_wp2
        go_ret
        exact ⟨rfl, BEL10.out.trans (bel11.mono BEL10.out.size)⟩
      · have hM : M = [] := by rcases HGM.out with h | h; exact absurd h hG; exact h
        have hl7 : n7 = 0 := by rw [← RD7.out.len, ← said_length, HS7.out, hM]; rfl
        subst hl7
        clear hM
        go_wp2_with (go_at_call 23; refine (dawake_any _).mono ?_; rintro r w' ⟨rfl, hb2⟩)
        go_ret
        exact ⟨rfl, BEL7.out.trans (hb2.mono BEL7.out.size)⟩

theorem dback_arg (A : Option Addr) (n c : Nat) (its : List It) (s : ByteArray) (hs : s.size ≤ maxLen) (w : World) (h : ORd w A n its) (hn : n ≤ 9223372036854775807) (hD : ∀ it ∈ its, it.n ≤ 9223372036854775807 ∧ -9223372036854775808 ≤ it.code ∧ it.code ≤ 9223372036854775807) :
    Calls Try.prog 7 #[.slice A n c, .string s] w fun r w' => r = .returned (.bool true) ∧ Below w.heap.size w w' := by
  have := dback_any A n c its s.data.toList w h hn hD (by rw [size_data]; unfold maxLen at hs; omega)
  rw [bs_of] at this
  exact this
end Go.Proofs.Ytfgcbpchapkjbaa
