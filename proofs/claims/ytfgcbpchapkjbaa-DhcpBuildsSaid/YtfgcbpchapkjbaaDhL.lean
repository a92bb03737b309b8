/-
  DhcpNames: the law's walk.
-/
import Derived.Test.YtfgcbpchapkjbaaDhK
import Derived.Test.YtfgcbpchapkjbaaNamP
namespace Go.Proofs.Ytfgcbpchapkjbaa
open Go.RowKit

/-- What With gives back, whether there is a name or not: its answer and what the options say. -/
theorem with_both (s : List UInt8) (hs : s.length ≤ 1048576) (l : List (Int × List UInt8)) (hll : l.length ≤ 100000) (hbig : ∀ e ∈ l, e.2.length ≤ 1048576) : ∃ (G : Int) (M : List (Int × List UInt8)), M.length ≤ l.length + 1 ∧ (∀ e ∈ M, e.2.length ≤ 1048576) ∧ (G = 0 ∨ M = []) ∧
    (G = 0 → M = withName l s ∧ fits (labels s) ∧ s ≠ []) ∧
    (∀ (A : Option Addr) (n c : Nat) (its : List It) (w : World), ORd w A n its → said its = l → Calls Try.prog 27 #[.slice A n c, .string (bs s)] w fun r w' => ∃ A' n' c' its', r = .returned (.tuple #[.slice A' n' c', .int .i64 G]) ∧ ORd w' A' n' its' ∧ said its' = M ∧ Below w.heap.size w w') ∧
    (∀ (A : Option Addr) (n c : Nat) (its : List It) (w : World), ORd w A n its → said its = l → Calls Try.prog 28 #[.slice A n c, .string (bs s)] w fun r w' => ∃ A' n' c' its', r = .returned (.tuple #[.slice A' n' c', .int .i64 G]) ∧ ORd w' A' n' its' ∧ said its' = M ∧ Below w.heap.size w w') := by
  have hpl : ∀ (its : List It) (w : World) (A : Option Addr) (n : Nat), ORd w A n its → said its = l → n ≤ 1000000 ∧ ∀ it ∈ its, it.n ≤ 1048576 := by
    intro its w A n h hs
    have h1 : (said its).length = l.length := by rw [hs]
    rw [said_length, h.len] at h1
    refine ⟨by omega, fun it hm => ?_⟩
    have h2 := (h.ok it hm).1.len
    rw [nums_length] at h2
    have h3 := hbig (it.code, it.d) (by rw [← hs]; exact List.mem_map.2 ⟨it, hm, rfl⟩)
    simp only at h3
    omega
  by_cases hf : fits (labels s) ∧ s ≠ []
  · refine ⟨0, withName l s, ?_, ?_, .inl rfl, fun _ => ⟨rfl, hf⟩, ?_, ?_⟩
    · have := List.length_filter_le (fun e : Int × List UInt8 => !(e.1 == 64)) l
      simp [withName]
      omega
    · intro e he
      rcases List.mem_append.1 he with he | he
      · exact hbig e (List.mem_filter.1 he).1
      · obtain rfl : e = (64, packB (labels s) ++ [0]) := by simpa using he
        have h1 := packB_length (labels s)
        have h2 := hf.1.2
        simp
        omega
    · intro A n c its w h hs'
      obtain ⟨h1, h2⟩ := hpl its w A n h hs'
      refine (with_ok A n c its s hs hf.1 hf.2 w h h1 h2).mono ?_
      rintro r w' ⟨b0, v, its', rfl, row, h3, hb⟩
      obtain ⟨A', c', rfl, rd, _⟩ := row.reads
      exact ⟨A', _, c', its', rfl, rd, by rw [h3, hs'], hb⟩
    · intro A n c its w h hs'
      obtain ⟨h1, h2⟩ := hpl its w A n h hs'
      refine (rwith_ok A n c its s hs hf.1 hf.2 w h h1 h2).mono ?_
      rintro r w' ⟨b0, v, its', rfl, row, h3, hb⟩
      obtain ⟨A', c', rfl, rd, _⟩ := row.reads
      exact ⟨A', _, c', its', rfl, rd, by rw [h3, hs'], hb⟩
  · have hf' : ¬ fits (labels s) ∨ s = [] := by
      by_cases h : fits (labels s)
      · exact .inr (Classical.byContradiction fun h' => hf ⟨h, h'⟩)
      · exact .inl h
    refine ⟨4, [], Nat.zero_le _, by simp, .inr rfl, (fun h => absurd h (by decide)), ?_, ?_⟩
    · intro A n c its w h hs'
      refine (with_bad A n c s hs hf' w).mono ?_
      rintro r w' ⟨rfl, hb⟩
      exact ⟨none, 0, 0, [], rfl, ORd.nil _ _, rfl, hb⟩
    · intro A n c its w h hs'
      refine (rwith_bad A n c s hs hf' w).mono ?_
      rintro r w' ⟨rfl, hb⟩
      exact ⟨none, 0, 0, [], rfl, ORd.nil _ _, rfl, hb⟩

set_option maxRecDepth 100000 in
set_option maxHeartbeats 4000000 in
theorem dnames_any (A : Option Addr) (n c : Nat) (its : List It) (s : List UInt8) (w : World) (h : ORd w A n its) (hn : n ≤ 9223372036854775807) (hD : ∀ it ∈ its, it.n ≤ 9223372036854775807) (hs : s.length ≤ 9223372036854775807) :
    Calls Try.prog 6 #[.slice A n c, .string (bs s)] w fun r w' => r = .returned (.bool true) ∧ Below w.heap.size w w' := by
  have hsz : (bs s).size = s.length := rfl
  have H := Lib.hid h
  have HDD := Lib.hid hD
  clear h hD
  go_enter Try.func6, Try.ntmps6
  go_wp2_with fail
  refine (far_any A n c its w H.out hn HDD.out).mono ?_
  rintro r w1 ⟨b, rfl, bel1, hfar⟩
  have BEL1 := Lib.hid bel1
  have FAR := Lib.hid hfar
  clear bel1 hfar
  by_cases hb : b = true ∨ 500 < s.length
  · rcases hb with rfl | hb
    · go_wp2_with (go_at_call 23; refine (dawake_any _).mono ?_; rintro r w' ⟨rfl, hb2⟩)
      go_ret
      exact ⟨rfl, BEL1.out.trans (hb2.mono BEL1.out.size)⟩
    · have hd : decide ((500 : Int) < (s.length : Int)) = true := by simp; omega
      go_wp2_with (go_at_call 23; refine (dawake_any _).mono ?_; rintro r w' ⟨rfl, hb2⟩)
      all_goals
        go_ret
        exact ⟨rfl, BEL1.out.trans (hb2.mono BEL1.out.size)⟩
  · have hbf : b = false := by cases b; rfl; exact absurd (.inl rfl) hb
    subst hbf
    have h5 : s.length ≤ 500 := by omega
    have hd : decide ((500 : Int) < (s.length : Int)) = false := by simp; omega
    obtain ⟨hn30, hdl⟩ := FAR.out rfl
    clear hb FAR
    have hD : ∀ it ∈ its, it.n ≤ 1048576 := fun it hm => by have := hdl it hm; omega
    have hlen : its.length = n := H.out.len
    obtain ⟨G, M, hML, hMb, hGM, _, hW, hRW⟩ := with_both s (by omega) (said its) (by rw [said_length]; omega) (by
      intro e he
      obtain ⟨it, hm, rfl⟩ := List.mem_map.1 he
      have h1 := (H.out.ok it hm).1.len
      rw [nums_length] at h1
      have := hdl it hm
      simp only
      omega)
    rw [said_length] at hML
    obtain ⟨m, hm⟩ : ∃ m, M.length = m := ⟨_, rfl⟩
    rw [hm] at hML
    have HM := Lib.hid hm
    have HW := Lib.hid hW
    have HRW := Lib.hid hRW
    have HD := Lib.hid hD
    obtain ⟨⟨R1, R2⟩, hR⟩ : ∃ R, aftr (said its) = R := ⟨_, rfl⟩
    have HR := Lib.hid hR
    have hn1 : n ≤ 1000000 := by omega
    clear hW hRW hD hdl hR hMb hm
    go_wp2_with fail
    have H1 := Lib.hid (H.out.below BEL1.out)
    refine (aftr_any A n c its _ H1.out hn1 HD.out).mono ?_
    rintro r w2 ⟨rfl, bel2⟩
    rw [HR.out]
    have H2 := Lib.hid (H1.out.below bel2)
    have BEL2 := Lib.hid (BEL1.out.trans (bel2.mono BEL1.out.size))
    clear bel2 BEL1 H1
    unfold aftrV
    go_wp2_with fail
    refine (own_any A n c its _ H2.out hn1).mono ?_
    rintro r w3 ⟨v3, rfl, row3, bel3⟩
    obtain ⟨A3, c3, rfl, rd3, _⟩ := row3.reads
    rw [hlen] at rd3 ⊢
    have H3 := Lib.hid (H2.out.below bel3)
    have BEL3 := Lib.hid (BEL2.out.trans (bel3.mono BEL2.out.size))
    have RD3 := Lib.hid rd3
    clear bel3 BEL2 H2 row3 rd3
    go_wp2_with fail
    refine (raftr_any A3 n c3 its _ RD3.out hn1 HD.out).mono ?_
    rintro r w4 ⟨rfl, rfl⟩
    rw [HR.out]
    unfold aftrV
    go_wp2_with fail
    refine (HW.out A n c its _ H3.out rfl).mono ?_
    rintro r w5 ⟨A5, n5, c5, its5, rfl, rd5, hs5, bel5⟩
    obtain rfl : m = n5 := by rw [← rd5.len, ← said_length, hs5, HM.out]
    have H5 := Lib.hid (H3.out.below bel5)
    have BEL5 := Lib.hid (BEL3.out.trans (bel5.mono BEL3.out.size))
    have RD5 := Lib.hid rd5
    have HS5 := Lib.hid hs5
    clear bel5 BEL3 H3 rd5 hs5 RD3
    go_wp2_with fail
    refine (own_any A n c its _ H5.out hn1).mono ?_
    rintro r w6 ⟨v6, rfl, row6, bel6⟩
    obtain ⟨A6, c6, rfl, rd6, _⟩ := row6.reads
    rw [hlen] at rd6 ⊢
    have RD56 := Lib.hid (RD5.out.below bel6)
    have BEL6 := Lib.hid (BEL5.out.trans (bel6.mono BEL5.out.size))
    have RD6 := Lib.hid rd6
    clear bel6 BEL5 H5 row6 rd6 RD5
    go_wp2_with fail
    refine (HRW.out A6 n c6 its _ RD6.out rfl).mono ?_
    rintro r w7 ⟨A7, n7, c7, its7, rfl, rd7, hs7, bel7⟩
    obtain rfl : m = n7 := by rw [← rd7.len, ← said_length, hs7, HM.out]
    have RD57 := Lib.hid (RD56.out.below bel7)
    have BEL7 := Lib.hid (BEL6.out.trans (bel7.mono BEL6.out.size))
    have RD7 := Lib.hid rd7
    have HS7 := Lib.hid hs7
    clear bel7 BEL6 rd7 hs7 RD6 RD56
    have hn7 : m ≤ 1000000 := by omega
    go_wp2_with fail
    refine (own_any A5 m c5 its5 _ RD57.out hn7).mono ?_
    rintro r w8 ⟨v8, rfl, row8, bel8⟩
    obtain ⟨A8, c8, rfl, rd8, _⟩ := row8.reads
    rw [RD57.out.len] at rd8 ⊢
    have RD78 := Lib.hid (RD7.out.below bel8)
    have BEL8 := Lib.hid (BEL7.out.trans (bel8.mono BEL7.out.size))
    have RD8 := Lib.hid rd8
    clear bel8 BEL7 row8 rd8 RD7
    go_wp2_with fail
    refine (same_any A8 A7 m c8 c7 its5 its7 _ RD8.out RD78.out (HS5.out.trans HS7.out.symm) hn7).mono ?_
    rintro r w9 ⟨rfl, bel9⟩
    have BEL9 := Lib.hid (BEL8.out.trans (bel9.mono BEL8.out.size))
    clear bel9 BEL8
    go_wp2_with fail
    refine (dawake_any _).mono ?_
    rintro r w10 ⟨rfl, bel10⟩
    go_wp2
    go_ret
    exact ⟨rfl, BEL9.out.trans (bel10.mono BEL9.out.size)⟩

theorem dnames_arg (A : Option Addr) (n c : Nat) (its : List It) (s : ByteArray) (hs : s.size ≤ maxLen) (w : World) (h : ORd w A n its) (hn : n ≤ 9223372036854775807) (hD : ∀ it ∈ its, it.n ≤ 9223372036854775807 ∧ -9223372036854775808 ≤ it.code ∧ it.code ≤ 9223372036854775807) :
    Calls Try.prog 6 #[.slice A n c, .string s] w fun r w' => r = .returned (.bool true) ∧ Below w.heap.size w w' := by
  have := dnames_any A n c its s.data.toList w h hn (fun it hm => (hD it hm).1) (by rw [size_data]; unfold maxLen at hs; omega)
  rw [bs_of] at this
  exact this
end Go.Proofs.Ytfgcbpchapkjbaa
