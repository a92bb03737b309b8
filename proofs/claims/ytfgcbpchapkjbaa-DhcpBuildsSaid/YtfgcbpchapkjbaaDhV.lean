/-
  DhcpBuilds: the law's walk.
-/
import Derived.Test.YtfgcbpchapkjbaaDhU
namespace Go.Proofs.Ytfgcbpchapkjbaa
open Go.RowKit

theorem build_both (l : List (Int × List UInt8)) (hl : l.length ≤ 100000) (hbig : ∀ e ∈ l, e.2.length ≤ 1048576) : ∃ (E : Int) (N : Nat) (ys : List Int),
    (∀ (A : Option Addr) (n c : Nat) (its : List It) (w : World), ORd w A n its → said its = l → (∀ it ∈ its, -9223372036854775808 ≤ it.code ∧ it.code ≤ 9223372036854775807) → Calls Try.prog 30 #[.slice A n c] w fun r w' => ∃ A' c', r = .returned (.tuple #[.slice A' N c', .int .i64 E]) ∧ BReads w' A' N ys ∧ Below w.heap.size w w') ∧
    (∀ (A : Option Addr) (n c : Nat) (its : List It) (w : World), ORd w A n its → said its = l → Calls Try.prog 32 #[.slice A n c] w fun r w' => ∃ A' c', r = .returned (.tuple #[.slice A' N c', .int .i64 E]) ∧ BReads w' A' N ys ∧ Below w.heap.size w w') := by
  have hpl : ∀ (its : List It) (w : World) (A : Option Addr) (n : Nat), ORd w A n its → said its = l → n ≤ 100000 ∧ ∀ it ∈ its, it.n ≤ 1048576 := by
    intro its w A n h hs
    obtain ⟨h1, h2⟩ := bound_of h 1048576 l hs hbig
    exact ⟨by omega, h2⟩
  cases hg : l.all good with
  | true =>
    refine ⟨0, (packO l).length, packO l, fun A n c its w h hs hc => ?_, fun A n c its w h hs => ?_⟩
    · obtain ⟨h1, h2⟩ := hpl its w A n h hs
      refine (build_any A n c its w h h1 (fun it hm => ⟨h2 it hm, hc it hm⟩)).mono ?_
      rintro r w' (⟨_, A', n', c', rfl, hb, _, hbel⟩ | ⟨hbad, _, _⟩)
      · rw [hs] at hb
        obtain rfl := hb.len
        exact ⟨A', c', rfl, hb, hbel⟩
      · rw [hs, hg] at hbad; cases hbad
    · obtain ⟨h1, h2⟩ := hpl its w A n h hs
      refine (rbuild_any A n c its w h h1 h2).mono ?_
      rintro r w' (⟨_, A', n', c', rfl, hb, _, hbel⟩ | ⟨hbad, _, _⟩)
      · rw [hs] at hb
        obtain rfl := hb.len
        exact ⟨A', c', rfl, hb, hbel⟩
      · rw [hs, hg] at hbad; cases hbad
  | false =>
    refine ⟨1, 0, [], fun A n c its w h hs hc => ?_, fun A n c its w h hs => ?_⟩
    · obtain ⟨h1, h2⟩ := hpl its w A n h hs
      refine (build_any A n c its w h h1 (fun it hm => ⟨h2 it hm, hc it hm⟩)).mono ?_
      rintro r w' (⟨hok, _⟩ | ⟨_, rfl, hbel⟩)
      · rw [hs, hg] at hok; cases hok
      · exact ⟨none, 0, rfl, ⟨Reads.none_, fun _ => rfl⟩, hbel⟩
    · obtain ⟨h1, h2⟩ := hpl its w A n h hs
      refine (rbuild_any A n c its w h h1 h2).mono ?_
      rintro r w' (⟨hok, _⟩ | ⟨_, rfl, hbel⟩)
      · rw [hs, hg] at hok; cases hok
      · exact ⟨none, 0, rfl, ⟨Reads.none_, fun _ => rfl⟩, hbel⟩

theorem parseB_length : ∀ (N : Nat) (d : List UInt8) (l : List (Int × List UInt8)), d.length ≤ N → parseB d = some l → l.length ≤ d.length
  | N, [], l, _, h => by rw [parse_nil] at h; injection h with h; subst h; simp
  | N, [a], l, _, h => by rw [parse_short (by simp) (by simp)] at h; cases h
  | N, [a, b], l, _, h => by rw [parse_short (by simp) (by simp)] at h; cases h
  | N, [a, b, c], l, _, h => by rw [parse_short (by simp) (by simp)] at h; cases h
  | 0, a :: b :: c :: e :: r, l, hN, h => by simp at hN
  | N + 1, a :: b :: c :: e :: r, l, hN, h => by
    rw [parse_next] at h
    split at h
    · cases h
    · obtain ⟨l', h1, rfl⟩ := Option.map_eq_some_iff.1 h
      have ih := parseB_length N _ l' (by rw [List.length_drop]; simp at hN; omega) h1
      rw [List.length_drop] at ih
      simp
      omega

theorem parse_both (d : List UInt8) (hd : d.length ≤ 1048576) : ∃ (G : Int) (M : List (Int × List UInt8)), M.length ≤ d.length ∧
    (∀ (A : Option Addr) (n c : Nat) (w : World), BReads w A n (nums d) → n ≤ c → Calls Try.prog 31 #[.slice A n c] w fun r w' => ∃ A' n' c' its', r = .returned (.tuple #[.slice A' n' c', .int .i64 G]) ∧ ORd w' A' n' its' ∧ said its' = M ∧ Below w.heap.size w w') ∧
    (∀ (A : Option Addr) (n c : Nat) (w : World), BReads w A n (nums d) → n ≤ c → Calls Try.prog 33 #[.slice A n c] w fun r w' => ∃ A' n' c' its', r = .returned (.tuple #[.slice A' n' c', .int .i64 G]) ∧ ORd w' A' n' its' ∧ said its' = M ∧ Below w.heap.size w w') := by
  have hdn : ∀ {A : Option Addr} {n : Nat} {w : World}, BReads w A n (nums d) → n ≤ 1048576 := fun h => by
    have := h.len
    rw [nums_length] at this
    omega
  cases hp : parseB d with
  | some l =>
    refine ⟨0, l, parseB_length _ d l (Nat.le_refl _) hp, fun A n c w h hc => ?_, fun A n c w h hc => ?_⟩
    · refine (parse_any A n c d w h hc (hdn h)).mono ?_
      rintro r w' (⟨l', A', n', c', its', hp', rfl, rd, hs, hb⟩ | ⟨hp', _, _⟩)
      · rw [hp] at hp'; injection hp' with hp'
        exact ⟨A', n', c', its', rfl, rd, hs.trans hp'.symm, hb⟩
      · rw [hp] at hp'; cases hp'
    · refine (rparse_any A n c d w h hc (hdn h)).mono ?_
      rintro r w' (⟨l', A', n', c', its', hp', rfl, rd, hs, hb⟩ | ⟨hp', _, _⟩)
      · rw [hp] at hp'; injection hp' with hp'
        exact ⟨A', n', c', its', rfl, rd, hs.trans hp'.symm, hb⟩
      · rw [hp] at hp'; cases hp'
  | none =>
    refine ⟨3, [], Nat.zero_le _, fun A n c w h hc => ?_, fun A n c w h hc => ?_⟩
    · refine (parse_any A n c d w h hc (hdn h)).mono ?_
      rintro r w' (⟨l', A', n', c', its', hp', _⟩ | ⟨_, rfl, hb⟩)
      · rw [hp] at hp'; cases hp'
      · exact ⟨none, 0, 0, [], rfl, ORd.nil _ _, rfl, hb⟩
    · refine (rparse_any A n c d w h hc (hdn h)).mono ?_
      rintro r w' (⟨l', A', n', c', its', hp', _⟩ | ⟨_, rfl, hb⟩)
      · rw [hp] at hp'; cases hp'
      · exact ⟨none, 0, 0, [], rfl, ORd.nil _ _, rfl, hb⟩

set_option maxRecDepth 100000 in
set_option maxHeartbeats 4000000 in
theorem dbuilds_any (A : Option Addr) (n c : Nat) (its : List It) (B : Option Addr) (k e : Nat) (d : List UInt8) (w : World) (h : ORd w A n its) (hn : n ≤ 9223372036854775807) (hD : ∀ it ∈ its, it.n ≤ 9223372036854775807 ∧ -9223372036854775808 ≤ it.code ∧ it.code ≤ 9223372036854775807)
    (hbr : BReads w B k (nums d)) (hke : k ≤ e) (hk : k ≤ 9223372036854775807) :
    Calls Try.prog 8 #[.slice A n c, .slice B k e] w fun r w' => r = .returned (.bool true) ∧ Below w.heap.size w w' := by
  have H := Lib.hid h
  have HDD := Lib.hid hD
  have HBR := Lib.hid hbr
  clear h hD hbr
  go_enter Try.func8, Try.ntmps8
  go_wp2_with fail
  refine (far_any A n c its w H.out hn (fun it hm => (HDD.out it hm).1)).mono ?_
  rintro r w1 ⟨b, rfl, bel1, hfar⟩
  have BEL1 := Lib.hid bel1
  have FAR := Lib.hid hfar
  clear bel1 hfar
  by_cases hb : b = true ∨ 2000 < k
  · rcases hb with rfl | hb
    · go_wp2_with (go_at_call 23; refine (dawake_any _).mono ?_; rintro r w' ⟨rfl, hb2⟩)
      go_ret
      exact ⟨rfl, BEL1.out.trans (hb2.mono BEL1.out.size)⟩
    · go_wp2_with (go_at_call 23; refine (dawake_any _).mono ?_; rintro r w' ⟨rfl, hb2⟩)
      all_goals
        go_ret
        exact ⟨rfl, BEL1.out.trans (hb2.mono BEL1.out.size)⟩
  · have hbf : b = false := by cases b; rfl; exact absurd (.inl rfl) hb
    subst hbf
    have h5 : k ≤ 2000 := by omega
    obtain ⟨hn30, hdl⟩ := FAR.out rfl
    have HDL := Lib.hid hdl
    clear hb FAR hdl
    have hlen : its.length = n := H.out.len
    have hdk : d.length = k := by have := HBR.out.len; rwa [nums_length] at this
    obtain ⟨E, N, ys, hB, hRB⟩ := build_both (said its) (by rw [said_length]; omega) (by
      intro e he
      obtain ⟨it, hm, rfl⟩ := List.mem_map.1 he
      have h1 := (H.out.ok it hm).1.len
      rw [nums_length] at h1
      have := HDL.out it hm
      simp only
      omega)
    obtain ⟨G, M, hML, hP, hRP⟩ := parse_both d (by omega)
    obtain ⟨m, hm⟩ : ∃ m, M.length = m := ⟨_, rfl⟩
    rw [hm, hdk] at hML
    have HB := Lib.hid hB
    have HRB := Lib.hid hRB
    have HP := Lib.hid hP
    have HRP := Lib.hid hRP
    have HM := Lib.hid hm
    have HLEN := Lib.hid hlen
    have H1 := Lib.hid (H.out.below BEL1.out)
    have B1 := Lib.hid (HBR.out.below BEL1.out)
    have hn1 : n ≤ 1000000 := by omega
    clear hB hRB hP hRP hm hlen hdk HBR
    go_wp2_with fail
    refine (HB.out A n c its _ H1.out rfl (fun it hm => (HDD.out it hm).2)).mono ?_
    rintro r w2 ⟨A2, c2, rfl, rd2, bel2⟩
    have BEL2 := Lib.hid (BEL1.out.trans (bel2.mono BEL1.out.size))
    have H2 := Lib.hid (H1.out.below bel2)
    have B2 := Lib.hid (B1.out.below bel2)
    have RD2 := Lib.hid rd2
    clear bel2 BEL1 H1 B1 rd2
    go_wp2_with fail
    refine (own_any A n c its _ H2.out hn1).mono ?_
    rintro r w3 ⟨v3, rfl, row3, bel3⟩
    obtain ⟨A3, c3, rfl, rd3, _⟩ := row3.reads
    rw [HLEN.out] at rd3 ⊢
    have BEL3 := Lib.hid (BEL2.out.trans (bel3.mono BEL2.out.size))
    have B3 := Lib.hid (B2.out.below bel3)
    have RD23 := Lib.hid (RD2.out.below bel3)
    have RD3 := Lib.hid rd3
    clear bel3 BEL2 H2 B2 rd3 row3 RD2
    go_wp2_with fail
    refine (HRB.out A3 n c3 its _ RD3.out rfl).mono ?_
    rintro r w4 ⟨A4, c4, rfl, rd4, bel4⟩
    have BEL4 := Lib.hid (BEL3.out.trans (bel4.mono BEL3.out.size))
    have B4 := Lib.hid (B3.out.below bel4)
    have RD24 := Lib.hid (RD23.out.below bel4)
    have RD4 := Lib.hid rd4
    clear bel4 BEL3 B3 rd4 RD23 RD3
    go_wp2_with fail
    refine (HP.out B k e _ B4.out hke).mono ?_
    rintro r w5 ⟨A5, n5, c5, its5, rfl, rd5, hs5, bel5⟩
    obtain rfl : m = n5 := by rw [← rd5.len, ← said_length, hs5, HM.out]
    have BEL5 := Lib.hid (BEL4.out.trans (bel5.mono BEL4.out.size))
    have B5 := Lib.hid (B4.out.below bel5)
    have RD25 := Lib.hid (RD24.out.below bel5)
    have RD45 := Lib.hid (RD4.out.below bel5)
    have RD5 := Lib.hid rd5
    have HS5 := Lib.hid hs5
    clear bel5 BEL4 B4 rd5 hs5 RD24 RD4
    go_wp2_with fail
    refine (HRP.out B k e _ B5.out hke).mono ?_
    rintro r w6 ⟨A6, n6, c6, its6, rfl, rd6, hs6, bel6⟩
    obtain rfl : m = n6 := by rw [← rd6.len, ← said_length, hs6, HM.out]
    have BEL6 := Lib.hid (BEL5.out.trans (bel6.mono BEL5.out.size))
    have RD26 := Lib.hid (RD25.out.below bel6)
    have RD46 := Lib.hid (RD45.out.below bel6)
    have RD56 := Lib.hid (RD5.out.below bel6)
    have RD6 := Lib.hid rd6
    have HS6 := Lib.hid hs6
    have hm1 : m ≤ 1000000 := by omega
    clear bel6 BEL5 B5 rd6 hs6 RD25 RD45 RD5
    go_wp2_with fail
    refine (equal_same A2 A4 N N c2 c4 ys _ RD26.out RD46.out).mono ?_
    rintro r w7 ⟨rfl, rfl⟩
    go_wp2_with fail
    refine (own_any A5 m c5 its5 _ RD56.out hm1).mono ?_
    rintro r w8 ⟨v8, rfl, row8, bel8⟩
    obtain ⟨A8, c8, rfl, rd8, _⟩ := row8.reads
    rw [RD56.out.len] at rd8 ⊢
    have BEL8 := Lib.hid (BEL6.out.trans (bel8.mono BEL6.out.size))
    have RD68 := Lib.hid (RD6.out.below bel8)
    have RD8 := Lib.hid rd8
    clear bel8 BEL6 rd8 row8 RD6 RD26 RD46
    go_wp2_with fail
    refine (same_any A8 A6 m c8 c6 its5 its6 _ RD8.out RD68.out (HS5.out.trans HS6.out.symm) hm1).mono ?_
    rintro r w9 ⟨rfl, bel9⟩
    have BEL9 := Lib.hid (BEL8.out.trans (bel9.mono BEL8.out.size))
    clear bel9 BEL8
    go_wp2_with fail
    refine (dawake_any _).mono ?_
    rintro r w10 ⟨rfl, bel10⟩
    go_wp2
    go_ret
    exact ⟨rfl, BEL9.out.trans (bel10.mono BEL9.out.size)⟩
end Go.Proofs.Ytfgcbpchapkjbaa
