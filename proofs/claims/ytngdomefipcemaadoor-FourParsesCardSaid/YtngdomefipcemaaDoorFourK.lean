/-
  FourBack: the law's walk.
-/
import Derived.Test.YtngdomefipcemaaDoorFourJ
namespace Go.Proofs.YtngdomefipcemaaDoor
open Go.RowKit

/-- What stands behind the first test. -/
theorem text_nil : parseV [] = none := by decide +kernel

set_option maxRecDepth 100000 in
set_option maxHeartbeats 4000000 in
theorem fback_any (a : Int) (s : ByteArray) (hs : s.size ≤ maxLen) (w : World) (htab : Tab w) : Calls Tryd.prog 5 #[.int .i64 a, .string s] w fun r w' => r = .returned (.bool true) ∧ Below w.heap.size w w' := by
  obtain ⟨l, rfl⟩ : ∃ l, s = bs l := ⟨s.data.toList, (bs_of s).symm⟩
  have hsz : (bs l).size = l.length := rfl
  rw [hsz] at hs
  have HT := Lib.hid htab
  clear htab
  unfold maxLen at hs
  -- the first reading
  have first : ∃ (n e : Int), pvV (parseV (textV a)) = .tuple #[.int .i64 n, .int .i64 e] ∧ (textV a).length ≤ 1048576 ∧ (right a = true → e = 0 ∧ n = a) := by
    cases hr : right a with
    | false =>
      have hv : textV a = [] := by unfold textV; rw [hr]; rfl
      rw [hv, text_nil]
      exact ⟨_, _, rfl, by simp, fun h => by cases h⟩
    | true =>
      obtain ⟨h0, h1⟩ := right_spec hr
      obtain ⟨N, rfl⟩ := Int.eq_ofNat_of_zero_le h0
      have hN : N < 4294967296 := by omega
      have hv : textV (N : Int) = text N := by unfold textV; rw [hr]; rfl
      rw [hv, parse_text hN]
      exact ⟨_, _, rfl, by have := text_len hN; omega, fun _ => ⟨rfl, rfl⟩⟩
  obtain ⟨n, e, hne, hlt, hre⟩ := first
  obtain ⟨r0, hr0⟩ : ∃ r, right a = r := ⟨_, rfl⟩
  obtain ⟨T, hT⟩ : ∃ T, textV a = T := ⟨_, rfl⟩
  rw [hT] at hne hlt
  rw [hr0] at hre
  have HNE := Lib.hid hne
  have HR0 := Lib.hid hr0
  have HTV := Lib.hid hT
  have HRE := Lib.hid hre
  clear hne hr0 hT hre
  go_enter Tryd.func5, Tryd.ntmps5
  go_wp2_with fail
  refine (ftext_any a w HT.out).mono ?_
  rintro r w1 ⟨rfl, bel1⟩
  rw [HTV.out]
  have BEL1 := Lib.hid bel1
  clear bel1
  go_wp2_with fail
  refine (fparse_any T hlt w1).mono ?_
  rintro r w2 ⟨rfl, bel2⟩
  rw [HNE.out]
  have BEL2 := Lib.hid (BEL1.out.trans (bel2.mono BEL1.out.size))
  have T2 := Lib.hid (tab_below HT.out BEL2.out)
  clear bel2 BEL1
  by_cases h20 : 2000 < l.length
  · cases r0 with
    | false =>
      go_wp2_with (first
        | (go_at_call 9; refine (fright_any a _).mono ?_; rintro r w' ⟨rfl, rfl⟩; rw [HR0.out])
        | (go_at_call 17; refine (fawake_any _ T2.out).mono ?_; rintro r w' ⟨rfl, hb2⟩))
      go_ret
      exact ⟨rfl, BEL2.out.trans (hb2.mono BEL2.out.size)⟩
    | true =>
      obtain ⟨rfl, rfl⟩ := HRE.out rfl
      go_wp2_with (first
        | (go_at_call 9; refine (fright_any n _).mono ?_; rintro r w' ⟨rfl, rfl⟩; rw [HR0.out])
        | (go_at_call 17; refine (fawake_any _ T2.out).mono ?_; rintro r w' ⟨rfl, hb2⟩))
      go_ret
      exact ⟨rfl, BEL2.out.trans (hb2.mono BEL2.out.size)⟩
  · have h20' : l.length ≤ 1048576 := by omega
    obtain ⟨R, hR⟩ : ∃ R, parseV l = R := ⟨_, rfl⟩
    have HRR := Lib.hid hR
    clear hR
    cases r0 with
    | false =>
      go_wp2_with (go_at_call 9; refine (fright_any a _).mono ?_; rintro r w' ⟨rfl, rfl⟩; rw [HR0.out])
      refine (fparse_any l h20' w2).mono ?_
      rintro r w3 ⟨rfl, bel3⟩
      rw [HRR.out]
      have BEL3 := Lib.hid (BEL2.out.trans (bel3.mono BEL2.out.size))
      have T3 := Lib.hid (tab_below HT.out BEL3.out)
      clear bel3 BEL2
      cases R with
      | none =>
        rw [show pvV none = .tuple #[.int .i64 0, .int .i64 4] from rfl]
        go_wp2_with (go_at_call 17; refine (fawake_any _ T3.out).mono ?_; rintro r w' ⟨rfl, hb2⟩)
        go_ret
        exact ⟨rfl, BEL3.out.trans (hb2.mono BEL3.out.size)⟩
      | some m =>
        obtain ⟨hm, htx⟩ := text_parse HRR.out
        have htv := Lib.hid (show textV (m : Int) = l by
          unfold textV
          rw [show right (m : Int) = true by unfold right; simp; omega, if_pos rfl]
          exact htx)
        rw [show pvV (some m) = .tuple #[.int .i64 (m : Int), .int .i64 0] from rfl]
        clear htx
        go_wp2_with fail
        refine (ftext_any (m : Int) w3 T3.out).mono ?_
        rintro r w4 ⟨rfl, bel4⟩
        rw [htv.out]
        have BEL4 := Lib.hid (BEL3.out.trans (bel4.mono BEL3.out.size))
        have T4 := Lib.hid (tab_below HT.out BEL4.out)
        clear bel4
        go_wp2_with (go_at_call 17; refine (fawake_any _ T4.out).mono ?_; rintro r w' ⟨rfl, hb2⟩)
        go_ret
        exact ⟨rfl, BEL4.out.trans (hb2.mono BEL4.out.size)⟩
    | true =>
      obtain ⟨rfl, rfl⟩ := HRE.out rfl
      go_wp2_with (go_at_call 9; refine (fright_any n _).mono ?_; rintro r w' ⟨rfl, rfl⟩; rw [HR0.out])
      refine (fparse_any l h20' w2).mono ?_
      rintro r w3 ⟨rfl, bel3⟩
      rw [HRR.out]
      have BEL3 := Lib.hid (BEL2.out.trans (bel3.mono BEL2.out.size))
      have T3 := Lib.hid (tab_below HT.out BEL3.out)
      clear bel3 BEL2
      cases R with
      | none =>
        rw [show pvV none = .tuple #[.int .i64 0, .int .i64 4] from rfl]
        go_wp2_with (go_at_call 17; refine (fawake_any _ T3.out).mono ?_; rintro r w' ⟨rfl, hb2⟩)
        go_ret
        exact ⟨rfl, BEL3.out.trans (hb2.mono BEL3.out.size)⟩
      | some m =>
        obtain ⟨hm, htx⟩ := text_parse HRR.out
        have htv := Lib.hid (show textV (m : Int) = l by
          unfold textV
          rw [show right (m : Int) = true by unfold right; simp; omega, if_pos rfl]
          exact htx)
        rw [show pvV (some m) = .tuple #[.int .i64 (m : Int), .int .i64 0] from rfl]
        clear htx
        go_wp2_with fail
        refine (ftext_any (m : Int) w3 T3.out).mono ?_
        rintro r w4 ⟨rfl, bel4⟩
        rw [htv.out]
        have BEL4 := Lib.hid (BEL3.out.trans (bel4.mono BEL3.out.size))
        have T4 := Lib.hid (tab_below HT.out BEL4.out)
        clear bel4
        go_wp2_with (go_at_call 17; refine (fawake_any _ T4.out).mono ?_; rintro r w' ⟨rfl, hb2⟩)
        go_ret
        exact ⟨rfl, BEL4.out.trans (hb2.mono BEL4.out.size)⟩
end Go.Proofs.YtngdomefipcemaaDoor
