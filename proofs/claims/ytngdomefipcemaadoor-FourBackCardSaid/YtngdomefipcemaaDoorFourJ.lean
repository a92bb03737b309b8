/-
  four: awake; the three laws' walks.
-/
import Derived.Test.YtngdomefipcemaaDoorFourI
namespace Go.Proofs.YtngdomefipcemaaDoor
open Go.RowKit

abbrev Tab (w : World) : Prop := Lib.TabIs Tryd.prog w "internal/strconv.uint64pow10" .u64 Lib.pow10Tab

def aw : List UInt8 := [49, 57, 50, 46, 48, 46, 50, 46, 49]
theorem aw_text : text 3221225985 = aw := by decide +kernel
theorem aw_parse : parseV aw = some 3221225985 := by rw [← aw_text]; exact parse_text (by omega)

set_option maxRecDepth 100000 in
set_option maxHeartbeats 2000000 in
theorem fawake_any (w : World) (htab : Tab w) : Calls Tryd.prog 17 #[] w fun r w' => r = .returned (.bool true) ∧ Below w.heap.size w w' := by
  have HT := Lib.hid htab
  have hp := fparse_any aw (by decide) w
  rw [aw_parse] at hp
  have HP := Lib.hid (show Calls Tryd.prog 18 #[.string (bs aw)] w fun r w' => r = .returned (.tuple #[.int .i64 3221225985, .int .i64 0]) ∧ Below w.heap.size w w' from hp)
  have heq : (bs aw).toList = [49, 57, 50, 46, 48, 46, 50, 46, 49] := by rw [ByteArray.toList_eq]; rfl
  have htv : textV 3221225985 = aw := by
    unfold textV
    rw [show right 3221225985 = true by decide, if_pos rfl]
    exact aw_text
  have HTV := Lib.hid htv
  clear htab hp htv
  go_enter Tryd.func17, Tryd.ntmps17
  go_wp2_with fail
  refine HP.out.mono ?_
  rintro r w1 ⟨rfl, bel1⟩
  have T1 := Lib.hid (tab_below HT.out bel1)
  have BEL1 := Lib.hid bel1
  clear bel1
  go_wp2_with fail
  refine (ftext_any 3221225985 w1 T1.out).mono ?_
  rintro r w2 ⟨rfl, bel2⟩
  rw [HTV.out]
  have BEL2 := Lib.hid (BEL1.out.trans (bel2.mono BEL1.out.size))
  clear bel2 BEL1
  go_wp2_with fail
  refine (fhost_any 3221225985 w2).mono ?_
  rintro r w3 ⟨rfl, bel3⟩
  rw [show hostV 3221225985 = true by decide]
  have BEL3 := Lib.hid (BEL2.out.trans (bel3.mono BEL2.out.size))
  clear bel3 BEL2
  go_wp2_with fail
  refine (fpriv_any 167772161 w3).mono ?_
  rintro r w4 ⟨rfl, bel4⟩
  rw [show privV 167772161 = true by decide]
  go_wp2
  go_ret
  exact ⟨rfl, BEL3.out.trans (bel4.mono BEL3.out.size)⟩

set_option maxRecDepth 100000 in
set_option maxHeartbeats 2000000 in
theorem ftells_any (a : Int) (w : World) (htab : Tab w) : Calls Tryd.prog 3 #[.int .i64 a] w fun r w' => r = .returned (.bool true) ∧ Below w.heap.size w w' := by
  have HT := Lib.hid htab
  obtain ⟨R1, hR1⟩ : ∃ R, right a = R := ⟨_, rfl⟩
  obtain ⟨R2, hR2⟩ : ∃ R, textV a = R := ⟨_, rfl⟩
  obtain ⟨R3, hR3⟩ : ∃ R, hostV a = R := ⟨_, rfl⟩
  obtain ⟨R4, hR4⟩ : ∃ R, privV a = R := ⟨_, rfl⟩
  have H1 := Lib.hid hR1
  have H2 := Lib.hid hR2
  have H3 := Lib.hid hR3
  have H4 := Lib.hid hR4
  clear htab hR1 hR2 hR3 hR4
  go_enter Tryd.func3, Tryd.ntmps3
  go_wp2_with (first
    | (go_at_call 9; refine (fright_any a _).mono ?_; rintro r w' ⟨rfl, rfl⟩; rw [H1.out])
    | (go_at_call 10; refine (rright_any a _).mono ?_; rintro r w' ⟨rfl, rfl⟩; rw [H1.out]))
  refine (ftext_any a w HT.out).mono ?_
  rintro r w1 ⟨rfl, bel1⟩
  rw [H2.out]
  have BEL1 := Lib.hid bel1
  clear bel1
  go_wp2_with (go_at_call 12; refine (rtext_any a _).mono ?_; rintro r w' ⟨rfl, rfl⟩; rw [H2.out])
  refine (fhost_any a _).mono ?_
  rintro r w2 ⟨rfl, bel2⟩
  rw [H3.out]
  have BEL2 := Lib.hid (BEL1.out.trans (bel2.mono BEL1.out.size))
  clear bel2 BEL1
  go_wp2_with (go_at_call 14; refine (rhost_any a _).mono ?_; rintro r w' ⟨rfl, rfl⟩; rw [H3.out])
  refine (fpriv_any a _).mono ?_
  rintro r w3 ⟨rfl, bel3⟩
  rw [H4.out]
  have BEL3 := Lib.hid (BEL2.out.trans (bel3.mono BEL2.out.size))
  clear bel3 BEL2
  go_wp2_with (go_at_call 16; refine (rpriv_any a _).mono ?_; rintro r w' ⟨rfl, rfl⟩; rw [H4.out])
  refine (fawake_any _ (tab_below HT.out BEL3.out)).mono ?_
  rintro r w4 ⟨rfl, bel4⟩
  go_wp2
  go_ret
  exact ⟨rfl, BEL3.out.trans (bel4.mono BEL3.out.size)⟩

set_option maxRecDepth 100000 in
set_option maxHeartbeats 2000000 in
theorem fparses_any (s : ByteArray) (hs : s.size ≤ maxLen) (w : World) (htab : Tab w) : Calls Tryd.prog 4 #[.string s] w fun r w' => r = .returned (.bool true) ∧ Below w.heap.size w w' := by
  obtain ⟨l, rfl⟩ : ∃ l, s = bs l := ⟨s.data.toList, (bs_of s).symm⟩
  have hsz : (bs l).size = l.length := rfl
  rw [hsz] at hs
  have HT := Lib.hid htab
  clear htab
  by_cases h20 : 2000 < l.length
  · unfold maxLen at hs
    go_enter Tryd.func4, Tryd.ntmps4
    go_wp2_with (go_at_call 17; refine (fawake_any _ HT.out).mono ?_; rintro r w' ⟨rfl, hb2⟩)
    go_ret
    exact ⟨rfl, hb2⟩
  · obtain ⟨⟨n, e⟩, hne⟩ : ∃ q : Int × Int, pvV (parseV l) = .tuple #[.int .i64 q.1, .int .i64 q.2] := ⟨⟨_, _⟩, rfl⟩
    have HNE := Lib.hid hne
    clear hne
    go_enter Tryd.func4, Tryd.ntmps4
    go_wp2_with fail
    refine (fparse_any l (by omega) w).mono ?_
    rintro r w1 ⟨rfl, bel1⟩
    rw [HNE.out]
    have BEL1 := Lib.hid bel1
    clear bel1
    go_wp2_with fail
    refine (rparse_any l (by omega) _).mono ?_
    rintro r w2 ⟨rfl, rfl⟩
    rw [HNE.out]
    go_wp2_with fail
    refine (fawake_any _ (tab_below HT.out BEL1.out)).mono ?_
    rintro r w4 ⟨rfl, bel4⟩
    go_wp2
    go_ret
    exact ⟨rfl, BEL1.out.trans (bel4.mono BEL1.out.size)⟩
end Go.Proofs.YtngdomefipcemaaDoor
