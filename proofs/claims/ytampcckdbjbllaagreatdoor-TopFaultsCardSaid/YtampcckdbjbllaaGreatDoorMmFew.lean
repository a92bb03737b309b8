/-
  Runs of the program that were looked at once. Printed by wip/gen/memoTexts.py.
-/
import Derived.Test.YtampcckdbjbllaaGreatDoorHc
set_option linter.unusedVariables false
set_option linter.unusedSectionVars false
set_option maxRecDepth 100000
namespace Go.Proofs.YtampcckdbjbllaaGreatDoor.Ev
noncomputable section
open Go.RowKit
def dgm : Memo := ⟨8, [.int .i64 167772161, .int .i64 134744072, .int .i64 5000, .int .i64 53, .int .i64 9, .complex .f64 0 0], [(0, some (.chan 0 #[] false 0 0 false))], 187, [(354, some (.cells #[.int .u8 69, .int .u8 0, .chan (some 1802), .chan (some 1806), .int .u8 0, .int .u8 0, .int .u8 0, .int .u8 0, .int .u8 9, .int .u8 17, .chan (some 106), .chan (some 110), .int .u8 10, .int .u8 0, .int .u8 0, .int .u8 1, .int .u8 8, .int .u8 8, .int .u8 8, .int .u8 8, .int .u8 19, .int .u8 136, .int .u8 0, .int .u8 53, .chan (some 522), .chan (some 526), .chan (some 42), .chan (some 46)] 5 (0, 1)))], 355, .chan (some 199284283511144505)⟩
theorem dgm_no [Given] (h : ¬ Xraw (tbl.getD 0 ⟨0, [], 0⟩) = 0) : MemoOK Tryz.prog dgm :=
  letI := kn0
  haveI : KnOK := kn0_ok
  memo_run (Tb := tbl) (nzJ_ok (j := 0) (b := false) rfl (decide_eq_false h).symm) (by kernel_rfl)
theorem dgm_yes [Given] (h : Xraw (tbl.getD 0 ⟨0, [], 0⟩) = 0) : MemoOK Tryz.prog dgm :=
  have hX : XX 0 = 65535 := XX_full (j := 0) rfl rfl h
  letI := knF 0
  haveI : KnOK := knF_ok hX
  haveI : Tbl tbl zk0 := tblG
  memo_run (Tb := tbl) (nzJ_ok (j := 0) (b := true) rfl (decide_eq_true h).symm) (by kernel_rfl)
theorem dgm_ok [Given] : MemoOK Tryz.prog dgm := by
  by_cases h : Xraw (tbl.getD 0 ⟨0, [], 0⟩) = 0
  · exact dgm_yes h
  · exact dgm_no h
def mkm : Memo := ⟨9, [.int .i64 151587081, .chan (some 3302), .chan (some 3238), .int .i64 0, .chan (some 485825809802592313)], [(863, some (.cells #[.int .u8 69, .int .u8 0, .chan (some 1802), .chan (some 1806), .int .u8 0, .int .u8 0, .int .u8 0, .int .u8 0, .int .u8 8, .int .u8 17, .chan (some 298), .chan (some 302), .int .u8 198, .int .u8 51, .int .u8 100, .int .u8 1, .int .u8 8, .int .u8 8, .int .u8 8, .int .u8 8, .int .u8 19, .int .u8 136, .int .u8 0, .int .u8 53, .chan (some 522), .chan (some 526), .chan (some 234), .chan (some 238)] 5 (0, 1)))], 874, [(927, some (.cells #[.chan (some 3310), .chan (some 3246), .chan (some 362), .chan (some 366), .int .u8 0, .int .u8 0, .int .u8 0, .int .u8 0, .int .u8 69, .int .u8 0, .chan (some 1802), .chan (some 1806), .int .u8 0, .int .u8 0, .int .u8 0, .int .u8 0, .int .u8 8, .int .u8 17, .chan (some 298), .chan (some 302), .int .u8 198, .int .u8 51, .int .u8 100, .int .u8 1, .int .u8 8, .int .u8 8, .int .u8 8, .int .u8 8, .int .u8 19, .int .u8 136, .int .u8 0, .int .u8 53, .chan (some 522), .chan (some 526), .chan (some 234), .chan (some 238)] 5 (0, 1)))], 932, .tuple #[.agg #[.int .i64 0, .int .i64 0, .int .i64 0, .int .i64 64, .int .i64 1, .int .i64 151587081, .int .i64 3325256705, .bool false, .bool false, .slice none 0 0, .chan (some 521854606821556297)], .int .i64 0]⟩
theorem mkm_ok [Given] : MemoOK Tryz.prog mkm :=
  letI := kn0
  haveI : KnOK := kn0_ok
  memo_run (Tb := tbl) nzN_ok (by kernel_rfl)
def bdm : Memo := ⟨10, [.agg #[.int .i64 0, .int .i64 0, .int .i64 0, .int .i64 64, .int .i64 1, .int .i64 151587081, .int .i64 3325256705, .bool false, .bool false, .slice none 0 0, .chan (some 521854606821556297)]], [(927, some (.cells #[.chan (some 3310), .chan (some 3246), .chan (some 362), .chan (some 366), .int .u8 0, .int .u8 0, .int .u8 0, .int .u8 0, .int .u8 69, .int .u8 0, .chan (some 1802), .chan (some 1806), .int .u8 0, .int .u8 0, .int .u8 0, .int .u8 0, .int .u8 8, .int .u8 17, .chan (some 298), .chan (some 302), .int .u8 198, .int .u8 51, .int .u8 100, .int .u8 1, .int .u8 8, .int .u8 8, .int .u8 8, .int .u8 8, .int .u8 19, .int .u8 136, .int .u8 0, .int .u8 53, .chan (some 522), .chan (some 526), .chan (some 234), .chan (some 238)] 5 (0, 1)))], 933, [(1028, some (.cells #[.int .u8 69, .int .u8 0, .chan (some 3594), .chan (some 3598), .int .u8 0, .int .u8 0, .int .u8 0, .int .u8 0, .int .u8 64, .int .u8 1, .chan (some 426), .chan (some 430), .int .u8 9, .int .u8 9, .int .u8 9, .int .u8 9, .int .u8 198, .int .u8 51, .int .u8 100, .int .u8 1, .chan (some 3310), .chan (some 3246), .chan (some 362), .chan (some 366), .int .u8 0, .int .u8 0, .int .u8 0, .int .u8 0, .int .u8 69, .int .u8 0, .chan (some 1802), .chan (some 1806), .int .u8 0, .int .u8 0, .int .u8 0, .int .u8 0, .int .u8 8, .int .u8 17, .chan (some 298), .chan (some 302), .int .u8 198, .int .u8 51, .int .u8 100, .int .u8 1, .int .u8 8, .int .u8 8, .int .u8 8, .int .u8 8, .int .u8 19, .int .u8 136, .int .u8 0, .int .u8 53, .chan (some 522), .chan (some 526), .chan (some 234), .chan (some 238)] 5 (0, 1)))], 1029, .tuple #[.chan (some 578712552117108849), .int .i64 0]⟩
theorem bdm_ok [Given] : MemoOK Tryz.prog bdm :=
  letI := kn0
  haveI : KnOK := kn0_ok
  memo_run (Tb := tbl) nzN_ok (by kernel_rfl)
def pam : Memo := ⟨12, [.chan (some 822469881948536945)], [(1461, some (.cells #[.int .u8 69, .int .u8 0, .chan (some 3594), .chan (some 3598), .int .u8 0, .int .u8 0, .int .u8 0, .int .u8 0, .int .u8 63, .int .u8 1, .chan (some 682), .chan (some 686), .int .u8 9, .int .u8 9, .int .u8 9, .int .u8 9, .int .u8 10, .int .u8 0, .int .u8 0, .int .u8 1, .chan (some 3310), .chan (some 3246), .chan (some 618), .chan (some 622), .int .u8 0, .int .u8 0, .int .u8 0, .int .u8 0, .int .u8 69, .int .u8 0, .chan (some 1802), .chan (some 1806), .int .u8 0, .int .u8 0, .int .u8 0, .int .u8 0, .int .u8 8, .int .u8 17, .chan (some 490), .chan (some 494), .int .u8 10, .int .u8 0, .int .u8 0, .int .u8 1, .int .u8 8, .int .u8 8, .int .u8 8, .int .u8 8, .int .u8 19, .int .u8 136, .int .u8 0, .int .u8 53, .chan (some 522), .chan (some 526), .chan (some 554), .chan (some 558)] 5 (0, 1)))], 1469, [(1474, some (.cells #[.chan (some 3310), .chan (some 3246), .chan (some 618), .chan (some 622), .int .u8 0, .int .u8 0, .int .u8 0, .int .u8 0, .int .u8 69, .int .u8 0, .chan (some 1802), .chan (some 1806), .int .u8 0, .int .u8 0, .int .u8 0, .int .u8 0, .int .u8 8, .int .u8 17, .chan (some 490), .chan (some 494), .int .u8 10, .int .u8 0, .int .u8 0, .int .u8 1, .int .u8 8, .int .u8 8, .int .u8 8, .int .u8 8, .int .u8 19, .int .u8 136, .int .u8 0, .int .u8 53, .chan (some 522), .chan (some 526), .chan (some 554), .chan (some 558)] 5 (0, 1)))], 1479, .tuple #[.agg #[.int .i64 0, .int .i64 0, .int .i64 0, .int .i64 63, .int .i64 1, .int .i64 151587081, .int .i64 167772161, .bool false, .bool false, .slice none 0 0, .chan (some 829788231343013961)], .int .i64 0]⟩
theorem pam_ok [Given] : MemoOK Tryz.prog pam :=
  letI := kn0
  haveI : KnOK := kn0_ok
  memo_run (Tb := tbl) nzN_ok (by kernel_rfl)
def icm : Memo := ⟨13, [.chan (some 829788231343013961)], [(1474, some (.cells #[.chan (some 3310), .chan (some 3246), .chan (some 618), .chan (some 622), .int .u8 0, .int .u8 0, .int .u8 0, .int .u8 0, .int .u8 69, .int .u8 0, .chan (some 1802), .chan (some 1806), .int .u8 0, .int .u8 0, .int .u8 0, .int .u8 0, .int .u8 8, .int .u8 17, .chan (some 490), .chan (some 494), .int .u8 10, .int .u8 0, .int .u8 0, .int .u8 1, .int .u8 8, .int .u8 8, .int .u8 8, .int .u8 8, .int .u8 19, .int .u8 136, .int .u8 0, .int .u8 53, .chan (some 522), .chan (some 526), .chan (some 554), .chan (some 558)] 5 (0, 1)))], 1480, [(1483, some (.cells #[.int .u8 69, .int .u8 0, .chan (some 1802), .chan (some 1806), .int .u8 0, .int .u8 0, .int .u8 0, .int .u8 0, .int .u8 8, .int .u8 17, .chan (some 490), .chan (some 494), .int .u8 10, .int .u8 0, .int .u8 0, .int .u8 1, .int .u8 8, .int .u8 8, .int .u8 8, .int .u8 8, .int .u8 19, .int .u8 136, .int .u8 0, .int .u8 53, .chan (some 522), .chan (some 526), .chan (some 554), .chan (some 558)] 5 (0, 1)))], 1484, .tuple #[.agg #[.chan (some 3302), .chan (some 3238), .int .i64 0, .chan (some 834854780923805753)], .int .i64 0]⟩
theorem icm_ok [Given] : MemoOK Tryz.prog icm :=
  letI := kn0
  haveI : KnOK := kn0_ok
  memo_run (Tb := tbl) nzN_ok (by kernel_rfl)
def qum : Memo := ⟨14, [.chan (some 834854780923805753)], [(1483, some (.cells #[.int .u8 69, .int .u8 0, .chan (some 1802), .chan (some 1806), .int .u8 0, .int .u8 0, .int .u8 0, .int .u8 0, .int .u8 8, .int .u8 17, .chan (some 490), .chan (some 494), .int .u8 10, .int .u8 0, .int .u8 0, .int .u8 1, .int .u8 8, .int .u8 8, .int .u8 8, .int .u8 8, .int .u8 19, .int .u8 136, .int .u8 0, .int .u8 53, .chan (some 522), .chan (some 526), .chan (some 554), .chan (some 558)] 5 (0, 1)))], 1485, [(1489, some (.cells #[.int .u8 19, .int .u8 136, .int .u8 0, .int .u8 53, .chan (some 522), .chan (some 526), .chan (some 554), .chan (some 558)] 5 (0, 1)))], 1491, .tuple #[.agg #[.int .i64 0, .int .i64 0, .int .i64 0, .int .i64 8, .int .i64 17, .int .i64 167772161, .int .i64 134744072, .bool false, .bool false, .slice none 0 0, .chan (some 838232480644333585)], .int .i64 0]⟩
theorem qum_ok [Given] : MemoOK Tryz.prog qum :=
  letI := kn0
  haveI : KnOK := kn0_ok
  memo_run (Tb := tbl) nzN_ok (by kernel_rfl)
def adgm : Memo := ⟨8, [.int .i64 167772161, .int .i64 134744072, .int .i64 5000, .int .i64 53, .int .i64 9, .slice none 0 0], [], 187, [(352, some (.cells #[.int .u8 69, .int .u8 0, .int .u8 0, .int .u8 28, .int .u8 0, .int .u8 0, .int .u8 0, .int .u8 0, .int .u8 9, .int .u8 17, .int .u8 151, .int .u8 193, .int .u8 10, .int .u8 0, .int .u8 0, .int .u8 1, .int .u8 8, .int .u8 8, .int .u8 8, .int .u8 8, .int .u8 19, .int .u8 136, .int .u8 0, .int .u8 53, .int .u8 0, .int .u8 8, .int .u8 210, .int .u8 16] 5 (0, 0)))], 353, .slice (some ⟨352, 0, none⟩) 28 28⟩
theorem adgm_ok [Given] : MemoOK Tryz.prog adgm :=
  letI := kn0
  haveI : KnOK := kn0_ok
  memo_run (Tb := tbl) nzN_ok (by kernel_rfl)
def adg2m : Memo := ⟨8, [.int .i64 134744072, .int .i64 3325256705, .int .i64 53, .int .i64 5000, .int .i64 9, .slice none 0 0], [], 875, [(1040, some (.cells #[.int .u8 69, .int .u8 0, .int .u8 0, .int .u8 28, .int .u8 0, .int .u8 0, .int .u8 0, .int .u8 0, .int .u8 9, .int .u8 17, .int .u8 119, .int .u8 141, .int .u8 8, .int .u8 8, .int .u8 8, .int .u8 8, .int .u8 198, .int .u8 51, .int .u8 100, .int .u8 1, .int .u8 0, .int .u8 53, .int .u8 19, .int .u8 136, .int .u8 0, .int .u8 8, .int .u8 177, .int .u8 220] 5 (0, 0)))], 1041, .slice (some ⟨1040, 0, none⟩) 28 28⟩
theorem adg2m_ok [Given] : MemoOK Tryz.prog adg2m :=
  letI := kn0
  haveI : KnOK := kn0_ok
  memo_run (Tb := tbl) nzN_ok (by kernel_rfl)
end
end Go.Proofs.YtampcckdbjbllaaGreatDoor.Ev
