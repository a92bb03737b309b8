/-
  dhcp: options' bytes.
-/
import Derived.Test.YtfgcbpchapkjbaaDhO
namespace Go.Proofs.Ytfgcbpchapkjbaa
open Go.RowKit

def good (e : Int × List UInt8) : Bool := fits2 e.1 && decide (e.2.length ≤ 65535)
def packE (e : Int × List UInt8) : List Int := two e.1 ++ two e.2.length ++ nums e.2
def packO (l : List (Int × List UInt8)) : List Int := l.flatMap packE
theorem packO_snoc (l : List (Int × List UInt8)) (e : Int × List UInt8) : packO (l ++ [e]) = packO l ++ packE e := by simp [packO]
theorem packE_length (e : Int × List UInt8) : (packE e).length = 4 + e.2.length := by simp [packE, two, nums_length]; omega

/-- What Build gives back. -/
def BuildP (w : World) (l : List (Int × List UInt8)) (r : Ending) (w' : World) : Prop :=
  (l.all good = true ∧ ∃ A' n' c', r = .returned (.tuple #[.slice A' n' c', .int .i64 0]) ∧ BReads w' A' n' (packO l) ∧ n' ≤ c' ∧ Below w.heap.size w w') ∨
  (l.all good = false ∧ r = .returned (.tuple #[.slice none 0 0, .int .i64 1]) ∧ Below w.heap.size w w')

theorem all_bad {its : List It} {k : Nat} {it : It} (h : its[k]? = some it) (hb : good (it.code, it.d) = false) : (said its).all good = false := by
  rw [List.all_eq_false]
  exact ⟨(it.code, it.d), List.mem_map.2 ⟨it, List.mem_iff_getElem?.2 ⟨k, h⟩, rfl⟩, by simp [hb]⟩

set_option maxRecDepth 100000 in
set_option maxHeartbeats 4000000 in
theorem build_any (A : Option Addr) (n c : Nat) (its : List It) (w : World) (h : ORd w A n its) (hn : n ≤ 100000) (hD : ∀ it ∈ its, it.n ≤ 1048576 ∧ -9223372036854775808 ≤ it.code ∧ it.code ≤ 9223372036854775807) :
    Calls Try.prog 30 #[.slice A n c] w (BuildP w (said its)) := by
  obtain ⟨i0, hi0, hz0, hz1, hz2⟩ := info_parts byte_info
  obtain rfl : its.length = n := h.len
  have H := Lib.hid h
  have HD := Lib.hid hD
  clear h hD
  go_enter Try.func30, Try.ntmps30
  go_wp2
  go_loopw [4, 9] (fun v i wr => ∃ (k : Nat) (A' : Option Addr) (m c' : Nat), i = .int .i64 k ∧ v = .slice A' m c' ∧ k ≤ its.length ∧ m ≤ k * 1048580 ∧ BReads wr A' m (packO (said (its.take k))) ∧ m ≤ c' ∧ (said (its.take k)).all good = true ∧ Below w.heap.size w wr) (fun _ i _ => its.length - (intOf i).toNat)
  case atStart => exact ⟨0, none, 0, 0, rfl, rfl, by omega, by omega, ⟨Reads.none_, fun _ => rfl⟩, by omega, rfl, Below.refl _ _⟩
  case round =>
    obtain ⟨k, A', m, c', rfl, rfl, hk, hm, hbr, hmc, hgood, hb⟩ := hrel
    by_cases hlt : k < its.length
    · obtain ⟨it, hit⟩ : ∃ x, its[k]? = some x := ⟨_, List.getElem?_eq_getElem hlt⟩
      have hmem := List.mem_iff_getElem?.2 ⟨k, hit⟩
      have H1 := H.out.below hb
      obtain ⟨b, o, rfl, hbl, hcells⟩ := H1.rd (by omega)
      obtain ⟨m0, m1⟩ := hcells k it hit
      obtain ⟨hd1, hd2, hd3⟩ := HD.out it hmem
      have hdl : it.d.length = it.n := by have := (H1.ok it hmem).1.len; rwa [nums_length] at this
      have HIT := Lib.hid (H1.ok it hmem).1
      have kb := Blk.new wr 65 #[.int .i64 it.code, .slice it.A it.n it.c]
      have hbt : Below wr.heap.size wr (wr.alloc (.cells #[.int .i64 it.code, .slice it.A it.n it.c] 65)) := (Below.refl _ _).alloc (Nat.le_refl _) _
      have hww : w.heap.size ≤ wr.heap.size := hb.size
      have htk : said (its.take (k + 1)) = said (its.take k) ++ [(it.code, it.d)] := by rw [List.take_add_one, hit, said_append]; rfl
      have hgd : good (it.code, it.d) = (fits2 it.code && decide (it.n ≤ 65535)) := by unfold good; rw [hdl]
      have HTK := Lib.hid htk
      have HI := Lib.hid hit
      have HB := Lib.hid hb
      have HBT := Lib.hid hbt
      have HBR := Lib.hid hbr
      have HG := Lib.hid hgood
      have HGD := Lib.hid hgd
      have KB := Lib.hid kb
      clear H1 hcells hb hit hbr hgood htk hgd hmem kb hbt
      cases hf : fits2 it.code with
      | false =>
        have hbad := Lib.hid (all_bad HI.out (by rw [HGD.out, hf]; rfl))
        go_wp2_with (go_at_call 43; refine (befits_two it.code hd2 hd3 _).mono ?_; rintro r w' ⟨rfl, rfl⟩; rw [hf])
        go_ret2
        exact .inr ⟨hbad.out, rfl, HB.out.trans (HBT.out.mono hww)⟩
      | true =>
        by_cases hbig : it.n ≤ 65535
        · have hd : decide ((65535 : Int) < (it.n : Int)) = false := by simp; omega
          obtain ⟨f0, f1⟩ : 0 ≤ it.code ∧ it.code < 65536 := by unfold fits2 at hf; simpa using hf
          go_wp2_with (go_at_call 43; refine (befits_two it.code hd2 hd3 _).mono ?_; rintro r w' ⟨rfl, rfl⟩; rw [hf])
          refine (put_two A' m c' _ it.code f0 f1 _ (HBR.out.below HBT.out) (by omega)).mono ?_
          rintro r w2 ⟨v2, rfl, own2, bel2⟩
          obtain ⟨A2, c2, rfl, rd2, _⟩ := own_breads own2
          have KB2 := Lib.hid (KB.out.on bel2)
          have BEL2 := Lib.hid (HBT.out.trans (bel2.mono HBT.out.size))
          have RD2 := Lib.hid rd2
          have c20 := KB2.out.cell 0
          have c21 := KB2.out.cell 1
          simp only [List.getElem?_toArray, List.getElem?_cons_zero, List.getElem?_cons_succ] at c20 c21
          clear own2 bel2 rd2 HBR KB
          go_wp2_with fail
          refine (put_two A2 (m + 2) c2 _ it.n (by omega) (by omega) _ RD2.out (by omega)).mono ?_
          rintro r w3 ⟨v3, rfl, own3, bel3⟩
          obtain ⟨A3, c3, rfl, _⟩ := own_breads own3
          have KB3 := Lib.hid (KB2.out.on bel3)
          have BEL3 := Lib.hid (BEL2.out.trans (bel3.mono BEL2.out.size))
          have hs2 := BEL2.out.size
          have hs3 := bel3.size
          have c30 := KB3.out.cell 0
          have c31 := KB3.out.cell 1
          simp only [List.getElem?_toArray, List.getElem?_cons_zero, List.getElem?_cons_succ] at c30 c31
          have OWN3 := Lib.hid own3
          have SRC := Lib.hid (HIT.out.below BEL3.out)
          clear own3 bel3 RD2 KB2 c20 c21
          go_wp2_with (at_builtin
                       refine wpList_append_any _ rfl (.tmp 32) (.tmp 34) _ rfl w2.heap.size 5 i0 _ 1 1 Try.underlying22 hi0 hz0 hz1 hz2 rfl (by omega) (.slice A3 (m + 2 + 2) c3) (m + 2 + 2) _ rfl
                         OWN3.out w3.heap.size it.A it.n it.c ((nums it.d).map (Value.int .u8)) rfl SRC.out.1 (by intro u hu; obtain ⟨x, _, rfl⟩ := List.mem_map.1 hu; rfl) (by simp only [maxLen]; omega) (by omega) hs3 ?_
                       intro v4 w4 own4 grow4 _
                       rw [← List.map_append] at own4
                       obtain ⟨A4, c4, rfl, rd4, hc4⟩ := own_breads own4)
          have hb4 := (app_others (Below.refl _ _) OWN3.out hs3 grow4).2
          refine ⟨⟨k + 1, A4, m + 2 + 2 + it.n, c4, by go_num, rfl, hlt, by omega, ?_, hc4, ?_, HB.out.trans ((BEL3.out.mono hww).trans (hb4.mono (by omega)))⟩, by simp [intOf]; omega⟩
          · rw [HTK.out, packO_snoc]
            unfold packE
            simp only
            rw [hdl]
            simpa [List.append_assoc] using rd4
          · rw [HTK.out, List.all_append, HG.out]
            simp [HGD.out, hf, hbig]
        · have hd : decide ((65535 : Int) < (it.n : Int)) = true := by simp; omega
          have hbad := Lib.hid (all_bad HI.out (by rw [HGD.out, hf]; simp; omega))
          go_wp2_with (go_at_call 43; refine (befits_two it.code hd2 hd3 _).mono ?_; rintro r w' ⟨rfl, rfl⟩; rw [hf])
          go_ret2
          exact .inr ⟨hbad.out, rfl, HB.out.trans (HBT.out.mono hww)⟩
    · obtain rfl : k = its.length := by omega
      rw [List.take_length] at hbr hgood
      have HG := Lib.hid hgood
      go_wp2
      go_ret2
      exact .inl ⟨HG.out, A', m, c', rfl, hbr, hmc, hb⟩
end Go.Proofs.Ytfgcbpchapkjbaa
