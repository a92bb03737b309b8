/-
  dhcp: options' bytes, by the document.
-/
import Derived.Test.YtfgcbpchapkjbaaDhP
import Derived.Deep.RegionHeld3
namespace Go.Proofs.Ytfgcbpchapkjbaa
open Go.RowKit

/-- A call, in a region that is walked by hand. -/
theorem step_call {P : Program} {ops : Array Oper} {o : Oper} {a : Act} {w : World} {K : Act → World → Prop} {Q : Exit → Act → World → Prop} {E : Prop} (hgd : o.guard = none) (f : Nat) (args : Array Operand) (types : Array TypeId)
    (ho : o.op = .call { callee := .value (.func f), args := args, argTypes := types }) (vals : Array Value) (hv : args.map a.eval = vals) (eg : ∀ args w, (callFunc f args).run P w = .ok (.enter f args) w)
    (h : Calls P f vals w fun r w' => ∃ v, r = .returned v ∧ K (a.put o.dst v) w') : if Region.wanted o (yielded ops a.tmps) = true then Oper.wp P o a w K Q else E := by
  have hw : Region.wanted o (yielded ops a.tmps) = true := by simp [Region.wanted, hgd]
  rw [if_pos hw]
  unfold Oper.wp execOp
  have he : a.eval (.func f) = .func (.func f) #[] #[] := rfl
  simp only [ho, resolve, invoke, Sem.run_bind, he, hv, Deferred.ofValue, Sem.run_pure, Result.andThen_ok, Array.append_empty, Array.empty_append, eg]
  refine h.mono ?_
  rintro r w' ⟨v, rfl, hk⟩
  exact hk

set_option maxRecDepth 1000000 in
set_option maxHeartbeats 4000000 in
theorem rbuild_any (A : Option Addr) (n c : Nat) (its : List It) (w : World) (h : ORd w A n its) (hn : n ≤ 100000) (hD : ∀ it ∈ its, it.n ≤ 1048576) :
    Calls Try.prog 32 #[.slice A n c] w (BuildP w (said its)) := by
  obtain ⟨i0, hi0, hz0, hz1, hz2⟩ := info_parts byte_info
  obtain rfl : its.length = n := h.len
  have H := Lib.hid h
  have HD := Lib.hid hD
  clear h hD
  go_enter Try.func32, Try.ntmps32
  go_wp2
  go_loopw [4, 5] (fun v i wr => ∃ (k : Nat) (A' : Option Addr) (m c' : Nat), i = .int .i64 k ∧ v = .slice A' m c' ∧ k ≤ its.length ∧ m ≤ k * 1048580 ∧ BReads wr A' m (packO (said (its.take k))) ∧ m ≤ c' ∧ (said (its.take k)).all good = true ∧ Below w.heap.size w wr) (fun _ i _ => its.length - (intOf i).toNat)
  case atStart => exact ⟨0, none, 0, 0, rfl, rfl, by omega, by omega, ⟨Reads.none_, fun _ => rfl⟩, by omega, rfl, Below.refl _ _⟩
  case round =>
    obtain ⟨k, A', m, c', rfl, rfl, hk, hm, hbr, hmc, hgood, hb⟩ := hrel
    by_cases hlt : k < its.length
    · obtain ⟨it, hit⟩ : ∃ x, its[k]? = some x := ⟨_, List.getElem?_eq_getElem hlt⟩
      have hmem := List.mem_iff_getElem?.2 ⟨k, hit⟩
      have H1 := H.out.below hb
      obtain ⟨b, o, rfl, hbl, hcells⟩ := H1.rd (by omega)
      obtain ⟨m0, m1⟩ := hcells k it hit
      have hd1 := HD.out it hmem
      have hdl : it.d.length = it.n := by have := (H1.ok it hmem).1.len; rwa [nums_length] at this
      have HIT := Lib.hid (H1.ok it hmem).1
      have hww : w.heap.size ≤ wr.heap.size := hb.size
      have htk : said (its.take (k + 1)) = said (its.take k) ++ [(it.code, it.d)] := by rw [List.take_add_one, hit, said_append]; rfl
      have hgd : good (it.code, it.d) = (fits2 it.code && decide (it.n ≤ 65535)) := by unfold good; rw [hdl]
      have HTK := Lib.hid htk
      have HI := Lib.hid hit
      have HB := Lib.hid hb
      have HBR := Lib.hid hbr
      have HG := Lib.hid hgood
      have HGD := Lib.hid hgd
      have hk0 : (0 : Int) ≤ (k : Int) := by omega
      have hlt' : (k : Int) < (its.length : Int) := by omega
      clear H1 hcells hb hit hbr hgood htk hgd hmem
      cases hf : fits2 it.code with
      | false =>
        have hbad := Lib.hid (all_bad HI.out (by rw [HGD.out, hf]; rfl))
        go_wp2_with (go_at_call 46; refine (rfits_two it.code _).mono ?_; rintro r w' ⟨rfl, rfl⟩; rw [hf])
        go_ret2
        exact .inr ⟨hbad.out, rfl, HB.out⟩
      | true =>
        by_cases hbig : it.n ≤ 65535
        · have hd : decide ((65535 : Int) < (it.n : Int)) = false := by simp; omega
          obtain ⟨f0, f1⟩ : 0 ≤ it.code ∧ it.code < 65536 := by unfold fits2 at hf; simpa using hf
          go_wp2_with (go_at_call 46; refine (rfits_two it.code _).mono ?_; rintro r w' ⟨rfl, rfl⟩; rw [hf])
          refine wp_region_held_drew (S := fun w' : World => w'.cell? ⟨b, o + k * 2, none⟩ = some (.int .i64 it.code) ∧ w'.cell? ⟨b, o + k * 2 + 1, none⟩ = some (.slice it.A it.n it.c)) (by kernel_rfl) ⟨m0, m1⟩ (fun H0 => ?_)
          refine wpAnyH_take (i := 0) (v := .slice A' m c') rfl (by kernel_rfl) (by kernel_rfl) (by kernel_rfl) (fun _ _ _ h => h) (.inl ⟨rfl, fun w hS => by obtain ⟨m0, m1⟩ := hS; go_simp⟩) H0 ?_
          simp only [Act.put, List.getElem_toArray, List.getElem_cons_zero, List.setIfInBounds_toArray, List.set_cons_zero, List.set_cons_succ]
          refine wpAnyH_take (i := 1) (v := .slice (some ⟨b, o, none⟩) its.length c) rfl (by kernel_rfl) (by kernel_rfl) (by kernel_rfl) (fun _ _ _ h => h) (.inl ⟨rfl, fun w hS => by obtain ⟨m0, m1⟩ := hS; go_simp⟩) H0 ?_
          simp only [Act.put, List.getElem_toArray, List.getElem_cons_succ, List.getElem_cons_zero, List.setIfInBounds_toArray, List.set_cons_zero, List.set_cons_succ]
          refine wpAnyH_take (i := 2) (v := .int .i64 k) rfl (by kernel_rfl) (by kernel_rfl) (by kernel_rfl) (fun _ _ _ h => h) (.inl ⟨rfl, fun w hS => by obtain ⟨m0, m1⟩ := hS; go_simp⟩) H0 ?_
          simp only [Act.put, List.getElem_toArray, List.getElem_cons_succ, List.getElem_cons_zero, List.setIfInBounds_toArray, List.set_cons_zero, List.set_cons_succ]
          refine wpAnyH_take (i := 3) (v := .pointer (some ⟨b, o + k * 2, none⟩)) rfl (by kernel_rfl) (by kernel_rfl) (by kernel_rfl) (fun _ _ _ h => h) (.inl ⟨rfl, fun w hS => by obtain ⟨m0, m1⟩ := hS; go_simp⟩) H0 ?_
          simp only [Act.put, List.getElem_toArray, List.getElem_cons_succ, List.getElem_cons_zero, List.setIfInBounds_toArray, List.set_cons_zero, List.set_cons_succ]
          refine wpAnyH_take (i := 4) (v := .pointer (some ⟨b, o + k * 2, none⟩)) rfl (by kernel_rfl) (by kernel_rfl) (by kernel_rfl) (fun _ _ _ h => h) (.inl ⟨rfl, fun w hS => by obtain ⟨m0, m1⟩ := hS; go_simp⟩) H0 ?_
          simp only [Act.put, List.getElem_toArray, List.getElem_cons_succ, List.getElem_cons_zero, List.setIfInBounds_toArray, List.set_cons_zero, List.set_cons_succ]
          refine wpAnyH_take (i := 5) (v := .int .i64 it.code) rfl (by kernel_rfl) (by kernel_rfl) (by kernel_rfl) (fun _ _ _ h => h) (.inl ⟨rfl, fun w hS => by obtain ⟨m0, m1⟩ := hS; go_simp⟩) H0 ?_
          simp only [Act.put, List.getElem_toArray, List.getElem_cons_succ, List.getElem_cons_zero, List.setIfInBounds_toArray, List.set_cons_zero, List.set_cons_succ]
          refine wpAnyH_take (i := 7) (v := .slice (some ⟨b, o, none⟩) its.length c) rfl (by kernel_rfl) (by kernel_rfl) (by kernel_rfl) (fun _ _ _ h => h) (.inl ⟨rfl, fun w hS => by obtain ⟨m0, m1⟩ := hS; go_simp⟩) H0 ?_
          simp only [Act.put, List.getElem_toArray, List.getElem_cons_succ, List.getElem_cons_zero, List.setIfInBounds_toArray, List.set_cons_zero, List.set_cons_succ]
          refine wpAnyH_take (i := 8) (v := .int .i64 k) rfl (by kernel_rfl) (by kernel_rfl) (by kernel_rfl) (fun _ _ _ h => h) (.inl ⟨rfl, fun w hS => by obtain ⟨m0, m1⟩ := hS; go_simp⟩) H0 ?_
          simp only [Act.put, List.getElem_toArray, List.getElem_cons_succ, List.getElem_cons_zero, List.setIfInBounds_toArray, List.set_cons_zero, List.set_cons_succ]
          refine wpAnyH_take (i := 9) (v := .pointer (some ⟨b, o + k * 2, none⟩)) rfl (by kernel_rfl) (by kernel_rfl) (by kernel_rfl) (fun _ _ _ h => h) (.inl ⟨rfl, fun w hS => by obtain ⟨m0, m1⟩ := hS; go_simp⟩) H0 ?_
          simp only [Act.put, List.getElem_toArray, List.getElem_cons_succ, List.getElem_cons_zero, List.setIfInBounds_toArray, List.set_cons_zero, List.set_cons_succ]
          refine wpAnyH_take (i := 10) (v := .pointer (some ⟨b, o + k * 2 + 1, none⟩)) rfl (by kernel_rfl) (by kernel_rfl) (by kernel_rfl) (fun _ _ _ h => h) (.inl ⟨rfl, fun w hS => by obtain ⟨m0, m1⟩ := hS; go_simp⟩) H0 ?_
          simp only [Act.put, List.getElem_toArray, List.getElem_cons_succ, List.getElem_cons_zero, List.setIfInBounds_toArray, List.set_cons_zero, List.set_cons_succ]
          refine wpAnyH_take (i := 11) (v := .slice it.A it.n it.c) rfl (by kernel_rfl) (by kernel_rfl) (by kernel_rfl) (fun _ _ _ h => h) (.inl ⟨rfl, fun w hS => by obtain ⟨m0, m1⟩ := hS; go_simp⟩) H0 ?_
          simp only [Act.put, List.getElem_toArray, List.getElem_cons_succ, List.getElem_cons_zero, List.setIfInBounds_toArray, List.set_cons_zero, List.set_cons_succ]
          refine wpAnyH_take (i := 12) (v := .int .i64 it.n) rfl (by kernel_rfl) (by kernel_rfl) (by kernel_rfl) (fun _ _ _ h => h) (.inl ⟨rfl, fun w hS => by obtain ⟨m0, m1⟩ := hS; go_simp⟩) H0 ?_
          simp only [Act.put, List.getElem_toArray, List.getElem_cons_succ, List.getElem_cons_zero, List.setIfInBounds_toArray, List.set_cons_zero, List.set_cons_succ]
          refine wpAnyH_ready (rs := [6]) (by kernel_rfl) (by simp) ?_
          refine AllReadyH.cons rfl (fun KK hK => ?_) AllReadyH.nil
          refine step_call rfl 47 #[.tmp 28, .tmp 33, .const (.int .i64 2)] #[22, 3, 3] rfl #[.slice A' m c', .int .i64 it.code, .int .i64 2] (by simp [Act.eval]) (enters_of Try.func47 (by kernel_rfl) rfl) ?_
          refine (rput_two A' m c' _ it.code f0 f1 _ (show BReads wr.drew A' m _ from HBR.out) (by omega)).mono ?_
          rintro r w2 ⟨v2, rfl, own2, bel2⟩
          obtain ⟨A2, c2, rfl, rd2, _⟩ := own_breads own2
          have BEL2 := Lib.hid (show Below wr.heap.size wr w2 from ⟨bel2.os, bel2.tape, bel2.output, bel2.size, bel2.block⟩)
          have RD2 := Lib.hid rd2
          have m02 := (BEL2.out.cell (p := ⟨b, o + k * 2, none⟩) hbl).trans m0
          have m12 := (BEL2.out.cell (p := ⟨b, o + k * 2 + 1, none⟩) hbl).trans m1
          clear own2 bel2 rd2
          refine ⟨_, rfl, hK.out _ _ ⟨m02, m12⟩ (fun _ => ?_)⟩
          clear hK KK
          simp only [Act.put, List.getElem_toArray, List.getElem_cons_succ, List.getElem_cons_zero, List.setIfInBounds_toArray, List.set_cons_zero, List.set_cons_succ]
          refine wpAnyH_ready (rs := [13]) (by kernel_rfl) (by simp) ?_
          refine AllReadyH.cons rfl (fun KK hK => ?_) AllReadyH.nil
          refine step_call rfl 47 #[.tmp 34, .tmp 40, .const (.int .i64 2)] #[22, 3, 3] rfl #[.slice A2 (m + 2) c2, .int .i64 it.n, .int .i64 2] (by simp [Act.eval]) (enters_of Try.func47 (by kernel_rfl) rfl) ?_
          refine (rput_two A2 (m + 2) c2 _ it.n (by omega) (by omega) _ RD2.out (by omega)).mono ?_
          rintro r w3 ⟨v3, rfl, own3, bel3⟩
          obtain ⟨A3, c3, rfl, _⟩ := own_breads own3
          have hs2 := BEL2.out.size
          have hs3 := bel3.size
          have BEL3 := Lib.hid (BEL2.out.trans (bel3.mono hs2))
          have OWN3 := Lib.hid own3
          have m03 := (BEL3.out.cell (p := ⟨b, o + k * 2, none⟩) hbl).trans m0
          have m13 := (BEL3.out.cell (p := ⟨b, o + k * 2 + 1, none⟩) hbl).trans m1
          clear own3 bel3 RD2
          refine ⟨_, rfl, hK.out _ _ ⟨m03, m13⟩ (fun _ => ?_)⟩
          clear hK KK
          simp only [Act.put, List.getElem_toArray, List.getElem_cons_succ, List.getElem_cons_zero, List.setIfInBounds_toArray, List.set_cons_zero, List.set_cons_succ]
          refine wpAnyH_take (i := 14) (v := .slice A3 (m + 2 + 2) c3) rfl (by kernel_rfl) (by kernel_rfl) (by kernel_rfl) (fun _ _ _ h => h) (.inl ⟨rfl, fun w hS => by go_simp⟩) ⟨m03, m13⟩ ?_
          simp only [Act.put, List.getElem_toArray, List.getElem_cons_succ, List.getElem_cons_zero, List.setIfInBounds_toArray, List.set_cons_zero, List.set_cons_succ]
          refine wpAnyH_done (by kernel_rfl) ?_ _
          clear m0 m1 m02 m12 H0
          have SRC := Lib.hid (HIT.out.below BEL3.out)
          go_wp2_with (at_builtin
                       refine wpList_append_any _ rfl (.tmp 42) (.tmp 47) _ rfl w2.heap.size 5 i0 _ 1 1 Try.underlying22 hi0 hz0 hz1 hz2 rfl (by omega) (.slice A3 (m + 2 + 2) c3) (m + 2 + 2) _ rfl
                         OWN3.out w3.heap.size it.A it.n it.c ((nums it.d).map (Value.int .u8)) rfl SRC.out.1 (by intro u hu; obtain ⟨x, _, rfl⟩ := List.mem_map.1 hu; rfl) (by simp only [maxLen]; omega) (by omega) hs3 ?_
                       intro v4 w4 own4 grow4 _
                       rw [← List.map_append] at own4
                       obtain ⟨A4, c4, rfl, rd4, hc4⟩ := own_breads own4)
          have hb4 := (app_others (Below.refl _ _) OWN3.out hs3 grow4).2
          refine ⟨⟨k + 1, A4, m + 2 + 2 + it.n, c4, by go_num, rfl, hlt, by omega, ?_, hc4, ?_, HB.out.trans ((BEL3.out.mono hww).trans (hb4.mono (by omega)))⟩, by simp [intOf]; omega⟩
          · rw [HTK.out, packO_snoc]
            unfold packE
            simp only
            rw [hdl]
            simpa [List.append_assoc] using rd4
          · rw [HTK.out, List.all_append, HG.out]
            simp [HGD.out, hf, hbig]
        · have hd : decide ((65535 : Int) < (it.n : Int)) = true := by simp; omega
          have hbad := Lib.hid (all_bad HI.out (by rw [HGD.out, hf]; simp; omega))
          go_wp2_with (go_at_call 46; refine (rfits_two it.code _).mono ?_; rintro r w' ⟨rfl, rfl⟩; rw [hf])
          go_ret2
          exact .inr ⟨hbad.out, rfl, HB.out⟩
    · obtain rfl : k = its.length := by omega
      rw [List.take_length] at hbr hgood
      have HG := Lib.hid hgood
      go_wp2
      go_ret2
      exact .inl ⟨HG.out, A', m, c', rfl, hbr, hmc, hb⟩
end Go.Proofs.Ytfgcbpchapkjbaa
