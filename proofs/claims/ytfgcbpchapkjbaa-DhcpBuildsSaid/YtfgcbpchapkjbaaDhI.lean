/-
  dhcp: the name of the AFTR in options, by the document.
-/
import Derived.Test.YtfgcbpchapkjbaaDhH
namespace Go.Proofs.Ytfgcbpchapkjbaa
open Go.RowKit

/-- What was found among the first k options. -/
def Found (its : List It) (k : Nat) (v : Value) : Prop :=
  (v = .int .i64 (-1) ∧ (its.take k).filter (pick true) = []) ∨ ∃ (j : Nat) (e : It), v = .int .i64 j ∧ its[j]? = some e ∧ (its.take k).filter (pick true) = [e]

set_option maxRecDepth 100000 in
set_option maxHeartbeats 4000000 in
theorem raftr_any (A : Option Addr) (n c : Nat) (its : List It) (w : World) (h : ORd w A n its) (hn : n ≤ 1000000) (hD : ∀ it ∈ its, it.n ≤ 1048576) :
    Calls Try.prog 25 #[.slice A n c] w fun r w' => r = .returned (aftrV (aftr (said its))) ∧ w = w' := by
  obtain rfl : its.length = n := h.len
  have hsf := said_filter its
  obtain ⟨R, hR⟩ : ∃ R, aftr (said its) = R := ⟨_, rfl⟩
  rw [hR]
  have H := Lib.hid h
  have HSF := Lib.hid hsf
  have HR := Lib.hid hR
  have HD := Lib.hid hD
  clear h hsf hR hD
  go_enter Try.func25, Try.ntmps25
  go_wp2
  go_loopw [4, 5] (fun fd i wr => ∃ (k : Nat), i = .int .i64 k ∧ k ≤ its.length ∧ Found its k fd ∧ w = wr) (fun _ i _ => its.length - (intOf i).toNat)
  case atStart => exact ⟨0, rfl, by omega, .inl ⟨rfl, rfl⟩, rfl⟩
  case round =>
    obtain ⟨k, rfl, hk, hfd, rfl⟩ := hrel
    by_cases hlt : k < its.length
    · obtain ⟨it, hit⟩ : ∃ x, its[k]? = some x := ⟨_, List.getElem?_eq_getElem hlt⟩
      obtain ⟨b, o, rfl, hbl, hcells⟩ := H.out.rd (by omega)
      obtain ⟨m0, m1⟩ := hcells k it hit
      have htk : (its.take (k + 1)).filter (pick true) = (its.take k).filter (pick true) ++ (if pick true it then [it] else []) := by
        rw [List.take_add_one, hit, List.filter_append]
        simp [List.filter_cons]
      have HTK := Lib.hid htk
      have HI := Lib.hid hit
      clear hcells hit htk
      by_cases hp : pick true it = true
      · have hp' : (it.code == 64) = true := by unfold pick at hp; exact eq_of_beq hp
        have hne : decide (it.code = 64) = true := by simpa using hp'
        rw [if_pos hp] at HTK
        rcases hfd with ⟨rfl, hf0⟩ | ⟨j, e, rfl, hj, hf0⟩
        · have HF := Lib.hid hf0
          clear hf0
          go_wp2
          exact ⟨⟨k + 1, by go_num, hlt, .inr ⟨k, it, rfl, HI.out, by rw [HTK.out, HF.out]; rfl⟩, trivial⟩, by simp [intOf]; omega⟩
        · have HF := Lib.hid hf0
          clear hf0 hj
          have hj0 : (0 : Int) ≤ (j : Int) := by omega
          have h9 : R = ([], 9) := by
            rw [← HR.out]
            refine aftr_two (e := (e.code, e.d)) (f := (it.code, it.d)) (r := said ((its.drop (k + 1)).filter (pick true))) ?_
            rw [HSF.out]
            have : its.filter (pick true) = (its.take (k + 1)).filter (pick true) ++ (its.drop (k + 1)).filter (pick true) := by rw [← List.filter_append, List.take_append_drop]
            rw [this, HTK.out, HF.out]
            rfl
          have H9 := Lib.hid h9
          clear h9
          go_wp2
          go_ret2
          exact ⟨by rw [H9.out]; rfl, rfl⟩
      · have hp' : (it.code == 64) = false := by
          have : pick true it = false := by simpa using hp
          unfold pick at this
          simpa using this
        have hne : decide (it.code = 64) = false := by simpa using hp'
        rw [if_neg hp, List.append_nil] at HTK
        have HFD := Lib.hid hfd
        clear hfd
        go_wp2
        refine ⟨⟨k + 1, by go_num, hlt, ?_, trivial⟩, by simp [intOf]; omega⟩
        have := HFD.out
        unfold Found at this ⊢
        rwa [HTK.out]
    · obtain rfl : k = its.length := by omega
      rw [Found, List.take_length] at hfd
      rcases hfd with ⟨rfl, hf0⟩ | ⟨j, e, rfl, hj, hf0⟩
      · have H8 := Lib.hid (show R = ([], 8) by rw [← HR.out]; exact aftr_none (by rw [HSF.out, hf0]; rfl))
        clear hf0
        go_wp2
        go_ret2
        exact ⟨by rw [H8.out]; rfl, rfl⟩
      · have hR1 := Lib.hid (HR.out.symm.trans (aftr_one (e := (e.code, e.d)) (by rw [HSF.out, hf0]; rfl)))
        have hjl : j < its.length := (List.getElem?_eq_some_iff.1 hj).1
        obtain ⟨b, o, rfl, hbl, hcells⟩ := H.out.rd (by omega)
        obtain ⟨m0, m1⟩ := hcells j e hj
        have hmem := List.mem_iff_getElem?.2 ⟨j, hj⟩
        obtain ⟨hbe, hce⟩ := H.out.ok e hmem
        have hen := HD.out e hmem
        have hel : e.d.length = e.n := by have := hbe.len; rwa [nums_length] at this
        have HBE := Lib.hid hbe
        have hj0 : ¬ ((j : Int) < 0) := by omega
        have hlen2 := take_len e.d
        clear hcells hbe hf0 hj hmem
        go_wp2_with fail
        refine (rtake_any e.A e.n e.c e.d _ HBE.out hce hen).mono ?_
        rintro r w3 ⟨rfl, rfl⟩
        simp only [hel] at hR1
        rw [hel] at hlen2
        obtain ⟨⟨t1, t2, t3⟩, ht⟩ : ∃ r, takeFrom e.d 0 [] = r := ⟨_, rfl⟩
        rw [ht] at hR1 hlen2 ⊢
        unfold tkV
        simp only at hR1 hlen2 ⊢
        have hnil := bs_nil t1
        clear ht
        by_cases h3 : t3 = 0
        · subst h3
          have hl3 := hlen2 rfl
          have hR2 := Lib.hid (hR1.out.trans (if_neg (by simp)))
          by_cases h2 : t2 < e.n
          · have hR3 := Lib.hid (show R = ([], 4) from hR2.out.trans (if_pos (.inr h2)))
            have hd : decide ((t2 : Int) = (e.n : Int)) = false := by simp; omega
            go_wp2
            go_ret2
            exact ⟨by rw [hR3.out]; rfl, rfl⟩
          · obtain rfl : t2 = e.n := by omega
            by_cases h1 : t1 = []
            · subst h1
              have hR3 := Lib.hid (show R = ([], 4) from hR2.out.trans (if_pos (.inl rfl)))
              go_wp2
              go_ret2
              exact ⟨by rw [hR3.out]; rfl, rfl⟩
            · have hn1 : (t1 == []) = false := by simpa using h1
              rw [hn1] at hnil
              have hR3 := Lib.hid (hR2.out.trans (if_neg (by simp [h1])))
              go_wp2
              go_ret2
              exact ⟨by rw [hR3.out]; rfl, rfl⟩
        · have hR2 := Lib.hid (hR1.out.trans (if_pos h3))
          go_wp2
          go_ret2
          exact ⟨by rw [hR2.out]; rfl, rfl⟩
end Go.Proofs.Ytfgcbpchapkjbaa
