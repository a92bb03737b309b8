/-
  dhcp: the name of the AFTR in options.
-/
import Derived.Test.YtfgcbpchapkjbaaDhF
import Derived.WalkMore
import Derived.Scope
namespace Go.Proofs.Ytfgcbpchapkjbaa
open Go.RowKit

def aftr (l : List (Int × List UInt8)) : List UInt8 × Int :=
  match l.filter (fun e => e.1 == 64) with
  | [] => ([], 8)
  | [e] => if (takeFrom e.2 0 []).2.2 ≠ 0 then ([], (takeFrom e.2 0 []).2.2) else if (takeFrom e.2 0 []).1 = [] ∨ (takeFrom e.2 0 []).2.1 < e.2.length then ([], 4) else ((takeFrom e.2 0 []).1, 0)
  | _ => ([], 9)
def aftrV (r : List UInt8 × Int) : Value := .tuple #[.string (bs r.1), .int .i64 r.2]
theorem said_filter (its : List It) : (said its).filter (fun e => e.1 == 64) = said (its.filter (pick true)) := by
  unfold said
  rw [List.filter_map]
  congr 2
  funext e
  simp [pick, Function.comp]
theorem aftr_none {l : List (Int × List UInt8)} (h : l.filter (fun e => e.1 == 64) = []) : aftr l = ([], 8) := by unfold aftr; rw [h]
theorem aftr_one {l : List (Int × List UInt8)} {e : Int × List UInt8} (h : l.filter (fun e => e.1 == 64) = [e]) : aftr l = if (takeFrom e.2 0 []).2.2 ≠ 0 then ([], (takeFrom e.2 0 []).2.2) else if (takeFrom e.2 0 []).1 = [] ∨ (takeFrom e.2 0 []).2.1 < e.2.length then ([], 4) else ((takeFrom e.2 0 []).1, 0) := by
  unfold aftr; rw [h]
theorem aftr_two {l : List (Int × List UInt8)} {e f : Int × List UInt8} {r : List (Int × List UInt8)} (h : l.filter (fun e => e.1 == 64) = e :: f :: r) : aftr l = ([], 9) := by unfold aftr; rw [h]
theorem take_len (d : List UInt8) (he : (takeFrom d 0 []).2.2 = 0) : (takeFrom d 0 []).2.1 ≤ d.length := by
  obtain ⟨L, _, _, h, _⟩ := take_found d d.length 0 [] (by omega) (by omega) (by simp [packB]) (by simp) (by omega) (by simpa [jn_nil] using he)
  simpa [jn_nil] using h
theorem bs_nil (l : List UInt8) : ((bs l).toList == []) = (l == []) := by rw [ByteArray.toList_eq, bs_data]

set_option maxRecDepth 100000 in
set_option maxHeartbeats 4000000 in
theorem aftr_any (A : Option Addr) (n c : Nat) (its : List It) (w : World) (h : ORd w A n its) (hn : n ≤ 1000000) (hD : ∀ it ∈ its, it.n ≤ 1048576) :
    Calls Try.prog 24 #[.slice A n c] w fun r w' => r = .returned (aftrV (aftr (said its))) ∧ Below w.heap.size w w' := by
  have hsf := said_filter its
  obtain ⟨R, hR⟩ : ∃ R, aftr (said its) = R := ⟨_, rfl⟩
  have hFl : ∀ x ∈ its.filter (pick true), x ∈ its := fun x hx => (List.mem_filter.1 hx).1
  rw [hR]
  have H := Lib.hid h
  clear h
  go_enter Try.func24, Try.ntmps24
  go_wp2_with fail
  refine (named_any A n c true w).mono ?_
  rintro r w1 ⟨rfl, hw1⟩
  have bel1 : Below w.heap.size w w1 := by rw [← hw1]; exact ((Below.refl _ _).alloc (Nat.le_refl _) _).alloc (by simp) _
  have c1 : w1.cell? ⟨w.heap.size, 0, none⟩ = some (.slice A n c) := by rw [← hw1]; exact ((Blk.new w 42 #[.slice A n c]).alloc _).cell 0
  have c2 : w1.cell? ⟨w.heap.size + 1, 0, none⟩ = some (.bool true) := by
    rw [← hw1]
    have := (Blk.new (w.alloc (.cells #[.slice A n c] 42)) 4 #[.bool true]).cell 0
    simp only [World.size_alloc] at this
    exact this
  clear hw1
  have C1 := Lib.hid c1
  have C2 := Lib.hid c2
  have BEL1 := Lib.hid bel1
  clear c1 c2 bel1
  go_wp2_with fail
  refine (ocollect_any w.heap.size (w.heap.size + 1) n c A its true w1 (H.out.below BEL1.out) hn C1.out C2.out).mono ?_
  rintro r w2 ⟨v, rfl, row2, bel2⟩
  have BEL2 := Lib.hid (BEL1.out.trans (bel2.mono BEL1.out.size))
  obtain ⟨F, hF⟩ : ∃ F, its.filter (pick true) = F := ⟨_, rfl⟩
  rw [hF] at row2 hsf hFl
  obtain ⟨A2, c2, rfl, rd2, _⟩ := row2.reads
  have RD2 := Lib.hid rd2
  clear row2 rd2 bel2 BEL1 C1 C2 hF
  rcases F with _ | ⟨e, _ | ⟨f, F⟩⟩
  · have HR := Lib.hid (show R = ([], 8) by rw [← hR]; exact aftr_none hsf)
    clear hsf hR
    simp only [List.length_nil]
    go_wp2
    go_ret2
    exact ⟨by rw [HR.out]; rfl, BEL2.out⟩
  · have HR := Lib.hid (hR.symm.trans (aftr_one hsf))
    clear hsf hR
    simp only [List.length_cons, List.length_nil, Nat.zero_add] at RD2 ⊢
    obtain ⟨g, o, rfl, hg, hcells⟩ := RD2.out.rd (by omega)
    obtain ⟨m0, m1⟩ := hcells 0 e rfl
    simp only [Nat.zero_mul, Nat.add_zero] at m0 m1
    obtain ⟨hbe, hce⟩ := RD2.out.ok e (by simp)
    have hen := hD e (hFl e (by simp))
    have hel : e.d.length = e.n := by have := hbe.len; rwa [nums_length] at this
    have HBE := Lib.hid hbe
    clear hcells hbe
    go_wp2_with fail
    refine (ntake_any e.A e.n e.c e.d _ HBE.out hce hen).mono ?_
    rintro r w3 ⟨rfl, bel3⟩
    have d1 : w3.cell? ⟨g, o + 1, none⟩ = some (.slice e.A e.n e.c) := (bel3.cell (p := ⟨g, o + 1, none⟩) hg).trans m1
    have BEL3 := Lib.hid (BEL2.out.trans (bel3.mono BEL2.out.size))
    simp only [hel] at HR
    obtain ⟨⟨t1, t2, t3⟩, ht⟩ : ∃ r, takeFrom e.d 0 [] = r := ⟨_, rfl⟩
    rw [ht] at HR ⊢
    unfold tkV
    simp only at HR ⊢
    have hnil := bs_nil t1
    clear m0 m1 bel3 BEL2 ht
    by_cases h3 : t3 = 0
    · subst h3
      have HR := Lib.hid (HR.out.trans (if_neg (by simp)))
      by_cases h1 : t1 = []
      · subst h1
        have HR4 := Lib.hid (show R = ([], 4) from HR.out.trans (if_pos (.inl rfl)))
        go_wp2
        go_ret2
        exact ⟨by rw [HR4.out]; rfl, BEL3.out⟩
      · have hn1 : (t1 == []) = false := by simpa using h1
        rw [hn1] at hnil
        by_cases h2 : t2 < e.n
        · have HR := Lib.hid (HR.out.trans (if_pos (.inr h2)))
          have hd : decide ((t2 : Int) < (e.n : Int)) = true := by simp; omega
          go_wp2
          go_ret2
          exact ⟨by rw [HR.out]; rfl, BEL3.out⟩
        · have HR := Lib.hid (HR.out.trans (if_neg (by simp [h1]; omega)))
          have hd : decide ((t2 : Int) < (e.n : Int)) = false := by simp; omega
          go_wp2
          go_ret2
          exact ⟨by rw [HR.out]; rfl, BEL3.out⟩
    · have HR := Lib.hid (HR.out.trans (if_pos h3))
      go_wp2
      go_ret2
      exact ⟨by rw [HR.out]; rfl, BEL3.out⟩
  · have HR := Lib.hid (show R = ([], 9) by rw [← hR]; exact aftr_two hsf)
    clear hsf hR
    have hl : (e :: f :: F).length = F.length + 2 := by simp
    rw [hl] at RD2 ⊢
    go_wp2
    go_ret2
    exact ⟨by rw [HR.out]; rfl, BEL2.out⟩
end Go.Proofs.Ytfgcbpchapkjbaa
