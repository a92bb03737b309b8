/-
  dhcp: Same (whether two lists say the same).
-/
import Derived.Test.YtfgcbpchapkjbaaDhC
import Derived.Deep.QuietTactic
import Derived.BigQuiet
namespace Go.Proofs.Ytfgcbpchapkjbaa
open Go.RowKit

set_option maxRecDepth 100000 in
set_option maxHeartbeats 4000000 in
theorem same_any (A A' : Option Addr) (n c c' : Nat) (its its' : List It) (w : World) (h : ORd w A n its) (h' : ORd w A' n its') (hs : said its = said its') (hn : n ≤ 1000000) :
    Calls Try.prog 29 #[.slice A n c, .slice A' n c'] w fun r w' => r = .returned (.bool true) ∧ Below w.heap.size w w' := by
  obtain rfl : its.length = n := h.len
  have hll : its'.length = its.length := h'.len
  have H := Lib.hid h
  have H' := Lib.hid h'
  have HS := Lib.hid hs
  clear h h' hs
  go_enter Try.func29, Try.ntmps29
  go_wp2
  go_loopw [5] (fun i wr => ∃ (k : Nat), i = .int .i64 k ∧ k ≤ its.length ∧ Below w.heap.size w wr) (fun i _ => its.length - (intOf i).toNat)
  case atStart => exact ⟨0, rfl, by omega, Below.refl _ _⟩
  case round =>
    obtain ⟨k, rfl, hk, hb⟩ := hrel
    by_cases hlt : k < its.length
    · obtain ⟨it, hit⟩ : ∃ x, its[k]? = some x := ⟨_, List.getElem?_eq_getElem hlt⟩
      obtain ⟨it', hit'⟩ : ∃ x, its'[k]? = some x := ⟨_, List.getElem?_eq_getElem (by omega)⟩
      have hsk : (it.code, it.d) = (it'.code, it'.d) := by
        have h1 : (said its)[k]? = some (it.code, it.d) := by simp [said, hit]
        have h2 : (said its')[k]? = some (it'.code, it'.d) := by simp [said, hit']
        rw [HS.out, h2] at h1
        exact (Option.some.inj h1).symm
      have H1 := H.out.below hb
      have H1' := H'.out.below hb
      obtain ⟨b, o, rfl, hbl, hcells⟩ := H1.rd (by omega)
      obtain ⟨m0, m1⟩ := hcells k it hit
      obtain ⟨b', o', rfl, hbl', hcells'⟩ := H1'.rd (by omega)
      obtain ⟨m0', m1'⟩ := hcells' k it' hit'
      obtain ⟨hr0, hc0⟩ := H1.ok it (List.mem_iff_getElem?.2 ⟨k, hit⟩)
      obtain ⟨hr0', hc0'⟩ := H1'.ok it' (List.mem_iff_getElem?.2 ⟨k, hit'⟩)
      injection hsk with hs1 hs2
      have cv1 := fun q : Nat => run_convert_reads (P := Try.prog) (w := wr.drewN q) (c := it.c) Try.underlying22 Try.underlying5 Try.underlying9 (show BReads (wr.drewN q) it.A it.n (nums it.d) from hr0)
      have cv2 := fun q : Nat => run_convert_reads (P := Try.prog) (w := wr.drewN q) (c := it'.c) Try.underlying22 Try.underlying5 Try.underlying9 (show BReads (wr.drewN q) it'.A it'.n (nums it'.d) from hr0')
      rw [← hs2] at cv2
      rw [← hs1] at m0'
      obtain ⟨S, hS⟩ : ∃ S, strOfNums (nums it.d) = S := ⟨_, rfl⟩
      rw [hS] at cv1 cv2
      have hlt' : ((k : Nat) : Int) < (its.length : Int) := by omega
      have hk0 : (0 : Int) ≤ (k : Int) := by omega
      have HB := Lib.hid hb
      clear H1 H1' hcells hcells' hb hit hit' hr0 hr0' hs1 hs2 hS
      go_wp2_with fail
      go_quiet (fail)
      go_wp2
      exact ⟨⟨k + 1, by go_num, hlt, below_drewN HB.out nq⟩, by simp [intOf]; omega⟩
    · obtain rfl : k = its.length := by omega
      go_wp2
      go_ret
      exact ⟨rfl, hb⟩
end Go.Proofs.Ytfgcbpchapkjbaa
