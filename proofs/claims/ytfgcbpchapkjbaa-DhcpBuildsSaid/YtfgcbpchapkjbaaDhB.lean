/-
  dhcp: far (whether options are too many).
-/
import Derived.Test.YtfgcbpchapkjbaaDhA
namespace Go.Proofs.Ytfgcbpchapkjbaa
open Go.RowKit

/-- What far tells. -/
def FarP (w : World) (n : Nat) (its : List It) (r : Ending) (w' : World) : Prop := ∃ b : Bool, r = .returned (.bool b) ∧ Below w.heap.size w w' ∧ (b = false → n ≤ 30 ∧ ∀ it ∈ its, it.n ≤ 1000)

set_option maxRecDepth 100000 in
set_option maxHeartbeats 2000000 in
theorem far_any (A : Option Addr) (n c : Nat) (its : List It) (w : World) (h : ORd w A n its) (hn : n ≤ 9223372036854775807) (hD : ∀ it ∈ its, it.n ≤ 9223372036854775807) :
    Calls Try.prog 22 #[.slice A n c] w (FarP w n its) := by
  obtain rfl : its.length = n := h.len
  have H := Lib.hid h
  clear h
  go_enter Try.func22, Try.ntmps22
  go_wp2
  go_loopw [3, 8] (fun s i wr => ∃ (k S : Nat), i = .int .i64 k ∧ s = .int .i64 S ∧ k ≤ its.length ∧ k ≤ 30 ∧ S ≤ k * 1000 ∧ (∀ it ∈ its.take k, it.n ≤ 1000) ∧ Below w.heap.size w wr) (fun _ i _ => its.length - (intOf i).toNat)
  case atStart => exact ⟨0, 0, rfl, rfl, by omega, by omega, by omega, by simp, Below.refl _ _⟩
  case round =>
    obtain ⟨k, S, rfl, rfl, hk, hk30, hS, hall, hb⟩ := hrel
    by_cases hlt : k < its.length
    · obtain ⟨it, hit⟩ : ∃ x, its[k]? = some x := ⟨_, List.getElem?_eq_getElem hlt⟩
      have H1 := H.out.below hb
      obtain ⟨b, o, rfl, hbl, hcells⟩ := H1.rd (by omega)
      obtain ⟨m0, m1⟩ := hcells k it hit
      have hd := hD it (List.mem_iff_getElem?.2 ⟨k, hit⟩)
      have kb := Blk.new wr 65 #[.int .i64 0, .slice none 0 0]
      have HB := Lib.hid hb
      have HI := Lib.hid hit
      have HA := Lib.hid hall
      clear H1 hcells hb hit hall
      have hbt : Below wr.heap.size wr (wr.alloc (.cells #[.int .i64 it.code, .slice it.A it.n it.c] 65)) := (Below.refl _ _).alloc (Nat.le_refl _) _
      by_cases h30 : k < 30
      · have q30 : decide ((30 : Int) ≤ (k : Int)) = false := by simp; omega
        by_cases h10 : it.n ≤ 1000
        · have q10 : decide ((1000 : Int) < (it.n : Int)) = false := by simp; omega
          go_wp2
          refine ⟨⟨k + 1, S + it.n, by go_num, by go_num, by omega, by omega, by omega, ?_, HB.out.trans (hbt.mono HB.out.size)⟩, by simp [intOf]; omega⟩
          intro x hx
          rw [List.take_add_one, HI.out] at hx
          rcases List.mem_append.1 hx with hx | hx
          · exact HA.out x hx
          · obtain rfl : x = it := by simpa using hx
            exact h10
        · have q10 : decide ((1000 : Int) < (it.n : Int)) = true := by simp; omega
          go_wp2
          go_ret
          exact ⟨true, rfl, HB.out.trans (hbt.mono HB.out.size), fun e => by cases e⟩
      · have q30 : decide ((30 : Int) ≤ (k : Int)) = true := by simp; omega
        go_wp2
        go_ret
        exact ⟨true, rfl, HB.out.trans (hbt.mono HB.out.size), fun e => by cases e⟩
    · obtain rfl : k = its.length := by omega
      rw [List.take_length] at hall
      have HA := Lib.hid hall
      clear hall
      by_cases h5 : S ≤ 5000
      · have q5 : decide ((5000 : Int) < (S : Int)) = false := by simp; omega
        go_wp2
        go_ret
        exact ⟨false, rfl, hb, fun _ => ⟨hk30, HA.out⟩⟩
      · have q5 : decide ((5000 : Int) < (S : Int)) = true := by simp; omega
        go_wp2
        go_ret
        exact ⟨true, rfl, hb, fun e => by cases e⟩
end Go.Proofs.Ytfgcbpchapkjbaa
