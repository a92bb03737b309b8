/-
  dhcp: own (options as the document has them).
-/
import Derived.Test.YtfgcbpchapkjbaaDhB
namespace Go.Proofs.Ytfgcbpchapkjbaa
open Go.RowKit

theorem reads_two (w : World) (t : TypeId) (u v : Value) : Reads (w.alloc (.cells #[u, v] t)) (w.heap.size + 1) 2 (some ⟨w.heap.size, 0, none⟩) 1 [u, v] :=
  ⟨rfl, fun _ => ⟨_, rfl, by simp, fun j x hx => by
    have hb := Blk.new w t #[u, v]
    have hj : j < 2 := by simpa using (List.getElem?_eq_some_iff.1 hx).1
    rcases (show j = 0 ∨ j = 1 by omega) with rfl | rfl
    · obtain rfl : u = x := by simpa using hx
      exact hb.cell 0
    · obtain rfl : v = x := by simpa using hx
      exact hb.cell 1⟩⟩
theorem one2 {e : It} : ∀ u ∈ e.cells, u.oneCell' = true := by
  intro u hu
  simp [It.cells] at hu
  rcases hu with rfl | rfl <;> rfl

set_option maxRecDepth 100000 in
set_option maxHeartbeats 2000000 in
theorem own_any (A : Option Addr) (n c : Nat) (its : List It) (w : World) (h : ORd w A n its) (hn : n ≤ 1000000) :
    Calls Try.prog 26 #[.slice A n c] w fun r w' => ∃ v, r = .returned v ∧ ORow w.heap.size 70 w' v its ∧ Below w.heap.size w w' := by
  obtain ⟨i0, hi0, hz0, hz1, hz2⟩ := info_parts ropt_info
  obtain rfl : its.length = n := h.len
  have H := Lib.hid h
  clear h
  go_enter Try.func26, Try.ntmps26
  go_wp2
  go_loopw [3, 8] (fun s i wr => ∃ (k : Nat), i = .int .i64 k ∧ k ≤ its.length ∧ ORow w.heap.size 70 wr s (its.take k) ∧ Below w.heap.size w wr) (fun _ i _ => its.length - (intOf i).toNat)
  case atStart => exact ⟨0, rfl, by omega, ORow.nil _ _ _, Below.refl _ _⟩
  case round =>
    obtain ⟨k, rfl, hk, hrow, hb⟩ := hrel
    by_cases hlt : k < its.length
    · obtain ⟨it, hit⟩ : ∃ x, its[k]? = some x := ⟨_, List.getElem?_eq_getElem hlt⟩
      have H1 := H.out.below hb
      obtain ⟨b, o, rfl, hbl, hcells⟩ := H1.rd (by omega)
      obtain ⟨m0, m1⟩ := hcells k it hit
      obtain ⟨hr0, hc0⟩ := H.out.ok it (List.mem_iff_getElem?.2 ⟨k, hit⟩)
      obtain ⟨A1, c1, rfl, _⟩ := hrow.reads
      have htl : (its.take k).length = k := by simp; omega
      rw [htl]
      have kb := Blk.new wr 65 #[.int .i64 0, .slice none 0 0]
      have hbt : Below wr.heap.size wr ((wr.alloc (.cells #[.int .i64 it.code, .slice it.A it.n it.c] 65)).alloc (.cells #[.int .i64 it.code, .slice it.A it.n it.c] 70)) := ((Below.refl _ _).alloc (Nat.le_refl _) _).alloc (by simp) _
      have hww : w.heap.size ≤ wr.heap.size := hb.size
      have ROW := Lib.hid (hrow.below hbt)
      have HB := Lib.hid hb
      have HI := Lib.hid hit
      have DA := Lib.hid (Dat.old hr0 (Nat.le_refl _) (hb.trans (hbt.mono hww)))
      rw [htl] at ROW
      have OWN := ROW.out.own
      rw [htl] at OWN
      have RD : Reads ((wr.alloc (.cells #[.int .i64 it.code, .slice it.A it.n it.c] 65)).alloc (.cells #[.int .i64 it.code, .slice it.A it.n it.c] 70)) (wr.heap.size + 1 + 1) 2 (some ⟨wr.heap.size + 1, 0, none⟩) 1 it.cells := by
        have := reads_two (wr.alloc (.cells #[.int .i64 it.code, .slice it.A it.n it.c] 65)) 70 (.int .i64 it.code) (.slice it.A it.n it.c)
        simp only [World.size_alloc] at this
        exact this
      have hsz2 : w.heap.size ≤ ((wr.alloc (.cells #[.int .i64 it.code, .slice it.A it.n it.c] 65)).alloc (.cells #[.int .i64 it.code, .slice it.A it.n it.c] 70)).heap.size := by simp; omega
      have OWN := Lib.hid OWN
      have RD := Lib.hid RD
      clear H1 hcells hb hit hrow hr0
      go_wp2_with (at_builtin
                   refine wpList_append_any _ rfl (.tmp 12) (.tmp 18) _ rfl w.heap.size 70 i0 _ 2 32 Try.underlying47 hi0 hz0 hz1 hz2 rfl (by omega) (.slice A1 k c1) k (rows (its.take k)) rfl
                     OWN.out (wr.heap.size + 1 + 1) (some ⟨wr.heap.size + 1, 0, none⟩) 1 1 it.cells rfl RD.out one2 (by simp only [maxLen]; omega) (by omega) hsz2 ?_
                   intro v5 w5 own5 grow5 _)
      have hb5 := (app_others (Below.refl _ _) ROW.out.own (by simp; omega) grow5).2
      refine ⟨⟨k + 1, by go_num, hlt, ?_, HB.out.trans ((hbt.mono hww).trans hb5)⟩, by simp [intOf]; omega⟩
      rw [List.take_add_one, HI.out]
      exact ORow.snoc ROW.out grow5 (by rw [htl]; exact own5) (by decide) ⟨DA.out, hc0⟩
    · obtain rfl : k = its.length := by omega
      rw [List.take_length] at hrow
      go_wp2
      go_ret
      exact ⟨_, rfl, hrow, hb⟩
end Go.Proofs.Ytfgcbpchapkjbaa
