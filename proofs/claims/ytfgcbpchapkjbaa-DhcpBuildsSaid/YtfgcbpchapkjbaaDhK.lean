/-
  dhcp: awake; an argument that is a slice of options; DhcpNames: the walk.
-/
import Derived.Test.YtfgcbpchapkjbaaDhJ
import Derived.Test.YtfgcbpchapkjbaaRows4
import Derived.Deep.Slices
namespace Go.Proofs.Ytfgcbpchapkjbaa
open Go.RowKit

theorem aftr_with (l : List (Int × List UInt8)) (s : List UInt8) (hf : fits (labels s)) (h0 : s ≠ []) : aftr (withName l s) = (s, 0) := by
  have h1 : (withName l s).filter (fun e => e.1 == 64) = [(64, packB (labels s) ++ [0])] := by
    unfold withName
    rw [List.filter_append, List.filter_filter]
    have : l.filter (fun a => (a.1 == 64) && !(a.1 == 64)) = [] := by
      rw [List.filter_eq_nil_iff]
      intro a _
      cases (a.1 == 64) <;> simp
    rw [this]
    rfl
  rw [aftr_one h1]
  have h2 := take_pack [] (labels s) [] (fun x hx => by have := hf.1; rw [List.all_eq_true] at this; exact this x hx) (by simpa using hf.2)
  simp only [List.nil_append, show packB [] = [] from rfl, List.length_nil, jn_nil, jn_labels] at h2
  simp only [h2]
  simp [h0]

def aex : List UInt8 := [97, 102, 116, 114, 46, 101, 120, 97, 109, 112, 108, 101]
theorem aex_fits : fits (labels aex) := by constructor <;> decide

set_option maxRecDepth 100000 in
set_option maxHeartbeats 2000000 in
theorem dawake_any (w : World) : Calls Try.prog 23 #[] w fun r w' => r = .returned (.bool true) ∧ Below w.heap.size w w' := by
  go_enter Try.func23, Try.ntmps23
  go_wp2_with fail
  refine (with_ok none 0 0 [] aex (by decide) aex_fits (by decide) _ (ORd.nil _ _) (by omega) (by simp)).mono ?_
  rintro r w1 ⟨b0, v, its, rfl, row, hsaid, bel1⟩
  obtain ⟨A1, c1, rfl, rd, _⟩ := row.reads
  have hl1 : its.length = 1 := by rw [← said_length, hsaid]; rfl
  rw [hl1] at rd
  rw [hl1]
  have hD : ∀ it ∈ its, it.n ≤ 1048576 := by
    intro it hm
    have h1 : (it.code, it.d) ∈ said its := List.mem_map.2 ⟨it, hm, rfl⟩
    rw [hsaid] at h1
    have h2 : it.d = packB (labels aex) ++ [0] := by
      have : (it.code, it.d) = (64, packB (labels aex) ++ [0]) := by simpa [withName, said] using h1
      injection this
    have h3 := row.len it hm
    have h4 : (packB (labels aex) ++ [0]).length ≤ 1048576 := by decide
    rw [h2] at h3
    omega
  have RD := Lib.hid rd
  have SAID := Lib.hid hsaid
  have BEL1 := Lib.hid bel1
  clear row rd hsaid bel1
  go_wp2_with fail
  refine (aftr_any A1 1 c1 its _ RD.out (by omega) hD).mono ?_
  rintro r w2 ⟨rfl, bel2⟩
  rw [SAID.out, aftr_with _ _ aex_fits (by decide)]
  have BEL2 := Lib.hid (BEL1.out.trans (bel2.mono BEL1.out.size))
  clear bel2 BEL1 hD
  unfold aftrV
  go_wp2_with fail
  refine (aftr_any none 0 0 [] _ (ORd.nil _ _) (by omega) (by simp)).mono ?_
  rintro r w3 ⟨rfl, bel3⟩
  rw [show aftr (said []) = ([], 8) from rfl]
  have BEL3 := Lib.hid (BEL2.out.trans (bel3.mono BEL2.out.size))
  have heq : (bs aex).toList = [97, 102, 116, 114, 46, 101, 120, 97, 109, 112, 108, 101] := by rw [ByteArray.toList_eq]; rfl
  clear bel3 BEL2
  unfold aftrV
  go_wp2
  go_ret
  exact ⟨rfl, BEL3.out⟩

section
open Go.ChangeShapes Go.WideShapes Go.Deep
theorem addr_off (b off i : Nat) : (⟨b, off, none⟩ : Addr).add i = ⟨b, off + i, none⟩ := by
  unfold Addr.add
  split
  · rename_i h; subst h; rfl
  · rfl
theorem opt_cells : Try.prog.cellsOf 65 = 2 := by kernel_rfl
theorem field_at {H : Type} {enc : TypeId × Value → H} {P : Program} {w : World} {base : Nat} {spare : Nat → Bool} {held : Bool} {fuel : Nat} {t : TypeId} {fs : Array Field} {cs : List Value} {x : DataW H × List MemPlace}
    (ht : P.underlying t = some (.struct fs)) (h : DataW.trod enc P w base spare held fuel t cs = some x) (i : Nat) (f : Field) (hf : fs[i]? = some f) (ft : TypeId) (htf : f.type = ft) (off : Nat) (hoff : f.offset = off) (sz : Nat) (hc : P.cellsOf ft = sz) :
    ∃ n y, DataW.trod enc P w base spare held n ft ((cs.drop off).take sz) = some y := by
  obtain ⟨xs, n, _, _, _, hl, hall⟩ := DataW.trod_struct ht h
  have h1 := hall i f hf
  rw [htf, hoff, hc] at h1
  have hi : i < xs.length := by
    have := (Array.getElem?_eq_some_iff.1 hf).1
    omega
  rw [List.getElem?_eq_getElem hi] at h1
  exact ⟨n, _, h1⟩
theorem list2 {cs : List Value} (h : cs.length = 2) : ∃ c0 c1, cs = [c0, c1] := by
  match cs, h with
  | [c0, c1], _ => exact ⟨c0, c1, rfl⟩

set_option maxRecDepth 100000 in
theorem opts_of {H : Type} {enc : TypeId × Value → H} {w : World} {base : Nat} {spare : Nat → Bool} {held : Bool} {a : Option Addr} {len cap : Nat} {d : DataW H} {p : List MemPlace}
    (h : DataW.Trod enc Try.prog w base spare held 42 (.slice a len cap) d p) : ∃ its, ORd w a len its ∧ len ≤ 9223372036854775807 ∧ ∀ it ∈ its, it.n ≤ 9223372036854775807 ∧ -9223372036854775808 ≤ it.code ∧ it.code ≤ 9223372036854775807 := by
  obtain ⟨fuel, hf⟩ := h
  rcases open_slice Try.underlying42 hf with ⟨hcs, _⟩ | ⟨x, l, c, m, n, D, Pl, hcs, _, hl, hm, hmm, _, hi⟩
  · simp [Value.cells] at hcs
    obtain ⟨rfl, rfl, rfl⟩ := hcs
    exact ⟨[], ORd.nil _ _, Nat.zero_le _, by simp⟩
  · simp [Value.cells] at hcs
    obtain ⟨rfl, rfl, rfl⟩ := hcs
    unfold maxLen at hm
    have hlm : len ≤ m := by rw [hmm]; split <;> omega
    obtain ⟨bx, off, spot⟩ := x
    have each : ∀ i, i < len → ∃ it : It, (spot = none ∧ bx < w.heap.size ∧ w.cell? ⟨bx, off + i * 2, none⟩ = some (.int .i64 it.code) ∧ w.cell? ⟨bx, off + i * 2 + 1, none⟩ = some (.slice it.A it.n it.c)) ∧ (BReads w it.A it.n (nums it.d) ∧ it.n ≤ it.c) ∧ it.n ≤ 9223372036854775807 ∧ -9223372036854775808 ≤ it.code ∧ it.code ≤ 9223372036854775807 := by
      intro i hil
      have hspot : spot = none := by
        obtain ⟨cs', h1, _⟩ := hi 0 (by omega)
        rw [opt_cells] at h1
        obtain ⟨_, h2, h3⟩ := World.cells?_some h1
        have h4 := h3 0 (by omega)
        obtain ⟨c0, c1, rfl⟩ := list2 h2
        simpa [Addr.add] using World.cell?_spot h4
      subst hspot
      obtain ⟨cs', h1, ht⟩ := hi i (by omega)
      rw [opt_cells, addr_off] at h1
      obtain ⟨_, h2, h3⟩ := World.cells?_some h1
      obtain ⟨c0, c1, rfl⟩ := list2 h2
      have g0 := h3 0 (by omega)
      have g1 := h3 1 (by omega)
      rw [addr_off] at g0 g1
      replace g0 : w.cell? ⟨bx, off + i * 2, none⟩ = some c0 := g0
      replace g1 : w.cell? ⟨bx, off + i * 2 + 1, none⟩ = some c1 := g1
      obtain ⟨q0, y0, f0⟩ := field_at Try.underlying65 ht 0 _ rfl 3 rfl 0 rfl 1 (by kernel_rfl)
      obtain ⟨q1, y1, f1⟩ := field_at Try.underlying65 ht 1 _ rfl 22 rfl 1 rfl 1 (by kernel_rfl)
      obtain ⟨code, e0, _, hwf⟩ := DataW.trod_int Try.underlying3 f0
      replace f1 : DataW.trod enc Try.prog w base spare held q1 22 [c1] = some y1 := f1
      have e1 : ∃ A n' c', c1 = .slice A n' c' := by
        rcases DataW.trod_slice Try.underlying22 f1 with ⟨h0, _⟩ | ⟨a', len', cap', _, _, _, _, h0, _⟩
        · exact ⟨none, 0, 0, by simpa using h0⟩
        · exact ⟨some a', len', cap', by simpa using h0⟩
      obtain ⟨A, n', c', rfl⟩ := e1
      obtain rfl : c0 = .int .i64 code := by simpa using e0
      obtain ⟨l, k1, k2, k3⟩ := bytesArg_of Try.underlying22 Try.underlying5 (by kernel_rfl) (⟨q1, f1⟩ : DataW.Trod enc Try.prog w base spare held 22 (.slice A n' c') y1.1 y1.2)
      have hr : -9223372036854775808 ≤ code ∧ code ≤ 9223372036854775807 := by simpa [Lit.wf, IntKind.min, IntKind.max, IntKind.bits, IntKind.signed] using hwf
      exact ⟨⟨code, A, n', c', l⟩, ⟨rfl, World.block_lt_of_cell? w _ g0, g0, g1⟩, ⟨k1, k2⟩, k3, hr.1, hr.2⟩
    have hv : ∀ i, ∃ it : It, i < len → (spot = none ∧ bx < w.heap.size ∧ w.cell? ⟨bx, off + i * 2, none⟩ = some (.int .i64 it.code) ∧ w.cell? ⟨bx, off + i * 2 + 1, none⟩ = some (.slice it.A it.n it.c)) ∧ (BReads w it.A it.n (nums it.d) ∧ it.n ≤ it.c) ∧ it.n ≤ 9223372036854775807 ∧ -9223372036854775808 ≤ it.code ∧ it.code ≤ 9223372036854775807 := fun i => by
      by_cases hil : i < len
      · obtain ⟨it, h⟩ := each i hil
        exact ⟨it, fun _ => h⟩
      · exact ⟨⟨0, none, 0, 0, []⟩, fun h => absurd h hil⟩
    obtain ⟨f, hfn⟩ : ∃ f : Nat → It, ∀ i, i < len → (spot = none ∧ bx < w.heap.size ∧ w.cell? ⟨bx, off + i * 2, none⟩ = some (.int .i64 (f i).code) ∧ w.cell? ⟨bx, off + i * 2 + 1, none⟩ = some (.slice (f i).A (f i).n (f i).c)) ∧ (BReads w (f i).A (f i).n (nums (f i).d) ∧ (f i).n ≤ (f i).c) ∧ (f i).n ≤ 9223372036854775807 ∧ -9223372036854775808 ≤ (f i).code ∧ (f i).code ≤ 9223372036854775807 :=
      ⟨fun i => Classical.choose (hv i), fun i hi' => Classical.choose_spec (hv i) hi'⟩
    have hmem : ∀ it ∈ (List.range len).map f, ∃ i, i < len ∧ it = f i := by
      intro it hm
      obtain ⟨i, hi', rfl⟩ := List.mem_map.1 hm
      exact ⟨i, List.mem_range.1 hi', rfl⟩
    refine ⟨(List.range len).map f, ⟨by simp, fun hn => ?_, fun it hm => ?_⟩, by omega, fun it hm => ?_⟩
    · obtain ⟨⟨hs, hb, _⟩, _⟩ := hfn 0 hn
      subst hs
      refine ⟨bx, off, rfl, hb, fun k it hk => ?_⟩
      have hkl : k < len := by simpa using (List.getElem?_eq_some_iff.1 hk).1
      have : it = f k := by
        rw [List.getElem?_map, List.getElem?_range hkl] at hk
        simpa using hk.symm
      subst this
      exact ⟨(hfn k hkl).1.2.2.1, (hfn k hkl).1.2.2.2⟩
    · obtain ⟨i, hil, rfl⟩ := hmem it hm
      exact (hfn i hil).2.1
    · obtain ⟨i, hil, rfl⟩ := hmem it hm
      exact (hfn i hil).2.2
end
end Go.Proofs.Ytfgcbpchapkjbaa
