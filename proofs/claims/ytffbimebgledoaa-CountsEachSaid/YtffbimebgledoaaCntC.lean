/-
  List, awake, and CountsLive: the walks.
-/
import Derived.Test.YtffbimebgledoaaCntB
import Derived.Test.YtffbimebgledoaaRows2
namespace Go.Proofs.Ytffbimebgledoaa
open Go.RowKit

theorem Cnt.reads {w : World} {t g h : Nat} {L : List Int} (k : Cnt w t g h L) : Reads w w.heap.size 1 (some ⟨h, 0, none⟩) 14 (L.map (Value.int .i64)) :=
  Reads.of_blk k.row (by simp [cs]; exact List.take_of_length_le (by simp [k.len])) (by simp [k.len]) k.row.lt

set_option maxHeartbeats 400000 in
theorem clist_any (g h : Nat) (L : List Int) (w : World) (k : Cnt w 52 g h L) :
    Calls Try.prog 18 #[.pointer (some ⟨g, 0, none⟩)] w (Cloned w (some ⟨h, 0, none⟩) 14 (L.map (Value.int .i64))) := by
  have c0 : w.cell? ⟨g, 0, none⟩ = some (.slice (some ⟨h, 0, none⟩) 14 14) := k.str.cell 0
  have hc := Lib.hid (clone_ints (some ⟨h, 0, none⟩) 14 14 _ w k.reads (by simp [Value.oneCell']) (by omega) (by simp))
  clear k
  go_enter Try.func18, Try.ntmps18
  go_wp2_with fail
  refine hc.out.mono ?_
  rintro r w' ⟨A', c', rfl, hr, hb, hf, hn⟩
  go_wp2
  go_ret
  exact ⟨A', c', rfl, hr, hb, hf, hn⟩

def one14 : List Int := [0, 1, 0, 0, 0, 0, 0, 0, 0, 0, 0, 0, 0, 0]
def two14 : List Int := [0, 2, 0, 0, 0, 0, 0, 0, 0, 0, 0, 0, 0, 0]
theorem getD_of {L : List Int} {K : Int} (h0 : 0 ≤ K) (h : ∀ x ∈ L, 0 ≤ x ∧ x ≤ K) (i : Nat) : 0 ≤ L.getD i 0 ∧ L.getD i 0 ≤ K := by
  rw [List.getD_eq_getElem?_getD]
  rcases hx : L[i]? with _ | x
  · simpa using h0
  · exact h x (List.mem_of_getElem? hx)

set_option maxHeartbeats 1000000 in
theorem cawake_any (w : World) : Calls Try.prog 9 #[] w fun r w' => r = .returned (.bool true) ∧ Below w.heap.size w w' := by
  have z1 := Lib.hid (fun i => getD_of (L := zero14) (K := 1000000) (by decide) (by decide) i)
  have z2 := Lib.hid (fun i => getD_of (L := one14) (K := 1000000) (by decide) (by decide) i)
  go_enter Try.func9, Try.ntmps9
  go_wp2_with fail
  refine (cnew_any _).mono ?_
  rintro r w1 ⟨rfl, k1, hb1⟩
  generalize hG : w.heap.size = G at *
  have HG := Lib.hid hG
  clear hG
  go_wp2_with fail
  refine (cadd_any (G + 1) G zero14 1 _ k1 z1.out).mono ?_
  rintro r w2 ⟨rfl, k2, hg2⟩
  rw [show addB 1 = true from rfl]
  rw [show addL 1 zero14 = one14 from rfl] at k2
  go_wp2_with fail
  refine (cadd_any (G + 1) G one14 1 _ k2 z2.out).mono ?_
  rintro r w3 ⟨rfl, k3, hg3⟩
  rw [show addB 1 = true from rfl]
  rw [show addL 1 one14 = two14 from rfl] at k3
  go_wp2_with fail
  refine (cget_any (G + 1) G two14 1 _ k3).mono ?_
  rintro r w4 ⟨rfl, rfl⟩
  rw [show getN 1 two14 = 2 from rfl]
  go_wp2_with fail
  refine (clist_any (G + 1) G two14 _ k3).mono ?_
  rintro r w4 ⟨A', c', rfl, hr4, hb4, hf4, hn4⟩
  go_wp2_with fail
  refine (cname_any 5 _).mono ?_
  rintro r w5 ⟨rfl, rfl⟩
  rw [show nameOf 5 = ⟨#[113, 117, 111, 116, 97]⟩ from rfl]
  go_wp2
  go_ret
  have hs := hb1.size
  have h3 : Below G w1 w3 := below_only (only_trans hg2 hg3) (by have := HG.out; omega) (Nat.le_refl _)
  refine ⟨rfl, ?_⟩
  rw [HG.out]
  exact (hb1.trans h3).trans (hb4.mono (by have := h3.size; have := HG.out; omega))
end Go.Proofs.Ytffbimebgledoaa
