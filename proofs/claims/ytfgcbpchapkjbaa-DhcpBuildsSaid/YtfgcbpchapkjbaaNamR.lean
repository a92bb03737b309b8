/-
  name: whether a text is a name, by the document (ref Right).
-/
import Derived.Test.YtfgcbpchapkjbaaNamQ
import Derived.Test.YtfgcbpchapkjbaaNamN
namespace Go.Proofs.Ytfgcbpchapkjbaa
open Go.RowKit

theorem rgt_long {l : List UInt8} (h : 300 < l.length) : rgt l = false := rgt_false (fun hf => by
  have h1 := jn_length (labels l)
  have h2 := packB_length (labels l)
  have h3 := hf.2
  rw [jn_labels] at h1
  omega)
theorem labels_len (l : List UInt8) : (labels l).length ≤ l.length + 1 := by
  unfold labels
  split
  · simp
  · exact spl_len l []
theorem labels_each (l : List UInt8) : ∀ x ∈ labels l, x.length ≤ l.length := by
  intro x hx
  unfold labels at hx
  split at hx
  · simp at hx
  · have := spl_each l [] x hx
    simpa using this
theorem sumL_bound (B : Nat) : ∀ L : List (List UInt8), (∀ x ∈ L, x.length ≤ B) → sumL L ≤ 1 + L.length * (1 + B)
  | [], _ => by simp [sumL]
  | x :: L, h => by
    have ih := sumL_bound B L (fun y hy => h y (by simp [hy]))
    have hx := h x (by simp)
    have e : (L.length + 1) * (1 + B) = L.length * (1 + B) + (1 + B) := Nat.succ_mul _ _
    simp only [sumL, List.map_cons, List.sum_cons, List.length_cons] at ih ⊢
    omega

set_option maxRecDepth 100000 in
set_option maxHeartbeats 4000000 in
theorem rright_any (l : List UInt8) (hl : l.length ≤ 1048576) (w : World) :
    Calls Try.prog 17 #[.string (bs l)] w fun e w' => e = .returned (.bool (rgt l)) ∧ Below w.heap.size w w' := by
  have hsz : (bs l).size = l.length := rfl
  by_cases hbig : 300 < l.length
  · rw [rgt_long hbig]
    go_enter Try.func17, Try.ntmps17
    go_wp2
    go_ret
    exact ⟨rfl, Below.refl _ _⟩
  · obtain ⟨R, hR⟩ : ∃ R, rgt l = R := ⟨_, rfl⟩
    rw [hR]
    have hLl := labels_len l
    have hLe := labels_each l
    have hrd : rgt l = ((labels l).all lab && decide (sumL (labels l) ≤ 255)) := rfl
    go_enter Try.func17, Try.ntmps17
    go_wp2_with fail
    refine (rlabels_any l hl _).mono ?_
    rintro r w1 ⟨v, rfl, own1, bel1⟩
    generalize labels l = L at *
    obtain ⟨A1, c1, rfl, hcells⟩ := own_slice own1
    have HC := Lib.hid hcells
    clear hcells own1
    go_wp2
    go_loopw [4, 5] (fun n i wr => ∃ (k : Nat), i = .int .i64 k ∧ k ≤ L.length ∧ n = .int .i64 (sumL (L.take k)) ∧ (L.take k).all lab = true ∧ w1 = wr) (fun _ i _ => L.length - (intOf i).toNat)
    case atStart => exact ⟨0, rfl, by omega, rfl, rfl, rfl⟩
    case round =>
      obtain ⟨k, rfl, hk, rfl, hall, rfl⟩ := hrel
      by_cases hlt : k < L.length
      · obtain ⟨g, rfl, hg, hcap, hcell⟩ := HC.out (by omega)
        obtain ⟨x, hx⟩ : ∃ x, L[k]? = some x := ⟨_, List.getElem?_eq_getElem hlt⟩
        have hck : w1.cell? ⟨g, k, none⟩ = some (.string (bs x)) := by
          have := hcell k (.string (bs x)) (by simp [strs, hx])
          simpa using this
        have hxl : x.length ≤ 300 := by have := hLe x (List.mem_iff_getElem?.2 ⟨k, hx⟩); omega
        have htk : L.take (k + 1) = L.take k ++ [x] := by rw [List.take_add_one, hx]; rfl
        have hsn : sumL (L.take (k + 1)) = sumL (L.take k) + (1 + x.length) := by rw [htk, sumL_snoc]
        have han : (L.take (k + 1)).all lab = lab x := by rw [htk, List.all_append, hall]; simp
        have hsb : sumL (L.take k) ≤ 1 + 301 * 301 := by
          have h1 := sumL_bound 300 (L.take k) (fun y hy => by have := hLe y (List.mem_of_mem_take hy); omega)
          rw [List.length_take] at h1
          have : min k L.length * (1 + 300) ≤ 301 * 301 := Nat.mul_le_mul (by omega) (by omega)
          omega
        obtain ⟨S, hS⟩ : ∃ S, sumL (L.take k) = S := ⟨_, rfl⟩
        rw [hS] at hsn hsb
        rw [hS]
        have hxz : (bs x).size = x.length := rfl
        cases hlx : lab x with
        | false =>
          have hRf : R = false := by
            rw [← hR, hrd]
            have : L.all lab = false := by
              rw [← List.take_append_drop (k + 1) L, List.all_append, han, hlx]; rfl
            rw [this]; rfl
          subst hRf
          clear hrd hLe htk hsn han hS hall hcell hR
          go_wp2_with (go_at_call 36; refine (label_any (bs x) (by rw [bs_size]; omega) _).mono ?_; rintro r w5 ⟨rfl, rfl⟩; rw [bs_data, hlx])
          go_ret
          exact ⟨rfl, bel1⟩
        | true =>
          clear hrd hLe htk hS hall hcell hR
          go_wp2_with (go_at_call 36; refine (label_any (bs x) (by rw [bs_size]; omega) _).mono ?_; rintro r w5 ⟨rfl, rfl⟩; rw [bs_data, hlx])
          refine ⟨⟨k + 1, by go_num, hlt, ?_, by rw [han, hlx], by trivial⟩, by simp [intOf]; omega⟩
          rw [hsn]
          simp
          omega
      · obtain rfl : k = L.length := by omega
        rw [List.take_length] at hall ⊢
        have hRf : R = decide (sumL L ≤ 255) := by rw [← hR, hrd, hall]; rfl
        clear hrd hLe hall hR HC
        generalize sumL L = S at *
        have hd : decide ((S : Int) ≤ 255) = R := by rw [hRf, decide_eq_decide]; omega
        clear hRf
        go_wp2
        go_ret
        exact ⟨rfl, bel1⟩
end Go.Proofs.Ytfgcbpchapkjbaa
