/-
  CountsLive: the walk.
-/
import Derived.Test.YtffbimebgledoaaCntC
namespace Go.Proofs.Ytffbimebgledoaa
open Go.RowKit

theorem addL_bd (n : Int) (L : List Int) (K : Int) (hK : 0 ≤ K) (h : ∀ x ∈ L, 0 ≤ x ∧ x ≤ K) : ∀ x ∈ addL n L, 0 ≤ x ∧ x ≤ K + 1 := by
  intro x hx
  unfold addL at hx
  split at hx
  · have hg := getD_of hK h n.toNat
    rcases List.mem_or_eq_of_mem_set hx with h1 | h1
    · have := h x h1; omega
    · omega
  · have := h x hx; omega

def LiveRel (w : World) (g1 h1 g2 h2 k : Nat) (wr : World) : Prop :=
  ∃ L, Cnt wr 52 g1 h1 L ∧ Cnt wr 33 g2 h2 L ∧ (∀ x ∈ L, 0 ≤ x ∧ x ≤ (k : Int)) ∧ Below w.heap.size w wr

set_option maxRecDepth 100000 in
set_option maxHeartbeats 2000000 in
theorem clive_walk (a : Option Addr) (len cap : Nat) (zs : List Int) (w : World) (hr : IntRow .i64 w a len zs) :
    Calls Try.prog 3 #[.slice a len cap] w fun r w' => r = .returned (.bool true) ∧ Below w.heap.size w w' := by
  have hl0 := hr.1
  by_cases hl : 200 < len
  · go_enter Try.func3, Try.ntmps3
    go_wp2_with fail
    refine (cawake_any _).mono ?_
    rintro r w1 ⟨rfl, hb1⟩
    go_wp2_with fail
    refine (cawake_any _).mono ?_
    rintro r w2 ⟨rfl, hb2⟩
    go_wp2
    go_ret
    exact ⟨rfl, hb1.trans (hb2.mono hb1.size)⟩
  · have hl2 : len ≤ 200 := by omega
    go_enter Try.func3, Try.ntmps3
    go_wp2_with fail
    refine (cawake_any _).mono ?_
    rintro r w1 ⟨rfl, hb1⟩
    go_wp2_with fail
    refine (cnew_any _).mono ?_
    rintro r w2 ⟨rfl, k1, hb2⟩
    obtain ⟨h1, hh1⟩ : ∃ h1, w1.heap.size = h1 := ⟨_, rfl⟩
    obtain ⟨g1, hg1⟩ : ∃ g1, w1.heap.size + 1 = g1 := ⟨_, rfl⟩
    rw [hg1, hh1] at k1
    rw [hg1]
    have hgl : w.heap.size ≤ g1 := by have := hb1.size; omega
    have hhl : w.heap.size ≤ h1 := by have := hb1.size; omega
    clear hh1 hg1
    go_wp2_with fail
    refine (crnew_any _).mono ?_
    rintro r w3 ⟨rfl, k2, hb3⟩
    have k1' := k1.keep hb3 k1.str.lt k1.row.lt
    have hne : h1 ≠ w2.heap.size := by have := k1.row.lt; omega
    have hne2 : g1 ≠ w2.heap.size := by have := k1.str.lt; omega
    have hne3 : h1 ≠ w2.heap.size + 1 := by have := k1.row.lt; omega
    have hne4 : g1 ≠ w2.heap.size + 1 := by have := k1.str.lt; omega
    have hs2 : w.heap.size ≤ w2.heap.size := by have := hb1.size; have := hb2.size; omega
    obtain ⟨h2, hh2⟩ : ∃ h2, w2.heap.size = h2 := ⟨_, rfl⟩
    obtain ⟨g2, hg2⟩ : ∃ g2, w2.heap.size + 1 = g2 := ⟨_, rfl⟩
    rw [hg2, hh2] at k2
    rw [hg2] at hne3 hne4 ⊢
    rw [hh2] at hne hne2 hs2
    have hgl2 : w.heap.size ≤ g2 := by omega
    have hbel : Below w.heap.size w w3 := (hb1.trans (hb2.mono hb1.size)).trans (hb3.mono (by have := hb1.size; have := hb2.size; omega))
    clear hh2 hg2 k1
    go_wp2_with fail
    go_loopw [19] (fun i wr => ∃ (k : Nat), k ≤ len ∧ i = .int .i64 k ∧ LiveRel w g1 h1 g2 h2 k wr) (fun i _ => len - (intOf i).toNat)
    case atStart => exact ⟨0, Nat.zero_le _, rfl, zero14, k1', k2, by decide, hbel⟩
    case round =>
      obtain ⟨k, hk, rfl, L, q1, q2, hL, hbG⟩ := hrel
      by_cases hlt : k < len
      · obtain ⟨b, off, z, rfl, hbk, hcell, hzeq, hz⟩ := hr.at_ hbG hlt
        clear hzeq hz
        have hLb := getD_of (L := L) (K := 1000000) (by omega) (fun x hx => by have := hL x hx; omega)
        have HLb := Lib.hid hLb
        have HL := Lib.hid (addL_bd z L k (by omega) hL)
        clear hLb hL
        go_wp2_with fail
        refine (cadd_any g1 h1 L z _ q1 HLb.out).mono ?_
        rintro r w4 ⟨rfl, p1, hg4⟩
        have q2' := q2.grown hg4 (by simp; omega) (by simp; omega)
        go_wp2_with fail
        refine (cradd_any g2 h2 L z _ q2' HLb.out).mono ?_
        rintro r w5 ⟨rfl, p2, hg5⟩
        have p1' := p1.grown hg5 (by simp; omega) (by simp; omega)
        clear p1 q1 q2 q2'
        go_wp2_with fail
        refine (cget_any g1 h1 (addL z L) z _ p1').mono ?_
        rintro r w6 ⟨rfl, rfl⟩
        go_wp2_with fail
        refine (crget_any g2 h2 (addL z L) z _ p2).mono ?_
        rintro r w6 ⟨rfl, rfl⟩
        go_wp2_with fail
        refine (cname_any z _).mono ?_
        rintro r w6 ⟨rfl, rfl⟩
        go_wp2_with fail
        refine (crname_any z _).mono ?_
        rintro r w6 ⟨rfl, hb6⟩
        go_wp2
        go_roundw
        case rel => exact ⟨k + 1, by omega, by go_num, addL z L, p1'.keep hb6 p1'.str.lt p1'.row.lt, p2.keep hb6 p2.str.lt p2.row.lt, HL.out, ((hbG.trans (below_only hg4 hbG.size hhl)).trans (below_only hg5 (by have := hbG.size; have := hg4.size; omega) hs2)).trans (hb6.mono (by have := hbG.size; have := hg4.size; have := hg5.size; omega))⟩
        case measure => simp [intOf]; omega
      · go_wp2_with fail
        refine (clist_any g1 h1 L _ q1).mono ?_
        rintro r w4 ⟨A', c', rfl, hr4, hb4, hf4, hn4⟩
        have q2' := q2.keep hb4 q2.str.lt q2.row.lt
        have c0 : w4.cell? ⟨g2, 0, none⟩ = some (.slice (some ⟨h2, 0, none⟩) 14 14) := q2'.str.cell 0
        go_wp2_with fail
        go_loopw [59] (fun i wr => ∃ (k : Nat), k ≤ 14 ∧ i = .int .i64 k ∧ Below w4.heap.size w4 wr) (fun i _ => 14 - (intOf i).toNat)
        case atStart => exact ⟨0, by omega, rfl, Below.refl _ _⟩
        case round =>
          obtain ⟨j, hj, rfl, hbj⟩ := hrel
          by_cases hj2 : j < 14
          · obtain ⟨ad, u, hA, hlt4, hu, hcu⟩ := hr4.at_ hj2
            obtain ⟨gA, rfl, hgA⟩ := hf4 ad hA
            subst hA
            have ha : (⟨gA, 0, none⟩ : Addr).add j = ⟨gA, j, none⟩ := by
              unfold Addr.add
              split
              · rename_i h0; subst h0; rfl
              · simp
            rw [ha] at hcu
            have hu2 : u = .int .i64 (L.getD j 0) := by
              have hj3 : j < L.length := by rw [q2.len]; exact hj2
              simp [hj3] at hu
              rw [← hu]
              simp [hj3, List.getD_eq_getElem?_getD]
            subst hu2
            have d1 := (hbj.cell (p := ⟨gA, j, none⟩) hlt4).trans hcu
            have d2 := (hbj.cell (p := ⟨h2, j, none⟩) q2'.row.lt).trans ((q2'.row.cell j).trans (cs_get L j (by rw [q2.len]; exact hj2)))
            have d0 := (hbj.cell (p := ⟨g2, 0, none⟩) q2'.str.lt).trans c0
            generalize L.getD j 0 = v at *
            have b1 : (0 : Int) ≤ (j : Int) := by omega
            have b2 : (j : Int) < 14 := by omega
            clear hcu hu ha hr4 c0 q1 q2 q2' hL hn4 hf4
            go_wp2_with fail
            go_quiet (fail)
            go_wp2
            go_roundw
            case rel => exact ⟨j + 1, by omega, by go_num, below_drewN hbj _⟩
            case measure => simp [intOf]; omega
          · go_wp2_with fail
            refine (cawake_any _).mono ?_
            rintro r w7 ⟨rfl, hb7⟩
            go_wp2
            go_ret
            exact ⟨rfl, ((hbG.trans (hb4.mono hbG.size)).trans (hbj.mono (by have := hbG.size; have := hb4.size; omega))).trans (hb7.mono (by have := hbG.size; have := hb4.size; have := hbj.size; omega))⟩
end Go.Proofs.Ytffbimebgledoaa
