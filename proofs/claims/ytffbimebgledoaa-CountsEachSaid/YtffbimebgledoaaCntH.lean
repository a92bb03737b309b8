/-
  CountsEach: the walk.
-/
import Derived.Test.YtffbimebgledoaaCntG
namespace Go.Proofs.Ytffbimebgledoaa
open Go.RowKit Go.Shelf
attribute [local go_sem] Oper.semAt_some

theorem only_cell2 {a w : World} {g : Nat} (h : a.grownBy w (some g)) (p : Addr) (hp : p.block < a.heap.size) (hne : p.block ≠ g) : w.cell? p = a.cell? p :=
  World.cell?_of_block (h.block p.block hp (fun e => hne (by injection e)))
theorem only_frozen2 {a w : World} {g : Nat} (h : a.grownBy w (some g)) (p : Addr) (hp : p.block < a.heap.size) (hne : p.block ≠ g) : w.frozen? p = a.frozen? p :=
  World.frozen?_of_block (h.block p.block hp (fun e => hne (by injection e)))

def ERel (w3 : World) (g h : Nat) (k : Nat) (n : Int) (wr : World) : Prop :=
  ∃ L, Cnt wr 52 g h L ∧ (∀ x ∈ L, 0 ≤ x ∧ x ≤ (k : Int)) ∧ L.getD 0 0 = 0 ∧ sumTo L 14 = n ∧ w3.grownBy wr (some h)

/-- The caller's own cells between two rounds: m is the last reason that was met. -/
def EI (S La : Nat) (L : List Int) (pre : List (ByteArray × Int)) (W : World) : Prop :=
  ∃ m : Nat, m ≤ 13 ∧ pre = upto L (m + 1) ∧ W.cell? ⟨S, 0, none⟩ = some (.int .i64 (tot pre)) ∧ W.frozen? ⟨S, 0, none⟩ = false ∧ W.cell? ⟨La, 0, none⟩ = some (.int .i64 m) ∧ W.frozen? ⟨La, 0, none⟩ = false

set_option maxRecDepth 100000 in
set_option maxHeartbeats 4000000 in
theorem ceach_walk (a : Option Addr) (len cap : Nat) (zs : List Int) (w : World) (hr : IntRow .i64 w a len zs) :
    Calls Try.prog 5 #[.slice a len cap] w fun r w' => r = .returned (.bool true) ∧ Below w.heap.size w w' := by
  have hl0 := hr.1
  refine (callsIn_wide (n := 6)).1 ?_
  refine callsIn_of_wp_marks Try.func5 rfl trivial ?_ rfl
  simp only [Try.ntmps5, List.size_toArray, List.length_cons, List.length_nil, Nat.reduceAdd, Nat.reduceSub, Array.replicate_succ, Array.replicate_zero, List.push_toArray, List.append_toArray, List.nil_append, List.cons_append]
  gi_wp2_with fail
  refine ⟨trivial, ?_⟩
  refine (callsIn_wide.2 (cawake_any _)).mono ?_
  rintro r w1 ⟨rfl, hb1⟩
  generalize hG : w.heap.size = G at *
  have HG := Lib.hid hG
  have hs1 : G + 1 ≤ w1.heap.size := by have := hb1.size; simp at this; omega
  have hc1 : w1.cell? ⟨G, 0, none⟩ = some (.bool false) := (hb1.cell (p := ⟨G, 0, none⟩) (by simp; omega)).trans ((Blk.new w 4 #[.bool false]).cell 0 |> fun h => by rw [← hG]; exact h)
  have hf1 : w1.frozen? ⟨G, 0, none⟩ = false := (hb1.frozen (p := ⟨G, 0, none⟩) (by simp; omega)).trans ((Blk.new w 4 #[.bool false]).frozen 0 |> fun h => by rw [← hG]; exact h)
  have hB1 : Below G w w1 := ((Below.refl _ w).alloc (by omega) _).trans (hb1.mono (by simp; omega))
  clear hG hb1
  by_cases hl : 200 < len
  · gi_wp2_with fail
    refine ⟨trivial, ?_⟩
    refine (callsIn_wide.2 (cawake_any _)).mono ?_
    rintro r w2 ⟨rfl, hb2⟩
    have hc2 := (hb2.cell (p := ⟨G, 0, none⟩) (by simp; omega)).trans hc1
    have hf2 := (hb2.frozen (p := ⟨G, 0, none⟩) (by simp; omega)).trans hf1
    gi_wp2
    have hc5 := World.cell?_setCell_same' w2 ⟨G, 0, none⟩ (.bool true) (by rw [hc2]; rfl)
    refine ⟨.bool true, by simp [results, Try.f5, go_sem, hc5], rfl, ?_⟩
    rw [HG.out]
    exact (hB1.trans (hb2.mono (by omega))).setCell (p := ⟨G, 0, none⟩) (Nat.le_refl _) _
  · have hl2 : len ≤ 200 := by omega
    gi_wp2_with fail
    refine ⟨trivial, ?_⟩
    refine (callsIn_wide.2 (cnew_any _)).mono ?_
    rintro r w2 ⟨rfl, k1, hb2⟩
    obtain ⟨h, hh1⟩ : ∃ h, w1.heap.size = h := ⟨_, rfl⟩
    obtain ⟨g, hg1⟩ : ∃ g, w1.heap.size + 1 = g := ⟨_, rfl⟩
    rw [hg1, hh1] at k1
    rw [hg1]
    have hgl : G + 1 ≤ g := by omega
    have hhl : G + 1 ≤ h := by omega
    have hGn : G ≠ h := by omega
    have hc2 := (hb2.cell (p := ⟨G, 0, none⟩) (by simp; omega)).trans hc1
    have hf2 := (hb2.frozen (p := ⟨G, 0, none⟩) (by simp; omega)).trans hf1
    have hB2 : Below G w w2 := hB1.trans (hb2.mono (by omega))
    have hs2 : G + 1 ≤ w2.heap.size := by have := hb2.size; omega
    clear hh1 hg1 hc1 hf1 hB1 hb2 hs1
    obtain ⟨Cb, hCb⟩ : ∃ Cb, w2.heap.size = Cb := ⟨_, rfl⟩
    have k3 : Cnt (w2.alloc (.cells #[.pointer (some ⟨g, 0, none⟩)] 24)) 52 g h zero14 := ⟨k1.str.alloc _, k1.row.alloc _, k1.len, k1.ne⟩
    have cC : (w2.alloc (.cells #[.pointer (some ⟨g, 0, none⟩)] 24)).cell? ⟨Cb, 0, none⟩ = some (.pointer (some ⟨g, 0, none⟩)) := by
      rw [← hCb]
      exact (Blk.new w2 24 #[.pointer (some ⟨g, 0, none⟩)]).cell 0
    have hb3 : Below (G + 1) w2 (w2.alloc (.cells #[.pointer (some ⟨g, 0, none⟩)] 24)) := (Below.refl _ _).alloc hs2 _
    have hhC : h ≠ Cb := by have := k1.row.lt; omega
    have hs3 : (w2.alloc (.cells #[.pointer (some ⟨g, 0, none⟩)] 24)).heap.size = Cb + 1 := by simp [hCb]
    gi_wp2_with fail
    generalize w2.alloc (.cells #[.pointer (some ⟨g, 0, none⟩)] 24) = w3 at *
    have hc3 := (hb3.cell (p := ⟨G, 0, none⟩) (by simp)).trans hc2
    have hf3 := (hb3.frozen (p := ⟨G, 0, none⟩) (by simp)).trans hf2
    have hB3 : Below G w w3 := hB2.trans (hb3.mono (by omega))
    have HS3 := Lib.hid hs3
    have hCs : Cb < w3.heap.size := by omega
    have hCG : G + 1 ≤ Cb := by omega
    clear hs3 hc2 hf2 hB2 k1 hb3 hs2 hCb
    gi_loopw [4, 20] (fun n i wr => ∃ (k : Nat) (N : Int), k ≤ len ∧ i = .int .i64 k ∧ n = .int .i64 N ∧ ERel w3 g h k N wr) (fun _ i _ => len - (intOf i).toNat)
    case atStart => exact ⟨0, 0, Nat.zero_le _, rfl, rfl, zero14, k3, by decide, rfl, by decide, only_refl _ _⟩
    case round =>
      obtain ⟨k, N, hk, rfl, rfl, L, q1, hL, hL0, hLs, hgw⟩ := hrel
      have hbG : Below w.heap.size w wr := by
        rw [HG.out]
        exact hB3.trans (below_only hgw (by omega) (by omega))
      have hLb := getD_of (L := L) (K := 1000) (by omega) (fun x hx => by have := hL x hx; omega)
      have cCr := (only_cell2 hgw ⟨Cb, 0, none⟩ hCs hhC.symm).trans cC
      by_cases hlt : k < len
      · obtain ⟨b, off, z, rfl, hbk, hcell, hzeq, hz⟩ := hr.at_ hbG hlt
        clear hzeq hz
        have hsb := sumTo_bd L 1000 hLb 14
        rw [hLs] at hsb
        obtain ⟨hN1, hN2⟩ := hsb
        have hN3 : N ≤ 14000 := by omega
        have HLb := Lib.hid (getD_of (L := L) (K := 1000000) (by omega) (fun x hx => by have := hL x hx; omega))
        have HL := Lib.hid (addL_bd z L k (by omega) hL)
        have HL0 := Lib.hid (addL_zero z L q1.len hL0)
        have HLs := sumTo_add z L q1.len
        rw [hLs] at HLs
        have hca := Lib.hid (cadd_any g h L z wr q1 HLb.out)
        clear hLb hL hL0 hLs hN2
        cases hz2 : addB z
        · rw [hz2] at HLs hca
          have HS := Lib.hid HLs
          clear HLs hz2
          gi_wp2_with fail
          refine ⟨trivial, ?_⟩
          refine (callsIn_wide.2 hca.out).mono ?_
          rintro r w4 ⟨rfl, p1, hg4⟩
          gi_wp2
          go_roundw
          case rel => exact ⟨k + 1, N, by omega, by go_num, rfl, addL z L, p1, HL.out, HL0.out, by have := HS.out; simpa using this, only_trans hgw hg4⟩
          case measure => simp [intOf]; omega
        · rw [hz2] at HLs hca
          have HS := Lib.hid HLs
          clear HLs hz2
          gi_wp2_with fail
          refine ⟨trivial, ?_⟩
          refine (callsIn_wide.2 hca.out).mono ?_
          rintro r w4 ⟨rfl, p1, hg4⟩
          gi_wp2
          go_roundw
          case rel => exact ⟨k + 1, N + 1, by omega, by go_num, rfl, addL z L, p1, HL.out, HL0.out, by have := HS.out; simpa using this, only_trans hgw hg4⟩
          case measure => simp [intOf]; omega
      · have hLn := Lib.hid hLs
        have hcR := (only_cell2 hgw ⟨G, 0, none⟩ (by simp; omega) hGn).trans hc3
        have hfR := (only_frozen2 hgw ⟨G, 0, none⟩ (by simp; omega) hGn).trans hf3
        obtain ⟨S, hS⟩ : ∃ S, wr.heap.size = S := ⟨_, rfl⟩
        have hgS : g < S := hS ▸ q1.str.lt
        have hhS : h < S := hS ▸ q1.row.lt
        have hCS : Cb < S := hS ▸ World.block_lt_of_cell? wr _ cCr
        have hGS : G < S := hS ▸ World.block_lt_of_cell? wr _ hcR
        have hbW : Below S wr ((wr.alloc (.cells #[.int .i64 0] 3)).alloc (.cells #[.int .i64 0] 3)) := ((Below.refl _ _).alloc (by omega) _).alloc (by simp; omega) _
        have cC1 : ((wr.alloc (.cells #[.int .i64 0] 3)).alloc (.cells #[.int .i64 0] 3)).cell? ⟨Cb, 0, none⟩ = some (.pointer (some ⟨g, 0, none⟩)) := (hbW.cell (p := ⟨Cb, 0, none⟩) hCS).trans cCr
        clear hr hc3 hf3 cC hLs
        gi_wp2_with fail
        refine ⟨trivial, ?_⟩
        refine (callsIn_wide.2 (ceach_any _ _)).mono ?_
        rintro r w5 ⟨rfl, rfl⟩
        gi_wp2_with fail
        have b1 : Blk (((wr.alloc (.cells #[.int .i64 0] 3)).alloc (.cells #[.int .i64 0] 3)).alloc (.cells #[.pointer (some ⟨g, 0, none⟩)] 24)) S 3 #[.int .i64 0] := by
          rw [← hS]
          exact ((Blk.new wr 3 #[.int .i64 0]).alloc _).alloc _
        have b2 : Blk (((wr.alloc (.cells #[.int .i64 0] 3)).alloc (.cells #[.int .i64 0] 3)).alloc (.cells #[.pointer (some ⟨g, 0, none⟩)] 24)) (S + 1) 3 #[.int .i64 0] := by
          have := (Blk.new (wr.alloc (.cells #[.int .i64 0] 3)) 3 #[.int .i64 0]).alloc (.cells #[.pointer (some ⟨g, 0, none⟩)] 24)
          rw [World.size_alloc, hS] at this
          exact this
        have b3 : Blk (((wr.alloc (.cells #[.int .i64 0] 3)).alloc (.cells #[.int .i64 0] 3)).alloc (.cells #[.pointer (some ⟨g, 0, none⟩)] 24)) (S + 1 + 1) 24 #[.pointer (some ⟨g, 0, none⟩)] := by
          have := (Blk.new ((wr.alloc (.cells #[.int .i64 0] 3)).alloc (.cells #[.int .i64 0] 3)) 24 #[.pointer (some ⟨g, 0, none⟩)])
          rw [World.size_alloc, World.size_alloc, hS] at this
          exact this
        have hb0 : Below S wr (((wr.alloc (.cells #[.int .i64 0] 3)).alloc (.cells #[.int .i64 0] 3)).alloc (.cells #[.pointer (some ⟨g, 0, none⟩)] 24)) := hbW.alloc (by simp; omega) _
        have hz0 : (((wr.alloc (.cells #[.int .i64 0] 3)).alloc (.cells #[.int .i64 0] 3)).alloc (.cells #[.pointer (some ⟨g, 0, none⟩)] 24)).heap.size = S + 3 := by simp [hS]
        generalize ((wr.alloc (.cells #[.int .i64 0] 3)).alloc (.cells #[.int .i64 0] 3)).alloc (.cells #[.pointer (some ⟨g, 0, none⟩)] 24) = W0 at *
        clear hbW cC1
        have q0 := q1.keep hb0 hgS hhS
        have cC0 := (hb0.cell (p := ⟨Cb, 0, none⟩) hCS).trans cCr
        have cG0 := (hb0.cell (p := ⟨G, 0, none⟩) hGS).trans hcR
        have fG0 := (hb0.frozen (p := ⟨G, 0, none⟩) hGS).trans hfR
        have hB0 : Below G w W0 := (HG.out ▸ hbG).trans (hb0.mono (by omega))
        have hLb2 : ∀ i, 0 ≤ L.getD i 0 ∧ L.getD i 0 ≤ 1000 := hLb
        have HZ := Lib.hid hz0
        have HLb := Lib.hid hLb2
        have HL0 := Lib.hid hL0
        have Hlen := Lib.hid q1.len
        have hup1 : upto L 1 = [] := by
          have e : upto L 1 = if 0 < L.getD 0 0 then upto L 0 ++ [(nameOf (0 : Nat), L.getD 0 0)] else upto L 0 := rfl
          rw [e, hL0]; rfl
        refine range_own (fun a x => { tmps := (((a.tmps.setIfInBounds 32 (.string x.1)).setIfInBounds 33 (.int .i64 x.2)).setIfInBounds 9 (.string x.1)).setIfInBounds 10 (.int .i64 x.2), defers := [] })
          rfl (by omega) (gf := 38) (lb := #[.pointer (some ⟨S + 1 + 1, 0, none⟩)]) rfl trivial (enters_of Try.func38 (by kernel_rfl) rfl)
          (each_stops 5 (by omega) (S + 1 + 1) g h L S (S + 1) W0 (b3.cell 0) q0 b1.lt b2.lt) (fun h1 h2 => h1.t h2) (fun W l o o' _ ho hc _ => Keeps2.b W l o o' ho hc) (fun _ => rfl)
          (fun pre W => EI S (S + 1) L pre W ∧ Below S W0 W) (fun c pre _ => c = .ret ∧ ¬ (pre <+: upto L 14))
          (OwnFrom.and (Own.from (fun s A B row hs hg hr => by
            obtain ⟨m, m1, m2, m3, m4, m5, m6⟩ := hs
            exact ⟨m, m1, m2, cell_kept m3 hg hr, (frozen_kept m3 hg hr).trans m4, cell_kept m5 hg hr, (frozen_kept m5 hg hr).trans m6⟩) _) (ownFrom_below (by omega) (by omega)))
          (fun c => ownFrom_pure _ _)
          ⟨⟨0, by omega, hup1.symm, b1.cell 0, b1.frozen 0, b2.cell 0, b2.frozen 0⟩, Below.refl _ _⟩ ?assign ?body ?done ?stop
        case assign =>
          intro l x W K hK
          gi_wp2
          exact hK
        case body =>
          rintro l pre x W ⟨⟨m, m1, m2, m3, m4, m5, m6⟩, hbW⟩ hlN
          simp only [List.setIfInBounds_toArray, List.set_cons_succ, List.set_cons_zero]
          have qW := q0.keep hbW hgS hhS
          have cCW := (hbW.cell (p := ⟨Cb, 0, none⟩) hCS).trans cC0
          have cGW := (hbW.cell (p := ⟨G, 0, none⟩) hGS).trans cG0
          have fGW := (hbW.frozen (p := ⟨G, 0, none⟩) hGS).trans fG0
          have HW := Lib.hid hbW
          have htl : 0 ≤ tot pre ∧ tot pre ≤ 14000 := by
            rw [m2, tot_upto L (fun i => (HLb.out i).1)]
            have := sumTo_bd L 1000 HLb.out (m + 1)
            omega
          have HP := Lib.hid m2
          obtain ⟨t1, t2⟩ := htl
          generalize hT : tot pre = T at *
          have HT := Lib.hid hT
          clear hB0 hbW q0 q1 hb0 b1 b2 b3 hup1 m2 hT hz0 hL hL0 hLb hLb2 cCr hcR hfR hS cC0 cG0 fG0
          gi_wp2_with fail
          gi_loopw [36] (fun _ wi => ∃ q : Nat, m + 1 ≤ q ∧ q ≤ 14 ∧ wi.cell? ⟨S + 1, 0, none⟩ = some (.int .i64 q) ∧ wi.frozen? ⟨S + 1, 0, none⟩ = false ∧ Hid (∀ j, m + 1 ≤ j → j < q → L.getD j 0 = 0) ∧ W.grownBy wi (some (S + 1)) ∧ KeepsOthers W wi)
            (fun _ wi => 14 - (intOf ((wi.cell? ⟨S + 1, 0, none⟩).getD undef)).toNat)
          case atStart => exact ⟨m + 1, by omega, by omega, by rw [World.cell?_setCell_same' _ _ _ (by rw [m5]; rfl)]; simp, by rw [World.frozen?_setCell]; exact m6, fun j h1 h2 => absurd h1 (by omega), only_setCell (only_refl _ _) (p := ⟨S + 1, 0, none⟩) (.inl rfl) _, KeepsOthers.setCell _ _ _⟩
          case round =>
            obtain ⟨q, hq1, hq2, c5, f5, hzq, hgi, hki⟩ := hrel
            have qi := qW.grown hgi (by simp; omega) (by simp; omega)
            have hS1 : S + 1 < W.heap.size := World.block_lt_of_cell? W _ m5
            have cCi := (only_cell2 hgi ⟨Cb, 0, none⟩ (by simp; omega) (by simp; omega)).trans cCW
            have cGi := (only_cell2 hgi ⟨G, 0, none⟩ (by simp; omega) (by simp; omega)).trans cGW
            have fGi := (only_frozen2 hgi ⟨G, 0, none⟩ (by simp; omega) (by simp; omega)).trans fGW
            have cSi := (only_cell2 hgi ⟨S, 0, none⟩ (by simp; omega) (by simp)).trans m3
            have fSi := (only_frozen2 hgi ⟨S, 0, none⟩ (by simp; omega) (by simp)).trans m4
            by_cases hq3 : q < 14
            · have hgn : getN (q : Int) L = L.getD q 0 := by simp [getN]; omega
              have hget := cget_any g h L q wr qi
              rw [hgn] at hget
              have hnm := fun w => cname_any (q : Int) w
              have hv0 := (HLb.out q).1
              have hv1 := (HLb.out q).2
              obtain ⟨v, hv⟩ : ∃ v, L.getD q 0 = v := ⟨_, rfl⟩
              obtain ⟨nm, hnme⟩ : ∃ nm, nameOf (q : Int) = nm := ⟨_, rfl⟩
              rw [hv] at hget hv0 hv1
              simp only [hnme] at hnm
              have HV := Lib.hid hv
              have HN := Lib.hid hnme
              have HG2 := Lib.hid hget
              have HM := Lib.hid hnm
              clear hv hnme hget hnm hgn qi
              by_cases hv2 : v = 0
              · subst hv2
                gi_wp2_with fail
                refine ⟨trivial, ?_⟩
                refine (CallsIn.inRound l (callsIn_wide.2 HG2.out)).mono ?_
                rintro r w6 ⟨rfl, rfl⟩
                gi_wp2
                go_roundw
                case rel => exact ⟨q + 1, by omega, by omega, by rw [World.cell?_setCell_same' _ _ _ (by rw [c5]; rfl)]; simp, by rw [World.frozen?_setCell]; exact f5, fun j h1 h2 => by
                  by_cases hj : j = q
                  · subst hj; exact HV.out
                  · exact hzq.out j h1 (by omega), only_setCell hgi (p := ⟨S + 1, 0, none⟩) (.inl rfl) _, hki.trans (KeepsOthers.setCell _ _ _)⟩
                case measure =>
                  rw [World.cell?_setCell_same' _ _ _ (by rw [c5]; rfl), c5]
                  simp [intOf]
                  omega
              · have hv3 : (v == 0) = false := by simp [hv2]
                have hv4 : 0 < v := by omega
                have hU : upto L (q + 1) = pre ++ [(nm, v)] := by
                  have e : upto L (q + 1) = if 0 < L.getD q 0 then upto L q ++ [(nameOf q, L.getD q 0)] else upto L q := rfl
                  rw [e, HV.out, if_pos hv4, HN.out, upto_gap L (m + 1) q hq1 hzq.out, HP.out]
                have hUp := upto_pre L (q + 1) 14 (by omega)
                rw [hU] at hUp
                have hno : ∀ y, y ≠ (nm, v) → ¬ (pre ++ [y] <+: upto L 14) := fun y hy hp => hy (prefix_next hp hUp)
                have HU := Lib.hid hU
                have HNo := Lib.hid hno
                clear hU hUp hno hv2
                obtain ⟨x1, x2⟩ := x
                by_cases hx1 : nm.toList = x1.toList
                · by_cases hx2 : x2 = v
                  · have hx1' : x1 = nm := (WideShapes.bytes_inj (by rw [← ByteArray.toList_eq, ← ByteArray.toList_eq]; exact hx1)).symm
                    subst hx1' hx2
                    clear hx1
                    gi_wp2_with fail
                    refine ⟨trivial, ?_⟩
                    refine (CallsIn.inRound l (callsIn_wide.2 HG2.out)).mono ?_
                    rintro r w6 ⟨rfl, rfl⟩
                    gi_wp2_with fail
                    refine ⟨trivial, ?_⟩
                    refine (CallsIn.inRound l (callsIn_wide.2 (HM.out _))).mono ?_
                    rintro r w6 ⟨rfl, rfl⟩
                    gi_wp2_with fail
                    refine ⟨trivial, ?_⟩
                    refine (CallsIn.inRound l (callsIn_wide.2 HG2.out)).mono ?_
                    rintro r w6 ⟨rfl, rfl⟩
                    gi_wp2
                    have e1 : tot (pre ++ [(x1, x2)]) = T + x2 := by rw [tot_snoc, HT.out]
                    have w1' : wr.grownBy (wr.setCell ⟨S, 0, none⟩ (.int .i64 (T + x2))) (some S) := only_setCell (only_refl wr (some S)) (p := ⟨S, 0, none⟩) (.inl rfl) _
                    refine ⟨hki.trans (KeepsOthers.setCell _ _ _), (Keeps2.of_only hgi (.inr (.inr rfl))).t (Keeps2.of_only w1' (.inr (.inl rfl))), ⟨q, by omega, HU.out.symm, ?_, ?_, ?_, ?_⟩, HW.out.trans ((below_only hgi (by omega) (by omega)).trans (below_only w1' (by have := hgi.size; omega) (Nat.le_refl _)))⟩
                    · rw [e1]; exact World.cell?_setCell_same' _ _ _ (by rw [cSi]; rfl)
                    · rw [World.frozen?_setCell]; exact fSi
                    · rw [World.cell?_setCell_other _ _ _ _ (fun e => by injection e with e1; omega)]; exact c5
                    · rw [World.frozen?_setCell]; exact f5
                  · have hx3 : (x2 != v) = true := by simp [hx2]
                    have HX := Lib.hid (HNo.out (x1, x2) (fun e => hx2 (by injection e)))
                    clear hx2
                    gi_wp2_with fail
                    refine ⟨trivial, ?_⟩
                    refine (CallsIn.inRound l (callsIn_wide.2 HG2.out)).mono ?_
                    rintro r w6 ⟨rfl, rfl⟩
                    gi_wp2_with fail
                    refine ⟨trivial, ?_⟩
                    refine (CallsIn.inRound l (callsIn_wide.2 (HM.out _))).mono ?_
                    rintro r w6 ⟨rfl, rfl⟩
                    gi_wp2_with fail
                    refine ⟨trivial, ?_⟩
                    refine (CallsIn.inRound l (callsIn_wide.2 HG2.out)).mono ?_
                    rintro r w6 ⟨rfl, rfl⟩
                    gi_wp2
                    exact ⟨hki.trans (KeepsOthers.setCell _ _ _), rfl, HX.out⟩
                · have HX := Lib.hid (HNo.out (x1, x2) (fun e => hx1 (by injection e with e1 e2; rw [e1])))
                  gi_wp2_with fail
                  refine ⟨trivial, ?_⟩
                  refine (CallsIn.inRound l (callsIn_wide.2 HG2.out)).mono ?_
                  rintro r w6 ⟨rfl, rfl⟩
                  gi_wp2_with fail
                  refine ⟨trivial, ?_⟩
                  refine (CallsIn.inRound l (callsIn_wide.2 (HM.out _))).mono ?_
                  rintro r w6 ⟨rfl, rfl⟩
                  gi_wp2
                  refine ⟨trivial, ?_⟩
                  gi_wp2
                  exact ⟨hki.trans (KeepsOthers.setCell _ _ _), rfl, HX.out⟩
            · obtain rfl : q = 14 := by omega
              have hU : upto L 14 = pre := by rw [upto_gap L (m + 1) 14 hq1 hzq.out, HP.out]
              have HX := Lib.hid (show ¬ (pre ++ [x] <+: upto L 14) by rw [hU]; exact not_prefix_full pre x)
              clear hU hq3
              gi_wp2
              refine ⟨trivial, ?_⟩
              gi_wp2
              refine ⟨trivial, ?_⟩
              gi_wp2
              refine ⟨trivial, ?_⟩
              gi_wp2
              exact ⟨hki.trans (KeepsOthers.setCell _ _ _), rfl, HX.out⟩
        case done =>
          rintro D xs W hD rfl ⟨⟨m, m1, m2, m3, m4, m5, m6⟩, hbW⟩ hK
          have hN : tot (upto L 14) = N := by rw [tot_upto L (fun i => (HLb.out i).1), hLn.out]
          rw [hN] at m3
          have cGW := (hbW.cell (p := ⟨G, 0, none⟩) hGS).trans cG0
          have fGW := (hbW.frozen (p := ⟨G, 0, none⟩) hGS).trans fG0
          have HB := Lib.hid (hB0.trans (hbW.mono (by omega)))
          have hlt : G < W.heap.size := World.block_lt_of_cell? W _ cGW
          clear hN m2 m1 m5 m6 hB0 hbW q0 q1 hb0 b1 b2 b3 hup1 hz0 hL hL0 hLb hLb2 cCr hcR hfR hS cC0 cG0 fG0
          gi_wp2_with fail
          refine ⟨trivial, ?_⟩
          refine (callsIn_wide.2 (cawake_any _)).mono ?_
          rintro r w8 ⟨rfl, hb8⟩
          have j1 := (hb8.cell (p := ⟨G, 0, none⟩) hlt).trans cGW
          have j2 := (hb8.frozen (p := ⟨G, 0, none⟩) hlt).trans fGW
          have hDl : D < W.heap.size := by
            rcases Nat.lt_or_ge D W.heap.size with h | h
            · exact h
            · rw [Array.getElem?_eq_none h] at hK; cases hK
          have hK3 : w8.heap[D]? = some (.deferred (some [])) := (hb8.block D hDl).trans hK
          gi_wp2
          have hK' := (KeepsOthers.setCell w8 ⟨G, 0, none⟩ (.bool true)).same D _ hK3 rfl
          refine ⟨by simp, .inl ⟨_, _, rfl, run_takeDeferred hK', ?_⟩⟩
          have hc5 := cell_kept (World.cell?_setCell_same' w8 ⟨G, 0, none⟩ (.bool true) (by rw [j1]; rfl)) (grownBy_putObj' _ D (.deferred none)) (fun r e => by cases e; exact ⟨_, hK', rfl⟩)
          have hw : Below G w w8 := HB.out.trans (hb8.mono (by omega))
          refine ⟨.bool true, ?_, rfl, ?_⟩
          · simp [results, Try.f5, go_sem, hc5]
          · rw [HG.out]
            exact (hw.setCell (p := ⟨G, 0, none⟩) (Nat.le_refl _) _).trans ((belowK_b (w := w) (Nat.le_refl _) _ D _ _ (by have := HZ.out; have := HG.out; omega) hK' rfl rfl).mono (by have := HG.out; omega))
        case stop =>
          rintro D c pre W _ hpre ⟨_, hno⟩ _
          exact absurd hpre hno
end Go.Proofs.Ytffbimebgledoaa
