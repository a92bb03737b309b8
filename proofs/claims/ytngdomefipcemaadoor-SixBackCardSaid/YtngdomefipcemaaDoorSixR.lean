/-
  six: the address that a text says, by the document. Printed by wip/gen/sixR.py.
-/
import Derived.Test.YtngdomefipcemaaDoorSixQ
namespace Go.Proofs.YtngdomefipcemaaDoor
open Go.RowKit Go.Great

def p6R (R : Option (List UInt8)) : Value := .tuple #[.agg (match R with | some a => cells6 a | none => z16), .int .i64 (if R.isSome then 0 else 4)]
theorem p6V_ref (s : List UInt8) : p6V (parse6 s) = p6R (ref6 s) := by
  rw [ref6_eq]
  cases parse6 s <;> rfl
theorem run6_step {k n : Nat} {a : List UInt8} {c : UInt8} {cs : List UInt8} {q : Nat × Nat × List UInt8} (h : step6 k n a c = some q) : run6 k n a (c :: cs) = run6 q.1 q.2.1 q.2.2 cs := by
  rw [run6, h]
  rfl
theorem run6_dead {k n : Nat} {a : List UInt8} {c : UInt8} {cs : List UInt8} (h : step6 k n a c = none) : run6 k n a (c :: cs) = none := by
  rw [run6, h]
  rfl
/-- What the two stores of a word make of an address's block. -/
theorem two_set {w : World} {g : Nat} {t : TypeId} {a : List UInt8} (hb : Blk w g t (cells6 a)) (ha : a.length = 16) (k N : Nat) (hk : k ≤ 7) (hN : N < 65536) :
    (∃ u, w.cell? ⟨g, 2 * k, none⟩ = some u) ∧ w.frozen? ⟨g, 2 * k, none⟩ = false ∧ (∃ u, (w.setCell ⟨g, 2 * k, none⟩ (.int .u8 ((N : Int) / 256))).cell? ⟨g, 2 * k + 1, none⟩ = some u) ∧ (w.setCell ⟨g, 2 * k, none⟩ (.int .u8 ((N : Int) / 256))).frozen? ⟨g, 2 * k + 1, none⟩ = false ∧
    Blk ((w.setCell ⟨g, 2 * k, none⟩ (.int .u8 ((N : Int) / 256))).setCell ⟨g, 2 * k + 1, none⟩ (.int .u8 ((N : Int) % 256))) g t (cells6 (put6 a k N)) := by
  have s16 : (cells6 a).size = 16 := by rw [cells6_size, ha]
  have h2 := hb.set_ (2 * k) (.int .u8 ((N : Int) / 256))
  have e := cells6_put a k N hN
  rw [show ((N / 256 : Nat) : Int) = (N : Int) / 256 by omega, show ((N % 256 : Nat) : Int) = (N : Int) % 256 by omega] at e
  refine ⟨⟨_, by rw [hb.cell, Array.getElem?_eq_getElem (by omega)]⟩, hb.frozen _, ⟨_, by rw [h2.cell, Array.getElem?_eq_getElem (by rw [Array.size_setIfInBounds]; omega)]⟩, h2.frozen _, ?_⟩
  rw [← e]
  exact h2.set_ _ _

set_option maxRecDepth 100000 in
set_option maxHeartbeats 4000000 in
theorem rparse6_any (s : List UInt8) (hs : s.length ≤ 1048576) (w : World) : Calls Tryd.prog 22 #[.string (bs s)] w fun r w' => r = .returned (p6V (parse6 s)) ∧ Below w.heap.size w w' := by
  have hsz : (bs s).size = s.length := rfl
  rw [p6V_ref]
  have hz0 : Blk ((w.alloc (.cells z16 31)).alloc (.cells z16 31)) w.heap.size 31 z16 := (Blk.new _ _ _).alloc _
  have hb1 : Blk ((w.alloc (.cells z16 31)).alloc (.cells z16 31)) (w.heap.size + 1) 31 z16 := by
    have := Blk.new (w.alloc (.cells z16 31)) 31 z16
    simpa using this
  have hbw : Below w.heap.size w ((w.alloc (.cells z16 31)).alloc (.cells z16 31)) := ((Below.refl _ _).alloc (Nat.le_refl _) _).alloc (by simp) _
  by_cases h39 : 39 < s.length
  · have hv := Lib.hid (show ref6 s = none by unfold ref6; rw [if_pos h39])
    go_enter Tryd.func22, Tryd.ntmps22
    go_upto_region 2 with fail
    change Code.wp _ _ _ _ ((w.alloc (.cells z16 31)).alloc (.cells z16 31))
    generalize ((w.alloc (.cells z16 31)).alloc (.cells z16 31)) = W1 at hz0 hb1 hbw ⊢
    have HZ := Lib.hid hz0
    have HBW := Lib.hid hbw
    clear hz0 hb1 hbw
    go_upto_region 3 with fail
    apply wp_region_lit
    refine wpList_buildTo rfl 31 _ rfl (some 11) rfl z16 (by kernel_rfl) ?_
    refine wpList_store_row rfl 31 (.tmp 2) (.tmp 11) rfl w.heap.size z16 rfl rfl 31 z16 HZ.out six_size rfl z16_one ?_
    go_wp2_with fail
    refine bodyPost_ret (v := p6R none) ?_ rfl ⟨by rw [hv.out], below_setRow HBW.out (Nat.le_refl _) _⟩
    simp [results, Tryd.f22, asAddr, run_loadVar_row _ w.heap.size 31 31 z16 (0, 0) _ (setRow_heap _ _ z16 z16 _ _ HZ.out) Tryd.underlying31 rfl six_size]
    rfl
  · obtain ⟨R, hR⟩ : ∃ R, ref6 s = R := ⟨_, rfl⟩
    have hrun := show ref6 s = (run6 0 0 zero6 s).bind fun a => if text6 a = s then some a else none by unfold ref6; rw [if_neg h39]
    rw [hR] at hrun ⊢
    have HRUN := Lib.hid hrun
    clear hrun hR
    go_enter Tryd.func22, Tryd.ntmps22
    go_upto_region 2 with fail
    change Code.wp _ _ _ _ ((w.alloc (.cells z16 31)).alloc (.cells z16 31))
    generalize ((w.alloc (.cells z16 31)).alloc (.cells z16 31)) = W1 at hz0 hb1 hbw ⊢
    have HZ := Lib.hid hz0
    have HB1 := Lib.hid hb1
    have HBW := Lib.hid hbw
    clear hz0 hb1 hbw
    go_wp2
    go_loopw [5, 6, 7] (fun p n i wr => ∃ (k P N : Nat) (a : List UInt8), p = .int .i64 P ∧ n = .int .i64 N ∧ i = .int .i64 k ∧ k ≤ s.length ∧ P ≤ 7 ∧ N ≤ 65535 ∧ a.length = 16 ∧ run6 0 0 zero6 s = run6 P N a (s.drop k) ∧ Blk wr (w.heap.size + 1) 31 (cells6 a) ∧ Blk wr w.heap.size 31 z16 ∧ Below w.heap.size w wr) (fun _ _ i _ => s.length - (intOf i).toNat)
    case atStart => exact ⟨0, 0, 0, zero6, rfl, rfl, rfl, by omega, by omega, by omega, rfl, rfl, HB1.out, HZ.out, HBW.out⟩
    case round =>
      obtain ⟨k, P, N, a, rfl, rfl, rfl, hk, hP, hN, hal, hst, hb1, hz0, hbw⟩ := hrel
      clear HZ HB1 HBW
      have HZ := Lib.hid hz0
      have HB1 := Lib.hid hb1
      have HBW := Lib.hid hbw
      clear hz0 hb1 hbw
      by_cases hlt : k < s.length
      · have ik := idx_string (P := Tryd.prog) (bs s) k Tryd.underlying9 (by rw [hsz]; exact hlt)
        rw [bs_data] at ik
        obtain ⟨c, hc⟩ : ∃ c, s.getD k 0 = c := ⟨_, rfl⟩
        have hdr : s.drop k = c :: s.drop (k + 1) := by
          rw [List.drop_eq_getElem_cons hlt, ← hc]
          simp [List.getD_eq_getElem?_getD, hlt]
        rw [hc] at ik
        rw [hdr] at hst
        have HST := Lib.hid hst
        have HCALL := Lib.hid (fun W => value_any c W)
        have hcl := c.toNat_lt
        clear hc hdr hst
        by_cases h58 : c = 58
        · subst h58
          by_cases h7 : P + 1 > 7
          · have hRn := Lib.hid (show R = none by rw [HRUN.out, HST.out, run6_dead (by unfold step6; rw [if_pos rfl, if_pos h7])]; rfl)
            have hd : decide ((7 : Int) < (P : Int) + 1) = true := by simp; omega
            clear HCALL
            go_upto_region 14 with fail
            apply wp_region_lit
            refine wpList_buildTo rfl 31 _ rfl (some 45) rfl z16 (by kernel_rfl) ?_
            refine wpList_store_row rfl 31 (.tmp 2) (.tmp 45) rfl w.heap.size z16 rfl rfl 31 z16 HZ.out six_size rfl z16_one ?_
            go_wp2_with fail
            refine bodyPost_ret (v := p6R none) ?_ rfl ⟨by rw [hRn.out], below_setRow HBW.out (Nat.le_refl _) _⟩
            simp [results, Tryd.f22, asAddr, run_loadVar_row _ w.heap.size 31 31 z16 (0, 0) _ (setRow_heap _ _ z16 z16 _ _ HZ.out) Tryd.underlying31 rfl six_size]
            rfl
          · have HN := Lib.hid (show run6 0 0 zero6 s = run6 (P + 1) 0 (put6 a (P + 1) 0) (s.drop (k + 1)) by rw [HST.out, run6_step (by unfold step6; rw [if_pos rfl, if_neg h7])])
            have hd : decide ((7 : Int) < (P : Int) + 1) = false := by simp; omega
            obtain ⟨⟨u0, c0⟩, f0, ⟨u1, c1⟩, f1, hset⟩ := two_set HB1.out hal (P + 1) 0 (by omega) (by omega)
            obtain ⟨Q, hQ⟩ : ∃ Q, P + 1 = Q := ⟨_, rfl⟩
            have hQI : (P : Int) + 1 = (Q : Int) := by omega
            simp only [Int.natCast_zero, Int.zero_ediv, Int.zero_emod] at c0 c1 f0 f1 hset
            rw [hQ] at c0 c1 f0 f1 hset HN
            have HSET := Lib.hid hset
            clear hset HCALL
            go_wp2
            refine ⟨⟨k + 1, Q, 0, put6 a Q 0, by go_num, by go_num, by go_num, hlt, by omega, by omega, by rw [put6_len, hal], HN.out, ?_, (HZ.out.far (by simp only; omega) _).far (by simp only; omega) _, (HBW.out.setCell (p := ⟨w.heap.size + 1, _, none⟩) (by simp only; omega) _).setCell (p := ⟨w.heap.size + 1, _, none⟩) (by simp only; omega) _⟩, by simp [intOf]; omega⟩
            exact HSET.out
        · have hne : ((c.toNat : Int) == 58) = false := by
            have : ¬ c.toNat = 58 := fun h => h58 ((byte_ne c 58 (by omega)).1 (by omega))
            simp
            omega
          cases hdg : hv c with
          | none =>
            have hRn := Lib.hid (show R = none by rw [HRUN.out, HST.out, run6_dead (by unfold step6; rw [if_neg h58, hdg]; rfl)]; rfl)
            have hvI' : hvI c = -1 := by unfold hvI; rw [hdg]
            have hcall := HCALL.out
            rw [hvI'] at hcall
            have HC2 := Lib.hid hcall
            clear hvI' hcall HCALL hdg
            generalize c.toNat = X at *
            go_wp2_with fail
            refine (HC2.out _).mono ?_
            rintro r w1 ⟨rfl, rfl⟩
            go_upto_region 8 with fail
            apply wp_region_lit
            refine wpList_buildTo rfl 31 _ rfl (some 18) rfl z16 (by kernel_rfl) ?_
            refine wpList_store_row rfl 31 (.tmp 2) (.tmp 18) rfl w.heap.size z16 rfl rfl 31 z16 HZ.out six_size rfl z16_one ?_
            go_wp2_with fail
            refine bodyPost_ret (v := p6R none) ?_ rfl ⟨by rw [hRn.out], below_setRow HBW.out (Nat.le_refl _) _⟩
            simp [results, Tryd.f22, asAddr, run_loadVar_row _ w.heap.size 31 31 z16 (0, 0) _ (setRow_heap _ _ z16 z16 _ _ HZ.out) Tryd.underlying31 rfl six_size]
            rfl
          | some d =>
            have hd16 := hv_lt hdg
            have hvI' : hvI c = (d : Int) := by unfold hvI; rw [hdg]
            have hcall := HCALL.out
            rw [hvI'] at hcall
            have HC2 := Lib.hid hcall
            clear hvI' hcall HCALL
            by_cases hbig : N * 16 + d > 65535
            · have hRn := Lib.hid (show R = none by rw [HRUN.out, HST.out, run6_dead (by unfold step6; rw [if_neg h58, hdg, Option.bind_some, if_pos (Or.inr hbig)])]; rfl)
              have hd7 : decide ((7 : Int) < (P : Int)) = false := by simp; omega
              have hd : decide ((65535 : Int) < (N : Int) * 16 + (d : Int)) = true := by simp; omega
              clear hdg
              generalize c.toNat = X at *
              go_wp2_with fail
              refine (HC2.out _).mono ?_
              rintro r w1 ⟨rfl, rfl⟩
              go_wp2_with fail
              refine (HC2.out _).mono ?_
              rintro r w1 ⟨rfl, rfl⟩
              go_upto_region 14 with fail
              apply wp_region_lit
              refine wpList_buildTo rfl 31 _ rfl (some 45) rfl z16 (by kernel_rfl) ?_
              refine wpList_store_row rfl 31 (.tmp 2) (.tmp 45) rfl w.heap.size z16 rfl rfl 31 z16 HZ.out six_size rfl z16_one ?_
              go_wp2_with fail
              refine bodyPost_ret (v := p6R none) ?_ rfl ⟨by rw [hRn.out], below_setRow HBW.out (Nat.le_refl _) _⟩
              simp [results, Tryd.f22, asAddr, run_loadVar_row _ w.heap.size 31 31 z16 (0, 0) _ (setRow_heap _ _ z16 z16 _ _ HZ.out) Tryd.underlying31 rfl six_size]
              rfl
            · have HN := Lib.hid (show run6 0 0 zero6 s = run6 P (N * 16 + d) (put6 a P (N * 16 + d)) (s.drop (k + 1)) by rw [HST.out, run6_step (by unfold step6; rw [if_neg h58, hdg, Option.bind_some, if_neg (by omega)])])
              have hd7 : decide ((7 : Int) < (P : Int)) = false := by simp; omega
              obtain ⟨⟨u0, c0⟩, f0, ⟨u1, c1⟩, f1, hset⟩ := two_set HB1.out hal P (N * 16 + d) (by omega) (by omega)
              obtain ⟨M, hM⟩ : ∃ M, N * 16 + d = M := ⟨_, rfl⟩
              have hMI : (N : Int) * 16 + (d : Int) = (M : Int) := by omega
              rw [hM] at c1 f1 hset HN hbig
              have hd : decide ((65535 : Int) < (M : Int)) = false := by simp; omega
              have HSET := Lib.hid hset
              clear hset hdg
              generalize c.toNat = X at *
              go_wp2_with fail
              refine (HC2.out _).mono ?_
              rintro r w1 ⟨rfl, rfl⟩
              go_wp2_with fail
              refine (HC2.out _).mono ?_
              rintro r w1 ⟨rfl, rfl⟩
              go_wp2
              refine ⟨⟨k + 1, P, M, put6 a P M, by go_num, by go_num, by go_num, hlt, by omega, by omega, by rw [put6_len, hal], HN.out, ?_, (HZ.out.far (by simp only; omega) _).far (by simp only; omega) _, (HBW.out.setCell (p := ⟨w.heap.size + 1, _, none⟩) (by simp only; omega) _).setCell (p := ⟨w.heap.size + 1, _, none⟩) (by simp only; omega) _⟩, by simp [intOf]; omega⟩
              exact HSET.out
      · obtain rfl : k = s.length := by omega
        rw [List.drop_length] at hst
        have hfin := Lib.hid (show R = if text6 a = s then some a else none by rw [HRUN.out, hst]; rfl)
        have hty := fun W => rtext6_any a hal W
        obtain ⟨T, hT⟩ : ∃ T, text6 a = T := ⟨_, rfl⟩
        rw [hT] at hfin hty
        have hsz6 := six_of hal
        have hone := cells6_one a
        have hlen : z16.size = (cells6 a).size := by rw [cells6_size, hal]; rfl
        obtain ⟨C, hC⟩ : ∃ C, cells6 a = C := ⟨_, rfl⟩
        have hb1 := HB1.out
        rw [hC] at hty hsz6 hone hlen hb1
        have HTY := Lib.hid hty
        have HSZ := Lib.hid hsz6
        have HONE := Lib.hid hone
        have HLEN := Lib.hid hlen
        have HC := Lib.hid hC
        have HB2 := Lib.hid hb1
        have hlist : ((bs T).toList == (bs s).toList) = decide (T = s) := by
          rw [ByteArray.toList_eq, ByteArray.toList_eq, bs_data, bs_data]
          by_cases h : T = s
          · subst h; simp
          · simp [h]
        clear hst hty hT hsz6 hone hlen hC hb1 HB1
        go_upto_region 16 with fail
        apply wp_region_lit
        refine wpList_load_row rfl 31 (.tmp 4) rfl (w.heap.size + 1) rfl 31 C (0, 0) _ HB2.out Tryd.underlying31 rfl HSZ.out ?_
        go_wp2_with fail
        refine (HTY.out _).mono ?_
        rintro r w1 ⟨rfl, bel1⟩
        have hwr : w.heap.size ≤ wr.heap.size := HBW.out.size
        have BEL1 := Lib.hid (HBW.out.trans (bel1.mono hwr))
        have Z1 := Lib.hid (HZ.out.below bel1 HZ.out.lt)
        have B1 := Lib.hid (HB2.out.below bel1 HB2.out.lt)
        clear bel1
        by_cases hTl : T = s
        · have hRs := Lib.hid (show R = some a by rw [hfin.out, if_pos hTl])
          subst hTl
          go_upto_region 18 with fail
          apply wp_region_lit
          refine wpList_load_row rfl 31 (.tmp 4) rfl (w.heap.size + 1) rfl 31 C (0, 0) _ B1.out Tryd.underlying31 rfl HSZ.out ?_
          go_wp2_with (refine wpList_store_row rfl 31 (.tmp 2) (.tmp 64) rfl w.heap.size C rfl rfl 31 z16 Z1.out HSZ.out HLEN.out HONE.out ?_)
          refine bodyPost_ret (v := .tuple #[.agg C, .int .i64 0]) ?_ rfl ⟨by rw [hRs.out, ← HC.out]; rfl, below_setRow BEL1.out (Nat.le_refl _) _⟩
          simp [results, Tryd.f22, asAddr, run_loadVar_row _ w.heap.size 31 31 C (0, 0) _ (setRow_heap _ _ z16 C _ _ Z1.out) Tryd.underlying31 rfl HSZ.out]
        · have hne : decide (T = s) = false := by simp [hTl]
          rw [hne] at hlist
          have hnb : ¬ bs T = bs s := fun h => hTl (by have := congrArg (fun b : ByteArray => b.data.toList) h; simpa [bs_data] using this)
          have hRn := Lib.hid (show R = none by rw [hfin.out, if_neg hTl])
          go_upto_region 17 with fail
          apply wp_region_lit
          refine wpList_buildTo rfl 31 _ rfl (some 63) rfl z16 (by kernel_rfl) ?_
          refine wpList_store_row rfl 31 (.tmp 2) (.tmp 63) rfl w.heap.size z16 rfl rfl 31 z16 Z1.out six_size rfl z16_one ?_
          go_wp2_with fail
          refine bodyPost_ret (v := p6R none) ?_ rfl ⟨by rw [hRn.out], below_setRow BEL1.out (Nat.le_refl _) _⟩
          simp [results, Tryd.f22, asAddr, run_loadVar_row _ w.heap.size 31 31 z16 (0, 0) _ (setRow_heap _ _ z16 z16 _ _ Z1.out) Tryd.underlying31 rfl six_size]
          rfl
end Go.Proofs.YtngdomefipcemaaDoor
