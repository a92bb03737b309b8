/-
  dhcp: bytes' options, by the document.
-/
import Derived.Test.YtfgcbpchapkjbaaDhT
namespace Go.Proofs.Ytfgcbpchapkjbaa
open Go.RowKit

/-- 'b[4:4+m]'. -/
theorem mid_runs {P : Program} {A : Option Addr} {n c : Nat} {d : List UInt8} {t e : TypeId} (ht : P.underlying t = some (.slice e)) (hz : (P.info? e).map (·.size) = some 1) (hc : n ≤ c) (m : Nat) (hk : 4 + m ≤ n) :
    ∃ A' c', (∀ w' : World, (Instr.slice t (.slice A n c) (some (.int .i64 4)) (some (.int .i64 (4 + (m : Int)))) none).run P w' = .ok (.slice A' m c') w') ∧ ∀ W : World, BReads W A n (nums d) → BReads W A' m (nums ((d.drop 4).take m)) := by
  refine ⟨if c = 4 then A else A.map (·.add (4 * 1)), c - 4, fun w' => ?_, fun W h => ⟨?_, fun e => ?_⟩⟩
  · have hel : P.elem t = e := by simp [Program.elem, ht]
    rw [run_slice_lh w' t A n c (by rw [hel]; exact ht) .i64 .i64 4 (4 + (m : Int)) (by omega) (by omega) (by omega), hel]
    obtain ⟨i, hi, hz'⟩ := Option.map_eq_some_iff.1 hz
    have e1 : (4 : Int).toNat = 4 := rfl
    have e2 : (4 + (m : Int)).toNat = 4 + m := by omega
    have e3 : 4 + m - 4 = m := by omega
    simp [sizeOf, typeInfo, hi, hz', Result.andThen, sliced, e1, e2, e3]
  · have h1 := (h.1.cut (k := 4) (cap := c) (by omega) hc).take (k := m) (by omega)
    simpa [nums, List.map_drop, List.map_take] using h1
  · rcases A with _ | ad
    · have := h.2 rfl; omega
    · split at e <;> simp at e

set_option maxRecDepth 100000 in
set_option maxHeartbeats 4000000 in
theorem rparse_any (A : Option Addr) (n c : Nat) (d : List UInt8) (w : World) (h : BReads w A n (nums d)) (hc : n ≤ c) (hn : n ≤ 1048576) :
    Calls Try.prog 33 #[.slice A n c] w (ParseP w d) := by
  obtain ⟨i0, hi0, hz0, hz1, hz2⟩ := info_parts ropt_info
  obtain ⟨j0, hj0, hjz0, hjz1, hjz2⟩ := info_parts byte_info
  go_enter Try.func33, Try.ntmps33
  go_wp2
  go_loopw [0, 4] (fun bv v wr => ∃ (A' : Option Addr) (m c' : Nat) (rest : List UInt8) (its' : List It), bv = .slice A' m c' ∧ BReads w A' m (nums rest) ∧ m ≤ c' ∧ m ≤ n ∧ ORow w.heap.size 70 wr v its' ∧ parseB d = (parseB rest).map (said its' ++ ·) ∧ its'.length + m ≤ n ∧ Below w.heap.size w wr) (fun bv _ _ => slLen bv)
  case atStart => exact ⟨A, n, c, d, [], rfl, h, hc, Nat.le_refl _, ORow.nil _ _ _, by simp [said], by simp, Below.refl _ _⟩
  case round =>
    obtain ⟨A', m, c', rest, its', rfl, hbr, hmc, hmn, hrow, hparse, hlen, hb⟩ := hrel
    have hrm : rest.length = m := by have := hbr.len; rwa [nums_length] at this
    have HRM := Lib.hid hrm
    have HP := Lib.hid hparse
    have HB := Lib.hid hb
    have hww : w.heap.size ≤ wr.heap.size := hb.size
    clear h hrm hparse hb
    obtain ⟨A3, c3, rfl, _⟩ := hrow.reads
    obtain ⟨q, hq⟩ : ∃ q, its'.length = q := ⟨_, rfl⟩
    rw [hq] at hrow hlen ⊢
    have ROW := Lib.hid hrow
    have HBR := Lib.hid hbr
    have HQ := Lib.hid hq
    clear hrow hbr hq
    by_cases hpos : 0 < m
    · by_cases h4 : m < 4
      · have hnone := Lib.hid (show parseB d = none by rw [HP.out, parse_short (by intro e; have := HRM.out; rw [e] at this; simp at this; omega) (by rw [HRM.out]; exact h4)]; rfl)
        go_wp2
        go_ret2
        exact .inr ⟨hnone.out, rfl, HB.out⟩
      · obtain ⟨a, b, x, y, r, hrest⟩ := four_of (d := rest) (by rw [HRM.out]; omega)
        have HBR2 := Lib.hid (show BReads w A' m (nums (a :: b :: x :: y :: r)) by rw [← hrest]; exact HBR.out)
        have hmr := Lib.hid (show m = 4 + r.length by rw [← HRM.out, hrest]; simp; omega)
        have g1 := rget_two A' m c' (a :: b :: x :: y :: r) wr (HBR2.out.below HB.out) (by omega) 0 a b rfl rfl
        have g2 := rget_two A' m c' (a :: b :: x :: y :: r) wr (HBR2.out.below HB.out) (by omega) 2 x y rfl rfl
        obtain ⟨N, hN⟩ : ∃ N : Nat, x.toNat * 256 + y.toNat = N := ⟨_, rfl⟩
        obtain ⟨C, hC⟩ : ∃ C : Nat, a.toNat * 256 + b.toNat = C := ⟨_, rfl⟩
        rw [show ((a.toNat : Int) * 256 + (b.toNat : Int)) = (C : Int) by omega] at g1
        rw [show ((x.toNat : Int) * 256 + (y.toNat : Int)) = (N : Int) by omega] at g2
        have G1 := Lib.hid g1
        have G2 := Lib.hid g2
        have HNE := Lib.hid hN
        have HCE := Lib.hid hC
        have HREST := Lib.hid hrest
        clear g1 g2 hN hC hrest
        by_cases hbig : r.length < N
        · have hnone := Lib.hid (show parseB d = none by rw [HP.out, HREST.out, parse_next, if_pos (by rw [HNE.out]; exact hbig)]; rfl)
          have hd : decide ((m : Int) - 4 < (N : Int)) = true := by have := hmr.out; simp; omega
          go_wp2_with fail
          refine G1.out.mono ?_
          rintro e w1 ⟨rfl, rfl⟩
          go_wp2_with fail
          refine G2.out.mono ?_
          rintro e w1 ⟨rfl, rfl⟩
          go_wp2
          go_ret2
          exact .inr ⟨hnone.out, rfl, HB.out⟩
        · have hd : decide ((m : Int) - 4 < (N : Int)) = false := by have := hmr.out; simp; omega
          have hnx := Lib.hid (show parseB d = ((parseB (r.drop N)).map (fun l => ((C : Int), r.take N) :: l)).map (said its' ++ ·) by
            rw [HP.out, HREST.out, parse_next, if_neg (by rw [HNE.out]; exact hbig), HNE.out, HCE.out])
          have hNm : 4 + N ≤ m := by have := hmr.out; omega
          obtain ⟨A5, c5, hs5, hb5⟩ := mid_runs (P := Try.prog) (A := A') (d := a :: b :: x :: y :: r) (t := 22) (e := 5) Try.underlying22 byte_size hmc N hNm
          obtain ⟨A6, hs6, hb6⟩ := tail_runs (P := Try.prog) (A := A') (d := a :: b :: x :: y :: r) (t := 22) (e := 5) Try.underlying22 byte_size hmc (4 + N) hNm
          have hb5w := (hb5 w HBR2.out).below HB.out
          have hb6w := hb6 w HBR2.out
          rw [show ((a :: b :: x :: y :: r).drop 4).take N = r.take N from rfl] at hb5w
          rw [show (a :: b :: x :: y :: r).drop (4 + N) = r.drop N by rw [Nat.add_comm]; rfl] at hb6w
          obtain ⟨m6, hm6⟩ : ∃ k, m - (4 + N) = k := ⟨_, rfl⟩
          obtain ⟨c6, hc6⟩ : ∃ k, c' - (4 + N) = k := ⟨_, rfl⟩
          simp only [hm6, hc6, show (((4 + N : Nat)) : Int) = 4 + (N : Int) by omega] at hs6
          rw [hm6] at hb6w
          have hm6' : m6 < m := by omega
          have hqn : q + 1 + m6 ≤ n := by omega
          have hmc6 : m6 ≤ c6 := by omega
          have HB5 := Lib.hid hb5w
          have HB6 := Lib.hid hb6w
          clear hb5 hb6 hb5w hb6w hm6 hc6 HBR HBR2
          go_wp2_with fail
          refine G1.out.mono ?_
          rintro e w1 ⟨rfl, rfl⟩
          go_wp2_with fail
          refine G2.out.mono ?_
          rintro e w1 ⟨rfl, rfl⟩
          go_wp2_with (first
            | (at_builtin
               refine wpList_append_any _ rfl (.const (.slice none 0 0)) (.tmp 35) _ rfl wr.heap.size 5 j0 _ 1 1 Try.underlying22 hj0 hjz0 hjz1 hjz2 rfl (by omega) (.slice none 0 0) 0 [] rfl
                 (World.ownsRow_nil _ _ _ _) wr.heap.size A5 N c5 ((nums (r.take N)).map (Value.int .u8)) rfl HB5.out.1 (by intro u hu; obtain ⟨x, _, rfl⟩ := List.mem_map.1 hu; rfl) (by simp only [maxLen]; omega) (by omega) (Nat.le_refl _) ?_
               intro v7 w7 own7 grow7 _
               rw [List.nil_append, Nat.zero_add] at own7
               have bel7 : Below wr.heap.size wr w7 := ⟨grow7.os, grow7.tape, grow7.output, grow7.size, fun i hi => grow7.block i hi (by simp [Value.ownBlock])⟩
               obtain ⟨A7, c7, rfl, dat7, hc7⟩ := Dat.own (owns_base own7 hww)
               have hs7 : w.heap.size ≤ w7.heap.size := Nat.le_trans hww bel7.size
               have hbt : Below w7.heap.size w7 (w7.alloc (.cells #[.int .i64 (C : Int), .slice A7 N c7] 70)) := (Below.refl _ _).alloc (Nat.le_refl _) _
               have R7 := Lib.hid ((ROW.out.below bel7).below hbt)
               have OWN7 := Lib.hid R7.out.own
               rw [HQ.out] at OWN7
               have RD := Lib.hid (show Reads (w7.alloc (.cells #[.int .i64 (C : Int), .slice A7 N c7] 70)) (w7.heap.size + 1) 2 (some ⟨w7.heap.size, 0, none⟩) 1 (It.cells ⟨C, A7, N, c7, r.take N⟩) from reads_two w7 _ _ _)
               have hsz2 : w.heap.size ≤ (w7.alloc (.cells #[.int .i64 (C : Int), .slice A7 N c7] 70)).heap.size := by simp; omega
               have ITOK := Lib.hid (show It.ok w.heap.size _ ⟨C, A7, N, c7, r.take N⟩ from ⟨dat7.below hbt, hc7⟩)
               have BEL1 := Lib.hid ((HB.out.trans (bel7.mono hww)).trans (hbt.mono hs7))
               clear own7 grow7 bel7 dat7 hbt)
            | (at_builtin
               refine wpList_append_any _ rfl (.tmp 30) (.tmp 38) _ rfl w.heap.size 70 i0 _ 2 32 Try.underlying47 hi0 hz0 hz1 hz2 rfl (by omega) (.slice A3 q c3) q (rows its') rfl
                 OWN7.out (w7.heap.size + 1) (some ⟨w7.heap.size, 0, none⟩) 1 1 _ rfl RD.out one2 (by simp only [maxLen]; omega) (by omega) hsz2 ?_
               intro v8 w8 own8 grow8 _))
          have hb8 := (app_others (Below.refl _ _) R7.out.own hsz2 grow8)
          have row8 := R7.out.snoc grow8 (by rw [HQ.out]; exact own8) (by decide) ITOK.out
          refine ⟨⟨A6, m6, c6, r.drop N, its' ++ [⟨C, A7, N, c7, r.take N⟩], rfl, HB6.out, hmc6, by omega, row8, ?_, by simp [HQ.out]; omega, BEL1.out.trans hb8.2⟩, by simp [slLen]; omega⟩
          rw [hnx.out, said_append, Option.map_map]
          congr 1
          funext l
          simp [said, Function.comp]
    · obtain rfl : m = 0 := by omega
      have hrest : rest = [] := List.eq_nil_of_length_eq_zero HRM.out
      have hsome := Lib.hid (show parseB d = some (said its') by rw [HP.out, hrest, parse_nil]; simp)
      obtain ⟨A9, c9, e9, rd9, _⟩ := ROW.out.reads
      injection e9 with e9 _ e9'
      subst e9
      subst e9'
      rw [HQ.out] at rd9
      have RD9 := Lib.hid rd9
      clear hrest rd9
      go_wp2
      go_ret2
      exact .inl ⟨_, A3, q, c3, its', hsome.out, rfl, RD9.out, rfl, HB.out⟩
end Go.Proofs.Ytfgcbpchapkjbaa
