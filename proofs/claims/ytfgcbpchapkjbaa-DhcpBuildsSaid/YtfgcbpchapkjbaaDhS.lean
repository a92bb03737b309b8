/-
  dhcp: bytes' options.
-/
import Derived.Test.YtfgcbpchapkjbaaDhR
namespace Go.Proofs.Ytfgcbpchapkjbaa
open Go.RowKit

def slLen : Value → Nat
  | .slice _ n _ => n
  | _ => 0

/-- What Parse gives back. -/
def ParseP (w : World) (d : List UInt8) (r : Ending) (w' : World) : Prop :=
  (∃ l A' n' c' its', parseB d = some l ∧ r = .returned (.tuple #[.slice A' n' c', .int .i64 0]) ∧ ORd w' A' n' its' ∧ said its' = l ∧ Below w.heap.size w w') ∨
  (parseB d = none ∧ r = .returned (.tuple #[.slice none 0 0, .int .i64 3]) ∧ Below w.heap.size w w')

theorem four_of {d : List UInt8} (h : 4 ≤ d.length) : ∃ a b x y r, d = a :: b :: x :: y :: r := by
  match d, h with
  | a :: b :: x :: y :: r, _ => exact ⟨a, b, x, y, r, rfl⟩

set_option maxRecDepth 100000 in
set_option maxHeartbeats 4000000 in
theorem parse_any (A : Option Addr) (n c : Nat) (d : List UInt8) (w : World) (h : BReads w A n (nums d)) (hc : n ≤ c) (hn : n ≤ 1048576) :
    Calls Try.prog 31 #[.slice A n c] w (ParseP w d) := by
  obtain ⟨i0, hi0, hz0, hz1, hz2⟩ := info_parts opt_info
  have hdn : d.length = n := by have := h.len; rwa [nums_length] at this
  have HDN := Lib.hid hdn
  clear hdn
  go_enter Try.func31, Try.ntmps31
  go_wp2
  go_loopw [0, 4] (fun bv v wr => ∃ (A' : Option Addr) (m c' : Nat) (rest : List UInt8) (its' : List It), bv = .slice A' m c' ∧ BReads w A' m (nums rest) ∧ m ≤ c' ∧ m ≤ n ∧ ORow w.heap.size 65 wr v its' ∧ parseB d = (parseB rest).map (said its' ++ ·) ∧ its'.length + m ≤ n ∧ Below w.heap.size w wr) (fun bv _ _ => slLen bv)
  case atStart => exact ⟨A, n, c, d, [], rfl, h, hc, Nat.le_refl _, ORow.nil _ _ _, by simp [said], by simp, Below.refl _ _⟩
  case round =>
    obtain ⟨A', m, c', rest, its', rfl, hbr, hmc, hmn, hrow, hparse, hlen, hb⟩ := hrel
    have hrm : rest.length = m := by have := hbr.len; rwa [nums_length] at this
    have HRM := Lib.hid hrm
    have HP := Lib.hid hparse
    have HB := Lib.hid hb
    have hww : w.heap.size ≤ wr.heap.size := hb.size
    clear h hrm hparse hb
    obtain ⟨A3, c3, rfl, _⟩ := hrow.reads
    obtain ⟨q, hq⟩ : ∃ q, its'.length = q := ⟨_, rfl⟩
    rw [hq] at hrow hlen ⊢
    have ROW := Lib.hid hrow
    have HBR := Lib.hid hbr
    have HQ := Lib.hid hq
    clear hrow hbr hq
    by_cases hpos : 0 < m
    · by_cases h4 : m < 4
      · have hnone := Lib.hid (show parseB d = none by rw [HP.out, parse_short (by intro e; have := HRM.out; rw [e] at this; simp at this; omega) (by rw [HRM.out]; exact h4)]; rfl)
        go_wp2_with fail
        refine (one_short A' m c' h4 _).mono ?_
        rintro r w1 ⟨rfl, bel1⟩
        have al : Below w1.heap.size w1 (w1.alloc (.cells #[.int .i64 0, .slice none 0 0] 65)) := (Below.refl _ _).alloc (Nat.le_refl _) _
        have BEL := Lib.hid ((HB.out.trans (bel1.mono hww)).trans (al.mono (Nat.le_trans hww bel1.size)))
        clear bel1 al
        go_wp2
        go_ret2
        exact .inr ⟨hnone.out, rfl, BEL.out⟩
      · obtain ⟨a, b, x, y, r, hrest⟩ := four_of (d := rest) (by rw [HRM.out]; omega)
        by_cases hbig : r.length < x.toNat * 256 + y.toNat
        · have hnone := Lib.hid (show parseB d = none by rw [HP.out, hrest, parse_next, if_pos hbig]; rfl)
          have HBR2 := Lib.hid (show BReads w A' m (nums (a :: b :: x :: y :: r)) by rw [← hrest]; exact HBR.out)
          clear hrest
          go_wp2_with fail
          refine (one_long A' m c' a b x y r _ (HBR2.out.below HB.out) hmc (by omega) hbig).mono ?_
          rintro e w1 ⟨rfl, bel1⟩
          have al : Below w1.heap.size w1 (w1.alloc (.cells #[.int .i64 0, .slice none 0 0] 65)) := (Below.refl _ _).alloc (Nat.le_refl _) _
          have BEL := Lib.hid ((HB.out.trans (bel1.mono hww)).trans (al.mono (Nat.le_trans hww bel1.size)))
          clear bel1 al
          go_wp2
          go_ret2
          exact .inr ⟨hnone.out, rfl, BEL.out⟩
        · have hnx := Lib.hid (show parseB d = ((parseB (r.drop (x.toNat * 256 + y.toNat))).map (fun l => (((a.toNat * 256 + b.toNat : Nat) : Int), r.take (x.toNat * 256 + y.toNat)) :: l)).map (said its' ++ ·) by rw [HP.out, hrest, parse_next, if_neg hbig])
          have HBR2 := Lib.hid (show BReads w A' m (nums (a :: b :: x :: y :: r)) by rw [← hrest]; exact HBR.out)
          have hmr := Lib.hid (show m = 4 + r.length by rw [← HRM.out, hrest]; simp; omega)
          obtain ⟨N, hN⟩ : ∃ N : Nat, x.toNat * 256 + y.toNat = N := ⟨_, rfl⟩
          obtain ⟨C, hC⟩ : ∃ C : Nat, a.toNat * 256 + b.toNat = C := ⟨_, rfl⟩
          have hone := one_ok A' m c' a b x y r wr (HBR2.out.below HB.out) hmc (by omega) (by omega)
          rw [hN, hC] at hone hnx
          rw [hN] at hbig
          have HONE := Lib.hid hone
          clear hrest hone hN hC
          go_wp2_with fail
          refine HONE.out.mono ?_
          rintro e w1 ⟨A7, c7, A6, m6, c6, rfl, own7, hb6, hmc6, bel1⟩
          obtain ⟨A8, c8, e8, dat8, hc8⟩ := Dat.own (owns_base own7 hww)
          injection e8 with e8 _ e9
          subst e8
          subst e9
          have hbw := hb6 w HBR2.out
          have hm6 : m6 = r.length - N := by have := hbw.len; rw [nums_length, List.length_drop] at this; exact this.symm
          have hbt : Below w1.heap.size w1 ((w1.alloc (.cells #[.int .i64 (C : Int), .slice A7 N c7] 65)).alloc (.cells #[.int .i64 (C : Int), .slice A7 N c7] 65)) := ((Below.refl _ _).alloc (Nat.le_refl _) _).alloc (by simp) _
          have hs1 : w.heap.size ≤ w1.heap.size := Nat.le_trans hww bel1.size
          have R7 := Lib.hid ((ROW.out.below bel1).below hbt)
          have OWN7 := Lib.hid R7.out.own
          rw [HQ.out] at OWN7
          have RD := Lib.hid (show Reads ((w1.alloc (.cells #[.int .i64 (C : Int), .slice A7 N c7] 65)).alloc (.cells #[.int .i64 (C : Int), .slice A7 N c7] 65)) (w1.heap.size + 1 + 1) 2 (some ⟨w1.heap.size + 1, 0, none⟩) 1 (It.cells ⟨C, A7, N, c7, r.take N⟩) by
            have := reads_two (w1.alloc (.cells #[.int .i64 (C : Int), .slice A7 N c7] 65)) 65 (.int .i64 C) (.slice A7 N c7)
            simp only [World.size_alloc] at this
            exact this)
          have hsz2 : w.heap.size ≤ ((w1.alloc (.cells #[.int .i64 (C : Int), .slice A7 N c7] 65)).alloc (.cells #[.int .i64 (C : Int), .slice A7 N c7] 65)).heap.size := by simp; omega
          have ITOK := Lib.hid (show It.ok w.heap.size _ ⟨C, A7, N, c7, r.take N⟩ from ⟨dat8.below hbt, hc8⟩)
          have BEL1 := Lib.hid ((HB.out.trans (bel1.mono hww)).trans (hbt.mono hs1))
          have HB6 := Lib.hid hbw
          have HM6 := Lib.hid hm6
          have hmr' : m6 < m := by have := hmr.out; omega
          have hqn : q + 1 + m6 ≤ n := by omega
          clear own7 hb6 hbw bel1 dat8 hbt hm6 HONE HBR HBR2 ROW
          go_wp2_with (at_builtin
                       refine wpList_append_any _ rfl (.tmp 19) (.tmp 21) _ rfl w.heap.size 65 i0 _ 2 32 Try.underlying42 hi0 hz0 hz1 hz2 rfl (by omega) (.slice A3 q c3) q (rows its') rfl
                         OWN7.out (w1.heap.size + 1 + 1) (some ⟨w1.heap.size + 1, 0, none⟩) 1 1 _ rfl RD.out one2 (by simp only [maxLen]; omega) (by omega) hsz2 ?_
                       intro v5 w5 own5 grow5 _)
          have hb5 := (app_others (Below.refl _ _) R7.out.own hsz2 grow5)
          have row5 := R7.out.snoc grow5 (by rw [HQ.out]; exact own5) (by decide) ITOK.out
          refine ⟨⟨A6, m6, c6, r.drop N, its' ++ [⟨C, A7, N, c7, r.take N⟩], rfl, ?_, hmc6, by omega, row5, ?_, by simp [HQ.out]; omega, BEL1.out.trans hb5.2⟩, by simp [slLen]; omega⟩
          · exact HB6.out
          · rw [hnx.out, said_append, Option.map_map]
            congr 1
            funext l
            simp [said, Function.comp]
    · obtain rfl : m = 0 := by omega
      have hrest : rest = [] := List.eq_nil_of_length_eq_zero HRM.out
      have hsome := Lib.hid (show parseB d = some (said its') by rw [HP.out, hrest, parse_nil]; simp)
      obtain ⟨A9, c9, e9, rd9, _⟩ := ROW.out.reads
      injection e9 with e9 _ e9'
      subst e9
      subst e9'
      rw [HQ.out] at rd9
      have RD9 := Lib.hid rd9
      clear hrest rd9
      go_wp2
      go_ret2
      exact .inl ⟨_, A3, q, c3, its', hsome.out, rfl, RD9.out, rfl, HB.out⟩
end Go.Proofs.Ytfgcbpchapkjbaa
