/-
  be: the number that two bytes are; the same by the document.
-/
import Derived.Test.YtfgcbpchapkjbaaDhN
import Derived.Laws.BitsAllLaws
namespace Go.Proofs.Ytfgcbpchapkjbaa
open Go.RowKit

theorem two_of {d : List UInt8} {a : Nat} {x y : UInt8} (h0 : d[a]? = some x) (h1 : d[a + 1]? = some y) : (d.drop a).take 2 = [x, y] := by
  have l0 := (List.getElem?_eq_some_iff.1 h0)
  have l1 := (List.getElem?_eq_some_iff.1 h1)
  obtain ⟨p0, e0⟩ := l0
  obtain ⟨p1, e1⟩ := l1
  rw [List.drop_eq_getElem_cons p0, List.drop_eq_getElem_cons p1, e0, e1]
  rfl

theorem or_i64 (a b : Nat) (ha : a < 18446744073709551616) (hb : b < 18446744073709551616) (h : (a ||| b) ≤ 9223372036854775807) : bits .or .i64 (a : Int) (b : Int) = ((a ||| b : Nat) : Int) := by
  show IntKind.i64.wrap ((BitVec.ofInt 64 (a : Int) ||| BitVec.ofInt 64 (b : Int)).toNat : Int) = _
  rw [BitVec.toNat_or, ofInt_u64 a ha, ofInt_u64 b hb]
  exact IntWalk.i64_in _ (by omega)
theorem or_zero (b : Nat) (hb : b < 256) : bits .or .i64 0 (b : Int) = (b : Int) := by
  have := or_i64 0 b (by omega) (by omega) (by rw [Nat.zero_or]; omega)
  rw [Nat.zero_or] at this
  exact this
set_option maxRecDepth 100000 in
theorem or_byte (a b : Nat) (ha : a < 256) (hb : b < 256) : bits .or .i64 ((a : Int) * 256) (b : Int) = (a : Int) * 256 + b := by
  have hj : (a * 256) ||| b = a * 256 + b := nat_join 8 (a * 256) b (by omega) (by omega)
  have := or_i64 (a * 256) b (by omega) (by omega) (by rw [hj]; omega)
  rw [hj] at this
  have e1 : ((a * 256 : Nat) : Int) = (a : Int) * 256 := by omega
  have e2 : ((a * 256 + b : Nat) : Int) = (a : Int) * 256 + b := by omega
  rw [e1, e2] at this
  exact this

theorem win_runs {P : Program} {w : World} {A : Option Addr} {n c : Nat} {d : List UInt8} {t e : TypeId} (ht : P.underlying t = some (.slice e)) (hz : (P.info? e).map (·.size) = some 1)
    (h : BReads w A n (nums d)) (hc : n ≤ c) (a : Nat) (ha : a + 2 ≤ n) :
    ∃ A', (∀ w' : World, (Instr.slice t (.slice A n c) (some (.int .i64 (a : Int))) (some (.int .i64 ((a : Int) + 2))) (some (.int .i64 ((a : Int) + 2)))).run P w' = .ok (.slice A' 2 2) w') ∧ BReads w A' 2 (nums ((d.drop a).take 2)) := by
  refine ⟨if c = a then A else A.map (·.add (a * 1)), fun w' => ?_, h.piece hc a 2 ha (by omega)⟩
  have hel : P.elem t = e := by simp [Program.elem, ht]
  rw [run_slice_lhm w' t A n c (by rw [hel]; exact ht) .i64 .i64 .i64 a ((a : Int) + 2) ((a : Int) + 2) (by omega) (by omega) (by omega) (by omega), hel]
  obtain ⟨i, hi, hz'⟩ := Option.map_eq_some_iff.1 hz
  have e1 : ((a : Int)).toNat = a := by omega
  have e2 : ((a : Int) + 2).toNat = a + 2 := by omega
  have e3 : a + 2 - a = 2 := by omega
  have e4 : c ≠ a := by omega
  simp [sizeOf, typeInfo, hi, hz', Result.andThen, sliced, e1, e2, e3, e4]

set_option maxRecDepth 100000 in
set_option maxHeartbeats 2000000 in
theorem window_two (A : Option Addr) (n c : Nat) (d : List UInt8) (w : World) (h : BReads w A n (nums d)) (hc : n ≤ c) (hn : n ≤ 1099511627776) (a : Nat) (ha : a + 2 ≤ n) :
    Calls Try.prog 65 #[.slice A n c, .int .i64 a, .int .i64 2] w fun r w' => ∃ A', r = .returned (.tuple #[.slice A' 2 2, .int .i64 0]) ∧ BReads w A' 2 (nums ((d.drop a).take 2)) ∧ w = w' := by
  obtain ⟨A', hsl, hbr⟩ := win_runs (P := Try.prog) (w := w) (t := 22) (e := 5) Try.underlying22 byte_size h hc a ha
  have HBR := Lib.hid hbr
  have hd1 : decide ((n : Int) < 2) = false := by simp; omega
  have hd2 : decide ((n : Int) - 2 < (a : Int)) = false := by simp; omega
  clear h hbr
  go_enter Try.func65, Try.ntmps65
  go_wp2_with (go_at_call 56; refine (beright_two _).mono ?_; rintro r w' ⟨rfl, rfl⟩)
  go_ret2
  exact ⟨A', rfl, HBR.out, rfl⟩

set_option maxRecDepth 100000 in
set_option maxHeartbeats 2000000 in
theorem get_two (A : Option Addr) (n c : Nat) (d : List UInt8) (w : World) (h : BReads w A n (nums d)) (hc : n ≤ c) (hn : n ≤ 1099511627776) (a : Nat) (x y : UInt8) (h0 : d[a]? = some x) (h1 : d[a + 1]? = some y) :
    Calls Try.prog 59 #[.slice A n c, .int .i64 a, .int .i64 2] w fun r w' => r = .returned (.tuple #[.int .i64 ((x.toNat : Int) * 256 + y.toNat), .int .i64 0]) ∧ w = w' := by
  have hln : a + 2 ≤ n := by
    have l1 := (List.getElem?_eq_some_iff.1 h1).1
    have := h.len
    rw [nums_length] at this
    omega
  have hxy := two_of h0 h1
  have hx := x.toNat_lt
  have hy := y.toNat_lt
  obtain ⟨X, hX⟩ : ∃ X, x.toNat = X := ⟨_, rfl⟩
  obtain ⟨Y, hY⟩ : ∃ Y, y.toNat = Y := ⟨_, rfl⟩
  have hnn : nums [x, y] = [(X : Int), (Y : Int)] := by simp [nums, hX, hY]
  rw [hX] at hx ⊢
  rw [hY] at hy ⊢
  have H := Lib.hid h
  clear h h0 h1 hX hY
  go_enter Try.func59, Try.ntmps59
  go_wp2_with fail
  refine (window_two A n c d _ H.out hc hn a hln).mono ?_
  rintro r w1 ⟨A', rfl, hbr, rfl⟩
  rw [hxy, hnn] at hbr
  obtain ⟨ad, u0, rfl, hb0, hu0, hc0⟩ := hbr.1.at_ (k := 0) (by omega)
  obtain ⟨ad', u1, e', hb1, hu1, hc1⟩ := hbr.1.at_ (k := 1) (by omega)
  injection e' with e'
  subst e'
  obtain rfl : Value.int .u8 (X : Int) = u0 := by simpa using hu0
  obtain rfl : Value.int .u8 (Y : Int) = u1 := by simpa using hu1
  rw [show ad.add 0 = ad by simp [Addr.add]] at hc0
  rw [show ad.add 1 = ⟨ad.block, ad.off + 1, none⟩ by simp [Addr.add]] at hc1
  clear hbr hu0 hu1 hxy hnn H
  go_wp2
  go_loopw [10, 22] (fun v i wr => ∃ (j : Nat), i = .int .i64 j ∧ j ≤ 2 ∧ v = .int .i64 (if j = 0 then 0 else if j = 1 then (X : Int) else (X : Int) * 256 + Y) ∧ w = wr) (fun _ i _ => 2 - (intOf i).toNat)
  case atStart => exact ⟨0, rfl, by omega, rfl, rfl⟩
  case round =>
    obtain ⟨j, rfl, hj, rfl, rfl⟩ := hrel
    rcases (show j = 0 ∨ j = 1 ∨ j = 2 by omega) with rfl | rfl | rfl
    · simp only [if_true, Int.ofNat_zero]
      have q := or_zero X hx
      go_wp2
      exact ⟨⟨1, rfl, by omega, rfl, trivial⟩, by simp [intOf]⟩
    · simp only [show ¬ (1 : Nat) = 0 by omega, if_false, if_true]
      have q := or_byte X Y hx hy
      go_wp2
      exact ⟨⟨2, rfl, by omega, rfl, trivial⟩, by simp [intOf]⟩
    · simp only [show ¬ (2 : Nat) = 0 by omega, show ¬ (2 : Nat) = 1 by omega, if_false]
      go_wp2
      go_ret2
      exact ⟨rfl, rfl⟩

set_option maxRecDepth 100000 in
set_option maxHeartbeats 2000000 in
theorem rget_two (A : Option Addr) (n c : Nat) (d : List UInt8) (w : World) (h : BReads w A n (nums d)) (hn : n ≤ 1099511627776) (a : Nat) (x y : UInt8) (h0 : d[a]? = some x) (h1 : d[a + 1]? = some y) :
    Calls Try.prog 48 #[.slice A n c, .int .i64 a, .int .i64 2] w fun r w' => r = .returned (.tuple #[.int .i64 ((x.toNat : Int) * 256 + y.toNat), .int .i64 0]) ∧ w = w' := by
  have hdl : d.length = n := by have := h.len; rwa [nums_length] at this
  have hln : a + 2 ≤ n := by
    have l1 := (List.getElem?_eq_some_iff.1 h1).1
    omega
  have hx := x.toNat_lt
  have hy := y.toNat_lt
  obtain ⟨ad, u0, rfl, hb0, hu0, hc0⟩ := h.1.at_ (k := a) (by omega)
  obtain ⟨ad', u1, e', hb1, hu1, hc1⟩ := h.1.at_ (k := a + 1) (by omega)
  injection e' with e'
  subst e'
  obtain rfl : Value.int .u8 (x.toNat : Int) = u0 := by simpa [nums, h0] using hu0
  obtain rfl : Value.int .u8 (y.toNat : Int) = u1 := by simpa [nums, h1] using hu1
  obtain ⟨X, hX⟩ : ∃ X, x.toNat = X := ⟨_, rfl⟩
  obtain ⟨Y, hY⟩ : ∃ Y, y.toNat = Y := ⟨_, rfl⟩
  rw [hX] at hx hc0 ⊢
  rw [hY] at hy hc1 ⊢
  rw [show ad.add (a + 1) = ⟨ad.block, ad.off + (a + 1), none⟩ by simp [Addr.add]] at hc1
  have hd2 : decide ((n : Int) - 2 < (a : Int)) = false := by simp; omega
  clear h h0 h1 hX hY hu0 hu1 hdl
  go_enter Try.func48, Try.ntmps48
  go_wp2
  go_loopw [8, 9] (fun v i wr => ∃ (j : Nat), i = .int .i64 j ∧ j ≤ 2 ∧ v = .int .i64 (if j = 0 then 0 else if j = 1 then (X : Int) else (X : Int) * 256 + Y) ∧ w = wr) (fun _ i _ => 2 - (intOf i).toNat)
  case atStart => exact ⟨0, rfl, by omega, rfl, rfl⟩
  case round =>
    obtain ⟨j, rfl, hj, rfl, rfl⟩ := hrel
    rcases (show j = 0 ∨ j = 1 ∨ j = 2 by omega) with rfl | rfl | rfl
    · simp only [if_true, Int.ofNat_zero]
      go_wp2
      exact ⟨⟨1, rfl, by omega, rfl, trivial⟩, by simp [intOf]⟩
    · simp only [show ¬ (1 : Nat) = 0 by omega, if_false, if_true, show ((1 : Nat) : Int) = 1 from rfl]
      go_wp2
      exact ⟨⟨2, rfl, by omega, rfl, trivial⟩, by simp [intOf]⟩
    · simp only [show ¬ (2 : Nat) = 0 by omega, show ¬ (2 : Nat) = 1 by omega, if_false]
      go_wp2
      go_ret2
      exact ⟨rfl, rfl⟩
end Go.Proofs.Ytfgcbpchapkjbaa
