/-
  four: the address that a text says.
-/
import Derived.Test.YtkbbkddepcjoaaaDoorFourG
import Derived.Laws.BitsAllLaws
namespace Go.Proofs.YtkbbkddepcjoaaaDoor
open Go.RowKit

theorem or_i64 (a b : Nat) (ha : a < 18446744073709551616) (hb : b < 18446744073709551616) (h : (a ||| b) ≤ 9223372036854775807) : bits .or .i64 (a : Int) (b : Int) = ((a ||| b : Nat) : Int) := by
  show IntKind.i64.wrap ((BitVec.ofInt 64 (a : Int) ||| BitVec.ofInt 64 (b : Int)).toNat : Int) = _
  rw [BitVec.toNat_or, ofInt_u64 a ha, ofInt_u64 b hb]
  exact IntWalk.i64_in _ (by omega)
set_option maxRecDepth 100000 in
theorem or_byte (a b : Nat) (ha : a < 16777216) (hb : b < 256) : bits .or .i64 ((a : Int) * 256) (b : Int) = (a : Int) * 256 + b := by
  have hj : (a * 256) ||| b = a * 256 + b := nat_join 8 (a * 256) b (by omega) (by omega)
  have := or_i64 (a * 256) b (by omega) (by omega) (by rw [hj]; omega)
  rw [hj] at this
  have e1 : ((a * 256 : Nat) : Int) = (a : Int) * 256 := by omega
  have e2 : ((a * 256 + b : Nat) : Int) = (a : Int) * 256 + b := by omega
  rw [e1, e2] at this
  exact this

def parseL : List (List UInt8) → Nat → Option Nat
  | [], a => some a
  | x :: r, a => match partV x with
    | some n => parseL r (a * 256 + n)
    | none => none
theorem parse_list (s : List UInt8) : parseV s = if (pieces [] s).length = 4 then parseL (pieces [] s) 0 else none := by
  unfold parseV
  generalize pieces [] s = L
  rcases L with _ | ⟨a, _ | ⟨b, _ | ⟨c, _ | ⟨d, _ | ⟨e, r⟩⟩⟩⟩⟩
  · rfl
  · rfl
  · rfl
  · rfl
  · simp only [List.length_cons, List.length_nil, Nat.zero_add, Nat.reduceAdd, if_true, parseL]
    cases partV a <;> cases partV b <;> cases partV c <;> cases partV d <;> simp
  · rw [if_neg (by simp)]
theorem part_lt {w : List UInt8} {n : Nat} (h : partV w = some n) : n < 256 := (part_dec h).1

/-- What Parse gives back. -/
def pvV (r : Option Nat) : Value := .tuple #[.int .i64 (r.getD 0 : Nat), .int .i64 (if r.isSome then 0 else 4)]

set_option maxRecDepth 100000 in
set_option maxHeartbeats 4000000 in
theorem fparse_any (s : List UInt8) (hs : s.length ≤ 1048576) (w : World) : Calls Tryd.prog 54 #[.string (bs s)] w fun r w' => r = .returned (pvV (parseV s)) ∧ Below w.heap.size w w' := by
  have hpl := parse_list s
  obtain ⟨R, hR⟩ : ∃ R, parseV s = R := ⟨_, rfl⟩
  rw [hR] at hpl ⊢
  have hsum : ∀ x ∈ pieces [] s, x.length ≤ 1048576 := by
    intro x hx
    have hgen : ∀ (t cur : List UInt8), ∀ x ∈ pieces cur t, x.length ≤ cur.length + t.length := by
      intro t
      induction t with
      | nil => intro cur x hx; simp [pieces] at hx; simp [hx]
      | cons c cs ih =>
        intro cur x hx
        unfold pieces at hx
        split at hx
        · rcases List.mem_cons.1 hx with rfl | hx
          · simp
          · have := ih [] x hx; simp at this ⊢; omega
        · have := ih _ x hx; simp at this ⊢; omega
    have := hgen s [] x hx
    simp at this
    omega
  have hsp := split_any s hs
  obtain ⟨L, hL⟩ : ∃ L, pieces [] s = L := ⟨_, rfl⟩
  rw [hL] at hpl hsum hsp
  have HSP := Lib.hid hsp
  have HSUM := Lib.hid hsum
  clear hR hL hsp hsum
  by_cases h4 : L.length = 4
  · rw [if_pos h4] at hpl
    have HPL := Lib.hid hpl
    clear hpl
    go_enter Tryd.func54, Tryd.ntmps54
    go_wp2_with fail
    refine (HSP.out w).mono ?_
    rintro r w1 ⟨rfl, blk, bel1⟩
    rw [h4]
    have BLK := Lib.hid blk
    have BEL1 := Lib.hid bel1
    clear blk bel1
    go_wp2
    go_loopw [5, 17] (fun v i wr => ∃ (k a : Nat), i = .int .i64 k ∧ k ≤ 4 ∧ v = .int .i64 a ∧ a < 256 ^ k ∧ R = parseL (L.drop k) a ∧ Below w1.heap.size w1 wr) (fun _ i _ => 4 - (intOf i).toNat)
    case atStart => exact ⟨0, 0, rfl, by omega, rfl, by simp, by simpa using HPL.out, Below.refl _ _⟩
    case round =>
      obtain ⟨k, a, rfl, hk, rfl, ha, hRk, hb⟩ := hrel
      have HB := Lib.hid hb
      have HRK := Lib.hid hRk
      have hwr : w1.heap.size ≤ wr.heap.size := hb.size
      clear hb hRk
      by_cases hlt : k < 4
      · obtain ⟨x, hx⟩ : ∃ x, L[k]? = some x := ⟨_, List.getElem?_eq_getElem (by omega)⟩
        have hm : wr.cell? ⟨w.heap.size, k, none⟩ = some (.string (bs x)) := by
          have h1 := (BLK.out.below HB.out BLK.out.lt).cell k
          rw [h1]
          simp [strs, hx]
        have hxl := HSUM.out x (List.mem_iff_getElem?.2 ⟨k, hx⟩)
        have hdr : L.drop k = x :: L.drop (k + 1) := by
          have hkl : k < L.length := by omega
          rw [List.drop_eq_getElem_cons hkl]
          congr 1
          rw [List.getElem?_eq_getElem hkl] at hx
          exact Option.some.inj hx
        have HDR := Lib.hid hdr
        have ha24 : a < 16777216 := by
          have : 256 ^ k ≤ 256 ^ 3 := Nat.pow_le_pow_right (by omega) (by omega)
          omega
        clear hx hdr
        go_wp2_with fail
        refine (part_any x hxl wr).mono ?_
        rintro r w2 ⟨n, ok, rfl, bel2, hok, hbad⟩
        have BEL2 := Lib.hid (HB.out.trans (bel2.mono hwr))
        have HOK := Lib.hid hok
        have HBAD := Lib.hid hbad
        clear bel2 hok hbad
        cases ok with
        | false =>
          have hn := HBAD.out rfl
          have hRn := Lib.hid (show R = none by rw [HRK.out, HDR.out]; unfold parseL; rw [hn])
          clear hn
          go_wp2
          go_ret2
          exact ⟨by rw [hRn.out]; rfl, BEL1.out.trans (BEL2.out.mono BEL1.out.size)⟩
        | true =>
          have hn := HOK.out rfl
          have hn256 := part_lt hn
          have hRn := Lib.hid (show R = parseL (L.drop (k + 1)) (a * 256 + n) by rw [HRK.out, HDR.out]; show (match partV x with | some n => parseL (L.drop (k + 1)) (a * 256 + n) | none => none) = _; rw [hn])
          have hor := or_byte a n ha24 hn256
          clear hn
          go_wp2
          refine ⟨⟨k + 1, a * 256 + n, by go_num, hlt, ?_, ?_, hRn.out, BEL2.out⟩, by simp [intOf]; omega⟩
          · first
              | rfl
              | (rw [hor]; congr 1)
              | (congr 1; omega)
          · rw [Nat.pow_succ]
            have := Nat.mul_le_mul_right 256 (show a + 1 ≤ 256 ^ k from ha)
            omega
      · obtain rfl : k = 4 := by omega
        have hRa := Lib.hid (show R = some a by rw [HRK.out, ← h4, List.drop_length]; rfl)
        go_wp2
        go_ret2
        exact ⟨by rw [hRa.out]; rfl, BEL1.out.trans (HB.out.mono BEL1.out.size)⟩
  · rw [if_neg h4] at hpl
    have HPL := Lib.hid hpl
    clear hpl
    obtain ⟨m, hm⟩ : ∃ m, L.length = m := ⟨_, rfl⟩
    rw [hm] at h4 HSP
    have hne : ((m : Int) != 4) = true := by simp; omega
    clear hm
    go_enter Tryd.func54, Tryd.ntmps54
    go_wp2_with fail
    refine (HSP.out w).mono ?_
    rintro r w1 ⟨rfl, _, bel1⟩
    go_wp2
    go_ret2
    exact ⟨by rw [HPL.out]; rfl, bel1⟩
end Go.Proofs.YtkbbkddepcjoaaaDoor
