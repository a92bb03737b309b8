/-
  four: whether a number is an address; its bytes; its text.
-/
import Derived.Test.YtkbbkddepcjoaaaDoorFourA
import Derived.Test.YtkbbkddepcjoaaaDoorStr
namespace Go.Proofs.YtkbbkddepcjoaaaDoor
open Go.RowKit

def right (a : Int) : Bool := decide (0 ≤ a ∧ a < 4294967296)
theorem fright_any (a : Int) (w : World) : Calls Tryd.prog 57 #[.int .i64 a] w fun r w' => r = .returned (.bool (right a)) ∧ w = w' := by
  by_cases h0 : 0 ≤ a
  · have hf : right a = decide (a < 4294967296) := by unfold right; simp [h0]
    rw [hf]
    clear hf
    go_enter Tryd.func57, Tryd.ntmps57
    go_wp2
    go_ret
    exact ⟨rfl, rfl⟩
  · have hf : right a = false := by unfold right; simp [h0]
    rw [hf]
    clear hf
    go_enter Tryd.func57, Tryd.ntmps57
    go_wp2
    go_ret
    exact ⟨rfl, rfl⟩
theorem rright_any (a : Int) (w : World) : Calls Tryd.prog 70 #[.int .i64 a] w fun r w' => r = .returned (.bool (right a)) ∧ w = w' := by
  by_cases h0 : 0 ≤ a
  · have hf : right a = decide (a < 4294967296) := by unfold right; simp [h0]
    rw [hf]
    clear hf
    go_enter Tryd.func70, Tryd.ntmps70
    go_wp2
    go_ret
    exact ⟨rfl, rfl⟩
  · have hf : right a = false := by unfold right; simp [h0]
    rw [hf]
    clear hf
    go_enter Tryd.func70, Tryd.ntmps70
    go_wp2
    go_ret
    exact ⟨rfl, rfl⟩

theorem fsplit_any (a : Int) (h0 : 0 ≤ a) (h1 : a < 4294967296) (w : World) : Calls Tryd.prog 58 #[.int .i64 a] w fun r w' => r = .returned (.agg #[.int .u8 (a / 16777216), .int .u8 (a / 65536 % 256), .int .u8 (a / 256 % 256), .int .u8 (a % 256)]) ∧ Below w.heap.size w w' := by
  have e1 : a / 16777216 % 256 = a / 16777216 := by omega
  have k0 := Blk.new w 93 #[.int .u8 0, .int .u8 0, .int .u8 0, .int .u8 0]
  have c0 := (Blk.new w 93 #[.int .u8 (a / 16777216), .int .u8 (a / 65536 % 256), .int .u8 (a / 256 % 256), .int .u8 (a % 256)]).cell 0
  have c1 := (Blk.new w 93 #[.int .u8 (a / 16777216), .int .u8 (a / 65536 % 256), .int .u8 (a / 256 % 256), .int .u8 (a % 256)]).cell 1
  have c2 := (Blk.new w 93 #[.int .u8 (a / 16777216), .int .u8 (a / 65536 % 256), .int .u8 (a / 256 % 256), .int .u8 (a % 256)]).cell 2
  have c3 := (Blk.new w 93 #[.int .u8 (a / 16777216), .int .u8 (a / 65536 % 256), .int .u8 (a / 256 % 256), .int .u8 (a % 256)]).cell 3
  simp only [List.getElem?_toArray, List.getElem?_cons_zero, List.getElem?_cons_succ] at c0 c1 c2 c3
  go_enter Tryd.func58, Tryd.ntmps58
  go_wp2
  refine ⟨rfl, .agg #[.int .u8 (a / 16777216), .int .u8 (a / 65536 % 256), .int .u8 (a / 256 % 256), .int .u8 (a % 256)], ?_, rfl, (Below.refl _ _).alloc (Nat.le_refl _) _⟩
  simp [results, Tryd.f58, go_sem, c0, c1, c2, c3]

/-- 'a[i]' of an array of bytes. -/
theorem idx_arr {P : Program} {t e : TypeId} {n : Nat} {cs : Array Value} (h : P.underlying t = some (.array n e)) (ha : ∀ w, (isAgg e).run P w = .ok false w) (hz : (P.info? e).map (·.size) = some 1) (i : Int) (k : Nat) (hk : i = k) (hi : k < n) (v : Value) (hv : cs[k]? = some v) (w : World) :
    (Instr.index t (.agg cs) (.int .i64 i)).run P w = .ok v w := by
  subst hk
  obtain ⟨j, hj, hjz⟩ := Option.map_eq_some_iff.1 hz
  simp [Instr.index, run_underlying h, asIntOf, sizeOf, typeInfo, hj, hjz, hi, go_sem, ha, hv]
theorem tab_below {P : Program} {w w' : World} {name : String} {k : IntKind} {zs : List Int} (h : Lib.TabIs P w name k zs) (hb : Below w.heap.size w w') : Lib.TabIs P w' name k zs := by
  unfold Lib.TabIs World.var? at h ⊢
  cases hg : P.globalNamed name with
  | none => rw [hg] at h; cases h
  | some g =>
    rw [hg] at h
    simp only [Option.bind_some] at h ⊢
    have hlt : g < w.heap.size := by
      rcases Nat.lt_or_ge g w.heap.size with h1 | h1
      · exact h1
      · rw [Array.getElem?_eq_none h1] at h; cases h
    rw [hb.block g hlt]
    exact h
theorem grow_below (w : World) (k : Nat) (os : Array Obj) : Below w.heap.size w (Go.Sort.grow (w.drewN k) os) :=
  ⟨rfl, rfl, rfl, by simp [Go.Sort.grow], fun i hi => by
    show (w.heap ++ os)[i]? = _
    rw [Array.getElem?_append_left hi]⟩

/-- strconv.Itoa of a byte. -/
theorem itoa_byte (n : Nat) (hn : n < 256) (w : World) (htab : Lib.TabIs Tryd.prog w "internal/strconv.uint64pow10" .u64 Lib.pow10Tab) : Calls Tryd.prog 56 #[.int .i64 n] w fun e w' => e = .returned (.string (bs (dec n))) ∧ Below w.heap.size w w' := by
  refine (Tryd.strconv_Itoa n (by omega) (by omega) w htab).mono ?_
  rintro e w' ⟨rfl, k, os, rfl⟩
  refine ⟨?_, grow_below w k os⟩
  congr 2
  unfold bs
  congr 2
  unfold Lib.itoa
  rw [if_neg (by omega), show ((n : Int)).toNat = n by omega, dec_eq n (by omega)]

def textV (a : Int) : List UInt8 := if right a then text a.toNat else []
theorem right_spec {a : Int} (h : right a = true) : 0 ≤ a ∧ a < 4294967296 := by
  unfold right at h
  exact of_decide_eq_true h
def byteOf (a k : Nat) : Nat := if k = 0 then a / 16777216 else if k = 1 then a / 65536 % 256 else if k = 2 then a / 256 % 256 else a % 256
def words (a : Nat) : List (List UInt8) := [dec (a / 16777216), dec (a / 65536 % 256), dec (a / 256 % 256), dec (a % 256)]
theorem words_join (a : Nat) : Lib.join (words a) [46] = text a := by
  unfold words text
  simp [Lib.join, List.intercalate]

set_option maxRecDepth 100000 in
set_option maxHeartbeats 4000000 in
theorem ftext_any (a : Int) (w : World) (htab : Lib.TabIs Tryd.prog w "internal/strconv.uint64pow10" .u64 Lib.pow10Tab) :
    Calls Tryd.prog 40 #[.int .i64 a] w fun r w' => r = .returned (.string (bs (textV a))) ∧ Below w.heap.size w w' := by
  obtain ⟨i0, hi0, hz0, hz1, hz2⟩ := info_parts str_info
  have HTAB := Lib.hid htab
  clear htab
  cases hr : right a with
  | false =>
    have hv : textV a = [] := by unfold textV; rw [hr]; rfl
    rw [hv]
    clear hv
    go_enter Tryd.func40, Tryd.ntmps40
    go_wp2_with (go_at_call 57; refine (fright_any a _).mono ?_; rintro r w' ⟨rfl, rfl⟩; rw [hr])
    go_ret
    exact ⟨rfl, Below.refl _ _⟩
  | true =>
    obtain ⟨h0, h1⟩ := right_spec hr
    obtain ⟨N, rfl⟩ := Int.eq_ofNat_of_zero_le h0
    have hv : textV (N : Int) = text N := by unfold textV; rw [hr]; rfl
    have HV := Lib.hid hv
    have hN : N < 4294967296 := by omega
    clear hv
    go_enter Tryd.func40, Tryd.ntmps40
    have hsp := fun W => fsplit_any (N : Int) h0 h1 W
    obtain ⟨b0, hb0⟩ : ∃ b : Nat, N / 16777216 = b := ⟨_, rfl⟩
    obtain ⟨b1, hb1⟩ : ∃ b : Nat, N / 65536 % 256 = b := ⟨_, rfl⟩
    obtain ⟨b2, hb2⟩ : ∃ b : Nat, N / 256 % 256 = b := ⟨_, rfl⟩
    obtain ⟨b3, hb3⟩ : ∃ b : Nat, N % 256 = b := ⟨_, rfl⟩
    rw [show (N : Int) / 16777216 = (b0 : Int) by omega, show (N : Int) / 65536 % 256 = (b1 : Int) by omega, show (N : Int) / 256 % 256 = (b2 : Int) by omega, show (N : Int) % 256 = (b3 : Int) by omega] at hsp
    have HSP := Lib.hid hsp
    have hwd : words N = [dec b0, dec b1, dec b2, dec b3] := by unfold words; rw [hb0, hb1, hb2, hb3]
    have HWD := Lib.hid hwd
    have l0 : b0 < 256 := by omega
    have l1 : b1 < 256 := by omega
    have l2 : b2 < 256 := by omega
    have l3 : b3 < 256 := by omega
    obtain ⟨D, hD⟩ : ∃ D, words N = D := ⟨_, rfl⟩
    have HD := Lib.hid hD
    have hDl : D.length = 4 := by rw [← hD]; rfl
    clear hsp hb0 hb1 hb2 hb3 hwd hD
    go_wp2_with (first
      | (go_at_call 57; refine (fright_any (N : Int) _).mono ?_; rintro r w' ⟨rfl, rfl⟩; rw [hr])
      | (at_make
         refine wpList_make_own w rfl (.const (.int .i64 0)) (.const (.int .i64 4)) 57 rfl w.heap.size 9 i0 _ 1 Tryd.underlying57 hi0 hz0 hz1 .i64 .i64 4 4 rfl rfl rfl (by rw [hz2]; omega) (by simp [maxLen]) (Nat.le_refl _) ?_
         intro w1 own1 grow1))
    have b1' : Below w.heap.size w w1 := (Below.refl _ _).grown grow1 (Nat.le_refl _) (by simp)
    refine (HSP.out _).mono ?_
    rintro r w2 ⟨rfl, bel2⟩
    have OWN2 := Lib.hid (owns_below own1 bel2)
    have BEL2 := Lib.hid (b1'.trans (bel2.mono b1'.size))
    clear own1 grow1 b1' bel2
    go_wp2
    go_loopw [3, 12] (fun v i wr => ∃ (k : Nat), i = .int .i64 k ∧ k ≤ 4 ∧ wr.ownsRow w.heap.size 9 1 v k (strs (D.take k)) ∧ Below w.heap.size w wr) (fun _ i _ => 4 - (intOf i).toNat)
    case atStart => exact ⟨0, rfl, by omega, OWN2.out, BEL2.out⟩
    case round =>
      obtain ⟨k, rfl, hk, hown, hb⟩ := hrel
      have hwr : w.heap.size ≤ wr.heap.size := hb.size
      obtain ⟨A3, c3, rfl, _⟩ := own_slice' hown
      clear OWN2 BEL2
      rcases (show k = 0 ∨ k = 1 ∨ k = 2 ∨ k = 3 ∨ k = 4 by omega) with rfl | rfl | rfl | rfl | rfl
      · have OWN := Lib.hid hown
        have HB := Lib.hid hb
        have hDk := Lib.hid (show D[0]? = some (dec b0) by rw [← HD.out, HWD.out]; rfl)
        have hix := fun W => idx_arr (P := Tryd.prog) (cs := #[.int .u8 (b0 : Int), .int .u8 (b1 : Int), .int .u8 (b2 : Int), .int .u8 (b3 : Int)]) Tryd.underlying93 (e := 5) Tryd.isAgg5 byte_size 0 0 rfl (by omega) (.int .u8 (b0 : Int)) rfl W
        clear hown hb
        go_wp2_with fail
        refine (itoa_byte b0 l0 _ (tab_below HTAB.out HB.out)).mono ?_
        rintro r w5 ⟨rfl, bel5⟩
        have hbt : Below w5.heap.size w5 (w5.alloc (.cells #[.string (bs (dec b0))] 9)) := (Below.refl _ _).alloc (Nat.le_refl _) _
        have OWN5 := Lib.hid (owns_below OWN.out bel5)
        have BEL5 := Lib.hid (HB.out.trans (bel5.mono hwr))
        have hw5 : w.heap.size ≤ w5.heap.size := BEL5.out.size
        clear bel5 OWN
        go_wp2_with (at_builtin
                     refine wpList_append_any _ rfl (.tmp 15) (.tmp 19) _ rfl w.heap.size 9 i0 _ 1 16 Tryd.underlying57 hi0 hz0 hz1 hz2 rfl (by omega) (.slice A3 0 c3) 0 (strs (D.take 0)) rfl
                       (OWN5.out.alloc _) (w5.heap.size + 1) (some ⟨w5.heap.size, 0, none⟩) 1 1 [.string (bs (dec b0))] rfl (reads_one _ _ _) (by simp [Value.oneCell']) (by simp only [maxLen]; omega) (by omega) (by simp; omega) ?_
                     intro v6 w6 own6 grow6 _)
        have hb6 := (app_others hbt OWN5.out hw5 grow6).2
        refine ⟨⟨1, rfl, by omega, ?_, BEL5.out.trans hb6⟩, by simp [intOf]⟩
        rw [List.take_add_one, hDk.out]
        simpa [strs] using own6
      · have OWN := Lib.hid hown
        have HB := Lib.hid hb
        have hDk := Lib.hid (show D[1]? = some (dec b1) by rw [← HD.out, HWD.out]; rfl)
        have hix := fun W => idx_arr (P := Tryd.prog) (cs := #[.int .u8 (b0 : Int), .int .u8 (b1 : Int), .int .u8 (b2 : Int), .int .u8 (b3 : Int)]) Tryd.underlying93 (e := 5) Tryd.isAgg5 byte_size 1 1 rfl (by omega) (.int .u8 (b1 : Int)) rfl W
        clear hown hb
        go_wp2_with fail
        refine (itoa_byte b1 l1 _ (tab_below HTAB.out HB.out)).mono ?_
        rintro r w5 ⟨rfl, bel5⟩
        have hbt : Below w5.heap.size w5 (w5.alloc (.cells #[.string (bs (dec b1))] 9)) := (Below.refl _ _).alloc (Nat.le_refl _) _
        have OWN5 := Lib.hid (owns_below OWN.out bel5)
        have BEL5 := Lib.hid (HB.out.trans (bel5.mono hwr))
        have hw5 : w.heap.size ≤ w5.heap.size := BEL5.out.size
        clear bel5 OWN
        go_wp2_with (at_builtin
                     refine wpList_append_any _ rfl (.tmp 15) (.tmp 19) _ rfl w.heap.size 9 i0 _ 1 16 Tryd.underlying57 hi0 hz0 hz1 hz2 rfl (by omega) (.slice A3 1 c3) 1 (strs (D.take 1)) rfl
                       (OWN5.out.alloc _) (w5.heap.size + 1) (some ⟨w5.heap.size, 0, none⟩) 1 1 [.string (bs (dec b1))] rfl (reads_one _ _ _) (by simp [Value.oneCell']) (by simp only [maxLen]; omega) (by omega) (by simp; omega) ?_
                     intro v6 w6 own6 grow6 _)
        have hb6 := (app_others hbt OWN5.out hw5 grow6).2
        refine ⟨⟨2, rfl, by omega, ?_, BEL5.out.trans hb6⟩, by simp [intOf]⟩
        rw [List.take_add_one, hDk.out]
        simpa [strs] using own6
      · have OWN := Lib.hid hown
        have HB := Lib.hid hb
        have hDk := Lib.hid (show D[2]? = some (dec b2) by rw [← HD.out, HWD.out]; rfl)
        have hix := fun W => idx_arr (P := Tryd.prog) (cs := #[.int .u8 (b0 : Int), .int .u8 (b1 : Int), .int .u8 (b2 : Int), .int .u8 (b3 : Int)]) Tryd.underlying93 (e := 5) Tryd.isAgg5 byte_size 2 2 rfl (by omega) (.int .u8 (b2 : Int)) rfl W
        clear hown hb
        go_wp2_with fail
        refine (itoa_byte b2 l2 _ (tab_below HTAB.out HB.out)).mono ?_
        rintro r w5 ⟨rfl, bel5⟩
        have hbt : Below w5.heap.size w5 (w5.alloc (.cells #[.string (bs (dec b2))] 9)) := (Below.refl _ _).alloc (Nat.le_refl _) _
        have OWN5 := Lib.hid (owns_below OWN.out bel5)
        have BEL5 := Lib.hid (HB.out.trans (bel5.mono hwr))
        have hw5 : w.heap.size ≤ w5.heap.size := BEL5.out.size
        clear bel5 OWN
        go_wp2_with (at_builtin
                     refine wpList_append_any _ rfl (.tmp 15) (.tmp 19) _ rfl w.heap.size 9 i0 _ 1 16 Tryd.underlying57 hi0 hz0 hz1 hz2 rfl (by omega) (.slice A3 2 c3) 2 (strs (D.take 2)) rfl
                       (OWN5.out.alloc _) (w5.heap.size + 1) (some ⟨w5.heap.size, 0, none⟩) 1 1 [.string (bs (dec b2))] rfl (reads_one _ _ _) (by simp [Value.oneCell']) (by simp only [maxLen]; omega) (by omega) (by simp; omega) ?_
                     intro v6 w6 own6 grow6 _)
        have hb6 := (app_others hbt OWN5.out hw5 grow6).2
        refine ⟨⟨3, rfl, by omega, ?_, BEL5.out.trans hb6⟩, by simp [intOf]⟩
        rw [List.take_add_one, hDk.out]
        simpa [strs] using own6
      · have OWN := Lib.hid hown
        have HB := Lib.hid hb
        have hDk := Lib.hid (show D[3]? = some (dec b3) by rw [← HD.out, HWD.out]; rfl)
        have hix := fun W => idx_arr (P := Tryd.prog) (cs := #[.int .u8 (b0 : Int), .int .u8 (b1 : Int), .int .u8 (b2 : Int), .int .u8 (b3 : Int)]) Tryd.underlying93 (e := 5) Tryd.isAgg5 byte_size 3 3 rfl (by omega) (.int .u8 (b3 : Int)) rfl W
        clear hown hb
        go_wp2_with fail
        refine (itoa_byte b3 l3 _ (tab_below HTAB.out HB.out)).mono ?_
        rintro r w5 ⟨rfl, bel5⟩
        have hbt : Below w5.heap.size w5 (w5.alloc (.cells #[.string (bs (dec b3))] 9)) := (Below.refl _ _).alloc (Nat.le_refl _) _
        have OWN5 := Lib.hid (owns_below OWN.out bel5)
        have BEL5 := Lib.hid (HB.out.trans (bel5.mono hwr))
        have hw5 : w.heap.size ≤ w5.heap.size := BEL5.out.size
        clear bel5 OWN
        go_wp2_with (at_builtin
                     refine wpList_append_any _ rfl (.tmp 15) (.tmp 19) _ rfl w.heap.size 9 i0 _ 1 16 Tryd.underlying57 hi0 hz0 hz1 hz2 rfl (by omega) (.slice A3 3 c3) 3 (strs (D.take 3)) rfl
                       (OWN5.out.alloc _) (w5.heap.size + 1) (some ⟨w5.heap.size, 0, none⟩) 1 1 [.string (bs (dec b3))] rfl (reads_one _ _ _) (by simp [Value.oneCell']) (by simp only [maxLen]; omega) (by omega) (by simp; omega) ?_
                     intro v6 w6 own6 grow6 _)
        have hb6 := (app_others hbt OWN5.out hw5 grow6).2
        refine ⟨⟨4, rfl, by omega, ?_, BEL5.out.trans hb6⟩, by simp [intOf]⟩
        rw [List.take_add_one, hDk.out]
        simpa [strs] using own6
      · have OWN := Lib.hid hown
        have HB := Lib.hid hb
        clear hown hb
        go_wp2_with fail
        have hown4 := OWN.out
        rw [List.take_of_length_le (by omega)] at hown4
        obtain ⟨A7, c7, e7, hc7⟩ := own_slice hown4
        injection e7 with e7 _ e7'
        subst e7
        subst e7'
        have hj := join_any A3 c3 D wr (by rw [hDl]; exact hc7) (by rw [← HD.out, words_join]; have := text_len hN; omega) (by omega)
        rw [hDl] at hj
        refine hj.mono ?_
        rintro r w7 ⟨rfl, bel7⟩
        go_wp2
        go_ret
        exact ⟨by rw [HV.out, ← HD.out, words_join]; rfl, HB.out.trans (bel7.mono hwr)⟩
end Go.Proofs.YtkbbkddepcjoaaaDoor
