/-
  NamePuts: the law's walk.
-/
import Derived.Test.YtfgcbpchapkjbaaNamT
import Derived.Test.YtfgcbpchapkjbaaNamP
namespace Go.Proofs.Ytfgcbpchapkjbaa
open Go.RowKit

set_option maxRecDepth 100000 in
set_option maxHeartbeats 4000000 in
theorem nputs_any (A : Option Addr) (n c : Nat) (d : List UInt8) (l : List UInt8) (w : World) (h : BReads w A n (nums d)) (hn : n ≤ 9223372036854775807) (hlm : l.length ≤ 9223372036854775807) :
    Calls Try.prog 5 #[.slice A n c, .string (bs l)] w fun r w' => r = .returned (.bool true) ∧ Below w.heap.size w w' := by
  have hsz : (bs l).size = l.length := rfl
  by_cases hl : 500 < n ∨ 2000 < l.length
  · clear h
    by_cases h5 : 500 < n
    · go_enter Try.func5, Try.ntmps5
      go_wp2_with (go_at_call 9; refine (nameawake_any _).mono ?_; rintro r w' ⟨rfl, hb⟩)
      go_ret
      exact ⟨rfl, hb⟩
    · have h20 : 2000 < l.length := by omega
      go_enter Try.func5, Try.ntmps5
      go_wp2_with (go_at_call 9; refine (nameawake_any _).mono ?_; rintro r w' ⟨rfl, hb⟩)
      go_ret
      exact ⟨rfl, hb⟩
  · have h5 : n ≤ 500 := by omega
    have h20 : l.length ≤ 2000 := by omega
    clear hl
    obtain ⟨E, hE⟩ : ∃ E : Int, (E = 0 ∨ E = 4) := ⟨0, .inl rfl⟩
    have both : ∃ (N : Nat) (E : Int) (ys : List Int),
        (∀ w, BReads w A n (nums d) → Calls Try.prog 12 #[.slice A n c, .string (bs l)] w fun r w' => ∃ A' c', r = .returned (.tuple #[.slice A' N c', .int .i64 E]) ∧ BReads w' A' N ys ∧ Below w.heap.size w w') ∧
        (∀ w, BReads w A n (nums d) → Calls Try.prog 15 #[.slice A n c, .string (bs l)] w fun r w' => ∃ A' c', r = .returned (.tuple #[.slice A' N c', .int .i64 E]) ∧ BReads w' A' N ys ∧ Below w.heap.size w w') := by
      by_cases hf : fits (labels l)
      · refine ⟨(nums d ++ packL (labels l) ++ [0]).length, 0, nums d ++ packL (labels l) ++ [0], fun w hw => ?_, fun w hw => ?_⟩
        · refine (nput_ok A n c (nums d) l (by omega) hf w hw (by omega)).mono ?_
          rintro r w' ⟨A', n', c', rfl, hb, _, hbel⟩
          obtain rfl := hb.len
          exact ⟨A', c', rfl, hb, hbel⟩
        · refine (rput_ok A n c (nums d) l (by omega) hf w hw (by omega)).mono ?_
          rintro r w' ⟨A', n', c', rfl, hb, _, hbel⟩
          obtain rfl := hb.len
          exact ⟨A', c', rfl, hb, hbel⟩
      · refine ⟨0, 4, [], fun w hw => ?_, fun w hw => ?_⟩
        · refine (nput_bad A n c l (by omega) hf w).mono ?_
          rintro r w' ⟨rfl, hbel⟩
          exact ⟨none, 0, rfl, ⟨Reads.none_, fun _ => rfl⟩, hbel⟩
        · refine (rput_bad A n c l (by omega) hf w).mono ?_
          rintro r w' ⟨rfl, hbel⟩
          exact ⟨none, 0, rfl, ⟨Reads.none_, fun _ => rfl⟩, hbel⟩
    clear hE E
    obtain ⟨N, E, ys, hx, hy⟩ := both
    have HX := Lib.hid hx
    have HY := Lib.hid hy
    have H := Lib.hid h
    clear hx hy h
    go_enter Try.func5, Try.ntmps5
    go_wp2_with fail
    refine (HX.out _ H.out).mono ?_
    rintro r w1 ⟨A1, c1, rfl, hb1, bel1⟩
    have H1 := Lib.hid (H.out.below bel1)
    have HB1 := Lib.hid hb1
    have BEL1 := Lib.hid bel1
    clear HX H hb1 bel1
    go_wp2_with fail
    refine (HY.out _ H1.out).mono ?_
    rintro r w2 ⟨A2, c2, rfl, hb2, bel2⟩
    have HB12 := Lib.hid (HB1.out.below bel2)
    have HB2 := Lib.hid hb2
    have BEL2 := Lib.hid (BEL1.out.trans (bel2.mono BEL1.out.size))
    clear HY H1 hb2 bel2 HB1 BEL1
    go_wp2_with fail
    refine (equal_same A1 A2 N N c1 c2 ys _ HB12.out HB2.out).mono ?_
    rintro r w3 ⟨rfl, rfl⟩
    go_wp2_with fail
    refine (nright_any l (by omega) _).mono ?_
    rintro r w4 ⟨rfl, bel4⟩
    have BEL4 := Lib.hid (BEL2.out.trans (bel4.mono BEL2.out.size))
    clear bel4 BEL2 HB12 HB2
    obtain ⟨R, hR⟩ : ∃ R, rgt l = R := ⟨_, rfl⟩
    rw [hR]
    go_wp2_with fail
    refine (rright_any l (by omega) _).mono ?_
    rintro r w5 ⟨rfl, bel5⟩
    have BEL5 := Lib.hid (BEL4.out.trans (bel5.mono BEL4.out.size))
    clear bel5 BEL4
    rw [hR]
    clear hR
    go_wp2_with fail
    refine (labels_any (bs l) _).mono ?_
    rintro r w6 ⟨rfl, rfl⟩
    have hc6 := (Blk.new w5 9 #[.string (bs l)]).cell 0
    have bel6 : Below w5.heap.size w5 (w5.alloc (.cells #[.string (bs l)] 9)) := (Below.refl _ _).alloc (Nat.le_refl _) _
    have hc6' : (w5.alloc (.cells #[.string (bs l)] 9)).cell? ⟨w5.heap.size, 0, none⟩ = some (.string (bs l)) := hc6
    have BEL6 := Lib.hid (BEL5.out.trans (bel6.mono BEL5.out.size))
    have C6 := Lib.hid hc6'
    clear bel6 BEL5 hc6 hc6'
    obtain ⟨g, hg⟩ : ∃ g, w5.heap.size = g := ⟨_, rfl⟩
    rw [hg] at C6 ⊢
    generalize w5.alloc (.cells #[.string (bs l)] 9) = w6 at *
    go_wp2_with fail
    refine (collect_any g l (by omega) _ C6.out).mono ?_
    rintro r w7 ⟨v7, rfl, own7, bel7⟩
    have BEL7 := Lib.hid (BEL6.out.trans (bel7.mono BEL6.out.size))
    have OWN7 := Lib.hid own7
    clear own7 bel7 C6 BEL6
    go_wp2_with fail
    refine (rlabels_any l (by omega) _).mono ?_
    rintro r w8 ⟨v8, rfl, own8, bel8⟩
    have OWN78 := Lib.hid (owns_below OWN7.out bel8)
    have BEL8 := Lib.hid (BEL7.out.trans (bel8.mono BEL7.out.size))
    have OWN8 := Lib.hid own8
    clear own8 bel8 OWN7 BEL7
    go_wp2_with fail
    refine (sleq_any _ _ v7 v8 (labels l) _ (by have := labels_len l; omega) OWN78.out OWN8.out).mono ?_
    rintro r w9 ⟨rfl, bel9⟩
    have BEL9 := Lib.hid (BEL8.out.trans (bel9.mono BEL8.out.size))
    clear bel9 OWN78 OWN8 BEL8
    go_wp2_with fail
    refine (nameawake_any _).mono ?_
    rintro r w10 ⟨rfl, bel10⟩
    go_wp2
    go_ret
    exact ⟨rfl, BEL9.out.trans (bel10.mono BEL9.out.size)⟩

theorem nputs_arg (A : Option Addr) (n c : Nat) (d : List UInt8) (s : ByteArray) (hs : s.size ≤ maxLen) (w : World) (h : BReads w A n (nums d)) (hn : n ≤ 9223372036854775807) :
    Calls Try.prog 5 #[.slice A n c, .string s] w fun r w' => r = .returned (.bool true) ∧ Below w.heap.size w w' := by
  have := nputs_any A n c d s.data.toList w h hn (by rw [size_data]; unfold maxLen at hs; omega)
  rw [bs_of] at this
  exact this
end Go.Proofs.Ytfgcbpchapkjbaa
