/-
  report: how many lines begin with a word, by the program and by the document.
-/
import Derived.Test.YtkbbkddepcjoaaaDoorRepD
namespace Go.Proofs.YtkbbkddepcjoaaaDoor
open Go.RowKit Go.Great

theorem join_blank (x : List UInt8) : Lib.join [x, []] [32] = x ++ [32] := by rw [join2, Lib.join_one]
theorem hit_eq (w s : List UInt8) : hitV w s = (decide (s = w) || Lib.hasPrefix s (w ++ [32])) := rfl
theorem count_step (w : List UInt8) (L : List (List UInt8)) (k : Nat) (x : List UInt8) (h : L[k]? = some x) : countV w (L.take (k + 1)) = countV w (L.take k) + (if hitV w x then 1 else 0) := by
  unfold countV
  rw [List.take_add_one, h, List.countP_append]
  cases hx : hitV w x <;> simp [hx]
theorem count_le (w : List UInt8) (L : List (List UInt8)) (k : Nat) : countV w (L.take k) ≤ k := by
  unfold countV
  have := List.countP_le_length (p := hitV w) (l := L.take k)
  rw [List.length_take] at this
  omega

set_option maxRecDepth 100000 in
set_option maxHeartbeats 4000000 in
theorem count_any (A : Option Addr) (n c : Nat) (L : List (List UInt8)) (wd : List UInt8) (hwd : wd.length ≤ 140737488355327) (hn : n ≤ 1048576) (w : World) (h : TS w.heap.size w A n c L) : Calls Tryd.prog 25 #[.slice A n c, .string (bs wd)] w fun r w' => r = .returned (.int .i64 (countV wd L : Nat)) ∧ Below w.heap.size w w' := by
  have HL := Lib.hid h.1
  have HTS := Lib.hid h
  have cl := fun (W : World) (h : TRow W W.heap.size 0 [wd, []]) => h
  have c1 := fun g W h => line_any g 2 [wd, []] W h (by simp) (by rw [join_blank]; simp; omega) (by simp)
  rw [join_blank] at c1
  have C1 := Lib.hid c1
  clear h c1 cl
  go_enter Tryd.func25, Tryd.ntmps25
  go_wp2
  go_loopw [5, 10] (fun v i wr => ∃ k : Nat, k ≤ n ∧ i = .int .i64 k ∧ v = .int .i64 (countV wd (L.take k) : Nat) ∧ Below w.heap.size w wr) (fun _ i _ => n - (intOf i).toNat)
  case atStart => exact ⟨0, by omega, rfl, by simp [countV], Below.refl _ _⟩
  case round =>
    obtain ⟨k, hk, rfl, rfl, hb⟩ := hrel
    have HB := Lib.hid hb
    have hkc := count_le wd L k
    clear hb
    by_cases hlt : k < n
    · obtain ⟨x, hx⟩ : ∃ x, L[k]? = some x := ⟨_, List.getElem?_eq_getElem (by rw [← HL.out]; exact hlt)⟩
      obtain ⟨g, o, rfl, hcell, _⟩ := (HTS.out.kept HB.out).at_ hx
      have hst := count_step wd L k x hx
      have hle := list_eq x wd
      have HX := Lib.hid hx
      obtain ⟨K, hK⟩ : ∃ K, countV wd (L.take k) = K := ⟨_, rfl⟩
      rw [hK] at hst hkc
      rw [hK]
      clear hx hK
      by_cases he : x = wd
      · rw [decide_eq_true he] at hle
        have hit : hitV wd x = true := by rw [hit_eq, he]; simp
        rw [hit] at hst
        have HST := Lib.hid hst
        clear hst he hit
        go_wp2
        exact ⟨⟨k + 1, by omega, by go_num, by rw [HST.out]; rfl, HB.out⟩, by simp [intOf]; omega⟩
      · rw [decide_eq_false he] at hle
        have hit : hitV wd x = Lib.hasPrefix x (wd ++ [32]) := by rw [hit_eq, decide_eq_false he, Bool.false_or]
        have c2 := fun W => Tryd.strings_HasPrefix (bs x) (bs (wd ++ [32])) W
        simp only [bs_data] at c2
        rw [← hit] at c2
        obtain ⟨Z, hZ⟩ : ∃ Z, hitV wd x = Z := ⟨_, rfl⟩
        rw [hZ] at c2 hst
        have C2 := Lib.hid c2
        clear c2 hit hZ he
        cases Z with
        | true =>
          have HST := Lib.hid hst
          clear hst
          go_wp2_with (first
            | (go_at_call 37; refine (C1.out _ _ (TRow.of_blk (L := [wd, []]) (Blk.new wr 9 (strs [wd, []]).toArray))).mono ?_; rintro e w2 ⟨rfl, b2⟩; have B2 := Lib.hid ((HB.out.alloc HB.out.size _).trans (b2.mono (Nat.le_trans HB.out.size (by simp)))); clear b2)
            | (go_at_call 48; refine (C2.out _).mono ?_; rintro e w3 ⟨rfl, rfl⟩))
          exact ⟨⟨k + 1, by omega, by go_num, by rw [HST.out]; rfl, B2.out⟩, by simp [intOf]; omega⟩
        | false =>
          have HST := Lib.hid hst
          clear hst
          go_wp2_with (first
            | (go_at_call 37; refine (C1.out _ _ (TRow.of_blk (L := [wd, []]) (Blk.new wr 9 (strs [wd, []]).toArray))).mono ?_; rintro e w2 ⟨rfl, b2⟩; have B2 := Lib.hid ((HB.out.alloc HB.out.size _).trans (b2.mono (Nat.le_trans HB.out.size (by simp)))); clear b2)
            | (go_at_call 48; refine (C2.out _).mono ?_; rintro e w3 ⟨rfl, rfl⟩))
          exact ⟨⟨k + 1, by omega, by go_num, by rw [HST.out]; rfl, B2.out⟩, by simp [intOf]; omega⟩
    · obtain rfl : k = n := by omega
      have ht : L.take k = L := by rw [HL.out]; exact List.take_length
      rw [ht]
      go_wp2
      go_ret
      exact ⟨rfl, HB.out⟩
end Go.Proofs.YtkbbkddepcjoaaaDoor
