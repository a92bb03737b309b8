/-
  be: numbers of two bytes; the same by the document.
-/
import Derived.Test.YtfgcbpchapkjbaaDhL
namespace Go.Proofs.Ytfgcbpchapkjbaa
open Go.RowKit Go.Shelf
attribute [local go_sem] Oper.semAt_some

theorem beright_two (w : World) : Calls Try.prog 56 #[.int .i64 2] w fun r w' => r = .returned (.bool true) ∧ w = w' := by
  go_enter Try.func56, Try.ntmps56
  go_wp2
  go_ret
  exact ⟨rfl, rfl⟩

def fits2 (n : Int) : Bool := decide (0 ≤ n ∧ n < 65536)

theorem befits_two (n : Int) (hl : -9223372036854775808 ≤ n) (hu : n ≤ 9223372036854775807) (w : World) : Calls Try.prog 43 #[.int .i64 n, .int .i64 2] w fun r w' => r = .returned (.bool (fits2 n)) ∧ w = w' := by
  by_cases h0 : 0 ≤ n
  · have hs : (n / 65536 == 0) = decide (n < 65536) := by
      by_cases h : n < 65536
      · rw [show n / 65536 = 0 by omega]; simp [h]
      · have : n / 65536 ≠ 0 := by omega
        simp [h]; omega
    have hf : fits2 n = decide (n < 65536) := by unfold fits2; simp [h0]
    rw [hf]
    clear hf
    go_enter Try.func43, Try.ntmps43
    go_wp2_with (go_at_call 56; refine (beright_two _).mono ?_; rintro r w' ⟨rfl, rfl⟩)
    go_ret
    first
      | exact ⟨rfl, rfl⟩
      | exact ⟨by rw [hs], rfl⟩
  · have hf : fits2 n = false := by unfold fits2; simp [h0]
    rw [hf]
    clear hf
    go_enter Try.func43, Try.ntmps43
    go_wp2_with (go_at_call 56; refine (beright_two _).mono ?_; rintro r w' ⟨rfl, rfl⟩)
    go_ret
    exact ⟨rfl, rfl⟩

def pw : Nat → Int
  | 0 => 1
  | 1 => 256
  | _ => 65536
theorem rpow_any (k : Nat) (hk : k ≤ 2) (w : World) : Calls Try.prog 60 #[.int .i64 k] w fun r w' => r = .returned (.int .i64 (pw k)) ∧ w = w' := by
  go_enter Try.func60, Try.ntmps60
  go_wp2
  go_loopw [3, 4] (fun v i wr => ∃ j : Nat, i = .int .i64 j ∧ j ≤ k ∧ v = .int .i64 (pw j) ∧ w = wr) (fun _ i _ => k - (intOf i).toNat)
  case atStart => exact ⟨0, rfl, by omega, rfl, rfl⟩
  case round =>
    obtain ⟨j, rfl, hj, rfl, rfl⟩ := hrel
    by_cases hlt : j < k
    · rcases (show j = 0 ∨ j = 1 by omega) with rfl | rfl
      · simp only [pw]
        go_wp2
        exact ⟨⟨1, rfl, hlt, rfl, trivial⟩, by simp [intOf]; omega⟩
      · simp only [pw]
        go_wp2
        exact ⟨⟨2, rfl, hlt, rfl, trivial⟩, by simp [intOf]; omega⟩
    · obtain rfl : j = k := by omega
      go_wp2
      go_ret
      exact ⟨rfl, rfl⟩

theorem rfits_two (n : Int) (w : World) : Calls Try.prog 46 #[.int .i64 n, .int .i64 2] w fun r w' => r = .returned (.bool (fits2 n)) ∧ w = w' := by
  by_cases h0 : 0 ≤ n
  · have hf : fits2 n = decide (n < 65536) := by unfold fits2; simp [h0]
    rw [hf]
    clear hf
    go_enter Try.func46, Try.ntmps46
    go_wp2_with (go_at_call 60; refine (rpow_any 2 (by omega) _).mono ?_; rintro r w' ⟨rfl, rfl⟩; simp only [pw])
    go_ret
    exact ⟨rfl, rfl⟩
  · have hf : fits2 n = false := by unfold fits2; simp [h0]
    rw [hf]
    clear hf
    go_enter Try.func46, Try.ntmps46
    go_wp2_with (go_at_call 60; refine (rpow_any 2 (by omega) _).mono ?_; rintro r w' ⟨rfl, rfl⟩; simp only [pw])
    go_ret
    exact ⟨rfl, rfl⟩

/-- Two bytes of a number. -/
def two (n : Int) : List Int := [n / 256, n % 256]

set_option maxHeartbeats 4000000 in
set_option maxRecDepth 100000 in
/-- Bytes with a number of two behind them, by the document. -/
theorem rput_two (A : Option Addr) (k c : Nat) (xs : List Int) (n : Int) (h0 : 0 ≤ n) (hn : n < 65536) (w : World) (h : BReads w A k xs) (hk : k ≤ 1099511627776) :
    Calls Try.prog 47 #[.slice A k c, .int .i64 n, .int .i64 2] w fun r w' => ∃ v, r = .returned v ∧ w'.ownsRow w.heap.size 5 1 v (k + 2) ((xs ++ two n).map (Value.int .u8)) ∧ Below w.heap.size w w' := by
  obtain ⟨i0, hi0, hz0, hz1, hz2⟩ := info_parts byte_info
  obtain rfl : xs.length = k := h.len
  have hf : fits2 n = true := by unfold fits2; simp [h0, hn]
  have H := Lib.hid h
  clear h
  go_enter Try.func47, Try.ntmps47
  go_wp2_with (first
    | (go_at_call 46; refine (rfits_two n _).mono ?_; rintro r w' ⟨rfl, rfl⟩; rw [hf])
    | (at_builtin
       refine wpList_append_any _ rfl (.const (.slice none 0 0)) (.tmp 9) _ rfl w.heap.size 5 i0 _ 1 1 Try.underlying22 hi0 hz0 hz1 hz2 rfl (by omega) (.slice none 0 0) 0 [] rfl
         (World.ownsRow_nil _ _ _ _) w.heap.size A xs.length c (xs.map (Value.int .u8)) rfl H.out.1 (by intro u hu; obtain ⟨x, _, rfl⟩ := List.mem_map.1 hu; rfl) (by simp only [maxLen]; omega) (by omega) (Nat.le_refl _) ?_
       intro v2 w2 own2 grow2 _
       rw [List.nil_append, Nat.zero_add] at own2))
  have b2 : Below w.heap.size w w2 := ⟨grow2.os, grow2.tape, grow2.output, grow2.size, fun i hi => grow2.block i hi (by simp [Value.ownBlock])⟩
  have OWN := Lib.hid own2
  have B2 := Lib.hid b2
  clear grow2 own2 b2 H
  have hq1 : n / 256 < 256 := by omega
  go_loopw [7, 8] (fun v i wr => ∃ (j : Nat), i = .int .i64 (1 - (j : Int)) ∧ j ≤ 2 ∧ wr.ownsRow w.heap.size 5 1 v (xs.length + j) ((xs ++ (two n).take j).map (Value.int .u8)) ∧ Below w.heap.size w wr) (fun _ i _ => (intOf i + 1).toNat)
  case atStart => exact ⟨0, rfl, by omega, by simpa using OWN.out, B2.out⟩
  case round =>
    obtain ⟨j, rfl, hj, hown, hb⟩ := hrel
    have hwr : w.heap.size ≤ wr.heap.size := hb.size
    clear OWN B2
    have hbt : ∀ x : Int, Below wr.heap.size wr (wr.alloc (.cells #[.int .u8 x] 5)) := fun x => (Below.refl _ _).alloc (Nat.le_refl _) _
    obtain ⟨A3, c3, rfl, _⟩ := own_breads hown
    rcases (show j = 0 ∨ j = 1 ∨ j = 2 by omega) with rfl | rfl | rfl
    · replace hbt := hbt (n / 256 % 256)
      simp only [Nat.add_zero, Int.sub_zero, Int.ofNat_zero] at hown ⊢
      have OWN := Lib.hid hown
      have HB := Lib.hid hb
      clear hown hb
      go_wp2_with (first
        | (go_at_call 60; refine (rpow_any 1 (by omega) _).mono ?_; rintro r w' ⟨rfl, rfl⟩; simp only [pw])
        | (at_builtin
           refine wpList_append_any _ rfl (.tmp 22) (.tmp 29) _ rfl w.heap.size 5 i0 _ 1 1 Try.underlying22 hi0 hz0 hz1 hz2 rfl (by omega) (.slice A3 xs.length c3) xs.length _ rfl
             (OWN.out.alloc _) (wr.heap.size + 1) (some ⟨wr.heap.size, 0, none⟩) 1 1 [.int .u8 (n / 256 % 256)] rfl (reads_one _ _ _) (by simp [Value.oneCell']) (by simp only [maxLen]; omega) (by omega) (by simp; omega) ?_
           intro v5 w5 own5 grow5 _))
      have hb5 := (app_others hbt OWN.out hwr grow5).2
      refine ⟨⟨1, rfl, by omega, ?_, HB.out.trans hb5⟩, by simp [intOf]⟩
      rw [show n / 256 % 256 = n / 256 by omega] at own5
      simpa [two] using own5
    · replace hbt := hbt (n % 256)
      simp only [show (1 : Int) - ((1 : Nat) : Int) = 0 from rfl] at hown ⊢
      have OWN := Lib.hid hown
      have HB := Lib.hid hb
      clear hown hb
      go_wp2_with (first
        | (go_at_call 60; refine (rpow_any 0 (by omega) _).mono ?_; rintro r w' ⟨rfl, rfl⟩; simp only [pw])
        | (at_builtin
           refine wpList_append_any _ rfl (.tmp 22) (.tmp 29) _ rfl w.heap.size 5 i0 _ 1 1 Try.underlying22 hi0 hz0 hz1 hz2 rfl (by omega) (.slice A3 (xs.length + 1) c3) (xs.length + 1) _ rfl
             (OWN.out.alloc _) (wr.heap.size + 1) (some ⟨wr.heap.size, 0, none⟩) 1 1 [.int .u8 (n % 256)] rfl (reads_one _ _ _) (by simp [Value.oneCell']) (by simp only [maxLen]; omega) (by omega) (by simp; omega) ?_
           intro v5 w5 own5 grow5 _))
      have hb5 := (app_others hbt OWN.out hwr grow5).2
      refine ⟨⟨2, rfl, by omega, ?_, HB.out.trans hb5⟩, by simp [intOf]⟩
      simpa [two] using own5
    · simp only [show (1 : Int) - ((2 : Nat) : Int) = -1 from rfl] at hown ⊢
      have OWN := Lib.hid hown
      have HB := Lib.hid hb
      clear hown hb
      go_wp2
      go_ret
      exact ⟨_, rfl, by simpa [two] using OWN.out, HB.out⟩
end Go.Proofs.Ytfgcbpchapkjbaa
