/-
  six: strconv.FormatInt to the base 16, of a number below 65536.
-/
import Derived.Test.YtngdomefipcemaaDoorSixD
namespace Go.Proofs.YtngdomefipcemaaDoor
open Go.RowKit

def digs36 : ByteArray := ⟨#[48, 49, 50, 51, 52, 53, 54, 55, 56, 57, 97, 98, 99, 100, 101, 102, 103, 104, 105, 106, 107, 108, 109, 110, 111, 112, 113, 114, 115, 116, 117, 118, 119, 120, 121, 122]⟩
theorem d36_all : ∀ k : Fin 16, digs36.data.toList.getD k.val 0 = hexd k.val := by decide +kernel
theorem idx_36 (V : Nat) (h : V < 16) (w : World) : (Instr.index 9 (.string ⟨#[48, 49, 50, 51, 52, 53, 54, 55, 56, 57, 97, 98, 99, 100, 101, 102, 103, 104, 105, 106, 107, 108, 109, 110, 111, 112, 113, 114, 115, 116, 117, 118, 119, 120, 121, 122]⟩) (.int .u64 (V : Int))).run Tryd.prog w = .ok (.int .u8 ((hexd V).toNat : Int)) w := by
  have hs : digs36.size = 36 := by decide +kernel
  have := d36_all ⟨V, h⟩
  simp only at this
  rw [← this]
  show (Instr.index 9 (.string digs36) (.int .u64 (V : Int))).run Tryd.prog w = _
  rw [run_index_string w 9 digs36 .u64 V Tryd.underlying9, dif_pos ⟨by omega, by omega⟩]
  congr 3
  have hk' : V < digs36.data.toList.length := by simp [hs]; omega
  simp only [List.getD_eq_getElem?_getD, List.getElem?_eq_getElem hk', Option.getD_some, Int.toNat_natCast]
  rfl
theorem and_15 (U : Nat) (h : U < 65536) : bits .and .u64 (U : Int) 15 = ((U % 16 : Nat) : Int) := by
  have := bits_and_u64_nat U 15 (by omega) (by omega)
  rw [show ((15 : Nat) : Int) = 15 from rfl] at this
  rw [this]
  congr 1
  exact Nat.and_two_pow_sub_one_eq_mod U 4

/-- The digits that lie at the array's end. -/
def BK (w : World) (g n k : Nat) : Prop := ∃ cs, Blk w g 90 cs ∧ cs.size = 65 ∧ ∀ j, j < k → cs[64 - j]? = some (.int .u8 ((hexd (n / 16 ^ j % 16)).toNat : Int))
theorem BK.set_ {w : World} {g n k : Nat} (h : BK w g n k) (hk : k < 65) : BK (w.setCell ⟨g, 64 - k, none⟩ (.int .u8 ((hexd (n / 16 ^ k % 16)).toNat : Int))) g n (k + 1) := by
  obtain ⟨cs, hb, hs, hc⟩ := h
  refine ⟨_, hb.set_ (64 - k) _, by simpa using hs, fun j hj => ?_⟩
  rw [Array.getElem?_setIfInBounds]
  by_cases e : j = k
  · subst e
    rw [if_pos rfl, if_pos (by omega)]
  · rw [if_neg (by omega)]
    exact hc j (by omega)
theorem BK.cell {w : World} {g n k : Nat} (h : BK w g n k) (i : Nat) (hi : i < 65) : ∃ u, w.cell? ⟨g, i, none⟩ = some u := by
  obtain ⟨cs, hb, hs, hc⟩ := h
  exact ⟨cs[i], by rw [hb.cell i, Array.getElem?_eq_getElem (by omega)]⟩
theorem BK.frozen {w : World} {g n k : Nat} (h : BK w g n k) (i : Nat) : w.frozen? ⟨g, i, none⟩ = false := by
  obtain ⟨cs, hb, hs, hc⟩ := h
  exact hb.frozen i
theorem BK.reads {w : World} {g n k : Nat} (h : BK w g n k) (hk : k ≤ 65) (l : List UInt8) (hl : l.length = k) (hd : ∀ j, j < k → l.getD (k - 1 - j) 0 = hexd (n / 16 ^ j % 16)) : BReads w (some ⟨g, 65 - k, none⟩) k (nums l) := by
  obtain ⟨cs, hb, hs, hc⟩ := h
  refine ⟨⟨by simp [nums_length, hl], fun hn => ⟨_, rfl, hb.lt, fun j u hu => ?_⟩⟩, fun e => by cases e⟩
  have hj : j < k := by
    have := (List.getElem?_eq_some_iff.1 hu).1
    simpa [nums_length, hl] using this
  have h1 := hc (k - 1 - j) (by omega)
  have h2 := hd (k - 1 - j) (by omega)
  rw [show k - 1 - (k - 1 - j) = j by omega] at h2
  rw [Addr.add_mid, hb.cell, show 65 - k + j = 64 - (k - 1 - j) by omega, h1]
  rw [List.getElem?_map, Option.map_eq_some_iff] at hu
  obtain ⟨z, hz, rfl⟩ := hu
  unfold nums at hz
  rw [List.getElem?_map, Option.map_eq_some_iff] at hz
  obtain ⟨c, hc', rfl⟩ := hz
  rw [← h2]
  simp [List.getD_eq_getElem?_getD, hc']
theorem hex_digs (n k : Nat) (hn : n < 65536) (hk : k ≤ 3) (hlt : n / 16 ^ k < 16) (hge : 16 ^ k ≤ n ∨ k = 0) : (hex n).length = k + 1 ∧ ∀ j, j < k + 1 → (hex n).getD (k + 1 - 1 - j) 0 = hexd (n / 16 ^ j % 16) := by
  rcases (show k = 0 ∨ k = 1 ∨ k = 2 ∨ k = 3 by omega) with rfl | rfl | rfl | rfl
  · have h1 : n < 16 := by simpa using hlt
    unfold hex
    rw [if_pos h1]
    refine ⟨rfl, fun j hj => ?_⟩
    obtain rfl : j = 0 := by omega
    simp [Nat.mod_eq_of_lt h1]
  · have h1 : n < 256 := by simp at hlt; omega
    have h2 : 16 ≤ n := by omega
    unfold hex
    rw [if_neg (by omega), if_pos h1]
    refine ⟨rfl, fun j hj => ?_⟩
    rcases (show j = 0 ∨ j = 1 by omega) with rfl | rfl
    · simp
    · simp [show n / 16 % 16 = n / 16 by omega]
  · have h1 : n < 4096 := by simp at hlt; omega
    have h2 : 256 ≤ n := by omega
    unfold hex
    rw [if_neg (by omega), if_neg (by omega), if_pos h1]
    refine ⟨rfl, fun j hj => ?_⟩
    rcases (show j = 0 ∨ j = 1 ∨ j = 2 by omega) with rfl | rfl | rfl
    · simp
    · simp
    · simp [show n / 256 % 16 = n / 256 by omega]
  · have h2 : 4096 ≤ n := by omega
    unfold hex
    rw [if_neg (by omega), if_neg (by omega), if_neg (by omega)]
    refine ⟨rfl, fun j hj => ?_⟩
    rcases (show j = 0 ∨ j = 1 ∨ j = 2 ∨ j = 3 by omega) with rfl | rfl | rfl | rfl
    · simp
    · simp
    · simp
    · simp [show n / 4096 % 16 = n / 4096 by omega]

set_option maxRecDepth 100000 in
set_option maxHeartbeats 4000000 in
theorem bits_any (n : Nat) (hn : n < 65536) (w : World) (h : Deb w) : Calls Tryd.prog 61 #[.slice none 0 0, .int .u64 n, .int .i64 16, .bool false, .bool false] w fun r w' => r = .returned (.tuple #[.slice none 0 0, .string (bs (hex n))]) ∧ Below w.heap.size w w' := by
  have DEB := Lib.hid h
  clear h
  go_enter Tryd.func61, Tryd.ntmps61
  go_wp2_with fail
  refine (pow_16 _).mono ?_
  rintro r w1 ⟨rfl, rfl⟩
  go_wp2_with fail
  refine (tz_16 _ (deb_below DEB.out ((Below.refl _ _).alloc (Nat.le_refl _) _))).mono ?_
  rintro r w1 ⟨rfl, rfl⟩
  have hbk : BK (w.alloc (.cells Tryd.zeroCells90 90)) w.heap.size n 0 := ⟨_, Blk.new _ _ _, by kernel_rfl, fun j hj => absurd hj (by omega)⟩
  have hb1 : Below w.heap.size w (w.alloc (.cells Tryd.zeroCells90 90)) := (Below.refl _ _).alloc (Nat.le_refl _) _
  generalize w.alloc (.cells Tryd.zeroCells90 90) = W1 at hbk hb1 ⊢
  have HBK := Lib.hid hbk
  have HB1 := Lib.hid hb1
  clear hbk hb1
  go_wp2
  go_loopw [1, 13] (fun u i wr => ∃ k : Nat, k ≤ 3 ∧ u = .int .u64 ((n / 16 ^ k : Nat) : Int) ∧ i = .int .i64 (65 - (k : Int)) ∧ (16 ^ k ≤ n ∨ k = 0) ∧ BK wr w.heap.size n k ∧ Below w.heap.size w wr) (fun _ i _ => (intOf i).toNat)
  case atStart => exact ⟨0, by omega, by simp, by simp, .inr rfl, HBK.out, HB1.out⟩
  case round =>
    obtain ⟨k, hk, rfl, rfl, hge, hbk, hb⟩ := hrel
    clear HBK HB1
    obtain ⟨U, hU⟩ : ∃ U, n / 16 ^ k = U := ⟨_, rfl⟩
    have hUn : U ≤ n := by rw [← hU]; exact Nat.div_le_self _ _
    obtain ⟨V, hV⟩ : ∃ V, U % 16 = V := ⟨_, rfl⟩
    have hVl : V < 16 := by omega
    have hband : bits .and .u64 (U : Int) 15 = (V : Int) := by rw [and_15 U (by omega), hV]
    obtain ⟨X, hX⟩ : ∃ X : Nat, (hexd V).toNat = X := ⟨_, rfl⟩
    have hidx := idx_36 V hVl
    rw [hX] at hidx
    have hset := hbk.set_ (show k < 65 by omega)
    rw [hU, hV, hX] at hset
    obtain ⟨u0, hcell⟩ := hbk.cell (64 - k) (by omega)
    have hfz := hbk.frozen (64 - k)
    obtain ⟨I, hI⟩ : ∃ I : Int, 65 - (k : Int) = I := ⟨_, rfl⟩
    rw [hI]
    have HGE := Lib.hid hge
    have HBK := Lib.hid hbk
    have HB := Lib.hid hb
    have HSET := Lib.hid hset
    have HU := Lib.hid hU
    by_cases h16 : 16 ≤ U
    · have hk3 : k < 3 := by
        rcases (show k = 0 ∨ k = 1 ∨ k = 2 ∨ k = 3 by omega) with rfl | rfl | rfl | rfl
        · omega
        · omega
        · omega
        · simp at hU; omega
      have hnext : n / 16 ^ (k + 1) = U / 16 := by rw [Nat.pow_succ, ← Nat.div_div_eq_div_mul, hU]
      have hnge : 16 ^ (k + 1) ≤ n := by
        have h1 : 16 * 16 ^ k ≤ n := by
          have := Nat.div_mul_le_self n (16 ^ k)
          rw [hU] at this
          have h2 := Nat.mul_le_mul_right (16 ^ k) h16
          omega
        rw [Nat.pow_succ]; omega
      have HN := Lib.hid hnext
      have HNG := Lib.hid hnge
      rw [hU]
      rw [← hband] at hidx
      clear hge hbk hb hset hU hX hV hnext hnge hUn hband
      rcases (show k = 0 ∨ k = 1 ∨ k = 2 by omega) with rfl | rfl | rfl
      all_goals
        simp only [Nat.sub_zero, Nat.reduceSub] at hcell hfz
        first | (have e : I = 65 := (by omega); subst e) | (have e : I = 64 := (by omega); subst e) | (have e : I = 63 := (by omega); subst e)
        clear hI
        go_wp2
        refine ⟨⟨_, hk3, by rw [HN.out]; go_num, by go_num, .inl HNG.out, HSET.out, HB.out.setCell (p := ⟨w.heap.size, _, none⟩) (Nat.le_refl _) _⟩, by simp [intOf]⟩
    · obtain ⟨hl1, hl2⟩ := hex_digs n k hn hk (by omega) hge
      have hlt : U < 16 := by omega
      have hVU : V = U := by omega
      rw [hVU] at hidx
      have hrd := hset.reads (by omega) (hex n) hl1 hl2
      have hcv := run_convert_reads (c := k + 1) Tryd.underlying57 Tryd.underlying5 Tryd.underlying9 hrd
      rw [str_of_nums] at hcv
      rw [hU]
      clear hge hbk hb hset hU hX hband hUn hrd hl1 hl2 hV hVU hVl
      rcases (show k = 0 ∨ k = 1 ∨ k = 2 ∨ k = 3 by omega) with rfl | rfl | rfl | rfl
      all_goals
        simp only [Nat.sub_zero, Nat.reduceSub, Nat.reduceAdd] at hcell hfz hcv
        first | (have e : I = 65 := (by omega); subst e) | (have e : I = 64 := (by omega); subst e) | (have e : I = 63 := (by omega); subst e) | (have e : I = 62 := (by omega); subst e)
        clear hI
        go_wp2
        go_ret2
        exact ⟨rfl, HB.out.setCell (p := ⟨w.heap.size, _, none⟩) (Nat.le_refl _) _⟩
end Go.Proofs.YtngdomefipcemaaDoor
