/-
  cmd: the number that digits are, by the program and by the document.
-/
import Derived.Test.YtkbbkddepcjoaaaDoorCmdC
import Derived.Test.YtkbbkddepcjoaaaDoorFourI
import Derived.Lib.ConvBytes
namespace Go.Proofs.YtkbbkddepcjoaaaDoor
open Go.RowKit

theorem val_ten {l : List UInt8} (h : l.all isDig = true) (hl : l.length ≤ 10) : val 0 l < 10000000000 := by
  have h1 := val_lt l 0 h
  have h2 : 10 ^ l.length ≤ 10 ^ 10 := Nat.pow_le_pow_right (by omega) hl
  omega

/-- What a reading of a number gives back. -/
def numR (o : Option Nat) : Value := .tuple #[.int .i64 ((o.getD 0 : Nat) : Int), .bool o.isSome]

set_option maxRecDepth 100000 in
set_option maxHeartbeats 4000000 in
theorem cnum_any (l : List UInt8) (most : Int) (hl : l.length ≤ 1048576) (w : World) : Calls Tryd.prog 17 #[.string (bs l), .int .i64 most] w fun r w' => r = .returned (numR (numV l most)) ∧ Below w.heap.size w w' := by
  have hsz : (bs l).size = l.length := rfl
  by_cases h1 : l.length < 1
  · have hn := Lib.hid (show numV l most = none by unfold numV; rw [if_pos (.inl h1)])
    go_enter Tryd.func17, Tryd.ntmps17
    go_wp2
    go_ret2
    exact ⟨by rw [hn.out]; rfl, Below.refl _ _⟩
  · by_cases h3 : 10 < l.length
    · have hn := Lib.hid (show numV l most = none by unfold numV; rw [if_pos (.inr (.inl h3))])
      have hd : decide ((10 : Int) < (l.length : Int)) = true := by simp; omega
      go_enter Tryd.func17, Tryd.ntmps17
      go_wp2
      go_ret2
      exact ⟨by rw [hn.out]; rfl, Below.refl _ _⟩
    · obtain ⟨x0, hx0⟩ : ∃ x : Int, ((l.getD 0 0).toNat : Int) = x := ⟨_, rfl⟩
      have i0 : ∀ w, (Instr.index 9 (.string (bs l)) (.int .i64 0)).run Tryd.prog w = .ok (.int .u8 x0) w := by
        have := idx_string (P := Tryd.prog) (bs l) 0 Tryd.underlying9 (by rw [hsz]; omega)
        rw [bs_data, hx0] at this
        exact this
      have d3 : decide ((10 : Int) < (l.length : Int)) = false := by simp; omega
      by_cases h0 : x0 = 48 ∧ 1 < l.length
      · have hn := Lib.hid (show numV l most = none by
          have hz : l.getD 0 0 = 48 := (byte_ne (l.getD 0 0) 48 (by omega)).1 (by rw [hx0, h0.1]; rfl)
          unfold numV
          rw [if_pos (Or.inr (Or.inr ⟨hz, h0.2⟩))])
        obtain ⟨h00, h01⟩ := h0
        have d0 : (x0 == 48) = true := by rw [h00]; rfl
        have d1 : decide ((1 : Int) < (l.length : Int)) = true := by simp; omega
        clear hx0 h00
        go_enter Tryd.func17, Tryd.ntmps17
        go_wp2
        go_ret2
        exact ⟨by rw [hn.out]; rfl, Below.refl _ _⟩
      · have hpv : numV l most = if l.all isDig then (if (val 0 l : Int) ≤ most then some (val 0 l) else none) else none := by
          unfold numV
          rw [if_neg]
          rintro (h | h | ⟨h, h'⟩)
          · exact h1 h
          · exact h3 h
          · refine h0 ⟨?_, h'⟩
            rw [← hx0, h]
            rfl
        have HPV := Lib.hid hpv
        have hcv := fun w : World => Lib.run_convert_string_bytes (P := Tryd.prog) w 9 84 5 (bs l) Tryd.underlying9 Tryd.underlying84 Tryd.underlying5
        have hb := below_bytes w 5 (bs l)
        have hc := fun j => Lib.bytesWorld_cell w 5 (bs l) j
        rw [bs_data] at hc
        have hgd : decide ((1 : Int) < (l.length : Int)) = false ∨ (decide ((1 : Int) < (l.length : Int)) = true ∧ (x0 == 48) = false) := by
          by_cases hxx : 1 < l.length
          · refine .inr ⟨by simp; omega, ?_⟩
            have : ¬ x0 = 48 := fun h => h0 ⟨h, hxx⟩
            simpa using this
          · exact .inl (by simp; omega)
        clear hx0 h0 hpv
        rcases hgd with g0 | ⟨g0, g1⟩
        all_goals
          go_enter Tryd.func17, Tryd.ntmps17
          go_wp2
          change Code.wp _ _ _ _ (Lib.bytesWorld w 5 (bs l))
          generalize Lib.bytesWorld w 5 (bs l) = W at hb hc ⊢
          generalize grownCap w (bs l).size 0 5 = cp at *
          clear hcv i0
          go_loopw [6, 30] (fun v i wr => ∃ k : Nat, k ≤ l.length ∧ i = .int .i64 k ∧ (l.take k).all isDig = true ∧ v = .int .i64 (val 0 (l.take k)) ∧ W = wr) (fun _ i _ => l.length - (intOf i).toNat)
          case atStart => exact ⟨0, by omega, rfl, rfl, rfl, rfl⟩
          case round =>
            obtain ⟨k, hk, rfl, hall, rfl, rfl⟩ := hrel
            have hvs := val_ten hall (by rw [List.length_take]; omega)
            by_cases hlt : k < l.length
            · have hcc := hc k hlt
              obtain ⟨ch, hch⟩ : ∃ ch, l[k]? = some ch := ⟨_, List.getElem?_eq_getElem hlt⟩
              have hgd : l.getD k 0 = ch := by simp [List.getD_eq_getElem?_getD, hch]
              rw [hgd] at hcc
              have htk : l.take (k + 1) = l.take k ++ [ch] := by rw [List.take_add_one, hch]; rfl
              have hvn : val 0 (l.take (k + 1)) = 10 * val 0 (l.take k) + (ch.toNat - 48) := by rw [htk, val_snoc]
              have hal : (l.take (k + 1)).all isDig = isDig ch := by rw [htk, List.all_append, hall]; simp
              have hcl := ch.toNat_lt
              obtain ⟨V, hV⟩ : ∃ V, val 0 (l.take k) = V := ⟨_, rfl⟩
              rw [hV] at hvn hvs
              rw [hV]
              have HVN := Lib.hid hvn
              have HAL := Lib.hid hal
              clear hc hgd hch htk hvn hal hV hall
              cases hdg : isDig ch with
              | true =>
                obtain ⟨c0, c1⟩ := dig_le hdg
                obtain ⟨X, hX⟩ : ∃ X, ch.toNat = X := ⟨_, rfl⟩
                rw [hX] at c0 c1 hcc hcl
                have HX := Lib.hid hX
                clear hX
                have hsub : ((X : Int) - 48) % 256 = ((X - 48 : Nat) : Int) := by omega
                go_wp2
                refine ⟨⟨k + 1, by omega, by go_num, by rw [HAL.out, hdg], ?_, trivial⟩, by simp [intOf]; omega⟩
                rw [HVN.out, HX.out]
                congr 1
                omega
              | false =>
                have hno := Lib.hid (show numV l most = none by
                  rw [HPV.out]
                  have : l.all isDig = false := by
                    rw [← List.take_append_drop (k + 1) l, List.all_append, HAL.out, hdg, Bool.false_and]
                  rw [this]
                  rfl)
                have hout : ch.toNat < 48 ∨ 57 < ch.toNat := by
                  unfold isDig at hdg
                  have := of_decide_eq_false hdg
                  omega
                obtain ⟨X, hX⟩ : ∃ X, ch.toNat = X := ⟨_, rfl⟩
                rw [hX] at hout hcc hcl
                clear hX
                rcases hout with hout | hout
                · go_wp2
                  go_ret2
                  exact ⟨by rw [hno.out]; rfl, hb⟩
                · go_wp2
                  go_ret2
                  exact ⟨by rw [hno.out]; rfl, hb⟩
            · obtain rfl : k = l.length := by omega
              rw [List.take_length] at hall hvs ⊢
              have hfin := Lib.hid (show numV l most = if (val 0 l : Int) ≤ most then some (val 0 l) else none by rw [HPV.out, if_pos hall])
              clear hall
              by_cases hm : (val 0 l : Int) ≤ most
              · have hd : decide (most < (val 0 l : Int)) = false := by simp; omega
                go_wp2
                go_ret2
                exact ⟨by rw [hfin.out, if_pos hm]; rfl, hb⟩
              · have hd : decide (most < (val 0 l : Int)) = true := by simp; omega
                go_wp2
                go_ret2
                exact ⟨by rw [hfin.out, if_neg (by omega)]; rfl, hb⟩

set_option maxRecDepth 100000 in
set_option maxHeartbeats 4000000 in
theorem rnum_any (l : List UInt8) (most : Int) (hl : l.length ≤ 1048576) (w : World) : Calls Tryd.prog 18 #[.string (bs l), .int .i64 most] w fun r w' => r = .returned (numR (numV l most)) ∧ w = w' := by
  have hsz : (bs l).size = l.length := rfl
  by_cases h1 : l.length < 1
  · have hn := Lib.hid (show numV l most = none by unfold numV; rw [if_pos (.inl h1)])
    go_enter Tryd.func18, Tryd.ntmps18
    go_wp2
    go_ret2
    exact ⟨by rw [hn.out]; rfl, rfl⟩
  · by_cases h3 : 10 < l.length
    · have hn := Lib.hid (show numV l most = none by unfold numV; rw [if_pos (.inr (.inl h3))])
      have hd : decide ((10 : Int) < (l.length : Int)) = true := by simp; omega
      go_enter Tryd.func18, Tryd.ntmps18
      go_wp2
      go_ret2
      exact ⟨by rw [hn.out]; rfl, rfl⟩
    · obtain ⟨x0, hx0⟩ : ∃ x : Int, ((l.getD 0 0).toNat : Int) = x := ⟨_, rfl⟩
      have hix : ∀ k w, k < l.length → (Instr.index 9 (.string (bs l)) (.int .i64 (k : Int))).run Tryd.prog w = .ok (.int .u8 ((l.getD k 0).toNat : Int)) w := by
        intro k w hk
        have := idx_string (P := Tryd.prog) (bs l) k Tryd.underlying9 (by rw [hsz]; omega) w
        rw [bs_data] at this
        exact this
      have i0 : ∀ w, (Instr.index 9 (.string (bs l)) (.int .i64 0)).run Tryd.prog w = .ok (.int .u8 x0) w := by
        intro w
        have := hix 0 w (by omega)
        rw [hx0] at this
        exact this
      have d3 : decide ((10 : Int) < (l.length : Int)) = false := by simp; omega
      by_cases h0 : x0 = 48 ∧ 1 < l.length
      · have hn := Lib.hid (show numV l most = none by
          have hz : l.getD 0 0 = 48 := (byte_ne (l.getD 0 0) 48 (by omega)).1 (by rw [hx0, h0.1]; rfl)
          unfold numV
          rw [if_pos (Or.inr (Or.inr ⟨hz, h0.2⟩))])
        obtain ⟨h00, h01⟩ := h0
        have d0 : (x0 == 48) = true := by rw [h00]; rfl
        have d1 : decide ((1 : Int) < (l.length : Int)) = true := by simp; omega
        clear hx0 h00 hix
        go_enter Tryd.func18, Tryd.ntmps18
        go_wp2
        go_ret2
        exact ⟨by rw [hn.out]; rfl, rfl⟩
      · have hpv : numV l most = if l.all isDig then (if (val 0 l : Int) ≤ most then some (val 0 l) else none) else none := by
          unfold numV
          rw [if_neg]
          rintro (h | h | ⟨h, h'⟩)
          · exact h1 h
          · exact h3 h
          · refine h0 ⟨?_, h'⟩
            rw [← hx0, h]
            rfl
        have HPV := Lib.hid hpv
        have HIX := Lib.hid hix
        have hgd : (x0 == 48) = false ∨ ((x0 == 48) = true ∧ decide ((1 : Int) < (l.length : Int)) = false) := by
          cases hxx : (x0 == 48)
          · exact .inl rfl
          · refine .inr ⟨rfl, ?_⟩
            have : ¬ 1 < l.length := fun h => h0 ⟨by simpa using hxx, h⟩
            simp
            omega
        clear hx0 h0 hpv hix
        rcases hgd with g0 | ⟨g0, g1⟩
        all_goals
          go_enter Tryd.func18, Tryd.ntmps18
          go_wp2
          clear i0
          go_loopw [6, 7] (fun v i wr => ∃ k : Nat, k ≤ l.length ∧ i = .int .i64 k ∧ (l.take k).all isDig = true ∧ v = .int .i64 (val 0 (l.take k)) ∧ w = wr) (fun _ i _ => l.length - (intOf i).toNat)
          case atStart => exact ⟨0, by omega, rfl, rfl, rfl, rfl⟩
          case round =>
            obtain ⟨k, hk, rfl, hall, rfl, rfl⟩ := hrel
            have hvs := val_ten hall (by rw [List.length_take]; omega)
            by_cases hlt : k < l.length
            · obtain ⟨ch, hch⟩ : ∃ ch, l[k]? = some ch := ⟨_, List.getElem?_eq_getElem hlt⟩
              have hgd : l.getD k 0 = ch := by simp [List.getD_eq_getElem?_getD, hch]
              have ik := fun w => HIX.out k w hlt
              rw [hgd] at ik
              have htk : l.take (k + 1) = l.take k ++ [ch] := by rw [List.take_add_one, hch]; rfl
              have hvn : val 0 (l.take (k + 1)) = 10 * val 0 (l.take k) + (ch.toNat - 48) := by rw [htk, val_snoc]
              have hal : (l.take (k + 1)).all isDig = isDig ch := by rw [htk, List.all_append, hall]; simp
              have hcl := ch.toNat_lt
              obtain ⟨V, hV⟩ : ∃ V, val 0 (l.take k) = V := ⟨_, rfl⟩
              rw [hV] at hvn hvs
              rw [hV]
              have HVN := Lib.hid hvn
              have HAL := Lib.hid hal
              clear hgd hch htk hvn hal hV hall
              cases hdg : isDig ch with
              | true =>
                obtain ⟨c0, c1⟩ := dig_le hdg
                obtain ⟨X, hX⟩ : ∃ X, ch.toNat = X := ⟨_, rfl⟩
                rw [hX] at c0 c1 ik hcl
                have HX := Lib.hid hX
                clear hX
                have hsub : ((X : Int) - 48) % 256 = ((X - 48 : Nat) : Int) := by omega
                go_wp2
                refine ⟨⟨k + 1, by omega, by go_num, by rw [HAL.out, hdg], ?_, trivial⟩, by simp [intOf]; omega⟩
                rw [HVN.out, HX.out]
                congr 1
                omega
              | false =>
                have hno := Lib.hid (show numV l most = none by
                  rw [HPV.out]
                  have : l.all isDig = false := by
                    rw [← List.take_append_drop (k + 1) l, List.all_append, HAL.out, hdg, Bool.false_and]
                  rw [this]
                  rfl)
                have hout : ch.toNat < 48 ∨ 57 < ch.toNat := by
                  unfold isDig at hdg
                  have := of_decide_eq_false hdg
                  omega
                obtain ⟨X, hX⟩ : ∃ X, ch.toNat = X := ⟨_, rfl⟩
                rw [hX] at hout ik hcl
                clear hX
                rcases hout with hout | hout
                · go_wp2
                  go_ret2
                  exact ⟨by rw [hno.out]; rfl, rfl⟩
                · go_wp2
                  go_ret2
                  exact ⟨by rw [hno.out]; rfl, rfl⟩
            · obtain rfl : k = l.length := by omega
              rw [List.take_length] at hall hvs ⊢
              have hfin := Lib.hid (show numV l most = if (val 0 l : Int) ≤ most then some (val 0 l) else none by rw [HPV.out, if_pos hall])
              clear hall
              by_cases hm : (val 0 l : Int) ≤ most
              · have hd : decide (most < (val 0 l : Int)) = false := by simp; omega
                go_wp2
                go_ret2
                exact ⟨by rw [hfin.out, if_pos hm]; rfl, rfl⟩
              · have hd : decide (most < (val 0 l : Int)) = true := by simp; omega
                go_wp2
                go_ret2
                exact ⟨by rw [hfin.out, if_neg (by omega)]; rfl, rfl⟩
end Go.Proofs.YtkbbkddepcjoaaaDoor
