/-
  six: the word that digits say.
-/
import Derived.Test.YtngdomefipcemaaDoorSixN
namespace Go.Proofs.YtngdomefipcemaaDoor
open Go.RowKit Go.Great

/-- What word gives back. -/
def WordP (w : World) (l : List UInt8) (r : Ending) (w' : World) : Prop :=
  ∃ (n : Nat) (ok : Bool), r = .returned (.tuple #[.int .i64 n, .bool ok]) ∧ Below w.heap.size w w' ∧ (ok = true → wordV l = some n) ∧ (ok = false → wordV l = none)

set_option maxRecDepth 100000 in
set_option maxHeartbeats 2000000 in
theorem word_any (l : List UInt8) (hl : l.length ≤ 1048576) (w : World) : Calls Tryd.prog 38 #[.string (bs l)] w (WordP w l) := by
  have hsz : (bs l).size = l.length := rfl
  by_cases h1 : l.length < 1
  · have hn := Lib.hid (show wordV l = none by unfold wordV; rw [if_pos (.inl h1)])
    go_enter Tryd.func38, Tryd.ntmps38
    go_wp2
    go_ret2
    exact ⟨0, false, rfl, Below.refl _ _, fun h => (by cases h), fun _ => hn.out⟩
  · by_cases h3 : 4 < l.length
    · have hn := Lib.hid (show wordV l = none by unfold wordV; rw [if_pos (.inr (.inl h3))])
      have hd : decide ((4 : Int) < (l.length : Int)) = true := by simp; omega
      go_enter Tryd.func38, Tryd.ntmps38
      go_wp2
      go_ret2
      exact ⟨0, false, rfl, Below.refl _ _, fun h => (by cases h), fun _ => hn.out⟩
    · obtain ⟨x0, hx0⟩ : ∃ x : Int, ((l.getD 0 0).toNat : Int) = x := ⟨_, rfl⟩
      have i0 : ∀ w, (Instr.index 9 (.string (bs l)) (.int .i64 0)).run Tryd.prog w = .ok (.int .u8 x0) w := by
        have := idx_string (P := Tryd.prog) (bs l) 0 Tryd.underlying9 (by rw [hsz]; omega)
        rw [bs_data, hx0] at this
        exact this
      have d3 : decide ((4 : Int) < (l.length : Int)) = false := by simp; omega
      by_cases h0 : x0 = 48 ∧ 1 < l.length
      · have hn := Lib.hid (show wordV l = none by
          have hz : l.getD 0 0 = 48 := (byte_ne (l.getD 0 0) 48 (by omega)).1 (by rw [hx0, h0.1]; rfl)
          unfold wordV
          rw [if_pos (Or.inr (Or.inr ⟨hz, h0.2⟩))])
        obtain ⟨h00, h01⟩ := h0
        have d0 : (x0 == 48) = true := by rw [h00]; rfl
        clear hx0 h00
        go_enter Tryd.func38, Tryd.ntmps38
        go_wp2
        go_ret2
        exact ⟨0, false, rfl, Below.refl _ _, fun h => (by cases h), fun _ => hn.out⟩
      · have hpv : wordV l = hvs 0 l := by
          unfold wordV
          rw [if_neg]
          rintro (h | h | ⟨h, h'⟩)
          · exact h1 h
          · exact h3 h
          · refine h0 ⟨?_, h'⟩
            rw [← hx0, h]
            rfl
        have HPV := Lib.hid hpv
        have hcv := fun w : World => Lib.run_convert_string_bytes (P := Tryd.prog) w 9 57 5 (bs l) Tryd.underlying9 Tryd.underlying57 Tryd.underlying5
        have hb := below_bytes w 5 (bs l)
        have hc := fun j => Lib.bytesWorld_cell w 5 (bs l) j
        rw [bs_data] at hc
        have hgd : (x0 == 48) = false ∨ ((x0 == 48) = true ∧ decide ((1 : Int) < (l.length : Int)) = false) := by
          cases hxx : (x0 == 48)
          · exact .inl rfl
          · refine .inr ⟨rfl, ?_⟩
            have : ¬ 1 < l.length := fun h => h0 ⟨by simpa using hxx, h⟩
            simp
            omega
        clear hx0 h0 hpv
        rcases hgd with g0 | ⟨g0, g1⟩
        all_goals
          go_enter Tryd.func38, Tryd.ntmps38
          go_wp2
          change Code.wp _ _ _ _ (Lib.bytesWorld w 5 (bs l))
          generalize Lib.bytesWorld w 5 (bs l) = W at hb hc ⊢
          generalize grownCap w (bs l).size 0 5 = cp at *
          clear hcv i0
          go_loopw [4, 30] (fun v i wr => ∃ k m : Nat, k ≤ l.length ∧ i = .int .i64 k ∧ v = .int .i64 m ∧ hvs 0 (l.take k) = some m ∧ W = wr) (fun _ i _ => l.length - (intOf i).toNat)
          case atStart => exact ⟨0, 0, by omega, rfl, rfl, rfl, rfl⟩
          case round =>
            obtain ⟨k, m, hk, rfl, rfl, hall, rfl⟩ := hrel
            have hvs' := hvs_bound _ _ _ hall
            have HALL := Lib.hid hall
            clear hall
            by_cases hlt : k < l.length
            · have hm : m < 65536 := by
                have : 16 ^ (l.take k).length ≤ 16 ^ 4 := Nat.pow_le_pow_right (by omega) (by rw [List.length_take]; omega)
                omega
              have hcc := hc k hlt
              obtain ⟨ch, hch⟩ : ∃ ch, l[k]? = some ch := ⟨_, List.getElem?_eq_getElem hlt⟩
              have hgd : l.getD k 0 = ch := by simp [List.getD_eq_getElem?_getD, hch]
              rw [hgd] at hcc
              have htk : l.take (k + 1) = l.take k ++ [ch] := by rw [List.take_add_one, hch]; rfl
              have hvn : hvs 0 (l.take (k + 1)) = (hv ch).bind fun d => some (m * 16 + d) := by rw [htk, hvs_append, HALL.out]; rfl
              have HVN := Lib.hid hvn
              have HD := Lib.hid (fun W => digit_any ch W)
              clear hc hgd hch htk hvn hvs'
              have hcl := ch.toNat_lt
              cases hdg : hv ch with
              | some d =>
                have hd16 := hv_lt hdg
                have HN := Lib.hid (show hvs 0 (l.take (k + 1)) = some (m * 16 + d) by rw [HVN.out, hdg]; rfl)
                have hdd := HD.out
                rw [hdg] at hdd
                have HDD := Lib.hid hdd
                have hor := or_nib m d hm hd16
                have HOR := Lib.hid hor
                clear hdd hdg hor
                generalize ch.toNat = X at *
                go_wp2_with fail
                refine (HDD.out _).mono ?_
                rintro r w' ⟨rfl, rfl⟩
                go_wp2
                refine ⟨⟨k + 1, m * 16 + d, by omega, by go_num, ?_, HN.out, trivial⟩, by simp [intOf]; omega⟩
                first
                  | (rw [HOR.out]; congr 1)
                  | (congr 1; omega)
              | none =>
                have hno := Lib.hid (show wordV l = none by
                  rw [HPV.out, ← List.take_append_drop (k + 1) l, hvs_append, HVN.out, hdg]
                  rfl)
                have hdd := HD.out
                rw [hdg] at hdd
                have HDD := Lib.hid hdd
                clear hdd hdg
                generalize ch.toNat = X at *
                go_wp2_with fail
                refine (HDD.out _).mono ?_
                rintro r w' ⟨rfl, rfl⟩
                go_wp2
                go_ret2
                exact ⟨0, false, rfl, hb, fun h => (by cases h), fun _ => hno.out⟩
            · obtain rfl : k = l.length := by omega
              have hfin := Lib.hid (show wordV l = some m by rw [HPV.out]; have := HALL.out; rw [List.take_length] at this; exact this)
              go_wp2
              go_ret2
              exact ⟨m, true, rfl, hb, fun _ => hfin.out, fun h => (by cases h)⟩
end Go.Proofs.YtngdomefipcemaaDoor
