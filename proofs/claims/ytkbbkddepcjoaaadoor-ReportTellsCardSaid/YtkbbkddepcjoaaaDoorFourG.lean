/-
  four: the byte that digits say.
-/
import Derived.Test.YtkbbkddepcjoaaaDoorFourF
import Derived.Lib.ConvBytes
namespace Go.Proofs.YtkbbkddepcjoaaaDoor
open Go.RowKit

theorem below_bytes (w : World) (e : TypeId) (s : ByteArray) : Below w.heap.size w (Lib.bytesWorld w e s) :=
  ⟨by simp [Lib.bytesWorld, World.freeze, World.alloc, World.drew, -World.alloc_eq, -World.drew_eq], by simp [Lib.bytesWorld, World.freeze, World.alloc, World.drew, -World.alloc_eq, -World.drew_eq],
    by simp [Lib.bytesWorld, World.freeze, World.alloc, World.drew, -World.alloc_eq, -World.drew_eq], by rw [Lib.bytesWorld_size]; omega, fun i hi => Lib.bytesWorld_at_old w e s i hi⟩

theorem val_snoc (c : UInt8) (l : List UInt8) (n : Nat) : val n (l ++ [c]) = 10 * val n l + (c.toNat - 48) := by
  induction l generalizing n with
  | nil => rfl
  | cons d l ih => exact ih _
theorem dig_le {c : UInt8} (h : isDig c = true) : 48 ≤ c.toNat ∧ c.toNat ≤ 57 := by
  unfold isDig at h
  exact of_decide_eq_true h
theorem val_lt (l : List UInt8) (n : Nat) (h : l.all isDig = true) : val n l < (n + 1) * 10 ^ l.length := by
  induction l generalizing n with
  | nil => show n < (n + 1) * 10 ^ 0; omega
  | cons c l ih =>
    simp only [List.all_cons, Bool.and_eq_true] at h
    have hc := (dig_le h.1).2
    have h3 := ih (10 * n + (c.toNat - 48)) h.2
    obtain ⟨e, he⟩ : ∃ e, c.toNat - 48 = e := ⟨_, rfl⟩
    have he9 : e ≤ 9 := by omega
    show val (10 * n + (c.toNat - 48)) l < (n + 1) * 10 ^ (l.length + 1)
    rw [he] at h3 ⊢
    have h1 : (10 * n + e + 1) * 10 ^ l.length ≤ (10 * n + 10) * 10 ^ l.length := Nat.mul_le_mul_right _ (by omega)
    have h2 : (10 * n + 10) * 10 ^ l.length = (n + 1) * 10 ^ (l.length + 1) := by
      rw [Nat.pow_succ, show 10 * n + 10 = (n + 1) * 10 by omega, Nat.mul_assoc, Nat.mul_comm 10]
    exact Nat.lt_of_lt_of_le h3 (h2 ▸ h1)
theorem val_small {l : List UInt8} (h : l.all isDig = true) (hl : l.length ≤ 3) : val 0 l < 1000 := by
  have h1 := val_lt l 0 h
  have h2 : 10 ^ l.length ≤ 10 ^ 3 := Nat.pow_le_pow_right (by omega) hl
  omega

/-- What part gives back. -/
def PartP (w : World) (l : List UInt8) (r : Ending) (w' : World) : Prop :=
  ∃ (n : Nat) (ok : Bool), r = .returned (.tuple #[.int .i64 n, .bool ok]) ∧ Below w.heap.size w w' ∧ (ok = true → partV l = some n) ∧ (ok = false → partV l = none)

theorem byte_ne (c : UInt8) (k : Nat) (hk : k < 256) : ((c.toNat : Int) = k) ↔ c = UInt8.ofNat k := by
  constructor
  · intro h
    apply UInt8.toNat_inj.1
    simp
    omega
  · rintro rfl
    simp
    omega

set_option maxRecDepth 100000 in
set_option maxHeartbeats 2000000 in
theorem part_any (l : List UInt8) (hl : l.length ≤ 1048576) (w : World) : Calls Tryd.prog 75 #[.string (bs l)] w (PartP w l) := by
  have hsz : (bs l).size = l.length := rfl
  by_cases h1 : l.length < 1
  · have hn := Lib.hid (show partV l = none by unfold partV; rw [if_pos (.inl h1)])
    go_enter Tryd.func75, Tryd.ntmps75
    go_wp2
    go_ret2
    exact ⟨0, false, rfl, Below.refl _ _, fun h => (by cases h), fun _ => hn.out⟩
  · by_cases h3 : 3 < l.length
    · have hn := Lib.hid (show partV l = none by unfold partV; rw [if_pos (.inr (.inl h3))])
      have hd : decide ((3 : Int) < (l.length : Int)) = true := by simp; omega
      go_enter Tryd.func75, Tryd.ntmps75
      go_wp2
      go_ret2
      exact ⟨0, false, rfl, Below.refl _ _, fun h => (by cases h), fun _ => hn.out⟩
    · obtain ⟨x0, hx0⟩ : ∃ x : Int, ((l.getD 0 0).toNat : Int) = x := ⟨_, rfl⟩
      have i0 : ∀ w, (Instr.index 9 (.string (bs l)) (.int .i64 0)).run Tryd.prog w = .ok (.int .u8 x0) w := by
        have := idx_string (P := Tryd.prog) (bs l) 0 Tryd.underlying9 (by rw [hsz]; omega)
        rw [bs_data, hx0] at this
        exact this
      have d3 : decide ((3 : Int) < (l.length : Int)) = false := by simp; omega
      by_cases h0 : x0 = 48 ∧ 1 < l.length
      · have hn := Lib.hid (show partV l = none by
          have hz : l.getD 0 0 = 48 := (byte_ne (l.getD 0 0) 48 (by omega)).1 (by rw [hx0, h0.1]; rfl)
          unfold partV
          rw [if_pos (Or.inr (Or.inr ⟨hz, h0.2⟩))])
        obtain ⟨h00, h01⟩ := h0
        have d0 : (x0 == 48) = true := by rw [h00]; rfl
        clear hx0 h00
        go_enter Tryd.func75, Tryd.ntmps75
        go_wp2
        go_ret2
        exact ⟨0, false, rfl, Below.refl _ _, fun h => (by cases h), fun _ => hn.out⟩
      · have hpv : partV l = if l.all isDig then (if val 0 l ≤ 255 then some (val 0 l) else none) else none := by
          unfold partV
          rw [if_neg]
          rintro (h | h | ⟨h, h'⟩)
          · exact h1 h
          · exact h3 h
          · refine h0 ⟨?_, h'⟩
            rw [← hx0, h]
            rfl
        have HPV := Lib.hid hpv
        have hcv := fun w : World => Lib.run_convert_string_bytes (P := Tryd.prog) w 9 84 5 (bs l) Tryd.underlying9 Tryd.underlying84 Tryd.underlying5
        have hb := below_bytes w 5 (bs l)
        have hc := fun j => Lib.bytesWorld_cell w 5 (bs l) j
        rw [bs_data] at hc
        have hgd : (x0 == 48) = false ∨ ((x0 == 48) = true ∧ decide ((1 : Int) < (l.length : Int)) = false) := by
          cases hxx : (x0 == 48)
          · exact .inl rfl
          · refine .inr ⟨rfl, ?_⟩
            have : ¬ 1 < l.length := fun h => h0 ⟨by simpa using hxx, h⟩
            simp
            omega
        clear hx0 h0 hpv
        rcases hgd with g0 | ⟨g0, g1⟩
        all_goals
          go_enter Tryd.func75, Tryd.ntmps75
          go_wp2
          change Code.wp _ _ _ _ (Lib.bytesWorld w 5 (bs l))
          generalize Lib.bytesWorld w 5 (bs l) = W at hb hc ⊢
          generalize grownCap w (bs l).size 0 5 = cp at *
          clear hcv i0
          go_loopw [4, 28] (fun v i wr => ∃ k : Nat, k ≤ l.length ∧ i = .int .i64 k ∧ (l.take k).all isDig = true ∧ v = .int .i64 (val 0 (l.take k)) ∧ W = wr) (fun _ i _ => l.length - (intOf i).toNat)
          case atStart => exact ⟨0, by omega, rfl, rfl, rfl, rfl⟩
          case round =>
            obtain ⟨k, hk, rfl, hall, rfl, rfl⟩ := hrel
            have hvs := val_small hall (by rw [List.length_take]; omega)
            by_cases hlt : k < l.length
            · have hcc := hc k hlt
              obtain ⟨ch, hch⟩ : ∃ ch, l[k]? = some ch := ⟨_, List.getElem?_eq_getElem hlt⟩
              have hgd : l.getD k 0 = ch := by simp [List.getD_eq_getElem?_getD, hch]
              rw [hgd] at hcc
              have htk : l.take (k + 1) = l.take k ++ [ch] := by rw [List.take_add_one, hch]; rfl
              have hvn : val 0 (l.take (k + 1)) = 10 * val 0 (l.take k) + (ch.toNat - 48) := by rw [htk, val_snoc]
              have hal : (l.take (k + 1)).all isDig = isDig ch := by rw [htk, List.all_append, hall]; simp
              have hcl := ch.toNat_lt
              obtain ⟨V, hV⟩ : ∃ V, val 0 (l.take k) = V := ⟨_, rfl⟩
              rw [hV] at hvn hvs
              rw [hV]
              have HVN := Lib.hid hvn
              have HAL := Lib.hid hal
              clear hc hgd hch htk hvn hal hV hall
              cases hdg : isDig ch with
              | true =>
                obtain ⟨c0, c1⟩ := dig_le hdg
                obtain ⟨X, hX⟩ : ∃ X, ch.toNat = X := ⟨_, rfl⟩
                rw [hX] at c0 c1 hcc hcl
                have HX := Lib.hid hX
                clear hX
                have hsub : ((X : Int) - 48) % 256 = ((X - 48 : Nat) : Int) := by omega
                go_wp2
                refine ⟨⟨k + 1, by omega, by go_num, by rw [HAL.out, hdg], ?_, trivial⟩, by simp [intOf]; omega⟩
                rw [HVN.out, HX.out]
                congr 1
                omega
              | false =>
                have hno := Lib.hid (show partV l = none by
                  rw [HPV.out]
                  have : l.all isDig = false := by
                    rw [← List.take_append_drop (k + 1) l, List.all_append, HAL.out, hdg, Bool.false_and]
                  rw [this]
                  rfl)
                have hout : ch.toNat < 48 ∨ 57 < ch.toNat := by
                  unfold isDig at hdg
                  have := of_decide_eq_false hdg
                  omega
                obtain ⟨X, hX⟩ : ∃ X, ch.toNat = X := ⟨_, rfl⟩
                rw [hX] at hout hcc hcl
                clear hX
                rcases hout with hout | hout
                · go_wp2
                  go_ret2
                  exact ⟨0, false, rfl, hb, fun h => (by cases h), fun _ => hno.out⟩
                · go_wp2
                  go_ret2
                  exact ⟨0, false, rfl, hb, fun h => (by cases h), fun _ => hno.out⟩
            · obtain rfl : k = l.length := by omega
              rw [List.take_length] at hall hvs ⊢
              have hfin := Lib.hid (show partV l = if val 0 l ≤ 255 then some (val 0 l) else none by rw [HPV.out, if_pos hall])
              clear hall
              by_cases h255 : val 0 l ≤ 255
              · have hd : decide ((val 0 l : Int) ≤ 255) = true := by simp; omega
                go_wp2
                go_ret2
                exact ⟨val 0 l, true, rfl, hb, fun _ => by rw [hfin.out, if_pos h255], fun h => (by cases h)⟩
              · have hd : decide ((val 0 l : Int) ≤ 255) = false := by simp; omega
                go_wp2
                go_ret2
                exact ⟨val 0 l, false, rfl, hb, fun h => (by cases h), fun _ => by rw [hfin.out, if_neg h255]⟩
end Go.Proofs.YtkbbkddepcjoaaaDoor
