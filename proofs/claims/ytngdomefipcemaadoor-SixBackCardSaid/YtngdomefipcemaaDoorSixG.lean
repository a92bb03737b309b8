/-
  six: the text of an address.
-/
import Derived.Test.YtngdomefipcemaaDoorSixF
namespace Go.Proofs.YtngdomefipcemaaDoor
open Go.RowKit Go.Great

theorem joinc_any (A : Option Addr) (c : Nat) (L : List (List UInt8)) (w : World) (h : 0 < L.length → ∃ g, A = some ⟨g, 0, none⟩ ∧ g < w.heap.size ∧ L.length ≤ c ∧ ∀ j u, (strs L)[j]? = some u → w.cell? ⟨g, 0 + j, none⟩ = some u) (h0 : 0 < L.length) (hl : (Lib.join L [58]).length ≤ 140737488355328) (hN : L.length ≤ 140737488355328) :
    Calls Tryd.prog 33 #[.slice A L.length c, .string ⟨#[58]⟩] w fun e w' => e = .returned (.string (bs (Lib.join L [58]))) ∧ Below w.heap.size w w' := by
  obtain ⟨g, rfl, hg, hc, hcell⟩ := h h0
  have e1 : (L.map bs).map (·.data.toList) = L := by
    rw [List.map_map]
    have : ((fun x : ByteArray => x.data.toList) ∘ bs) = id := by funext l; rfl
    rw [this, List.map_id]
  have := Tryd.strings_Join g 0 c (L.map bs) ⟨#[58]⟩ w (fun j x hx => hcell j _ (by
    rw [List.getElem?_map] at hx
    obtain ⟨y, hy, rfl⟩ := Option.map_eq_some_iff.1 hx
    simp [strs, hy])) hg (by simpa using hN) (by simpa using hc) (by rw [e1]; exact hl)
  rw [e1, List.length_map] at this
  exact this
theorem int_size : (Tryd.prog.info? 3).map (·.size) = some 1 := by kernel_rfl

set_option maxRecDepth 100000 in
set_option maxHeartbeats 4000000 in
theorem text6_any (a : List UInt8) (ha : a.length = 16) (w : World) (hdeb : Deb w) : Calls Tryd.prog 23 #[.agg (cells6 a)] w fun r w' => r = .returned (.string (bs (text6 a))) ∧ Below w.heap.size w w' := by
  obtain ⟨i0, hi0, hz0, hz1, hz2⟩ := info_parts str_info
  have DEB := Lib.hid hdeb
  have hw := fun W => words_any a ha W
  have hsz : (Tryd.prog.info? 31).map (·.size) = some (cells6 a).size := by rw [cells6_size, ha]; exact six_size
  have hcat := fun k (h : k < 8) => wcells_at (ws := wordsOf a) (k := k) (by rw [wordsOf_len 8 a (by omega)]; exact h)
  have hwl := wordsOf_len 8 a (by omega)
  have hwb := wordsOf_lt a
  have htx : text6 a = Lib.join ((wordsOf a).map hex) [58] := rfl
  have htl := textW_len hwl
  unfold text6 textW at *
  obtain ⟨ws, hws⟩ : ∃ ws, wordsOf a = ws := ⟨_, rfl⟩
  obtain ⟨C, hC⟩ : ∃ C, wcells ws = C := ⟨_, rfl⟩
  obtain ⟨cs, hcs⟩ : ∃ cs, cells6 a = cs := ⟨_, rfl⟩
  obtain ⟨D, hD⟩ : ∃ D, ws.map hex = D := ⟨_, rfl⟩
  rw [hws] at hw hcat hwl hwb htl ⊢
  rw [hC] at hw hcat
  rw [hcs] at hw hsz ⊢
  rw [hD] at htl ⊢
  have hDl : D.length = 8 := by rw [← hD, List.length_map, hwl]
  have hDk : ∀ k, k < 8 → ∃ n, ws.getD k 0 = n ∧ n < 65536 ∧ D[k]? = some (hex n) := fun k hk => by
    refine ⟨_, rfl, ?_, ?_⟩
    · have hk' : k < ws.length := by omega
      simp only [List.getD_eq_getElem?_getD, List.getElem?_eq_getElem hk', Option.getD_some]
      exact hwb _ (List.getElem_mem hk')
    · rw [← hD]
      have hk' : k < ws.length := by omega
      simp [List.getD_eq_getElem?_getD, hk']
  have HW := Lib.hid hw
  have HSZ := Lib.hid hsz
  have HCAT := Lib.hid hcat
  have HDK := Lib.hid hDk
  have HTL := Lib.hid htl
  clear hdeb hw hsz hcat hwb htx htl hws hC hcs hD hDk
  go_enter Tryd.func23, Tryd.ntmps23
  go_upto_region 2 with fail
  apply wp_region_lit
  refine wpList_load_row rfl 31 (.tmp 1) rfl w.heap.size rfl 31 cs (0, 0) _ (Blk.new _ _ _) Tryd.underlying31 rfl HSZ.out ?_
  go_wp2_with fail
  have bel0 : Below w.heap.size w (w.alloc (.cells cs 31)) := (Below.refl _ _).alloc (Nat.le_refl _) _
  refine (HW.out _).mono ?_
  rintro r w1 ⟨rfl, bel1⟩
  have BEL1 := Lib.hid (bel0.trans (bel1.mono bel0.size))
  clear bel0 bel1
  go_wp2
  go_loopw [3, 8] (fun v i wr => ∃ (k : Nat), i = .int .i64 k ∧ k ≤ 8 ∧ wr.ownsRow w.heap.size 9 1 v k (strs (D.take k)) ∧ Below w.heap.size w wr) (fun _ i _ => 8 - (intOf i).toNat)
  case atStart => exact ⟨0, rfl, by omega, ⟨by simp [strs], .inl ⟨rfl, rfl⟩⟩, BEL1.out⟩
  case round =>
    obtain ⟨k, rfl, hk, hown, hb⟩ := hrel
    have hwr : w.heap.size ≤ wr.heap.size := hb.size
    obtain ⟨A3, c3, rfl, _⟩ := own_slice' hown
    clear BEL1
    have OWN := Lib.hid hown
    have HB := Lib.hid hb
    clear hown hb
    by_cases h8 : k < 8
    · obtain ⟨n, hn1, hn2, hn3⟩ := HDK.out k h8
      have hck := HCAT.out k h8
      rw [hn1] at hck
      have hix := fun W => idx_arr (P := Tryd.prog) (cs := C) Tryd.underlying52 (e := 3) Tryd.isAgg3 int_size (k : Int) k rfl h8 (.int .i64 (n : Int)) hck W
      have HDk := Lib.hid hn3
      clear hn1 hn3 hck
      go_wp2_with fail
      refine (fmt_any n hn2 _ (deb_below DEB.out HB.out)).mono ?_
      rintro r w5 ⟨rfl, bel5⟩
      have hbt : Below w5.heap.size w5 (w5.alloc (.cells #[.string (bs (hex n))] 9)) := (Below.refl _ _).alloc (Nat.le_refl _) _
      have OWN5 := Lib.hid (owns_below OWN.out bel5)
      have BEL5 := Lib.hid (HB.out.trans (bel5.mono hwr))
      have hw5 : w.heap.size ≤ w5.heap.size := BEL5.out.size
      clear bel5 OWN hix
      go_wp2_with (at_builtin
                   refine wpList_append_any _ rfl (.tmp 11) (.tmp 14) _ rfl w.heap.size 9 i0 _ 1 16 Tryd.underlying41 hi0 hz0 hz1 hz2 rfl (by omega) (.slice A3 k c3) k (strs (D.take k)) rfl
                     (OWN5.out.alloc _) (w5.heap.size + 1) (some ⟨w5.heap.size, 0, none⟩) 1 1 [.string (bs (hex n))] rfl (reads_one _ _ _) (by simp [Value.oneCell']) (by simp only [maxLen]; omega) (by omega) (by simp; omega) ?_
                   intro v6 w6 own6 grow6 _)
      have hb6 := (app_others hbt OWN5.out hw5 grow6).2
      refine ⟨⟨k + 1, by go_num, h8, ?_, BEL5.out.trans hb6⟩, by simp [intOf]; omega⟩
      rw [List.take_add_one, HDk.out]
      simpa [strs] using own6
    · obtain rfl : k = 8 := by omega
      go_wp2_with fail
      have hown4 := OWN.out
      rw [List.take_of_length_le (by omega)] at hown4
      obtain ⟨A7, c7, e7, hc7⟩ := own_slice hown4
      injection e7 with e7 _ e7'
      subst e7
      subst e7'
      have hj := joinc_any A3 c3 D wr (by rw [hDl]; exact hc7) (by omega) (by have := HTL.out; omega) (by omega)
      rw [hDl] at hj
      refine hj.mono ?_
      rintro r w7 ⟨rfl, bel7⟩
      go_wp2
      go_ret
      exact ⟨rfl, HB.out.trans (bel7.mono hwr)⟩
end Go.Proofs.YtngdomefipcemaaDoor
