/-
  six: SixParses.
-/
import Derived.Test.YtngdomefipcemaaDoorSixS
namespace Go.Proofs.YtngdomefipcemaaDoor
open Go.RowKit Go.Great

theorem p6V_form (s : List UInt8) : ∃ (L : List UInt8) (E : Int), L.length = 16 ∧ p6V (parse6 s) = .tuple #[.agg (cells6 L), .int .i64 E] := by
  cases h : parse6 s with
  | none => exact ⟨zero6, 4, rfl, rfl⟩
  | some ws =>
    obtain ⟨hl, _, _⟩ := textW_parse h
    exact ⟨ofW ws, 0, by rw [ofW_len, hl], rfl⟩

set_option maxRecDepth 100000 in
set_option maxHeartbeats 4000000 in
theorem sparses_list (s : List UInt8) (w : World) (hdeb : Deb w) : Calls Tryd.prog 6 #[.string (bs s)] w fun r w' => r = .returned (.bool true) ∧ Below w.heap.size w w' := by
  have hsz : (bs s).size = s.length := rfl
  have DEB := Lib.hid hdeb
  have AWK := Lib.hid (fun W h => awake6_any W h)
  clear hdeb
  by_cases h2 : 2000 < s.length
  · go_enter Tryd.func6, Tryd.ntmps6
    have hd : decide ((2000 : Int) < (s.length : Int)) = true := by simp; omega
    go_wp2_with fail
    refine (AWK.out _ DEB.out).mono ?_
    rintro r w1 ⟨rfl, bel1⟩
    go_wp2
    go_ret
    exact ⟨rfl, bel1⟩
  · obtain ⟨L, E, hL, hp⟩ := p6V_form s
    have hp1 := fun W => parse6_any s (by omega) W
    have hp2 := fun W => rparse6_any s (by omega) W
    have heq := fun W => eq6 L L hL hL W
    have hsz6 := six_of hL
    have hone := cells6_one L
    have hlen : z16.size = (cells6 L).size := by rw [cells6_size, hL]; rfl
    simp only [decide_true] at heq
    rw [hp] at hp1 hp2
    obtain ⟨C, hC⟩ : ∃ C, cells6 L = C := ⟨_, rfl⟩
    rw [hC] at hp1 hp2 heq hsz6 hone hlen
    have HP1 := Lib.hid hp1
    have HP2 := Lib.hid hp2
    have HSZ := Lib.hid hsz6
    have HONE := Lib.hid hone
    have HLEN := Lib.hid hlen
    clear hp hp1 hp2 hsz6 hone hlen hC
    have hd : decide ((2000 : Int) < (s.length : Int)) = false := by simp; omega
    go_enter Tryd.func6, Tryd.ntmps6
    go_wp2_with fail
    refine (HP1.out _).mono ?_
    rintro r w1 ⟨rfl, bel1⟩
    have BEL1 := Lib.hid (bel1.alloc bel1.size (.cells z16 31))
    have BK1 := Lib.hid (Blk.new w1 31 z16)
    have hw1 := bel1.size
    clear bel1
    go_upto_region 4 with (refine wpList_store_row rfl 31 (.tmp 3) (.tmp 14) rfl w1.heap.size C rfl rfl 31 z16 BK1.out HSZ.out HLEN.out HONE.out ?_)
    have hb2 : Blk ((w1.alloc (.cells z16 31)).setRow w1.heap.size C) w1.heap.size 31 C := setRow_heap _ _ z16 C _ _ BK1.out
    have hbw2 : Below w.heap.size w ((w1.alloc (.cells z16 31)).setRow w1.heap.size C) := below_setRow BEL1.out hw1 _
    change Code.wp _ _ _ _ ((w1.alloc (.cells z16 31)).setRow w1.heap.size C)
    generalize ((w1.alloc (.cells z16 31)).setRow w1.heap.size C) = W2 at hb2 hbw2 ⊢
    obtain ⟨G, hG⟩ : ∃ G, w1.heap.size = G := ⟨_, rfl⟩
    rw [hG] at hb2 ⊢
    have HB2 := Lib.hid hb2
    have HBW2 := Lib.hid hbw2
    have hn2 := hbw2.size
    clear hG BK1 BEL1 hb2 hbw2 hw1
    go_wp2_with fail
    refine (HP2.out _).mono ?_
    rintro r w3 ⟨rfl, bel3⟩
    have HB3 := Lib.hid ((HB2.out.below bel3 HB2.out.lt).alloc (.cells z16 31))
    have hbw3 := HBW2.out.trans (bel3.mono hn2)
    have hw3 := hbw3.size
    have HBW3 := Lib.hid (hbw3.alloc hw3 (.cells z16 31))
    have BK3 := Lib.hid (Blk.new w3 31 z16)
    have hne : G ≠ w3.heap.size := by have := (HB2.out.below bel3 HB2.out.lt).lt; omega
    clear bel3 hbw3
    go_upto_region 5 with (refine wpList_store_row rfl 31 (.tmp 5) (.tmp 19) rfl w3.heap.size C rfl rfl 31 z16 BK3.out HSZ.out HLEN.out HONE.out ?_)
    have hb4 : Blk ((w3.alloc (.cells z16 31)).setRow w3.heap.size C) w3.heap.size 31 C := setRow_heap _ _ z16 C _ _ BK3.out
    have hb5 : Blk ((w3.alloc (.cells z16 31)).setRow w3.heap.size C) G 31 C := (setRow_other _ _ _ _ hne).trans HB3.out
    have hbw4 : Below w.heap.size w ((w3.alloc (.cells z16 31)).setRow w3.heap.size C) := below_setRow HBW3.out hw3 _
    change Code.wp _ _ _ _ ((w3.alloc (.cells z16 31)).setRow w3.heap.size C)
    generalize ((w3.alloc (.cells z16 31)).setRow w3.heap.size C) = W4 at hb4 hb5 hbw4 ⊢
    obtain ⟨G', hG'⟩ : ∃ G, w3.heap.size = G := ⟨_, rfl⟩
    rw [hG'] at hb4 ⊢
    have HBW4 := Lib.hid hbw4
    have hn4 := hbw4.size
    clear hG' BK3 HB3 HBW3 hbw4
    apply wp_region_lit
    refine wpList_load_row rfl 31 (.tmp 3) rfl G rfl 31 C (0, 0) _ hb5 Tryd.underlying31 rfl HSZ.out ?_
    refine wpList_load_row rfl 31 (.tmp 5) rfl G' rfl 31 C (0, 0) _ hb4 Tryd.underlying31 rfl HSZ.out ?_
    clear hb4 hb5
    go_wp2_with fail
    refine (AWK.out _ (deb_below DEB.out HBW4.out)).mono ?_
    rintro r w5 ⟨rfl, bel5⟩
    go_wp2
    go_ret
    exact ⟨rfl, HBW4.out.trans (bel5.mono hn4)⟩
theorem sparses_any (s : ByteArray) (w : World) (hdeb : Deb w) : Calls Tryd.prog 6 #[.string s] w fun r w' => r = .returned (.bool true) ∧ Below w.heap.size w w' := by
  have := sparses_list s.data.toList w hdeb
  rw [bs_of] at this
  exact this
end Go.Proofs.YtngdomefipcemaaDoor
