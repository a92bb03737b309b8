/-
  cmd: words parted by blanks, by the document (Words).
-/
import Derived.Test.YtkbbkddepcjoaaaDoorCmdF
import Derived.Test.YtkbbkddepcjoaaaDoorQuiet
namespace Go.Proofs.YtkbbkddepcjoaaaDoor
open Go.RowKit

theorem strs_snoc (D : List (List UInt8)) (x : List UInt8) : strs (D ++ [x]) = strs D ++ [.string (bs x)] := by simp [strs]
theorem strs_set (D : List (List UInt8)) (x y : List UInt8) : (strs (D ++ [x])).set D.length (.string (bs y)) = strs (D ++ [y]) := by simp [strs]

set_option maxRecDepth 100000 in
set_option maxHeartbeats 4000000 in
theorem rwords_any (l : List UInt8) (hl : l.length ≤ 1048576) (w : World) : Calls Tryd.prog 34 #[.string (bs l)] w fun r w' => ∃ g c, r = .returned (.slice (some ⟨g, 0, none⟩) (piecesB [] l).length c) ∧ (piecesB [] l).length ≤ c ∧ c ≤ maxLen ∧ TRow w' g 0 (piecesB [] l) ∧ Below w.heap.size w w' := by
  obtain ⟨R, hR⟩ : ∃ R, piecesB [] l = R := ⟨_, rfl⟩
  rw [hR]
  have hsz : (bs l).size = l.length := rfl
  obtain ⟨i0, hi0, hz0, hz1, hz2⟩ := info_parts str_info
  have HIX := Lib.hid (show ∀ k w, k < l.length → (Instr.index 9 (.string (bs l)) (.int .i64 (k : Int))).run Tryd.prog w = .ok (.int .u8 ((l.getD k 0).toNat : Int)) w by
    intro k w hk
    have := idx_string (P := Tryd.prog) (bs l) k Tryd.underlying9 (by rw [hsz]; omega) w
    rw [bs_data] at this
    exact this)
  have HR := Lib.hid hR
  clear hR
  go_enter Tryd.func34, Tryd.ntmps34
  go_wp2
  have own0 : (w.alloc (.cells #[.string ⟨#[]⟩] 9)).ownsRow w.heap.size 9 1 (.slice (some ⟨w.heap.size, 0, none⟩) 1 1) 1 (strs ([] ++ [[]])) := World.ownsRow_lit w #[.string ⟨#[]⟩] 1 (Nat.le_refl _) (by decide) rfl
  have hb0 : Below w.heap.size w (w.alloc (.cells #[.string ⟨#[]⟩] 9)) := (Below.refl _ _).alloc (Nat.le_refl _) _
  change Code.wp _ _ _ _ (w.alloc (.cells #[.string ⟨#[]⟩] 9))
  generalize w.alloc (.cells #[.string ⟨#[]⟩] 9) = W at own0 hb0 ⊢
  have OWN0 := Lib.hid own0
  have HB0 := Lib.hid hb0
  clear own0 hb0
  go_loopw [3, 4] (fun v i wr => ∃ (k m : Nat) (D : List (List UInt8)) (cur : List UInt8), i = .int .i64 k ∧ k ≤ l.length ∧ D.length = m ∧ wr.ownsRow w.heap.size 9 1 v (m + 1) (strs (D ++ [cur])) ∧ D ++ piecesB cur (l.drop k) = R ∧ m ≤ k ∧ cur.length ≤ k ∧ Below w.heap.size w wr) (fun _ i _ => l.length - (intOf i).toNat)
  case atStart => exact ⟨0, 0, [], [], rfl, by omega, rfl, OWN0.out, by simpa using HR.out, by omega, by simp, HB0.out⟩
  case round =>
    obtain ⟨k, m, D, cur, rfl, hk, hm, own, hRk, hmk, hck, hb⟩ := hrel
    clear OWN0 HB0
    obtain ⟨g, cap, rfl, hg, hgl⟩ := own.form (by omega)
    have OWN := Lib.hid own
    have HB := Lib.hid hb
    have HRK := Lib.hid hRk
    have HM := Lib.hid hm
    have hws : w.heap.size ≤ wr.heap.size := hb.size
    clear hb hRk
    by_cases hlt : k < l.length
    · obtain ⟨ch, hch⟩ : ∃ ch, l[k]? = some ch := ⟨_, List.getElem?_eq_getElem hlt⟩
      have hgd : l.getD k 0 = ch := by simp [List.getD_eq_getElem?_getD, hch]
      have ik := fun w => HIX.out k w hlt
      rw [hgd] at ik
      have hdr : l.drop k = ch :: l.drop (k + 1) := by
        rw [List.drop_eq_getElem_cons hlt]
        congr 1
        rw [List.getElem?_eq_getElem hlt] at hch
        exact Option.some.inj hch
      by_cases hc : ch = 32
      · have hnext := Lib.hid (show (D ++ [cur]) ++ piecesB [] (l.drop (k + 1)) = R by
          rw [← HRK.out, hdr, piecesB, if_pos hc]; simp)
        subst hc
        have ik' : ∀ w, (Instr.index 9 (.string (bs l)) (.int .i64 (k : Int))).run Tryd.prog w = .ok (.int .u8 32) w := ik
        clear own hm ik hdr hch hgd
        go_wp2_with (at_builtin
                     refine wpList_append_any _ rfl (.tmp 16) (.tmp 17) _ rfl w.heap.size 9 i0 _ 1 16 Tryd.underlying57 hi0 hz0 hz1 hz2 rfl (by omega) _ (m + 1) (strs (D ++ [cur])) rfl
                       (OWN.out.alloc _) (wr.heap.size + 1) (some ⟨wr.heap.size, 0, none⟩) 1 1 [.string (bs [])] rfl (reads_one _ _ _) (by simp [Value.oneCell']) (by simp only [maxLen]; omega) (by omega) (by simp; omega) ?_
                     intro v1 w6 own6 grow6 _)
        have hbt : Below wr.heap.size wr (wr.alloc (.cells #[.string (bs [])] 9)) := (Below.refl _ _).alloc (Nat.le_refl _) _
        have hb6 := (app_others hbt OWN.out hws grow6).2
        refine ⟨⟨k + 1, m + 1, D ++ [cur], [], by go_num, hlt, by simp [HM.out], ?_, hnext.out, by omega, by simp, HB.out.trans hb6⟩, by simp [intOf]; omega⟩
        rw [strs_snoc (D ++ [cur])]
        exact own6
      · have hnext := Lib.hid (show D ++ piecesB (cur ++ [ch]) (l.drop (k + 1)) = R by
          rw [← HRK.out, hdr, piecesB, if_neg hc])
        have hcell : wr.cell? ⟨g, m, none⟩ = some (.string (bs cur)) := by
          rw [own.cellAt m (by omega), ← hm]
          simp [strs]
        have hx : (bs l).extract k (k + 1) = bs [ch] := by rw [ex_one l k hlt, hgd]
        have hfr := own.frozenAt m
        have hne : ch.toNat ≠ 32 := fun h => hc (UInt8.toNat_inj.1 h)
        have hcl := ch.toNat_lt
        obtain ⟨X, hX⟩ : ∃ X, ch.toNat = X := ⟨_, rfl⟩
        rw [hX] at ik hne hcl
        have hwm : IntKind.i64.wrap (m : Int) = (m : Int) := IntWalk.i64_in _ (by omega)
        have hsz1 : ¬ 9223372036854775807 < (bs cur).size + (bs [ch]).size := by rw [bs_size, bs_size]; simp; omega
        have hap : bs cur ++ bs [ch] = bs (cur ++ [ch]) := bs_append _ _
        clear own hm hdr hch hgd hX hc
        go_wp2
        have d0 := fun p : After wr => p.read hcell
        have hlt1 : (m : Int) < (m : Int) + 1 := by omega
        refine wp_after_tail 17 (by kernel_rfl) (by kernel_rfl) ?_
        simp only [List.take_succ_cons, List.take_zero, List.drop_succ_cons, List.drop_zero]
        repeat (go_big_quiet_step (fail))
        refine wpQuiet_nil ?_
        intro w' hw'
        obtain ⟨p, rfl⟩ := hw'
        have x2 := p.frozen (a := ⟨g, m, none⟩) hgl hfr
        have x3 := p.read hcell
        go_wp2
        have own7 := ((owns_below OWN.out p.below).stored m (.string (bs (cur ++ [ch])))).1
        rw [← HM.out, strs_set D cur (cur ++ [ch]), HM.out] at own7
        refine ⟨⟨k + 1, m, D, cur ++ [ch], by go_num, hlt, HM.out, own7, hnext.out, by omega, by simp; omega, (HB.out.trans (p.below.mono hws)).setCell (p := ⟨g, m, none⟩) hg _⟩, by simp [intOf]; omega⟩
    · obtain rfl : k = l.length := by omega
      have hRR : D ++ [cur] = R := by rw [← HRK.out, List.drop_length]; rfl
      have hlen : R.length = m + 1 := by rw [← hRR]; simp [HM.out]
      have hcap : m + 1 ≤ cap ∧ cap ≤ maxLen := by
        rcases own.2 with ⟨h0, _⟩ | ⟨g', cap', cur', h0, _, _, h1, h2, _⟩
        · cases h0
        · injection h0 with _ _ h0
          subst h0
          exact ⟨h1, h2⟩
      have htr : TRow wr g 0 R := ⟨hgl, fun j x hx => by
        rw [Nat.zero_add]
        have hj : j < R.length := (List.getElem?_eq_some_iff.1 hx).1
        rw [own.cellAt j (by omega), hRR]
        simp [strs, hx]⟩
      have HLEN := Lib.hid hlen
      have HTR := Lib.hid htr
      have HCAP := Lib.hid hcap
      clear own hm hRR hlen hcap htr
      go_wp2
      go_ret
      exact ⟨g, cap, by rw [HLEN.out]; rfl, by rw [HLEN.out]; exact HCAP.out.1, HCAP.out.2, HTR.out, HB.out⟩
end Go.Proofs.YtkbbkddepcjoaaaDoor
