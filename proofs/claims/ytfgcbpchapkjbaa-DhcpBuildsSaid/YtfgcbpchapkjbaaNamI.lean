/-
  name: the name with which bytes begin (name.Take).
-/
import Derived.Test.YtfgcbpchapkjbaaNamH
import Derived.WalkMore
import Derived.Scope
namespace Go.Proofs.Ytfgcbpchapkjbaa
open Go.RowKit

theorem str_info : (Try.prog.info? 9).map (fun i => (i.zero, i.size, i.bytes)) = some (some (.string ByteArray.empty), 1, 16) := by kernel_rfl
theorem byte_size : (Try.prog.info? 5).map (·.size) = some 1 := by kernel_rfl

/-- What Take gives back, as a value. -/
def tkV (r : List UInt8 × Nat × Int) : Value := .tuple #[.string (bs r.1), .int .i64 r.2.1, .int .i64 r.2.2]
def strs (L : List (List UInt8)) : List Value := L.map (fun l => .string (bs l))
theorem strs_length (L : List (List UInt8)) : (strs L).length = L.length := by simp [strs]

theorem join_any (A : Option Addr) (c : Nat) (L : List (List UInt8)) (w : World) (h : 0 < L.length → ∃ g, A = some ⟨g, 0, none⟩ ∧ g < w.heap.size ∧ L.length ≤ c ∧ ∀ j u, (strs L)[j]? = some u → w.cell? ⟨g, 0 + j, none⟩ = some u) (hl : (jn L).length ≤ 140737488355328) (hN : L.length ≤ 140737488355328) :
    Calls Try.prog 35 #[.slice A L.length c, .string ⟨#[46]⟩] w fun e w' => e = .returned (.string (bs (jn L))) ∧ Below w.heap.size w w' := by
  by_cases h0 : 0 < L.length
  · obtain ⟨g, rfl, hg, hc, hcell⟩ := h h0
    have e1 : (L.map bs).map (·.data.toList) = L := by
      rw [List.map_map]
      have : ((fun x : ByteArray => x.data.toList) ∘ bs) = id := by funext l; rfl
      rw [this, List.map_id]
    have := Try.strings_Join g 0 c (L.map bs) ⟨#[46]⟩ w (fun j x hx => hcell j _ (by
      rw [List.getElem?_map] at hx
      obtain ⟨y, hy, rfl⟩ := Option.map_eq_some_iff.1 hx
      simp [strs, hy])) hg (by simpa using hN) (by simpa using hc) (by rw [e1]; exact hl)
    rw [e1, List.length_map] at this
    exact this
  · obtain rfl : L = [] := List.eq_nil_of_length_eq_zero (by omega)
    exact (Try.strings_Join_none A c ⟨#[46]⟩ w).mono fun e w' ⟨h1, h2⟩ => ⟨h1, h2 ▸ Below.refl _ _⟩

set_option maxRecDepth 100000 in
set_option maxHeartbeats 4000000 in
theorem ntake_any (A : Option Addr) (n c : Nat) (d : List UInt8) (w : World) (h : BReads w A n (nums d)) (hc : n ≤ c) (hn : n ≤ 1048576) :
    Calls Try.prog 10 #[.slice A n c] w fun e w' => e = .returned (tkV (takeFrom d 0 [])) ∧ Below w.heap.size w w' := by
  obtain rfl : d.length = n := by have := h.len; rw [nums_length] at this; exact this
  obtain ⟨R, hR⟩ : ∃ R, takeFrom d 0 [] = R := ⟨_, rfl⟩
  rw [hR]
  have H := Lib.hid h
  clear h
  go_enter Try.func10, Try.ntmps10
  go_wp2
  go_step3
  go_wp2
  go_step3
  go_wp2
  go_loopw [5, 6] (fun v i wr => ∃ (k : Nat) (L : List (List UInt8)), i = .int .i64 k ∧ k ≤ d.length ∧ wr.ownsRow w.heap.size 9 1 v L.length (strs L) ∧ Below w.heap.size w wr ∧ takeFrom d k (jn L) = R ∧ (0 < k ↔ L ≠ []) ∧ (jn L).length ≤ k ∧ L.length ≤ k) (fun _ i _ => d.length - (intOf i).toNat)
  case atStart => exact ⟨0, [], rfl, by omega, World.ownsRow_nil _ _ _ _, Below.refl _ _, hR, by simp, by simp [jn_nil], by simp⟩
  case round =>
    obtain ⟨k, L, rfl, hk, hown, hb, hT, hkL, hjl, hLl⟩ := hrel
    clear hR
    have OWN := Lib.hid hown
    have HT := Lib.hid hT
    have HB := Lib.hid hb
    clear hown hT hb
    by_cases hlt : k < d.length
    · obtain ⟨ad, u, rfl, had, hu, hcell⟩ := H.out.1.at_ hlt
      obtain ⟨m, hm⟩ : ∃ m, (d.getD k 0).toNat = m := ⟨_, rfl⟩
      have hub : m < 256 := by rw [← hm]; exact (d.getD k 0).toNat_lt
      obtain rfl : u = .int .u8 (m : Int) := by
        have hk' : k < d.length := hlt
        simp [nums, hk'] at hu
        rw [← hu, ← hm]
        simp [List.getD_eq_getElem?_getD, hk']
      have hcw : wr.cell? (ad.add k) = some (.int .u8 (m : Int)) := (HB.out.cell (p := ad.add k) (by rw [block_of_add]; exact had)).trans hcell
      by_cases h0 : m = 0
      · subst h0
        have hRR := HT.out
        rw [take_zero hm hlt rfl] at hRR
        obtain ⟨A5, c5, rfl, hcells⟩ := own_slice OWN.out
        have hjn : (jn L).length ≤ 140737488355328 := by omega
        go_wp2_with (go_at_call 35; refine (join_any A5 c5 L wr (by simpa using hcells) hjn (by omega)).mono ?_; rintro r w5 ⟨rfl, hb5⟩)
        rw [Exit.noGoto_ret]
        go_ret3
        exact ⟨by rw [← hRR]; rfl, HB.out.trans (hb5.mono HB.out.size)⟩
      · by_cases h1 : 63 < m ∨ 255 < k + m + 2
        · have hRR := HT.out
          rw [take_long hm hlt h0 h1] at hRR
          subst hRR
          rcases Nat.lt_or_ge 63 m with h2 | h2
          · clear h1
            go_wp2_with fail
            rw [Exit.noGoto_ret]
            go_ret3
            exact ⟨rfl, HB.out⟩
          · have h3 : 255 < k + m + 2 := by omega
            clear h1
            go_wp2_with fail
            rw [Exit.noGoto_ret]
            go_ret3
            exact ⟨rfl, HB.out⟩
        · have h2 : m ≤ 63 := by omega
          have h3 : k + m + 2 ≤ 255 := by omega
          by_cases h4 : d.length - k - 1 < m
          · have hRR := HT.out
            rw [take_short hm hlt h0 h1 h4] at hRR
            subst hRR
            have h5 : d.length < k + 1 + m := by omega
            clear h1 h4
            go_wp2_with fail
            rw [Exit.noGoto_ret]
            go_ret3
            exact ⟨rfl, HB.out⟩
          · have h5 : k + 1 + m ≤ d.length := by omega
            obtain ⟨A2, c2, hsl, hcv⟩ := piece_runs (P := Try.prog) (w := w) (t := 22) (e := 5) (s := 9) Try.underlying22 Try.underlying5 Try.underlying9 byte_size H.out hc (k + 1) m h5 (by omega)
            have hcv' := hcv wr HB.out
            rw [show ((k + 1 : Nat) : Int) = (k : Int) + 1 by omega] at hsl
            obtain ⟨x, hx⟩ : ∃ x, (d.drop (k + 1)).take m = x := ⟨_, rfl⟩
            have hxl : x.length = m := by rw [← hx, List.length_take, List.length_drop]; omega
            rw [hx] at hcv'
            clear hcv
            cases hlx : lab x with
            | false =>
              have hRR := HT.out
              rw [take_bad hm hlt h0 h1 h4 (by rw [hx]; exact hlx)] at hRR
              subst hRR
              clear h1 h4
              go_wp2_with (go_at_call 34; refine (right_any (bs x) (by rw [bs_size]; omega) _).mono ?_; rintro r w5 ⟨rfl, hb5⟩; rw [bs_data, hlx])
              rw [Exit.noGoto_ret]
              go_ret3
              exact ⟨rfl, HB.out.trans (hb5.mono HB.out.size)⟩
            | true =>
              have hnext := HT.out
              rw [take_next hm hlt h0 h1 h4 (by rw [hx]; exact hlx), hx, ← jn_snoc L x k hkL] at hnext
              have HN := Lib.hid hnext
              clear h1 h4 hnext
              obtain ⟨i0, hi0, hz0, hz1, hz2⟩ := info_parts str_info
              go_wp2_with (first
                | (go_at_call 34; refine (right_any (bs x) (by rw [bs_size]; omega) _).mono ?_; rintro r w5 ⟨rfl, hb5⟩; rw [bs_data, hlx]
                   have OW5 := Lib.hid (owns_below OWN.out hb5)
                   have HB5 := Lib.hid (HB.out.trans (hb5.mono HB.out.size))
                   clear hb5)
                | (at_builtin
                   refine wpList_append_any _ rfl (.tmp 48) (.tmp 50) _ rfl w.heap.size 9 i0 _ 1 16 Try.underlying35 hi0 hz0 hz1 hz2 rfl (by omega) _ L.length (strs L) rfl
                     (OW5.out.alloc _) (w5.heap.size + 1) (some ⟨w5.heap.size, 0, none⟩) 1 1 [.string (bs x)] rfl (reads_one _ _ _) (by simp [Value.oneCell']) (by simp only [maxLen]; omega) (by omega) (by have := HB5.out.size; simp; omega) ?_
                   intro v1 w6 own6 grow6 _))
              have hbt : Below w5.heap.size w5 (w5.alloc (.cells #[.string (bs x)] 9)) := (Below.refl _ _).alloc (Nat.le_refl _) _
              have hb6 := (app_others hbt OW5.out HB5.out.size grow6).2
              refine ⟨⟨k + 1 + m, L ++ [x], by go_num, h5, ?_, HB5.out.trans hb6, HN.out, ⟨fun _ => by simp, fun _ => by omega⟩, ?_, by simp; omega⟩, by simp [intOf]; omega⟩
              · simpa [strs] using own6
              · rw [jn_snoc L x k hkL]
                split <;> simp <;> omega
    · obtain rfl : k = d.length := by omega
      have hRR := HT.out
      rw [take_end (Nat.le_refl _)] at hRR
      subst hRR
      go_wp2
      rw [Exit.noGoto_ret]
      go_ret3
      exact ⟨rfl, HB.out⟩
end Go.Proofs.Ytfgcbpchapkjbaa
