/-
  name: what dots part, by the document (ref Labels).
-/
import Derived.Test.YtfgcbpchapkjbaaNamK
import Derived.Laws.OwnMore
namespace Go.Proofs.Ytfgcbpchapkjbaa
open Go.RowKit

theorem spl_pos : ∀ (p cur : List UInt8), 0 < (spl cur p).length
  | [], cur => by simp [spl]
  | c :: cs, cur => by
    unfold spl
    split
    · simp
    · exact spl_pos cs _
theorem spl_snoc_dot : ∀ (p cur : List UInt8), spl cur (p ++ [46]) = spl cur p ++ [[]]
  | [], cur => by simp [spl]
  | c :: cs, cur => by
    rw [List.cons_append, spl, spl]
    split
    · rw [spl_snoc_dot cs []]; rfl
    · exact spl_snoc_dot cs _
theorem spl_snoc_other (c : UInt8) (hc : c ≠ 46) : ∀ (p cur : List UInt8), spl cur (p ++ [c]) = (spl cur p).set ((spl cur p).length - 1) ((spl cur p).getD ((spl cur p).length - 1) [] ++ [c])
  | [], cur => by simp [spl, hc]
  | d :: p, cur => by
    rw [List.cons_append, spl, spl]
    split
    · rw [spl_snoc_other c hc p []]
      have h := spl_pos p []
      obtain ⟨m, hm⟩ : ∃ m, (spl [] p).length = m + 1 := ⟨(spl [] p).length - 1, by omega⟩
      simp [hm]
    · exact spl_snoc_other c hc p _
theorem spl_len : ∀ (p cur : List UInt8), (spl cur p).length ≤ p.length + 1
  | [], cur => by simp [spl]
  | c :: cs, cur => by
    unfold spl
    split
    · have := spl_len cs []; simp; omega
    · have := spl_len cs (cur ++ [c]); simp; omega
theorem spl_each : ∀ (p cur : List UInt8), ∀ x ∈ spl cur p, x.length ≤ cur.length + p.length
  | [], cur, x, h => by simp [spl] at h; simp [h]
  | c :: cs, cur, x, h => by
    unfold spl at h
    split at h
    · rcases List.mem_cons.1 h with rfl | h
      · simp
      · have := spl_each cs [] x h; simp at this ⊢; omega
    · have := spl_each cs (cur ++ [c]) x h; simp at this ⊢; omega

theorem ex_one (l : List UInt8) (k : Nat) (hk : k < l.length) : (bs l).extract k (k + 1) = bs [l.getD k 0] := by
  rw [Lib.extract_eq]
  have : ((bs l).data.toList.drop k).take (k + 1 - k) = [l.getD k 0] := by
    rw [bs_data, List.drop_eq_getElem_cons hk, show k + 1 - k = 1 by omega, List.take_succ_cons, List.take_zero]
    simp [List.getD_eq_getElem?_getD, hk]
  rw [this]
  rfl

set_option maxRecDepth 100000 in
set_option maxHeartbeats 4000000 in
theorem rlabels_any (l : List UInt8) (hl : l.length ≤ 1048576) (w : World) :
    Calls Try.prog 21 #[.string (bs l)] w fun e w' => ∃ v, e = .returned v ∧ w'.ownsRow w.heap.size 9 1 v (labels l).length (strs (labels l)) ∧ Below w.heap.size w w' := by
  obtain ⟨i0, hi0, hz0, hz1, hz2⟩ := info_parts str_info
  have hsz : (bs l).size = l.length := rfl
  by_cases h0 : l = []
  · subst h0
    have heq : (bs []).toList = [] := by rw [ByteArray.toList_eq]; rfl
    go_enter Try.func21, Try.ntmps21
    go_wp2
    go_ret
    exact ⟨_, rfl, World.ownsRow_nil _ _ _ _, Below.refl _ _⟩
  · have hlab : labels l = spl [] l := by unfold labels; rw [if_neg h0]
    have hne : ((bs l).toList == []) = false := by rw [ByteArray.toList_eq, bs_data]; simpa using h0
    have hne2 : ¬ (bs l).toList = [] := by rw [ByteArray.toList_eq, bs_data]; exact h0
    rw [hlab]
    clear h0 hlab
    have hbt : Below w.heap.size w (w.alloc (.cells #[.string ⟨#[]⟩] 9)) := (Below.refl _ _).alloc (Nat.le_refl _) _
    have hnil := World.ownsRow_nil w w.heap.size 9 1
    go_enter Try.func21, Try.ntmps21
    go_wp2_with (at_builtin
                 refine wpList_append_any _ rfl (.tmp 7) (.tmp 8) _ rfl w.heap.size 9 i0 _ 1 16 Try.underlying35 hi0 hz0 hz1 hz2 rfl (by omega) (.slice none 0 0) 0 [] rfl
                   (hnil.alloc _) (w.heap.size + 1) (some ⟨w.heap.size, 0, none⟩) 1 1 [.string ⟨#[]⟩] rfl (reads_one _ _ _) (by simp [Value.oneCell']) (by simp only [maxLen]; omega) (by omega) (by simp) ?_
                 intro v1 w1 own1 grow1 _)
    have hb1 := (app_others hbt hnil (Nat.le_refl _) grow1).2
    clear grow1 hbt hnil
    go_loopw [3, 4] (fun v i wr => ∃ (k : Nat), i = .int .i64 k ∧ k ≤ l.length ∧ wr.ownsRow w.heap.size 9 1 v (spl [] (l.take k)).length (strs (spl [] (l.take k))) ∧ Below w.heap.size w wr) (fun _ i _ => l.length - (intOf i).toNat)
    case atStart => exact ⟨0, rfl, by omega, by simpa [spl, strs, bs] using own1, hb1⟩
    case round =>
      obtain ⟨k, rfl, hk, hown, hb⟩ := hrel
      clear own1 hb1 hne hne2
      have HB := Lib.hid hb
      have hwr : w.heap.size ≤ wr.heap.size := hb.size
      clear hb
      by_cases hlt : k < l.length
      · have ik := idx_string (P := Try.prog) (bs l) k Try.underlying9 (by rw [hsz]; exact hlt)
        rw [bs_data] at ik
        have hex := ex_one l k hlt
        obtain ⟨c, hc⟩ : ∃ c, l.getD k 0 = c := ⟨_, rfl⟩
        rw [hc] at ik hex
        have htk : l.take (k + 1) = l.take k ++ [c] := by
          rw [List.take_add_one, List.getElem?_eq_getElem hlt, ← hc]
          simp [List.getD_eq_getElem?_getD, hlt]
        have hlen := spl_len (l.take k) []
        have heach := spl_each (l.take k) []
        have hpos := spl_pos (l.take k) []
        rw [List.length_take, Nat.min_eq_left (by omega)] at hlen heach
        by_cases hdot : c = 46
        · subst hdot
          have hsn := spl_snoc_dot (l.take k) []
          rw [← htk] at hsn
          obtain ⟨S, hS⟩ : ∃ S, spl [] (l.take k) = S := ⟨_, rfl⟩
          rw [hS] at hsn hown hlen
          have OWN := Lib.hid hown
          have HSN := Lib.hid hsn
          clear hown hsn hS heach hpos htk hc hex
          have hbt : Below wr.heap.size wr (wr.alloc (.cells #[.string ⟨#[]⟩] 9)) := (Below.refl _ _).alloc (Nat.le_refl _) _
          go_wp2_with (at_builtin
                       refine wpList_append_any _ rfl (.tmp 20) (.tmp 21) _ rfl w.heap.size 9 i0 _ 1 16 Try.underlying35 hi0 hz0 hz1 hz2 rfl (by omega) _ S.length (strs S) rfl
                         (OWN.out.alloc _) (wr.heap.size + 1) (some ⟨wr.heap.size, 0, none⟩) 1 1 [.string ⟨#[]⟩] rfl (reads_one _ _ _) (by simp [Value.oneCell']) (by simp only [maxLen]; omega) (by omega) (by simp; omega) ?_
                       intro v3 w3 own3 grow3 _)
          have hb3 := (app_others hbt OWN.out hwr grow3).2
          refine ⟨⟨k + 1, by go_num, hlt, ?_, HB.out.trans hb3⟩, by simp [intOf]; omega⟩
          rw [HSN.out]
          simpa [strs, bs] using own3
        · have hsn := spl_snoc_other c hdot (l.take k) []
          rw [← htk] at hsn
          obtain ⟨S, hS⟩ : ∃ S, spl [] (l.take k) = S := ⟨_, rfl⟩
          rw [hS] at hsn hown hlen heach hpos
          obtain ⟨m, hm⟩ : ∃ m, S.length = m + 1 := ⟨S.length - 1, by omega⟩
          rw [hm] at hsn hown hlen
          obtain ⟨A5, c5, rfl, hcells⟩ := own_slice hown
          obtain ⟨g, rfl, hg, hcap, hcell⟩ := hcells (by omega)
          obtain ⟨y, hy⟩ : ∃ y, S.getD m [] = y := ⟨_, rfl⟩
          have hSm : S[m]? = some y := by
            rw [List.getElem?_eq_getElem (by omega), ← hy]
            simp [List.getD_eq_getElem?_getD, show m < S.length by omega]
          have hyl : y.length ≤ k := by
            have := heach y (List.mem_iff_getElem?.2 ⟨m, hSm⟩)
            simpa using this
          have hcm : wr.cell? ⟨g, m, none⟩ = some (.string (bs y)) := by
            have := hcell m (.string (bs y)) (by simp [strs, hSm])
            simpa using this
          have hfm : wr.frozen? ⟨g, m, none⟩ = false := hown.frozenAt m
          have hgB : w.heap.size ≤ g := by have := hown.lt g rfl; exact this.1
          have hst := hown.stored m (.string (bs (y ++ [c])))
          have hcat : bs y ++ bs [c] = bs (y ++ [c]) := bs_append y [c]
          have hs1 : (bs y).size = y.length := rfl
          have hs2 : (bs [c]).size = 1 := rfl
          have hi1 : (((m + 1 : Nat) : Int)) - 1 = m := by omega
          rw [show m + 1 - 1 = m by omega, hy] at hsn
          have HSN := Lib.hid hsn
          have HST := Lib.hid hst
          have hcd : ¬ ((c.toNat : Int) = 46) := fun e => hdot (UInt8.toNat_inj.1 (by have : c.toNat = 46 := by omega
                                                                                      exact this))
          have hcd2 : ((c.toNat : Int) == 46) = false := by simp [hcd]
          clear hown hsn hS heach hpos htk hc hcells hcell hst hSm hy
          have q1 : (k : Int) + 1 ≤ l.length := by omega
          have q2 : (0 : Int) ≤ (k : Int) + 1 := by omega
          have q3 : IntKind.i64.wrap ((k : Int) + 1) = (k : Int) + 1 := IntWalk.i64_in _ (by omega)
          have q4 : IntKind.i64.wrap ((m : Int) + 1 - 1) = (m : Int) := by rw [show (m : Int) + 1 - 1 = m by omega]; exact IntWalk.i64_in _ (by omega)
          have q5 : y.length + 1 ≤ 9223372036854775807 := by omega
          go_wp2
          go_region
          go_wp2
          have hbS : Below w.heap.size w (wr.setCell ⟨g, m, none⟩ (.string (bs (y ++ [c])))).drew := ((HB.out.grown HST.out.2 hwr (fun j e => by cases e; exact hgB)).drew)
          have hoS : (wr.setCell ⟨g, m, none⟩ (.string (bs (y ++ [c])))).drew.ownsRow w.heap.size 9 1 (.slice (some ⟨g, 0, none⟩) (m + 1) c5) (m + 1) ((strs S).set m (.string (bs (y ++ [c])))) := HST.out.1
          refine ⟨⟨k + 1, by go_num, hlt, ?_, hbS⟩, by simp [intOf]; omega⟩
          rw [HSN.out, List.length_set, hm]
          simpa [strs, List.map_set] using hoS
      · obtain rfl : k = l.length := by omega
        rw [List.take_length] at hown
        go_wp2
        go_ret
        exact ⟨_, rfl, hown, HB.out⟩
end Go.Proofs.Ytfgcbpchapkjbaa
