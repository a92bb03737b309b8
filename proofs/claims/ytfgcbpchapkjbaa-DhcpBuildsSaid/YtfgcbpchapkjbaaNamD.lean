/-
  name: the labels of a text; strings.Cut at a dot.
-/
import Derived.Test.YtfgcbpchapkjbaaNamC
namespace Go.Proofs.Ytfgcbpchapkjbaa
open Go.RowKit

/-- What dots part. -/
def spl : List UInt8 → List UInt8 → List (List UInt8)
  | cur, [] => [cur]
  | cur, c :: cs => if c = 46 then cur :: spl [] cs else spl (cur ++ [c]) cs
def labels (l : List UInt8) : List (List UInt8) := if l = [] then [] else spl [] l

theorem spl_none : ∀ (p cur : List UInt8), (46 : UInt8) ∉ p → spl cur p = [cur ++ p]
  | [], cur, _ => by simp [spl]
  | c :: cs, cur, h => by
    have h1 : c ≠ 46 := fun e => h (by simp [e])
    have h2 : (46 : UInt8) ∉ cs := fun e => h (by simp [e])
    rw [spl, if_neg h1, spl_none cs _ h2]
    simp
theorem spl_dot : ∀ (p cur q : List UInt8), (46 : UInt8) ∉ p → spl cur (p ++ 46 :: q) = (cur ++ p) :: spl [] q
  | [], cur, q, _ => by simp [spl]
  | c :: cs, cur, q, h => by
    have h1 : c ≠ 46 := fun e => h (by simp [e])
    have h2 : (46 : UInt8) ∉ cs := fun e => h (by simp [e])
    rw [List.cons_append, spl, if_neg h1, spl_dot cs _ q h2]
    simp

/-- strings.Cut at a dot. -/
def cutD (l : List UInt8) : List UInt8 × List UInt8 × Bool :=
  if 0 ≤ Lib.indexByte l 46 then (l.take (Lib.indexByte l 46).toNat, l.drop ((Lib.indexByte l 46).toNat + 1), true) else (l, [], false)

theorem cutD_cases (l : List UInt8) : (Lib.indexByte l 46 = -1 ∧ cutD l = (l, [], false) ∧ (46 : UInt8) ∉ l) ∨
    ∃ i : Nat, Lib.indexByte l 46 = i ∧ i < l.length ∧ cutD l = (l.take i, l.drop (i + 1), true) ∧ (46 : UInt8) ∉ l.take i ∧ l = l.take i ++ 46 :: l.drop (i + 1) := by
  have hge := Lib.indexByte_ge l 46
  by_cases h : Lib.indexByte l 46 = -1
  · refine .inl ⟨h, by unfold cutD; rw [h, if_neg (by omega)], fun hm => ?_⟩
    obtain ⟨k, hk⟩ := List.mem_iff_getElem?.1 hm
    exact Lib.indexByte_none h k hk
  · obtain ⟨i, hi⟩ : ∃ i : Nat, Lib.indexByte l 46 = i := ⟨(Lib.indexByte l 46).toNat, by omega⟩
    obtain ⟨h1, h2⟩ := Lib.indexByte_some hi
    obtain ⟨hlt, hget⟩ := List.getElem?_eq_some_iff.1 h1
    refine .inr ⟨i, hi, hlt, by unfold cutD; rw [hi, if_pos (by omega)]; simp, fun hm => ?_, ?_⟩
    · obtain ⟨k, hk⟩ := List.mem_iff_getElem?.1 hm
      have hk' : k < i := by
        have := (List.getElem?_eq_some_iff.1 hk).1
        simp at this
        omega
      rw [List.getElem?_take, if_pos hk'] at hk
      exact h2 k hk' hk
    · conv => lhs; rw [← List.take_append_drop i l]
      rw [List.drop_eq_getElem_cons hlt, hget]

/-- The labels, one cut at a time. -/
theorem spl_cut (l : List UInt8) : spl [] l = (cutD l).1 :: (if (cutD l).2.2 then spl [] (cutD l).2.1 else []) := by
  rcases cutD_cases l with ⟨_, h, hn⟩ | ⟨i, _, _, h, hn, e⟩
  · rw [h, spl_none l [] hn]; rfl
  · rw [h]
    conv => lhs; rw [e]
    rw [spl_dot _ [] _ hn]
    rfl

set_option maxHeartbeats 1000000 in
theorem scut_any (s : ByteArray) (hs : s.size ≤ 1099511627776) (w : World) : Calls Try.prog 53 #[.string s, .string ⟨#[46]⟩] w fun e w' =>
    e = .returned (.tuple #[.string ⟨(cutD s.data.toList).1.toArray⟩, .string ⟨(cutD s.data.toList).2.1.toArray⟩, .bool (cutD s.data.toList).2.2]) ∧ ∃ n, w' = w.drewN n := by
  have hl := size_data s
  rcases cutD_cases s.data.toList with ⟨hi, e, _⟩ | ⟨i, hi, hlt, e, _, _⟩
  · rw [e]
    go_enter Try.func53, Try.ntmps53
    go_wp2_with (go_at_call 63; refine (Try.stringslite_Index_one _ _ _).mono ?_; rintro r w' ⟨rfl, rfl⟩; rw [hi])
    go_ret3
    exact ⟨rfl, 0, rfl⟩
  · have c2 : (i : Int) + 1 ≤ s.size := by omega
    have c1 : (i : Int) ≤ s.size := by omega
    have c3 : (0 : Int) ≤ i + 1 := by omega
    have c4 : IntKind.i64.wrap ((i : Int) + 1) = i + 1 := IntWalk.i64_in _ (by omega)
    have e1 : (⟨(s.data.toList.take i).toArray⟩ : ByteArray) = s.extract 0 i := by rw [Lib.extract_eq]; simp
    have e2 : (⟨(s.data.toList.drop (i + 1)).toArray⟩ : ByteArray) = s.extract (i + 1) s.size := by
      rw [Lib.extract_eq, List.take_of_length_le (by rw [List.length_drop]; omega)]
    rw [e]
    simp only [e1, e2]
    clear e e1 e2
    go_enter Try.func53, Try.ntmps53
    go_wp2_with (go_at_call 63; refine (Try.stringslite_Index_one _ _ _).mono ?_; rintro r w' ⟨rfl, rfl⟩; rw [hi])
    go_region
    go_wp2
    go_ret3
    exact ⟨rfl, 1, rfl⟩

set_option maxHeartbeats 1000000 in
theorem cut_any (s : ByteArray) (hs : s.size ≤ 1099511627776) (w : World) : Calls Try.prog 40 #[.string s, .string ⟨#[46]⟩] w fun e w' =>
    e = .returned (.tuple #[.string ⟨(cutD s.data.toList).1.toArray⟩, .string ⟨(cutD s.data.toList).2.1.toArray⟩, .bool (cutD s.data.toList).2.2]) ∧ ∃ n, w' = w.drewN n := by
  go_enter Try.func40, Try.ntmps40
  go_wp2_with (go_at_call 53; refine (scut_any s hs _).mono ?_; rintro r w' ⟨rfl, n, rfl⟩)
  go_ret3
  exact ⟨rfl, n, rfl⟩
end Go.Proofs.Ytfgcbpchapkjbaa
