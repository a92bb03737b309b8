/-
  four: strings.Split at a dot; the byte that digits say.
-/
import Derived.Test.YtkbbkddepcjoaaaDoorFourC
import Derived.Lib.SplitLaws
import Derived.Lib.IndexBytes
import Derived.Shelf.Strings.SplitCore
namespace Go.Proofs.YtkbbkddepcjoaaaDoor
open Go.RowKit Go.Shelf

theorem index_at : ∀ (x r : List UInt8), (46 : UInt8) ∉ x → Lib.indexByte (x ++ 46 :: r) 46 = x.length
  | [], r, _ => by simp [Lib.indexByte]
  | c :: x, r, h => by
    have hc : ¬ c = 46 := fun e => h (by simp [e])
    have ih := index_at x r (fun hm => h (by simp [hm]))
    rw [List.cons_append, Lib.indexByte, if_neg (by simpa using hc), ih, if_neg (by simp)]
    simp
theorem index_not : ∀ (x : List UInt8), (46 : UInt8) ∉ x → Lib.indexByte x 46 = -1
  | [], _ => by simp [Lib.indexByte]
  | c :: x, h => by
    have hc : ¬ c = 46 := fun e => h (by simp [e])
    have ih := index_not x (fun hm => h (by simp [hm]))
    rw [Lib.indexByte, if_neg (by simpa using hc), ih]
    rfl
theorem split_pieces : ∀ (N : Nat) (s : List UInt8), s.length ≤ N → Lib.splitK [46] 0 (s.count 46) s = pieces [] s
  | N, s, hN => by
    by_cases hm : (46 : UInt8) ∈ s
    · obtain ⟨x, r, rfl, hx⟩ := List.eq_append_cons_of_mem hm
      have hc : (x ++ 46 :: r).count 46 = r.count 46 + 1 := by
        rw [List.count_append, List.count_cons_self, List.count_eq_zero_of_not_mem hx]
        omega
      have hi : Lib.index (x ++ 46 :: r) [46] = x.length := by rw [Lib.index_one, index_at x r hx]
      rw [hc, Lib.splitK, hi, if_neg (by simp)]
      simp only [Int.toNat_natCast, Nat.add_zero, List.length_cons, List.length_nil, Nat.zero_add]
      rw [List.take_left' rfl, show (x ++ 46 :: r).drop (x.length + 1) = r by rw [show x ++ 46 :: r = (x ++ [46]) ++ r by simp, List.drop_left' (by simp)]]
      rw [pieces_free x [] _ hx, pieces, if_pos rfl, List.nil_append]
      cases N with
      | zero => simp at hN
      | succ N => rw [split_pieces N r (by simp at hN; omega)]
    · rw [List.count_eq_zero_of_not_mem hm, Lib.splitK]
      have := pieces_free s [] [] hm
      rw [List.append_nil, List.nil_append] at this
      rw [this, pieces]

theorem pieces_len (s : List UInt8) (cur : List UInt8) : (pieces cur s).length = s.count 46 + 1 := by
  induction s generalizing cur with
  | nil => simp [pieces]
  | cons c cs ih =>
    unfold pieces
    by_cases h : c = 46
    · subst h
      rw [if_pos rfl, List.length_cons, ih, List.count_cons_self]
    · rw [if_neg h, ih, List.count_cons_of_ne (by simpa using h)]

/-- strings.Split(s, "."): no premise on the world. -/
theorem split_any (s : List UInt8) (hs : s.length ≤ 1048576) (w : World) : Calls Tryd.prog 32 #[.string (bs s), .string ⟨#[46]⟩] w fun e w' => e = .returned (.slice (some ⟨w.heap.size, 0, none⟩) (pieces [] s).length (pieces [] s).length) ∧ Blk w' w.heap.size 9 (strs (pieces [] s)).toArray ∧ Below w.heap.size w w' := by
  have hsz : (bs s).size = s.length := rfl
  have hcB : Lib.countB (bs s) ⟨#[46]⟩ = s.count 46 := by
    show Lib.count s [46] = _
    exact Lib.count_one 46 s
  have hsp : (Lib.splitB ⟨#[46]⟩ 0 (s.count 46) (bs s)).map Value.string = strs (pieces [] s) := by
    have h1 := Lib.splitB_data ⟨#[46]⟩ 0 (s.count 46) (bs s)
    have h2 : Lib.splitK [46] 0 (s.count 46) s = pieces [] s := split_pieces s.length s (Nat.le_refl _)
    rw [show (⟨#[46]⟩ : ByteArray).data.toList = [46] from rfl, bs_data, h2] at h1
    rw [← h1]
    unfold strs
    rw [List.map_map]
    refine List.map_congr_left fun x _ => ?_
    simp [Function.comp, bs_of]
  have hall := Lib.splitB_all ⟨#[46]⟩ (by decide) 0 _ (bs s) hcB
  have c := Any.strings_genSplit_core Tryd.lays221 str_info (bs s) ⟨#[46]⟩ 0 (-1) (s.count 46 + 1) w (by rw [hsz]; omega) (by decide) (Nat.zero_le _)
    (fun x c hx => (Tryd.strings_Index_one x 46 _).mono fun e w' h => ⟨by rw [h.1]; congr 2; exact (Lib.index_one _ _).symm, h.2⟩)
    ((Tryd.strings_Count_one (bs s) 46 w).mono fun e w' h => ⟨by rw [h.1, hcB]; rfl, h.2⟩)
    (by decide) (by decide) (by rw [if_pos (by decide), hcB, hsz]; have := List.count_le_length (a := (46 : UInt8)) (l := s); omega)
  rw [Nat.add_sub_cancel, hall] at c
  have e2 : Lib.cellsOf (Lib.splitB ⟨#[46]⟩ 0 (s.count 46) (bs s)) (s.count 46 + 1) = (strs (pieces [] s)).toArray := by
    rw [← hsp, ← hall]
    exact Lib.cellsOf_full _
  rw [e2] at c
  rw [pieces_len]
  have C := Lib.hid c
  clear c hall e2 hsp hcB
  go_enter Tryd.func32, Tryd.ntmps32
  go_wp2_with fail
  refine C.out.mono ?_
  rintro e w' ⟨rfl, rfl⟩
  go_wp2
  go_ret
  exact ⟨rfl, Blk.new _ _ _, (Below.refl _ _).alloc (Nat.le_refl _) _⟩
end Go.Proofs.YtkbbkddepcjoaaaDoor
