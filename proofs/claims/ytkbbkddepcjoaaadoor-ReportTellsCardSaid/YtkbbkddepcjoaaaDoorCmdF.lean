/-
  cmd: words parted by blanks, by the program (strings.Split) and by the document (Words).
-/
import Derived.Test.YtkbbkddepcjoaaaDoorCmdE
import Derived.StillTail
import Derived.StillTailTactics
namespace Go.Proofs.YtkbbkddepcjoaaaDoor
open Go.RowKit Go.Shelf

/-- A row of texts that lies in a block from a place on. -/
def TRow (w : World) (g o : Nat) (L : List (List UInt8)) : Prop := g < w.heap.size ∧ ∀ (j : Nat) x, L[j]? = some x → w.cell? ⟨g, o + j, none⟩ = some (.string (bs x))
theorem TRow.below {w w' : World} {g o n0 : Nat} {L : List (List UInt8)} (h : TRow w g o L) (hg : g < n0) (hb : Below n0 w w') (hn : w.heap.size ≤ w'.heap.size) : TRow w' g o L :=
  ⟨Nat.lt_of_lt_of_le h.1 hn, fun j x hx => (hb.cell (p := ⟨g, o + j, none⟩) hg).trans (h.2 j x hx)⟩
theorem TRow.on {w w' : World} {g o : Nat} {L : List (List UInt8)} (h : TRow w g o L) (hb : Below w.heap.size w w') : TRow w' g o L := h.below h.1 hb hb.size
theorem TRow.drop {w : World} {g o : Nat} {L : List (List UInt8)} (h : TRow w g o L) (k : Nat) : TRow w g (o + k) (L.drop k) :=
  ⟨h.1, fun j x hx => by
    rw [List.getElem?_drop] at hx
    have := h.2 (k + j) x hx
    rwa [← Nat.add_assoc] at this⟩
theorem TRow.cell {w : World} {g o : Nat} {L : List (List UInt8)} (h : TRow w g o L) {k : Nat} {x : List UInt8} (hx : L[k]? = some x) : w.cell? ⟨g, o + k, none⟩ = some (.string (bs x)) := h.2 k x hx
theorem TRow.of_blk {w : World} {g : Nat} {t : TypeId} {L : List (List UInt8)} (h : Blk w g t (strs L).toArray) : TRow w g 0 L :=
  ⟨h.lt, fun j x hx => by
    rw [Nat.zero_add]
    rw [h.cell j]
    simp [strs, hx]⟩

theorem index_atB : ∀ (x r : List UInt8), (32 : UInt8) ∉ x → Lib.indexByte (x ++ 32 :: r) 32 = x.length
  | [], r, _ => by simp [Lib.indexByte]
  | c :: x, r, h => by
    have hc : ¬ c = 32 := fun e => h (by simp [e])
    have ih := index_atB x r (fun hm => h (by simp [hm]))
    rw [List.cons_append, Lib.indexByte, if_neg (by simpa using hc), ih, if_neg (by simp)]
    simp
theorem split_piecesB : ∀ (N : Nat) (s : List UInt8), s.length ≤ N → Lib.splitK [32] 0 (s.count 32) s = piecesB [] s
  | N, s, hN => by
    by_cases hm : (32 : UInt8) ∈ s
    · obtain ⟨x, r, rfl, hx⟩ := List.eq_append_cons_of_mem hm
      have hc : (x ++ 32 :: r).count 32 = r.count 32 + 1 := by
        rw [List.count_append, List.count_cons_self, List.count_eq_zero_of_not_mem hx]
        omega
      have hi : Lib.index (x ++ 32 :: r) [32] = x.length := by rw [Lib.index_one, index_atB x r hx]
      rw [hc, Lib.splitK, hi, if_neg (by simp)]
      simp only [Int.toNat_natCast, Nat.add_zero, List.length_cons, List.length_nil, Nat.zero_add]
      rw [List.take_left' rfl, show (x ++ 32 :: r).drop (x.length + 1) = r by rw [show x ++ 32 :: r = (x ++ [32]) ++ r by simp, List.drop_left' (by simp)]]
      rw [piecesB_free x [] _ hx, piecesB, if_pos rfl, List.nil_append]
      cases N with
      | zero => simp at hN
      | succ N => rw [split_piecesB N r (by simp at hN; omega)]
    · rw [List.count_eq_zero_of_not_mem hm, Lib.splitK]
      have := piecesB_free s [] [] hm
      rw [List.append_nil, List.nil_append] at this
      rw [this, piecesB]

/-- strings.Split(s, " "): no premise on the world. -/
theorem splitB_any (s : List UInt8) (hs : s.length ≤ 1048576) (w : World) : Calls Tryd.prog 32 #[.string (bs s), .string ⟨#[32]⟩] w fun e w' => e = .returned (.slice (some ⟨w.heap.size, 0, none⟩) (piecesB [] s).length (piecesB [] s).length) ∧ TRow w' w.heap.size 0 (piecesB [] s) ∧ Below w.heap.size w w' := by
  have hsz : (bs s).size = s.length := rfl
  have hcB : Lib.countB (bs s) ⟨#[32]⟩ = s.count 32 := by
    show Lib.count s [32] = _
    exact Lib.count_one 32 s
  have hsp : (Lib.splitB ⟨#[32]⟩ 0 (s.count 32) (bs s)).map Value.string = strs (piecesB [] s) := by
    have h1 := Lib.splitB_data ⟨#[32]⟩ 0 (s.count 32) (bs s)
    have h2 : Lib.splitK [32] 0 (s.count 32) s = piecesB [] s := split_piecesB s.length s (Nat.le_refl _)
    rw [show (⟨#[32]⟩ : ByteArray).data.toList = [32] from rfl, bs_data, h2] at h1
    rw [← h1]
    unfold strs
    rw [List.map_map]
    refine List.map_congr_left fun x _ => ?_
    simp [Function.comp, bs_of]
  have hall := Lib.splitB_all ⟨#[32]⟩ (by decide) 0 _ (bs s) hcB
  have c := Any.strings_genSplit_core Tryd.lays221 str_info (bs s) ⟨#[32]⟩ 0 (-1) (s.count 32 + 1) w (by rw [hsz]; omega) (by decide) (Nat.zero_le _)
    (fun x c hx => (Tryd.strings_Index_one x 32 _).mono fun e w' h => ⟨by rw [h.1]; congr 2; exact (Lib.index_one _ _).symm, h.2⟩)
    ((Tryd.strings_Count_one (bs s) 32 w).mono fun e w' h => ⟨by rw [h.1, hcB]; rfl, h.2⟩)
    (by decide) (by decide) (by rw [if_pos (by decide), hcB, hsz]; have := List.count_le_length (a := (32 : UInt8)) (l := s); omega)
  rw [Nat.add_sub_cancel, hall] at c
  have e2 : Lib.cellsOf (Lib.splitB ⟨#[32]⟩ 0 (s.count 32) (bs s)) (s.count 32 + 1) = (strs (piecesB [] s)).toArray := by
    rw [← hsp, ← hall]
    exact Lib.cellsOf_full _
  rw [e2] at c
  rw [piecesB_len]
  have C := Lib.hid c
  clear c hall e2 hsp hcB
  go_enter Tryd.func32, Tryd.ntmps32
  go_wp2_with fail
  refine C.out.mono ?_
  rintro e w' ⟨rfl, rfl⟩
  go_wp2
  go_ret
  exact ⟨rfl, TRow.of_blk (Blk.new _ _ _), (Below.refl _ _).alloc (Nat.le_refl _) _⟩
end Go.Proofs.YtkbbkddepcjoaaaDoor
