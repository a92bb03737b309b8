/-
  Small words for texts and lists of texts in memory (gathered out of the texts of round name).
-/
import Derived.Test.YtkbbkddepcjoaaaDoorOwn
import Derived.Test.YtkbbkddepcjoaaaDoorShelf
import Derived.Lib.Join
import Derived.Laws.OwnMore
import Derived.Deep.MidRow
import Derived.WalkMore
import Derived.Scope
namespace Go.Proofs.YtkbbkddepcjoaaaDoor
open Go.RowKit

theorem idx_string {P : Program} {t : TypeId} (s : ByteArray) (k : Nat) (h : P.underlying t = some .string) (hk : k < s.size) (w : World) :
    (Instr.index t (.string s) (.int .i64 (k : Int))).run P w = .ok (.int .u8 ((s.data.toList.getD k 0).toNat : Int)) w := by
  rw [run_index_string w t s .i64 k h, dif_pos ⟨by omega, by omega⟩]
  congr 3
  have hk' : k < s.data.toList.length := by simpa using hk
  simp only [List.getD_eq_getElem?_getD, List.getElem?_eq_getElem hk', Option.getD_some, Int.toNat_natCast]
  rfl

theorem size_data (s : ByteArray) : s.data.toList.length = s.size := by simp

def bs (l : List UInt8) : ByteArray := ⟨l.toArray⟩

theorem bs_data (l : List UInt8) : (bs l).data.toList = l := rfl

theorem bs_size (l : List UInt8) : (bs l).size = l.length := rfl

def nums (x : List UInt8) : List Int := x.map (fun b => (b.toNat : Int))

theorem nums_length (x : List UInt8) : (nums x).length = x.length := by simp [nums]

theorem str_nums (x : List UInt8) : Lib.strCells (bs x) = (nums x).map (Value.int .u8) := by simp [Lib.strCells, nums, bs]

theorem str_of_nums (l : List UInt8) : strOfNums (nums l) = bs l := by
  have e : ((fun n : Int => UInt8.ofNat n.toNat) ∘ fun b : UInt8 => (b.toNat : Int)) = id := by
    funext b
    simp
  simp [strOfNums, nums, bs, e]

theorem own_slice {w1 : World} {base e : Nat} {v : Value} {n : Nat} {xs : List Value} (h : w1.ownsRow base e 1 v n xs) : ∃ A' c', v = .slice A' n c' ∧ (0 < n → ∃ g, A' = some ⟨g, 0, none⟩ ∧ g < w1.heap.size ∧ n ≤ c' ∧ ∀ j u, xs[j]? = some u → w1.cell? ⟨g, 0 + j, none⟩ = some u) := by
  rcases h.2 with ⟨h0, h1⟩ | ⟨g, cap, cur, rfl, hg, hh, hn, hc, hs, ht⟩
  · subst h0
    obtain rfl : n = 0 := by have := h.1; simp [h1] at this; omega
    exact ⟨none, 0, rfl, fun h => absurd h (by omega)⟩
  · refine ⟨_, _, rfl, fun hp => ⟨g, rfl, (show Blk w1 g e cur from hh).lt, hn, fun j u hu => ?_⟩⟩
    obtain ⟨ad, e1, _, hcell⟩ := (Reads.of_own h).2 hp
    injection e1 with e1
    subst e1
    have := hcell j u hu
    rwa [Addr.add_mid] at this

theorem own_slice' {w : World} {base e size : Nat} {v : Value} {n : Nat} {xs : List Value} (h : w.ownsRow base e size v n xs) : ∃ A c, v = .slice A n c ∧ True := by
  rcases h.2 with ⟨h0, h1⟩ | ⟨g, cap, cur, rfl, _⟩
  · subst h0
    subst h1
    exact ⟨none, 0, rfl, trivial⟩
  · exact ⟨_, _, rfl, trivial⟩

theorem str_info : (Tryd.prog.info? 9).map (fun i => (i.zero, i.size, i.bytes)) = some (some (.string ByteArray.empty), 1, 16) := by kernel_rfl

theorem byte_size : (Tryd.prog.info? 5).map (·.size) = some 1 := by kernel_rfl

def strs (L : List (List UInt8)) : List Value := L.map (fun l => .string (bs l))

theorem strs_length (L : List (List UInt8)) : (strs L).length = L.length := by simp [strs]

theorem ex_one (l : List UInt8) (k : Nat) (hk : k < l.length) : (bs l).extract k (k + 1) = bs [l.getD k 0] := by
  rw [Lib.extract_eq]
  have : ((bs l).data.toList.drop k).take (k + 1 - k) = [l.getD k 0] := by
    rw [bs_data, List.drop_eq_getElem_cons hk, show k + 1 - k = 1 by omega, List.take_succ_cons, List.take_zero]
    simp [List.getD_eq_getElem?_getD, hk]
  rw [this]
  rfl

theorem bs_of (s : ByteArray) : bs s.data.toList = s := Lib.mk_data s

theorem bs_nil (l : List UInt8) : ((bs l).toList == []) = (l == []) := by rw [ByteArray.toList_eq, bs_data]

theorem join_any (A : Option Addr) (c : Nat) (L : List (List UInt8)) (w : World) (h : 0 < L.length → ∃ g, A = some ⟨g, 0, none⟩ ∧ g < w.heap.size ∧ L.length ≤ c ∧ ∀ j u, (strs L)[j]? = some u → w.cell? ⟨g, 0 + j, none⟩ = some u) (hl : (Lib.join L [46]).length ≤ 140737488355328) (hN : L.length ≤ 140737488355328) :
    Calls Tryd.prog 44 #[.slice A L.length c, .string ⟨#[46]⟩] w fun e w' => e = .returned (.string (bs (Lib.join L [46]))) ∧ Below w.heap.size w w' := by
  by_cases h0 : 0 < L.length
  · obtain ⟨g, rfl, hg, hc, hcell⟩ := h h0
    have e1 : (L.map bs).map (·.data.toList) = L := by
      rw [List.map_map]
      have : ((fun x : ByteArray => x.data.toList) ∘ bs) = id := by funext l; rfl
      rw [this, List.map_id]
    have := Tryd.strings_Join g 0 c (L.map bs) ⟨#[46]⟩ w (fun j x hx => hcell j _ (by
      rw [List.getElem?_map] at hx
      obtain ⟨y, hy, rfl⟩ := Option.map_eq_some_iff.1 hx
      simp [strs, hy])) hg (by simpa using hN) (by simpa using hc) (by rw [e1]; exact hl)
    rw [e1, List.length_map] at this
    exact this
  · obtain rfl : L = [] := List.eq_nil_of_length_eq_zero (by omega)
    exact (Tryd.strings_Join_none A c ⟨#[46]⟩ w).mono fun e w' ⟨h1, h2⟩ => ⟨h1, h2 ▸ Below.refl _ _⟩
end Go.Proofs.YtkbbkddepcjoaaaDoor
