/-
  name: the name with which bytes begin, as a function; what a walk needs of slices of bytes and of joined labels.
-/
import Derived.Test.YtfgcbpchapkjbaaNamG
import Derived.Lib.Join
import Derived.Deep.MidRow
namespace Go.Proofs.Ytfgcbpchapkjbaa
open Go.RowKit

/-- The name with which the bytes d begin, from the place k on, acc being what came before. -/
def takeFrom (d : List UInt8) (k : Nat) (acc : List UInt8) : List UInt8 × Nat × Int :=
  if h : k < d.length then
    if (d.getD k 0).toNat = 0 then (acc, k + 1, 0)
    else if 63 < (d.getD k 0).toNat ∨ 255 < k + (d.getD k 0).toNat + 2 then ([], 0, 4)
    else if d.length - k - 1 < (d.getD k 0).toNat then ([], 0, 3)
    else if lab ((d.drop (k + 1)).take (d.getD k 0).toNat) then takeFrom d (k + 1 + (d.getD k 0).toNat) ((if 0 < k then acc ++ [46] else acc) ++ (d.drop (k + 1)).take (d.getD k 0).toNat)
    else ([], 0, 4)
  else ([], 0, 3)
termination_by d.length - k

section
variable {d : List UInt8} {k : Nat} {acc : List UInt8} {m : Nat} (hm : (d.getD k 0).toNat = m)
theorem take_end (h : d.length ≤ k) : takeFrom d k acc = ([], 0, 3) := by rw [takeFrom, dif_neg (by omega)]
include hm
theorem take_zero (h : k < d.length) (h0 : m = 0) : takeFrom d k acc = (acc, k + 1, 0) := by rw [takeFrom, dif_pos h, hm, if_pos h0]
theorem take_long (h : k < d.length) (h0 : m ≠ 0) (h1 : 63 < m ∨ 255 < k + m + 2) : takeFrom d k acc = ([], 0, 4) := by rw [takeFrom, dif_pos h, hm, if_neg h0, if_pos h1]
theorem take_short (h : k < d.length) (h0 : m ≠ 0) (h1 : ¬ (63 < m ∨ 255 < k + m + 2)) (h2 : d.length - k - 1 < m) : takeFrom d k acc = ([], 0, 3) := by
  rw [takeFrom, dif_pos h, hm, if_neg h0, if_neg h1, if_pos h2]
theorem take_bad (h : k < d.length) (h0 : m ≠ 0) (h1 : ¬ (63 < m ∨ 255 < k + m + 2)) (h2 : ¬ d.length - k - 1 < m) (h3 : lab ((d.drop (k + 1)).take m) = false) : takeFrom d k acc = ([], 0, 4) := by
  rw [takeFrom, dif_pos h, hm, if_neg h0, if_neg h1, if_neg h2, if_neg (by rw [h3]; simp)]
theorem take_next (h : k < d.length) (h0 : m ≠ 0) (h1 : ¬ (63 < m ∨ 255 < k + m + 2)) (h2 : ¬ d.length - k - 1 < m) (h3 : lab ((d.drop (k + 1)).take m) = true) :
    takeFrom d k acc = takeFrom d (k + 1 + m) ((if 0 < k then acc ++ [46] else acc) ++ (d.drop (k + 1)).take m) := by
  rw [takeFrom, dif_pos h, hm, if_neg h0, if_neg h1, if_neg h2, if_pos h3]
end

theorem str_of_nums (l : List UInt8) : strOfNums (nums l) = bs l := by
  have e : ((fun n : Int => UInt8.ofNat n.toNat) ∘ fun b : UInt8 => (b.toNat : Int)) = id := by
    funext b
    simp
  simp [strOfNums, nums, bs, e]

theorem Reads.take {w : World} {B size n k : Nat} {A : Option Addr} {xs : List Value} (h : Reads w B size A n xs) (hk : k ≤ n) : Reads w B size A k (xs.take (k * size)) := by
  refine ⟨by rw [List.length_take, h.1, Nat.min_eq_left (Nat.mul_le_mul_right _ hk)], fun hn => ?_⟩
  obtain ⟨ad, e, hb, hc⟩ := h.2 (by omega)
  refine ⟨ad, e, hb, fun j u hu => hc j u ?_⟩
  rw [List.getElem?_take] at hu
  split at hu
  · exact hu
  · cases hu

/-- A piece of a slice of bytes. -/
theorem BReads.piece {w : World} {A : Option Addr} {n : Nat} {d : List UInt8} {cap : Nat} (h : BReads w A n (nums d)) (hc : n ≤ cap) (k m : Nat) (hk : k + m ≤ n) (hm : 0 < m) :
    BReads w (if cap = k then A else A.map (·.add (k * 1))) m (nums ((d.drop k).take m)) := by
  have h1 := (h.1.cut (k := k) (cap := cap) (by omega) hc).take (k := m) (by omega)
  refine ⟨by simpa [nums, List.map_take, List.map_drop] using h1, fun e => ?_⟩
  obtain ⟨ad, rfl, _⟩ := h.1.2 (by omega)
  split at e <;> simp at e

/-- 'string(b[k:k+m])', in two steps. -/
theorem piece_runs {P : Program} {w : World} {A : Option Addr} {n c : Nat} {d : List UInt8} {t e s : TypeId} (ht : P.underlying t = some (.slice e)) (he : P.underlying e = some (.int .u8)) (hs : P.underlying s = some .string) (hz : (P.info? e).map (·.size) = some 1)
    (h : BReads w A n (nums d)) (hc : n ≤ c) (k m : Nat) (hk : k + m ≤ n) (hm : 0 < m) :
    ∃ A' c', (∀ w' : World, (Instr.slice t (.slice A n c) (some (.int .i64 (k : Int))) (some (.int .i64 ((k : Int) + m))) none).run P w' = .ok (.slice A' m c') w') ∧
      ∀ w' : World, Below w.heap.size w w' → (convert t s (.slice A' m c')).run P w' = .ok (.string (bs ((d.drop k).take m))) w' := by
  refine ⟨if c = k then A else A.map (·.add (k * 1)), c - k, fun w' => ?_, fun w' hb => ?_⟩
  · have hel : P.elem t = e := by simp [Program.elem, ht]
    rw [run_slice_lh w' t A n c (by rw [hel]; exact ht) .i64 .i64 k ((k : Int) + m) (by omega) (by omega) (by omega), hel]
    obtain ⟨i, hi, hz'⟩ := Option.map_eq_some_iff.1 hz
    have e1 : ((k : Int)).toNat = k := by omega
    have e2 : ((k : Int) + (m : Int)).toNat = k + m := by omega
    have e3 : k + m - k = m := by omega
    simp [sizeOf, typeInfo, hi, hz', Result.andThen, sliced, e1, e2, e3]
  · rw [run_convert_reads ht he hs ((h.piece hc k m hk hm).below hb), str_of_nums]

/-- Labels with dots between them. -/
def jn (L : List (List UInt8)) : List UInt8 := Lib.join L [46]
theorem jn_nil : jn [] = [] := rfl
theorem jn_snoc (L : List (List UInt8)) (x : List UInt8) (k : Nat) (hk : 0 < k ↔ L ≠ []) : jn (L ++ [x]) = (if 0 < k then jn L ++ [46] else jn L) ++ x := by
  cases L with
  | nil => rw [if_neg (by rw [hk]; simp)]; simp [jn, Lib.join_one, Lib.join_nil]
  | cons y L =>
    rw [if_pos (by rw [hk]; simp)]
    simp [jn, Lib.join_cons, Lib.joinTail]

/-- A value that owns a row is a slice. -/
theorem own_slice {w1 : World} {base e : Nat} {v : Value} {n : Nat} {xs : List Value} (h : w1.ownsRow base e 1 v n xs) : ∃ A' c', v = .slice A' n c' ∧ (0 < n → ∃ g, A' = some ⟨g, 0, none⟩ ∧ g < w1.heap.size ∧ n ≤ c' ∧ ∀ j u, xs[j]? = some u → w1.cell? ⟨g, 0 + j, none⟩ = some u) := by
  rcases h.2 with ⟨h0, h1⟩ | ⟨g, cap, cur, rfl, hg, hh, hn, hc, hs, ht⟩
  · subst h0
    obtain rfl : n = 0 := by have := h.1; simp [h1] at this; omega
    exact ⟨none, 0, rfl, fun h => absurd h (by omega)⟩
  · refine ⟨_, _, rfl, fun hp => ⟨g, rfl, (show Blk w1 g e cur from hh).lt, hn, fun j u hu => ?_⟩⟩
    obtain ⟨ad, e1, _, hcell⟩ := (Reads.of_own h).2 hp
    injection e1 with e1
    subst e1
    have := hcell j u hu
    rwa [Addr.add_mid] at this
end Go.Proofs.Ytfgcbpchapkjbaa
