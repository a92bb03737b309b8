/-
  A slice of bytes that reads as a list of numbers: as a string; bytes.Equal of two that read alike.
-/
import Derived.Test.YtkbbkddepcjoaaaDoorClone
import Derived.Laws.BytesArg
namespace Go.Proofs.YtkbbkddepcjoaaaDoor
open Go.RowKit

/-- A slice of bytes that reads as xs. -/
def BReads (w : World) (A : Option Addr) (n : Nat) (xs : List Int) : Prop := Reads w w.heap.size 1 A n (xs.map (Value.int .u8)) ∧ (A = none → n = 0)

theorem BReads.below {w w' : World} {A : Option Addr} {n : Nat} {xs : List Int} (h : BReads w A n xs) (hb : Below w.heap.size w w') : BReads w' A n xs := ⟨(h.1.below hb).more hb.size, h.2⟩
theorem BReads.len {w : World} {A : Option Addr} {n : Nat} {xs : List Int} (h : BReads w A n xs) : xs.length = n := by have := h.1.1; simpa using this

theorem run_convert_reads {P : Program} {w : World} {A : Option Addr} {n c : Nat} {xs : List Int} {src e dst : TypeId} (hs : P.underlying src = some (.slice e)) (he : P.underlying e = some (.int .u8)) (hd : P.underlying dst = some .string) (h : BReads w A n xs) :
    (convert src dst (.slice A n c)).run P w = .ok (.string (strOfNums xs)) w := by
  rcases A with _ | ad
  · obtain rfl := h.2 rfl
    obtain rfl : xs = [] := List.eq_nil_of_length_eq_zero h.len
    exact run_convert_bytes_nil w src e hs he _ _ dst hd
  · have hl : (loadCells ad n).run P w = .ok (xs.map (Value.int .u8)).toArray w := by
      have := run_loadCells_list (P := P) w ad (xs.map (Value.int .u8)) (fun j v hj => by
        have hn : 0 < n := by
          have hj' : j < (xs.map (Value.int .u8)).length := (List.getElem?_eq_some_iff.1 hj).1
          have := h.len
          simp at hj'
          omega
        obtain ⟨ad', e1, _, e2⟩ := h.1.2 hn
        injection e1 with e1
        subst e1
        exact e2 j v hj)
      simpa [h.len] using this
    rw [run_convert_bytes_string w src dst e _ n c hs he hd, run_bytesToString w _ n c xs hl, foldl_push_bytes]
    simp [strOfNums, ByteArray.empty, ByteArray.emptyWithCapacity]
    rfl

end Go.Proofs.YtkbbkddepcjoaaaDoor
