/-
  dhcp: options in memory.
-/
import Derived.Test.YtfgcbpchapkjbaaNamU
namespace Go.Proofs.Ytfgcbpchapkjbaa
open Go.RowKit

theorem opt_info : (Try.prog.info? 65).map (fun i => (i.zero, i.size, i.bytes)) = some (some (.agg #[.int .i64 0, .slice none 0 0]), 2, 32) := by kernel_rfl
theorem ropt_info : (Try.prog.info? 70).map (fun i => (i.zero, i.size, i.bytes)) = some (some (.agg #[.int .i64 0, .slice none 0 0]), 2, 32) := by kernel_rfl

/-- An option as it lies in memory, and its bytes. -/
structure It where
  code : Int
  A : Option Addr
  n : Nat
  c : Nat
  d : List UInt8
def It.cells (e : It) : List Value := [.int .i64 e.code, .slice e.A e.n e.c]
abbrev It.val (e : It) : Value := .agg #[.int .i64 e.code, .slice e.A e.n e.c]
def rows : List It → List Value
  | [] => []
  | e :: M => e.cells ++ rows M
theorem rows_length : ∀ M : List It, (rows M).length = M.length * 2
  | [] => rfl
  | e :: M => by simp [rows, rows_length M, It.cells]; omega
theorem rows_append : ∀ M N : List It, rows (M ++ N) = rows M ++ rows N
  | [], _ => rfl
  | e :: M, N => by simp [rows, rows_append M N]
theorem rows_one (e : It) : rows [e] = e.cells := by simp [rows]
theorem rows_get : ∀ (M : List It) (k j : Nat) (e : It), M[k]? = some e → j < 2 → (rows M)[k * 2 + j]? = e.cells[j]?
  | [], _, _, _, h, _ => by simp at h
  | e :: M, 0, j, e', h, hj => by
    obtain rfl : e = e' := by simpa using h
    rw [rows, List.getElem?_append_left (by simp [It.cells]; omega)]
    simp
  | e :: M, k + 1, j, e', h, hj => by
    rw [rows, List.getElem?_append_right (by simp [It.cells]; omega), show (k + 1) * 2 + j - e.cells.length = k * 2 + j by simp [It.cells]; omega]
    exact rows_get M k j e' (by simpa using h) hj

/-- What options say. -/
def said (its : List It) : List (Int × List UInt8) := its.map fun e => (e.code, e.d)
theorem said_append (M N : List It) : said (M ++ N) = said M ++ said N := by simp [said]
theorem said_length (M : List It) : (said M).length = M.length := by simp [said]

/-- Bytes that lie ahead of b0, or in a block of bytes. -/
def Dat (b0 : Nat) (w : World) (A : Option Addr) (n : Nat) (d : List UInt8) : Prop := BReads w A n (nums d) ∧ ∀ ad, A = some ad → 0 < n → ad.block < b0 ∨ ∃ cs, Blk w ad.block 5 cs
theorem Dat.below {b0 : Nat} {w w' : World} {A : Option Addr} {n : Nat} {d : List UInt8} (h : Dat b0 w A n d) (hb : Below w.heap.size w w') : Dat b0 w' A n d :=
  ⟨h.1.below hb, fun ad e hn => by
    rcases h.2 ad e hn with h1 | ⟨cs, hk⟩
    · exact .inl h1
    · exact .inr ⟨cs, hk.below hb hk.lt⟩⟩
theorem Dat.of_lt {b0 : Nat} {w : World} {A : Option Addr} {n : Nat} {d : List UInt8} (h : BReads w A n (nums d)) (hb : w.heap.size ≤ b0) : Dat b0 w A n d :=
  ⟨h, fun ad e hn => by
    obtain ⟨ad', e', hlt, _⟩ := h.1.2 hn
    rw [e] at e'
    cases e'
    exact .inl (by omega)⟩
theorem Dat.old {b0 : Nat} {w0 w : World} {A : Option Addr} {n : Nat} {d : List UInt8} (h : BReads w0 A n (nums d)) (hb0 : w0.heap.size ≤ b0) (hb : Below w0.heap.size w0 w) : Dat b0 w A n d := (Dat.of_lt h hb0).below hb
theorem Dat.grown {b0 : Nat} {w w' : World} {A : Option Addr} {n : Nat} {d : List UInt8} {e s m : Nat} {v : Value} {xs : List Value} (h : Dat b0 w A n d) (hg : w.grownBy w' v.ownBlock) (ho : w.ownsRow b0 e s v m xs) (he : e ≠ 5) : Dat b0 w' A n d := by
  have hne : ∀ ad, A = some ad → 0 < n → some ad.block ≠ v.ownBlock := by
    intro ad ea hn
    rcases ho.2 with ⟨rfl, _⟩ | ⟨g, cap, cur, rfl, hB, hh, _⟩
    · simp [Value.ownBlock]
    · intro e1
      obtain rfl : ad.block = g := by simpa [Value.ownBlock] using e1
      rcases h.2 ad ea hn with h1 | ⟨cs, hk⟩
      · omega
      · exact Blk.ne_ hk (show Blk w ad.block e cur from hh) (Ne.symm he) rfl
  refine ⟨⟨⟨h.1.1.1, fun hn => ?_⟩, h.1.2⟩, fun ad ea hn => ?_⟩
  · obtain ⟨ad, ea, hb, hcell⟩ := h.1.1.2 hn
    refine ⟨ad, ea, Nat.lt_of_lt_of_le hb hg.size, fun j u hu => (World.cell?_of_block (w := w) ?_).trans (hcell j u hu)⟩
    rw [block_of_add]
    exact hg.block _ hb (hne ad ea hn)
  · rcases h.2 ad ea hn with h1 | ⟨cs, hk⟩
    · exact .inl h1
    · exact .inr ⟨cs, hk.grown hg (hne ad ea hn)⟩
theorem Dat.kept {b0 : Nat} {w w' : World} {A : Option Addr} {n : Nat} {d : List UInt8} {row : Option Nat} (h : Dat b0 w A n d) (hg : w.grownBy w' row) (hr : ∀ r, row = some r → ∃ o : Obj, w.heap[r]? = some o ∧ o.isCells = false) : Dat b0 w' A n d :=
  ⟨breads_kept h.1 hg hr, fun ad e hn => by
    rcases h.2 ad e hn with h1 | ⟨cs, hk⟩
    · exact .inl h1
    · exact .inr ⟨cs, blk_kept hk hg hr⟩⟩
theorem Dat.own {b0 : Nat} {w : World} {v : Value} {n : Nat} {d : List UInt8} (h : w.ownsRow b0 5 1 v n ((nums d).map (Value.int .u8))) : ∃ A' c', v = .slice A' n c' ∧ Dat b0 w A' n d ∧ n ≤ c' := by
  rcases h.2 with ⟨h0, h1⟩ | ⟨g, cap, cur, rfl, hg, hh, hn, hc, hs, ht⟩
  · subst h0
    obtain rfl : n = 0 := by have := h.1; simp [h1] at this; omega
    exact ⟨none, 0, rfl, ⟨⟨Reads.of_own h, fun _ => rfl⟩, fun ad e => by cases e⟩, Nat.le_refl _⟩
  · exact ⟨_, _, rfl, ⟨⟨Reads.of_own h, fun e => by cases e⟩, fun ad e _ => by cases e; exact .inr ⟨cur, hh⟩⟩, hn⟩
theorem Dat.base {b0 b1 : Nat} {w : World} {A : Option Addr} {n : Nat} {d : List UInt8} (h : Dat b0 w A n d) (hb : b0 ≤ b1) : Dat b1 w A n d :=
  ⟨h.1, fun ad e hn => by
    rcases h.2 ad e hn with h1 | h1
    · exact .inl (by omega)
    · exact .inr h1⟩

def It.ok (b0 : Nat) (w : World) (e : It) : Prop := Dat b0 w e.A e.n e.d ∧ e.n ≤ e.c

/-- Options to be read. -/
structure ORd (w : World) (A : Option Addr) (n : Nat) (its : List It) : Prop where
  len : its.length = n
  rd : 0 < n → ∃ b o, A = some ⟨b, o, none⟩ ∧ b < w.heap.size ∧ ∀ k it, its[k]? = some it → w.cell? ⟨b, o + k * 2, none⟩ = some (.int .i64 it.code) ∧ w.cell? ⟨b, o + k * 2 + 1, none⟩ = some (.slice it.A it.n it.c)
  ok : ∀ it ∈ its, BReads w it.A it.n (nums it.d) ∧ it.n ≤ it.c
theorem ORd.below {w w' : World} {A : Option Addr} {n : Nat} {its : List It} (h : ORd w A n its) (hb : Below w.heap.size w w') : ORd w' A n its :=
  ⟨h.len, fun hn => by
    obtain ⟨b, o, e, hlt, hc⟩ := h.rd hn
    exact ⟨b, o, e, Nat.lt_of_lt_of_le hlt hb.size, fun k it hk => ⟨(hb.cell (p := ⟨b, o + k * 2, none⟩) hlt).trans (hc k it hk).1, (hb.cell (p := ⟨b, o + k * 2 + 1, none⟩) hlt).trans (hc k it hk).2⟩⟩,
   fun it hm => ⟨(h.ok it hm).1.below hb, (h.ok it hm).2⟩⟩
theorem ORd.nil (w : World) (A : Option Addr) : ORd w A 0 [] := ⟨rfl, fun h => absurd h (by omega), fun it hm => by simp at hm⟩
/-- Options in a row that the call owns. -/
structure ORow (b0 T : Nat) (w : World) (v : Value) (its : List It) : Prop where
  own : w.ownsRow b0 T 2 v its.length (rows its)
  ok : ∀ it ∈ its, it.ok b0 w
theorem ORow.nil (b0 T : Nat) (w : World) : ORow b0 T w (.slice none 0 0) [] := ⟨World.ownsRow_nil _ _ _ _, fun it hm => by simp at hm⟩
theorem ORow.below {b0 T : Nat} {w w' : World} {v : Value} {its : List It} (h : ORow b0 T w v its) (hb : Below w.heap.size w w') : ORow b0 T w' v its :=
  ⟨owns_below h.own hb, fun it hm => ⟨(h.ok it hm).1.below hb, (h.ok it hm).2⟩⟩
theorem ORow.kept {b0 T : Nat} {w w' : World} {v : Value} {its : List It} {row : Option Nat} (h : ORow b0 T w v its) (hg : w.grownBy w' row) (hr : ∀ r, row = some r → ∃ o : Obj, w.heap[r]? = some o ∧ o.isCells = false) : ORow b0 T w' v its :=
  ⟨owns_kept h.own hg hr, fun it hm => ⟨(h.ok it hm).1.kept hg hr, (h.ok it hm).2⟩⟩
theorem ORow.snoc {b0 T : Nat} {w w' : World} {v v' : Value} {its : List It} {it : It} (h : ORow b0 T w v its) (hg : w.grownBy w' v.ownBlock) (ho : w'.ownsRow b0 T 2 v' (its.length + 1) (rows its ++ it.cells)) (hT : T ≠ 5) (hit : it.ok b0 w) : ORow b0 T w' v' (its ++ [it]) := by
  refine ⟨by rw [List.length_append, rows_append, rows_one]; exact ho, fun x hx => ?_⟩
  rcases List.mem_append.1 hx with hx | hx
  · exact ⟨(h.ok x hx).1.grown hg h.own hT, (h.ok x hx).2⟩
  · obtain rfl : x = it := by simpa using hx
    exact ⟨hit.1.grown hg h.own hT, hit.2⟩
theorem ORow.reads {b0 T : Nat} {w : World} {v : Value} {its : List It} (h : ORow b0 T w v its) : ∃ A c, v = .slice A its.length c ∧ ORd w A its.length its ∧ (0 < its.length → ∃ g, A = some ⟨g, 0, none⟩) := by
  rcases h.own.2 with ⟨h0, h1⟩ | ⟨g, cap, cur, rfl, hg, hh, hn, hc, hs, ht⟩
  · subst h0
    rw [h1]
    have : its = [] := List.eq_nil_of_length_eq_zero h1
    subst this
    exact ⟨none, 0, rfl, ORd.nil _ _, fun h => absurd h (by omega)⟩
  · refine ⟨_, _, rfl, ⟨rfl, fun hp => ⟨g, 0, rfl, (show Blk w g T cur from hh).lt, fun k it hk => ?_⟩, fun it hm => ⟨(h.ok it hm).1.1, (h.ok it hm).2⟩⟩, fun _ => ⟨g, rfl⟩⟩
    have hlt : k < its.length := (List.getElem?_eq_some_iff.1 hk).1
    have hra : ∀ j u, (rows its)[j]? = some u → w.cell? ⟨g, j, none⟩ = some u := fun j u hu => by
      have hj : j < its.length * 2 := by
        have := (List.getElem?_eq_some_iff.1 hu).1
        rwa [rows_length] at this
      rw [Blk.cell (show Blk w g T cur from hh) j, ← hu, ← ht, List.getElem?_take, if_pos hj, Array.getElem?_toList]
    have h1 := hra (k * 2) _ ((rows_get its k 0 it hk (by omega)).trans rfl)
    have h2 := hra (k * 2 + 1) _ ((rows_get its k 1 it hk (by omega)).trans rfl)
    exact ⟨by simpa using h1, by simpa using h2⟩
end Go.Proofs.Ytfgcbpchapkjbaa
