/-
  net: Look and Take: the walks.
-/
import Derived.Test.YtffbimebgledoaaNetD
import Derived.Deep.MidRow
namespace Go.Proofs.Ytffbimebgledoaa
open Go.RowKit

abbrev zitem : Value := .agg #[.int .i64 0, .bool false, .slice none 0 0]
abbrev Ent.val (e : Ent) : Value := .agg #[.int .i64 e.b4, .bool e.up, .slice e.A e.n e.c]
abbrev Ent.arr (e : Ent) : Array Value := #[.int .i64 e.b4, .bool e.up, .slice e.A e.n e.c]

set_option maxHeartbeats 1000000 in
theorem look_none (v : Value) (at_ : Int) (w : World) (hp : ∀ w', Below w.heap.size w w' → Calls Try.prog 36 #[v, .int .i64 at_] w' fun e w2 => e = .returned (.tuple #[.int .i64 0, .bool false]) ∧ w' = w2) :
    Calls Try.prog 25 #[v, .int .i64 at_] w fun e w' => e = .returned (.tuple #[zitem, .bool false]) ∧ Below w.heap.size w w' := by
  have bw : Below w.heap.size w (w.alloc (.cells zero3.toArray 42)) := (Below.refl _ w).alloc (Nat.le_refl _) _
  have kb : Blk (w.alloc (.cells zero3.toArray 42)) w.heap.size 42 #[.int .i64 0, .bool false, .slice none 0 0] := Blk.new _ _ _
  have h1 := Lib.hid (hp _ bw)
  have BW := Lib.hid bw
  have K := Lib.hid kb
  have c0 : (w.alloc (.cells zero3.toArray 42)).cell? ⟨w.heap.size, 0, none⟩ = some (.int .i64 0) := kb.cell 0
  have c1 : (w.alloc (.cells zero3.toArray 42)).cell? ⟨w.heap.size, 1, none⟩ = some (.bool false) := kb.cell 1
  have c2 : (w.alloc (.cells zero3.toArray 42)).cell? ⟨w.heap.size, 2, none⟩ = some (.slice none 0 0) := kb.cell 2
  have z0 := kb.frozen 0
  have z1 := kb.frozen 1
  have z2 := kb.frozen 2
  clear hp bw kb
  go_enter Try.func25, Try.ntmps25
  go_wp2_with fail
  change Calls _ _ _ (w.alloc (.cells zero3.toArray 42)) _
  generalize (w.alloc (.cells zero3.toArray 42)) = W0 at *
  refine h1.out.mono ?_
  rintro r w1 ⟨rfl, rfl⟩
  go_wp2
  refine bodyPost_ret (v := .tuple #[zitem, .bool false]) ?_ rfl ?_
  · simp [results, Try.f25, asAddr, run_loadVar_row _ w.heap.size 42 42 #[.int .i64 0, .bool false, .slice none 0 0] (0, 0) _ (K.out.item (.int .i64 0) (.bool false) (.slice none 0 0)) Try.underlying42 rfl item_size]
  · exact ⟨rfl, ((BW.out.setCell (by simp) _).setCell (by simp) _).setCell (by simp) _⟩

set_option maxHeartbeats 1000000 in
theorem take_none (v : Value) (at_ : Int) (w : World) (hp : ∀ w', Below w.heap.size w w' → Calls Try.prog 36 #[v, .int .i64 at_] w' fun e w2 => e = .returned (.tuple #[.int .i64 0, .bool false]) ∧ w' = w2) :
    Calls Try.prog 22 #[v, .int .i64 at_] w fun e w' => e = .returned (.tuple #[zitem, .bool false]) ∧ Below w.heap.size w w' := by
  have bw : Below w.heap.size w (w.alloc (.cells zero3.toArray 42)) := (Below.refl _ w).alloc (Nat.le_refl _) _
  have kb : Blk (w.alloc (.cells zero3.toArray 42)) w.heap.size 42 #[.int .i64 0, .bool false, .slice none 0 0] := Blk.new _ _ _
  have h1 := Lib.hid (hp _ bw)
  have BW := Lib.hid bw
  have K := Lib.hid kb
  have c0 : (w.alloc (.cells zero3.toArray 42)).cell? ⟨w.heap.size, 0, none⟩ = some (.int .i64 0) := kb.cell 0
  have c1 : (w.alloc (.cells zero3.toArray 42)).cell? ⟨w.heap.size, 1, none⟩ = some (.bool false) := kb.cell 1
  have c2 : (w.alloc (.cells zero3.toArray 42)).cell? ⟨w.heap.size, 2, none⟩ = some (.slice none 0 0) := kb.cell 2
  have z0 := kb.frozen 0
  have z1 := kb.frozen 1
  have z2 := kb.frozen 2
  clear hp bw kb
  go_enter Try.func22, Try.ntmps22
  go_wp2_with fail
  change Calls _ _ _ (w.alloc (.cells zero3.toArray 42)) _
  generalize (w.alloc (.cells zero3.toArray 42)) = W0 at *
  refine h1.out.mono ?_
  rintro r w1 ⟨rfl, rfl⟩
  go_wp2
  refine bodyPost_ret (v := .tuple #[zitem, .bool false]) ?_ rfl ?_
  · simp [results, Try.f22, asAddr, run_loadVar_row _ w.heap.size 42 42 #[.int .i64 0, .bool false, .slice none 0 0] (0, 0) _ (K.out.item (.int .i64 0) (.bool false) (.slice none 0 0)) Try.underlying42 rfl item_size]
  · exact ⟨rfl, ((BW.out.setCell (by simp) _).setCell (by simp) _).setCell (by simp) _⟩

/-- The item at place k, in memory. -/
theorem row_at {w : World} {B : Nat} {A : Option Addr} {c : Nat} {M : List Ent} {k : Nat} {e : Ent} (ho : w.ownsRow B 42 3 (.slice A M.length c) M.length (rows M)) (hk : M[k]? = some e) :
    ∃ h cur, A = some ⟨h, 0, none⟩ ∧ B ≤ h ∧ Blk w h 42 cur ∧ w.rangeAt h (k * 3) [.int .i64 e.b4, .bool e.up, .slice e.A e.n e.c] := by
  have hlt : k < M.length := (List.getElem?_eq_some_iff.1 hk).1
  rcases ho.2 with ⟨_, h0⟩ | ⟨h, cap, cur, hv, hB, hh, hn, _, hs, ht⟩
  · omega
  · injection hv with e1 e2 e3
    refine ⟨h, cur, e1, hB, hh, fun j u hu => ?_⟩
    have hj : j < 3 := (List.getElem?_eq_some_iff.1 hu).1
    have h2 := rows_get M k j e hk hj
    rw [← ht, List.getElem?_take, if_pos (by omega), Array.getElem?_toList] at h2
    exact (Blk.cell hh (k * 3 + j)).trans (h2.trans hu)

set_option maxHeartbeats 4000000 in
set_option maxRecDepth 1000000 in
theorem look_any (w : World) (B g : Nat) (most : Int) (M : List Ent) (at_ : Int) (k : Nat) (e : Ent) (xs : List Int) (h : NetP w B g most M) (hk : at_ % (M.length : Int) = k) (hm : M[k]? = some e) (ht : BReads w e.A e.n xs) (hn : e.n ≤ 1099511627776) (hl : M.length ≤ 100000) :
    Calls Try.prog 25 #[.pointer (some ⟨g, 0, none⟩), .int .i64 at_] w fun r w' => ∃ A' c', r = .returned (.tuple #[.agg #[.int .i64 e.b4, .bool e.up, .slice A' e.n c'], .bool true]) ∧ TB w' A' e.n xs ∧ Below w.heap.size w w' := by
  have hlt : k < M.length := (List.getElem?_eq_some_iff.1 hm).1
  have bw : Below w.heap.size w (w.alloc (.cells zero3.toArray 42)) := (Below.refl _ w).alloc (Nat.le_refl _) _
  have hpl := Lib.hid (place_any _ B g most M at_ k (h.below bw) hk (by omega) hl)
  have HR := Lib.hid (ht.below bw)
  obtain ⟨hB, A, c, hb, ho⟩ := h.below bw
  obtain ⟨hh, cur, rfl, hBh, hcur, hra⟩ := row_at ho hm
  have BW := Lib.hid bw
  have RA := Lib.hid hra
  have K := Lib.hid (Blk.new w 42 #[.int .i64 0, .bool false, .slice none 0 0])
  have c0 : (w.alloc (.cells zero3.toArray 42)).cell? ⟨g, 0, none⟩ = some (.slice (some ⟨hh, 0, none⟩) M.length c) := hb.cell 0
  clear h ht bw hb ho hcur hra hm hk
  go_enter Try.func25, Try.ntmps25
  go_wp2_with fail
  change Calls _ _ _ (w.alloc (.cells zero3.toArray 42)) _
  generalize (w.alloc (.cells zero3.toArray 42)) = W0 at *
  refine hpl.out.mono ?_
  rintro r w1 ⟨rfl, rfl⟩
  go_wp2_with (first
    | (refine wpList_load_mid rfl 42 (.tmp 22) rfl hh (k * 3) rfl _ _ RA.out Try.underlying42 rfl item_size ?_))
  refine (copied_any e.b4 e.up e.A e.n e.c xs _ HR.out hn).mono ?_
  rintro r w2 ⟨A', c', rfl, t1, b1⟩
  have k2 := K.out.below b1 K.out.lt
  have T1 := Lib.hid t1
  have B1 := Lib.hid (BW.out.trans (b1.mono BW.out.size))
  have K2 := Lib.hid k2
  have d0 : w2.cell? ⟨w.heap.size, 0, none⟩ = some (.int .i64 0) := k2.cell 0
  have d1 : w2.cell? ⟨w.heap.size, 1, none⟩ = some (.bool false) := k2.cell 1
  have d2 : w2.cell? ⟨w.heap.size, 2, none⟩ = some (.slice none 0 0) := k2.cell 2
  have z0 := k2.frozen 0
  have z1 := k2.frozen 1
  have z2 := k2.frozen 2
  clear k2 t1 b1
  go_wp2
  have CH : Chg w.heap.size 42 42 w2 _ := Chg.item K2.out (.inl rfl) (Nat.le_refl _) (.int .i64 e.b4) (.bool e.up) (.slice A' e.n c')
  refine bodyPost_ret (v := .tuple #[.agg #[.int .i64 e.b4, .bool e.up, .slice A' e.n c'], .bool true]) ?_ rfl ?_
  · simp [results, Try.f25, asAddr, run_loadVar_row _ w.heap.size 42 42 #[.int .i64 e.b4, .bool e.up, .slice A' e.n c'] (0, 0) _ (K2.out.item (.int .i64 e.b4) (.bool e.up) (.slice A' e.n c')) Try.underlying42 rfl item_size]
  · exact ⟨A', c', rfl, T1.out.chg CH (by decide) (by decide), B1.out.trans CH.bel⟩
end Go.Proofs.Ytffbimebgledoaa
