/-
  net: the law's same; what All hands back of a net that a call made: the walks.
-/
import Derived.Test.YtffbimebgledoaaNetN
namespace Go.Proofs.Ytffbimebgledoaa
open Go.RowKit Go.Shelf
attribute [local go_sem] Oper.semAt_some

set_option maxHeartbeats 1000000 in
theorem nsame_any (b4 : Int) (up : Bool) (A A' : Option Addr) (n n' c c' : Nat) (xs : List Int) (w : World) (h1 : BReads w A n xs) (h2 : BReads w A' n' xs) :
    Calls Try.prog 29 #[.agg #[.int .i64 b4, .bool up, .slice A n c], .agg #[.int .i64 b4, .bool up, .slice A' n' c']] w fun r w' => r = .returned (.bool true) ∧ Below w.heap.size w w' := by
  have bw : Below w.heap.size w ((w.alloc (.cells #[.int .i64 b4, .bool up, .slice A n c] 42)).alloc (.cells #[.int .i64 b4, .bool up, .slice A' n' c'] 66)) := ((Below.refl _ _).alloc (Nat.le_refl _) _).alloc (by simp) _
  have H1 := Lib.hid (h1.below bw)
  have H2 := Lib.hid (h2.below bw)
  have BW := Lib.hid bw
  clear h1 h2 bw
  go_enter Try.func29, Try.ntmps29
  go_wp2_with fail
  refine (equal_same A A' n n' c c' xs _ H1.out H2.out).mono ?_
  rintro r w1 ⟨rfl, rfl⟩
  go_wp2
  go_ret
  exact ⟨rfl, BW.out⟩

/-- All cells but those of one block are as they were. -/
def Keeps1 (S : Nat) (W W' : World) : Prop := W.heap.size ≤ W'.heap.size ∧ ∀ a v, a.block ≠ S → W.cell? a = some v → W'.cell? a = some v
theorem Keeps1.t {S : Nat} {A B C : World} (h : Keeps1 S A B) (k : Keeps1 S B C) : Keeps1 S A C := ⟨Nat.le_trans h.1 k.1, fun a v h1 hv => k.2 a v h1 (h.2 a v h1 hv)⟩
theorem Keeps1.b {S : Nat} (W : World) (l : Nat) (o o' : Obj) (h : W.heap[l]? = some o) (hc : o.isCells = false) : Keeps1 S W (W.putObj l o') := by
  refine ⟨by simp, fun a v _ hv => ?_⟩
  have hne : a.block ≠ l := by
    rintro rfl
    unfold World.cell? at hv
    rw [h] at hv
    cases o <;> simp_all [Obj.isCells]
  exact (World.cell?_of_block (w := W) ((grownBy_putObj' W l o').block a.block (World.block_lt_of_cell? W a hv) (fun e => hne (by injection e)))).trans hv
theorem Keeps1.of_only {S : Nat} {W W' : World} {row : Option Nat} (h : W.grownBy W' row) (hr : row = none ∨ row = some S) : Keeps1 S W W' :=
  ⟨h.size, fun a v h1 hv => (World.cell?_of_block (w := W) (h.block a.block (World.block_lt_of_cell? W a hv) (fun e => by
    rcases hr with rfl | rfl
    · cases e
    · injection e with e; exact h1 e))).trans hv⟩
theorem Keeps1.of_below {S : Nat} {W W' : World} (h : Below W.heap.size W W') : Keeps1 S W W' := Keeps1.of_only (only_of_below h none) (.inl rfl)

/-- Bytes in a block that is not S. -/
def NB1 (S : Nat) (w : World) (A : Option Addr) (n : Nat) (xs : List Int) : Prop := BReads w A n xs ∧ ∀ ad, A = some ad → ad.block ≠ S
theorem NB1.keep {S : Nat} {W W' : World} {A : Option Addr} {n : Nat} {xs : List Int} (h : NB1 S W A n xs) (hk : Keeps1 S W W') : NB1 S W' A n xs := by
  refine ⟨⟨⟨h.1.1.1, fun hn => ?_⟩, h.1.2⟩, h.2⟩
  obtain ⟨ad, e, hb, hc⟩ := h.1.1.2 hn
  refine ⟨ad, e, Nat.lt_of_lt_of_le hb hk.1, fun j u hu => hk.2 _ _ ?_ (hc j u hu)⟩
  rw [block_of_add]
  exact h.2 ad e

/-- What the iterator goes by. -/
structure Lies (S hh : Nat) (M : List Ent) (L : List (List Int)) (W : World) : Prop where
  row : ∀ j u, (rows M)[j]? = some u → W.cell? ⟨hh, j, none⟩ = some u
  bytes : ∀ (i : Nat) (e : Ent) (bs : List Int), M[i]? = some e → L[i]? = some bs → NB1 S W e.A e.n bs
theorem Lies.keep {S hh : Nat} {M : List Ent} {L : List (List Int)} {W W' : World} (h : Lies S hh M L W) (hh' : hh ≠ S) (hk : Keeps1 S W W') : Lies S hh M L W' :=
  ⟨fun j u hu => hk.2 _ _ hh' (h.row j u hu), fun i e bs he hb => (h.bytes i e bs he hb).keep hk⟩

/-- What is told of the item that is handed over behind pre. -/
def VItem (M : List Ent) (L : List (List Int)) (pre : List Ent) (x : Ent) (W : World) : Prop :=
  ∃ e bs, M[pre.length]? = some e ∧ L[pre.length]? = some bs ∧ x.b4 = e.b4 ∧ x.up = e.up ∧ BReads W x.A x.n bs

set_option maxHeartbeats 4000000 in
set_option maxRecDepth 100000 in
theorem all_seq (n : Nat) (hn : 2 ≤ n) (bx g hh : Nat) (A : Option Addr) (c : Nat) (M : List Ent) (L : List (List Int)) (S : Nat) (w : World) (hc : w.cell? ⟨bx, 0, none⟩ = some (.pointer (some ⟨g, 0, none⟩)))
    (g0 : w.cell? ⟨g, 0, none⟩ = some (.slice A M.length c)) (hA : 0 < M.length → A = some ⟨hh, 0, none⟩) (g2 : w.cell? ⟨g, 2, none⟩ = some (.bool true)) (hl : Lies S hh M L w) (hML : M.length = L.length) (hm : M.length ≤ 100000) (hen : ∀ e ∈ M, e.n ≤ 100000)
    (hhS : hh ≠ S) :
    SeqV Fence.wide n Try.prog 39 #[.pointer (some ⟨bx, 0, none⟩)] entOf (Keeps1 S) (VItem M L) (fun xs => xs.length = M.length) M.length w := fun l J W hW hJ hY h0 => by
  have hB := World.block_lt_of_cell? w _ hc
  have hc' := (hW.cell (p := ⟨bx, 0, none⟩) hB).trans hc
  have hgl := World.block_lt_of_cell? w _ g0
  have g0' := (hW.cell (p := ⟨g, 0, none⟩) hgl).trans g0
  have g2' := (hW.cell (p := ⟨g, 2, none⟩) hgl).trans g2
  have LI := Lib.hid (hl.keep hhS (Keeps1.of_below hW))
  have HY := Lib.hid hY
  have HEN := Lib.hid hen
  have HML := Lib.hid hML
  have hrd : Calls Try.prog 34 #[.pointer (some ⟨g, 0, none⟩)] W fun e w' => e = .returned (.bool true) ∧ W = w' := by
    go_enter Try.func34, Try.ntmps34
    go_wp2
    go_ret
    exact ⟨rfl, rfl⟩
  have HRD := Lib.hid hrd
  have hn1 : 1 ≤ n := by omega
  clear hrd hc g0 g2 hl hY hen hML
  refine callsIn_of_wp Try.func39 rfl trivial ?_ rfl
  simp only [Try.ntmps39, List.size_toArray, List.length_cons, List.length_nil, Nat.reduceAdd, Nat.reduceSub, Array.replicate_succ, Array.replicate_zero, List.push_toArray, List.append_toArray, List.nil_append, List.cons_append]
  gi_wp2_with fail
  refine ⟨trivial, ?_⟩
  refine (callsIn_wide.2 HRD.out).mono ?_
  rintro e w1 ⟨rfl, rfl⟩
  gi_wp2_with fail
  gi_loopw [13] (fun i wr => ∃ (k : Nat) (pre : List Ent), k ≤ M.length ∧ i = .int .i64 k ∧ pre.length = k ∧ J pre wr ∧ Hid (Lies S hh M L wr)) (fun i _ => M.length - (intOf i).toNat)
  case atStart => exact ⟨0, [], Nat.zero_le _, rfl, rfl, h0, LI.out⟩
  case round =>
    obtain ⟨k, pre, hk, rfl, hpre, hJs, hli⟩ := hrel
    by_cases hlt : k < M.length
    · obtain rfl := hA (by omega)
      obtain ⟨⟨eb, eu, eA, en, ec⟩, he⟩ : ∃ e, M[k]? = some e := ⟨_, List.getElem?_eq_getElem hlt⟩
      obtain ⟨bs, hbs⟩ : ∃ bs, L[k]? = some bs := ⟨_, List.getElem?_eq_getElem (by rw [← HML.out]; exact hlt)⟩
      have m0 := hli.out.row (k * 3) _ ((rows_get M k 0 _ he (by omega)).trans rfl)
      have m1 := hli.out.row (k * 3 + 1) _ ((rows_get M k 1 _ he (by omega)).trans rfl)
      have m2 := hli.out.row (k * 3 + 2) _ ((rows_get M k 2 _ he (by omega)).trans rfl)
      have hnb := hli.out.bytes k _ bs he hbs
      have hle : en ≤ 100000 := HEN.out _ (List.mem_of_getElem? he)
      have HNB := Lib.hid hnb
      have HE := Lib.hid he
      have HBS := Lib.hid hbs
      simp only at m0 m1 m2
      clear hnb he hbs LI
      gi_wp2_with fail
      refine ⟨trivial, ?_⟩
      have al := (Below.refl wr.heap.size wr).alloc (Nat.le_refl _) (.cells #[.int .i64 eb, .bool eu, .slice eA en ec] 42)
      have AL := Lib.hid al
      refine (callsIn_wide.2 (copied_any eb eu eA en ec bs _ (HNB.out.1.below AL.out) (by omega))).mono ?_
      rintro r w5 ⟨A', c', rfl, t5, b5⟩
      have b6 := AL.out.trans (b5.mono AL.out.size)
      have hJ5 : J pre w5 := hJ pre wr w5 none hJs (only_of_below b6 none) (fun r e => by cases e)
      have L5 := Lib.hid (hli.out.keep hhS (Keeps1.of_below b6))
      obtain ⟨fn, tmps, assign, body, hy, hR⟩ := HY.out pre ⟨eb, eu, A', en, c'⟩ w5 hJ5 (by omega) ⟨⟨eb, eu, eA, en, ec⟩, bs, by rw [hpre]; exact HE.out, by rw [hpre]; exact HBS.out, rfl, rfl, t5.1⟩
      dsimp only [entOf, Ent.val] at hy
      have HR := Lib.hid hR
      clear hR al t5 b5 b6 hJ5 hJs m0 m1 m2
      gi_wp2_with fail
      refine HR.out.mono ?_
      rintro e W3 ⟨rfl, hJ3, hk3⟩
      have L3 := Lib.hid (L5.out.keep hhS hk3)
      clear hk3
      gi_wp2
      go_roundw
      case rel => exact ⟨k + 1, pre ++ [⟨eb, eu, A', en, c'⟩], by omega, by go_num, by simp [hpre], hJ3, L3⟩
      case measure => simp [intOf]; omega
    · obtain rfl : k = M.length := by omega
      clear hlt hk LI
      gi_wp2
      go_end0
      exact ⟨⟨_, rfl⟩, pre, hpre, hJs⟩
end Go.Proofs.Ytffbimebgledoaa
