/-
  What Each hands back at counts that a call made: those of which there are any, in order, with their names.
-/
import Derived.Test.YtffbimebgledoaaCntE
namespace Go.Proofs.Ytffbimebgledoaa
open Go.RowKit Go.Shelf
attribute [local go_sem] Oper.semAt_some

/-- All cells but those of two blocks are as they were. -/
def Keeps2 (S La : Nat) (W W' : World) : Prop := W.heap.size ≤ W'.heap.size ∧ ∀ a v, a.block ≠ S → a.block ≠ La → W.cell? a = some v → W'.cell? a = some v
theorem Keeps2.t {S La : Nat} {A B C : World} (h : Keeps2 S La A B) (k : Keeps2 S La B C) : Keeps2 S La A C := ⟨Nat.le_trans h.1 k.1, fun a v h1 h2 hv => k.2 a v h1 h2 (h.2 a v h1 h2 hv)⟩
theorem Keeps2.b {S La : Nat} (W : World) (l : Nat) (o o' : Obj) (h : W.heap[l]? = some o) (hc : o.isCells = false) : Keeps2 S La W (W.putObj l o') := by
  refine ⟨by simp, fun a v _ _ hv => ?_⟩
  have hne : a.block ≠ l := by
    rintro rfl
    unfold World.cell? at hv
    rw [h] at hv
    cases o <;> simp_all [Obj.isCells]
  exact (World.cell?_of_block (w := W) ((grownBy_putObj' W l o').block a.block (World.block_lt_of_cell? W a hv) (fun e => hne (by injection e)))).trans hv
theorem Keeps2.of_only {S La : Nat} {W W' : World} {row : Option Nat} (h : W.grownBy W' row) (hr : row = none ∨ row = some S ∨ row = some La) : Keeps2 S La W W' :=
  ⟨h.size, fun a v h1 h2 hv => (World.cell?_of_block (w := W) (h.block a.block (World.block_lt_of_cell? W a hv) (fun e => by
    rcases hr with rfl | rfl | rfl
    · cases e
    · injection e with e; exact h1 e
    · injection e with e; exact h2 e))).trans hv⟩

/-- Those of the first k of which there are any. -/
def upto (L : List Int) : Nat → List (ByteArray × Int)
  | 0 => []
  | k + 1 => if 0 < L.getD k 0 then upto L k ++ [(nameOf k, L.getD k 0)] else upto L k
theorem upto_le (L : List Int) (k : Nat) : (upto L k).length ≤ k := by
  induction k with
  | zero => simp [upto]
  | succ k ih =>
    unfold upto
    split
    · rw [List.length_append, List.length_singleton]; omega
    · omega
theorem upto_pre (L : List Int) (k m : Nat) (h : k ≤ m) : upto L k <+: upto L m := by
  induction m with
  | zero => obtain rfl : k = 0 := by omega
            exact List.prefix_refl _
  | succ m ih =>
    by_cases hk : k = m + 1
    · subst hk; exact List.prefix_refl _
    · have := ih (by omega)
      conv => rhs; unfold upto
      split
      · exact this.trans (List.prefix_append _ _)
      · exact this

set_option maxHeartbeats 2000000 in
theorem each_stops (n : Nat) (hn : 2 ≤ n) (B g h : Nat) (L : List Int) (S La : Nat) (w : World) (hc : w.cell? ⟨B, 0, none⟩ = some (.pointer (some ⟨g, 0, none⟩))) (k : Cnt w 52 g h L) (hS : S < w.heap.size) (hLa : La < w.heap.size) :
    SeqStopsK Fence.wide n Try.prog 38 #[.pointer (some ⟨B, 0, none⟩)] pairOf (Keeps2 S La) (fun xs => xs = upto L 14) (fun pre => pre <+: upto L 14) 15 w := fun l J Jx W hW hJ hJx hY h0 => by
  have hB := World.block_lt_of_cell? w _ hc
  have hc' := (hW.cell (p := ⟨B, 0, none⟩) hB).trans hc
  have k' := k.keep hW k.str.lt k.row.lt
  have hlist := Lib.hid (clist_any g h L W k')
  have hlen := Lib.hid k.len
  have hWs := hW.size
  have hn1 : 1 ≤ n := by omega
  clear k k'
  refine callsIn_of_wp Try.func38 rfl trivial ?_ rfl
  simp only [Try.ntmps38, List.size_toArray, List.length_cons, List.length_nil, Nat.reduceAdd, Nat.reduceSub, Array.replicate_succ, Array.replicate_zero, List.push_toArray, List.append_toArray, List.nil_append, List.cons_append]
  gi_wp2_with fail
  refine ⟨trivial, ?_⟩
  refine (callsIn_wide.2 hlist.out).mono ?_
  rintro e w1 ⟨A', c', rfl, hr, hb, hf, hnil⟩
  have hJ1 : J [] w1 := hJ [] W w1 none h0 (only_of_below hb none) (fun r e => by cases e)
  obtain ⟨ad, -, hA, -, -, -⟩ := hr.at_ (k := 0) (by omega)
  obtain ⟨gA, rfl, hgA⟩ := hf ad hA
  subst hA
  have hcells : ∀ j, j < 14 → w1.cell? ⟨gA, j, none⟩ = some (.int .i64 (L.getD j 0)) := by
    intro j hj
    obtain ⟨ad, u, hA, hlt4, hu, hcu⟩ := hr.at_ hj
    injection hA with hA
    subst hA
    have ha : (⟨gA, 0, none⟩ : Addr).add j = ⟨gA, j, none⟩ := by
      unfold Addr.add
      split
      · rename_i h0; subst h0; rfl
      · simp
    rw [ha] at hcu
    have hj3 : j < L.length := by rw [hlen.out]; exact hj
    simp [hj3] at hu
    rw [hcu, ← hu]
    simp [hj3, List.getD_eq_getElem?_getD]
  clear hr hf hnil
  gi_wp2_with fail
  gi_loopw [8] (fun i wr => ∃ k : Nat, k ≤ 14 ∧ i = .int .i64 k ∧ J (upto L k) wr ∧ Hid (∀ j, j < 14 → wr.cell? ⟨gA, j, none⟩ = some (.int .i64 (L.getD j 0)))) (fun i _ => 14 - (intOf i).toNat)
  case atStart => exact ⟨0, by omega, rfl, hJ1, hcells⟩
  case round =>
    obtain ⟨k, hk, rfl, hJs, hcs⟩ := hrel
    clear hcells
    by_cases hlt : k < 14
    · have hcx := hcs.out k hlt
      have hup : upto L (k + 1) = if 0 < L.getD k 0 then upto L k ++ [(nameOf k, L.getD k 0)] else upto L k := rfl
      by_cases hv : 0 < L.getD k 0
      · rw [if_pos hv] at hup
        have hpre := upto_pre L (k + 1) 14 (by omega)
        have hll := upto_le L k
        have hY' := hY (upto L k) (nameOf k, L.getD k 0) wr hJs (by omega)
        rw [← hup] at hY'
        obtain ⟨U, hU⟩ : ∃ U, upto L (k + 1) = U := ⟨_, rfl⟩
        rw [hU] at hY' hpre
        have HP := Lib.hid hpre
        generalize L.getD k 0 = v at *
        obtain ⟨fn, tmps, assign, body, hy, hR⟩ := hY'
        dsimp only [pairOf] at hy
        have hcn := Lib.hid (fun w => cname_any (k : Int) w)
        generalize nameOf (k : Int) = nm at *
        have HR := Lib.hid hR
        have HU := Lib.hid hU
        clear hR hpre hup hll hU
        gi_wp2_with (refine ⟨trivial, ?_⟩; gi_at_call 16; refine (callsIn_wide.2 (hcn.out _)).mono ?_; rintro e w' ⟨rfl, rfl⟩)
        refine HR.out.mono ?_
        rintro e W3 (⟨rfl, hJ3, hk3⟩ | ⟨rfl, hJx3⟩)
        · gi_wp2
          go_roundw
          case rel => exact ⟨k + 1, by omega, by go_num, by rw [HU.out]; exact hJ3, fun j hj => hk3.2 _ _ (by simp; omega) (by simp; omega) (hcs.out j hj)⟩
          case measure => simp [intOf]; omega
        · gi_wp2
          refine bodyPost_ret (results_none rfl _ _ _) rfl ?_
          exact ⟨⟨_, rfl⟩, .inr ⟨U, HP.out, hJx3⟩⟩
      · rw [if_neg hv] at hup
        generalize L.getD k 0 = v at *
        have hv' : v ≤ 0 := by omega
        have HU := Lib.hid hup
        clear hup hv
        gi_wp2
        refine ⟨trivial, ?_⟩
        gi_wp2
        refine ⟨fun _ h => (by cases h), ?_⟩
        gi_wp2
        go_roundw
        case rel => exact ⟨k + 1, by omega, by go_num, by rw [HU.out]; exact hJs, hcs⟩
        case measure => simp [intOf]; omega
    · obtain rfl : k = 14 := by omega
      gi_wp2
      go_end0
      exact ⟨⟨_, rfl⟩, .inl ⟨_, rfl, hJs⟩⟩
end Go.Proofs.Ytffbimebgledoaa
