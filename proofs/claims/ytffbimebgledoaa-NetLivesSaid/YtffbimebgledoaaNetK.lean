/-
  net: the document's New and Put: the walks.
-/
import Derived.Test.YtffbimebgledoaaNetD
import Derived.Deep.RegionHeld3
import Derived.Great.BuildSlice
import Derived.Deep.Cut
namespace Go.Proofs.Ytffbimebgledoaa
open Go.RowKit

theorem ritem_info : (Try.prog.info? 66).map (fun i => (i.zero, i.size, i.bytes)) = some (some (.agg #[.int .i64 0, .bool false, .slice none 0 0]), 3, 40) := by kernel_rfl
theorem ritem_size : (Try.prog.info? 66).map (·.size) = some 3 := by kernel_rfl

/-- The document's net at block g. -/
def RNet (w : World) (B g : Nat) (most : Int) (M : List Ent) : Prop :=
  B ≤ g ∧ ∃ A c, Blk w g 73 #[.slice A M.length c, .int .i64 most] ∧ w.ownsRow B 66 3 (.slice A M.length c) M.length (rows M)
theorem RNet.chg {B' T1 T2 : Nat} {w w' : World} {B g : Nat} {most : Int} {M : List Ent} (h : RNet w B g most M) (hc : Chg B' T1 T2 w w') (h1 : 73 ≠ T1) (h2 : 73 ≠ T2) (h3 : 66 ≠ T1) (h4 : 66 ≠ T2) : RNet w' B g most M := by
  obtain ⟨hB, A, c, hb, ho⟩ := h
  exact ⟨hB, A, c, hc.blk hb h1 h2, hc.owns ho h3 h4⟩
theorem RNet.below {w w' : World} {B g : Nat} {most : Int} {M : List Ent} (h : RNet w B g most M) (hb : Below w.heap.size w w') : RNet w' B g most M := by
  obtain ⟨hB, A, c, hk, ho⟩ := h
  exact ⟨hB, A, c, hk.below hb hk.lt, owns_below ho hb⟩

theorem rnew_ok (most : Int) (w : World) (h1 : 0 ≤ most) (h2 : most ≤ 4096) : Calls Try.prog 27 #[.int .i64 most] w fun e w' => ∃ g, e = .returned (.tuple #[.pointer (some ⟨g, 0, none⟩), .int .i64 0]) ∧ RNet w' w.heap.size g most [] ∧ Below w.heap.size w w' := by
  go_enter Try.func27, Try.ntmps27
  go_wp2
  go_ret2
  exact ⟨w.heap.size, rfl, ⟨Nat.le_refl _, none, 0, Blk.new _ _ _, World.ownsRow_nil _ _ _ _⟩, (Below.refl _ _).alloc (Nat.le_refl _) _⟩
theorem rnew_bad (most : Int) (w : World) (h : most < 0 ∨ 4096 < most) : Calls Try.prog 27 #[.int .i64 most] w fun e w' => e = .returned (.tuple #[.pointer none, .int .i64 1]) ∧ w = w' := by
  by_cases h1 : most < 0
  · clear h
    go_enter Try.func27, Try.ntmps27
    go_wp2
    go_ret2
    exact ⟨rfl, rfl⟩
  · have h2 : 4096 < most := by omega
    clear h
    go_enter Try.func27, Try.ntmps27
    go_wp2
    go_ret2
    exact ⟨rfl, rfl⟩

set_option maxHeartbeats 4000000 in
set_option maxRecDepth 1000000 in
theorem rput_bad (B g : Nat) (most : Int) (M : List Ent) (b4 : Int) (up : Bool) (A : Option Addr) (n c : Nat) (w : World) (h : RNet w B g most M) (hc : putCode most M.length b4 n ≠ 0) (hn : n ≤ 9223372036854775807) :
    Calls Try.prog 31 #[.pointer (some ⟨g, 0, none⟩), .agg #[.int .i64 b4, .bool up, .slice A n c]] w fun e w' => e = .returned (.int .i64 (putCode most M.length b4 n)) ∧ Below w.heap.size w w' := by
  have bw : Below w.heap.size w (w.alloc (.cells #[.int .i64 b4, .bool up, .slice A n c] 66)) := (Below.refl _ w).alloc (Nat.le_refl _) _
  obtain ⟨hB, Av, cv, hk, ho⟩ := h
  have K := Lib.hid (hk.below bw hk.lt)
  have BW := Lib.hid bw
  have c0 : (w.alloc (.cells #[.int .i64 b4, .bool up, .slice A n c] 66)).cell? ⟨g, 0, none⟩ = some (.slice Av M.length cv) := K.out.cell 0
  have c1 : (w.alloc (.cells #[.int .i64 b4, .bool up, .slice A n c] 66)).cell? ⟨g, 1, none⟩ = some (.int .i64 most) := K.out.cell 1
  have kp := Lib.hid (Blk.new w 66 #[.int .i64 b4, .bool up, .slice A n c])
  have d0 : (w.alloc (.cells #[.int .i64 b4, .bool up, .slice A n c] 66)).cell? ⟨w.heap.size, 0, none⟩ = some (.int .i64 b4) := kp.out.cell 0
  have d2 : (w.alloc (.cells #[.int .i64 b4, .bool up, .slice A n c] 66)).cell? ⟨w.heap.size, 2, none⟩ = some (.slice A n c) := kp.out.cell 2
  clear hk ho bw
  have hcase : (b4 < 0 ∧ putCode most M.length b4 n = 1) ∨ (¬ b4 < 0 ∧ 64 ≤ b4 ∧ putCode most M.length b4 n = 1) ∨ (¬ b4 < 0 ∧ ¬ 64 ≤ b4 ∧ 65575 < n ∧ putCode most M.length b4 n = 6) ∨ (¬ b4 < 0 ∧ ¬ 64 ≤ b4 ∧ ¬ 65575 < n ∧ most ≤ (M.length : Int) ∧ putCode most M.length b4 n = 7) := by
    unfold putCode at hc ⊢
    by_cases x1 : b4 < 0
    · exact .inl ⟨x1, if_pos (.inl x1)⟩
    by_cases x2 : 64 ≤ b4
    · exact .inr (.inl ⟨x1, x2, if_pos (.inr x2)⟩)
    rw [if_neg (by omega)] at hc ⊢
    by_cases x3 : 65575 < n
    · exact .inr (.inr (.inl ⟨x1, x2, x3, if_pos x3⟩))
    rw [if_neg x3] at hc ⊢
    by_cases x4 : most ≤ (M.length : Int)
    · exact .inr (.inr (.inr ⟨x1, x2, x3, x4, if_pos x4⟩))
    · exact absurd (if_neg x4) hc
  clear hc
  generalize putCode most M.length b4 n = C at hcase ⊢
  rcases hcase with ⟨x1, hC⟩ | ⟨x1, x2, hC⟩ | ⟨x1, x2, x3, hC⟩ | ⟨x1, x2, x3, x4, hC⟩
  · go_enter Try.func31, Try.ntmps31
    go_wp2
    go_ret
    exact ⟨by first | rfl | (rw [hC]; rfl), BW.out⟩
  · go_enter Try.func31, Try.ntmps31
    go_wp2
    go_ret
    exact ⟨by first | rfl | (rw [hC]; rfl), BW.out⟩
  · go_enter Try.func31, Try.ntmps31
    go_wp2
    go_ret
    exact ⟨by first | rfl | (rw [hC]; rfl), BW.out⟩
  · go_enter Try.func31, Try.ntmps31
    go_wp2_with fail
    go_quiet (fail)
    go_wp2
    go_ret
    exact ⟨by first | rfl | (rw [hC]; rfl), below_drewN BW.out _⟩

theorem yields_build3 {P : Program} {ops : Array Oper} {S : World → Prop} {op : Oper} {a : Act} (hw : Region.wanted op (yielded ops a.tmps) = true) (t : TypeId) (parts : Array (Nat × Operand)) (ho : op.op = .build t parts) (cells : Array Value)
    (hf : P.built t (parts.map fun (i, x) => (i, a.eval x)).toList = some cells) : YieldsIf P ops S op (.agg cells) a :=
  .inl ⟨hw, fun w _ => by
    unfold execOp
    simp only [ho, Sem.run_bind, run_build w t _ _ hf, Result.andThen_ok]
    rfl⟩

theorem owns_lt {w : World} {base n e size g : Nat} {v : Value} {xs : List Value} (ho : w.ownsRow base e size v n xs) (hg : v.ownBlock = some g) : g < w.heap.size := by
  rcases ho.2 with ⟨h0, _⟩ | ⟨g', cap, cur, hv, _, hh, _⟩
  · subst h0
    simp [Value.ownBlock] at hg
  · subst hv
    have : g' = g := by simpa [Value.ownBlock] using hg
    subst this
    exact (show Blk w g' e cur from hh).lt

/-- append onto nil of bytes, as one step of a region that draws. -/
theorem step_tb {ops : Array Oper} {o : Oper} {a : Act} {K : Act → World → Prop} {Q : Exit → Act → World → Prop} {E : Prop} (w : World) (hgd : o.guard = none) (x : Operand)
    (ho : o.op = .call { callee := .builtin .append, args := #[.const (.slice none 0 0), x], argTypes := #[40, 40] })
    (A : Option Addr) (n c : Nat) (xs : List Int) (hx : a.eval x = .slice A n c) (hr : BReads w A n xs) (hn : n ≤ 70000)
    (h : ∀ A' c' w', TB w' A' n xs → Below w.heap.size w w' → K (a.put o.dst (.slice A' n c')) w') :
    if Region.wanted o (yielded ops a.tmps) = true then Oper.wp Try.prog o a w K Q else E := by
  obtain ⟨i0, hi0, hz0, hz1, hz2⟩ := info_parts byte_info
  refine step_append_any w hgd _ x 40 ho w.heap.size 5 i0 _ 1 1 Try.underlying40 hi0 hz0 hz1 hz2 rfl (by omega) (.slice none 0 0) 0 [] rfl
    (World.ownsRow_nil _ _ _ _) _ A n c (xs.map (Value.int .u8)) hx hr.1 (by intro u hu; obtain ⟨x, _, rfl⟩ := List.mem_map.1 hu; rfl) (by simp only [maxLen]; omega) (by omega) (Nat.le_refl _) ?_
  intro v1 w1 hown1 hg1 hat1
  rw [List.nil_append, Nat.zero_add] at hown1
  obtain ⟨A', c', rfl, hb, _⟩ := tb_own hown1
  exact h A' c' w1 hb ((Below.refl _ _).grown hg1 (Nat.le_refl _) (by simp [Value.ownBlock]))

theorem RNet.put {w0 w w2 : World} {B g : Nat} {most : Int} {M : List Ent} {e : Ent} {A A1 : Option Addr} {c c1 : Nat} (hB : B ≤ g) (hk : Blk w g 73 #[.slice A M.length c, .int .i64 most])
    (ho : w.ownsRow B 66 3 (.slice A M.length c) M.length (rows M)) (hc : Chg B 73 66 w0 w)
    (h1 : w2.ownsRow B 66 3 (.slice A1 (M.length + 1) c1) (M.length + 1) (rows M ++ e.cells)) (h2 : w.grownBy w2 (Value.slice A M.length c).ownBlock) (hs : B ≤ w.heap.size) :
    RNet (w2.setCell ⟨g, 0, none⟩ (.slice A1 (M.length + 1) c1)) B g most (M ++ [e]) ∧ Chg B 73 66 w0 (w2.setCell ⟨g, 0, none⟩ (.slice A1 (M.length + 1) c1)) := by
  have k2 := hk.grown h2 (owns_ne ho hk (by decide))
  have c2 : Chg B 73 66 w w2 := Chg.of_owns ho h2 (.inr rfl) (Nat.le_refl _) hs
  have c3 : Chg B 73 73 w2 (w2.setCell ⟨g, 0, none⟩ (.slice A1 (M.length + 1) c1)) := Chg.set_ k2 (.inl rfl) hB 0 _
  refine ⟨⟨hB, A1, c1, ?_, ?_⟩, (hc.trans c2).trans (Chg.set_ k2 (.inl rfl) hB 0 _)⟩
  · rw [List.length_append]
    exact k2.set_ 0 _
  · rw [List.length_append, rows_append, rows_one]
    exact c3.owns h1 (by decide) (by decide)

set_option maxHeartbeats 4000000 in
set_option maxRecDepth 1000000 in
theorem rput_ok (B g : Nat) (most : Int) (M : List Ent) (b4 : Int) (up : Bool) (A : Option Addr) (n c : Nat) (xs : List Int) (w : World) (h : RNet w B g most M) (hb : BReads w A n xs) (h0 : 0 ≤ b4) (h1 : b4 < 64) (h2 : n ≤ 65575) (h3 : (M.length : Int) < most) (h4 : M.length ≤ 5000) :
    Calls Try.prog 31 #[.pointer (some ⟨g, 0, none⟩), .agg #[.int .i64 b4, .bool up, .slice A n c]] w fun e w' => ∃ A' c', e = .returned (.int .i64 0) ∧ RNet w' B g most (M ++ [⟨b4, up, A', n, c'⟩]) ∧ TB w' A' n xs ∧ Chg B 73 66 w w' := by
  obtain ⟨i0, hi0, hz0, hz1, hz2⟩ := info_parts ritem_info
  have bw : Below w.heap.size w (w.alloc (.cells #[.int .i64 b4, .bool up, .slice A n c] 66)) := (Below.refl _ w).alloc (Nat.le_refl _) _
  have HR := Lib.hid (hb.below bw)
  obtain ⟨hB, Av, cv, hk, ho⟩ := h
  have hBs : B ≤ w.heap.size := by have := hk.lt; omega
  have hgs : g < w.heap.size := hk.lt
  have hne := Lib.hid (show some w.heap.size ≠ (Value.slice Av M.length cv).ownBlock from fun e => Nat.lt_irrefl _ (owns_lt ho e.symm))
  have K := Lib.hid (hk.below bw hk.lt)
  have HO := Lib.hid (owns_below ho bw)
  have BW := Lib.hid bw
  have c0 : (w.alloc (.cells #[.int .i64 b4, .bool up, .slice A n c] 66)).cell? ⟨g, 0, none⟩ = some (.slice Av M.length cv) := K.out.cell 0
  have c1 : (w.alloc (.cells #[.int .i64 b4, .bool up, .slice A n c] 66)).cell? ⟨g, 1, none⟩ = some (.int .i64 most) := K.out.cell 1
  have kp := Lib.hid (Blk.new w 66 #[.int .i64 b4, .bool up, .slice A n c])
  have d0 : (w.alloc (.cells #[.int .i64 b4, .bool up, .slice A n c] 66)).cell? ⟨w.heap.size, 0, none⟩ = some (.int .i64 b4) := kp.out.cell 0
  have d2 : (w.alloc (.cells #[.int .i64 b4, .bool up, .slice A n c] 66)).cell? ⟨w.heap.size, 2, none⟩ = some (.slice A n c) := kp.out.cell 2
  clear hk ho hb bw
  go_enter Try.func31, Try.ntmps31
  go_upto_region 2 with fail
  change Code.wp _ _ _ _ (w.alloc (.cells #[.int .i64 b4, .bool up, .slice A n c] 66))
  generalize (w.alloc (.cells #[.int .i64 b4, .bool up, .slice A n c] 66)) = W0 at *
  go_wp2_with fail
  go_quiet (fail)
  go_wp2_with fail
  clear h0 h1 h3 d0 d2 c1
  generalize hpq : w.heap.size = p at *
  refine wp_region_held_drew (S := fun w' : World => Blk w' p 66 #[.int .i64 b4, .bool up, .slice A n c]) (by kernel_rfl) (show Blk (W0.drewN _).drew p 66 _ from kp.out) (fun H0 => ?_)
  refine wpAnyH_take (i := 0) (v := .pointer (some ⟨g, 0, none⟩)) rfl (by kernel_rfl) (by kernel_rfl) (by kernel_rfl) (fun _ _ _ h => h) (.inl ⟨rfl, fun w _ => by go_simp⟩) H0 ?_
  simp only [Act.put, List.getElem_toArray, List.getElem_cons_zero, List.setIfInBounds_toArray, List.set_cons_zero, List.set_cons_succ]
  refine wpAnyH_take (i := 1) (v := .pointer (some ⟨g, 0, none⟩)) rfl (by kernel_rfl) (by kernel_rfl) (by kernel_rfl) (fun _ _ _ h => h) (.inl ⟨rfl, fun w _ => by go_simp⟩) H0 ?_
  simp only [Act.put, List.getElem_toArray, List.getElem_cons_succ, List.getElem_cons_zero, List.setIfInBounds_toArray, List.set_cons_zero, List.set_cons_succ]
  refine wpAnyH_take (i := 2) (v := .pointer (some ⟨g, 0, none⟩)) rfl (by kernel_rfl) (by kernel_rfl) (by kernel_rfl) (fun _ _ _ h => h) (.inl ⟨rfl, fun w _ => by go_simp⟩) H0 ?_
  simp only [Act.put, List.getElem_toArray, List.getElem_cons_succ, List.getElem_cons_zero, List.setIfInBounds_toArray, List.set_cons_zero, List.set_cons_succ]
  refine wpAnyH_take (i := 3) (v := .pointer (some ⟨g, 0, none⟩)) rfl (by kernel_rfl) (by kernel_rfl) (by kernel_rfl) (fun _ _ _ h => h) (.inl ⟨rfl, fun w _ => by go_simp⟩) H0 ?_
  simp only [Act.put, List.getElem_toArray, List.getElem_cons_succ, List.getElem_cons_zero, List.setIfInBounds_toArray, List.set_cons_zero, List.set_cons_succ]
  refine wpAnyH_take (i := 5) (v := .pointer (some ⟨p, 0, none⟩)) rfl (by kernel_rfl) (by kernel_rfl) (by kernel_rfl) (fun _ _ _ h => h) (.inl ⟨rfl, fun w _ => by go_simp⟩) H0 ?_
  simp only [Act.put, List.getElem_toArray, List.getElem_cons_succ, List.getElem_cons_zero, List.setIfInBounds_toArray, List.set_cons_zero, List.set_cons_succ]
  refine wpAnyH_take (i := 6) (v := .int .i64 b4) rfl (by kernel_rfl) (by kernel_rfl) (by kernel_rfl) (fun _ _ _ h => h) (.inl ⟨rfl, fun w hS => by have hc : w.cell? ⟨p, 0, none⟩ = some (.int .i64 b4) := Blk.cell hS 0; go_simp⟩) H0 ?_
  simp only [Act.put, List.getElem_toArray, List.getElem_cons_succ, List.getElem_cons_zero, List.setIfInBounds_toArray, List.set_cons_zero, List.set_cons_succ]
  refine wpAnyH_take (i := 7) (v := .pointer (some ⟨p, 1, none⟩)) rfl (by kernel_rfl) (by kernel_rfl) (by kernel_rfl) (fun _ _ _ h => h) (.inl ⟨rfl, fun w _ => by go_simp⟩) H0 ?_
  simp only [Act.put, List.getElem_toArray, List.getElem_cons_succ, List.getElem_cons_zero, List.setIfInBounds_toArray, List.set_cons_zero, List.set_cons_succ]
  refine wpAnyH_take (i := 8) (v := .bool up) rfl (by kernel_rfl) (by kernel_rfl) (by kernel_rfl) (fun _ _ _ h => h) (.inl ⟨rfl, fun w hS => by have hc : w.cell? ⟨p, 1, none⟩ = some (.bool up) := Blk.cell hS 1; go_simp⟩) H0 ?_
  simp only [Act.put, List.getElem_toArray, List.getElem_cons_succ, List.getElem_cons_zero, List.setIfInBounds_toArray, List.set_cons_zero, List.set_cons_succ]
  refine wpAnyH_take (i := 9) (v := .pointer (some ⟨p, 2, none⟩)) rfl (by kernel_rfl) (by kernel_rfl) (by kernel_rfl) (fun _ _ _ h => h) (.inl ⟨rfl, fun w _ => by go_simp⟩) H0 ?_
  simp only [Act.put, List.getElem_toArray, List.getElem_cons_succ, List.getElem_cons_zero, List.setIfInBounds_toArray, List.set_cons_zero, List.set_cons_succ]
  refine wpAnyH_take (i := 10) (v := .slice A n c) rfl (by kernel_rfl) (by kernel_rfl) (by kernel_rfl) (fun _ _ _ h => h) (.inl ⟨rfl, fun w hS => by have hc : w.cell? ⟨p, 2, none⟩ = some (.slice A n c) := Blk.cell hS 2; go_simp⟩) H0 ?_
  simp only [Act.put, List.getElem_toArray, List.getElem_cons_succ, List.getElem_cons_zero, List.setIfInBounds_toArray, List.set_cons_zero, List.set_cons_succ]
  refine wpAnyH_ready (rs := [4, 11]) (by kernel_rfl) (by simp) ?_
  refine AllReadyH.cons rfl (fun KK hK => ?_) (AllReadyH.cons rfl (fun KK hK => ?_) AllReadyH.nil)
  · have hg4 := c0
    go_simp
    refine hK.out _ _ H0 (fun _ => ?_)
    clear hK KK hg4
    refine wpAnyH_ready (rs := [11]) (by kernel_rfl) (by simp) ?_
    refine AllReadyH.cons rfl (fun KK hK => ?_) AllReadyH.nil
    refine step_tb _ rfl (.tmp 40) rfl A n c xs rfl (HR.out.below ⟨rfl, rfl, rfl, Nat.le_refl _, fun _ _ => rfl⟩) (by omega) ?_
    intro A' c' w1 t1 b1
    have T1 := Lib.hid t1
    have B1 := Lib.hid (show Below W0.heap.size W0 w1 from ⟨b1.os, b1.tape, b1.output, b1.size, b1.block⟩)
    have KG := Lib.hid (K.out.below B1.out K.out.lt)
    have P1 := Lib.hid (kp.out.below B1.out kp.out.lt)
    have KA := Lib.hid (KG.out.alloc (.cells #[.int .i64 b4, .bool up, .slice A' n c'] 66))
    have PA := Lib.hid (P1.out.alloc (.cells #[.int .i64 b4, .bool up, .slice A' n c'] 66))
    have O1 := Lib.hid (owns_below (owns_below HO.out B1.out) ((Below.refl _ _).alloc (Nat.le_refl _) (.cells #[.int .i64 b4, .bool up, .slice A' n c'] 66)))
    refine hK.out _ _ P1.out (fun _ => ?_)
    clear hK KK t1 b1
    simp only [Act.put, List.getElem_toArray, List.getElem_cons_succ, List.getElem_cons_zero, List.setIfInBounds_toArray, List.set_cons_zero, List.set_cons_succ]
    refine wpAnyH_take (i := 12) (v := .agg #[.int .i64 b4, .bool up, .slice A' n c']) rfl (by kernel_rfl) (by kernel_rfl) (by kernel_rfl) (fun _ _ _ h => h) (yields_build3 rfl 66 _ rfl #[.int .i64 b4, .bool up, .slice A' n c'] (by kernel_rfl)) P1.out ?_
    simp only [Act.put, List.getElem_toArray, List.getElem_cons_succ, List.getElem_cons_zero, List.setIfInBounds_toArray, List.set_cons_zero, List.set_cons_succ]
    refine wpAnyH_ready (rs := [13]) (by kernel_rfl) (by simp) ?_
    refine AllReadyH.cons rfl (fun KK hK => ?_) AllReadyH.nil
    go_simp
    refine hK.out _ _ PA.out (fun _ => ?_)
    clear hK KK
    refine wpAnyH_ready (rs := [14]) (by kernel_rfl) (by simp) ?_
    refine AllReadyH.cons rfl (fun KK hK => ?_) AllReadyH.nil
    refine step_append_any (w1.alloc (.cells #[.int .i64 b4, .bool up, .slice A' n c'] 66)) rfl (.tmp 34) (.tmp 43) 71 rfl B 66 i0 _ 3 40 Try.underlying71 hi0 hz0 hz1 hz2 rfl (by omega) (.slice Av M.length cv) M.length (rows M) rfl
      O1.out (w1.heap.size + 1) (some ⟨w1.heap.size, 0, none⟩) 1 1 [.int .i64 b4, .bool up, .slice A' n c'] rfl (reads_new _ _ _ _ _) (by intro u hu; simp at hu; rcases hu with rfl | rfl | rfl <;> rfl) (by simp only [maxLen]; omega) (by omega) (by have := B1.out.size; have := BW.out.size; simp; omega) ?_
    intro v1 w2 o2 g2 at2
    obtain ⟨A1, cv1, rfl⟩ := owns_form o2
    have k2 := KA.out.grown g2 (owns_ne O1.out KA.out (by decide))
    have p2 := PA.out.grown g2 hne.out
    have f0 : w2.cell? ⟨g, 0, none⟩ = some (.slice Av M.length cv) := k2.cell 0
    have f1 : w2.frozen? ⟨g, 0, none⟩ = false := k2.frozen 0
    have p3 := p2.far (p := ⟨g, 0, none⟩) (by simp; omega) (.slice A1 (M.length + 1) cv1)
    refine hK.out _ _ p2 (fun _ => ?_)
    clear hK KK
    simp only [Act.put, List.getElem_toArray, List.getElem_cons_succ, List.getElem_cons_zero, List.setIfInBounds_toArray, List.set_cons_zero, List.set_cons_succ]
    refine wpAnyH_take (i := 15) (v := .pointer (some ⟨g, 0, none⟩)) rfl (by kernel_rfl) (by kernel_rfl) (by kernel_rfl) (fun _ _ _ h => h) (.inl ⟨rfl, fun w _ => by go_simp⟩) p2 ?_
    simp only [Act.put, List.getElem_toArray, List.getElem_cons_succ, List.getElem_cons_zero, List.setIfInBounds_toArray, List.set_cons_zero, List.set_cons_succ]
    refine wpAnyH_take (i := 16) (v := .pointer (some ⟨g, 0, none⟩)) rfl (by kernel_rfl) (by kernel_rfl) (by kernel_rfl) (fun _ _ _ h => h) (.inl ⟨rfl, fun w _ => by go_simp⟩) p2 ?_
    simp only [Act.put, List.getElem_toArray, List.getElem_cons_succ, List.getElem_cons_zero, List.setIfInBounds_toArray, List.set_cons_zero, List.set_cons_succ]
    refine wpAnyH_ready (rs := [17]) (by kernel_rfl) (by simp) ?_
    refine AllReadyH.cons rfl (fun KK hK => ?_) AllReadyH.nil
    go_simp
    refine hK.out _ _ p3 (fun _ => ?_)
    clear hK KK
    refine wpAnyH_done (by kernel_rfl) ?_ _
    have hs1 : B ≤ w1.heap.size := by have := BW.out.size; have := B1.out.size; omega
    have hp := RNet.put (e := ⟨b4, up, A', n, c'⟩) (w0 := w1) hB KA.out O1.out
      (Chg.of_below ((Below.refl _ _).alloc (Nat.le_refl _) _) hs1) o2 g2 (by simp; omega)
    have HP := Lib.hid hp
    clear hp k2 p2 p3 f0 f1 o2 g2 at2
    go_wp2
    go_ret
    exact ⟨A', c', rfl, HP.out.1, T1.out.chg HP.out.2 (by decide) (by decide), ((Chg.of_below (show Below w.heap.size w W0 by rw [hpq]; exact BW.out) (by omega)).trans (Chg.of_below B1.out (by have := BW.out.size; omega))).trans HP.out.2⟩
  · refine step_tb _ rfl (.tmp 40) rfl A n c xs rfl (HR.out.below ⟨rfl, rfl, rfl, Nat.le_refl _, fun _ _ => rfl⟩) (by omega) ?_
    intro A' c' w1 t1 b1
    have T1 := Lib.hid t1
    have B1 := Lib.hid (show Below W0.heap.size W0 w1 from ⟨b1.os, b1.tape, b1.output, b1.size, b1.block⟩)
    have KG := Lib.hid (K.out.below B1.out K.out.lt)
    have P1 := Lib.hid (kp.out.below B1.out kp.out.lt)
    have KA := Lib.hid (KG.out.alloc (.cells #[.int .i64 b4, .bool up, .slice A' n c'] 66))
    have PA := Lib.hid (P1.out.alloc (.cells #[.int .i64 b4, .bool up, .slice A' n c'] 66))
    have O1 := Lib.hid (owns_below (owns_below HO.out B1.out) ((Below.refl _ _).alloc (Nat.le_refl _) (.cells #[.int .i64 b4, .bool up, .slice A' n c'] 66)))
    refine hK.out _ _ P1.out (fun _ => ?_)
    clear hK KK t1 b1
    simp only [Act.put, List.getElem_toArray, List.getElem_cons_succ, List.getElem_cons_zero, List.setIfInBounds_toArray, List.set_cons_zero, List.set_cons_succ]
    refine wpAnyH_take (i := 12) (v := .agg #[.int .i64 b4, .bool up, .slice A' n c']) rfl (by kernel_rfl) (by kernel_rfl) (by kernel_rfl) (fun _ _ _ h => h) (yields_build3 rfl 66 _ rfl #[.int .i64 b4, .bool up, .slice A' n c'] (by kernel_rfl)) P1.out ?_
    simp only [Act.put, List.getElem_toArray, List.getElem_cons_succ, List.getElem_cons_zero, List.setIfInBounds_toArray, List.set_cons_zero, List.set_cons_succ]
    refine wpAnyH_ready (rs := [4, 13]) (by kernel_rfl) (by simp) ?_
    refine AllReadyH.cons rfl (fun KK hK => ?_) (AllReadyH.cons rfl (fun KK hK => ?_) AllReadyH.nil)
    · have hg4 := show w1.cell? ⟨g, 0, none⟩ = some (.slice Av M.length cv) from KG.out.cell 0
      go_simp
      refine hK.out _ _ P1.out (fun _ => ?_)
      clear hK KK hg4
      refine wpAnyH_ready (rs := [13]) (by kernel_rfl) (by simp) ?_
      refine AllReadyH.cons rfl (fun KK hK => ?_) AllReadyH.nil
      go_simp
      refine hK.out _ _ PA.out (fun _ => ?_)
      clear hK KK
      refine wpAnyH_ready (rs := [14]) (by kernel_rfl) (by simp) ?_
      refine AllReadyH.cons rfl (fun KK hK => ?_) AllReadyH.nil
      refine step_append_any (w1.alloc (.cells #[.int .i64 b4, .bool up, .slice A' n c'] 66)) rfl (.tmp 34) (.tmp 43) 71 rfl B 66 i0 _ 3 40 Try.underlying71 hi0 hz0 hz1 hz2 rfl (by omega) (.slice Av M.length cv) M.length (rows M) rfl
        O1.out (w1.heap.size + 1) (some ⟨w1.heap.size, 0, none⟩) 1 1 [.int .i64 b4, .bool up, .slice A' n c'] rfl (reads_new _ _ _ _ _) (by intro u hu; simp at hu; rcases hu with rfl | rfl | rfl <;> rfl) (by simp only [maxLen]; omega) (by omega) (by have := B1.out.size; have := BW.out.size; simp; omega) ?_
      intro v1 w2 o2 g2 at2
      obtain ⟨A1, cv1, rfl⟩ := owns_form o2
      have k2 := KA.out.grown g2 (owns_ne O1.out KA.out (by decide))
      have p2 := PA.out.grown g2 hne.out
      have f0 : w2.cell? ⟨g, 0, none⟩ = some (.slice Av M.length cv) := k2.cell 0
      have f1 : w2.frozen? ⟨g, 0, none⟩ = false := k2.frozen 0
      have p3 := p2.far (p := ⟨g, 0, none⟩) (by simp; omega) (.slice A1 (M.length + 1) cv1)
      refine hK.out _ _ p2 (fun _ => ?_)
      clear hK KK
      simp only [Act.put, List.getElem_toArray, List.getElem_cons_succ, List.getElem_cons_zero, List.setIfInBounds_toArray, List.set_cons_zero, List.set_cons_succ]
      refine wpAnyH_take (i := 15) (v := .pointer (some ⟨g, 0, none⟩)) rfl (by kernel_rfl) (by kernel_rfl) (by kernel_rfl) (fun _ _ _ h => h) (.inl ⟨rfl, fun w _ => by go_simp⟩) p2 ?_
      simp only [Act.put, List.getElem_toArray, List.getElem_cons_succ, List.getElem_cons_zero, List.setIfInBounds_toArray, List.set_cons_zero, List.set_cons_succ]
      refine wpAnyH_take (i := 16) (v := .pointer (some ⟨g, 0, none⟩)) rfl (by kernel_rfl) (by kernel_rfl) (by kernel_rfl) (fun _ _ _ h => h) (.inl ⟨rfl, fun w _ => by go_simp⟩) p2 ?_
      simp only [Act.put, List.getElem_toArray, List.getElem_cons_succ, List.getElem_cons_zero, List.setIfInBounds_toArray, List.set_cons_zero, List.set_cons_succ]
      refine wpAnyH_ready (rs := [17]) (by kernel_rfl) (by simp) ?_
      refine AllReadyH.cons rfl (fun KK hK => ?_) AllReadyH.nil
      go_simp
      refine hK.out _ _ p3 (fun _ => ?_)
      clear hK KK
      refine wpAnyH_done (by kernel_rfl) ?_ _
      have hs1 : B ≤ w1.heap.size := by have := BW.out.size; have := B1.out.size; omega
      have hp := RNet.put (e := ⟨b4, up, A', n, c'⟩) (w0 := w1) hB KA.out O1.out
        (Chg.of_below ((Below.refl _ _).alloc (Nat.le_refl _) _) hs1) o2 g2 (by simp; omega)
      have HP := Lib.hid hp
      clear hp k2 p2 p3 f0 f1 o2 g2 at2
      go_wp2
      go_ret
      exact ⟨A', c', rfl, HP.out.1, T1.out.chg HP.out.2 (by decide) (by decide), ((Chg.of_below (show Below w.heap.size w W0 by rw [hpq]; exact BW.out) (by omega)).trans (Chg.of_below B1.out (by have := BW.out.size; omega))).trans HP.out.2⟩
    · go_simp
      refine hK.out _ _ PA.out (fun _ => ?_)
      clear hK KK
      refine wpAnyH_ready (rs := [4]) (by kernel_rfl) (by simp) ?_
      refine AllReadyH.cons rfl (fun KK hK => ?_) AllReadyH.nil
      have hg4 := show (w1.alloc (.cells #[.int .i64 b4, .bool up, .slice A' n c'] 66)).cell? ⟨g, 0, none⟩ = some (.slice Av M.length cv) from KA.out.cell 0
      go_simp
      refine hK.out _ _ PA.out (fun _ => ?_)
      clear hK KK hg4
      refine wpAnyH_ready (rs := [14]) (by kernel_rfl) (by simp) ?_
      refine AllReadyH.cons rfl (fun KK hK => ?_) AllReadyH.nil
      refine step_append_any (w1.alloc (.cells #[.int .i64 b4, .bool up, .slice A' n c'] 66)) rfl (.tmp 34) (.tmp 43) 71 rfl B 66 i0 _ 3 40 Try.underlying71 hi0 hz0 hz1 hz2 rfl (by omega) (.slice Av M.length cv) M.length (rows M) rfl
        O1.out (w1.heap.size + 1) (some ⟨w1.heap.size, 0, none⟩) 1 1 [.int .i64 b4, .bool up, .slice A' n c'] rfl (reads_new _ _ _ _ _) (by intro u hu; simp at hu; rcases hu with rfl | rfl | rfl <;> rfl) (by simp only [maxLen]; omega) (by omega) (by have := B1.out.size; have := BW.out.size; simp; omega) ?_
      intro v1 w2 o2 g2 at2
      obtain ⟨A1, cv1, rfl⟩ := owns_form o2
      have k2 := KA.out.grown g2 (owns_ne O1.out KA.out (by decide))
      have p2 := PA.out.grown g2 hne.out
      have f0 : w2.cell? ⟨g, 0, none⟩ = some (.slice Av M.length cv) := k2.cell 0
      have f1 : w2.frozen? ⟨g, 0, none⟩ = false := k2.frozen 0
      have p3 := p2.far (p := ⟨g, 0, none⟩) (by simp; omega) (.slice A1 (M.length + 1) cv1)
      refine hK.out _ _ p2 (fun _ => ?_)
      clear hK KK
      simp only [Act.put, List.getElem_toArray, List.getElem_cons_succ, List.getElem_cons_zero, List.setIfInBounds_toArray, List.set_cons_zero, List.set_cons_succ]
      refine wpAnyH_take (i := 15) (v := .pointer (some ⟨g, 0, none⟩)) rfl (by kernel_rfl) (by kernel_rfl) (by kernel_rfl) (fun _ _ _ h => h) (.inl ⟨rfl, fun w _ => by go_simp⟩) p2 ?_
      simp only [Act.put, List.getElem_toArray, List.getElem_cons_succ, List.getElem_cons_zero, List.setIfInBounds_toArray, List.set_cons_zero, List.set_cons_succ]
      refine wpAnyH_take (i := 16) (v := .pointer (some ⟨g, 0, none⟩)) rfl (by kernel_rfl) (by kernel_rfl) (by kernel_rfl) (fun _ _ _ h => h) (.inl ⟨rfl, fun w _ => by go_simp⟩) p2 ?_
      simp only [Act.put, List.getElem_toArray, List.getElem_cons_succ, List.getElem_cons_zero, List.setIfInBounds_toArray, List.set_cons_zero, List.set_cons_succ]
      refine wpAnyH_ready (rs := [17]) (by kernel_rfl) (by simp) ?_
      refine AllReadyH.cons rfl (fun KK hK => ?_) AllReadyH.nil
      go_simp
      refine hK.out _ _ p3 (fun _ => ?_)
      clear hK KK
      refine wpAnyH_done (by kernel_rfl) ?_ _
      have hs1 : B ≤ w1.heap.size := by have := BW.out.size; have := B1.out.size; omega
      have hp := RNet.put (e := ⟨b4, up, A', n, c'⟩) (w0 := w1) hB KA.out O1.out
        (Chg.of_below ((Below.refl _ _).alloc (Nat.le_refl _) _) hs1) o2 g2 (by simp; omega)
      have HP := Lib.hid hp
      clear hp k2 p2 p3 f0 f1 o2 g2 at2
      go_wp2
      go_ret
      exact ⟨A', c', rfl, HP.out.1, T1.out.chg HP.out.2 (by decide) (by decide), ((Chg.of_below (show Below w.heap.size w W0 by rw [hpq]; exact BW.out) (by omega)).trans (Chg.of_below B1.out (by have := BW.out.size; omega))).trans HP.out.2⟩
end Go.Proofs.Ytffbimebgledoaa
