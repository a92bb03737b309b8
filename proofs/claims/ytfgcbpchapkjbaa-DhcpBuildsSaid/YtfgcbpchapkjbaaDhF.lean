/-
  dhcp: options of a code, collected.
-/
import Derived.Test.YtfgcbpchapkjbaaDhE
namespace Go.Proofs.Ytfgcbpchapkjbaa
open Go.RowKit Go.Shelf
attribute [local go_sem] Oper.semAt_some

theorem Dat.set {b0 g t : Nat} {w : World} {A : Option Addr} {n : Nat} {d : List UInt8} {cs : Array Value} (h : Dat b0 w A n d) (hg : Blk w g t cs) (ht : t ≠ 5) (hb : b0 ≤ g) (i : Nat) (u : Value) : Dat b0 (w.setCell ⟨g, i, none⟩ u) A n d := by
  have hne : ∀ ad, A = some ad → 0 < n → ad.block ≠ g := by
    intro ad ea hn e1
    rcases h.2 ad ea hn with h1 | ⟨cs', hk⟩
    · omega
    · exact Blk.ne_ hk hg (Ne.symm ht) e1
  refine ⟨⟨⟨h.1.1.1, fun hn => ?_⟩, h.1.2⟩, fun ad ea hn => ?_⟩
  · obtain ⟨ad, ea, hlt, hcell⟩ := h.1.1.2 hn
    refine ⟨ad, ea, by simpa [World.setCell] using hlt, fun j v hv => (World.cell?_of_block (w := w) ?_).trans (hcell j v hv)⟩
    rw [block_of_add]
    exact Below.heap_setCell w ⟨g, i, none⟩ u _ (hne ad ea hn)
  · rcases h.2 ad ea hn with h1 | ⟨cs', hk⟩
    · exact .inl h1
    · exact .inr ⟨cs', hk.far (p := ⟨g, i, none⟩) (hne ad ea hn) u⟩
theorem ORow.set {b0 T g t : Nat} {w : World} {v : Value} {its : List It} {cs : Array Value} (h : ORow b0 T w v its) (hg : Blk w g t cs) (ht : t ≠ 5) (htT : t ≠ T) (hb : b0 ≤ g) (i : Nat) (u : Value) : ORow b0 T (w.setCell ⟨g, i, none⟩ u) v its :=
  ⟨owns_far h.own (fun e' => owns_ne h.own hg htT e'.symm) u, fun it hm => ⟨(h.ok it hm).1.set hg ht hb i u, (h.ok it hm).2⟩⟩

/-- 'out = append(out, o)' of a variable in a block: behind the append and the store. -/
theorem opt_box {W Wt w1 : World} {b0 g t T : Nat} {S : Nat → Prop} {v v' : Value} {its : List It} {it : It} (hb : Below W.heap.size W Wt) (hv : Blk W g t #[v]) (hrow : ORow b0 T W v its) (hit : it.ok b0 W) (hb0 : b0 ≤ W.heap.size) (hbg : b0 ≤ g)
    (htT : t ≠ T) (hT : T ≠ 5) (ht : t ≠ 5) (hS : ∀ i, S i → i < b0 ∨ (i ≠ g ∧ ∃ t' cs, Blk W i t' cs ∧ t' ≠ T)) (hown : w1.ownsRow b0 T 2 v' (its.length + 1) (rows its ++ it.cells)) (hgrow : Wt.grownBy w1 v.ownBlock) :
    Blk w1 g t #[v] ∧ Blk (w1.setCell ⟨g, 0, none⟩ v') g t #[v'] ∧ ORow b0 T (w1.setCell ⟨g, 0, none⟩ v') v' (its ++ [it]) ∧ KeepsOthers W (w1.setCell ⟨g, 0, none⟩ v') ∧ Below b0 W (w1.setCell ⟨g, 0, none⟩ v') ∧ KpS S W (w1.setCell ⟨g, 0, none⟩ v') := by
  obtain ⟨k1, k2, _, ko, bb⟩ := box_app hb hv htT hrow.own hb0 hbg hown hgrow
  refine ⟨k1, k2, ?_, ko, bb, ?_⟩
  · exact ((hrow.below hb).snoc hgrow hown hT ⟨hit.1.below hb, hit.2⟩).set k1 ht htT hbg 0 v'
  · refine (KpS.of_below hb).t (KpS.t (KpS.of_grown hgrow ?_) ?_)
    · intro i hi e
      rcases hrow.own.2 with ⟨rfl, _⟩ | ⟨r, cap, cur, rfl, hB, hh, _⟩
      · simp [Value.ownBlock] at e
      · obtain rfl : i = r := by simpa [Value.ownBlock] using e
        rcases hS i hi with h1 | ⟨_, t', cs, h2, h3⟩
        · omega
        · exact Blk.ne_ h2 (show Blk W i T cur from hh) h3 rfl
    · intro i hi _
      refine Below.heap_setCell w1 ⟨g, 0, none⟩ v' i ?_
      rcases hS i hi with h1 | ⟨h2, _⟩
      · simp only; omega
      · exact h2

structure OSt (w : World) (g : Nat) (its : List It) (W : World) : Prop where
  out : ∃ v, Blk W g 42 #[v] ∧ ORow w.heap.size 65 W v its
  bel : Below w.heap.size w W
theorem OSt.kept {w : World} {B g : Nat} (hB : w.heap.size ≤ B) {its : List It} {W W' : World} {row : Option Nat} (h : OSt w g its W) (hg : W.grownBy W' row) (hr : ∀ r, row = some r → B ≤ r ∧ ∃ o : Obj, W.heap[r]? = some o ∧ o.isCells = false) : OSt w g its W' := by
  obtain ⟨v, h1, h2⟩ := h.out
  exact ⟨⟨v, blk_kept h1 hg (fun r e => (hr r e).2), h2.kept hg (fun r e => (hr r e).2)⟩, h.bel.grown hg h.bel.size (fun r e => Nat.le_trans hB (hr r e).1)⟩

set_option maxRecDepth 100000 in
set_option maxHeartbeats 4000000 in
theorem oseq_any (B1 B2 m c : Nat) (A : Option Addr) (its : List It) (b : Bool) (w : World) (h : ORd w A m its) (hm : m ≤ 1000000)
    (hc1 : w.cell? ⟨B1, 0, none⟩ = some (.slice A m c)) (hc2 : w.cell? ⟨B2, 0, none⟩ = some (.bool b)) :
    Calls Try.prog 54 #[.slice none 0 0, .func (.func 55) #[] #[.pointer (some ⟨B1, 0, none⟩), .pointer (some ⟨B2, 0, none⟩)]] w fun e w' => ∃ v, e = .returned v ∧ ORow w.heap.size 65 w' v (its.filter (pick b)) ∧ Below w.heap.size w w' := by
  have hB1 := World.block_lt_of_cell? w _ hc1
  have hB2 := World.block_lt_of_cell? w _ hc2
  have hml : its.length = m := h.len
  have hbt : Below w.heap.size w (w.alloc (.cells #[.slice none 0 0] 42)) := (Below.refl _ _).alloc (Nat.le_refl _) _
  have hA : ∀ ad, A = some ad → 0 < m → ad.block < w.heap.size := fun ad e hm0 => by
    obtain ⟨bb, o, e', hlt, _⟩ := h.rd hm0
    rw [e] at e'
    cases e'
    exact hlt
  refine (callsIn_wide (n := 6)).1 ?_
  refine callsIn_of_wp_marks Try.func54 rfl trivial ?_ rfl
  simp only [Try.ntmps54, List.size_toArray, List.length_cons, List.length_nil, Nat.reduceAdd, Nat.reduceSub, Array.replicate_succ, Array.replicate_zero, List.push_toArray, List.append_toArray, List.nil_append, List.cons_append]
  have st : OSt w w.heap.size [] (w.alloc (.cells #[.slice none 0 0] 42)) := ⟨⟨_, Blk.new _ _ _, ORow.nil _ _ _⟩, hbt⟩
  have SEQ := named_goes 5 (by omega) B1 B2 m c A its b (fun i => i < w.heap.size) (w.alloc (.cells #[.slice none 0 0] 42)) (h.below hbt) hm
    ((hbt.cell (p := ⟨B1, 0, none⟩) hB1).trans hc1) ((hbt.cell (p := ⟨B2, 0, none⟩) hB2).trans hc2) hB2 hA
  have HOK := Lib.hid h.ok
  clear hc1 hc2 h
  gi_wp2_with fail
  generalize hW0 : w.alloc (.cells #[.slice none 0 0] 42) = W0 at *
  have hw0 : w.heap.size + 1 = W0.heap.size := by rw [← hW0]; simp
  refine range_v (fun a b x => { tmps := (a.tmps.setIfInBounds 7 x.1.val).setIfInBounds 5 (.pointer (some ⟨b, 0, none⟩)), defers := [] }) (fun _ b x W => W0.heap.size ≤ b ∧ Blk W b 65 #[.int .i64 x.1.code, .slice x.1.A x.1.n x.1.c])
    rfl (by omega) (gf := 55) (lb := #[.pointer (some ⟨B1, 0, none⟩), .pointer (some ⟨B2, 0, none⟩)]) rfl trivial (enters_of Try.func55 (by kernel_rfl) rfl)
    SEQ (fun h1 h2 => h1.t h2) (fun h => KpS.of_below h) (fun W l o o' hl _ _ => KpS.put (b0 := w.heap.size) (fun _ h => h) W l o' (by omega)) (fun _ => rfl)
    (fun pre W => OSt w w.heap.size (picked pre) W) ?own ?ownV ?ownU st ?assign ?body ?done
  case own => exact fun pre W W' row hs hg hr => hs.kept (by omega) hg hr
  case ownV => exact fun pre x _ W W' row hs hg hr => trivial
  case ownU => exact fun _ b x _ W W' row hs hg hr => ⟨hs.1, blk_kept hs.2 hg hr⟩
  case assign =>
    intro l pre x W K _ hlt hK
    gi_wp2
    exact hK W.heap.size _ ((Below.refl _ _).alloc (Nat.le_refl _) _) ⟨by omega, Blk.new _ _ _⟩
  case body =>
    rintro l bl pre ⟨it, hmem⟩ W sW hlen _ ⟨hUb, hU⟩
    simp only [List.setIfInBounds_toArray, List.set_cons_succ, List.set_cons_zero]
    obtain ⟨v, k1, o1⟩ := sW.out
    obtain ⟨A3, c3, rfl, _⟩ := o1.reads
    simp only at hU
    have t0 : W.cell? ⟨bl, 0, none⟩ = some (.int .i64 it.code) := hU.cell 0
    have t1 : W.cell? ⟨bl, 1, none⟩ = some (.slice it.A it.n it.c) := hU.cell 1
    have c1 := k1.cell 0
    have f1 := k1.frozen 0
    have hbW : Below W.heap.size W (W.alloc (.cells #[.int .i64 it.code, .slice it.A it.n it.c] 65)) := (Below.refl _ _).alloc (Nat.le_refl _) _
    have hwW : w.heap.size ≤ W.heap.size := sW.bel.size
    have hitok : it.ok w.heap.size W := ⟨Dat.old (HOK.out it hmem).1 (Nat.le_refl _) sW.bel, (HOK.out it hmem).2⟩
    have RD := Lib.hid (show Reads (W.alloc (.cells #[.int .i64 it.code, .slice it.A it.n it.c] 65)) (W.heap.size + 1) 2 (some ⟨W.heap.size, 0, none⟩) 1 it.cells from reads_two W _ _ _)
    have SW := Lib.hid sW
    obtain ⟨q, hq⟩ : ∃ q, (picked pre).length = q := ⟨_, rfl⟩
    have hqm : q < its.length := by rw [← hq, picked_length]; exact hlen
    rw [hq] at o1 k1 c1
    have ITOK := Lib.hid hitok
    have K1 := Lib.hid k1
    have OWN := Lib.hid (owns_below o1.own hbW)
    rw [hq] at OWN
    have O1 := Lib.hid o1
    have hsz2 : w.heap.size ≤ (W.alloc (.cells #[.int .i64 it.code, .slice it.A it.n it.c] 65)).heap.size := by simp; omega
    clear SEQ st sW k1 o1 hU hitok
    obtain ⟨i0, hi0, hz0, hz1, hz2⟩ := info_parts opt_info
    gi_wp2_with (gi_at_builtin
                 refine wpListIn_append_any _ rfl (.tmp 8) (.tmp 10) _ rfl w.heap.size 65 i0 _ 2 32 Try.underlying42 hi0 hz0 hz1 hz2 rfl (by omega) (.slice A3 q c3) q (rows (picked pre)) rfl
                   OWN.out (W.heap.size + 1) (some ⟨W.heap.size, 0, none⟩) 1 1 it.cells rfl RD.out one2 (by simp only [maxLen]; omega) (by omega) hsz2 ?_
                 intro v1 w1 own1 grow1
                 obtain ⟨A4, c4, rfl, _⟩ := own_slice' own1
                 obtain ⟨k1', k2', o2', ko2, bb2, kp2⟩ := opt_box (S := fun i => i < w.heap.size) hbW K1.out O1.out ITOK.out hwW (Nat.le_refl _) (by decide) (by decide) (by decide) (fun i hi => .inl hi) (by rw [hq]; exact own1) grow1
                 have c2' := k1'.cell 0
                 have f2' := k1'.frozen 0
                 have K2 := Lib.hid k2'
                 have O2 := Lib.hid o2'
                 have KO2 := Lib.hid ko2
                 have BB2 := Lib.hid bb2
                 have KP2 := Lib.hid kp2
                 clear own1 grow1 k1' k2' o2' ko2 bb2 kp2)
    exact ⟨KO2.out, KP2.out, ⟨⟨_, K2.out, by rw [picked_snoc]; exact O2.out⟩, SW.out.bel.trans BB2.out⟩⟩
  case done =>
    rintro D ps W hD hps sW hK
    rw [hps] at sW
    obtain ⟨v, k1, o1⟩ := sW.out
    have c1 := k1.cell 0
    clear SEQ st
    gi_wp2
    refine ⟨by simp, .inl ⟨_, _, rfl, run_takeDeferred hK, ?_⟩⟩
    refine ⟨v, ?_, ⟨v, rfl, ?_, ?_⟩⟩
    · simp [results, Try.f54, go_sem]
    · exact o1.kept (grownBy_putObj' _ D (.deferred none)) (fun r e => by cases e; exact ⟨_, hK, rfl⟩)
    · exact sW.bel.trans (belowK_b (w := w) (Nat.le_refl _) _ D _ _ (by omega) hK rfl rfl)

theorem ocollect_any (B1 B2 m c : Nat) (A : Option Addr) (its : List It) (b : Bool) (w : World) (h : ORd w A m its) (hm : m ≤ 1000000)
    (hc1 : w.cell? ⟨B1, 0, none⟩ = some (.slice A m c)) (hc2 : w.cell? ⟨B2, 0, none⟩ = some (.bool b)) :
    Calls Try.prog 41 #[.func (.func 55) #[] #[.pointer (some ⟨B1, 0, none⟩), .pointer (some ⟨B2, 0, none⟩)]] w fun e w' => ∃ v, e = .returned v ∧ ORow w.heap.size 65 w' v (its.filter (pick b)) ∧ Below w.heap.size w w' := by
  go_enter Try.func41, Try.ntmps41
  go_wp2_with fail
  refine (oseq_any B1 B2 m c A its b w h hm hc1 hc2).mono ?_
  rintro r w1 ⟨v, rfl, h1, h2⟩
  go_wp2
  go_ret
  exact ⟨v, rfl, h1, h2⟩
end Go.Proofs.Ytfgcbpchapkjbaa
