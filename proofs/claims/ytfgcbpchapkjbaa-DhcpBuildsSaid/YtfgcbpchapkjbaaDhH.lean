/-
  dhcp: options with a name.
-/
import Derived.Test.YtfgcbpchapkjbaaDhG
namespace Go.Proofs.Ytfgcbpchapkjbaa
open Go.RowKit Go.Shelf
attribute [local go_sem] Oper.semAt_some

theorem ORow.set' {b0 T g t : Nat} {w : World} {v : Value} {its : List It} {cs : Array Value} (h : ORow b0 T w v its) (hg : Blk w g t cs) (ht : t ≠ 5) (hne : v.ownBlock ≠ some g) (hb : b0 ≤ g) (i : Nat) (u : Value) : ORow b0 T (w.setCell ⟨g, i, none⟩ u) v its :=
  ⟨owns_far h.own hne u, fun it hm => ⟨(h.ok it hm).1.set hg ht hb i u, (h.ok it hm).2⟩⟩
theorem KpS.set {S : Nat → Prop} {g : Nat} (hS : ¬ S g) (w : World) (i : Nat) (u : Value) : KpS S w (w.setCell ⟨g, i, none⟩ u) := fun j hj _ =>
  Below.heap_setCell w ⟨g, i, none⟩ u j (fun e => hS (by rw [show g = j from e.symm]; exact hj))
theorem ORow.len {b0 T : Nat} {w : World} {v : Value} {its : List It} (h : ORow b0 T w v its) : ∀ it ∈ its, it.d.length = it.n := fun it hm => by
  have := (h.ok it hm).1.1.len
  rwa [nums_length] at this

/-- Options without a name, and one behind them. -/
def withName (l : List (Int × List UInt8)) (s : List UInt8) : List (Int × List UInt8) := l.filter (fun e => !(e.1 == 64)) ++ [(64, packB (labels s) ++ [0])]
theorem said_filter' (its : List It) : (said its).filter (fun e => !(e.1 == 64)) = said (its.filter (pick false)) := by
  unfold said
  rw [List.filter_map]
  congr 2
  funext e
  simp [pick, Function.comp]

theorem with_bad (A : Option Addr) (n c : Nat) (s : List UInt8) (hs : s.length ≤ 1048576) (hf : ¬ fits (labels s) ∨ s = []) (w : World) :
    Calls Try.prog 27 #[.slice A n c, .string (bs s)] w fun r w' => r = .returned (.tuple #[.slice none 0 0, .int .i64 4]) ∧ Below w.heap.size w w' := by
  have hnil := bs_nil s
  refine (callsIn_wide (n := 7)).1 ?_
  refine callsIn_of_wp_marks Try.func27 rfl trivial ?_ rfl
  simp only [Try.ntmps27, List.size_toArray, List.length_cons, List.length_nil, Nat.reduceAdd, Nat.reduceSub, Array.replicate_succ, Array.replicate_zero, List.push_toArray, List.append_toArray, List.nil_append, List.cons_append]
  by_cases hf' : fits (labels s)
  · have h0 : s = [] := by rcases hf with h | h; exact absurd hf' h; exact h
    subst h0
    gi_wp2_with fail
    refine ⟨trivial, ?_⟩
    refine (callsIn_wide.2 (nput_ok none 0 0 [] [] hs hf' w ⟨Reads.none_, fun _ => rfl⟩ (by omega))).mono ?_
    rintro r w1 ⟨A1, n1, c1, rfl, _, _, hb1⟩
    gi_wp2
    exact ⟨.tuple #[.slice none 0 0, .int .i64 4], by simp [results, Try.f27, go_sem], rfl, hb1⟩
  · gi_wp2_with fail
    refine ⟨trivial, ?_⟩
    refine (callsIn_wide.2 (nput_bad none 0 0 s hs hf' w)).mono ?_
    rintro r w1 ⟨rfl, hb1⟩
    gi_wp2
    exact ⟨.tuple #[.slice none 0 0, .int .i64 4], by simp [results, Try.f27, go_sem], rfl, hb1⟩

structure WSt (w : World) (A : Option Addr) (n c : Nat) (l : List (Int × List UInt8)) (W : World) : Prop where
  out : ∃ v its, Blk W w.heap.size 42 #[v] ∧ ORow w.heap.size 65 W v its ∧ said its = l
  one : Blk W (w.heap.size + 1) 42 #[.slice A n c]
  two : Blk W (w.heap.size + 2) 4 #[.bool false]
  bel : Below w.heap.size w W
theorem WSt.kept {w : World} {B : Nat} (hB : w.heap.size ≤ B) {A : Option Addr} {n c : Nat} {l : List (Int × List UInt8)} {W W' : World} {row : Option Nat} (h : WSt w A n c l W) (hg : W.grownBy W' row) (hr : ∀ r, row = some r → B ≤ r ∧ ∃ o : Obj, W.heap[r]? = some o ∧ o.isCells = false) : WSt w A n c l W' := by
  obtain ⟨v, its, h1, h2, h3⟩ := h.out
  exact ⟨⟨v, its, blk_kept h1 hg (fun r e => (hr r e).2), h2.kept hg (fun r e => (hr r e).2), h3⟩, blk_kept h.one hg (fun r e => (hr r e).2), blk_kept h.two hg (fun r e => (hr r e).2), h.bel.grown hg h.bel.size (fun r e => Nat.le_trans hB (hr r e).1)⟩

/-- What With gives back where there is a name. -/
def WithP (w : World) (T : Nat) (l : List (Int × List UInt8)) (s : List UInt8) (r : Ending) (w' : World) : Prop :=
  ∃ b0 v its, r = .returned (.tuple #[v, .int .i64 0]) ∧ ORow b0 T w' v its ∧ said its = withName l s ∧ Below w.heap.size w w'

set_option maxRecDepth 100000 in
set_option maxHeartbeats 4000000 in
theorem with_ok (A : Option Addr) (n c : Nat) (its : List It) (s : List UInt8) (hs : s.length ≤ 1048576) (hf : fits (labels s)) (h0 : s ≠ []) (w : World) (h : ORd w A n its) (hn : n ≤ 1000000) (hD : ∀ it ∈ its, it.n ≤ 1048576) :
    Calls Try.prog 27 #[.slice A n c, .string (bs s)] w (WithP w 65 (said its) s) := by
  have hnil : ((bs s).toList == []) = false := by rw [bs_nil]; simpa using h0
  have H := Lib.hid h
  have HD := Lib.hid hD
  clear h hD h0
  refine (callsIn_wide (n := 7)).1 ?_
  refine callsIn_of_wp_marks Try.func27 rfl trivial ?_ rfl
  simp only [Try.ntmps27, List.size_toArray, List.length_cons, List.length_nil, Nat.reduceAdd, Nat.reduceSub, Array.replicate_succ, Array.replicate_zero, List.push_toArray, List.append_toArray, List.nil_append, List.cons_append]
  gi_wp2_with fail
  refine ⟨trivial, ?_⟩
  refine (callsIn_wide.2 (nput_ok none 0 0 [] s hs hf w ⟨Reads.none_, fun _ => rfl⟩ (by omega))).mono ?_
  rintro r w1 ⟨Ab, nb, cb, rfl, hbr, hbc, hb1⟩
  have HBR := Lib.hid hbr
  have HB1 := Lib.hid hb1
  clear hbr hb1
  gi_wp2_with fail
  refine ⟨trivial, ?_⟩
  refine (callsIn_wide.2 (named_any A n c false _)).mono ?_
  rintro r w2 ⟨rfl, hw2⟩
  have st : WSt w1 A n c [] w2 := by
    rw [← hw2]
    refine ⟨⟨_, [], ((Blk.new w1 42 #[.slice none 0 0]).alloc _).alloc _, ORow.nil _ _ _, rfl⟩, ?_, ?_, (((Below.refl _ _).alloc (Nat.le_refl _) _).alloc (by simp) _).alloc (by simp; omega) _⟩
    · have := (Blk.new (w1.alloc (.cells #[.slice none 0 0] 42)) 42 #[.slice A n c]).alloc (.cells #[.bool false] 4)
      simp only [World.size_alloc] at this ⊢
      exact this
    · have := Blk.new ((w1.alloc (.cells #[.slice none 0 0] 42)).alloc (.cells #[.slice A n c] 42)) 4 #[.bool false]
      simp only [World.size_alloc] at this ⊢
      exact this
  have hsz : w2.heap.size = w1.heap.size + 3 := by rw [← hw2]; simp
  clear hw2
  simp only [World.size_alloc]
  have H1 := Lib.hid (H.out.below HB1.out)
  have hA : ∀ ad, A = some ad → 0 < n → ad.block < w1.heap.size := fun ad e hm0 => by
    obtain ⟨bb, o, e', hlt, _⟩ := H1.out.rd hm0
    rw [e] at e'
    cases e'
    exact hlt
  have SEQ := named_goes 6 (by omega) (w1.heap.size + 1) (w1.heap.size + 2) n c A its false (fun i => i < w1.heap.size ∨ i = w1.heap.size + 1 ∨ i = w1.heap.size + 2) w2 (H1.out.below st.bel) hn
    (st.one.cell 0) (st.two.cell 0) (.inr (.inr rfl)) (fun ad e hm => .inl (hA ad e hm))
  gi_wp2_with fail
  have ST := Lib.hid st
  have hbS : ∀ i, (i < w1.heap.size ∨ i = w1.heap.size + 1 ∨ i = w1.heap.size + 2) → i < w2.heap.size := fun i hi => by omega
  refine range_v (fun a b x => { tmps := (a.tmps.setIfInBounds 23 x.1.val).setIfInBounds 9 (.pointer (some ⟨b, 0, none⟩)), defers := [] })
    (fun _ b x W => w2.heap.size ≤ b ∧ Blk W b 65 #[.int .i64 x.1.code, .slice x.1.A x.1.n x.1.c] ∧ ∃ v, Blk W w1.heap.size 42 #[v] ∧ v.ownBlock ≠ some b)
    rfl (by omega) (gf := 55) (lb := #[.pointer (some ⟨w1.heap.size + 1, 0, none⟩), .pointer (some ⟨w1.heap.size + 2, 0, none⟩)]) rfl trivial (enters_of Try.func55 (by kernel_rfl) rfl)
    SEQ (fun h1 h2 => h1.t h2) (fun h => KpS.of_below h) (fun W l o o' hl _ _ => KpS.put hbS W l o' hl) (fun _ => rfl)
    (fun pre W => WSt w1 A n c (said (picked pre)) W) ?own ?ownV ?ownU st ?assign ?body ?done
  case own => exact fun pre W W' row hs hg hr => hs.kept (by omega) hg hr
  case ownV => exact fun pre x _ W W' row hs hg hr => trivial
  case ownU => exact fun _ b x _ W W' row hs hg hr => ⟨hs.1, blk_kept hs.2.1 hg hr, by obtain ⟨v, h1, h2⟩ := hs.2.2; exact ⟨v, blk_kept h1 hg hr, h2⟩⟩
  case assign =>
    intro l pre x W K hI hlt hK
    obtain ⟨v, its', k1, o1, _⟩ := hI.out
    have hvW : v.ownBlock ≠ some W.heap.size := by
      rcases o1.own.2 with ⟨rfl, _⟩ | ⟨r, cap, cur, rfl, hB, hh, _⟩
      · simp [Value.ownBlock]
      · intro e
        obtain rfl : r = W.heap.size := by simpa [Value.ownBlock] using e
        have := (show Blk W W.heap.size _ cur from hh).lt
        omega
    gi_wp2
    exact hK W.heap.size _ ((Below.refl _ _).alloc (Nat.le_refl _) _) ⟨by omega, Blk.new _ _ _, v, k1.alloc _, hvW⟩
  case body =>
    rintro lp bl pre ⟨it, hmem⟩ W sW hlen _ ⟨hUb, hU, v, k1, hvb⟩
    simp only [List.setIfInBounds_toArray, List.set_cons_succ, List.set_cons_zero]
    obtain ⟨v', its', k1', o1, hsaid⟩ := sW.out
    obtain rfl : v = v' := by
      have h1 := k1.cell 0
      have h2 := k1'.cell 0
      rw [h1] at h2
      simpa using h2
    obtain ⟨A3, c3, rfl, _⟩ := o1.reads
    simp only at hU
    have hlq : its'.length ≤ its.length := by
      have h1 : (said its').length = (said (picked pre)).length := by rw [hsaid]
      rw [said_length, said_length, picked_length] at h1
      omega
    have hnl : its.length = n := H.out.len
    have hwW : w1.heap.size ≤ W.heap.size := sW.bel.size
    have hbl : bl < W.heap.size := hU.lt
    have t0 : W.cell? ⟨bl, 0, none⟩ = some (.int .i64 it.code) := hU.cell 0
    have t1 : W.cell? ⟨bl, 1, none⟩ = some (.slice it.A it.n it.c) := hU.cell 1
    have hitr := (H1.out.below sW.bel).ok it hmem
    have hitn := HD.out it hmem
    have SW := Lib.hid sW
    have K1 := Lib.hid k1
    have O1 := Lib.hid o1
    have HU := Lib.hid hU
    have SAID := Lib.hid hsaid
    clear SEQ st sW k1 k1' o1 hU hsaid
    gi_wp2_with fail
    refine ⟨trivial, ?_⟩
    refine (CallsIn.inRound lp (callsIn_wide.2 (clone_own it.A it.n it.c (nums it.d) _ hitr.1 (by omega)))).mono ?_
    rintro r w6 ⟨v6, rfl, hown6, b6⟩
    obtain ⟨A6, c6, rfl, dat6, hc6⟩ := Dat.own hown6
    have u6 := HU.out.on b6
    have k6 := K1.out.on b6
    have f6 := u6.frozen 1
    have e6 : w6.cell? ⟨bl, 1, none⟩ = some (.slice it.A it.n it.c) := u6.cell 1
    have dat7 : Dat w1.heap.size (w6.setCell ⟨bl, 1, none⟩ (.slice A6 it.n c6)) A6 it.n it.d := by
      have h1 : Dat w1.heap.size w6 A6 it.n it.d := ⟨dat6.1, fun ad e hn => by
        rcases (Dat.own (owns_base hown6 hwW)) with ⟨A8, c8, e8, d8, _⟩
        injection e8 with e8 _ _
        subst e8
        exact d8.2 ad e hn⟩
      exact h1.set u6 (by decide) (by omega) 1 _
    have row7 := ((O1.out.below b6).set' u6 (by decide) hvb (by omega) 1 (.slice A6 it.n c6))
    have u7 := u6.set_ 1 (.slice A6 it.n c6)
    have k7 := k6.far (p := ⟨bl, 1, none⟩) (by simp only; omega) (.slice A6 it.n c6)
    have one7 := (SW.out.one.on b6).far (p := ⟨bl, 1, none⟩) (by simp only; omega) (.slice A6 it.n c6)
    have two7 := (SW.out.two.on b6).far (p := ⟨bl, 1, none⟩) (by simp only; omega) (.slice A6 it.n c6)
    have ko7 : KeepsOthers W (w6.setCell ⟨bl, 1, none⟩ (.slice A6 it.n c6)) := (KeepsOthers.of_grownBy (only_of_below b6 none) (fun _ _ e => by cases e)).trans (KeepsOthers.setCell _ _ _)
    have kp7 : KpS (fun i => i < w1.heap.size ∨ i = w1.heap.size + 1 ∨ i = w1.heap.size + 2) W (w6.setCell ⟨bl, 1, none⟩ (.slice A6 it.n c6)) := (KpS.of_below b6).t (KpS.set (fun h => by have := hbS _ h; omega) _ _ _)
    have hs7 : (w6.setCell ⟨bl, 1, none⟩ (.slice A6 it.n c6)).heap.size = w6.heap.size := by simp [World.setCell]
    have bb7 : Below w1.heap.size W (w6.setCell ⟨bl, 1, none⟩ (.slice A6 it.n c6)) := (b6.mono hwW).setCell (p := ⟨bl, 1, none⟩) (by simp only; omega) _
    have hsb6 := b6.size
    generalize hw7 : w6.setCell ⟨bl, 1, none⟩ (.slice A6 it.n c6) = w7 at *
    have t07 : w7.cell? ⟨bl, 0, none⟩ = some (.int .i64 it.code) := u7.cell 0
    have t17 : w7.cell? ⟨bl, 1, none⟩ = some (.slice A6 it.n c6) := u7.cell 1
    have c7 : w7.cell? ⟨w1.heap.size, 0, none⟩ = some (.slice A3 its'.length c3) := k7.cell 0
    have g7 := k7.frozen 0
    have hbW : Below w7.heap.size w7 (w7.alloc (.cells #[.int .i64 it.code, .slice A6 it.n c6] 65)) := (Below.refl _ _).alloc (Nat.le_refl _) _
    have RD := Lib.hid (show Reads (w7.alloc (.cells #[.int .i64 it.code, .slice A6 it.n c6] 65)) (w7.heap.size + 1) 2 (some ⟨w7.heap.size, 0, none⟩) 1 (It.cells ⟨it.code, A6, it.n, c6, it.d⟩) from reads_two w7 _ _ _)
    have hsz7 : w1.heap.size ≤ w7.heap.size := by omega
    have hsz8 : w1.heap.size ≤ (w7.alloc (.cells #[.int .i64 it.code, .slice A6 it.n c6] 65)).heap.size := by simp; omega
    have ITOK := Lib.hid (show It.ok w1.heap.size w7 ⟨it.code, A6, it.n, c6, it.d⟩ from ⟨dat7, hc6⟩)
    obtain ⟨q, hq⟩ : ∃ q, its'.length = q := ⟨_, rfl⟩
    rw [hq] at row7 k7 c7 hlq
    have OWN := Lib.hid (owns_below row7.own hbW)
    rw [hq] at OWN
    have ROW7 := Lib.hid row7
    have K7 := Lib.hid k7
    have ONE7 := Lib.hid one7
    have TWO7 := Lib.hid two7
    have KO7 := Lib.hid ko7
    have KP7 := Lib.hid kp7
    have BB7 := Lib.hid bb7
    clear row7 k7 one7 two7 ko7 kp7 bb7 dat7 dat6 hown6 b6 u6 k6 t0 t1 hitr u7 K1 O1 HU hs7
    obtain ⟨i0, hi0, hz0, hz1, hz2⟩ := info_parts opt_info
    gi_wp2_with (gi_at_builtin
                 refine wpListIn_append_any _ rfl (.tmp 28) (.tmp 30) _ rfl w1.heap.size 65 i0 _ 2 32 Try.underlying42 hi0 hz0 hz1 hz2 rfl (by omega) (.slice A3 q c3) q (rows its') rfl
                   OWN.out (w7.heap.size + 1) (some ⟨w7.heap.size, 0, none⟩) 1 1 _ rfl RD.out one2 (by simp only [maxLen]; omega) (by omega) hsz8 ?_
                 intro v8 w8 own8 grow8
                 obtain ⟨A4, c4, rfl, _⟩ := own_slice' own8
                 obtain ⟨k1', k2', o2', ko2, bb2, kp2⟩ := opt_box (S := fun i => i < w1.heap.size ∨ i = w1.heap.size + 1 ∨ i = w1.heap.size + 2) hbW K7.out ROW7.out ITOK.out hsz7 (Nat.le_refl _) (by decide) (by decide) (by decide)
                   (fun i hi => by
                     rcases hi with hi | rfl | rfl
                     · exact .inl hi
                     · exact .inr ⟨by omega, _, _, ONE7.out, by decide⟩
                     · exact .inr ⟨by omega, _, _, TWO7.out, by decide⟩) (by rw [hq]; exact own8) grow8
                 have c8 := k1'.cell 0
                 have f8 := k1'.frozen 0
                 have K8 := Lib.hid k2'
                 have O8 := Lib.hid o2'
                 have KO8 := Lib.hid ko2
                 have BB8 := Lib.hid bb2
                 have KP8 := Lib.hid kp2
                 have ONE8 := Lib.hid (((ONE7.out.on hbW).grown grow8 (owns_ne (owns_below ROW7.out.own hbW) (ONE7.out.on hbW) (by decide))).far (p := ⟨w1.heap.size, 0, none⟩) (by simp) (.slice A4 (q + 1) c4))
                 have TWO8 := Lib.hid (((TWO7.out.on hbW).grown grow8 (owns_ne (owns_below ROW7.out.own hbW) (TWO7.out.on hbW) (by decide))).far (p := ⟨w1.heap.size, 0, none⟩) (by simp) (.slice A4 (q + 1) c4))
                 clear own8 grow8 k1' k2' o2' ko2 bb2 kp2)
    refine ⟨KO7.out.trans KO8.out, KP7.out.t KP8.out, ⟨⟨_, _, K8.out, O8.out, ?_⟩, ONE8.out, TWO8.out, SW.out.bel.trans (BB7.out.trans BB8.out)⟩⟩
    rw [said_append, SAID.out, picked_snoc, said_append]
    rfl
  case done =>
    rintro D ps W hD hps sW hK
    obtain ⟨v, its', k1, o1, hsaid⟩ := sW.out
    rw [hps] at hsaid
    obtain ⟨A3, c3, rfl, _⟩ := o1.reads
    have hnl : its.length = n := H.out.len
    have hlq : its'.length ≤ its.length := by
      have h1 : (said its').length = (said (its.filter (pick false))).length := by rw [hsaid]
      rw [said_length, said_length] at h1
      have := List.length_filter_le (pick false) its
      omega
    have c1 := k1.cell 0
    have hwW : w1.heap.size ≤ W.heap.size := sW.bel.size
    have hbW : Below W.heap.size W (W.alloc (.cells #[.int .i64 64, .slice Ab nb cb] 65)) := (Below.refl _ _).alloc (Nat.le_refl _) _
    have RD := Lib.hid (show Reads (W.alloc (.cells #[.int .i64 64, .slice Ab nb cb] 65)) (W.heap.size + 1) 2 (some ⟨W.heap.size, 0, none⟩) 1 (It.cells ⟨64, Ab, nb, cb, packB (labels s) ++ [0]⟩) from reads_two W _ _ _)
    have hsz8 : w1.heap.size ≤ (W.alloc (.cells #[.int .i64 64, .slice Ab nb cb] 65)).heap.size := by simp; omega
    have ITOK := Lib.hid (show It.ok w1.heap.size W ⟨64, Ab, nb, cb, packB (labels s) ++ [0]⟩ from ⟨Dat.old (by have := HBR.out; rwa [List.nil_append, ← nums_packB, show ([0] : List Int) = nums [0] from rfl, ← nums_append] at this) (Nat.le_refl _) sW.bel, hbc⟩)
    obtain ⟨q, hq⟩ : ∃ q, its'.length = q := ⟨_, rfl⟩
    rw [hq] at o1 c1 hlq
    have OWN := Lib.hid (owns_below o1.own hbW)
    rw [hq] at OWN
    have O1 := Lib.hid o1
    have SW := Lib.hid sW
    have SAID := Lib.hid hsaid
    clear SEQ st sW k1 o1 hsaid
    obtain ⟨i0, hi0, hz0, hz1, hz2⟩ := info_parts opt_info
    gi_wp2_with (gi_at_builtin
                 refine wpListIn_append_any _ rfl (.tmp 32) (.tmp 35) _ rfl w1.heap.size 65 i0 _ 2 32 Try.underlying42 hi0 hz0 hz1 hz2 rfl (by omega) (.slice A3 q c3) q (rows its') rfl
                   OWN.out (W.heap.size + 1) (some ⟨W.heap.size, 0, none⟩) 1 1 _ rfl RD.out one2 (by simp only [maxLen]; omega) (by omega) hsz8 ?_
                 intro v8 w8 own8 grow8)
    obtain ⟨ko, bb⟩ := app_others hbW O1.out.own hwW grow8
    have hK' := ko.same D _ hK rfl
    have row8 := (O1.out.below hbW).snoc grow8 (by rw [hq]; exact own8) (by decide) ⟨ITOK.out.1.below hbW, hbc⟩
    refine ⟨by simp, .inl ⟨_, _, rfl, run_takeDeferred hK', ?_⟩⟩
    refine ⟨.tuple #[v8, .int .i64 0], ?_, ?_⟩
    · simp [results, Try.f27, go_sem]
    · refine ⟨w1.heap.size, v8, _, rfl, row8.kept (grownBy_putObj' _ D (.deferred none)) (fun r e => by cases e; exact ⟨_, hK', rfl⟩), ?_, ?_⟩
      · rw [said_append, SAID.out, withName, said_filter']
        rfl
      · exact (HB1.out.trans ((SW.out.bel.trans bb).mono HB1.out.size)).trans (belowK_b (w := w) (Nat.le_refl _) _ D _ _ (by have := HB1.out.size; omega) hK' rfl rfl)
end Go.Proofs.Ytfgcbpchapkjbaa
