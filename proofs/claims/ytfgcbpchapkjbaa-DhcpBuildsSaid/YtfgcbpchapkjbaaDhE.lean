/-
  dhcp: a range over options: each round gets an item whose bytes may be read. (The law's proof is the kit's own for 'wpIn_rangeFunc_ownF', turned: the iterator promises of each item what lies in memory; no round leaves the loop.)
-/
import Derived.Test.YtfgcbpchapkjbaaDhD
namespace Go.Proofs.Ytfgcbpchapkjbaa
open Go.RowKit Go.Shelf
attribute [local go_sem] Oper.semAt_some

/-- An iterator that comes to its end where each round goes on: of the item that it hands over V holds. -/
def SeqV {α : Type} (F : Fence) (n : Nat) (P : Program) (g : Nat) (lb : Array Value) (encs : α → Array Value) (Kp : World → World → Prop) (V : List α → α → World → Prop) (S : List α → Prop) (N : Nat) (w : World) : Prop :=
  ∀ (l : Nat) (J : List α → World → Prop) (W : World), Below w.heap.size w W → AbidesFrom W.heap.size J →
    (∀ pre x W1, J pre W1 → pre.length < N → V pre x W1 → YieldAt F (n - 1) P l (encs x) W1 fun e W' => e = .returned (.bool true) ∧ J (pre ++ [x]) W' ∧ Kp W1 W') →
    J [] W → CallsIn F n P g (#[.func (.yield l) #[] #[]] ++ lb) W fun e W' => (∃ v, e = .returned v) ∧ ∃ xs, S xs ∧ J xs W'

def goesOn {α : Type} (Kp : World → World → Prop) (I : List α → World → Prop) (xs : List α) (W : World) : Exit → Act → World → Prop
  | .normal, _, W' => KeepsOthers W W' ∧ Kp W W' ∧ I xs W'
  | _, _, _ => False

theorem range_v {α : Type} {F : Fence} {n : Nat} {P : Program} {g : Operand} {ps : Array Tmp} {assign body : Code} {Q : Exit → Act → World → Prop} {a : Act} {w : World} (f : Act → Nat → α → Act) (U : List α → Nat → α → World → Prop)
    (hro : F.round = none) (h1 : 1 ≤ n) {gf : Nat} {lb : Array Value} (hg : a.eval g = .func (.func gf) #[] lb) (hFg : F.fn gf) (eg : ∀ args w, (callFunc gf args).run P w = .ok (.enter gf args) w)
    {encs : α → Array Value} {Kp : World → World → Prop} {V : List α → α → World → Prop} {S : List α → Prop} {N : Nat} (hseq : SeqV F (n - 1) P gf lb encs Kp V S N w)
    (hKt : ∀ {A B C : World}, Kp A B → Kp B C → Kp A C) (hKw : ∀ {A B : World}, Below A.heap.size A B → Kp A B) (hKb : ∀ (W : World) (l : Nat) (o o' : Obj), w.heap.size ≤ l → W.heap[l]? = some o → o.isCells = false → Kp W (W.putObj l o')) (hps : ∀ x, (encs x).size = ps.size)
    (I : List α → World → Prop) (hI : OwnFrom w.heap.size I) (hV : ∀ pre x, Own (fun (_ : Unit) W => V pre x W)) (hU : ∀ pre b x, Own (fun (_ : Unit) W => U pre b x W)) (h0 : I [] w)
    (hassign : ∀ (l : Nat) (pre : List α) (x : α) (W : World) (K : Act → World → Prop), I pre W → w.heap.size < W.heap.size → (∀ b W', Below W.heap.size W W' → U pre b x W' → K (f a b x) W') → assign.wpIn (F.inRound l) (n - 1 - 1) P (Exit.then K (fun _ _ _ => False)) { tmps := (ps.zip (encs x)).foldl (fun t (p, v) => t.setIfInBounds p v) a.tmps, defers := [] } W)
    (hbody : ∀ (l b : Nat) (pre : List α) (x : α) (W : World), I pre W → pre.length < N → V pre x W → U pre b x W → body.wpIn (F.inRound l) (n - 1 - 1) P (goesOn Kp I (pre ++ [x]) W) (f a b x) W)
    (hdone : ∀ (D : Nat) (xs : List α) (W : World), w.heap.size ≤ D → S xs → I xs W → W.heap[D]? = some (.deferred (some [])) → Q .normal { a with defers := { target := .collected D, args := #[] } :: a.defers } W) :
    (Code.rangeFunc g ps assign body).wpIn F n P Q a w := by
  refine wpIn_rangeFunc ?_
  intro fn hfn
  rw [hro]
  obtain ⟨rec, hrec⟩ : ∃ rec : LoopState → Option Code → Loop, rec = fun st pe => { state := st, pending := pe, fn, tmps := a.tmps, params := ps, assign, body, defers := w.heap.size } := ⟨_, rfl⟩
  obtain ⟨W1, hW1⟩ : ∃ W1, (w.alloc (.deferred (some []))).alloc (.loop (rec .ready none)) = W1 := ⟨_, rfl⟩
  have hL1 : W1.heap[w.heap.size + 1]? = some (.loop (rec .ready none)) := by
    rw [← hW1]; have := World.alloc_heap_new (w.alloc (.deferred (some []))) (.loop (rec .ready none)); rwa [World.size_alloc] at this
  have hK1 : W1.heap[w.heap.size]? = some (.deferred (some [])) := by
    rw [← hW1]; exact (Below.heap_alloc _ _ _ (by simp)).trans (World.alloc_heap_new w _)
  have hI1 : I [] W1 := by rw [← hW1]; exact hI.alloc _ (hI.alloc _ h0)
  have hb1 : Below w.heap.size w W1 := by rw [← hW1]; exact ((Below.refl _ w).alloc (Nat.le_refl _) _).alloc (by simp) _
  refine ⟨w.heap.size + 1, [{ target := .collected w.heap.size, args := #[] }], W1, { target := .fn (.func gf) lb, args := #[.func (.yield (w.heap.size + 1)) #[] #[]] }, W1, gf,
    #[.func (.yield (w.heap.size + 1)) #[] #[]] ++ lb, W1, ?_, ?_, ?_, ?_, fun _ => h1, ?_⟩
  · rw [← hW1, hrec]; exact run_enterLoop_outer _ _ _ _ _
  · simp only [resolve, hg]
    simp [go_sem]
  · intro f' hf'; simp [Target.leads] at hf'; subst hf'; exact hFg
  · simp [invoke, go_sem, eg]
  · have hnw : ∀ {A : World} {row : Option Nat}, (∀ r, row = some r → W1.heap.size ≤ r ∧ ∃ o : Obj, A.heap[r]? = some o ∧ o.isWalk = true) → (∀ r, row = some r → w.heap.size ≤ r ∧ ∃ o : Obj, A.heap[r]? = some o ∧ o.isCells = false) :=
      fun hr r e => by obtain ⟨hB, o, ho, hw⟩ := hr r e; exact ⟨by rw [← hW1] at hB; simp at hB; omega, o, ho, Obj.not_cells_of_walk hw⟩
    refine (hseq (w.heap.size + 1)
      (fun pre W => I pre W ∧ W.heap[w.heap.size + 1]? = some (.loop (rec .ready none)) ∧ W.heap[w.heap.size]? = some (.deferred (some [])))
      W1 hb1
      (fun s A B row hs hg' hr => ⟨hI s A B row hs.1 hg' (hnw hr), (grownBy_keeps hg' (fun r e => (hr r e).2) hs.2.1 rfl).trans hs.2.1, (grownBy_keeps hg' (fun r e => (hr r e).2) hs.2.2 rfl).trans hs.2.2⟩)
      ?_ ⟨hI1, hL1, hK1⟩).mono ?_
    · rintro pre x W ⟨hi, hl, hk⟩ hlen hv
      have hlt : w.heap.size + 1 < W.heap.size := (Array.getElem?_eq_some_iff.1 hl).1
      have hy := run_yield (P := P) (args := encs x) hl (by rw [hrec]; exact hps x)
      rw [hrec] at hy
      refine ⟨fn, _, assign, body, hy, roundIn_of_wpIn hfn (hassign _ pre x W _ hi (by omega) (fun b Wb hbW hub => ?_))⟩
      have hlb : Wb.heap[w.heap.size + 1]? = some (.loop (rec .ready none)) := (hbW.block _ hlt).trans hl
      have hkb : Wb.heap[w.heap.size]? = some (.deferred (some [])) := (hbW.block _ (by omega)).trans hk
      have hib : I pre Wb := hI pre W Wb none hi ⟨hbW.os, hbW.tape, hbW.output, hbW.size, fun i hi' _ => hbW.block i hi'⟩ (fun r e => by cases e)
      have hvb : V pre x Wb := hV pre x () W Wb none hv ⟨hbW.os, hbW.tape, hbW.output, hbW.size, fun i hi' _ => hbW.block i hi'⟩ (fun r e => by cases e)
      have hltb : w.heap.size + 1 < Wb.heap.size := (Array.getElem?_eq_some_iff.1 hlb).1
      refine ⟨_, run_beginRound hlb (by rw [hrec]), ?_⟩
      have hl2 : (Wb.putObj (w.heap.size + 1) (.loop { rec .ready none with state := .busy })).heap[w.heap.size + 1]? = some (.loop { rec .ready none with state := .busy }) := World.putObj_heap_same hltb
      have hk2 : (Wb.putObj (w.heap.size + 1) (.loop { rec .ready none with state := .busy })).heap[w.heap.size]? = some (.deferred (some [])) := (World.putObj_heap_other (by omega)).trans hkb
      have hw2 : Kp W (Wb.putObj (w.heap.size + 1) (.loop { rec .ready none with state := .busy })) := hKt (hKw hbW) (hKb _ _ _ _ (by omega) hlb rfl)
      refine wpIn_mono (hbody _ b pre x _ (hI.putObj _ hib (by omega) hlb rfl) hlen ((hV pre x).putObj (s := ()) _ hvb hlb rfl) ((hU pre b x).putObj (s := ()) _ hub hlb rfl)) ?_
      rintro e a3 W3 hp
      cases e with
      | normal =>
        obtain ⟨hk3, hkp3, hi3⟩ := hp
        have hl3 := hk3.same _ _ hl2 rfl
        have hr := run_endRound (P := P) none hl3
        rw [hrec] at hl3 hr
        exact ⟨_, _, hr, ⟨rfl, ⟨hI.putObj _ hi3 (by omega) hl3 rfl, by rw [hrec]; exact World.putObj_heap_same (Array.getElem?_eq_some_iff.1 hl3).1, (World.putObj_heap_other (by omega)).trans (hk3.same _ _ hk2 rfl)⟩, hKt (hKt hw2 hkp3) (hKb _ _ _ _ (by omega) hl3 rfl)⟩⟩
      | ret => exact hp.elim
      | exit id => exact hp.elim
      | goto t => exact hp.elim
      | panic ch => exact hp.elim
      | outgrown => exact hp.elim
    · rintro e W2 ⟨⟨v, rfl⟩, xs, hS, hi, hl, hk⟩
      exact ⟨none, _, by have := run_endLoop (P := P) hl (by rw [hrec]; simp); rw [hrec] at this; exact this, hdone _ xs _ (Nat.le_refl _) hS (hI.putObj _ hi (by omega) hl rfl) ((World.putObj_heap_other (by omega)).trans hk)⟩

/-- Of the blocks of S none has changed. -/
def KpS (S : Nat → Prop) (A B : World) : Prop := ∀ i, S i → i < A.heap.size → B.heap[i]? = A.heap[i]?
theorem KpS.t {S : Nat → Prop} {A B C : World} (h : KpS S A B) (k : KpS S B C) : KpS S A C := fun i hi hl => by
  have h1 := h i hi hl
  have hlB : i < B.heap.size := by
    rw [Array.getElem?_eq_getElem hl] at h1
    exact (Array.getElem?_eq_some_iff.1 h1).1
  exact (k i hi hlB).trans h1
theorem KpS.of_below {S : Nat → Prop} {A B : World} (h : Below A.heap.size A B) : KpS S A B := fun i _ hl => h.block i hl
theorem KpS.of_grown {S : Nat → Prop} {A B : World} {row : Option Nat} (h : A.grownBy B row) (hr : ∀ i, S i → some i ≠ row) : KpS S A B := fun i hi hl => h.block i hl (hr i hi)
theorem KpS.cell {S : Nat → Prop} {A B : World} (h : KpS S A B) {p : Addr} {v : Value} (hp : S p.block) (hc : A.cell? p = some v) : B.cell? p = some v :=
  (World.cell?_of_block (w := A) (h _ hp (World.block_lt_of_cell? A p hc))).trans hc
theorem KpS.put {S : Nat → Prop} {b0 : Nat} (hS : ∀ i, S i → i < b0) (W : World) (l : Nat) (o' : Obj) (hl : b0 ≤ l) : KpS S W (W.putObj l o') := fun i hi hlt =>
  (grownBy_putObj' W l o').block i hlt (fun e => by injection e with e; have := hS i hi; omega)

theorem named_any (A : Option Addr) (n c : Nat) (b : Bool) (w : World) : Calls Try.prog 42 #[.slice A n c, .bool b] w fun r w' => r = .returned (.func (.func 55) #[] #[.pointer (some ⟨w.heap.size, 0, none⟩), .pointer (some ⟨w.heap.size + 1, 0, none⟩)]) ∧ (w.alloc (.cells #[.slice A n c] 42)).alloc (.cells #[.bool b] 4) = w' := by
  go_enter Try.func42, Try.ntmps42
  go_wp2
  go_ret
  exact ⟨by simp, rfl⟩

abbrev ItIn (its : List It) := { it : It // it ∈ its }
abbrev encI {its : List It} (x : ItIn its) : Array Value := #[x.1.val]
def pick (b : Bool) (e : It) : Bool := (e.code == 64) == b
def picked {its : List It} (xs : List (ItIn its)) : List It := xs.map (·.1)
theorem picked_snoc {its : List It} (xs : List (ItIn its)) (x : ItIn its) : picked (xs ++ [x]) = picked xs ++ [x.1] := by simp [picked]
theorem picked_length {its : List It} (xs : List (ItIn its)) : (picked xs).length = xs.length := by simp [picked]

set_option maxHeartbeats 4000000 in
set_option maxRecDepth 100000 in
theorem named_goes (n : Nat) (hn : 2 ≤ n) (B1 B2 m c : Nat) (A : Option Addr) (its : List It) (b : Bool) (S : Nat → Prop) (w : World) (h : ORd w A m its) (hm : m ≤ 1000000)
    (hc1 : w.cell? ⟨B1, 0, none⟩ = some (.slice A m c)) (hc2 : w.cell? ⟨B2, 0, none⟩ = some (.bool b)) (hS2 : S B2) (hSA : ∀ ad, A = some ad → 0 < m → S ad.block) :
    SeqV Fence.wide n Try.prog 55 #[.pointer (some ⟨B1, 0, none⟩), .pointer (some ⟨B2, 0, none⟩)] (encI (its := its)) (KpS S) (fun _ _ _ => True) (fun xs => picked xs = its.filter (pick b)) its.length w := fun lp J W hW hJ hY h0 => by
  obtain rfl : its.length = m := h.len
  have hB := World.block_lt_of_cell? w _ hc1
  have hc1' := (hW.cell (p := ⟨B1, 0, none⟩) hB).trans hc1
  have H0 := Lib.hid (h.below hW)
  have C2 := Lib.hid ((hW.cell (p := ⟨B2, 0, none⟩) (World.block_lt_of_cell? w _ hc2)).trans hc2)
  have HY := Lib.hid hY
  have SA := Lib.hid hSA
  have hn1 : 1 ≤ n := by omega
  clear hc1 hc2 h hY hSA
  refine callsIn_of_wp Try.func55 rfl trivial ?_ rfl
  simp only [Try.ntmps55, List.size_toArray, List.length_cons, List.length_nil, Nat.reduceAdd, Nat.reduceSub, Array.replicate_succ, Array.replicate_zero, List.push_toArray, List.append_toArray, List.nil_append, List.cons_append]
  gi_wp2_with fail
  gi_loopw [8] (fun i wr => ∃ (k : Nat) (pre : List (ItIn its)), k ≤ its.length ∧ i = .int .i64 k ∧ picked pre = (its.take k).filter (pick b) ∧ J pre wr ∧ Hid (KpS S W wr)) (fun i _ => its.length - (intOf i).toNat)
  case atStart => exact ⟨0, [], Nat.zero_le _, rfl, rfl, h0, Lib.hid (KpS.of_below (Below.refl _ _))⟩
  case round =>
    obtain ⟨k, pre, hk, rfl, hpre, hJs, hkp⟩ := hrel
    by_cases hlt : k < its.length
    · obtain ⟨it, hit⟩ : ∃ x, its[k]? = some x := ⟨_, List.getElem?_eq_getElem hlt⟩
      have hmem := List.mem_iff_getElem?.2 ⟨k, hit⟩
      obtain ⟨bb, o, rfl, hbl, hcells⟩ := H0.out.rd (by omega)
      have hSb := SA.out ⟨bb, o, none⟩ rfl (by omega)
      obtain ⟨m0, m1⟩ := hcells k it hit
      replace m0 := hkp.out.cell (p := ⟨bb, o + k * 2, none⟩) hSb m0
      replace m1 := hkp.out.cell (p := ⟨bb, o + k * 2 + 1, none⟩) hSb m1
      have d2 : wr.cell? ⟨B2, 0, none⟩ = some (.bool b) := hkp.out.cell (p := ⟨B2, 0, none⟩) hS2 C2.out
      have hlen : pre.length < its.length := by
        have := List.length_filter_le (pick b) (its.take k)
        rw [← hpre, picked_length, List.length_take] at this
        omega
      have hbt : Below wr.heap.size wr (wr.alloc (.cells #[.int .i64 it.code, .slice it.A it.n it.c] 65)) := (Below.refl _ _).alloc (Nat.le_refl _) _
      have d2' : (wr.alloc (.cells #[.int .i64 it.code, .slice it.A it.n it.c] 65)).cell? ⟨B2, 0, none⟩ = some (.bool b) := (hbt.cell (p := ⟨B2, 0, none⟩) (World.block_lt_of_cell? wr _ d2)).trans d2
      have hJ5 : J pre (wr.alloc (.cells #[.int .i64 it.code, .slice it.A it.n it.c] 65)) := hJ pre wr _ none hJs (only_of_below hbt none) (fun r e => by cases e)
      have K5 := Lib.hid (hkp.out.t (KpS.of_below hbt))
      have htk : (its.take (k + 1)).filter (pick b) = picked pre ++ (if pick b it then [it] else []) := by
        rw [List.take_add_one, hit, hpre, List.filter_append]
        simp [List.filter_cons]
      have HTK := Lib.hid htk
      clear hcells hit htk d2 hkp hbt
      by_cases hp : pick b it = true
      · have hp' : (it.code == 64) = b := by unfold pick at hp; exact eq_of_beq hp
        obtain ⟨fn, tmps, assign, body, hy, hR⟩ := HY.out pre ⟨it, hmem⟩ _ hJ5 hlen trivial
        dsimp only [encI, It.val] at hy
        have HR := Lib.hid hR
        clear hR
        rw [if_pos hp] at HTK
        gi_wp2_with fail
        refine HR.out.mono ?_
        rintro e W3 ⟨rfl, hJ3, hk3⟩
        have L3 := Lib.hid (K5.out.t hk3)
        clear hk3
        gi_wp2
        go_roundw
        case rel => exact ⟨k + 1, pre ++ [⟨it, hmem⟩], by omega, by go_num, by rw [picked_snoc]; exact HTK.out.symm, hJ3, L3⟩
        case measure => simp [intOf]; omega
      · have hp' : (it.code == 64) = !b := by
          have : pick b it = false := by simpa using hp
          unfold pick at this
          cases b <;> cases h5 : (it.code == 64) <;> rw [h5] at this <;> simp_all
        rw [if_neg hp, List.append_nil] at HTK
        have hq : ((it.code == 64) == b) = false := by rw [hp']; cases b <;> rfl
        cases b with
        | true =>
          simp only [Bool.not_true] at hp'
          gi_wp2
          refine ⟨(by simp), ?_⟩
          gi_wp2
          go_roundw
          case rel => exact ⟨k + 1, pre, by omega, by go_num, HTK.out.symm, hJ5, K5⟩
          case measure => simp [intOf]; omega
        | false =>
          simp only [Bool.not_false] at hp'
          gi_wp2
          refine ⟨(by simp), ?_⟩
          gi_wp2
          go_roundw
          case rel => exact ⟨k + 1, pre, by omega, by go_num, HTK.out.symm, hJ5, K5⟩
          case measure => simp [intOf]; omega
    · obtain rfl : k = its.length := by omega
      rw [List.take_length] at hpre
      clear hlt hk
      gi_wp2
      go_end0
      exact ⟨⟨_, rfl⟩, pre, hpre, hJs⟩
end Go.Proofs.Ytfgcbpchapkjbaa
