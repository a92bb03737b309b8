/-
  Top: bytes, words, sums; packets as lists of bytes. Plain laws: no program in sight.
  General words: bytes in memory, ranges over iterators (gathered out of the texts of rounds name and dhcp).
  be: numbers of one, two and four bytes, put behind bytes. Printed by wip/gen/topC.py.
  be: the number that one, two or four bytes are; a number of two bytes in a place. Printed by wip/gen/topD.py.
-/
import Derived.Below
import Derived.Test.YtampcckdbjbllaaGreatDoorKa
import Derived.Lib.Walk
import Derived.Lib.Hide
import Derived.Shelf.RegionOpen
import Derived.Shelf.RegionOpenPlain
import Derived.Laws.OwnMore
import Derived.Laws.BitsAllLaws
import Derived.Deep.MidRow
import Derived.WalkMore
import Derived.Scope
set_option linter.unusedVariables false
set_option linter.unusedSectionVars false
set_option linter.unusedSimpArgs false
namespace Go.Proofs.YtampcckdbjbllaaGreatDoor

/-- A number in k bytes, the highest first. -/
def beL : Nat → Nat → List UInt8
  | 0, _ => []
  | k + 1, n => UInt8.ofNat (n / 256 ^ k) :: beL k n
/-- The number that some bytes are. -/
def getB (l : List UInt8) : Nat := l.foldl (fun n x => n * 256 + x.toNat) 0
/-- The words of bytes together. -/
def words : List UInt8 → Nat
  | [] => 0
  | [a] => a.toNat * 256
  | a :: b :: r => a.toNat * 256 + b.toNat + words r
/-- A number in sixteen bits, round. -/
def fold (n : Nat) : Nat := if n = 0 then 0 else (n - 1) % 65535 + 1
/-- What makes a sum right. -/
def sumOf (l : List UInt8) : Nat := 65535 - fold (words l)

theorem beL_len (k n : Nat) : (beL k n).length = k := by induction k with
  | zero => rfl
  | succ k ih => simp [beL, ih]
theorem words_even : ∀ (a b : List UInt8), a.length % 2 = 0 → words (a ++ b) = words a + words b
  | [], b, _ => by simp [words]
  | [x], b, h => by simp at h
  | x :: y :: r, b, h => by
    have ih := words_even r b (by simp at h; omega)
    simp only [List.cons_append, words, ih]
    omega
theorem ofNat_toNat (n : Nat) : (UInt8.ofNat n).toNat = n % 256 := by simp
theorem words_be2 (n : Nat) (h : n < 65536) : words (beL 2 n) = n := by
  simp only [beL, words, ofNat_toNat]
  omega
theorem words_be4 (n : Nat) (h : n < 4294967296) : words (beL 4 n) = n / 65536 + n % 65536 := by
  simp only [beL, words, ofNat_toNat]
  omega
theorem get_be2 (n : Nat) (h : n < 65536) : getB (beL 2 n) = n := by
  simp only [beL, getB, List.foldl, ofNat_toNat]
  omega
theorem get_be4 (n : Nat) (h : n < 4294967296) : getB (beL 4 n) = n := by
  simp only [beL, getB, List.foldl, ofNat_toNat]
  omega
theorem fold_le (n : Nat) : fold n ≤ 65535 := by unfold fold; split <;> omega
theorem fold_pos (n : Nat) (h : 0 < n) : 0 < fold n := by unfold fold; split <;> omega
theorem fold_small (n : Nat) (h : n ≤ 65535) : fold n = n := by unfold fold; split <;> omega
/-- One step of the loop. -/
theorem fold_step (n : Nat) (h : 65535 < n) : fold (n % 65536 + n / 65536) = fold n := by
  unfold fold
  rw [if_neg (by omega), if_neg (by omega)]
  omega
theorem step_less (n : Nat) (h : 65535 < n) : n % 65536 + n / 65536 < n := by omega
/-- What makes a sum right makes it right. -/
theorem fold_right (n : Nat) : fold (n + (65535 - fold n)) = 65535 := by
  unfold fold
  by_cases h : n = 0
  · subst h; rfl
  · rw [if_neg h, if_neg (by omega)]
    omega
theorem fold_whole (n : Nat) (h : fold n = 65535) : fold (n + 65535) = 65535 := by
  unfold fold at *
  by_cases h0 : n = 0
  · subst h0; simp at h
  · rw [if_neg h0] at h
    rw [if_neg (by omega)]
    omega

/-- A head of twenty bytes, with a sum. -/
def head4 (ttl pr s d size sum : Nat) : List UInt8 :=
  [69, 0] ++ beL 2 size ++ [0, 0, 0, 0] ++ [UInt8.ofNat ttl, UInt8.ofNat pr] ++ beL 2 sum ++ beL 4 s ++ beL 4 d
/-- A packet without options that is no fragment. -/
def pk (ttl pr s d : Nat) (data : List UInt8) : List UInt8 :=
  head4 ttl pr s d (20 + data.length) (sumOf (head4 ttl pr s d (20 + data.length) 0)) ++ data
theorem head4_len (ttl pr s d size sum : Nat) : (head4 ttl pr s d size sum).length = 20 := by simp [head4, beL_len]
theorem pk_len (ttl pr s d : Nat) (data : List UInt8) : (pk ttl pr s d data).length = 20 + data.length := by simp [pk, head4_len]
theorem head4_sum (ttl pr s d size sum : Nat) (h : sum < 65536) : words (head4 ttl pr s d size sum) = words (head4 ttl pr s d size 0) + sum := by
  simp only [head4, beL, List.cons_append, List.nil_append, words, ofNat_toNat]
  omega
theorem head4_right (ttl pr s d size : Nat) : fold (words (head4 ttl pr s d size (sumOf (head4 ttl pr s d size 0)))) = 65535 := by
  rw [head4_sum _ _ _ _ _ _ (by unfold sumOf; omega)]
  exact fold_right _
theorem sumOf_lt (l : List UInt8) : sumOf l < 65536 := by unfold sumOf; omega

/-- What a datagram's sum is of, too. -/
def pseudo (s d pr n : Nat) : List UInt8 := beL 4 s ++ beL 4 d ++ beL 2 pr ++ beL 2 n
def udp0 (f t sum : Nat) (data : List UInt8) : List UInt8 := beL 2 f ++ beL 2 t ++ beL 2 (8 + data.length) ++ beL 2 sum ++ data
def udpSum (s d f t : Nat) (data : List UInt8) : Nat :=
  let x := sumOf (pseudo s d 17 (8 + data.length) ++ udp0 f t 0 data)
  if x = 0 then 65535 else x
/-- A datagram's bytes. -/
def udpB (s d f t : Nat) (data : List UInt8) : List UInt8 := udp0 f t (udpSum s d f t data) data
theorem pseudo_len (s d pr n : Nat) : (pseudo s d pr n).length = 12 := by simp [pseudo, beL_len]
theorem udp0_len (f t sum : Nat) (data : List UInt8) : (udp0 f t sum data).length = 8 + data.length := by simp [udp0, beL_len]; omega
theorem udpB_len (s d f t : Nat) (data : List UInt8) : (udpB s d f t data).length = 8 + data.length := by simp [udpB, udp0_len]
theorem udp0_sum (f t sum : Nat) (data : List UInt8) (h : sum < 65536) : words (udp0 f t sum data) = words (udp0 f t 0 data) + sum := by
  simp only [udp0, beL, List.cons_append, List.nil_append, words, ofNat_toNat]
  omega
theorem udpSum_lt (s d f t : Nat) (data : List UInt8) : udpSum s d f t data < 65536 := by
  unfold udpSum
  have := sumOf_lt (pseudo s d 17 (8 + data.length) ++ udp0 f t 0 data)
  dsimp only
  split <;> omega
theorem udpSum_pos (s d f t : Nat) (data : List UInt8) : 0 < udpSum s d f t data := by
  unfold udpSum
  dsimp only
  split <;> omega
theorem udp_right (s d f t : Nat) (data : List UInt8) : fold (words (pseudo s d 17 (8 + data.length)) + words (udpB s d f t data)) = 65535 := by
  have he : words (pseudo s d 17 (8 + data.length) ++ udp0 f t 0 data) = words (pseudo s d 17 (8 + data.length)) + words (udp0 f t 0 data) := words_even _ _ (by rw [pseudo_len])
  rw [udpB, udp0_sum _ _ _ _ (udpSum_lt _ _ _ _ _)]
  generalize words (pseudo s d 17 (8 + data.length)) = p at *
  generalize hq : words (udp0 f t 0 data) = q at *
  unfold udpSum sumOf
  rw [he]
  dsimp only
  split
  · rename_i h
    have := fold_le (p + q)
    rw [← Nat.add_assoc]
    exact fold_whole _ (by omega)
  · rw [← Nat.add_assoc]
    exact fold_right _

def icmp0 (ty co rest sum : Nat) (data : List UInt8) : List UInt8 := [UInt8.ofNat ty, UInt8.ofNat co] ++ beL 2 sum ++ beL 4 rest ++ data
/-- A message's bytes. -/
def icmpB (ty co rest : Nat) (data : List UInt8) : List UInt8 := icmp0 ty co rest (sumOf (icmp0 ty co rest 0 data)) data
theorem icmp0_len (ty co rest sum : Nat) (data : List UInt8) : (icmp0 ty co rest sum data).length = 8 + data.length := by simp [icmp0, beL_len]; omega
theorem icmpB_len (ty co rest : Nat) (data : List UInt8) : (icmpB ty co rest data).length = 8 + data.length := by simp [icmpB, icmp0_len]
theorem icmp0_sum (ty co rest sum : Nat) (data : List UInt8) (h : sum < 65536) : words (icmp0 ty co rest sum data) = words (icmp0 ty co rest 0 data) + sum := by
  simp only [icmp0, beL, List.cons_append, List.nil_append, words, ofNat_toNat]
  omega
theorem icmp_right (ty co rest : Nat) (data : List UInt8) : fold (words (icmpB ty co rest data)) = 65535 := by
  rw [icmpB, icmp0_sum _ _ _ _ _ (sumOf_lt _)]
  exact fold_right _
end Go.Proofs.YtampcckdbjbllaaGreatDoor
namespace Go.Proofs.YtampcckdbjbllaaGreatDoor
open Go.RowKit Go.Shelf
attribute [local go_sem] Oper.semAt_some

def bs (l : List UInt8) : ByteArray := ⟨l.toArray⟩

theorem bs_data (l : List UInt8) : (bs l).data.toList = l := rfl

theorem bs_size (l : List UInt8) : (bs l).size = l.length := rfl

def nums (x : List UInt8) : List Int := x.map (fun b => (b.toNat : Int))

theorem nums_length (x : List UInt8) : (nums x).length = x.length := by simp [nums]

theorem byte_size : (Tryz.prog.info? 5).map (·.size) = some 1 := by kernel_rfl

theorem Reads.take {w : World} {B size n k : Nat} {A : Option Addr} {xs : List Value} (h : Reads w B size A n xs) (hk : k ≤ n) : Reads w B size A k (xs.take (k * size)) := by
  refine ⟨by rw [List.length_take, h.1, Nat.min_eq_left (Nat.mul_le_mul_right _ hk)], fun hn => ?_⟩
  obtain ⟨ad, e, hb, hc⟩ := h.2 (by omega)
  refine ⟨ad, e, hb, fun j u hu => hc j u ?_⟩
  rw [List.getElem?_take] at hu
  split at hu
  · exact hu
  · cases hu

theorem clone_own (A : Option Addr) (n c : Nat) (xs : List Int) (w : World) (h : BReads w A n xs) (hn : n ≤ 1099511627776) :
    Calls Tryz.prog 219 #[.slice A n c] w fun e w' => ∃ v, e = .returned v ∧ w'.ownsRow w.heap.size 5 1 v n (xs.map (Value.int .u8)) ∧ Below w.heap.size w w' := by
  obtain ⟨i0, hi0, hz0, hz1, hz2⟩ := info_parts byte_info
  rcases A with _ | ad
  · obtain rfl := h.2 rfl
    obtain rfl : xs = [] := List.eq_nil_of_length_eq_zero (by simpa using h.1.1)
    have hnil := fun w : World => Lib.run_eql_slice_nil (P := Tryz.prog) w 22 5 none 0 c 0 0 Tryz.underlying22
    clear h
    go_enter Tryz.func219, Tryz.ntmps219
    go_wp2
    go_ret
    exact ⟨_, rfl, World.ownsRow_nil _ _ _ _, Below.refl _ _⟩
  · have hnil := fun w : World => Lib.run_eql_slice_nil (P := Tryz.prog) w 22 5 (some ad) n c 0 0 Tryz.underlying22
    have hown := World.ownsRow_made (base := w.heap.size) (e := 5) (size := 1) w #[] 0 (Nat.le_refl _) (by simp [maxLen]) rfl
    have hr2 := h.1.alloc (Nat.le_refl _) (.cells #[] 5)
    clear h
    go_enter Tryz.func219, Tryz.ntmps219
    go_wp2_with (first
      | (at_builtin
         refine wpList_append_any _ rfl (.tmp 5) (.tmp 6) _ rfl w.heap.size 5 i0 _ 1 1 Tryz.underlying22 hi0 hz0 hz1 hz2 rfl (by omega) (.slice (some ⟨w.heap.size, 0, none⟩) 0 0) 0 [] rfl
           hown w.heap.size (some ad) n c _ rfl hr2 (by intro u hu; obtain ⟨x, _, rfl⟩ := List.mem_map.1 hu; rfl) (by simp only [maxLen]; omega) (by omega) (by simp) ?_
         intro v1 w1 hown1 hg1 hat1))
    go_ret
    have hb1 : Below w.heap.size w w1 := ((Below.refl _ w).alloc (Nat.le_refl _) _).grown hg1 (by simp) (by simp [Value.ownBlock])
    rw [List.nil_append, Nat.zero_add] at hown1
    exact ⟨_, rfl, hown1, hb1⟩

theorem owns_base {W : World} {b b' n e size : Nat} {v : Value} {xs : List Value} (ho : W.ownsRow b e size v n xs) (h : b' ≤ b) : W.ownsRow b' e size v n xs := by
  refine ⟨ho.1, ?_⟩
  rcases ho.2 with h0 | ⟨g, cap, cur, hv, hg, hr⟩
  · exact .inl h0
  · exact .inr ⟨g, cap, cur, hv, Nat.le_trans h hg, hr⟩

def SeqV {α : Type} (F : Fence) (n : Nat) (P : Program) (g : Nat) (lb : Array Value) (encs : α → Array Value) (Kp : World → World → Prop) (V : List α → α → World → Prop) (S : List α → Prop) (N : Nat) (w : World) : Prop :=
  ∀ (l : Nat) (J : List α → World → Prop) (W : World), Below w.heap.size w W → AbidesFrom W.heap.size J →
    (∀ pre x W1, J pre W1 → pre.length < N → V pre x W1 → YieldAt F (n - 1) P l (encs x) W1 fun e W' => e = .returned (.bool true) ∧ J (pre ++ [x]) W' ∧ Kp W1 W') →
    J [] W → CallsIn F n P g (#[.func (.yield l) #[] #[]] ++ lb) W fun e W' => (∃ v, e = .returned v) ∧ ∃ xs, S xs ∧ J xs W'

def goesOn {α : Type} (Kp : World → World → Prop) (I : List α → World → Prop) (xs : List α) (W : World) : Exit → Act → World → Prop
  | .normal, _, W' => KeepsOthers W W' ∧ Kp W W' ∧ I xs W'
  | _, _, _ => False

theorem range_v {α : Type} {F : Fence} {n : Nat} {P : Program} {g : Operand} {ps : Array Tmp} {assign body : Code} {Q : Exit → Act → World → Prop} {a : Act} {w : World} (f : Act → Nat → α → Act) (U : List α → Nat → α → World → Prop)
    (hro : F.round = none) (h1 : 1 ≤ n) {gf : Nat} {lb : Array Value} (hg : a.eval g = .func (.func gf) #[] lb) (hFg : F.fn gf) (eg : ∀ args w, (callFunc gf args).run P w = .ok (.enter gf args) w)
    {encs : α → Array Value} {Kp : World → World → Prop} {V : List α → α → World → Prop} {S : List α → Prop} {N : Nat} (hseq : SeqV F (n - 1) P gf lb encs Kp V S N w)
    (hKt : ∀ {A B C : World}, Kp A B → Kp B C → Kp A C) (hKw : ∀ {A B : World}, Below A.heap.size A B → Kp A B) (hKb : ∀ (W : World) (l : Nat) (o o' : Obj), w.heap.size ≤ l → W.heap[l]? = some o → o.isCells = false → Kp W (W.putObj l o')) (hps : ∀ x, (encs x).size = ps.size)
    (I : List α → World → Prop) (hI : OwnFrom w.heap.size I) (hV : ∀ pre x, Own (fun (_ : Unit) W => V pre x W)) (hU : ∀ pre b x, Own (fun (_ : Unit) W => U pre b x W)) (h0 : I [] w)
    (hassign : ∀ (l : Nat) (pre : List α) (x : α) (W : World) (K : Act → World → Prop), I pre W → w.heap.size < W.heap.size → (∀ b W', Below W.heap.size W W' → U pre b x W' → K (f a b x) W') → assign.wpIn (F.inRound l) (n - 1 - 1) P (Exit.then K (fun _ _ _ => False)) { tmps := (ps.zip (encs x)).foldl (fun t (p, v) => t.setIfInBounds p v) a.tmps, defers := [] } W)
    (hbody : ∀ (l b : Nat) (pre : List α) (x : α) (W : World), I pre W → pre.length < N → V pre x W → U pre b x W → body.wpIn (F.inRound l) (n - 1 - 1) P (goesOn Kp I (pre ++ [x]) W) (f a b x) W)
    (hdone : ∀ (D : Nat) (xs : List α) (W : World), w.heap.size ≤ D → S xs → I xs W → W.heap[D]? = some (.deferred (some [])) → Q .normal { a with defers := { target := .collected D, args := #[] } :: a.defers } W) :
    (Code.rangeFunc g ps assign body).wpIn F n P Q a w := by
  refine wpIn_rangeFunc ?_
  intro fn hfn
  rw [hro]
  obtain ⟨rec, hrec⟩ : ∃ rec : LoopState → Option Code → Loop, rec = fun st pe => { state := st, pending := pe, fn, tmps := a.tmps, params := ps, assign, body, defers := w.heap.size } := ⟨_, rfl⟩
  obtain ⟨W1, hW1⟩ : ∃ W1, (w.alloc (.deferred (some []))).alloc (.loop (rec .ready none)) = W1 := ⟨_, rfl⟩
  have hL1 : W1.heap[w.heap.size + 1]? = some (.loop (rec .ready none)) := by
    rw [← hW1]; have := World.alloc_heap_new (w.alloc (.deferred (some []))) (.loop (rec .ready none)); rwa [World.size_alloc] at this
  have hK1 : W1.heap[w.heap.size]? = some (.deferred (some [])) := by
    rw [← hW1]; exact (Below.heap_alloc _ _ _ (by simp)).trans (World.alloc_heap_new w _)
  have hI1 : I [] W1 := by rw [← hW1]; exact hI.alloc _ (hI.alloc _ h0)
  have hb1 : Below w.heap.size w W1 := by rw [← hW1]; exact ((Below.refl _ w).alloc (Nat.le_refl _) _).alloc (by simp) _
  refine ⟨w.heap.size + 1, [{ target := .collected w.heap.size, args := #[] }], W1, { target := .fn (.func gf) lb, args := #[.func (.yield (w.heap.size + 1)) #[] #[]] }, W1, gf,
    #[.func (.yield (w.heap.size + 1)) #[] #[]] ++ lb, W1, ?_, ?_, ?_, ?_, fun _ => h1, ?_⟩
  · rw [← hW1, hrec]; exact run_enterLoop_outer _ _ _ _ _
  · simp only [resolve, hg]
    simp [go_sem]
  · intro f' hf'; simp [Target.leads] at hf'; subst hf'; exact hFg
  · simp [invoke, go_sem, eg]
  · have hnw : ∀ {A : World} {row : Option Nat}, (∀ r, row = some r → W1.heap.size ≤ r ∧ ∃ o : Obj, A.heap[r]? = some o ∧ o.isWalk = true) → (∀ r, row = some r → w.heap.size ≤ r ∧ ∃ o : Obj, A.heap[r]? = some o ∧ o.isCells = false) :=
      fun hr r e => by obtain ⟨hB, o, ho, hw⟩ := hr r e; exact ⟨by rw [← hW1] at hB; simp at hB; omega, o, ho, Obj.not_cells_of_walk hw⟩
    refine (hseq (w.heap.size + 1)
      (fun pre W => I pre W ∧ W.heap[w.heap.size + 1]? = some (.loop (rec .ready none)) ∧ W.heap[w.heap.size]? = some (.deferred (some [])))
      W1 hb1
      (fun s A B row hs hg' hr => ⟨hI s A B row hs.1 hg' (hnw hr), (grownBy_keeps hg' (fun r e => (hr r e).2) hs.2.1 rfl).trans hs.2.1, (grownBy_keeps hg' (fun r e => (hr r e).2) hs.2.2 rfl).trans hs.2.2⟩)
      ?_ ⟨hI1, hL1, hK1⟩).mono ?_
    · rintro pre x W ⟨hi, hl, hk⟩ hlen hv
      have hlt : w.heap.size + 1 < W.heap.size := (Array.getElem?_eq_some_iff.1 hl).1
      have hy := run_yield (P := P) (args := encs x) hl (by rw [hrec]; exact hps x)
      rw [hrec] at hy
      refine ⟨fn, _, assign, body, hy, roundIn_of_wpIn hfn (hassign _ pre x W _ hi (by omega) (fun b Wb hbW hub => ?_))⟩
      have hlb : Wb.heap[w.heap.size + 1]? = some (.loop (rec .ready none)) := (hbW.block _ hlt).trans hl
      have hkb : Wb.heap[w.heap.size]? = some (.deferred (some [])) := (hbW.block _ (by omega)).trans hk
      have hib : I pre Wb := hI pre W Wb none hi ⟨hbW.os, hbW.tape, hbW.output, hbW.size, fun i hi' _ => hbW.block i hi'⟩ (fun r e => by cases e)
      have hvb : V pre x Wb := hV pre x () W Wb none hv ⟨hbW.os, hbW.tape, hbW.output, hbW.size, fun i hi' _ => hbW.block i hi'⟩ (fun r e => by cases e)
      have hltb : w.heap.size + 1 < Wb.heap.size := (Array.getElem?_eq_some_iff.1 hlb).1
      refine ⟨_, run_beginRound hlb (by rw [hrec]), ?_⟩
      have hl2 : (Wb.putObj (w.heap.size + 1) (.loop { rec .ready none with state := .busy })).heap[w.heap.size + 1]? = some (.loop { rec .ready none with state := .busy }) := World.putObj_heap_same hltb
      have hk2 : (Wb.putObj (w.heap.size + 1) (.loop { rec .ready none with state := .busy })).heap[w.heap.size]? = some (.deferred (some [])) := (World.putObj_heap_other (by omega)).trans hkb
      have hw2 : Kp W (Wb.putObj (w.heap.size + 1) (.loop { rec .ready none with state := .busy })) := hKt (hKw hbW) (hKb _ _ _ _ (by omega) hlb rfl)
      refine wpIn_mono (hbody _ b pre x _ (hI.putObj _ hib (by omega) hlb rfl) hlen ((hV pre x).putObj (s := ()) _ hvb hlb rfl) ((hU pre b x).putObj (s := ()) _ hub hlb rfl)) ?_
      rintro e a3 W3 hp
      cases e with
      | normal =>
        obtain ⟨hk3, hkp3, hi3⟩ := hp
        have hl3 := hk3.same _ _ hl2 rfl
        have hr := run_endRound (P := P) none hl3
        rw [hrec] at hl3 hr
        exact ⟨_, _, hr, ⟨rfl, ⟨hI.putObj _ hi3 (by omega) hl3 rfl, by rw [hrec]; exact World.putObj_heap_same (Array.getElem?_eq_some_iff.1 hl3).1, (World.putObj_heap_other (by omega)).trans (hk3.same _ _ hk2 rfl)⟩, hKt (hKt hw2 hkp3) (hKb _ _ _ _ (by omega) hl3 rfl)⟩⟩
      | ret => exact hp.elim
      | exit id => exact hp.elim
      | goto t => exact hp.elim
      | panic ch => exact hp.elim
      | outgrown => exact hp.elim
    · rintro e W2 ⟨⟨v, rfl⟩, xs, hS, hi, hl, hk⟩
      exact ⟨none, _, by have := run_endLoop (P := P) hl (by rw [hrec]; simp); rw [hrec] at this; exact this, hdone _ xs _ (Nat.le_refl _) hS (hI.putObj _ hi (by omega) hl rfl) ((World.putObj_heap_other (by omega)).trans hk)⟩

def KpS (S : Nat → Prop) (A B : World) : Prop := ∀ i, S i → i < A.heap.size → B.heap[i]? = A.heap[i]?

theorem KpS.t {S : Nat → Prop} {A B C : World} (h : KpS S A B) (k : KpS S B C) : KpS S A C := fun i hi hl => by
  have h1 := h i hi hl
  have hlB : i < B.heap.size := by
    rw [Array.getElem?_eq_getElem hl] at h1
    exact (Array.getElem?_eq_some_iff.1 h1).1
  exact (k i hi hlB).trans h1

theorem KpS.of_below {S : Nat → Prop} {A B : World} (h : Below A.heap.size A B) : KpS S A B := fun i _ hl => h.block i hl

theorem KpS.of_grown {S : Nat → Prop} {A B : World} {row : Option Nat} (h : A.grownBy B row) (hr : ∀ i, S i → some i ≠ row) : KpS S A B := fun i hi hl => h.block i hl (hr i hi)

theorem KpS.cell {S : Nat → Prop} {A B : World} (h : KpS S A B) {p : Addr} {v : Value} (hp : S p.block) (hc : A.cell? p = some v) : B.cell? p = some v :=
  (World.cell?_of_block (w := A) (h _ hp (World.block_lt_of_cell? A p hc))).trans hc

theorem KpS.put {S : Nat → Prop} {b0 : Nat} (hS : ∀ i, S i → i < b0) (W : World) (l : Nat) (o' : Obj) (hl : b0 ≤ l) : KpS S W (W.putObj l o') := fun i hi hlt =>
  (grownBy_putObj' W l o').block i hlt (fun e => by injection e with e; have := hS i hi; omega)

theorem or_i64 (a b : Nat) (ha : a < 18446744073709551616) (hb : b < 18446744073709551616) (h : (a ||| b) ≤ 9223372036854775807) : bits .or .i64 (a : Int) (b : Int) = ((a ||| b : Nat) : Int) := by
  show IntKind.i64.wrap ((BitVec.ofInt 64 (a : Int) ||| BitVec.ofInt 64 (b : Int)).toNat : Int) = _
  rw [BitVec.toNat_or, ofInt_u64 a ha, ofInt_u64 b hb]
  exact IntWalk.i64_in _ (by omega)

theorem or_zero (b : Nat) (hb : b < 256) : bits .or .i64 0 (b : Int) = (b : Int) := by
  have := or_i64 0 b (by omega) (by omega) (by rw [Nat.zero_or]; omega)
  rw [Nat.zero_or] at this
  exact this
end Go.Proofs.YtampcckdbjbllaaGreatDoor
namespace Go.Proofs.YtampcckdbjbllaaGreatDoor
open Go.RowKit Go.Shelf
attribute [local go_sem] Oper.semAt_some

abbrev encB (x : Int) : Array Value := #[.int .u8 x]
theorem nums_append (a b : List UInt8) : nums (a ++ b) = nums a ++ nums b := by simp [nums]

/-- The function's own variable between two rounds: xs lie in it. -/
structure BSt (w : World) (b0 g B2 k : Nat) (n : Int) (xs : List Int) (W : World) : Prop where
  out : ∃ v, Blk W g 22 #[v] ∧ W.ownsRow b0 5 1 v k (xs.map (Value.int .u8))
  num : Blk W B2 3 #[.int .i64 n]
  bel : Below b0 w W
theorem BSt.kept {w : World} {B b0 g B2 k : Nat} {n : Int} (hB : b0 ≤ B) (hbw : b0 ≤ w.heap.size) {xs : List Int} {W W' : World} {row : Option Nat} (h : BSt w b0 g B2 k n xs W) (hg : W.grownBy W' row) (hr : ∀ r, row = some r → B ≤ r ∧ ∃ o : Obj, W.heap[r]? = some o ∧ o.isCells = false) : BSt w b0 g B2 k n xs W' := by
  obtain ⟨v, h1, h2⟩ := h.out
  exact ⟨⟨v, blk_kept h1 hg (fun r e => (hr r e).2), owns_kept h2 hg (fun r e => (hr r e).2)⟩, blk_kept h.num hg (fun r e => (hr r e).2), h.bel.grown hg (Nat.le_trans hbw h.bel.size) (fun r e => Nat.le_trans hB (hr r e).1)⟩

theorem nums_be1 (n : Nat) (hn : n < 256) : nums (beL 1 n) = [(n : Int)] := by
  simp [nums, beL]
  try omega
theorem beright_1 (w : World) : Calls Tryz.prog 317 #[.int .i64 1] w fun r w' => r = .returned (.bool true) ∧ w = w' := by
  go_enter Tryz.func317, Tryz.ntmps317
  go_wp2
  go_ret
  exact ⟨rfl, rfl⟩
theorem befits_1 (n : Int) (h0 : 0 ≤ n) (hn : n < 256) (w : World) : Calls Tryz.prog 231 #[.int .i64 n, .int .i64 1] w fun r w' => r = .returned (.bool true) ∧ w = w' := by
  have hs : (n / 256 == 0) = true := by rw [show n / 256 = 0 by omega]; rfl
  go_enter Tryz.func231, Tryz.ntmps231
  go_wp2_with (go_at_call 317; refine (beright_1 _).mono ?_; rintro r w' ⟨rfl, rfl⟩)
  go_ret
  exact ⟨rfl, rfl⟩
theorem digits_any1 (n : Int) (w : World) : Calls Tryz.prog 308 #[.int .i64 n, .int .i64 1] w fun r w' => r = .returned (.func (.func 390) #[] #[.pointer (some ⟨w.heap.size + 1, 0, none⟩), .pointer (some ⟨w.heap.size, 0, none⟩)]) ∧ (w.alloc (.cells #[.int .i64 n] 3)).alloc (.cells #[.int .i64 1] 3) = w' := by
  go_enter Tryz.func308, Tryz.ntmps308
  go_wp2
  go_ret
  exact ⟨by simp, rfl⟩

set_option maxHeartbeats 4000000 in
set_option maxRecDepth 100000 in
theorem digits_goes1 (f : Nat) (hf : 2 ≤ f) (B1 B2 : Nat) (n : Nat) (hn : n < 256) (S : Nat → Prop) (w : World) (hc1 : w.cell? ⟨B1, 0, none⟩ = some (.int .i64 1)) (hc2 : w.cell? ⟨B2, 0, none⟩ = some (.int .i64 n)) (hS2 : S B2) :
    SeqV Fence.wide f Tryz.prog 390 #[.pointer (some ⟨B1, 0, none⟩), .pointer (some ⟨B2, 0, none⟩)] encB (KpS S) (fun _ _ _ => True) (fun xs => xs = nums (beL 1 n)) 1 w := fun lp J W hW hJ hY h0' => by
  have hc1' := (hW.cell (p := ⟨B1, 0, none⟩) (World.block_lt_of_cell? w _ hc1)).trans hc1
  have C2 := Lib.hid ((hW.cell (p := ⟨B2, 0, none⟩) (World.block_lt_of_cell? w _ hc2)).trans hc2)
  have HY := Lib.hid hY
  have hn1 : 1 ≤ f := by omega
  rw [nums_be1 n hn]
  clear hc1 hc2 hY
  refine callsIn_of_wp Tryz.func390 rfl trivial ?_ rfl
  simp only [Tryz.ntmps390, List.size_toArray, List.length_cons, List.length_nil, Nat.reduceAdd, Nat.reduceSub, Array.replicate_succ, Array.replicate_zero, List.push_toArray, List.append_toArray, List.nil_append, List.cons_append]
  gi_wp2_with fail
  gi_loopw [4] (fun i wr => ∃ (j : Nat), i = .int .i64 (0 - (j : Int)) ∧ j ≤ 1 ∧ J (([(n : Int)] : List Int).take j) wr ∧ Hid (KpS S W wr)) (fun i _ => (intOf i + 1).toNat)
  case atStart => exact ⟨0, rfl, by omega, h0', Lib.hid (KpS.of_below (Below.refl _ _))⟩
  case round =>
    obtain ⟨j, rfl, hj, hJs, hkp⟩ := hrel
    have d2 : wr.cell? ⟨B2, 0, none⟩ = some (.int .i64 n) := hkp.out.cell (p := ⟨B2, 0, none⟩) hS2 C2.out
    rcases (show j = 0 ∨ j = 1 by omega) with rfl | rfl
    · obtain ⟨fn, tmps, assign, body, hy, hR⟩ := HY.out [] ((n : Int)) wr (by simpa using hJs) (by simp) trivial
      dsimp only [encB] at hy
      have HR := Lib.hid hR
      have hx : ((n : Int)) % 256 = (n : Int) := by omega
      clear hR
      simp only [show (0 : Int) - ((0 : Nat) : Int) = 0 from rfl]
      gi_wp2_with fail
      refine HR.out.mono ?_
      rintro e W3 ⟨rfl, hJ3, hk3⟩
      have L3 := Lib.hid (hkp.out.t hk3)
      clear hk3
      gi_wp2
      go_roundw
      case rel => exact ⟨1, rfl, by omega, by simpa using hJ3, L3⟩
      case measure => simp [intOf]
    · simp only [show (0 : Int) - ((1 : Nat) : Int) = -1 from rfl]
      gi_wp2
      go_end0
      exact ⟨⟨_, rfl⟩, _, rfl, by simpa using hJs⟩

theorem nums_be2 (n : Nat) (hn : n < 65536) : nums (beL 2 n) = [(n : Int) / 256, (n : Int) % 256] := by
  simp [nums, beL]
  try omega
theorem beright_2 (w : World) : Calls Tryz.prog 317 #[.int .i64 2] w fun r w' => r = .returned (.bool true) ∧ w = w' := by
  go_enter Tryz.func317, Tryz.ntmps317
  go_wp2
  go_ret
  exact ⟨rfl, rfl⟩
theorem befits_2 (n : Int) (h0 : 0 ≤ n) (hn : n < 65536) (w : World) : Calls Tryz.prog 231 #[.int .i64 n, .int .i64 2] w fun r w' => r = .returned (.bool true) ∧ w = w' := by
  have hs : (n / 65536 == 0) = true := by rw [show n / 65536 = 0 by omega]; rfl
  go_enter Tryz.func231, Tryz.ntmps231
  go_wp2_with (go_at_call 317; refine (beright_2 _).mono ?_; rintro r w' ⟨rfl, rfl⟩)
  go_ret
  exact ⟨rfl, rfl⟩
theorem digits_any2 (n : Int) (w : World) : Calls Tryz.prog 308 #[.int .i64 n, .int .i64 2] w fun r w' => r = .returned (.func (.func 390) #[] #[.pointer (some ⟨w.heap.size + 1, 0, none⟩), .pointer (some ⟨w.heap.size, 0, none⟩)]) ∧ (w.alloc (.cells #[.int .i64 n] 3)).alloc (.cells #[.int .i64 2] 3) = w' := by
  go_enter Tryz.func308, Tryz.ntmps308
  go_wp2
  go_ret
  exact ⟨by simp, rfl⟩

set_option maxHeartbeats 4000000 in
set_option maxRecDepth 100000 in
theorem digits_goes2 (f : Nat) (hf : 2 ≤ f) (B1 B2 : Nat) (n : Nat) (hn : n < 65536) (S : Nat → Prop) (w : World) (hc1 : w.cell? ⟨B1, 0, none⟩ = some (.int .i64 2)) (hc2 : w.cell? ⟨B2, 0, none⟩ = some (.int .i64 n)) (hS2 : S B2) :
    SeqV Fence.wide f Tryz.prog 390 #[.pointer (some ⟨B1, 0, none⟩), .pointer (some ⟨B2, 0, none⟩)] encB (KpS S) (fun _ _ _ => True) (fun xs => xs = nums (beL 2 n)) 2 w := fun lp J W hW hJ hY h0' => by
  have hc1' := (hW.cell (p := ⟨B1, 0, none⟩) (World.block_lt_of_cell? w _ hc1)).trans hc1
  have C2 := Lib.hid ((hW.cell (p := ⟨B2, 0, none⟩) (World.block_lt_of_cell? w _ hc2)).trans hc2)
  have HY := Lib.hid hY
  have hn1 : 1 ≤ f := by omega
  rw [nums_be2 n hn]
  clear hc1 hc2 hY
  refine callsIn_of_wp Tryz.func390 rfl trivial ?_ rfl
  simp only [Tryz.ntmps390, List.size_toArray, List.length_cons, List.length_nil, Nat.reduceAdd, Nat.reduceSub, Array.replicate_succ, Array.replicate_zero, List.push_toArray, List.append_toArray, List.nil_append, List.cons_append]
  gi_wp2_with fail
  gi_loopw [4] (fun i wr => ∃ (j : Nat), i = .int .i64 (1 - (j : Int)) ∧ j ≤ 2 ∧ J (([(n : Int) / 256, (n : Int) % 256] : List Int).take j) wr ∧ Hid (KpS S W wr)) (fun i _ => (intOf i + 1).toNat)
  case atStart => exact ⟨0, rfl, by omega, h0', Lib.hid (KpS.of_below (Below.refl _ _))⟩
  case round =>
    obtain ⟨j, rfl, hj, hJs, hkp⟩ := hrel
    have d2 : wr.cell? ⟨B2, 0, none⟩ = some (.int .i64 n) := hkp.out.cell (p := ⟨B2, 0, none⟩) hS2 C2.out
    rcases (show j = 0 ∨ j = 1 ∨ j = 2 by omega) with rfl | rfl | rfl
    · obtain ⟨fn, tmps, assign, body, hy, hR⟩ := HY.out [] ((n : Int) / 256) wr (by simpa using hJs) (by simp) trivial
      dsimp only [encB] at hy
      have HR := Lib.hid hR
      have hx : ((n : Int) / 256) % 256 = (n : Int) / 256 := by omega
      clear hR
      simp only [show (1 : Int) - ((0 : Nat) : Int) = 1 from rfl]
      gi_wp2_with fail
      refine HR.out.mono ?_
      rintro e W3 ⟨rfl, hJ3, hk3⟩
      have L3 := Lib.hid (hkp.out.t hk3)
      clear hk3
      gi_wp2
      go_roundw
      case rel => exact ⟨1, rfl, by omega, by simpa using hJ3, L3⟩
      case measure => simp [intOf]
    · obtain ⟨fn, tmps, assign, body, hy, hR⟩ := HY.out [(n : Int) / 256] ((n : Int) % 256) wr (by simpa using hJs) (by simp) trivial
      dsimp only [encB] at hy
      have HR := Lib.hid hR
      clear hR
      simp only [show (1 : Int) - ((1 : Nat) : Int) = 0 from rfl]
      gi_wp2_with fail
      refine HR.out.mono ?_
      rintro e W3 ⟨rfl, hJ3, hk3⟩
      have L3 := Lib.hid (hkp.out.t hk3)
      clear hk3
      gi_wp2
      go_roundw
      case rel => exact ⟨2, rfl, by omega, by simpa using hJ3, L3⟩
      case measure => simp [intOf]
    · simp only [show (1 : Int) - ((2 : Nat) : Int) = -1 from rfl]
      gi_wp2
      go_end0
      exact ⟨⟨_, rfl⟩, _, rfl, by simpa using hJs⟩

theorem nums_be4 (n : Nat) (hn : n < 4294967296) : nums (beL 4 n) = [(n : Int) / 16777216, (n : Int) / 65536 % 256, (n : Int) / 256 % 256, (n : Int) % 256] := by
  simp [nums, beL]
  try omega
theorem beright_4 (w : World) : Calls Tryz.prog 317 #[.int .i64 4] w fun r w' => r = .returned (.bool true) ∧ w = w' := by
  go_enter Tryz.func317, Tryz.ntmps317
  go_wp2
  go_ret
  exact ⟨rfl, rfl⟩
theorem befits_4 (n : Int) (h0 : 0 ≤ n) (hn : n < 4294967296) (w : World) : Calls Tryz.prog 231 #[.int .i64 n, .int .i64 4] w fun r w' => r = .returned (.bool true) ∧ w = w' := by
  have hs : (n / 4294967296 == 0) = true := by rw [show n / 4294967296 = 0 by omega]; rfl
  go_enter Tryz.func231, Tryz.ntmps231
  go_wp2_with (go_at_call 317; refine (beright_4 _).mono ?_; rintro r w' ⟨rfl, rfl⟩)
  go_ret
  exact ⟨rfl, rfl⟩
theorem digits_any4 (n : Int) (w : World) : Calls Tryz.prog 308 #[.int .i64 n, .int .i64 4] w fun r w' => r = .returned (.func (.func 390) #[] #[.pointer (some ⟨w.heap.size + 1, 0, none⟩), .pointer (some ⟨w.heap.size, 0, none⟩)]) ∧ (w.alloc (.cells #[.int .i64 n] 3)).alloc (.cells #[.int .i64 4] 3) = w' := by
  go_enter Tryz.func308, Tryz.ntmps308
  go_wp2
  go_ret
  exact ⟨by simp, rfl⟩

set_option maxHeartbeats 4000000 in
set_option maxRecDepth 100000 in
theorem digits_goes4 (f : Nat) (hf : 2 ≤ f) (B1 B2 : Nat) (n : Nat) (hn : n < 4294967296) (S : Nat → Prop) (w : World) (hc1 : w.cell? ⟨B1, 0, none⟩ = some (.int .i64 4)) (hc2 : w.cell? ⟨B2, 0, none⟩ = some (.int .i64 n)) (hS2 : S B2) :
    SeqV Fence.wide f Tryz.prog 390 #[.pointer (some ⟨B1, 0, none⟩), .pointer (some ⟨B2, 0, none⟩)] encB (KpS S) (fun _ _ _ => True) (fun xs => xs = nums (beL 4 n)) 4 w := fun lp J W hW hJ hY h0' => by
  have hc1' := (hW.cell (p := ⟨B1, 0, none⟩) (World.block_lt_of_cell? w _ hc1)).trans hc1
  have C2 := Lib.hid ((hW.cell (p := ⟨B2, 0, none⟩) (World.block_lt_of_cell? w _ hc2)).trans hc2)
  have HY := Lib.hid hY
  have hn1 : 1 ≤ f := by omega
  rw [nums_be4 n hn]
  clear hc1 hc2 hY
  refine callsIn_of_wp Tryz.func390 rfl trivial ?_ rfl
  simp only [Tryz.ntmps390, List.size_toArray, List.length_cons, List.length_nil, Nat.reduceAdd, Nat.reduceSub, Array.replicate_succ, Array.replicate_zero, List.push_toArray, List.append_toArray, List.nil_append, List.cons_append]
  gi_wp2_with fail
  gi_loopw [4] (fun i wr => ∃ (j : Nat), i = .int .i64 (3 - (j : Int)) ∧ j ≤ 4 ∧ J (([(n : Int) / 16777216, (n : Int) / 65536 % 256, (n : Int) / 256 % 256, (n : Int) % 256] : List Int).take j) wr ∧ Hid (KpS S W wr)) (fun i _ => (intOf i + 1).toNat)
  case atStart => exact ⟨0, rfl, by omega, h0', Lib.hid (KpS.of_below (Below.refl _ _))⟩
  case round =>
    obtain ⟨j, rfl, hj, hJs, hkp⟩ := hrel
    have d2 : wr.cell? ⟨B2, 0, none⟩ = some (.int .i64 n) := hkp.out.cell (p := ⟨B2, 0, none⟩) hS2 C2.out
    rcases (show j = 0 ∨ j = 1 ∨ j = 2 ∨ j = 3 ∨ j = 4 by omega) with rfl | rfl | rfl | rfl | rfl
    · obtain ⟨fn, tmps, assign, body, hy, hR⟩ := HY.out [] ((n : Int) / 16777216) wr (by simpa using hJs) (by simp) trivial
      dsimp only [encB] at hy
      have HR := Lib.hid hR
      have hx : ((n : Int) / 16777216) % 256 = (n : Int) / 16777216 := by omega
      clear hR
      simp only [show (3 : Int) - ((0 : Nat) : Int) = 3 from rfl]
      gi_wp2_with fail
      refine HR.out.mono ?_
      rintro e W3 ⟨rfl, hJ3, hk3⟩
      have L3 := Lib.hid (hkp.out.t hk3)
      clear hk3
      gi_wp2
      go_roundw
      case rel => exact ⟨1, rfl, by omega, by simpa using hJ3, L3⟩
      case measure => simp [intOf]
    · obtain ⟨fn, tmps, assign, body, hy, hR⟩ := HY.out [(n : Int) / 16777216] ((n : Int) / 65536 % 256) wr (by simpa using hJs) (by simp) trivial
      dsimp only [encB] at hy
      have HR := Lib.hid hR
      clear hR
      simp only [show (3 : Int) - ((1 : Nat) : Int) = 2 from rfl]
      gi_wp2_with fail
      refine HR.out.mono ?_
      rintro e W3 ⟨rfl, hJ3, hk3⟩
      have L3 := Lib.hid (hkp.out.t hk3)
      clear hk3
      gi_wp2
      go_roundw
      case rel => exact ⟨2, rfl, by omega, by simpa using hJ3, L3⟩
      case measure => simp [intOf]
    · obtain ⟨fn, tmps, assign, body, hy, hR⟩ := HY.out [(n : Int) / 16777216, (n : Int) / 65536 % 256] ((n : Int) / 256 % 256) wr (by simpa using hJs) (by simp) trivial
      dsimp only [encB] at hy
      have HR := Lib.hid hR
      clear hR
      simp only [show (3 : Int) - ((2 : Nat) : Int) = 1 from rfl]
      gi_wp2_with fail
      refine HR.out.mono ?_
      rintro e W3 ⟨rfl, hJ3, hk3⟩
      have L3 := Lib.hid (hkp.out.t hk3)
      clear hk3
      gi_wp2
      go_roundw
      case rel => exact ⟨3, rfl, by omega, by simpa using hJ3, L3⟩
      case measure => simp [intOf]
    · obtain ⟨fn, tmps, assign, body, hy, hR⟩ := HY.out [(n : Int) / 16777216, (n : Int) / 65536 % 256, (n : Int) / 256 % 256] ((n : Int) % 256) wr (by simpa using hJs) (by simp) trivial
      dsimp only [encB] at hy
      have HR := Lib.hid hR
      clear hR
      simp only [show (3 : Int) - ((3 : Nat) : Int) = 0 from rfl]
      gi_wp2_with fail
      refine HR.out.mono ?_
      rintro e W3 ⟨rfl, hJ3, hk3⟩
      have L3 := Lib.hid (hkp.out.t hk3)
      clear hk3
      gi_wp2
      go_roundw
      case rel => exact ⟨4, rfl, by omega, by simpa using hJ3, L3⟩
      case measure => simp [intOf]
    · simp only [show (3 : Int) - ((4 : Nat) : Int) = -1 from rfl]
      gi_wp2
      go_end0
      exact ⟨⟨_, rfl⟩, _, rfl, by simpa using hJs⟩

set_option maxRecDepth 100000 in
set_option maxHeartbeats 4000000 in
theorem bseq_any (b0 B1 B2 k : Nat) (v : Value) (xs : List Int) (n : Int) (L : List Int) (N : Nat) (hL : L.length = N) (hN4 : N ≤ 4) (w : World)
    (SQ : ∀ W : World, W.cell? ⟨B1, 0, none⟩ = some (.int .i64 N) → W.cell? ⟨B2, 0, none⟩ = some (.int .i64 n) → SeqV Fence.wide 5 Tryz.prog 390 #[.pointer (some ⟨B1, 0, none⟩), .pointer (some ⟨B2, 0, none⟩)] encB (KpS fun i => i = B2) (fun _ _ _ => True) (fun xs => xs = L) N W) (hown : w.ownsRow b0 5 1 v k (xs.map (Value.int .u8))) (hb0 : b0 ≤ w.heap.size) (hk : k ≤ 1099511627776)
    (hc1 : w.cell? ⟨B1, 0, none⟩ = some (.int .i64 N)) (hc2 : Blk w B2 3 #[.int .i64 n]) :
    Calls Tryz.prog 307 #[v, .func (.func 390) #[] #[.pointer (some ⟨B1, 0, none⟩), .pointer (some ⟨B2, 0, none⟩)]] w fun e w' => ∃ v', e = .returned v' ∧ w'.ownsRow b0 5 1 v' (k + N) ((xs ++ L).map (Value.int .u8)) ∧ Below b0 w w' := by
  have hB1 := World.block_lt_of_cell? w _ hc1
  have hB2 := hc2.lt
  obtain ⟨A0, c0, rfl, _⟩ := own_breads hown
  have hbt : Below w.heap.size w (w.alloc (.cells #[.slice A0 k c0] 22)) := (Below.refl _ _).alloc (Nat.le_refl _) _
  refine (callsIn_wide (n := 6)).1 ?_
  refine callsIn_of_wp_marks Tryz.func307 rfl trivial ?_ rfl
  simp only [Tryz.ntmps307, List.size_toArray, List.length_cons, List.length_nil, Nat.reduceAdd, Nat.reduceSub, Array.replicate_succ, Array.replicate_zero, List.push_toArray, List.append_toArray, List.nil_append, List.cons_append]
  have st : BSt w b0 w.heap.size B2 k n xs (w.alloc (.cells #[.slice A0 k c0] 22)) := ⟨⟨_, Blk.new _ _ _, hown.alloc _⟩, hc2.alloc _, hbt.mono hb0⟩
  have SEQ := SQ (w.alloc (.cells #[.slice A0 k c0] 22))
    ((hbt.cell (p := ⟨B1, 0, none⟩) hB1).trans hc1) ((hc2.alloc _).cell 0)
  have hxk : xs.length = k := by have := hown.1; simpa using this
  clear hc1 hown SQ
  gi_wp2_with fail
  generalize hW0 : w.alloc (.cells #[.slice A0 k c0] 22) = W0 at *
  have hw0 : w.heap.size + 1 = W0.heap.size := by rw [← hW0]; simp
  refine range_v (fun a _ x => { tmps := (a.tmps.setIfInBounds 7 (.int .u8 x)).setIfInBounds 5 (.int .u8 x), defers := [] }) (fun _ _ _ _ => True)
    rfl (by omega) (gf := 390) (lb := #[.pointer (some ⟨B1, 0, none⟩), .pointer (some ⟨B2, 0, none⟩)]) rfl trivial (enters_of Tryz.func390 (by kernel_rfl) rfl)
    SEQ (fun h1 h2 => h1.t h2) (fun h => KpS.of_below h) (fun W l o o' hl _ _ => KpS.put (b0 := w.heap.size) (fun i h => by omega) W l o' (by omega)) (fun _ => rfl)
    (fun pre W => BSt w b0 w.heap.size B2 (k + pre.length) n (xs ++ pre) W) ?own ?ownV ?ownU (by simpa using st) ?assign ?body ?done
  case own => exact fun pre W W' row hs hg hr => hs.kept (by omega) hb0 hg hr
  case ownV => exact fun pre x _ W W' row hs hg hr => trivial
  case ownU => exact fun _ b x _ W W' row hs hg hr => trivial
  case assign =>
    intro l pre x W K _ hlt hK
    gi_wp2
    exact hK 0 W (Below.refl _ _) trivial
  case body =>
    rintro l bl pre x W sW hlen _ _
    simp only [List.setIfInBounds_toArray, List.set_cons_succ, List.set_cons_zero]
    obtain ⟨v, k1, o1⟩ := sW.out
    obtain ⟨A3, c3, rfl, _⟩ := own_breads o1
    have c1 := k1.cell 0
    have f1 := k1.frozen 0
    have hbW : Below W.heap.size W (W.alloc (.cells #[.int .u8 x] 5)) := (Below.refl _ _).alloc (Nat.le_refl _) _
    have hwW : b0 ≤ W.heap.size := Nat.le_trans hb0 sW.bel.size
    obtain ⟨q, hq⟩ : ∃ q, k + pre.length = q := ⟨_, rfl⟩
    rw [hq] at o1 k1 c1
    have hqm : q ≤ 1099511627780 := by omega
    have SW := Lib.hid sW
    have K1 := Lib.hid k1
    have O1 := Lib.hid o1
    clear SEQ st sW k1 o1
    obtain ⟨i0, hi0, hz0, hz1, hz2⟩ := info_parts byte_info
    gi_wp2_with (gi_at_builtin
                 refine wpListIn_append_any _ rfl (.tmp 8) (.tmp 10) _ rfl b0 5 i0 _ 1 1 Tryz.underlying22 hi0 hz0 hz1 hz2 rfl (by omega) (.slice A3 q c3) q ((xs ++ pre).map (Value.int .u8)) rfl
                   (O1.out.alloc _) (W.heap.size + 1) (some ⟨W.heap.size, 0, none⟩) 1 1 [.int .u8 x] rfl (reads_one _ _ _) (by simp [Value.oneCell']) (by simp only [maxLen]; omega) (by omega) (by simp; omega) ?_
                 intro v1 w1 own1 grow1
                 have own1' : w1.ownsRow b0 5 1 v1 (q + 1) ((xs ++ (pre ++ [x])).map (Value.int .u8)) := by simpa using own1
                 obtain ⟨A4, c4, rfl, _⟩ := own_breads own1'
                 obtain ⟨k1', k2', o2', ko2, bb2⟩ := box_app hbW K1.out (by decide) O1.out hwW hb0 own1' grow1
                 have c2' := k1'.cell 0
                 have f2' := k1'.frozen 0
                 have num2 := ((SW.out.num.on hbW).grown grow1 (owns_ne (owns_below O1.out hbW) (SW.out.num.on hbW) (by decide))).far (p := ⟨w.heap.size, 0, none⟩) (by simp only; omega) (.slice A4 (q + 1) c4)
                 have K2 := Lib.hid k2'
                 have O2 := Lib.hid o2'
                 have KO2 := Lib.hid ko2
                 have BB2 := Lib.hid bb2
                 have N2 := Lib.hid num2
                 clear own1 own1' grow1 k1' k2' o2' ko2 bb2 num2)
    refine ⟨KO2.out, fun i hi _ => ?_, ⟨⟨_, K2.out, ?_⟩, N2.out, SW.out.bel.trans BB2.out⟩⟩
    · subst hi
      exact N2.out.trans SW.out.num.symm
    · rw [List.length_append, ← Nat.add_assoc, hq]
      exact O2.out
  case done =>
    rintro D ps W hD hps sW hK
    subst hps
    rw [hL] at sW
    obtain ⟨v, k1, o1⟩ := sW.out
    have c1 := k1.cell 0
    clear SEQ st
    gi_wp2
    refine ⟨by simp, .inl ⟨_, _, rfl, run_takeDeferred hK, ?_⟩⟩
    refine ⟨v, ?_, ⟨v, rfl, ?_, ?_⟩⟩
    · simp [results, Tryz.f307, go_sem]
    · exact owns_kept o1 (grownBy_putObj' _ D (.deferred none)) (fun r e => by cases e; exact ⟨_, hK, rfl⟩)
    · exact sW.bel.trans ((belowK_b (w := w) (Nat.le_refl _) _ D _ _ (by omega) hK rfl rfl).mono hb0)


set_option maxHeartbeats 2000000 in
theorem put_1 (A : Option Addr) (k c : Nat) (xs : List UInt8) (n : Nat) (hn : n < 256) (w : World) (h : BReads w A k (nums xs)) (hk : k ≤ 1099511627776) :
    Calls Tryz.prog 222 #[.slice A k c, .int .i64 n, .int .i64 1] w fun r w' => ∃ v, r = .returned v ∧ w'.ownsRow w.heap.size 5 1 v (k + 1) ((nums (xs ++ beL 1 n)).map (Value.int .u8)) ∧ Below w.heap.size w w' := by
  rw [nums_append]
  obtain ⟨ys, hys⟩ : ∃ ys, nums xs = ys := ⟨_, rfl⟩
  rw [hys] at h ⊢
  clear hys
  have H := Lib.hid h
  have hlb : (nums (beL 1 n)).length = 1 := by rw [nums_length, beL_len]
  obtain ⟨LB, hLB⟩ : ∃ LB, nums (beL 1 n) = LB := ⟨_, rfl⟩
  have SQ := fun B1 B2 W h1 h2 => digits_goes1 5 (by omega) B1 B2 n hn (fun i => i = B2) W h1 h2 rfl
  rw [hLB] at hlb SQ ⊢
  have hSQ := Lib.hid SQ
  clear h SQ hLB
  go_enter Tryz.func222, Tryz.ntmps222
  go_wp2_with fail
  refine (clone_own A k c ys _ H.out hk).mono ?_
  rintro r w1 ⟨v1, rfl, own1, bel1⟩
  obtain ⟨A1, c1, rfl, _⟩ := own_breads own1
  have OWN1 := Lib.hid own1
  have BEL1 := Lib.hid bel1
  clear own1 bel1 H
  go_wp2_with (go_at_call 231; refine (befits_1 n (by omega) (by omega) _).mono ?_; rintro r w' ⟨rfl, rfl⟩)
  refine (digits_any1 n _).mono ?_
  rintro r w2 ⟨rfl, hw2⟩
  have hb2 : Below w1.heap.size w1 w2 := by rw [← hw2]; exact ((Below.refl _ _).alloc (Nat.le_refl _) _).alloc (by simp) _
  have hk2 : Blk w2 w1.heap.size 3 #[.int .i64 n] := by rw [← hw2]; exact (Blk.new w1 3 #[.int .i64 n]).alloc _
  have hc1 : w2.cell? ⟨w1.heap.size + 1, 0, none⟩ = some (.int .i64 1) := by
    rw [← hw2]
    have := (Blk.new (w1.alloc (.cells #[.int .i64 n] 3)) 3 #[.int .i64 1]).cell 0
    simp only [World.size_alloc] at this
    exact this
  have hs1 := BEL1.out.size
  have hs2 := hb2.size
  have OWN2 := Lib.hid (owns_below OWN1.out hb2)
  have BEL2 := Lib.hid (BEL1.out.trans (hb2.mono hs1))
  have HC1 := Lib.hid hc1
  have HK2 := Lib.hid hk2
  clear hw2 hb2 hk2 hc1
  go_wp2_with fail
  refine (bseq_any w.heap.size (w1.heap.size + 1) w1.heap.size k (.slice A1 k c1) ys n LB 1 hlb (by omega) _ (fun W h1 h2 => hSQ.out _ _ W h1 h2) OWN2.out (by omega) hk HC1.out HK2.out).mono ?_
  rintro r w3 ⟨v3, rfl, own3, bel3⟩
  go_wp2
  go_ret
  exact ⟨v3, rfl, own3, BEL2.out.trans bel3⟩

set_option maxHeartbeats 2000000 in
theorem put_2 (A : Option Addr) (k c : Nat) (xs : List UInt8) (n : Nat) (hn : n < 65536) (w : World) (h : BReads w A k (nums xs)) (hk : k ≤ 1099511627776) :
    Calls Tryz.prog 222 #[.slice A k c, .int .i64 n, .int .i64 2] w fun r w' => ∃ v, r = .returned v ∧ w'.ownsRow w.heap.size 5 1 v (k + 2) ((nums (xs ++ beL 2 n)).map (Value.int .u8)) ∧ Below w.heap.size w w' := by
  rw [nums_append]
  obtain ⟨ys, hys⟩ : ∃ ys, nums xs = ys := ⟨_, rfl⟩
  rw [hys] at h ⊢
  clear hys
  have H := Lib.hid h
  have hlb : (nums (beL 2 n)).length = 2 := by rw [nums_length, beL_len]
  obtain ⟨LB, hLB⟩ : ∃ LB, nums (beL 2 n) = LB := ⟨_, rfl⟩
  have SQ := fun B1 B2 W h1 h2 => digits_goes2 5 (by omega) B1 B2 n hn (fun i => i = B2) W h1 h2 rfl
  rw [hLB] at hlb SQ ⊢
  have hSQ := Lib.hid SQ
  clear h SQ hLB
  go_enter Tryz.func222, Tryz.ntmps222
  go_wp2_with fail
  refine (clone_own A k c ys _ H.out hk).mono ?_
  rintro r w1 ⟨v1, rfl, own1, bel1⟩
  obtain ⟨A1, c1, rfl, _⟩ := own_breads own1
  have OWN1 := Lib.hid own1
  have BEL1 := Lib.hid bel1
  clear own1 bel1 H
  go_wp2_with (go_at_call 231; refine (befits_2 n (by omega) (by omega) _).mono ?_; rintro r w' ⟨rfl, rfl⟩)
  refine (digits_any2 n _).mono ?_
  rintro r w2 ⟨rfl, hw2⟩
  have hb2 : Below w1.heap.size w1 w2 := by rw [← hw2]; exact ((Below.refl _ _).alloc (Nat.le_refl _) _).alloc (by simp) _
  have hk2 : Blk w2 w1.heap.size 3 #[.int .i64 n] := by rw [← hw2]; exact (Blk.new w1 3 #[.int .i64 n]).alloc _
  have hc1 : w2.cell? ⟨w1.heap.size + 1, 0, none⟩ = some (.int .i64 2) := by
    rw [← hw2]
    have := (Blk.new (w1.alloc (.cells #[.int .i64 n] 3)) 3 #[.int .i64 2]).cell 0
    simp only [World.size_alloc] at this
    exact this
  have hs1 := BEL1.out.size
  have hs2 := hb2.size
  have OWN2 := Lib.hid (owns_below OWN1.out hb2)
  have BEL2 := Lib.hid (BEL1.out.trans (hb2.mono hs1))
  have HC1 := Lib.hid hc1
  have HK2 := Lib.hid hk2
  clear hw2 hb2 hk2 hc1
  go_wp2_with fail
  refine (bseq_any w.heap.size (w1.heap.size + 1) w1.heap.size k (.slice A1 k c1) ys n LB 2 hlb (by omega) _ (fun W h1 h2 => hSQ.out _ _ W h1 h2) OWN2.out (by omega) hk HC1.out HK2.out).mono ?_
  rintro r w3 ⟨v3, rfl, own3, bel3⟩
  go_wp2
  go_ret
  exact ⟨v3, rfl, own3, BEL2.out.trans bel3⟩

set_option maxHeartbeats 2000000 in
theorem put_4 (A : Option Addr) (k c : Nat) (xs : List UInt8) (n : Nat) (hn : n < 4294967296) (w : World) (h : BReads w A k (nums xs)) (hk : k ≤ 1099511627776) :
    Calls Tryz.prog 222 #[.slice A k c, .int .i64 n, .int .i64 4] w fun r w' => ∃ v, r = .returned v ∧ w'.ownsRow w.heap.size 5 1 v (k + 4) ((nums (xs ++ beL 4 n)).map (Value.int .u8)) ∧ Below w.heap.size w w' := by
  rw [nums_append]
  obtain ⟨ys, hys⟩ : ∃ ys, nums xs = ys := ⟨_, rfl⟩
  rw [hys] at h ⊢
  clear hys
  have H := Lib.hid h
  have hlb : (nums (beL 4 n)).length = 4 := by rw [nums_length, beL_len]
  obtain ⟨LB, hLB⟩ : ∃ LB, nums (beL 4 n) = LB := ⟨_, rfl⟩
  have SQ := fun B1 B2 W h1 h2 => digits_goes4 5 (by omega) B1 B2 n hn (fun i => i = B2) W h1 h2 rfl
  rw [hLB] at hlb SQ ⊢
  have hSQ := Lib.hid SQ
  clear h SQ hLB
  go_enter Tryz.func222, Tryz.ntmps222
  go_wp2_with fail
  refine (clone_own A k c ys _ H.out hk).mono ?_
  rintro r w1 ⟨v1, rfl, own1, bel1⟩
  obtain ⟨A1, c1, rfl, _⟩ := own_breads own1
  have OWN1 := Lib.hid own1
  have BEL1 := Lib.hid bel1
  clear own1 bel1 H
  go_wp2_with (go_at_call 231; refine (befits_4 n (by omega) (by omega) _).mono ?_; rintro r w' ⟨rfl, rfl⟩)
  refine (digits_any4 n _).mono ?_
  rintro r w2 ⟨rfl, hw2⟩
  have hb2 : Below w1.heap.size w1 w2 := by rw [← hw2]; exact ((Below.refl _ _).alloc (Nat.le_refl _) _).alloc (by simp) _
  have hk2 : Blk w2 w1.heap.size 3 #[.int .i64 n] := by rw [← hw2]; exact (Blk.new w1 3 #[.int .i64 n]).alloc _
  have hc1 : w2.cell? ⟨w1.heap.size + 1, 0, none⟩ = some (.int .i64 4) := by
    rw [← hw2]
    have := (Blk.new (w1.alloc (.cells #[.int .i64 n] 3)) 3 #[.int .i64 4]).cell 0
    simp only [World.size_alloc] at this
    exact this
  have hs1 := BEL1.out.size
  have hs2 := hb2.size
  have OWN2 := Lib.hid (owns_below OWN1.out hb2)
  have BEL2 := Lib.hid (BEL1.out.trans (hb2.mono hs1))
  have HC1 := Lib.hid hc1
  have HK2 := Lib.hid hk2
  clear hw2 hb2 hk2 hc1
  go_wp2_with fail
  refine (bseq_any w.heap.size (w1.heap.size + 1) w1.heap.size k (.slice A1 k c1) ys n LB 4 hlb (by omega) _ (fun W h1 h2 => hSQ.out _ _ W h1 h2) OWN2.out (by omega) hk HC1.out HK2.out).mono ?_
  rintro r w3 ⟨v3, rfl, own3, bel3⟩
  go_wp2
  go_ret
  exact ⟨v3, rfl, own3, BEL2.out.trans bel3⟩
end Go.Proofs.YtampcckdbjbllaaGreatDoor
set_option linter.unusedSimpArgs false
namespace Go.Proofs.YtampcckdbjbllaaGreatDoor
open Go.RowKit Go.Shelf
attribute [local go_sem] Oper.semAt_some

set_option maxRecDepth 100000 in
theorem or_byte4 (a b : Nat) (ha : a < 16777216) (hb : b < 256) : bits .or .i64 ((a : Int) * 256) (b : Int) = (a : Int) * 256 + b := by
  have hj : (a * 256) ||| b = a * 256 + b := nat_join 8 (a * 256) b (by omega) (by omega)
  have := or_i64 (a * 256) b (by omega) (by omega) (by rw [hj]; omega)
  rw [hj] at this
  have e1 : ((a * 256 : Nat) : Int) = (a : Int) * 256 := by omega
  have e2 : ((a * 256 + b : Nat) : Int) = (a : Int) * 256 + b := by omega
  rw [e1, e2] at this
  exact this
theorem take_one {d l : List UInt8} {a k : Nat} {r : List UInt8} (h : d.drop a = l ++ r) (hk : l.length = k) : (d.drop a).take k = l := by rw [h, ← hk]; simp
theorem at_of {d l : List UInt8} {a k j : Nat} (h : (d.drop a).take k = l) (hj : j < l.length) : d[a + j]? = l[j]? := by
  rw [← h, List.getElem?_take_of_lt, List.getElem?_drop]
  have : l.length ≤ k := by rw [← h]; simp; omega
  omega
theorem set_split (d : List Int) (a : Nat) (x y : Int) (h : a + 2 ≤ d.length) : (d.set a x).set (a + 1) y = d.take a ++ [x, y] ++ d.drop (a + 2) := by
  apply List.ext_getElem?
  intro i
  rw [List.getElem?_set, List.getElem?_set]
  simp only [List.length_set, List.append_assoc]
  rcases Nat.lt_or_ge i a with h1 | h1
  · rw [List.getElem?_append_left (by simp; omega), List.getElem?_take_of_lt h1, if_neg (by omega), if_neg (by omega)]
  · rw [List.getElem?_append_right (by simp; omega)]
    simp only [List.length_take, Nat.min_eq_left (show a ≤ d.length by omega)]
    rcases (show i = a ∨ i = a + 1 ∨ a + 2 ≤ i by omega) with rfl | rfl | h2
    · rw [if_neg (by omega), if_pos rfl, if_pos (by omega)]; simp
    · rw [if_pos rfl, if_pos (by omega)]; simp
    · rw [if_neg (by omega), if_neg (by omega), List.getElem?_append_right (by simp; omega), List.getElem?_drop]
      simp
      congr 1
      omega
/-- A cell of a row that the call owns, stored. -/
theorem owns_set {w : World} {base e g n cap k : Nat} {xs : List Value} (h : w.ownsRow base e 1 (.slice (some ⟨g, 0, none⟩) n cap) n xs) (u : Value) : (w.setCell ⟨g, k, none⟩ u).ownsRow base e 1 (.slice (some ⟨g, 0, none⟩) n cap) n (xs.set k u) := by
  obtain ⟨hl, h2⟩ := h
  refine ⟨by simpa using hl, .inr ?_⟩
  rcases h2 with ⟨h0, _⟩ | ⟨g', cap', cur, hv, hb, hh, hn, hc, hs, ht⟩
  · cases h0
  · injection hv with e1 e2 e3
    injection e1 with e1
    injection e1 with e1
    subst e1; subst e3
    refine ⟨g, cap, cur.setIfInBounds k u, rfl, hb, ?_, hn, hc, by simpa using hs, ?_⟩
    · have hlt := (Array.getElem?_eq_some_iff.1 hh).1
      unfold World.setCell
      simp only [Array.getElem?_modify, if_true, hh, Option.map_some]
      rfl
    · rw [← ht]
      simp only [Array.toList_setIfInBounds, Nat.mul_one]
      exact List.take_set

/-- A cell of a row that the call owns. -/
theorem owns_cell {w : World} {base e g n cap k : Nat} {xs : List Value} (h : w.ownsRow base e 1 (.slice (some ⟨g, 0, none⟩) n cap) n xs) (hk : k < n) : w.cell? ⟨g, k, none⟩ = xs[k]? ∧ w.frozen? ⟨g, k, none⟩ = false := by
  obtain ⟨hl, h2⟩ := h
  rcases h2 with ⟨h0, _⟩ | ⟨g', cap', cur, hv, hb, hh, hn, hc, hs, ht⟩
  · cases h0
  · injection hv with e1 e2 e3
    injection e1 with e1
    injection e1 with e1
    subst e1
    refine ⟨?_, ?_⟩
    · unfold World.cell?
      simp only [hh]
      rw [← ht, List.getElem?_take_of_lt (by omega)]
      simp
    · unfold World.frozen?
      simp only [hh]
      simp

/-- A piece of a slice of bytes. -/
theorem BReads.piece {w : World} {A : Option Addr} {n : Nat} {xs : List Int} {cap : Nat} (h : BReads w A n xs) (hc : n ≤ cap) (k m : Nat) (hk : k + m ≤ n) (hm : 0 < m) : BReads w (A.map (·.add k)) m ((xs.drop k).take m) := by
  have h1 := (h.1.cut (k := k) (cap := cap) (by omega) hc).take (k := m) (by omega)
  rw [if_neg (by omega), Nat.mul_one] at h1
  refine ⟨by simpa [List.map_take, List.map_drop] using h1, fun e => ?_⟩
  obtain ⟨ad, rfl, _⟩ := h.1.2 (by omega)
  simp at e

theorem win_runs {P : Program} {w : World} {A : Option Addr} {n c : Nat} {xs : List Int} {t e : TypeId} (ht : P.underlying t = some (.slice e)) (hz : (P.info? e).map (·.size) = some 1)
    (h : BReads w A n xs) (hc : n ≤ c) (a k : Nat) (ha : a + k ≤ n) (hk : 0 < k) (K : Int) (hK : K = k) :
    ∃ A', (∀ w' : World, (Instr.slice t (.slice A n c) (some (.int .i64 (a : Int))) (some (.int .i64 ((a : Int) + K))) (some (.int .i64 ((a : Int) + K)))).run P w' = .ok (.slice A' k k) w') ∧ BReads w A' k ((xs.drop a).take k) ∧ A' = A.map (·.add a) := by
  subst hK
  refine ⟨A.map (·.add a), fun w' => ?_, h.piece hc a k ha hk, rfl⟩
  have hel : P.elem t = e := by simp [Program.elem, ht]
  rw [run_slice_lhm w' t A n c (by rw [hel]; exact ht) .i64 .i64 .i64 a ((a : Int) + k) ((a : Int) + k) (by omega) (by omega) (by omega) (by omega), hel]
  obtain ⟨i, hi, hz'⟩ := Option.map_eq_some_iff.1 hz
  have e1 : ((a : Int)).toNat = a := by omega
  have e2 : ((a : Int) + k).toNat = a + k := by omega
  have e3 : a + k - a = k := by omega
  have e4 : c ≠ a := by omega
  have e5 : ¬ k = 0 := by omega
  simp [sizeOf, typeInfo, hi, hz', Result.andThen, sliced, e1, e2, e3, e4, e5]

set_option maxRecDepth 100000 in
set_option maxHeartbeats 2000000 in
theorem window_1 (A : Option Addr) (n c : Nat) (xs : List Int) (w : World) (h : BReads w A n xs) (hc : n ≤ c) (hn : n ≤ 1099511627776) (a : Nat) (ha : a + 1 ≤ n) :
    Calls Tryz.prog 309 #[.slice A n c, .int .i64 a, .int .i64 1] w fun r w' => ∃ A', r = .returned (.tuple #[.slice A' 1 1, .int .i64 0]) ∧ BReads w A' 1 ((xs.drop a).take 1) ∧ A' = A.map (·.add a) ∧ w = w' := by
  obtain ⟨A', hsl, hbr, hA'⟩ := win_runs (P := Tryz.prog) (w := w) (t := 22) (e := 5) Tryz.underlying22 byte_size h hc a 1 ha (by omega) 1 rfl
  have HBR := Lib.hid hbr
  have HA := Lib.hid hA'
  have hd1 : decide ((n : Int) < 1) = false := by simp; omega
  have hd2 : decide ((n : Int) - 1 < (a : Int)) = false := by simp; omega
  clear h hbr hA'
  go_enter Tryz.func309, Tryz.ntmps309
  go_wp2_with (go_at_call 317; refine (beright_1 _).mono ?_; rintro r w' ⟨rfl, rfl⟩)
  go_ret2
  exact ⟨A', rfl, HBR.out, HA.out, rfl⟩

set_option maxRecDepth 100000 in
set_option maxHeartbeats 2000000 in
theorem get_1 (A : Option Addr) (n c : Nat) (d : List UInt8) (w : World) (h : BReads w A n (nums d)) (hc : n ≤ c) (hn : n ≤ 1099511627776) (a : Nat) (l : List UInt8) (hl : (d.drop a).take 1 = l) (hll : l.length = 1) :
    Calls Tryz.prog 252 #[.slice A n c, .int .i64 a, .int .i64 1] w fun r w' => r = .returned (.tuple #[.int .i64 (getB l : Nat), .int .i64 0]) ∧ w = w' := by
  have hdl : d.length = n := by have := h.len; rwa [nums_length] at this
  have hln : a + 1 ≤ n := by
    have := congrArg List.length hl
    simp at this
    omega
  have hxy : ((nums d).drop a).take 1 = nums l := by rw [← hl]; simp [nums]
  obtain ⟨x0, rfl⟩ : ∃ x0, l = [x0] := by
    match l, hll with
    | [x0], _ => exact ⟨x0, rfl⟩
  have hx0 := x0.toNat_lt
  obtain ⟨X0, hX0⟩ : ∃ X, x0.toNat = X := ⟨_, rfl⟩
  have hg : ((getB [x0] : Nat) : Int) = (X0 : Int) := by simp [getB, hX0]
  have hnn : nums [x0] = [(X0 : Int)] := by simp [nums, hX0]
  rw [hX0] at hx0
  rw [hg]
  have H := Lib.hid h
  clear h hl hll hdl hg hX0
  go_enter Tryz.func252, Tryz.ntmps252
  go_wp2_with fail
  refine (window_1 A n c (nums d) _ H.out hc hn a hln).mono ?_
  rintro r w1 ⟨A', rfl, hbr, -, rfl⟩
  rw [hxy, hnn] at hbr
  obtain ⟨ad, u0, rfl, hb0, hu0, hc0⟩ := hbr.1.at_ (k := 0) (by omega)
  obtain rfl : Value.int .u8 (X0 : Int) = u0 := by simpa using hu0
  rw [show ad.add 0 = ad by simp [Addr.add]] at hc0
  clear hbr hu0 hxy hnn H
  go_wp2
  go_loopw [10, 22] (fun v i wr => ∃ (j : Nat), i = .int .i64 j ∧ j ≤ 1 ∧ v = .int .i64 (if j = 0 then 0 else (X0 : Int)) ∧ w = wr) (fun _ i _ => 1 - (intOf i).toNat)
  case atStart => exact ⟨0, rfl, by omega, rfl, rfl⟩
  case round =>
    obtain ⟨j, rfl, hj, rfl, rfl⟩ := hrel
    rcases (show j = 0 ∨ j = 1 by omega) with rfl | rfl
    · simp only [if_true, if_false, Int.ofNat_zero]
      have q := or_zero X0 hx0
      go_wp2
      exact ⟨⟨1, rfl, by omega, rfl, trivial⟩, by simp [intOf]⟩
    · simp only [if_true, if_false, show ¬ (1 : Nat) = 0 by omega]
      try simp only [show ((1 : Nat) : Int) = 1 from rfl]
      go_wp2
      go_ret2
      exact ⟨rfl, rfl⟩

set_option maxRecDepth 100000 in
set_option maxHeartbeats 2000000 in
theorem window_2 (A : Option Addr) (n c : Nat) (xs : List Int) (w : World) (h : BReads w A n xs) (hc : n ≤ c) (hn : n ≤ 1099511627776) (a : Nat) (ha : a + 2 ≤ n) :
    Calls Tryz.prog 309 #[.slice A n c, .int .i64 a, .int .i64 2] w fun r w' => ∃ A', r = .returned (.tuple #[.slice A' 2 2, .int .i64 0]) ∧ BReads w A' 2 ((xs.drop a).take 2) ∧ A' = A.map (·.add a) ∧ w = w' := by
  obtain ⟨A', hsl, hbr, hA'⟩ := win_runs (P := Tryz.prog) (w := w) (t := 22) (e := 5) Tryz.underlying22 byte_size h hc a 2 ha (by omega) 2 rfl
  have HBR := Lib.hid hbr
  have HA := Lib.hid hA'
  have hd1 : decide ((n : Int) < 2) = false := by simp; omega
  have hd2 : decide ((n : Int) - 2 < (a : Int)) = false := by simp; omega
  clear h hbr hA'
  go_enter Tryz.func309, Tryz.ntmps309
  go_wp2_with (go_at_call 317; refine (beright_2 _).mono ?_; rintro r w' ⟨rfl, rfl⟩)
  go_ret2
  exact ⟨A', rfl, HBR.out, HA.out, rfl⟩

set_option maxRecDepth 100000 in
set_option maxHeartbeats 2000000 in
theorem get_2 (A : Option Addr) (n c : Nat) (d : List UInt8) (w : World) (h : BReads w A n (nums d)) (hc : n ≤ c) (hn : n ≤ 1099511627776) (a : Nat) (l : List UInt8) (hl : (d.drop a).take 2 = l) (hll : l.length = 2) :
    Calls Tryz.prog 252 #[.slice A n c, .int .i64 a, .int .i64 2] w fun r w' => r = .returned (.tuple #[.int .i64 (getB l : Nat), .int .i64 0]) ∧ w = w' := by
  have hdl : d.length = n := by have := h.len; rwa [nums_length] at this
  have hln : a + 2 ≤ n := by
    have := congrArg List.length hl
    simp at this
    omega
  have hxy : ((nums d).drop a).take 2 = nums l := by rw [← hl]; simp [nums]
  obtain ⟨x0, x1, rfl⟩ : ∃ x0 x1, l = [x0, x1] := by
    match l, hll with
    | [x0, x1], _ => exact ⟨x0, x1, rfl⟩
  have hx0 := x0.toNat_lt
  obtain ⟨X0, hX0⟩ : ∃ X, x0.toNat = X := ⟨_, rfl⟩
  have hx1 := x1.toNat_lt
  obtain ⟨X1, hX1⟩ : ∃ X, x1.toNat = X := ⟨_, rfl⟩
  have hg : ((getB [x0, x1] : Nat) : Int) = ((X0 : Int) * 256 + X1) := by simp [getB, hX0, hX1]
  have hnn : nums [x0, x1] = [(X0 : Int), (X1 : Int)] := by simp [nums, hX0, hX1]
  rw [hX0] at hx0
  rw [hX1] at hx1
  rw [hg]
  have H := Lib.hid h
  clear h hl hll hdl hg hX0 hX1
  go_enter Tryz.func252, Tryz.ntmps252
  go_wp2_with fail
  refine (window_2 A n c (nums d) _ H.out hc hn a hln).mono ?_
  rintro r w1 ⟨A', rfl, hbr, -, rfl⟩
  rw [hxy, hnn] at hbr
  obtain ⟨ad, u0, rfl, hb0, hu0, hc0⟩ := hbr.1.at_ (k := 0) (by omega)
  obtain rfl : Value.int .u8 (X0 : Int) = u0 := by simpa using hu0
  rw [show ad.add 0 = ad by simp [Addr.add]] at hc0
  obtain ⟨ad', u1, e', hb1, hu1, hc1⟩ := hbr.1.at_ (k := 1) (by omega)
  injection e' with e'
  subst e'
  obtain rfl : Value.int .u8 (X1 : Int) = u1 := by simpa using hu1
  rw [show ad.add 1 = ⟨ad.block, ad.off + 1, none⟩ by simp [Addr.add]] at hc1
  clear hbr hu0 hu1 hxy hnn H
  go_wp2
  go_loopw [10, 22] (fun v i wr => ∃ (j : Nat), i = .int .i64 j ∧ j ≤ 2 ∧ v = .int .i64 (if j = 0 then 0 else if j = 1 then (X0 : Int) else ((X0 : Int) * 256 + X1)) ∧ w = wr) (fun _ i _ => 2 - (intOf i).toNat)
  case atStart => exact ⟨0, rfl, by omega, rfl, rfl⟩
  case round =>
    obtain ⟨j, rfl, hj, rfl, rfl⟩ := hrel
    rcases (show j = 0 ∨ j = 1 ∨ j = 2 by omega) with rfl | rfl | rfl
    · simp only [if_true, if_false, Int.ofNat_zero]
      have q := or_zero X0 hx0
      go_wp2
      exact ⟨⟨1, rfl, by omega, rfl, trivial⟩, by simp [intOf]⟩
    · simp only [if_true, if_false, show ¬ (1 : Nat) = 0 by omega]
      try simp only [show ((1 : Nat) : Int) = 1 from rfl]
      have q := or_byte4 X0 X1 (by omega) hx1
      go_wp2
      exact ⟨⟨2, rfl, by omega, rfl, trivial⟩, by simp [intOf]⟩
    · simp only [if_true, if_false, show ¬ (2 : Nat) = 0 by omega, show ¬ (2 : Nat) = 1 by omega]
      try simp only [show ((2 : Nat) : Int) = 2 from rfl]
      go_wp2
      go_ret2
      exact ⟨rfl, rfl⟩

set_option maxRecDepth 100000 in
set_option maxHeartbeats 2000000 in
theorem window_4 (A : Option Addr) (n c : Nat) (xs : List Int) (w : World) (h : BReads w A n xs) (hc : n ≤ c) (hn : n ≤ 1099511627776) (a : Nat) (ha : a + 4 ≤ n) :
    Calls Tryz.prog 309 #[.slice A n c, .int .i64 a, .int .i64 4] w fun r w' => ∃ A', r = .returned (.tuple #[.slice A' 4 4, .int .i64 0]) ∧ BReads w A' 4 ((xs.drop a).take 4) ∧ A' = A.map (·.add a) ∧ w = w' := by
  obtain ⟨A', hsl, hbr, hA'⟩ := win_runs (P := Tryz.prog) (w := w) (t := 22) (e := 5) Tryz.underlying22 byte_size h hc a 4 ha (by omega) 4 rfl
  have HBR := Lib.hid hbr
  have HA := Lib.hid hA'
  have hd1 : decide ((n : Int) < 4) = false := by simp; omega
  have hd2 : decide ((n : Int) - 4 < (a : Int)) = false := by simp; omega
  clear h hbr hA'
  go_enter Tryz.func309, Tryz.ntmps309
  go_wp2_with (go_at_call 317; refine (beright_4 _).mono ?_; rintro r w' ⟨rfl, rfl⟩)
  go_ret2
  exact ⟨A', rfl, HBR.out, HA.out, rfl⟩

set_option maxRecDepth 100000 in
set_option maxHeartbeats 2000000 in
theorem get_4 (A : Option Addr) (n c : Nat) (d : List UInt8) (w : World) (h : BReads w A n (nums d)) (hc : n ≤ c) (hn : n ≤ 1099511627776) (a : Nat) (l : List UInt8) (hl : (d.drop a).take 4 = l) (hll : l.length = 4) :
    Calls Tryz.prog 252 #[.slice A n c, .int .i64 a, .int .i64 4] w fun r w' => r = .returned (.tuple #[.int .i64 (getB l : Nat), .int .i64 0]) ∧ w = w' := by
  have hdl : d.length = n := by have := h.len; rwa [nums_length] at this
  have hln : a + 4 ≤ n := by
    have := congrArg List.length hl
    simp at this
    omega
  have hxy : ((nums d).drop a).take 4 = nums l := by rw [← hl]; simp [nums]
  obtain ⟨x0, x1, x2, x3, rfl⟩ : ∃ x0 x1 x2 x3, l = [x0, x1, x2, x3] := by
    match l, hll with
    | [x0, x1, x2, x3], _ => exact ⟨x0, x1, x2, x3, rfl⟩
  have hx0 := x0.toNat_lt
  obtain ⟨X0, hX0⟩ : ∃ X, x0.toNat = X := ⟨_, rfl⟩
  have hx1 := x1.toNat_lt
  obtain ⟨X1, hX1⟩ : ∃ X, x1.toNat = X := ⟨_, rfl⟩
  have hx2 := x2.toNat_lt
  obtain ⟨X2, hX2⟩ : ∃ X, x2.toNat = X := ⟨_, rfl⟩
  have hx3 := x3.toNat_lt
  obtain ⟨X3, hX3⟩ : ∃ X, x3.toNat = X := ⟨_, rfl⟩
  have hg : ((getB [x0, x1, x2, x3] : Nat) : Int) = ((((X0 : Int) * 256 + X1) * 256 + X2) * 256 + X3) := by simp [getB, hX0, hX1, hX2, hX3]
  have hnn : nums [x0, x1, x2, x3] = [(X0 : Int), (X1 : Int), (X2 : Int), (X3 : Int)] := by simp [nums, hX0, hX1, hX2, hX3]
  rw [hX0] at hx0
  rw [hX1] at hx1
  rw [hX2] at hx2
  rw [hX3] at hx3
  rw [hg]
  have H := Lib.hid h
  clear h hl hll hdl hg hX0 hX1 hX2 hX3
  go_enter Tryz.func252, Tryz.ntmps252
  go_wp2_with fail
  refine (window_4 A n c (nums d) _ H.out hc hn a hln).mono ?_
  rintro r w1 ⟨A', rfl, hbr, -, rfl⟩
  rw [hxy, hnn] at hbr
  obtain ⟨ad, u0, rfl, hb0, hu0, hc0⟩ := hbr.1.at_ (k := 0) (by omega)
  obtain rfl : Value.int .u8 (X0 : Int) = u0 := by simpa using hu0
  rw [show ad.add 0 = ad by simp [Addr.add]] at hc0
  obtain ⟨ad', u1, e', hb1, hu1, hc1⟩ := hbr.1.at_ (k := 1) (by omega)
  injection e' with e'
  subst e'
  obtain rfl : Value.int .u8 (X1 : Int) = u1 := by simpa using hu1
  rw [show ad.add 1 = ⟨ad.block, ad.off + 1, none⟩ by simp [Addr.add]] at hc1
  obtain ⟨ad', u2, e', hb2, hu2, hc2⟩ := hbr.1.at_ (k := 2) (by omega)
  injection e' with e'
  subst e'
  obtain rfl : Value.int .u8 (X2 : Int) = u2 := by simpa using hu2
  rw [show ad.add 2 = ⟨ad.block, ad.off + 2, none⟩ by simp [Addr.add]] at hc2
  obtain ⟨ad', u3, e', hb3, hu3, hc3⟩ := hbr.1.at_ (k := 3) (by omega)
  injection e' with e'
  subst e'
  obtain rfl : Value.int .u8 (X3 : Int) = u3 := by simpa using hu3
  rw [show ad.add 3 = ⟨ad.block, ad.off + 3, none⟩ by simp [Addr.add]] at hc3
  clear hbr hu0 hu1 hu2 hu3 hxy hnn H
  go_wp2
  go_loopw [10, 22] (fun v i wr => ∃ (j : Nat), i = .int .i64 j ∧ j ≤ 4 ∧ v = .int .i64 (if j = 0 then 0 else if j = 1 then (X0 : Int) else if j = 2 then ((X0 : Int) * 256 + X1) else if j = 3 then (((X0 : Int) * 256 + X1) * 256 + X2) else ((((X0 : Int) * 256 + X1) * 256 + X2) * 256 + X3)) ∧ w = wr) (fun _ i _ => 4 - (intOf i).toNat)
  case atStart => exact ⟨0, rfl, by omega, rfl, rfl⟩
  case round =>
    obtain ⟨j, rfl, hj, rfl, rfl⟩ := hrel
    rcases (show j = 0 ∨ j = 1 ∨ j = 2 ∨ j = 3 ∨ j = 4 by omega) with rfl | rfl | rfl | rfl | rfl
    · simp only [if_true, if_false, Int.ofNat_zero]
      have q := or_zero X0 hx0
      go_wp2
      exact ⟨⟨1, rfl, by omega, rfl, trivial⟩, by simp [intOf]⟩
    · simp only [if_true, if_false, show ¬ (1 : Nat) = 0 by omega]
      try simp only [show ((1 : Nat) : Int) = 1 from rfl]
      have q := or_byte4 X0 X1 (by omega) hx1
      go_wp2
      exact ⟨⟨2, rfl, by omega, rfl, trivial⟩, by simp [intOf]⟩
    · simp only [if_true, if_false, show ¬ (2 : Nat) = 0 by omega, show ¬ (2 : Nat) = 1 by omega]
      try simp only [show ((2 : Nat) : Int) = 2 from rfl]
      have q := or_byte4 (X0 * 256 + X1) X2 (by omega) hx2
      try simp only [Int.natCast_add, Int.natCast_mul, show ((256 : Nat) : Int) = 256 from rfl] at q
      go_wp2
      exact ⟨⟨3, rfl, by omega, rfl, trivial⟩, by simp [intOf]⟩
    · simp only [if_true, if_false, show ¬ (3 : Nat) = 0 by omega, show ¬ (3 : Nat) = 1 by omega, show ¬ (3 : Nat) = 2 by omega]
      try simp only [show ((3 : Nat) : Int) = 3 from rfl]
      have q := or_byte4 ((X0 * 256 + X1) * 256 + X2) X3 (by omega) hx3
      try simp only [Int.natCast_add, Int.natCast_mul, show ((256 : Nat) : Int) = 256 from rfl] at q
      go_wp2
      exact ⟨⟨4, rfl, by omega, rfl, trivial⟩, by simp [intOf]⟩
    · simp only [if_true, if_false, show ¬ (4 : Nat) = 0 by omega, show ¬ (4 : Nat) = 1 by omega, show ¬ (4 : Nat) = 2 by omega, show ¬ (4 : Nat) = 3 by omega]
      try simp only [show ((4 : Nat) : Int) = 4 from rfl]
      go_wp2
      go_ret2
      exact ⟨rfl, rfl⟩
end Go.Proofs.YtampcckdbjbllaaGreatDoor
