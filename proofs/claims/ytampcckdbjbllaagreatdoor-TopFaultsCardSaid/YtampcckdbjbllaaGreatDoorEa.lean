/-
  A run on an abstract heap, and what it tells of the machine: values, heaps, and how they lie in a world. No program in sight.
  Abstract heaps, and how they lie in a world.
  Operations that ask no memory, on values that are the same but for where things lie.
  What an operation does, on abstract values; and that the machine does the same.
  What operations do, on abstract values (2): operations on numbers, addresses, slices, parts.
-/
import Derived.AtR
import Derived.Below
import Derived.RangeFuncIn
import Derived.RangeFuncLeaves
import Derived.Laws.AppendOwn
import Derived.Laws.CopyRow
import Derived.Laws.Cells
import Derived.Laws.Entries
import Derived.ChangeKeysEq
set_option linter.unusedVariables false
set_option linter.unusedSectionVars false
set_option linter.unusedSimpArgs false
set_option linter.unusedVariables false
set_option linter.unusedSectionVars false
namespace Go.Proofs.YtampcckdbjbllaaGreatDoor.Ev

/-- What stands for what isn't known: numbers, and the bytes that stand behind a row. -/
class Sym where
  val : Nat → Value
  isInt : ∀ k, ∃ kd n, val k = .int kd n
  data : List UInt8
  aff : ∀ m, val (4 * m) = .int .i64 ((m + data.length : Nat) : Int)
  few : data.length ≤ 400
  /-- A slice that is given: where it begins, its room, its block, what lies there; and what is read in it. -/
  ga : Option Addr
  gc : Nat
  gr : Nat
  gobj : Obj
  greads : ∀ w : World, w.heap[gr]? = some gobj → ∀ (j : Nat) (d : UInt8), data[j]? = some d → ∃ A, ga = some A ∧ w.cell? (A.add j) = some (.int .u8 (d.toNat : Int))
variable [Sym]
/-- How many bytes stand behind a row. -/
def dlen : Nat := Sym.data.length
def rb (k : Nat) : Nat := k / 2 / 281474976710656
def ro (k : Nat) : Nat := k / 2 / 16777216 % 16777216
def rn (k : Nat) : Nat := k / 2 % 16777216
/-- Where abstract blocks lie: the real block, and how many elements more than the abstract one it holds. -/
def Mp := Nat → Option (Nat × Nat)
def Mp.le (p q : Mp) : Prop := ∀ b x, p b = some x → q b = some x
theorem Mp.le_refl (p : Mp) : p.le p := fun _ _ h => h
theorem Mp.le_trans {p q s : Mp} (h : p.le q) (k : q.le s) : p.le s := fun b x e => k b x (h b x e)
def Mp.set (p : Mp) (b : Nat) (x : Nat × Nat) : Mp := fun b' => if b' = b then some x else p b'
theorem Mp.le_set {p : Mp} {b : Nat} (x : Nat × Nat) (h : p b = none) : p.le (p.set b x) := fun b' y e => by
  unfold Mp.set
  split
  · rename_i e'; subst e'; rw [h] at e; cases e
  · exact e
theorem Mp.set_eq (p : Mp) (b : Nat) (x : Nat × Nat) : p.set b x b = some x := by simp [Mp.set]

/-- How a slice's room is known: at least so much, or (from here on) just so much. -/
def BIG : Nat := 1099511627776
def rcap (c : Nat) : Nat := if Nat.ble BIG c then c - BIG else c
def CapR (x c c' : Nat) : Prop := (c < BIG ∧ c ≤ c' ∧ c' ≤ c + x) ∨ (BIG ≤ c ∧ c' = c - BIG)
theorem rcap_spec (c : Nat) : (c < BIG ∧ rcap c = c) ∨ (BIG ≤ c ∧ rcap c = c - BIG) := by
  unfold rcap
  rcases Nat.lt_or_ge c BIG with h | h
  · left
    have : Nat.ble BIG c = false := by rw [Bool.eq_false_iff]; intro h'; have := Nat.le_of_ble_eq_true h'; omega
    simp [this, h]
  · right
    have : Nat.ble BIG c = true := Nat.ble_eq_true_of_le h
    simp [this, h]
theorem CapR.le {x c c' : Nat} (h : CapR x c c') : rcap c ≤ c' := by
  rcases rcap_spec c with ⟨h1, h2⟩ | ⟨h1, h2⟩ <;> rcases h with ⟨h3, h4, h5⟩ | ⟨h3, h4⟩ <;> omega
theorem CapR.sub {x c c' l : Nat} (h : CapR x c c') (hl : l ≤ rcap c) : CapR x (c - l) (c' - l) := by
  rcases rcap_spec c with ⟨h1, h2⟩ | ⟨h1, h2⟩ <;> rcases h with ⟨h3, h4, h5⟩ | ⟨h3, h4⟩
  · exact .inl ⟨by omega, by omega, by omega⟩
  · omega
  · omega
  · exact .inr ⟨by omega, by omega⟩
theorem CapR.just (x c : Nat) : CapR x (c + BIG) c := .inr ⟨by omega, by omega⟩
theorem CapR.nat {c : Nat} (h : c < BIG) : CapR 0 c c := .inl ⟨h, Nat.le_refl _, Nat.le_refl _⟩
/-- A slice of a row's end and of the bytes behind it. -/
def RopeAt (p : Mp) (b off n : Nat) (A : Option Addr) (c' : Nat) : Prop := n + dlen = 0 ∨ ∃ r x, p b = some (r, x) ∧ A = some ⟨r, off, none⟩ ∧ n + dlen ≤ c' ∧ c' ≤ n + x
theorem RopeAt.mono {p q : Mp} (hl : p.le q) {b off n : Nat} {A : Option Addr} {c' : Nat} (h : RopeAt p b off n A c') : RopeAt q b off n A c' := by
  rcases h with h | ⟨r, x, h1, h2⟩
  · exact .inl h
  · exact .inr ⟨r, x, hl _ _ h1, h2⟩
/-- Values that are the same but for where things lie. -/
inductive VR (p : Mp) : Value → Value → Prop
  | bool (b) : VR p (.bool b) (.bool b)
  | int (k n) : VR p (.int k n) (.int k n)
  | float (k n) : VR p (.float k n) (.float k n)
  | string (s) : VR p (.string s) (.string s)
  | nilp : VR p (.pointer none) (.pointer none)
  | ptr {b r x o s} (h : p b = some (r, x)) : VR p (.pointer (some ⟨b, o, s⟩)) (.pointer (some ⟨r, o, s⟩))
  | nils (n c) : VR p (.slice none n c) (.slice none n c)
  | slice {b r x o s n c c'} (h : p b = some (r, x)) (h1 : CapR x c c') : VR p (.slice (some ⟨b, o, s⟩) n c) (.slice (some ⟨r, o, s⟩) n c')
  /-- An empty slice of which it isn't known where it begins. -/
  | mt (A : Addr) (c) : VR p (.chan none) (.slice (some A) 0 c)
  /-- A number that isn't known. -/
  | sym {k} (hk : k % 2 = 0) : VR p (.chan (some k)) (Sym.val k)
  /-- A slice whose bytes aren't known from some place on. -/
  | rope {k} (hk : k % 2 = 1) {A : Option Addr} {c'} (h : RopeAt p (rb k) (ro k) (rn k) A c') : VR p (.chan (some k)) (.slice A (rn k + dlen) c')
  /-- The slice that is given. -/
  | given (k n m) (h : dlen = 0 ∨ p 0 = some (Sym.gr, 0)) : VR p (.complex k n m) (.slice Sym.ga dlen Sym.gc)
  | nilm : VR p (.map none) (.map none)
  | map {b r x} (h : p b = some (r, x)) : VR p (.map (some b)) (.map (some r))
  | nilf : VR p .nilFunc .nilFunc
  | nili : VR p .nilIface .nilIface
  | iface (t) {v v'} (h : VR p v v') : VR p (.iface t v) (.iface t v')
  | agg {cs cs' : Array Value} (hs : cs.size = cs'.size) (h : ∀ (i : Nat) (v v' : Value), cs[i]? = some v → cs'[i]? = some v' → VR p v v') : VR p (.agg cs) (.agg cs')
  | tuple {cs cs' : Array Value} (hs : cs.size = cs'.size) (h : ∀ (i : Nat) (v v' : Value), cs[i]? = some v → cs'[i]? = some v' → VR p v v') : VR p (.tuple cs) (.tuple cs')
  | func {fn : Fn} (hy : ∀ l, fn ≠ .yield l) {a a' c c' : Array Value} (hs : a.size = a'.size) (h : ∀ (i : Nat) (v v' : Value), a[i]? = some v → a'[i]? = some v' → VR p v v')
      (hs' : c.size = c'.size) (h' : ∀ (i : Nat) (v v' : Value), c[i]? = some v → c'[i]? = some v' → VR p v v') : VR p (.func fn a c) (.func fn a' c')
  | yield {b r x} (h : p b = some (r, x)) : VR p (.func (.yield b) #[] #[]) (.func (.yield r) #[] #[])

theorem VR.mono {p q : Mp} (hl : p.le q) {v v' : Value} (h : VR p v v') : VR q v v' := by
  induction h with
  | bool b => exact .bool b
  | int k n => exact .int k n
  | float k n => exact .float k n
  | string s => exact .string s
  | nilp => exact .nilp
  | ptr h => exact .ptr (hl _ _ h)
  | nils n c => exact .nils n c
  | slice h h1 => exact .slice (hl _ _ h) h1
  | mt A c => exact .mt A c
  | sym hk => exact .sym hk
  | rope hk h => exact .rope hk (h.mono hl)
  | given k n m h => exact .given k n m (h.imp_right (hl _ _))
  | nilm => exact .nilm
  | map h => exact .map (hl _ _ h)
  | nilf => exact .nilf
  | nili => exact .nili
  | iface t _ ih => exact .iface t ih
  | agg hs _ ih => exact .agg hs ih
  | tuple hs _ ih => exact .tuple hs ih
  | func hy hs _ hs' _ ih ih' => exact .func hy hs ih hs' ih'
  | yield h => exact .yield (hl _ _ h)

/-- Rows of values. -/
def AR (p : Mp) (a a' : Array Value) : Prop := a.size = a'.size ∧ ∀ (i : Nat) (v v' : Value), a[i]? = some v → a'[i]? = some v' → VR p v v'
theorem AR.mono {p q : Mp} (hl : p.le q) {a a' : Array Value} (h : AR p a a') : AR q a a' := ⟨h.1, fun i v v' e e' => (h.2 i v v' e e').mono hl⟩
theorem AR.get {p : Mp} {a a' : Array Value} (h : AR p a a') {i : Nat} {v : Value} (e : a[i]? = some v) : ∃ v', a'[i]? = some v' ∧ VR p v v' := by
  have hi : i < a.size := (Array.getElem?_eq_some_iff.1 e).1
  have hi' : i < a'.size := by rw [← h.1]; exact hi
  exact ⟨a'[i], Array.getElem?_eq_getElem hi', h.2 i v _ e (Array.getElem?_eq_getElem hi')⟩
theorem AR.none {p : Mp} {a a' : Array Value} (h : AR p a a') {i : Nat} (e : a[i]? = none) : a'[i]? = none := by
  rw [Array.getElem?_eq_none_iff] at e ⊢; have := h.1; omega
theorem AR.getD {p : Mp} {a a' : Array Value} (h : AR p a a') (i : Nat) {d : Value} (hd : VR p d d) : VR p (a.getD i d) (a'.getD i d) := by
  rw [Array.getD_eq_getD_getElem?, Array.getD_eq_getD_getElem?]
  cases e : a[i]? with
  | none => rw [h.none e]; exact hd
  | some v => obtain ⟨v', e', hv⟩ := h.get e; rw [e']; exact hv
theorem AR.empty (p : Mp) : AR p #[] #[] := ⟨rfl, fun i v v' e => by simp at e⟩
theorem AR.set {p : Mp} {a a' : Array Value} (h : AR p a a') (i : Nat) {v v' : Value} (hv : VR p v v') : AR p (a.setIfInBounds i v) (a'.setIfInBounds i v') := by
  refine ⟨by simp [h.1], fun j u u' e e' => ?_⟩
  rw [Array.getElem?_setIfInBounds] at e e'
  split at e
  · rename_i hij
    rw [if_pos hij] at e'
    split at e
    · rename_i hs
      rw [if_pos (by rw [← h.1]; exact hs)] at e'
      cases e; cases e'; exact hv
    · cases e
  · rename_i hij
    rw [if_neg hij] at e'
    exact h.2 j u u' e e'
theorem AR.append {p : Mp} {a a' b b' : Array Value} (h : AR p a a') (k : AR p b b') : AR p (a ++ b) (a' ++ b') := by
  refine ⟨by simp [h.1, k.1], fun i v v' e e' => ?_⟩
  rw [Array.getElem?_append] at e e'
  split at e
  · rename_i hi
    rw [if_pos (by rw [← h.1]; exact hi)] at e'
    exact h.2 i v v' e e'
  · rename_i hi
    rw [if_neg (by rw [← h.1]; exact hi), ← h.1] at e'
    exact k.2 _ v v' e e'
theorem AR.push {p : Mp} {a a' : Array Value} (h : AR p a a') {v v' : Value} (hv : VR p v v') : AR p (a.push v) (a'.push v') := by
  rw [Array.push_eq_append, Array.push_eq_append]
  refine h.append ⟨rfl, fun i u u' e e' => ?_⟩
  match i, e, e' with
  | 0, e, e' => simp at e e'; subst e; subst e'; exact hv
  | i + 1, e, _ => simp at e
theorem AR.replicate {p : Mp} (n : Nat) {v v' : Value} (hv : VR p v v') : AR p (Array.replicate n v) (Array.replicate n v') := by
  refine ⟨by simp, fun i u u' e e' => ?_⟩
  rw [Array.getElem?_replicate] at e e'
  split at e
  · rename_i hi; rw [if_pos hi] at e'; cases e; cases e'; exact hv
  · cases e
theorem AR.extract {p : Mp} {a a' : Array Value} (h : AR p a a') (i j : Nat) : AR p (a.extract i j) (a'.extract i j) := by
  refine ⟨by simp [h.1], fun k u u' e e' => ?_⟩
  rw [Array.getElem?_extract] at e e'
  split at e
  · rename_i hk
    rw [if_pos (by rw [← h.1]; exact hk)] at e'
    exact h.2 _ u u' e e'
  · cases e
theorem AR.map {p : Mp} {α : Type} {a : Array α} {f f' : α → Value} (h : ∀ x ∈ a, VR p (f x) (f' x)) : AR p (a.map f) (a.map f') := by
  refine ⟨by simp, fun i u u' e e' => ?_⟩
  rw [Array.getElem?_map] at e e'
  cases hx : a[i]? with
  | none => rw [hx] at e; cases e
  | some x =>
    rw [hx] at e e'
    cases e; cases e'
    exact h x (Array.mem_of_getElem? hx)
theorem VR.of_ar {p : Mp} {a a' : Array Value} (h : AR p a a') : VR p (.agg a) (.agg a') := .agg h.1 h.2
theorem VR.tuple_of {p : Mp} {a a' : Array Value} (h : AR p a a') : VR p (.tuple a) (.tuple a') := .tuple h.1 h.2
theorem VR.undef (p : Mp) : VR p undef undef := .tuple_of (AR.empty p)
theorem VR.cells {p : Mp} {v v' : Value} (h : VR p v v') : AR p v.cells v'.cells := by
  have one : ∀ {v v' : Value}, VR p v v' → AR p #[v] #[v'] := fun hv => by
    have := (AR.empty p).push hv
    simpa using this
  cases h with
  | agg hs h => exact ⟨hs, h⟩
  | bool => exact one (.bool _)
  | int => exact one (.int _ _)
  | float => exact one (.float _ _)
  | string => exact one (.string _)
  | nilp => exact one .nilp
  | ptr h => exact one (.ptr h)
  | nils => exact one (.nils _ _)
  | slice h h1 => exact one (.slice h h1)
  | mt => exact one (.mt _ _)
  | sym hk =>
    obtain ⟨kd, n, e⟩ := Sym.isInt _
    have := one (VR.sym (p := p) hk)
    rw [e] at this ⊢
    exact this
  | rope hk h => exact one (.rope hk h)
  | given k n m h => exact one (.given k n m h)
  | nilm => exact one .nilm
  | map h => exact one (.map h)
  | nilf => exact one .nilf
  | nili => exact one .nili
  | iface t h => exact one (.iface t h)
  | tuple hs h => exact one (.tuple hs h)
  | func hy a b c d => exact one (.func hy a b c d)
  | yield h => exact one (.yield h)

/-- Values that name no place. -/
def plain : Value → Bool
  | .bool _ | .int _ _ | .float _ _ | .string _ | .pointer none | .slice none _ _ | .map none | .nilFunc | .nilIface => true
  | .func (.func _) a c => a.isEmpty && c.isEmpty
  | .iface _ (.int _ _) | .iface _ (.string _) => true
  | .agg cs => cs.toList.all fun | .bool _ | .int _ _ | .float _ _ | .string _ | .pointer none | .slice none _ _ | .map none | .nilFunc | .nilIface => true | _ => false
  | .tuple cs => cs.toList.all fun | .bool _ | .int _ _ | .float _ _ | .string _ | .pointer none | .slice none _ _ | .map none | .nilFunc | .nilIface => true | _ => false
  | _ => false

theorem vr_simple {p : Mp} {v : Value} (h : (match v with | .bool _ | .int _ _ | .float _ _ | .string _ | .pointer none | .slice none _ _ | .map none | .nilFunc | .nilIface => true | _ => false) = true) : VR p v v := by
  split at h
  · exact .bool _
  · exact .int _ _
  · exact .float _ _
  · exact .string _
  · exact .nilp
  · exact .nils _ _
  · exact .nilm
  · exact .nilf
  · exact .nili
  · cases h
theorem ar_simple {p : Mp} {cs : Array Value} (h : (cs.toList.all fun v => match v with | .bool _ | .int _ _ | .float _ _ | .string _ | .pointer none | .slice none _ _ | .map none | .nilFunc | .nilIface => true | _ => false) = true) : AR p cs cs := by
  refine ⟨rfl, fun i v v' e e' => ?_⟩
  rw [e] at e'; cases e'
  have hm : v ∈ cs.toList := by
    have := Array.mem_of_getElem? e
    simpa using this
  exact vr_simple (List.all_eq_true.1 h v hm)
theorem plain_vr {p : Mp} {v : Value} (h : plain v = true) : VR p v v := by
  unfold plain at h
  split at h
  · exact .bool _
  · exact .int _ _
  · exact .float _ _
  · exact .string _
  · exact .nilp
  · exact .nils _ _
  · exact .nilm
  · exact .nilf
  · exact .nili
  · rename_i f a c
    simp only [Bool.and_eq_true, Array.isEmpty_iff] at h
    obtain ⟨rfl, rfl⟩ := h
    exact .func (by intro l; nofun) rfl (fun i v v' e => by simp at e) rfl (fun i v v' e => by simp at e)
  · exact .iface _ (.int _ _)
  · exact .iface _ (.string _)
  · exact .of_ar (ar_simple h)
  · exact .tuple_of (ar_simple h)
  · cases h
/-- What is plain is itself wherever things lie. -/
theorem plain_eq {p : Mp} {v v' : Value} (h : plain v = true) (k : VR p v v') : v' = v := by
  have arr : ∀ {cs cs' : Array Value}, AR p cs cs' → (cs.toList.all fun v => match v with | .bool _ | .int _ _ | .float _ _ | .string _ | .pointer none | .slice none _ _ | .map none | .nilFunc | .nilIface => true | _ => false) = true → cs' = cs := by
    intro cs cs' hr ha
    refine Array.ext hr.1.symm fun i h1 h2 => ?_
    have e := Array.getElem?_eq_getElem h2
    have e' := Array.getElem?_eq_getElem h1
    have hv := hr.2 i _ _ e e'
    have hm : cs[i] ∈ cs.toList := by simp
    have hp := List.all_eq_true.1 ha _ hm
    revert hv hp
    generalize cs[i] = u
    generalize cs'[i] = u'
    intro hv hp
    cases hv <;> first | rfl | (simp at hp)
  cases k with
  | agg hs hh => rw [arr ⟨hs, hh⟩ (by simpa [plain] using h)]
  | tuple hs hh => rw [arr ⟨hs, hh⟩ (by simpa [plain] using h)]
  | func hy hs hh hs' hh' =>
    rename_i fn a a' c c'
    cases fn with
    | func f =>
      simp only [plain, Bool.and_eq_true, Array.isEmpty_iff] at h
      obtain ⟨rfl, rfl⟩ := h
      have e1 : a' = #[] := Array.eq_empty_of_size_eq_zero (by simpa using hs.symm)
      have e2 : c' = #[] := Array.eq_empty_of_size_eq_zero (by simpa using hs'.symm)
      subst e1; subst e2; rfl
    | _ => simp [plain] at h
  | iface t hv =>
    cases hv <;> first | rfl | (simp [plain] at h)
  | ptr => simp [plain] at h
  | slice => simp [plain] at h
  | mt => simp [plain] at h
  | sym => simp [plain] at h
  | rope => simp [plain] at h
  | given => simp [plain] at h
  | map => simp [plain] at h
  | yield => simp [plain] at h
  | _ => rfl
end Go.Proofs.YtampcckdbjbllaaGreatDoor.Ev
set_option linter.unusedVariables false
set_option linter.unusedSectionVars false
namespace Go.Proofs.YtampcckdbjbllaaGreatDoor.Ev
open Go.RowKit

/-- Objects by their numbers. -/
inductive Tr
  | nil
  | node (v : Option Obj) (l r : Tr)
def tget : Tr → Nat → Option Obj
  | .nil, _ => none
  | .node v l r, n => if Nat.beq n 0 then v else if Nat.beq (n % 2) 1 then tget l (n / 2) else tget r (n / 2 - 1)
def tput : Nat → Tr → Nat → Option Obj → Tr
  | 0, t, _, _ => t
  | f + 1, .nil, n, o => if Nat.beq n 0 then .node o .nil .nil else if Nat.beq (n % 2) 1 then .node none (tput f .nil (n / 2) o) .nil else .node none .nil (tput f .nil (n / 2 - 1) o)
  | f + 1, .node v l r, n, o => if Nat.beq n 0 then .node o l r else if Nat.beq (n % 2) 1 then .node v (tput f l (n / 2) o) r else .node v l (tput f r (n / 2 - 1) o)
theorem beq_false {a b : Nat} (h : a ≠ b) : Nat.beq a b = false := by
  rw [Bool.eq_false_iff]; intro h'; exact h (Nat.eq_of_beq_eq_true h')
theorem tget_tput : ∀ (f : Nat) (t : Tr) (n : Nat) (o : Option Obj) (k : Nat), n < f → tget (tput f t n o) k = if n = k then o else tget t k := by
  intro f
  induction f with
  | zero => intro t n o k h; omega
  | succ f ih =>
    intro t n o k h
    by_cases hn : n = 0
    · subst hn
      by_cases hk : k = 0
      · subst hk; cases t <;> simp [tput, tget]
      · have hk' := beq_false hk
        cases t <;> simp [tput, tget, hk', Ne.symm hk]
    · have hn' := beq_false hn
      by_cases ho : n % 2 = 1
      · have ho' : Nat.beq (n % 2) 1 = true := by rw [ho]; rfl
        by_cases hk : k = 0
        · subst hk; cases t <;> simp [tput, tget, hn', ho', hn]
        · have hk' := beq_false hk
          by_cases hko : k % 2 = 1
          · have hko' : Nat.beq (k % 2) 1 = true := by rw [hko]; rfl
            have e : (n / 2 = k / 2) = (n = k) := by rw [eq_iff_iff]; constructor <;> intro <;> omega
            cases t <;> simp only [tput, tget, hn', ho', hk', hko', if_true, Bool.false_eq_true, if_false, ih _ (n / 2) o (k / 2) (by omega), e]
          · have hko' : Nat.beq (k % 2) 1 = false := beq_false hko
            have e : ¬ n = k := by intro e; subst e; exact hko ho
            cases t <;> simp only [tput, tget, hn', ho', hk', hko', if_true, Bool.false_eq_true, if_false, e]
      · have ho' : Nat.beq (n % 2) 1 = false := beq_false ho
        by_cases hk : k = 0
        · subst hk; cases t <;> simp [tput, tget, hn', ho', hn]
        · have hk' := beq_false hk
          by_cases hko : k % 2 = 1
          · have hko' : Nat.beq (k % 2) 1 = true := by rw [hko]; rfl
            have e : ¬ n = k := by intro e; subst e; exact ho hko
            cases t <;> simp only [tput, tget, hn', ho', hk', hko', if_true, Bool.false_eq_true, if_false, e]
          · have hko' : Nat.beq (k % 2) 1 = false := beq_false hko
            have e : (n / 2 - 1 = k / 2 - 1) = (n = k) := by rw [eq_iff_iff]; constructor <;> intro <;> omega
            cases t <;> simp only [tput, tget, hn', ho', hk', hko', if_true, Bool.false_eq_true, if_false, ih _ (n / 2 - 1) o (k / 2 - 1) (by omega), e]

def look (b : Nat) : List (Nat × Option Obj) → Option Obj
  | [] => none
  | (b', o) :: r => if Nat.beq b' b then o else look b r
theorem look_cons (b b' : Nat) (o : Option Obj) (r : List (Nat × Option Obj)) : look b ((b', o) :: r) = if b' = b then o else look b r := by
  show (if Nat.beq b' b then o else look b r) = _
  by_cases h : b' = b
  · subst h; simp
  · simp [beq_false h, h]
/-- An abstract heap: its rows (the newest of a block counts), and the same by number. -/
structure AH where
  m : List (Nat × Option Obj)
  tr : Tr
  nx : Nat
  eq : ∀ b, tget tr b = look b m
def AH.get (H : AH) (b : Nat) : Option Obj := tget H.tr b
theorem AH.look_eq (H : AH) (b : Nat) : look b H.m = H.get b := (H.eq b).symm
theorem put_eq {m : List (Nat × Option Obj)} {tr : Tr} (h : ∀ b, tget tr b = look b m) (b0 : Nat) (o : Option Obj) : ∀ b, tget (tput (b0 + 1) tr b0 o) b = look b ((b0, o) :: m) := fun b => by
  rw [tget_tput _ _ _ _ _ (Nat.lt_succ_self _), look_cons, h]
def AH.put (H : AH) (b : Nat) (o : Option Obj) : AH := ⟨(b, o) :: H.m, tput (b + 1) H.tr b o, H.nx, put_eq H.eq b o⟩
def AH.push (H : AH) (o : Obj) : AH := ⟨(H.nx, some o) :: H.m, tput (H.nx + 1) H.tr H.nx (some o), H.nx + 1, put_eq H.eq H.nx (some o)⟩
theorem get_put (H : AH) (b b' : Nat) (o : Option Obj) : (H.put b' o).get b = if b' = b then o else H.get b := by
  rw [← AH.look_eq, ← AH.look_eq]; exact look_cons b b' o H.m
theorem get_push (H : AH) (b : Nat) (o : Obj) : (H.push o).get b = if H.nx = b then some o else H.get b := by
  rw [← AH.look_eq, ← AH.look_eq]; exact look_cons b H.nx (some o) H.m
/-- The heap of some rows. -/
def trOf : List (Nat × Option Obj) → Tr
  | [] => .nil
  | (b, o) :: r => tput (b + 1) (trOf r) b o
theorem trOf_eq : ∀ (m : List (Nat × Option Obj)) (b : Nat), tget (trOf m) b = look b m
  | [], b => rfl
  | (b0, o) :: r, b => put_eq (trOf_eq r) b0 o b
def ofRows (m : List (Nat × Option Obj)) (nx : Nat) : AH := ⟨m, trOf m, nx, trOf_eq m⟩
theorem get_ofRows (m : List (Nat × Option Obj)) (nx b : Nat) : (ofRows m nx).get b = look b m := trOf_eq m b

variable [Sym]
/-- How an object lies. -/
def ER (p : Mp) (e e' : MapEntry) : Prop := VR p e.key e'.key ∧ VR p e.val e'.val ∧ e.born = e'.born
/-- The bytes behind a row. -/
def TailR (c : Array Value) (e : TypeId) (o' : Option Obj) : Prop := ∃ c', o' = some (.cells c' e (0, 0)) ∧ ∀ (i : Nat) (d : UInt8), Sym.data[i]? = some d → c'[c.size + i]? = some (.int .u8 (d.toNat : Int))
def OR (P : Program) (p : Mp) (x : Nat) : Obj → Option Obj → Prop
  | .cells c e f, o' => (f = (0, 0) ∨ f = (0, 1) ∧ TailR c e o') ∧ ∃ c', o' = some (.cells c' e (0, 0)) ∧ (∀ i, P.info? e = some i → c'.size = c.size + x * i.size) ∧ c.size ≤ c'.size ∧ (x = 0 ∨ ∀ i, P.info? e = some i → c'.size ≤ maxLen * i.size) ∧ ∀ (i : Nat) (v v' : Value), c[i]? = some v → c'[i]? = some v' → VR p v v'
  | .map es k, o' => ∃ es', o' = some (.map es' k) ∧ es.size = es'.size ∧ ∀ (i : Nat) (v v' : MapEntry), es[i]? = some v → es'[i]? = some v' → ER p v v'
  | .loop l, o' => ∃ l' x', o' = some (.loop l') ∧ l'.state = l.state ∧ l'.pending = l.pending ∧ l'.fn = l.fn ∧ AR p l.tmps l'.tmps ∧ l'.params = l.params ∧ l'.assign = l.assign ∧ l'.body = l.body ∧ p l.defers = some (l'.defers, x')
  | .deferred (some ds), o' => ds = [] ∧ o' = some (.deferred (some []))
  | .deferred none, o' => o' = some (.deferred none)
  | .chan _ _ _ _ _ _, o' => o' = some Sym.gobj
  | _, _ => False
theorem OR.mono {P : Program} {p q : Mp} (hl : p.le q) {x : Nat} {o : Obj} {o' : Option Obj} (h : OR P p x o o') : OR P q x o o' := by
  unfold OR at h ⊢
  split at h
  · obtain ⟨hf, c', e, h1, h2, h4, h3⟩ := h
    exact ⟨hf, c', e, h1, h2, h4, fun i v v' a b => (h3 i v v' a b).mono hl⟩
  · obtain ⟨es', e, h1, h2⟩ := h
    exact ⟨es', e, h1, fun i v v' a b => ⟨(h2 i v v' a b).1.mono hl, (h2 i v v' a b).2.1.mono hl, (h2 i v v' a b).2.2⟩⟩
  · obtain ⟨l', x', e, h1, h2, h3, h4, h5, h6, h7, h8⟩ := h
    exact ⟨l', x', e, h1, h2, h3, h4.mono hl, h5, h6, h7, hl _ _ h8⟩
  · exact h
  · exact h
  · exact h
  · exact h.elim
theorem OR.some_ {P : Program} {p : Mp} {x : Nat} {o : Obj} {o' : Option Obj} (h : OR P p x o o') : ∃ o1, o' = some o1 := by
  unfold OR at h
  split at h
  · obtain ⟨_, c', e, _⟩ := h; exact ⟨_, e⟩
  · obtain ⟨es', e, _⟩ := h; exact ⟨_, e⟩
  · obtain ⟨l', x', e, _⟩ := h; exact ⟨_, e⟩
  · exact ⟨_, h.2⟩
  · exact ⟨_, h⟩
  · exact ⟨_, h⟩
  · exact h.elim

/-- How an abstract heap lies in a world. -/
structure Sim (P : Program) (p : Mp) (H : AH) (w : World) : Prop where
  inj : ∀ b b' r x x', p b = some (r, x) → p b' = some (r, x') → H.get b ≠ none → H.get b' ≠ none → b = b'
  lt : ∀ b r x, p b = some (r, x) → r < w.heap.size
  obj : ∀ b r x o, p b = some (r, x) → H.get b = some o → OR P p x o w.heap[r]?

/-- What a piece of a run keeps. -/
structure Into (P : Program) (p : Mp) (H : AH) (w : World) (q : Mp) (K : AH) (w' : World) : Prop where
  le : p.le q
  sim : Sim P q K w'
  size : w.heap.size ≤ w'.heap.size
  os : w'.os = w.os
  tape : w'.tape = w.tape
  output : w'.output = w.output
  kept : ∀ r, r < w.heap.size → (∀ b x, p b = some (r, x) → H.get b = none) → w'.heap[r]? = w.heap[r]?
  own : ∀ b r x, q b = some (r, x) → K.get b ≠ none → r < w.heap.size → ∃ b0 x0, p b0 = some (r, x0) ∧ H.get b0 ≠ none
  fresh : ∀ b, q b ≠ none → p b ≠ none ∨ (H.nx ≤ b ∧ b < K.nx)
  nx : H.nx ≤ K.nx

theorem Into.refl {P : Program} {p : Mp} {H : AH} {w : World} (h : Sim P p H w) : Into P p H w p H w where
  le := p.le_refl
  sim := h
  size := Nat.le_refl _
  os := rfl
  tape := rfl
  output := rfl
  kept := fun _ _ _ => rfl
  own := fun b r x e hb _ => ⟨b, x, e, hb⟩
  fresh := fun b h => .inl h
  nx := Nat.le_refl _
theorem Into.trans {P : Program} {p q s : Mp} {H K L : AH} {w u v : World} (h : Into P p H w q K u) (k : Into P q K u s L v) : Into P p H w s L v where
  le := Mp.le_trans h.le k.le
  sim := k.sim
  size := Nat.le_trans h.size k.size
  os := k.os.trans h.os
  tape := k.tape.trans h.tape
  output := k.output.trans h.output
  kept := fun r hr hno => by
    refine (k.kept r (Nat.lt_of_lt_of_le hr h.size) fun b x e => ?_).trans (h.kept r hr hno)
    rcases hK : K.get b with _ | o
    · rfl
    · obtain ⟨b0, x0, e0, h0⟩ := h.own b r x e (by rw [hK]; nofun) hr
      exact absurd (hno b0 x0 e0) h0
  own := fun b r x e hb hr => by
    obtain ⟨b1, x1, e1, h1⟩ := k.own b r x e hb (Nat.lt_of_lt_of_le hr h.size)
    exact h.own b1 r x1 e1 h1 hr
  fresh := fun b hb => by
    rcases k.fresh b hb with h1 | h1
    · rcases h.fresh b h1 with h2 | h2
      · exact .inl h2
      · exact .inr ⟨h2.1, Nat.lt_of_lt_of_le h2.2 k.nx⟩
    · exact .inr ⟨Nat.le_trans h.nx h1.1, h1.2⟩
  nx := Nat.le_trans h.nx k.nx

/-- A world that differs in what was drawn alone. -/
theorem Sim.drew {P : Program} {p : Mp} {H : AH} {w w' : World} (h : Sim P p H w) (e : w'.heap = w.heap) : Sim P p H w' :=
  ⟨h.inj, fun b r x hb => by rw [e]; exact h.lt b r x hb, fun b r x o hb ho => by rw [e]; exact h.obj b r x o hb ho⟩
theorem Into.drew {P : Program} {p : Mp} {H : AH} {w w' : World} (h : Sim P p H w) (e : w'.heap = w.heap) (eo : w'.os = w.os) (et : w'.tape = w.tape) (eu : w'.output = w.output) : Into P p H w p H w' where
  le := p.le_refl
  sim := h.drew e
  size := by rw [e]; exact Nat.le_refl _
  os := eo
  tape := et
  output := eu
  kept := fun _ _ _ => by rw [e]
  own := fun b r x e hb _ => ⟨b, x, e, hb⟩
  fresh := fun b h => .inl h
  nx := Nat.le_refl _

/-- A new object. -/
theorem Into.new {P : Program} {p : Mp} {H : AH} {w : World} (h : Sim P p H w) (hf : p H.nx = none) {o o' : Obj}
    (ho : OR P (p.set H.nx (w.heap.size, 0)) 0 o (some o')) : Into P p H w (p.set H.nx (w.heap.size, 0)) (H.push o) (w.alloc o') where
  le := Mp.le_set _ hf
  sim := by
    refine ⟨fun b b' r x x' e e' hb hb' => ?_, fun b r x e => ?_, fun b r x o1 e hb => ?_⟩
    · unfold Mp.set at e e'
      rw [get_push] at hb hb'
      split at e <;> split at e'
      · omega
      · cases e
        have := h.lt b' _ _ e'
        omega
      · cases e'
        have := h.lt b _ _ e
        omega
      · rename_i h1 h2
        rw [if_neg (Ne.symm h1)] at hb
        rw [if_neg (Ne.symm h2)] at hb'
        exact h.inj b b' r x x' e e' hb hb'
    · unfold Mp.set at e
      rw [World.size_alloc]
      split at e
      · cases e; omega
      · have := h.lt b r x e; omega
    · rw [get_push] at hb
      unfold Mp.set at e
      split at e
      · rename_i e1
        subst e1
        rw [if_pos rfl] at hb
        cases e; cases hb
        rw [heap_alloc_new]
        exact ho
      · rename_i h1
        rw [if_neg (Ne.symm h1)] at hb
        have hr := h.lt b r x e
        rw [Below.heap_alloc w o' r hr]
        exact (h.obj b r x o1 e hb).mono (Mp.le_set _ hf)
  size := by rw [World.size_alloc]; omega
  os := rfl
  tape := rfl
  output := rfl
  kept := fun r hr _ => Below.heap_alloc w o' r hr
  own := fun b r x e hb hr => by
    unfold Mp.set at e
    rw [get_push] at hb
    split at e
    · cases e; omega
    · rename_i h1
      rw [if_neg (Ne.symm h1)] at hb
      exact ⟨b, x, e, hb⟩
  fresh := fun b hb => by
    unfold Mp.set at hb
    split at hb
    · rename_i e; subst e; exact .inr ⟨Nat.le_refl _, by simp [AH.push]⟩
    · exact .inl hb
  nx := by simp [AH.push]

/-- An object that has changed. -/
theorem Into.put {P : Program} {p : Mp} {H : AH} {w w' : World} (h : Sim P p H w) {b r x : Nat} {o : Obj} (hb : p b = some (r, x)) (hl : H.get b ≠ none)
    (hsz : w'.heap.size = w.heap.size) (eo : w'.os = w.os) (et : w'.tape = w.tape) (eu : w'.output = w.output) (hk : ∀ r', r' ≠ r → w'.heap[r']? = w.heap[r']?) (ho : OR P p x o w'.heap[r]?) :
    Into P p H w p (H.put b (some o)) w' where
  le := p.le_refl
  sim := by
    have live : ∀ b', (H.put b (some o)).get b' ≠ none → H.get b' ≠ none := fun b' hb' => by
      rw [get_put] at hb'
      split at hb'
      · rename_i e; subst e; exact hl
      · exact hb'
    refine ⟨fun b1 b2 r x x' e e' h1 h2 => h.inj b1 b2 r x x' e e' (live _ h1) (live _ h2), fun b r x e => by rw [hsz]; exact h.lt b r x e, fun b1 r1 x1 o1 e h1 => ?_⟩
    rw [get_put] at h1
    split at h1
    · rename_i e1
      subst e1
      rw [hb] at e
      cases e; cases h1
      exact ho
    · rename_i hne
      have hr : r1 ≠ r := by
        rintro rfl
        exact hne (h.inj b b1 r1 x x1 hb e hl (by rw [h1]; nofun))
      rw [hk r1 hr]
      exact h.obj b1 r1 x1 o1 e h1
  size := by rw [hsz]; exact Nat.le_refl _
  os := eo
  tape := et
  output := eu
  kept := fun r' hr' hno => hk r' (by rintro rfl; exact hl (hno b x hb))
  own := fun b' r' x' e hb' _ => by
    refine ⟨b', x', e, ?_⟩
    rw [get_put] at hb'
    split at hb'
    · rename_i e1; subst e1; exact hl
    · exact hb'
  fresh := fun b h => .inl h
  nx := Nat.le_refl _
end Go.Proofs.YtampcckdbjbllaaGreatDoor.Ev
set_option linter.unusedVariables false
set_option linter.unusedSectionVars false
namespace Go.Proofs.YtampcckdbjbllaaGreatDoor.Ev
noncomputable section
open Go.RowKit
variable [Sym]

/-- What an effect gives that asks no memory. -/
def prun {α : Type} (P : Program) : Sem α → Option α
  | .pure a => some a
  | .program k => prun P (k P)
  | .mark _ k => prun P k
  | _ => none
theorem prun_run {α : Type} {P : Program} {e : Sem α} {a : α} (h : prun P e = some a) (w : World) : e.run P w = .ok a w := by
  induction e with
  | pure b => simp only [prun, Option.some.injEq] at h; subst h; rfl
  | program k ih => exact ih P h
  | mark m k ih => exact ih h
  | _ => simp [prun] at h
theorem prun_bind' {α β : Type} (P : Program) (e : Sem α) (f : α → Sem β) : prun P (e.bind f) = (prun P e).bind fun a => prun P (f a) := by
  induction e with
  | pure b => simp [prun, Sem.bind]
  | program k ih => simpa [prun, Sem.bind] using ih P
  | mark m k ih => simpa [prun, Sem.bind] using ih
  | _ => simp [prun, Sem.bind]
theorem prun_bind {α β : Type} (P : Program) (e : Sem α) (f : α → Sem β) : prun P (e >>= f) = (prun P e).bind fun a => prun P (f a) := prun_bind' P e f

/-- Two effects that ask no memory: what the one gives the other gives, too. -/
def PS {α β : Type} (P : Program) (R : α → β → Prop) (e : Sem α) (e' : Sem β) : Prop := ∀ r, prun P e = some r → ∃ r', prun P e' = some r' ∧ R r r'
section
variable {P : Program} {α β γ δ : Type}
theorem PS.bind {R : α → β → Prop} {S : γ → δ → Prop} {e : Sem α} {e' : Sem β} {f : α → Sem γ} {f' : β → Sem δ} (h : PS P R e e') (k : ∀ r r', R r r' → PS P S (f r) (f' r')) : PS P S (e >>= f) (e' >>= f') := by
  intro r hr
  rw [prun_bind] at hr
  rw [prun_bind]
  cases he : prun P e with
  | none => rw [he] at hr; cases hr
  | some a =>
    rw [he] at hr
    obtain ⟨a', ha, hR⟩ := h a he
    rw [ha]
    exact k a a' hR r hr
theorem PS.same (e : Sem α) : PS P (fun a b => a = b) e e := fun r h => ⟨r, h, rfl⟩
theorem PS.pure {R : α → β → Prop} {a : α} {b : β} (h : R a b) : PS P R (Pure.pure a) (Pure.pure b) := fun r hr => by
  have : a = r := by simpa [prun, Pure.pure] using hr
  subst this; exact ⟨b, rfl, h⟩
theorem PS.none_ {R : α → β → Prop} {e : Sem α} {e' : Sem β} (h : prun P e = none) : PS P R e e' := fun r hr => by rw [h] at hr; cases hr
theorem PS.halt {R : α → β → Prop} {h : Halt} {e' : Sem β} : PS P R (.halt h) e' := PS.none_ rfl
theorem PS.same_bind {S : γ → δ → Prop} {e : Sem α} {f : α → Sem γ} {f' : α → Sem δ} (k : ∀ r, PS P S (f r) (f' r)) : PS P S (e >>= f) (e >>= f') :=
  (PS.same e).bind fun r r' h => h ▸ k r
theorem PS.mono {R S : α → β → Prop} {e : Sem α} {e' : Sem β} (h : PS P R e e') (k : ∀ a b, R a b → S a b) : PS P S e e' := fun r hr => let ⟨r', h1, h2⟩ := h r hr; ⟨r', h1, k _ _ h2⟩
end

/-- What an operation does next. -/
inductive NR (p : Mp) : Next → Next → Prop
  | value {v v'} (h : VR p v v') : NR p (.value v) (.value v')
theorem ps_value {P : Program} {p : Mp} {e e' : Sem Value} (h : PS P (VR p) e e') : PS P (NR p) (do pure (Next.value (← e))) (do pure (Next.value (← e'))) :=
  h.bind fun _ _ hv => PS.pure (.value hv)

/-- The n-th of a list, for the kernel: a recursion on the number itself. -/
def lget (l : List Value) (n : Nat) : Value :=
  Nat.rec (motive := fun _ => List Value → Value) (fun l => List.rec (motive := fun _ => Value) undef (fun v _ _ => v) l) (fun _ ih l => List.rec (motive := fun _ => Value) undef (fun _ t _ => ih t) l) n l
def lset (v : Value) (l : List Value) (n : Nat) : List Value :=
  Nat.rec (motive := fun _ => List Value → List Value) (fun l => List.rec (motive := fun _ => List Value) [] (fun _ t _ => v :: t) l) (fun _ ih l => List.rec (motive := fun _ => List Value) [] (fun h t _ => h :: ih t) l) n l
theorem lget_eq (l : List Value) (n : Nat) : lget l n = l.getD n undef := by
  induction n generalizing l with
  | zero => cases l <;> rfl
  | succ n ih =>
    cases l with
    | nil => rfl
    | cons v t =>
      have : lget (v :: t) (n + 1) = lget t n := rfl
      rw [this, ih]
      simp
theorem lset_eq (v : Value) (l : List Value) (n : Nat) : lset v l n = l.set n v := by
  induction n generalizing l with
  | zero => cases l <;> rfl
  | succ n ih =>
    cases l with
    | nil => rfl
    | cons u t =>
      have : lset v (u :: t) (n + 1) = u :: lset v t n := rfl
      rw [this, ih]
      rfl
theorem lget_arr (T : Array Value) (n : Nat) : lget T.toList n = T.getD n undef := by
  rw [lget_eq, Array.getD_eq_getD_getElem?]
  simp [List.getD]
def aev (T : Array Value) : Operand → Value
  | .tmp t => lget T.toList t
  | .const v => v
  | .global g => .pointer (some ⟨g, 0, none⟩)
  | .func f => .func (.func f) #[] #[]
def okO : Operand → Bool
  | .tmp _ => true
  | .const v => plain v
  | .global _ => false
  | .func _ => true
theorem ev_vr {p : Mp} {T : Array Value} {a : Act} (h : AR p T a.tmps) {x : Operand} (hx : okO x = true) : VR p (aev T x) (a.eval x) := by
  cases x with
  | tmp t =>
    show VR p (lget T.toList t) (a.tmps.getD t undef)
    rw [lget_arr]
    exact h.getD t (VR.undef p)
  | const v => exact plain_vr hx
  | global g => cases hx
  | func f => exact plain_vr rfl

section
variable {P : Program} {p : Mp}
theorem ps_asInt {v v' : Value} (h : VR p v v') : PS P (fun a b => a = b) (asIntOf v) (asIntOf v') := by
  cases h <;> first | exact PS.same _ | exact PS.halt
theorem ps_asBool {v v' : Value} (h : VR p v v') : PS P (fun a b => a = b) (asBool v) (asBool v') := by
  cases h <;> first | exact PS.same _ | exact PS.halt
theorem ps_sure {v v' : Value} (h : VR p v v') : PS P (fun a a' => ∃ r x, p a.block = some (r, x) ∧ a' = ⟨r, a.off, a.spot⟩) (Instr.sureAddr v) (Instr.sureAddr v') := by
  cases h with
  | ptr h => exact PS.pure ⟨_, _, h, rfl⟩
  | _ => exact PS.halt
theorem vr_ptr {a a' : Addr} (h : ∃ r x, p a.block = some (r, x) ∧ a' = ⟨r, a.off, a.spot⟩) : VR p (.pointer (some a)) (.pointer (some a')) := by
  obtain ⟨r, x, e, rfl⟩ := h
  exact .ptr e
theorem add_rel {a a' : Addr} (h : ∃ r x, p a.block = some (r, x) ∧ a' = ⟨r, a.off, a.spot⟩) (n : Nat) : ∃ r x, p (a.add n).block = some (r, x) ∧ a'.add n = ⟨r, (a.add n).off, (a.add n).spot⟩ := by
  obtain ⟨r, x, e, rfl⟩ := h
  by_cases h0 : n = 0
  · subst h0; exact ⟨r, x, e, rfl⟩
  · simp [Addr.add, h0, e]
theorem ps_part {cs cs' : Array Value} (h : AR p cs cs') (t : TypeId) (off : Nat) : PS P (VR p) (part t cs off) (part t cs' off) := by
  unfold part
  refine PS.same_bind fun b => ?_
  cases b
  · simp only [Bool.false_eq_true, if_false]
    cases hc : cs[off]? with
    | none => rw [h.none hc]; exact PS.halt
    | some v =>
      obtain ⟨v', e, hv⟩ := h.get hc
      rw [e]
      exact PS.pure hv
  · simp only [if_true]
    exact PS.same_bind fun n => PS.pure (.of_ar (h.extract _ _))
theorem ps_extract {v v' : Value} (h : VR p v v') (i : Nat) : PS P (VR p) (Instr.extract v i) (Instr.extract v' i) := by
  cases h with
  | tuple hs h =>
    rename_i cs cs'
    have ar : AR p cs cs' := ⟨hs, h⟩
    unfold Instr.extract
    cases hc : cs[i]? with
    | none => simp only [hc, ar.none hc]; exact PS.halt
    | some v =>
      obtain ⟨v', e, hv⟩ := ar.get hc
      simp only [hc, e]
      exact PS.pure hv
  | _ => exact PS.halt
theorem ps_field {v v' : Value} (h : VR p v v') (t : TypeId) (f : Nat) : PS P (VR p) (Instr.field t v f) (Instr.field t v' f) := by
  unfold Instr.field
  refine PS.same_bind fun d => ?_
  split
  · split
    · refine PS.bind (R := AR p) ?_ fun cs cs' hr => ps_part hr _ _
      cases h with
      | agg hs h => exact PS.pure ⟨hs, h⟩
      | _ => exact PS.halt
    · exact PS.halt
  · exact PS.halt
theorem ps_fieldAt {v v' : Value} (h : VR p v v') (s : TypeId) (f : Nat) : PS P (VR p) (Instr.fieldAt s v f) (Instr.fieldAt s v' f) := by
  unfold Instr.fieldAt
  refine PS.same_bind fun d => ?_
  split
  · split
    · refine (ps_sure h).bind fun a a' ha => ?_
      refine PS.bind (R := fun a a' => ∃ r x, p a.block = some (r, x) ∧ a' = ⟨r, a.off, a.spot⟩) ?_ fun b b' hb => PS.pure (vr_ptr hb)
      unfold fieldPlace
      refine PS.same_bind fun n => ?_
      by_cases h0 : n = 0
      · rw [if_pos h0]
        refine PS.none_ ?_
        have hv : ∀ x : Addr, prun P (noView x) = none := fun _ => rfl
        have hb : ∀ x : Addr, x.spot = none → prun P (byteOf x) = none := fun x hx => by
          unfold byteOf
          simp only [hx, prun_bind, hv, Option.bind_none]
          rfl
        simp only [partAt, prun_bind, hb, Option.bind_none, Option.bind_fun_none]
      · rw [if_neg h0, if_neg h0]
        exact PS.pure (add_rel ha _)
    · exact PS.halt
  · exact PS.halt
theorem ps_makeInterface {v v' : Value} (h : VR p v v') (t : TypeId) : PS P (VR p) (Instr.makeInterface t v) (Instr.makeInterface t v') := by
  unfold Instr.makeInterface
  refine PS.same_bind fun d => ?_
  split
  · exact PS.halt
  · exact PS.pure (.iface t h)
end
end
end Go.Proofs.YtampcckdbjbllaaGreatDoor.Ev
set_option linter.unusedVariables false
set_option linter.unusedSectionVars false
set_option linter.unusedSimpArgs false
namespace Go.Proofs.YtampcckdbjbllaaGreatDoor.Ev
noncomputable section
open Go.RowKit
variable [Sym]

inductive Cl
  | pure (v : Value)
  | obs (b : Nat) (f : Obj → Option Value)
  | new (o : Obj) (f : Nat → Value)
  | mut

def ClOK (P : Program) (p : Mp) (a : Act) (o : Oper) : Cl → Prop
  | .pure v => ∃ v', VR p v v' ∧ ∀ w, (execOp a.eval o).run P w = .ok (.value v') w
  | .obs b f => ∃ r x, p b = some (r, x) ∧ ∀ w ob v, OR P p x ob w.heap[r]? → f ob = some v → ∃ v', VR p v v' ∧ (execOp a.eval o).run P w = .ok (.value v') w
  | .new ob f => ∃ (ob' : Obj) (f' : Nat → Value), (∀ w, (execOp a.eval o).run P w = .ok (.value (f' w.heap.size)) (w.alloc ob')) ∧ ∀ (b r : Nat), p b = none → OR P (p.set b (r, 0)) 0 ob (some ob') ∧ VR (p.set b (r, 0)) (f b) (f' r)
  | .mut => True

def ptrTo (b : Nat) : Value := .pointer (some ⟨b, 0, none⟩)
def aggD (P : Program) (t : TypeId) : Option Bool :=
  match P.underlying t with
  | some (.struct _) | some (.array _ _) => some true
  | some _ => some false
  | none => none

section
variable {P : Program} {p : Mp} {T : Array Value} {a : Act} {o : Oper}

theorem cl_of_ps {v : Value} (h : PS P (NR p) (execOp (aev T) o) (execOp a.eval o)) (hv : prun P (execOp (aev T) o) = some (.value v)) : ClOK P p a o (.pure v) := by
  obtain ⟨r', h1, h2⟩ := h _ hv
  cases h2 with
  | value h2 => exact ⟨_, h2, fun w => prun_run h1 w⟩

theorem cl_move (h : AR p T a.tmps) {x : Operand} (ho : o.op = .move x ∨ o.op = .assign x) (hx : okO x = true) : ClOK P p a o (.pure (aev T x)) :=
  ⟨a.eval x, ev_vr h hx, fun w => by rcases ho with ho | ho <;> (unfold execOp; simp only [ho]; rfl)⟩
theorem cl_pick (h : AR p T a.tmps) {c x y : Operand} {t : Bool} (ho : o.op = .pick c x y) (hc : okO c = true) (hx : okO x = true) (hy : okO y = true) (ht : aev T c = .bool t) : ClOK P p a o (.pure (if t then aev T x else aev T y)) := by
  have hc' := ev_vr h hc
  rw [ht] at hc'
  have e : a.eval c = .bool t := by
    generalize a.eval c = u at hc'
    cases hc'; rfl
  refine ⟨if t then a.eval x else a.eval y, ?_, fun w => ?_⟩
  · cases t
    · exact ev_vr h hy
    · exact ev_vr h hx
  · unfold execOp
    simp only [ho, e]
    rfl
theorem or_cells {q : Mp} {x : Nat} {c c' : Array Value} {t : TypeId} (h : AR q c c') (hx : x = 0) : OR P q x (.cells c t (0, 0)) (some (.cells c' t (0, 0))) :=
  ⟨.inl rfl, c', rfl, fun i _ => by subst hx; rw [h.1]; simp, Nat.le_of_eq h.1, .inl hx, h.2⟩
theorem cl_alloc {t : TypeId} {i : TypeInfo} {z : Value} (ho : o.op = .alloc t) (hi : P.info? t = some i) (hz : i.zero = some z) (hp : plain z = true) : ClOK P p a o (.new (.cells z.cells t (0, 0)) ptrTo) := by
  refine ⟨.cells z.cells t (0, 0), ptrTo, fun w => ?_, fun b r hb => ⟨or_cells (plain_vr hp).cells rfl, .ptr (Mp.set_eq _ _ _)⟩⟩
  have hzero : ∀ w, (zeroValue t).run P w = .ok z w := fun w => by
    unfold zeroValue
    simp [run_typeInfo w hi, hz]
  unfold execOp
  simp only [ho, Instr.alloc, Sem.run_bind, hzero, Result.andThen_ok, newVar, newRow, Sem.run_pure]
  rfl
theorem cl_box (h : AR p T a.tmps) {t : TypeId} {x : Operand} (ho : o.op = .box t x) (hx : okO x = true) : ClOK P p a o (.new (.cells (aev T x).cells t (0, 0)) ptrTo) := by
  refine ⟨.cells (a.eval x).cells t (0, 0), ptrTo, fun w => ?_, fun b r hb => ⟨or_cells ((ev_vr h hx).mono (Mp.le_set _ hb)).cells rfl, .ptr (Mp.set_eq _ _ _)⟩⟩
  unfold execOp
  simp only [ho, Instr.box, newVar, newRow, Sem.run_bind, Sem.run_pure, Result.andThen_ok]
  rfl

/-- 'a[i:]' of cells, as lists. -/
theorem cell_at {w : World} {r off k : Nat} {c : Array Value} {t : TypeId} (hg : w.heap[r]? = some (.cells c t (0, 0))) : w.cell? ((⟨r, off, none⟩ : Addr).add k) = c[off + k]? := by
  have : (⟨r, off, none⟩ : Addr).add k = ⟨r, off + k, none⟩ := by unfold Addr.add; split <;> simp_all
  rw [this]
  simp [World.cell?, hg]

/-! Lists, for the kernel: recursions on the number itself. -/
def lgetO (l : List Value) (n : Nat) : Option Value :=
  Nat.rec (motive := fun _ => List Value → Option Value) (fun l => List.rec (motive := fun _ => Option Value) none (fun v _ _ => some v) l) (fun _ ih l => List.rec (motive := fun _ => Option Value) none (fun _ t _ => ih t) l) n l
theorem lgetO_eq (l : List Value) (n : Nat) : lgetO l n = l[n]? := by
  induction n generalizing l with
  | zero => cases l <;> rfl
  | succ n ih =>
    cases l with
    | nil => rfl
    | cons v t =>
      have : lgetO (v :: t) (n + 1) = lgetO t n := rfl
      rw [this, ih]
      simp
def ldrop (l : List Value) (n : Nat) : List Value :=
  Nat.rec (motive := fun _ => List Value → List Value) (fun l => l) (fun _ ih l => List.rec (motive := fun _ => List Value) [] (fun _ t _ => ih t) l) n l
theorem ldrop_eq (l : List Value) (n : Nat) : ldrop l n = l.drop n := by
  induction n generalizing l with
  | zero => rfl
  | succ n ih =>
    cases l with
    | nil => rfl
    | cons v t =>
      have : ldrop (v :: t) (n + 1) = ldrop t n := rfl
      rw [this, ih]
      simp
def ltake (l : List Value) (n : Nat) : List Value :=
  Nat.rec (motive := fun _ => List Value → List Value) (fun _ => []) (fun _ ih l => List.rec (motive := fun _ => List Value) [] (fun v t _ => v :: ih t) l) n l
theorem ltake_eq (l : List Value) (n : Nat) : ltake l n = l.take n := by
  induction n generalizing l with
  | zero => rfl
  | succ n ih =>
    cases l with
    | nil => rfl
    | cons v t =>
      have : ltake (v :: t) (n + 1) = v :: ltake t n := rfl
      rw [this, ih]
      simp
def lfits (l : List Value) (m : Nat) : Bool := Nat.beq m 0 || (lgetO l (m - 1)).isSome
theorem lfits_iff (l : List Value) (m : Nat) : lfits l m = true ↔ m ≤ l.length := by
  unfold lfits
  rw [lgetO_eq]
  cases m with
  | zero => simp
  | succ m => simp [Nat.succ_le_iff]
def loadF (agg : Bool) (n off : Nat) : Obj → Option Value
  | .cells c _ _ => if agg then (if lfits c.toList (off + n) then some (.agg ⟨ltake (ldrop c.toList off) n⟩) else none) else lgetO c.toList off
  | _ => none
theorem loadF_cells (agg : Bool) (n off : Nat) (c : Array Value) (e : TypeId) (f : Nat × Nat) : loadF agg n off (.cells c e f) = if agg then (if off + n ≤ c.size then some (.agg (c.extract off (off + n))) else none) else c[off]? := by
  unfold loadF
  simp only [lgetO_eq, Array.getElem?_toList, ltake_eq, ldrop_eq]
  congr 1
  by_cases h : off + n ≤ c.size
  · rw [if_pos h, if_pos ((lfits_iff _ _).2 (by simpa using h))]
    congr 2
    apply Array.ext'
    simp
  · rw [if_neg h, if_neg (by rw [lfits_iff]; simpa using h)]
theorem isAgg_run {t : TypeId} {b : Bool} (h : aggD P t = some b) (w : World) : (isAgg t).run P w = .ok b w := by
  unfold aggD at h
  unfold isAgg
  split at h
  · rename_i e; cases h; simp [run_underlying e]
  · rename_i e; cases h; simp [run_underlying e]
  · rename_i d n1 n2 e
    cases h
    simp only [Sem.run_bind, run_underlying e, Result.andThen_ok]
    rfl
  · cases h
theorem loadVar_obs {t : TypeId} {b r x off : Nat} {i : TypeInfo} {ag : Bool} {w : World} {ob : Obj} {v : Value} (ha : aggD P t = some ag) (hi : P.info? t = some i) (hob : OR P p x ob w.heap[r]?) (hv : loadF ag i.size off ob = some v) :
    ∃ v', VR p v v' ∧ (loadVar t ⟨r, off, none⟩).run P w = .ok v' w := by
  unfold loadF at hv
  split at hv
  · rename_i c e f
    replace hv := (loadF_cells ag i.size off c e f).symm.trans hv
    obtain ⟨hf, c', hc', hs1, hs2, _, hs3⟩ := hob
    unfold loadVar
    simp only [Sem.run_bind, isAgg_run ha, Result.andThen_ok]
    cases ag with
    | true =>
      simp only [if_true] at hv
      split at hv
      · rename_i hle
        cases hv
        have hl : (loadCells ⟨r, off, none⟩ i.size).run P w = .ok (c'.extract off (off + i.size)) w := by
          have hlen : (c'.extract off (off + i.size)).toList.length = i.size := by simp; omega
          have := run_loadCells_list (P := P) w ⟨r, off, none⟩ (c'.extract off (off + i.size)).toList (fun j u hj => by
            rw [cell_at hc']
            rw [Array.getElem?_toList] at hj
            rw [Array.getElem?_extract] at hj
            split at hj
            · exact hj
            · cases hj)
          rw [hlen] at this
          rw [this]
        refine ⟨.agg (c'.extract off (off + i.size)), .of_ar ⟨by simp; omega, fun k u u' h1 h2 => ?_⟩, ?_⟩
        · rw [Array.getElem?_extract] at h1 h2
          split at h1
          · split at h2
            · exact hs3 _ _ _ h1 h2
            · cases h2
          · cases h1
        · simp [sizeOf, run_typeInfo _ hi, hl]
      · cases hv
    | false =>
      simp only [Bool.false_eq_true, if_false] at hv
      have hlt : off < c.size := (Array.getElem?_eq_some_iff.1 hv).1
      have hlt' : off < c'.size := by omega
      have e' := Array.getElem?_eq_getElem hlt'
      refine ⟨c'[off], hs3 _ _ _ hv e', ?_⟩
      have := cell_at (k := 0) (off := off) hc'
      simp only [Addr.add, if_true, Nat.add_zero] at this
      simp only [Bool.false_eq_true, if_false]
      unfold load
      simp [Sem.run, this, e']
  · cases hv
theorem cl_load (h : AR p T a.tmps) {t : TypeId} {x : Operand} {b off : Nat} {i : TypeInfo} {ag : Bool} (ho : o.op = .load t x) (hx : okO x = true) (ex : aev T x = .pointer (some ⟨b, off, none⟩)) (ha : aggD P t = some ag) (hi : P.info? t = some i) :
    ClOK P p a o (.obs b (loadF ag i.size off)) := by
  have hx' := ev_vr h hx
  rw [ex] at hx'
  generalize hev : a.eval x = u at hx'
  cases hx' with
  | ptr hp =>
    rename_i r s
    refine ⟨r, s, hp, fun w ob v hob hv => ?_⟩
    obtain ⟨v', h1, h2⟩ := loadVar_obs (b := b) ha hi hob hv
    refine ⟨v', h1, ?_⟩
    unfold execOp
    simp only [ho, hev, Instr.loadAt, Instr.sureAddr, Sem.run_bind, Sem.run_pure, Result.andThen_ok, h2]
def nilOk : Value → Bool
  | .pointer (some _) | .func (.func _) _ _ => true
  | _ => false
theorem cl_nilCheck (h : AR p T a.tmps) {x : Operand} (ho : o.op = .nilCheck x) (hx : okO x = true) (hn : nilOk (aev T x) = true) : ClOK P p a o (.pure (aev T x)) := by
  have hx' := ev_vr h hx
  refine ⟨a.eval x, hx', fun w => ?_⟩
  unfold execOp
  simp only [ho]
  generalize aev T x = u at hx' hn
  generalize a.eval x = u' at hx'
  cases hx' with
  | ptr h => rfl
  | func hy hs hh hs' hh' =>
    rename_i fn a1 a1' c1 c1'
    cases fn with
    | func f => rfl
    | _ => cases hn
  | _ => cases hn
end
end
end Go.Proofs.YtampcckdbjbllaaGreatDoor.Ev
set_option linter.unusedVariables false
set_option linter.unusedSectionVars false
set_option linter.unusedSimpArgs false
namespace Go.Proofs.YtampcckdbjbllaaGreatDoor.Ev
noncomputable section
open Go.RowKit
variable [Sym]

section
variable {P : Program} {p : Mp} {T : Array Value} {a : Act} {o : Oper}

theorem ev_plain (h : AR p T a.tmps) {x : Operand} (hx : okO x = true) (hp : plain (aev T x) = true) : a.eval x = aev T x := plain_eq hp (ev_vr h hx)

/-- What works on plain values alone does the same. -/
theorem cl_plain (e : execOp a.eval o = execOp (aev T) o) {v : Value} (hv : prun P (execOp (aev T) o) = some (.value v)) (hp : plain v = true) : ClOK P p a o (.pure v) :=
  ⟨v, plain_vr hp, fun w => by rw [e]; exact prun_run hv w⟩
theorem cl_binOp (h : AR p T a.tmps) {op : BinOp} {t u : TypeId} {x y : Operand} (ho : o.op = .binOp op t x y u) (hx : okO x = true) (hy : okO y = true) (px : plain (aev T x) = true) (py : plain (aev T y) = true)
    {v : Value} (hv : prun P (execOp (aev T) o) = some (.value v)) (hp : plain v = true) : ClOK P p a o (.pure v) := by
  refine cl_plain ?_ hv hp
  unfold execOp
  simp only [ho, ev_plain h hx px, ev_plain h hy py]
theorem cl_unOp (h : AR p T a.tmps) {op : UnOp} {t : TypeId} {x : Operand} (ho : o.op = .unOp op t x) (hx : okO x = true) (px : plain (aev T x) = true)
    {v : Value} (hv : prun P (execOp (aev T) o) = some (.value v)) (hp : plain v = true) : ClOK P p a o (.pure v) := by
  refine cl_plain ?_ hv hp
  unfold execOp
  simp only [ho, ev_plain h hx px]
theorem cl_convert (h : AR p T a.tmps) {t u : TypeId} {x : Operand} (ho : o.op = .convert t u x) (hx : okO x = true) (px : plain (aev T x) = true)
    {v : Value} (hv : prun P (execOp (aev T) o) = some (.value v)) (hp : plain v = true) : ClOK P p a o (.pure v) := by
  refine cl_plain ?_ hv hp
  unfold execOp
  simp only [ho, ev_plain h hx px]
theorem cl_builtin (h : AR p T a.tmps) {b : Builtin} {args : Array Operand} {ts : Array TypeId} (ho : o.op = .call { callee := .builtin b, args := args, argTypes := ts }) (hx : args.all (fun x => okO x && plain (aev T x)) = true)
    {v : Value} (hv : prun P (execOp (aev T) o) = some (.value v)) (hp : plain v = true) : ClOK P p a o (.pure v) := by
  refine cl_plain ?_ hv hp
  have e : args.map a.eval = args.map (aev T) := by
    refine Array.map_congr_left fun x hm => ?_
    have := Array.all_eq_true'.1 hx x hm
    simp only [Bool.and_eq_true] at this
    exact ev_plain h this.1 this.2
  unfold execOp
  simp only [ho, resolve, e]

theorem cl_fieldAddr (h : AR p T a.tmps) {s : TypeId} {x : Operand} {f : Nat} (ho : o.op = .fieldAddr s x f) (hx : okO x = true) {v : Value} (hv : prun P (execOp (aev T) o) = some (.value v)) : ClOK P p a o (.pure v) := by
  refine cl_of_ps (p := p) ?_ hv
  unfold execOp
  simp only [ho]
  exact ps_value (ps_fieldAt (ev_vr h hx) s f)
theorem cl_field (h : AR p T a.tmps) {s : TypeId} {x : Operand} {f : Nat} (ho : o.op = .field s x f) (hx : okO x = true) {v : Value} (hv : prun P (execOp (aev T) o) = some (.value v)) : ClOK P p a o (.pure v) := by
  refine cl_of_ps (p := p) ?_ hv
  unfold execOp
  simp only [ho]
  exact ps_value (ps_field (ev_vr h hx) s f)
theorem cl_extract (h : AR p T a.tmps) {x : Operand} {f : Nat} (ho : o.op = .extract x f) (hx : okO x = true) {v : Value} (hv : prun P (execOp (aev T) o) = some (.value v)) : ClOK P p a o (.pure v) := by
  refine cl_of_ps (p := p) ?_ hv
  unfold execOp
  simp only [ho]
  exact ps_value (ps_extract (ev_vr h hx) f)
theorem cl_makeInterface (h : AR p T a.tmps) {t : TypeId} {x : Operand} (ho : o.op = .makeInterface t x) (hx : okO x = true) {v : Value} (hv : prun P (execOp (aev T) o) = some (.value v)) : ClOK P p a o (.pure v) := by
  refine cl_of_ps (p := p) ?_ hv
  unfold execOp
  simp only [ho]
  exact ps_value (ps_makeInterface (ev_vr h hx) t)

def AdR (p : Mp) (x x' : Option Addr) : Prop := (x = none ∧ x' = none) ∨ ∃ a a', x = some a ∧ x' = some a' ∧ ∃ r s, p a.block = some (r, s) ∧ a' = ⟨r, a.off, a.spot⟩
theorem boundsPanic_none {α : Type} (k : IntKind) (x y : Int) (c : BoundsCode) : prun P (boundsPanic k x y c : Sem α) = none := by
  unfold boundsPanic
  dsimp only
  split
  · rw [prun_bind]; rfl
  · rw [prun_bind]; rfl
def idxTail (t : TypeId) (k : IntKind) (n : Int) (base : Option Addr) (len : Nat) (elem : TypeId) : Sem Value := do
  let tiny := len ≤ 1 && (match ← underlying t with | .array .. => true | _ => false)
  match base with
  | some a =>
    if 0 ≤ n ∧ n < len then pure (.pointer (some (a.add (n.toNat * (← sizeOf elem)))))
    else if tiny then unsupported (.noEntry "op/indexAddr.an index out of range at an array of length 0 or 1 (ledger 616)")
    else boundsPanic k n len .index
  | none => boundsPanic k n 0 .index
theorem ps_idxTail {b b' : Option Addr} (hb : AdR p b b') (t : TypeId) (k : IntKind) (n : Int) (len : Nat) (elem : TypeId) : PS P (VR p) (idxTail t k n b len elem) (idxTail t k n b' len elem) := by
  unfold idxTail
  refine PS.same_bind fun d' => ?_
  rcases hb with ⟨rfl, rfl⟩ | ⟨ad, ad', rfl, rfl, hr⟩
  · exact PS.none_ (boundsPanic_none _ _ _ _)
  · dsimp only
    by_cases hin : 0 ≤ n ∧ n < (len : Int)
    · rw [if_pos hin, if_pos hin]
      exact PS.same_bind fun s => PS.pure (vr_ptr (add_rel hr _))
    · rw [if_neg hin]
      refine PS.none_ ?_
      generalize (decide (len ≤ 1) && _) = tb
      cases tb
      · exact boundsPanic_none _ _ _ _
      · rfl
theorem ps_indexAt {v v' i i' : Value} (h : VR p v v') (hi : VR p i i') (t : TypeId) : PS P (VR p) (Instr.indexAt t v i) (Instr.indexAt t v' i') := by
  unfold Instr.indexAt
  refine (ps_asInt hi).bind fun r r' e => ?_
  subst e
  obtain ⟨k, n⟩ := r
  refine PS.same_bind fun d => ?_
  cases d with
  | array len elem => exact (ps_sure h).bind fun a a' ha => ps_idxTail (.inr ⟨a, a', rfl, rfl, ha⟩) t k n len elem
  | slice elem =>
    cases h with
    | nils m c => exact ps_idxTail (.inl ⟨rfl, rfl⟩) t k n m elem
    | slice h h1 =>
      rename_i b1 r1 x1 o1 s1 m c c'
      exact ps_idxTail (b := some ⟨b1, o1, s1⟩) (b' := some ⟨r1, o1, s1⟩) (.inr ⟨_, _, rfl, rfl, _, _, h, rfl⟩) t k n m elem
    | _ => exact PS.halt
  | _ => exact PS.halt
theorem cl_indexAddr (h : AR p T a.tmps) {t : TypeId} {x i : Operand} (ho : o.op = .indexAddr t x i) (hx : okO x = true) (hi : okO i = true) {v : Value} (hv : prun P (execOp (aev T) o) = some (.value v)) : ClOK P p a o (.pure v) := by
  refine cl_of_ps (p := p) ?_ hv
  unfold execOp
  simp only [ho]
  exact ps_value (ps_indexAt (ev_vr h hx) (ev_vr h hi) t)
theorem ps_index {v v' i i' : Value} (h : VR p v v') (hi : VR p i i') (t : TypeId) : PS P (VR p) (Instr.index t v i) (Instr.index t v' i') := by
  unfold Instr.index
  refine (ps_asInt hi).bind fun r r' e => ?_
  subst e
  obtain ⟨k, n⟩ := r
  refine PS.same_bind fun d => ?_
  cases h with
  | agg hs hh =>
    cases d with
    | array len elem =>
      dsimp only
      split
      · exact PS.same_bind fun s => ps_part ⟨hs, hh⟩ _ _
      · exact PS.none_ (boundsPanic_none _ _ _ _)
    | _ => exact PS.halt
  | string s =>
    cases d with
    | string =>
      dsimp only
      generalize (if 0 ≤ n then s[n.toNat]? else none) = q
      cases q with
      | some b => exact PS.pure (.int _ _)
      | none => exact PS.none_ (boundsPanic_none _ _ _ _)
    | _ => exact PS.halt
  | _ => cases d <;> exact PS.halt
theorem cl_index (h : AR p T a.tmps) {t : TypeId} {x i : Operand} (ho : o.op = .index t x i) (hx : okO x = true) (hi : okO i = true) {v : Value} (hv : prun P (execOp (aev T) o) = some (.value v)) : ClOK P p a o (.pure v) := by
  refine cl_of_ps (p := p) ?_ hv
  unfold execOp
  simp only [ho]
  exact ps_value (ps_index (ev_vr h hx) (ev_vr h hi) t)

/-- Whether something is nil, asked by '==' or '!='. -/
def nilEq : TypeDesc → Value → Value → Option Bool
  | .pointer _, .pointer (some _), .pointer none => some false
  | .pointer _, .pointer none, .pointer (some _) => some false
  | .slice _, .slice (some _) _ _, .slice none _ _ => some false
  | .slice _, .slice none _ _, .slice (some _) _ _ => some false
  | .slice _, .chan none, .slice none _ _ => some false
  | .slice _, .slice none _ _, .chan none => some false
  | .map _ _, .map (some _), .map none => some false
  | .map _ _, .map none, .map (some _) => some false
  | .func _ _ _, .func _ _ _, .nilFunc => some false
  | .func _ _ _, .nilFunc, .func _ _ _ => some false
  | .interface _, .iface _ _, .nilIface => some false
  | .interface _, .nilIface, .iface _ _ => some false
  | _, _, _ => none
theorem nilEq_run {d : TypeDesc} {t : TypeId} {v u v' u' : Value} (hd : P.underlying t = some d) (hv : VR p v v') (hu : VR p u u') (hn : nilEq d v u = some false) (w : World) : (Op.equal t v' u').run P w = .ok false w := by
  unfold Op.equal Op.maxDepth
  unfold Op.equalIn
  simp only [Sem.run_bind, run_underlying hd, Result.andThen_ok]
  unfold nilEq at hn
  split at hn <;> first
    | (cases hn; done)
    | (cases hv <;> cases hu <;> rfl)
theorem cl_nilEq (h : AR p T a.tmps) {op : BinOp} {t u : TypeId} {x y : Operand} {d : TypeDesc} (ho : o.op = .binOp op t x y u) (hop : op = .eql ∨ op = .neq) (hx : okO x = true) (hy : okO y = true) (hd : P.underlying t = some d) (hn : nilEq d (aev T x) (aev T y) = some false) :
    ClOK P p a o (.pure (.bool (op == .neq))) := by
  refine ⟨.bool (op == .neq), .bool _, fun w => ?_⟩
  have hx' := ev_vr h hx
  have hy' := ev_vr h hy
  have hr := nilEq_run hd hx' hy' hn w
  unfold execOp
  simp only [ho]
  generalize aev T x = v at hx' hn
  generalize aev T y = v2 at hy' hn
  generalize a.eval x = v' at hx' hr
  generalize a.eval y = v2' at hy' hr
  have hg : (eqGuard op t x y v' v2').run P w = .ok () w := by
    unfold eqGuard
    unfold nilEq at hn
    split at hn <;> first
      | (cases hn; done)
      | (cases hx' <;> cases hy' <;> rcases hop with rfl | rfl <;> rfl)
  have hb : (binOp op t v' v2').run P w = .ok (.bool (op == .neq)) w := by
    unfold nilEq at hn
    split at hn <;> first
      | (cases hn; done)
      | (cases hx' <;> cases hy' <;> rcases hop with rfl | rfl <;> simp [binOp, hr] <;> rfl)
  simp only [Sem.run_bind, hg, hb, Result.andThen_ok]
  rfl
end
end
end Go.Proofs.YtampcckdbjbllaaGreatDoor.Ev
