/-
  What operations do, on abstract values (3): slices, functions, maps, literals.
  What operations do, on abstract values (4): rows, maps, lengths, strings of bytes.
  What operations do, on abstract values (5): maps, stores.
  What operations do, on abstract values (6): maps that change, append, copy, clear.
-/
import Derived.Test.YtampcckdbjbllaaGreatDoorEa
import Derived.Test.YtampcckdbjbllaaGreatDoorKa
import Derived.Maps.AppendAt
import Derived.Lib.AppendZeros
set_option linter.unusedVariables false
set_option linter.unusedSectionVars false
set_option linter.unusedSimpArgs false
set_option linter.unusedVariables false
set_option linter.unusedSectionVars false
set_option linter.unusedSimpArgs false
namespace Go.Proofs.YtampcckdbjbllaaGreatDoor.Ev
noncomputable section
open Go.RowKit
variable [Sym]

/-- A bound of a slice that is told, or is not. -/
def bnd (T : Array Value) (d : Nat) : Option Operand → Option Nat
  | none => some d
  | some x => match aev T x with
    | .int _ i => if 0 ≤ i then some i.toNat else none
    | _ => none

section
variable {P : Program} {p : Mp} {T : Array Value} {a : Act} {o : Oper}

theorem bnd_run (h : AR p T a.tmps) {d n m : Nat} {x : Option Operand} (hx : x.all okO = true) (hb : bnd T d x = some n) (hm : n ≤ m) (code : BoundsCode) (w : World) :
    (match x.map a.eval with | some v => Instr.sliceBound v m code | none => pure d).run P w = .ok n w := by
  cases x with
  | none => simp only [bnd, Option.some.injEq] at hb; subst hb; rfl
  | some x =>
    simp only [bnd] at hb
    split at hb
    · rename_i k i e
      split at hb
      · rename_i h0
        cases hb
        have hv := ev_vr (p := p) h (x := x) (by simpa using hx)
        rw [e] at hv
        simp only [Option.map_some]
        generalize a.eval x = u at hv
        cases hv
        have hle : 0 ≤ i ∧ i ≤ (m : Int) := ⟨h0, by omega⟩
        simp only [Instr.sliceBound, asIntOf, Sem.run_bind, Sem.run_pure, Result.andThen_ok, if_pos hle]
      · cases hb
    · cases hb
theorem bounds_run (h : AR p T a.tmps) {lo hi : Option Operand} {len cap l hh : Nat} (hlo : lo.all okO = true) (hhi : hi.all okO = true) (hl : bnd T 0 lo = some l) (hh' : bnd T len hi = some hh) (h1 : l ≤ hh) (h2 : hh ≤ cap) (w : World) :
    (Instr.sliceBounds true len cap (lo.map a.eval) (hi.map a.eval) none).run P w = .ok (l, hh, cap) w := by
  have k1 := bnd_run (P := P) h hlo hl (m := hh) (by omega) .sliceB w
  have k2 := bnd_run (P := P) h hhi hh' (m := cap) (by omega) .sliceAcap w
  unfold Instr.sliceBounds
  cases hi with
  | none =>
    have e : len = hh := by simpa [bnd] using hh'
    subst e
    cases lo with
    | none =>
      have e : 0 = l := by simpa [bnd] using hl
      subst e; rfl
    | some y =>
      simp only [Option.map_some] at k1
      simp [k1]
  | some z =>
    simp only [Option.map_some] at k2
    cases lo with
    | none =>
      have e : 0 = l := by simpa [bnd] using hl
      subst e; simp [k2]
    | some y =>
      simp only [Option.map_some] at k1
      simp [k1, k2]
theorem bounds3_run (h : AR p T a.tmps) {lo : Option Operand} {y z : Operand} {len cap l hh m : Nat} (hlo : lo.all okO = true) (hhi : okO y = true) (hmx : okO z = true) (hl : bnd T 0 lo = some l) (hh' : bnd T len (some y) = some hh) (hm' : bnd T cap (some z) = some m) (h1 : l ≤ hh) (h2 : hh ≤ m) (h3 : m ≤ cap) (w : World) :
    (Instr.sliceBounds true len cap (lo.map a.eval) (some (a.eval y)) (some (a.eval z))).run P w = .ok (l, hh, m) w := by
  have k1 := bnd_run (P := P) h hlo hl (m := hh) (by omega) .slice3C w
  have k2 := bnd_run (P := P) h (x := some y) (by simpa using hhi) hh' (m := m) (by omega) .slice3B w
  have k3 := bnd_run (P := P) h (x := some z) (by simpa using hmx) hm' (m := cap) h3 .slice3Acap w
  simp only [Option.map_some] at k2 k3
  unfold Instr.sliceBounds
  cases lo with
  | none =>
    have e : 0 = l := by simpa [bnd] using hl
    subst e; simp [k2, k3]
  | some u =>
    simp only [Option.map_some] at k1
    simp [k1, k2, k3]
theorem ad_add {b r s off k : Nat} {sp : Option Nat} (hp : p b = some (r, s)) : p ((⟨b, off, sp⟩ : Addr).add k).block = some (r, s) ∧ (⟨r, off, sp⟩ : Addr).add k = ⟨r, ((⟨b, off, sp⟩ : Addr).add k).off, ((⟨b, off, sp⟩ : Addr).add k).spot⟩ := by
  obtain ⟨r', x', hp', ea'⟩ := add_rel (p := p) (a := ⟨b, off, sp⟩) (a' := ⟨r, off, sp⟩) ⟨r, s, hp, rfl⟩ k
  have hb : ((⟨b, off, sp⟩ : Addr).add k).block = b := by unfold Addr.add; split <;> rfl
  refine ⟨by rw [hb]; exact hp, ?_⟩
  rw [hb, hp] at hp'
  cases hp'
  exact ea'
theorem cl_slice (h : AR p T a.tmps) {t elem : TypeId} {x : Operand} {lo hi : Option Operand} {i : TypeInfo} {ad : Addr} {len cap l hh : Nat} (ho : o.op = .slice t x lo hi none) (hx : okO x = true) (hlo : lo.all okO = true) (hhi : hi.all okO = true)
    (ht : P.underlying t = some (.slice elem)) (hinf : P.info? elem = some i) (ex : aev T x = .slice (some ad) len cap) (hl : bnd T 0 lo = some l) (hh' : bnd T len hi = some hh) (h1 : l ≤ hh) (h2 : hh ≤ rcap cap) (h4 : l = 0 ∨ l < rcap cap) :
    ClOK P p a o (.pure (.slice (some (ad.add (l * i.size))) (hh - l) (cap - l))) := by
  have hv := ev_vr (p := p) h hx
  rw [ex] at hv
  generalize ea : a.eval x = u at hv
  cases hv with
  | slice hp q1 =>
    rename_i b r s off sp c'
    have q2 := q1.le
    obtain ⟨hp', ea'⟩ := ad_add (p := p) (off := off) (sp := sp) (k := l * i.size) hp
    refine ⟨.slice (some ((⟨r, off, sp⟩ : Addr).add (l * i.size))) (hh - l) (c' - l), ?_, fun w => ?_⟩
    · rw [ea']
      exact .slice hp' (q1.sub (by omega))
    · have e2 := bounds_run (P := P) (cap := c') h hlo hhi hl hh' h1 (by omega) w
      unfold execOp
      simp only [ho, ea, Instr.sliceAt, Sem.run_bind, run_underlying ht, Result.andThen_ok, Instr.slice, Option.map_none, e2, sizeOf, run_typeInfo w hinf, Sem.run_pure]
      rcases h4 with h4 | h4
      · subst h4
        simp only [Nat.zero_mul, Nat.sub_zero, Option.map_some]
        split <;> simp [Addr.add]
      · rw [if_neg (by omega)]
        rfl
/-- The empty rest of a slice: where it begins depends on the room that is left. -/
theorem cl_slice_end (h : AR p T a.tmps) {t elem : TypeId} {x : Operand} {lo hi : Option Operand} {i : TypeInfo} {ad : Addr} {len cap l : Nat} (ho : o.op = .slice t x lo hi none) (hx : okO x = true) (hlo : lo.all okO = true) (hhi : hi.all okO = true)
    (ht : P.underlying t = some (.slice elem)) (hinf : P.info? elem = some i) (ex : aev T x = .slice (some ad) len cap) (hl : bnd T 0 lo = some l) (hh' : bnd T len hi = some l) (h2 : l ≤ len) (h3 : len ≤ rcap cap) :
    ClOK P p a o (.pure (.chan none)) := by
  have hv := ev_vr (p := p) h hx
  rw [ex] at hv
  generalize ea : a.eval x = u at hv
  cases hv with
  | slice hp q1 =>
    rename_i b r s off sp c'
    have q2 := q1.le
    have e2 : ∀ w, _ := fun w => bounds_run (P := P) (cap := c') h hlo hhi hl hh' (Nat.le_refl _) (by omega) w
    by_cases hc : c' = l
    · refine ⟨.slice (some ⟨r, off, sp⟩) 0 (c' - l), .mt _ _, fun w => ?_⟩
      unfold execOp
      simp only [ho, ea, Instr.sliceAt, Sem.run_bind, run_underlying ht, Result.andThen_ok, Instr.slice, Option.map_none, e2, sizeOf, run_typeInfo w hinf, Sem.run_pure]
      rw [if_pos (by omega), Nat.sub_self]
    · refine ⟨.slice (some ((⟨r, off, sp⟩ : Addr).add (l * i.size))) 0 (c' - l), .mt _ _, fun w => ?_⟩
      unfold execOp
      simp only [ho, ea, Instr.sliceAt, Sem.run_bind, run_underlying ht, Result.andThen_ok, Instr.slice, Option.map_none, e2, sizeOf, run_typeInfo w hinf, Sem.run_pure]
      rw [if_neg (by omega), Nat.sub_self]
      rfl
theorem cl_slice3 (h : AR p T a.tmps) {t elem : TypeId} {x y z : Operand} {lo : Option Operand} {i : TypeInfo} {ad : Addr} {len cap l hh m : Nat} (ho : o.op = .slice t x lo (some y) (some z)) (hx : okO x = true) (hlo : lo.all okO = true) (hhi : okO y = true) (hmx : okO z = true)
    (ht : P.underlying t = some (.slice elem)) (hinf : P.info? elem = some i) (ex : aev T x = .slice (some ad) len cap) (hl : bnd T 0 lo = some l) (hh' : bnd T len (some y) = some hh) (hm' : bnd T cap (some z) = some m) (h1 : l ≤ hh) (h2 : hh ≤ m) (h3 : m ≤ rcap cap) :
    ClOK P p a o (.pure (.slice (some (if m = l then ad else ad.add (l * i.size))) (hh - l) (m - l + BIG))) := by
  have hv := ev_vr (p := p) h hx
  rw [ex] at hv
  generalize ea : a.eval x = u at hv
  cases hv with
  | slice hp q1 =>
    rename_i b r s off sp c'
    have q2 := q1.le
    obtain ⟨hp', ea'⟩ := ad_add (p := p) (off := off) (sp := sp) (k := l * i.size) hp
    have hm2 : bnd T c' (some z) = some m := hm'
    refine ⟨.slice (some (if m = l then ⟨r, off, sp⟩ else (⟨r, off, sp⟩ : Addr).add (l * i.size))) (hh - l) (m - l), ?_, fun w => ?_⟩
    · by_cases hml : m = l
      · rw [if_pos hml, if_pos hml]
        exact .slice hp (CapR.just _ _)
      · rw [if_neg hml, if_neg hml, ea']
        exact .slice hp' (CapR.just _ _)
    · have e2 := bounds3_run (P := P) (cap := c') h hlo hhi hmx hl hh' hm2 h1 h2 (by omega) w
      unfold execOp
      simp only [ho, ea, Instr.sliceAt, Sem.run_bind, run_underlying ht, Result.andThen_ok, Instr.slice, Option.map_some, e2, sizeOf, run_typeInfo w hinf, Sem.run_pure]
      split <;> rfl
theorem cl_sliceArr (h : AR p T a.tmps) {t elem : TypeId} {x : Operand} {i : TypeInfo} {ad : Addr} {n : Nat} (ho : o.op = .slice t x none none none) (hx : okO x = true)
    (ht : P.underlying t = some (.array n elem)) (hinf : P.info? elem = some i) (ex : aev T x = .pointer (some ad)) :
    ClOK P p a o (.pure (.slice (some ad) n (n + BIG))) := by
  have hv := ev_vr (p := p) h hx
  rw [ex] at hv
  generalize ea : a.eval x = u at hv
  cases hv with
  | ptr hp =>
    rename_i b r s off sp
    refine ⟨.slice (some ⟨r, off, sp⟩) n n, .slice hp (CapR.just _ _), fun w => ?_⟩
    unfold execOp
    simp only [ho, ea, Instr.sliceAt, Instr.sureAddr, Instr.sliceBounds, Sem.run_bind, run_underlying ht, Result.andThen_ok, Option.map_none, sizeOf, run_typeInfo w hinf, Sem.run_pure, Nat.zero_mul, Nat.sub_zero]
    have : (⟨r, off, sp⟩ : Addr).add 0 = ⟨r, off, sp⟩ := rfl
    rw [this]
    simp
theorem cl_makeFunc (h : AR p T a.tmps) {f : FuncId} {first captured : Array Operand} (ho : o.op = .makeFunc (.func f) first captured) (h1 : first.all okO = true) (h2 : captured.all okO = true) :
    ClOK P p a o (.pure (.func (.func f) (first.map (aev T)) (captured.map (aev T)))) := by
  refine ⟨.func (.func f) (first.map a.eval) (captured.map a.eval), ?_, fun w => by unfold execOp; simp only [ho, Instr.makeFunc]; rfl⟩
  have r1 : AR p (first.map (aev T)) (first.map a.eval) := AR.map fun x hx => ev_vr h (Array.all_eq_true'.1 h1 x hx)
  have r2 : AR p (captured.map (aev T)) (captured.map a.eval) := AR.map fun x hx => ev_vr h (Array.all_eq_true'.1 h2 x hx)
  exact .func (by intro l; nofun) r1.1 r1.2 r2.1 r2.2
theorem cl_makeMap {t : TypeId} (ho : o.op = .makeMap t none) : ClOK P p a o (.new (.map #[] 0) (fun b => .map (some b))) := by
  refine ⟨.map #[] 0, fun b => .map (some b), fun w => ?_, fun b r hb => ⟨⟨#[], rfl, rfl, fun i v v' e => by simp at e⟩, .map (Mp.set_eq _ _ _)⟩⟩
  unfold execOp
  simp only [ho, Instr.makeMap, Option.map_none, Sem.run_bind, Sem.run_pure, Result.andThen_ok]
  rfl

/-- The parts of a literal. -/
def PR (p : Mp) : List (Nat × Value) → List (Nat × Value) → Prop
  | [], [] => True
  | (i, v) :: r, (j, u) :: s => i = j ∧ VR p v u ∧ PR p r s
  | _, _ => False
theorem foldl_rel (off : Nat) : ∀ (l l' : List Value) (k : Nat) (cs cs' : Array Value), l.length = l'.length → (∀ (i : Nat) (v v' : Value), l[i]? = some v → l'[i]? = some v' → VR p v v') → AR p cs cs' →
    AR p ((l.zipIdx k).foldl (fun cs (x : Value × Nat) => cs.setIfInBounds (off + x.2) x.1) cs) ((l'.zipIdx k).foldl (fun cs (x : Value × Nat) => cs.setIfInBounds (off + x.2) x.1) cs')
  | [], [], _, _, _, _, _, h => h
  | v :: r, v' :: r', k, cs, cs', hl, hv, h => by
    simp only [List.zipIdx_cons, List.foldl_cons]
    exact foldl_rel off r r' (k + 1) _ _ (by simpa using hl) (fun i u u' e e' => hv (i + 1) u u' (by simpa using e) (by simpa using e')) (h.set _ (hv 0 v v' rfl rfl))
  | [], _ :: _, _, _, _, hl, _, _ => by cases hl
  | _ :: _, [], _, _, _, hl, _, _ => by cases hl
theorem fill_rel (place : Nat → Option (Nat × Nat)) : ∀ (l l' : List (Nat × Value)) (cs cs' r : Array Value), PR p l l' → AR p cs cs' → Instr.fill place cs l = some r → ∃ r', Instr.fill place cs' l' = some r' ∧ AR p r r'
  | [], [], cs, cs', r, _, h, e => by
    simp only [Instr.fill, Option.some.injEq] at e ⊢
    subst e; exact ⟨_, rfl, h⟩
  | (i, v) :: l, (j, u) :: l', cs, cs', r, ⟨hij, hvu, hr⟩, h, e => by
    subst hij
    have hc := hvu.cells
    unfold Instr.fill at e ⊢
    cases hp : place i with
    | none => rw [hp] at e; cases e
    | some q =>
      obtain ⟨off, size⟩ := q
      rw [hp] at e
      simp only at e ⊢
      rw [← hc.1, ← h.1]
      split at e
      · cases e
      · rename_i hcond
        rw [if_neg hcond]
        refine fill_rel place l l' _ _ r hr ?_ e
        rw [← Array.foldl_toList, ← Array.foldl_toList, Array.toList_zipIdx, Array.toList_zipIdx]
        exact foldl_rel off _ _ 0 _ _ (by simpa using hc.1) (fun i v v' e e' => hc.2 i v v' (by simpa using e) (by simpa using e')) h
  | [], _ :: _, _, _, _, h, _, _ => h.elim
  | _ :: _, [], _, _, _, h, _, _ => h.elim
theorem pr_map (h : AR p T a.tmps) : ∀ (l : List (Nat × Operand)), (l.all fun x => okO x.2) = true → PR p (l.map fun x => (x.1, aev T x.2)) (l.map fun x => (x.1, a.eval x.2))
  | [], _ => trivial
  | x :: l, hl => by
    simp only [List.all_cons, Bool.and_eq_true] at hl
    exact ⟨rfl, ev_vr h hl.1, pr_map h l hl.2⟩

theorem ps_build {parts parts' : Array (Nat × Value)} (h : PR p parts.toList parts'.toList) (t : TypeId) {z : Value} (hz : prun P (zeroValue t) = some z) (hp : plain z = true) : PS P (VR p) (Instr.build t parts) (Instr.build t parts') := by
  unfold Instr.build
  refine PS.bind (R := fun x y => z = x ∧ x = y) (fun r hr => ⟨r, hr, by rw [hz] at hr; cases hr; exact ⟨rfl, rfl⟩⟩) fun x y hxy => ?_
  obtain ⟨e1, e2⟩ := hxy
  subst e1; subst e2
  have hzc : AR p z.cells z.cells := (plain_vr hp).cells
  dsimp only
  refine PS.same_bind fun d => ?_
  cases d with
  | struct fields =>
    dsimp only
    refine PS.same_bind fun places => ?_
    cases hf : Instr.fill (places[·]?) z.cells parts.toList with
    | none => exact PS.halt
    | some r =>
      obtain ⟨r', e, hr⟩ := fill_rel _ _ _ _ _ _ h hzc hf
      rw [e]
      exact PS.pure (.of_ar hr)
  | array n elem =>
    dsimp only
    refine PS.same_bind fun size => ?_
    cases hf : Instr.fill (fun i => some (i * size, size)) z.cells parts.toList with
    | none => exact PS.halt
    | some r =>
      obtain ⟨r', e, hr⟩ := fill_rel _ _ _ _ _ _ h hzc hf
      rw [e]
      exact PS.pure (.of_ar hr)
  | _ => exact PS.halt
theorem cl_build (h : AR p T a.tmps) {t : TypeId} {parts : Array (Nat × Operand)} (ho : o.op = .build t parts) (hx : (parts.toList.all fun x => okO x.2) = true) {z : Value} (hz : prun P (zeroValue t) = some z) (hp : plain z = true) {v : Value} (hv : prun P (execOp (aev T) o) = some (.value v)) :
    ClOK P p a o (.pure v) := by
  refine cl_of_ps (p := p) ?_ hv
  unfold execOp
  simp only [ho]
  refine ps_value (ps_build ?_ t hz hp)
  simpa using pr_map h parts.toList hx
end
end
end Go.Proofs.YtampcckdbjbllaaGreatDoor.Ev
set_option linter.unusedVariables false
set_option linter.unusedSectionVars false
set_option linter.unusedSimpArgs false
namespace Go.Proofs.YtampcckdbjbllaaGreatDoor.Ev
noncomputable section
open Go.RowKit
variable [Sym]

def zc (z : List Value) : Nat → List Value
  | 0 => []
  | n + 1 => z ++ zc z n
theorem wrap_nat {n : Nat} (h : n ≤ 1048576) : IntKind.i64.wrap (n : Int) = n := by
  rw [IntKind.wrap_i64]; omega
theorem zc_len (z : List Value) (n : Nat) : (zc z n).length = n * z.length := by
  induction n with
  | zero => simp [zc]
  | succ n ih => simp [zc, ih, Nat.succ_mul]; omega
theorem zc_at (z : List Value) : ∀ (n i : Nat), i < n * z.length → (zc z n)[i]? = z[i % z.length]?
  | 0, i, h => by omega
  | n + 1, i, h => by
    rw [Nat.succ_mul] at h
    unfold zc
    rw [List.getElem?_append]
    split
    · rename_i hi; rw [Nat.mod_eq_of_lt hi]
    · rename_i hi
      rw [zc_at z n _ (by omega)]
      congr 1
      exact (Nat.mod_eq_sub_mod (by omega)).symm
theorem zeros_eq (z : Array Value) (n : Nat) : (Array.range (n * z.size)).map (fun i => z[i % z.size]!) = (zc z.toList n).toArray := by
  apply Array.ext
  · simp [zc_len]
  · intro i h1 h2
    have hi : i < n * z.size := by simpa using h1
    have hz : 0 < z.size := by
      rcases Nat.eq_zero_or_pos z.size with h0 | h0
      · rw [h0] at hi; omega
      · exact h0
    have hm := Nat.mod_lt i hz
    have hlen : i < (zc z.toList n).length := by simpa [zc_len] using hi
    have e := zc_at z.toList n i (by simpa using hi)
    simp only [Array.getElem_map, Array.getElem_range, List.getElem_toArray]
    rw [getElem!_pos z _ hm]
    rw [List.getElem?_eq_getElem hlen] at e
    have e3 : z.toList[i % z.toList.length]? = some z[i % z.size] := by
      simp [Array.getElem?_eq_getElem hm]
    rw [e3] at e
    exact (Option.some.inj e).symm

section
variable {P : Program} {p : Mp} {T : Array Value} {a : Act} {o : Oper}

theorem zeroValue_run {t : TypeId} {i : TypeInfo} {z : Value} (hi : P.info? t = some i) (hz : i.zero = some z) (w : World) : (zeroValue t).run P w = .ok z w := by
  unfold zeroValue
  simp [run_typeInfo w hi, hz]
theorem zc_all {z : List Value} {f : Value → Bool} (h : z.all f = true) (n : Nat) : (zc z n).all f = true := by
  induction n with
  | zero => rfl
  | succ n ih => simp [zc, ih, h]
theorem zc_vr {q : Mp} {z : Array Value} (h : AR q z z) (n : Nat) : AR q (zc z.toList n).toArray (zc z.toList n).toArray := by
  induction n with
  | zero => exact AR.empty q
  | succ n ih =>
    have e : (zc z.toList (n + 1)).toArray = z ++ (zc z.toList n).toArray := by simp [zc]
    rw [e]
    exact h.append ih
def sliceTo (n c : Nat) (b : Nat) : Value := .slice (some ⟨b, 0, none⟩) n c
theorem vr_sliceTo {q : Mp} {b r : Nat} (h : q b = some (r, 0)) (n c : Nat) (hc : c < BIG) : VR q (sliceTo n c b) (.slice (some ⟨r, 0, none⟩) n c) := by
  exact VR.slice (n := n) (c := c) (c' := c) (o := 0) (s := none) h (CapR.nat hc)

theorem cl_makeSlice (h : AR p T a.tmps) {t elem : TypeId} {l c : Operand} {i : TypeInfo} {z : Value} {k1 k2 : IntKind} {n m : Nat} (ho : o.op = .makeSlice t l c) (hl : okO l = true) (hc : okO c = true) (ht : P.underlying t = some (.slice elem)) (hi : P.info? elem = some i) (hz : i.zero = some z) (hp : plain z = true)
    (hsz : z.cells.size = i.size) (el : aev T l = .int k1 (n : Int)) (ec : aev T c = .int k2 (m : Int)) (h1 : n ≤ m) (h2 : m ≤ 1048576) (h3 : i.bytes * m ≤ 140737488355328) :
    ClOK P p a o (.new (.cells (zc z.cells.toList m).toArray elem (0, 0)) (sliceTo n m)) := by
  refine ⟨.cells (zc z.cells.toList m).toArray elem (0, 0), fun r => .slice (some ⟨r, 0, none⟩) n m, fun w => ?_, fun b r hb => ⟨?_, vr_sliceTo (Mp.set_eq _ _ _) n m (by unfold BIG; omega)⟩⟩
  · have ea := ev_plain (p := p) h hl (by rw [el]; rfl)
    have eb := ev_plain (p := p) h hc (by rw [ec]; rfl)
    rw [el] at ea
    rw [ec] at eb
    have w1 : IntKind.i64.wrap (n : Int) = n := wrap_nat (by omega)
    have w2 : IntKind.i64.wrap (m : Int) = m := wrap_nat h2
    have b1 : ((i.bytes : Int) * (m : Int) > 2 ^ 48) = False := by
      rw [eq_iff_iff, iff_false]; rw [← Int.natCast_mul]; omega
    have b2 : ((i.bytes : Int) * (n : Int) > 2 ^ 48) = False := by
      have : i.bytes * n ≤ i.bytes * m := Nat.mul_le_mul_left _ h1
      rw [eq_iff_iff, iff_false]; rw [← Int.natCast_mul]; omega
    unfold execOp
    simp only [ho, ea, eb, Instr.makeSlice, Sem.run_bind, run_underlying ht, Result.andThen_ok, asInt, asIntOf, Sem.run_pure, run_typeInfo w hi, w1, w2]
    have c1 : (((m : Int) < 0 || (i.bytes : Int) * (m : Int) > 2 ^ 48) || (n : Int) < 0 || (n : Int) > m) = false := by
      simp only [b1]
      simp
      omega
    simp only [c1, Bool.false_eq_true, if_false]
    have ro : (askRoom (m * i.bytes)).run P w = .ok () w := by
      unfold askRoom roomBytes
      rw [if_neg (by rw [Nat.mul_comm]; omega)]
      rfl
    simp only [Sem.run_bind, Int.toNat_natCast, ro, Result.andThen_ok, sizeOf, run_typeInfo w hi, Sem.run_pure, Int.toNat_natCast]
    by_cases h0 : m * i.size = 0
    · have e0 : (zc z.cells.toList m).toArray = #[] := by
        have hl := zc_len z.cells.toList m
        rw [show z.cells.toList.length = i.size by simp [hsz], h0] at hl
        rw [List.eq_nil_of_length_eq_zero hl]
      rw [if_pos h0]
      have e1 : ∀ zero : Array Value, (Array.range 0).map (fun (x : Nat) => zero[x % zero.size]!) = #[] := fun zero => by simp
      simp only [Sem.run_bind, Sem.run_pure, Result.andThen_ok, h0, e0, e1, newRow]
      rfl
    · rw [if_neg h0]
      have zq := zeros_eq z.cells m
      rw [hsz] at zq
      simp only [Sem.run_bind, zeroValue_run hi hz, Result.andThen_ok, Sem.run_pure, hsz, zq, newRow]
      rfl
  · have := zc_vr (q := p.set b (r, 0)) (plain_vr hp).cells m
    exact or_cells this rfl

theorem cl_buildSlice (h : AR p T a.tmps) {t elem : TypeId} {len : Nat} {parts : Array (Nat × Operand)} {i : TypeInfo} {z : Value} {cs : Array Value} (ho : o.op = .buildSlice t len parts) (hx : (parts.toList.all fun x => okO x.2) = true) (ht : P.underlying t = some (.slice elem)) (hi : P.info? elem = some i) (hz : i.zero = some z) (hp : plain z = true)
    (hsz : z.cells.size = i.size) (hlen : len * i.size ≤ 16777216) (hlb : len < BIG) (hf : Instr.fill (fun k => some (k * i.size, i.size)) (zc z.cells.toList len).toArray (parts.toList.map fun x => (x.1, aev T x.2)) = some cs) :
    ClOK P p a o (.new (.cells cs elem (0, 0)) (sliceTo len len)) := by
  have hzv : AR p (zc z.cells.toList len).toArray (zc z.cells.toList len).toArray := zc_vr (plain_vr hp).cells len
  obtain ⟨cs', hf', hr⟩ := fill_rel (p := p) _ _ _ _ _ _ (pr_map h parts.toList hx) hzv hf
  refine ⟨.cells cs' elem (0, 0), fun r => .slice (some ⟨r, 0, none⟩) len len, fun w => ?_, fun b r hb => ⟨or_cells (hr.mono (Mp.le_set _ hb)) rfl, vr_sliceTo (Mp.set_eq _ _ _) len len hlb⟩⟩
  unfold execOp
  simp only [ho, Instr.buildSlice, Sem.run_bind, run_underlying ht, Result.andThen_ok, sizeOf, run_typeInfo w hi, Sem.run_pure]
  rw [if_neg (by omega)]
  have hm : (parts.map fun (x : Nat × Operand) => (x.1, a.eval x.2)).toList = parts.toList.map fun x => (x.1, a.eval x.2) := by simp
  by_cases h0 : len * i.size = 0
  · have e0 : (zc z.cells.toList len).toArray = #[] := by
      have hl := zc_len z.cells.toList len
      rw [show z.cells.toList.length = i.size by simp [hsz], h0] at hl
      rw [List.eq_nil_of_length_eq_zero hl]
    rw [e0] at hf'
    have e1 : ∀ zero : Array Value, (Array.range 0).map (fun (x : Nat) => zero[x % zero.size]!) = #[] := fun zero => by simp
    simp only [h0, if_true, Sem.run_bind, Sem.run_pure, Result.andThen_ok, e1, hm, hf']
    rfl
  · have zq := zeros_eq z.cells len
    rw [hsz] at zq
    simp only [if_neg h0, Sem.run_bind, zeroValue_run hi hz, Result.andThen_ok, Sem.run_pure]
    rw [hsz, zq, hm, hf']
    rfl

theorem cl_len_slice (h : AR p T a.tmps) {x : Operand} {t e : TypeId} {A : Option Addr} {n c : Nat} (ho : o.op = .call { callee := .builtin .len, args := #[x], argTypes := #[t] }) (hx : okO x = true) (ht : P.underlying t = some (.slice e)) (ex : aev T x = .slice A n c) :
    ClOK P p a o (.pure (.int .i64 n)) := by
  have hv := ev_vr (p := p) h hx
  rw [ex] at hv
  refine ⟨.int .i64 n, .int _ _, fun w => ?_⟩
  unfold execOp
  simp only [ho, resolve, List.map_toArray, List.map_cons, List.map_nil, Sem.run_bind, Sem.run_pure, Result.andThen_ok, invoke, builtin, Builtin.len_, List.getElem?_toArray, List.getElem?_cons_zero]
  generalize a.eval x = u at hv
  cases hv <;> simp [run_underlying ht, goInt]
theorem cl_len_mt (h : AR p T a.tmps) {x : Operand} {t e : TypeId} (ho : o.op = .call { callee := .builtin .len, args := #[x], argTypes := #[t] }) (hx : okO x = true) (ht : P.underlying t = some (.slice e)) (ex : aev T x = .chan none) :
    ClOK P p a o (.pure (.int .i64 0)) := by
  have hv := ev_vr (p := p) h hx
  rw [ex] at hv
  refine ⟨.int .i64 0, .int _ _, fun w => ?_⟩
  unfold execOp
  simp only [ho, resolve, List.map_toArray, List.map_cons, List.map_nil, Sem.run_bind, Sem.run_pure, Result.andThen_ok, invoke, builtin, Builtin.len_, List.getElem?_toArray, List.getElem?_cons_zero]
  generalize a.eval x = u at hv
  cases hv <;> simp [run_underlying ht, goInt]
def lenF : Obj → Option Value
  | .map es _ => some (.int .i64 es.size)
  | _ => none
theorem cl_len_map (h : AR p T a.tmps) {x : Operand} {t k e : TypeId} {b : Nat} (ho : o.op = .call { callee := .builtin .len, args := #[x], argTypes := #[t] }) (hx : okO x = true) (ht : P.underlying t = some (.map k e)) (ex : aev T x = .map (some b)) :
    ClOK P p a o (.obs b lenF) := by
  have hv := ev_vr (p := p) h hx
  rw [ex] at hv
  generalize eu : a.eval x = u at hv
  cases hv with
  | map hp =>
    rename_i r s
    refine ⟨r, s, hp, fun w ob v hob hf => ?_⟩
    unfold lenF at hf
    split at hf
    · rename_i es k1
      cases hf
      obtain ⟨es', hes, hs, _⟩ := hob
      refine ⟨.int .i64 es.size, .int _ _, ?_⟩
      unfold execOp
      simp only [ho, resolve, List.map_toArray, List.map_cons, List.map_nil, Sem.run_bind, Sem.run_pure, Result.andThen_ok, invoke, builtin, Builtin.len_, List.getElem?_toArray, List.getElem?_cons_zero, eu, run_underlying ht]
      have hg : (getObj r).run P w = .ok (.map es' k1) w := by unfold getObj; simp [Sem.run, hes]
      simp [hg, goInt, hs]
    · cases hf

def numOf : Value → Option Int
  | .int .u8 n => some n
  | _ => none
def strF (n off : Nat) : Obj → Option Value
  | .cells c _ _ => if off + n ≤ c.size then ((c.toList.drop off).take n).mapM numOf |>.map fun xs => .string (strOfNums xs) else none
  | _ => none
theorem mapM_nums : ∀ (l : List Value) (xs : List Int), l.mapM numOf = some xs → l = xs.map (Value.int .u8)
  | [], xs, h => by simp at h; subst h; rfl
  | v :: l, xs, h => by
    rw [List.mapM_cons] at h
    cases hn : numOf v with
    | none => rw [hn] at h; cases h
    | some n =>
      rw [hn] at h
      cases hl : l.mapM numOf with
      | none => rw [hl] at h; cases h
      | some ys =>
        rw [hl] at h
        cases h
        rw [mapM_nums l ys hl]
        have : v = .int .u8 n := by
          unfold numOf at hn
          split at hn
          · cases hn; rfl
          · cases hn
        rw [this]; rfl
theorem cl_string (h : AR p T a.tmps) {x : Operand} {t u e : TypeId} {b off n c : Nat} (ho : o.op = .convert t u x) (hx : okO x = true) (ht : P.underlying t = some (.slice e)) (he : P.underlying e = some (.int .u8)) (hu : P.underlying u = some .string) (ex : aev T x = .slice (some ⟨b, off, none⟩) n c) :
    ClOK P p a o (.obs b (strF n off)) := by
  have hv := ev_vr (p := p) h hx
  rw [ex] at hv
  generalize eu : a.eval x = uu at hv
  cases hv with
  | slice hp q1 =>
    rename_i r s c2
    refine ⟨r, s, hp, fun w ob v hob hf => ?_⟩
    unfold strF at hf
    split at hf
    · rename_i cs et ft
      split at hf
      · rename_i hle
        obtain ⟨xs, hm, rfl⟩ := Option.map_eq_some_iff.1 hf
        obtain ⟨_, c', hc', _, hs2, _, hs3⟩ := hob
        have hl := mapM_nums _ _ hm
        have hlen : xs.length = n := by
          have := congrArg List.length hl
          simp at this; omega
        have hcell : ∀ (j : Nat) (u : Value), (xs.map (Value.int .u8))[j]? = some u → w.cell? ((⟨r, off, none⟩ : Addr).add j) = some u := fun j u hj => by
          rw [cell_at hc']
          have hjn : j < n := by
            have := (List.getElem?_eq_some_iff.1 hj).1
            simp at this; omega
          rw [← hl] at hj
          rw [List.getElem?_take, if_pos hjn, List.getElem?_drop, Array.getElem?_toList] at hj
          have hj' : off + j < c'.size := by omega
          have := hs3 _ _ _ hj (Array.getElem?_eq_getElem hj')
          rw [Array.getElem?_eq_getElem hj']
          have hu8 : ∃ m, u = .int .u8 m := by
            have h1 : u ∈ (cs.toList.drop off).take n := by
              refine List.mem_of_getElem? (i := j) ?_
              rw [List.getElem?_take, if_pos hjn, List.getElem?_drop, Array.getElem?_toList]; exact hj
            rw [hl] at h1
            obtain ⟨m, _, e⟩ := List.mem_map.1 h1
            exact ⟨m, e.symm⟩
          obtain ⟨m, rfl⟩ := hu8
          generalize c'[off + j] = uu at this
          cases this
          rfl
        have hload : (loadCells ⟨r, off, none⟩ n).run P w = .ok (xs.map (Value.int .u8)).toArray w := by
          have := run_loadCells_list (P := P) w ⟨r, off, none⟩ (xs.map (Value.int .u8)) hcell
          simpa [hlen] using this
        refine ⟨.string (strOfNums xs), .string _, ?_⟩
        unfold execOp
        simp only [ho, eu, Sem.run_bind, run_convert_bytes_string w t u e _ n _ ht he hu, run_bytesToString w _ n _ xs hload, Result.andThen_ok, foldl_push_bytes]
        simp [strOfNums, ByteArray.empty, ByteArray.emptyWithCapacity]
        rfl
      · cases hf
    · cases hf
theorem cl_typeAssert (h : AR p T a.tmps) {x : Operand} {t u : TypeId} {v : Value} {d : TypeDesc} (ho : o.op = .typeAssert x t u true) (hx : okO x = true) (hd : P.underlying u = some d) (hn : (match d with | .interface _ => false | _ => true) = true) (ex : aev T x = .iface u v) :
    ClOK P p a o (.pure (.tuple #[v, .bool true])) := by
  have hv := ev_vr (p := p) h hx
  rw [ex] at hv
  generalize eu : a.eval x = uu at hv
  cases hv with
  | iface _ hv =>
    rename_i v'
    refine ⟨.tuple #[v', .bool true], .tuple_of (by have := ((AR.empty p).push hv).push (.bool true); simpa using this), fun w => ?_⟩
    unfold execOp
    simp only [ho, eu, Instr.typeAssert, Sem.run_bind, run_underlying hd, Result.andThen_ok]
    cases d <;> first | (cases hn; done) | simp
end
end
end Go.Proofs.YtampcckdbjbllaaGreatDoor.Ev
set_option linter.unusedVariables false
set_option linter.unusedSectionVars false
set_option linter.unusedSimpArgs false
namespace Go.Proofs.YtampcckdbjbllaaGreatDoor.Ev
noncomputable section
open Go.RowKit
variable [Sym]

/-- Lists of entries with plain keys, that are the same but for where things lie. -/
def LR (p : Mp) : List MapEntry → List MapEntry → Prop
  | [], [] => True
  | e :: l, e' :: l' => plain e.key = true ∧ e'.key = e.key ∧ VR p e.val e'.val ∧ LR p l l'
  | _, _ => False
def FR (p : Mp) : Option (Nat × Value) → Option (Nat × Value) → Prop
  | none, none => True
  | some (i, v), some (j, u) => i = j ∧ VR p v u
  | _, _ => False
section
variable {P : Program} {p : Mp} {T : Array Value} {a : Act} {o : Oper}

theorem findNow_rel (kind : TypeDesc) (k : Value) : ∀ (l l' : List MapEntry) (i : Nat), LR p l l' →
    (Instr.findNow kind k l i = none ∧ Instr.findNow kind k l' i = none) ∨ ∃ r r', Instr.findNow kind k l i = some r ∧ Instr.findNow kind k l' i = some r' ∧ FR p r r'
  | [], [], i, _ => .inr ⟨none, none, rfl, rfl, trivial⟩
  | e :: l, e' :: l', i, ⟨_, hk, hv, hr⟩ => by
    unfold Instr.findNow
    rw [hk]
    cases Instr.sameNow kind k e.key with
    | none => exact .inl ⟨rfl, rfl⟩
    | some b =>
      cases b
      · exact findNow_rel kind k l l' (i + 1) hr
      · exact .inr ⟨_, _, rfl, rfl, rfl, hv⟩
  | [], _ :: _, _, h => h.elim
  | _ :: _, [], _, h => h.elim
theorem findAsking_rel (kt : TypeId) (k : Value) : ∀ (l l' : List MapEntry) (i : Nat), LR p l l' → PS P (FR p) (Instr.findAsking kt k l i) (Instr.findAsking kt k l' i)
  | [], [], i, _ => PS.pure trivial
  | e :: l, e' :: l', i, ⟨_, hk, hv, hr⟩ => by
    unfold Instr.findAsking
    rw [hk]
    refine PS.same_bind fun b => ?_
    cases b
    · exact findAsking_rel kt k l l' (i + 1) hr
    · exact PS.pure ⟨rfl, hv⟩
  | [], _ :: _, _, h => h.elim
  | _ :: _, [], _, h => h.elim
theorem findKey_rel (kt : TypeId) (k : Value) (l l' : List MapEntry) (h : LR p l l') : PS P (FR p) (Instr.findKey kt k l) (Instr.findKey kt k l') := by
  unfold Instr.findKey
  refine PS.same_bind fun d => ?_
  rcases findNow_rel d k l l' 0 h with ⟨e, e'⟩ | ⟨r, r', e, e', hr⟩
  · rw [e, e']; exact findAsking_rel kt k l l' 0 h
  · rw [e, e']; exact PS.pure hr
theorem lr_of {es es' : Array MapEntry} (hp : (es.toList.all fun e => plain e.key) = true) (hs : es.size = es'.size) (h : ∀ (i : Nat) (v v' : MapEntry), es[i]? = some v → es'[i]? = some v' → ER p v v') : LR p es.toList es'.toList := by
  have gen : ∀ (l l' : List MapEntry), l.length = l'.length → (l.all fun e => plain e.key) = true → (∀ (i : Nat) (v v' : MapEntry), l[i]? = some v → l'[i]? = some v' → ER p v v') → LR p l l' := by
    intro l
    induction l with
    | nil => intro l' hl _ _; cases l' with | nil => trivial | cons => cases hl
    | cons e l ih =>
      intro l' hl ha hh
      cases l' with
      | nil => cases hl
      | cons e' l' =>
        simp only [List.all_cons, Bool.and_eq_true] at ha
        have h0 := hh 0 e e' rfl rfl
        exact ⟨ha.1, plain_eq ha.1 h0.1, h0.2.1, ih l' (by simpa using hl) ha.2 fun i v v' e1 e2 => hh (i + 1) v v' (by simpa using e1) (by simpa using e2)⟩
  exact gen _ _ (by simpa using hs) hp fun i v v' e e' => h i v v' (by simpa using e) (by simpa using e')

def okV (ok : Bool) (v : Value) (b : Bool) : Value := if ok then .tuple #[v, .bool b] else v
theorem okV_vr {ok b : Bool} {v v' : Value} (h : VR p v v') : VR p (okV ok v b) (okV ok v' b) := by
  unfold okV
  cases ok
  · exact h
  · exact .tuple_of (by have := ((AR.empty p).push h).push (.bool b); simpa using this)
def lookF (P : Program) (kt : TypeId) (k : Value) (ok : Bool) (z : Value) : Obj → Option Value
  | .map es _ =>
    if (es.toList.all fun e => plain e.key) then
      match prun P (Instr.checkKey es.isEmpty 10000 kt k) with
      | some _ => match prun P (Instr.findKey kt k es.toList) with
        | some (some (_, v)) => some (okV ok v true)
        | some none => some (okV ok z false)
        | none => none
      | none => none
    else none
  | _ => none
theorem cl_lookup (h : AR p T a.tmps) {t kt et : TypeId} {x k : Operand} {ok : Bool} {b : Nat} {i : TypeInfo} {z : Value} (ho : o.op = .lookup t x k ok) (hx : okO x = true) (hk : okO k = true) (ht : P.underlying t = some (.map kt et)) (hi : P.info? et = some i) (hz : i.zero = some z) (hp : plain z = true)
    (ex : aev T x = .map (some b)) (pk : plain (aev T k) = true) : ClOK P p a o (.obs b (lookF P kt (aev T k) ok z)) := by
  have hv := ev_vr (p := p) h hx
  rw [ex] at hv
  have ek := ev_plain (p := p) h hk pk
  generalize eu : a.eval x = u at hv
  cases hv with
  | map hp' =>
    rename_i r s
    refine ⟨r, s, hp', fun w ob v hob hf => ?_⟩
    unfold lookF at hf
    split at hf
    · rename_i es clock
      obtain ⟨es', hes, hs, her⟩ := hob
      split at hf
      · rename_i hpl
        have lr := lr_of hpl hs her
        split at hf
        · rename_i hck
          have hg : (getObj r).run P w = .ok (.map es' clock) w := by unfold getObj; simp [Sem.run, hes]
          have hem : es'.isEmpty = es.isEmpty := by simp [Array.isEmpty, hs]
          have hc := prun_run hck w
          unfold execOp
          simp only [ho, eu, ek, Instr.lookup, Sem.run_bind, run_underlying ht, Result.andThen_ok, hg, Sem.run_pure, hem, hc]
          split at hf
          · rename_i j v1 hfk
            cases hf
            obtain ⟨r', e', hr⟩ := findKey_rel kt (aev T k) _ _ lr _ hfk
            match r', hr with
            | some (j', v1'), hr =>
              refine ⟨_, okV_vr hr.2, ?_⟩
              simp only [prun_run e' w, Result.andThen_ok, Sem.run_pure]
              cases ok <;> simp [okV]
          · rename_i hfk
            cases hf
            obtain ⟨r', e', hr⟩ := findKey_rel kt (aev T k) _ _ lr _ hfk
            match r', hr with
            | none, _ =>
              refine ⟨_, okV_vr (plain_vr hp), ?_⟩
              simp only [prun_run e' w, Result.andThen_ok, Sem.run_bind, zeroValue_run hi hz, Sem.run_pure]
              cases ok <;> simp [okV]
          · cases hf
        · cases hf
      · cases hf
    · cases hf
theorem cl_lookup_nil (h : AR p T a.tmps) {t kt et : TypeId} {x k : Operand} {ok : Bool} {i : TypeInfo} {z : Value} (ho : o.op = .lookup t x k ok) (hx : okO x = true) (hk : okO k = true)
    (ex : plain (aev T x) = true) (pk : plain (aev T k) = true) {v : Value} (hv : prun P (execOp (aev T) o) = some (.value v)) (hp : plain v = true) : ClOK P p a o (.pure v) := by
  refine cl_plain ?_ hv hp
  unfold execOp
  simp only [ho, ev_plain h hx ex, ev_plain h hk pk]

/-! Stores. -/
theorem oneCell_vr {v v' : Value} (h : VR p v v') : v'.oneCell' = v.oneCell' := by cases h <;> first | rfl | (obtain ⟨kd, n, e⟩ := Sym.isInt _; rw [e]; rfl)
theorem list_at {α : Type} (l1 l2 l3 : List α) (i : Nat) : (l1 ++ l2 ++ l3)[i]? = if i < l1.length then l1[i]? else if i < l1.length + l2.length then l2[i - l1.length]? else l3[i - (l1.length + l2.length)]? := by
  rw [List.getElem?_append, List.getElem?_append]
  simp only [List.length_append]
  by_cases h1 : i < l1.length
  · rw [if_pos (by omega), if_pos h1, if_pos h1]
  · by_cases h2 : i < l1.length + l2.length
    · rw [if_pos h2, if_neg h1, if_neg h1, if_pos h2]
    · rw [if_neg h2, if_neg h1, if_neg h2]
def putAt (c : Array Value) (off : Nat) (vs : List Value) : Array Value := (c.toList.take off ++ vs ++ c.toList.drop (off + vs.length)).toArray
theorem putAt_size (c : Array Value) (off : Nat) (vs : List Value) (h : off + vs.length ≤ c.size) : (putAt c off vs).size = c.size := by
  simp [putAt]; omega
theorem putAt_rel {c c' : Array Value} {off : Nat} {vs vs' : List Value} (hc : c.size ≤ c'.size) (hl : off + vs.length ≤ c.size) (hcc : ∀ (i : Nat) (v v' : Value), c[i]? = some v → c'[i]? = some v' → VR p v v')
    (hvl : vs.length = vs'.length) (hvs : ∀ (i : Nat) (v v' : Value), vs[i]? = some v → vs'[i]? = some v' → VR p v v') :
    ∀ (i : Nat) (v v' : Value), (putAt c off vs)[i]? = some v → (putAt c' off vs')[i]? = some v' → VR p v v' := by
  intro i v v' h h'
  unfold putAt at h h'
  rw [List.getElem?_toArray, list_at] at h h'
  have l1 : (c.toList.take off).length = off := by simp; omega
  have l2 : (c'.toList.take off).length = off := by simp; omega
  rw [l1] at h
  rw [l2, ← hvl] at h'
  split at h
  · rename_i hi
    rw [if_pos hi] at h'
    rw [List.getElem?_take, if_pos hi, Array.getElem?_toList] at h h'
    exact hcc i v v' h h'
  · rename_i hi
    rw [if_neg hi] at h'
    split at h
    · rename_i hi2
      rw [if_pos hi2] at h'
      exact hvs _ v v' h h'
    · rename_i hi2
      rw [if_neg hi2] at h'
      rw [List.getElem?_drop, Array.getElem?_toList] at h h'
      exact hcc _ v v' h h'

theorem putAt_tail {c : Array Value} {off : Nat} {vs : List Value} (h : off + vs.length ≤ c.size) {k : Nat} (hk : off + vs.length ≤ k) : (putAt c off vs)[k]? = c[k]? := by
  unfold putAt
  rw [List.getElem?_toArray, list_at]
  have l1 : (c.toList.take off).length = off := by simp; omega
  rw [l1, if_neg (by omega), if_neg (by omega), List.getElem?_drop, Array.getElem?_toList]
  congr 1; omega
/-- Writing cells into a block. -/
theorem into_row {H : AH} {w : World} {b r x off : Nat} {c c' : Array Value} {e : TypeId} {f : Nat × Nat} {vs vs' : List Value} (hs : Sim P p H w) (hb : p b = some (r, x)) (hg : H.get b = some (.cells c e f)) (hc' : w.heap[r]? = some (.cells c' e (0, 0))) (hl : off + vs.length ≤ c.size)
    (hvl : vs.length = vs'.length) (hvs : ∀ (i : Nat) (v v' : Value), vs[i]? = some v → vs'[i]? = some v' → VR p v v') : Into P p H w p (H.put b (some (.cells (putAt c off vs) e f))) (w.setRow r (putAt c' off vs')) := by
  obtain ⟨hf, c2, hc2, hs1, hs2, hs4, hs3⟩ := hs.obj b r x _ hb hg
  rw [hc'] at hc2
  cases hc2
  have hh := setRow_heap w r c' (putAt c' off vs') e (0, 0) hc'
  refine Into.put hs hb (by rw [hg]; nofun) (by simp [World.setRow]) rfl rfl rfl (fun r' hr' => setRow_other _ _ _ _ hr') ?_
  refine ⟨?_, putAt c' off vs', hh, fun i hi => ?_, ?_, ?_, putAt_rel hs2 hl hs3 hvl hvs⟩
  · rcases hf with hf | ⟨hf, c3, hc3, ht⟩
    · exact .inl hf
    · rw [hc'] at hc3
      cases hc3
      refine .inr ⟨hf, _, hh, fun i d hd => ?_⟩
      rw [putAt_size _ _ _ hl, putAt_tail (by omega) (by omega)]
      exact ht i d hd
  · rw [putAt_size _ _ _ hl, putAt_size _ _ _ (by omega)]; exact hs1 i hi
  · rw [putAt_size _ _ _ hl, putAt_size _ _ _ (by omega)]; exact hs2
  · rw [putAt_size _ _ _ (by omega)]; exact hs4
theorem write_cells {H : AH} {w : World} {b r x off : Nat} {c : Array Value} {e : TypeId} {f : Nat × Nat} {vs vs' : List Value} (hs : Sim P p H w) (hb : p b = some (r, x)) (hg : H.get b = some (.cells c e f)) (hl : off + vs.length ≤ c.size)
    (hvl : vs.length = vs'.length) (hvs : ∀ (i : Nat) (v v' : Value), vs[i]? = some v → vs'[i]? = some v' → VR p v v') (h1 : vs.all (·.oneCell') = true) :
    ∃ w', (storeCells ⟨r, off, none⟩ vs').run P w = .ok () w' ∧ Into P p H w p (H.put b (some (.cells (putAt c off vs) e f))) w' := by
  obtain ⟨hf, c', hc', hs1, hs2, hs4, hs3⟩ := hs.obj b r x _ hb hg
  have h1' : ∀ v ∈ vs', v.oneCell' = true := fun v hv => by
    obtain ⟨i, hi⟩ := List.mem_iff_getElem?.1 hv
    have hi' : i < vs.length := by rw [hvl]; exact (List.getElem?_eq_some_iff.1 hi).1
    have e := List.getElem?_eq_getElem hi'
    rw [oneCell_vr (hvs i _ _ e hi)]
    exact List.all_eq_true.1 h1 _ (List.getElem_mem hi')
  have hrun := run_storeCells_at (P := P) r off e vs' 0 c' w hc' (by omega) h1'
  exact ⟨_, hrun, into_row hs hb hg hc' hl hvl hvs⟩

theorem store_ok (h : AR p T a.tmps) {H : AH} {w : World} {t : TypeId} {x y : Operand} {b off : Nat} {c : Array Value} {e : TypeId} {f : Nat × Nat} {i : TypeInfo} (ho : o.op = .store t x y) (hx : okO x = true) (hy : okO y = true) (ex : aev T x = .pointer (some ⟨b, off, none⟩)) (hs : Sim P p H w)
    (hg : H.get b = some (.cells c e f)) (hi : P.info? t = some i) (hsz : (aev T y).cells.size = i.size) (hl : off + i.size ≤ c.size) (h1 : (aev T y).cells.toList.all (·.oneCell') = true) :
    ∃ w', (execOp a.eval o).run P w = .ok .skip w' ∧ Into P p H w p (H.put b (some (.cells (putAt c off (aev T y).cells.toList) e f))) w' := by
  have hvx := ev_vr (p := p) h hx
  have hvy := (ev_vr (p := p) h hy).cells
  rw [ex] at hvx
  generalize eu : a.eval x = u at hvx
  cases hvx with
  | ptr hp =>
    rename_i r s
    obtain ⟨w', hr, hin⟩ := write_cells (off := off) (vs := (aev T y).cells.toList) (vs' := (a.eval y).cells.toList) hs hp hg (by simp; omega) (by simpa using hvy.1) (fun i v v' e e' => hvy.2 i v v' (by simpa using e) (by simpa using e')) h1
    refine ⟨w', ?_, hin⟩
    unfold execOp
    simp only [ho, eu, Instr.storeAt, Instr.sureAddr, Sem.run_bind, Sem.run_pure, Result.andThen_ok, storeVar, sizeOf, run_typeInfo w hi]
    rw [if_neg (by rw [← hvy.1, hsz]; simp)]
    simp only [hr, Result.andThen_ok, Sem.run_bind, Sem.run_pure]
end
end
end Go.Proofs.YtampcckdbjbllaaGreatDoor.Ev
set_option linter.unusedVariables false
set_option linter.unusedSectionVars false
set_option linter.unusedSimpArgs false
namespace Go.Proofs.YtampcckdbjbllaaGreatDoor.Ev
noncomputable section
open Go.RowKit
variable [Sym]

section
variable {P : Program} {p : Mp} {T : Array Value} {a : Act} {o : Oper}

/-- What a map is with a key that has a value. -/
def mapPut (P : Program) (kt : TypeId) (k v : Value) (es : Array MapEntry) (clock : Nat) : Option Obj :=
  if (es.toList.all fun e => plain e.key) then
    match prun P (Instr.checkKey false 10000 kt k) with
    | some _ => match prun P (Instr.findKey kt k es.toList) with
      | some (some (i, _)) => match es[i]? with
        | some e => match prun P (Instr.keyThatStays e.key k) with
          | some k2 => if plain k2 then some (.map (es.modify i fun e => { e with key := k2, val := v }) clock) else none
          | none => none
        | none => none
      | some none => some (.map (es.push { key := k, val := v, born := clock }) (clock + 1))
      | none => none
    | none => none
  else none
theorem mapUpdate_ok (h : AR p T a.tmps) {H : AH} {w : World} {t kt et : TypeId} {x k y : Operand} {b clock : Nat} {es : Array MapEntry} {ob : Obj} (ho : o.op = .mapUpdate t x k y ∨ o.op = .insert t x k y) (hx : okO x = true) (hk : okO k = true) (hy : okO y = true) (ex : aev T x = .map (some b)) (pk : plain (aev T k) = true)
    (ht : P.underlying t = some (.map kt et)) (hs : Sim P p H w) (hg : H.get b = some (.map es clock)) (hm : mapPut P kt (aev T k) (aev T y) es clock = some ob) :
    ∃ w', (execOp a.eval o).run P w = .ok .skip w' ∧ Into P p H w p (H.put b (some ob)) w' := by
  have hvx := ev_vr (p := p) h hx
  have hvy := ev_vr (p := p) h hy
  have ek := ev_plain (p := p) h hk pk
  rw [ex] at hvx
  generalize eu : a.eval x = u at hvx
  cases hvx with
  | map hp =>
    rename_i r s
    obtain ⟨es', hes, hsz, her⟩ := hs.obj b r s _ hp hg
    have hlt : r < w.heap.size := hs.lt b r s hp
    have hgo : (getObj r).run P w = .ok (.map es' clock) w := by unfold getObj; simp [Sem.run, hes]
    have hset : ∀ ob' : Obj, (setObj r ob').run P w = .ok () { w with heap := w.heap.setIfInBounds r ob' } := fun ob' => by unfold setObj; simp [Sem.run, hes]
    have fin : ∀ {ob ob' : Obj}, OR P p s ob (some ob') → Into P p H w p (H.put b (some ob)) { w with heap := w.heap.setIfInBounds r ob' } := fun {ob ob'} hor => by
      refine Into.put hs hp (by rw [hg]; nofun) (by simp) rfl rfl rfl (fun r' hr' => ?_) ?_
      · simp [Array.getElem?_setIfInBounds, Ne.symm hr']
      · simp only [Array.getElem?_setIfInBounds, if_true, hlt]
        exact hor
    unfold mapPut at hm
    split at hm
    · rename_i hpl
      have lr := lr_of hpl hsz her
      split at hm
      · rename_i hck
        have hc := prun_run hck w
        split at hm
        · rename_i i v0 hfk
          obtain ⟨r', e', hr⟩ := findKey_rel kt (aev T k) _ _ lr _ hfk
          split at hm
          · rename_i e he
            split at hm
            · rename_i k2 hk2
              split at hm
              · rename_i hpk2
                cases hm
                match r', hr with
                | some (j, v0'), hr =>
                  obtain ⟨hij, _⟩ := hr
                  subst hij
                  have hi : i < es.size := (Array.getElem?_eq_some_iff.1 he).1
                  have hi' : i < es'.size := by rw [← hsz]; exact hi
                  have he' := Array.getElem?_eq_getElem hi'
                  have hkk : es'[i].key = e.key := by
                    have hmem : e ∈ es.toList := by have := Array.mem_of_getElem? he; simpa using this
                    exact plain_eq (List.all_eq_true.1 hpl e hmem) (her i e _ he he').1
                  refine ⟨_, ?_, fin (ob' := .map (es'.modify i fun e => { e with key := k2, val := a.eval y }) clock) ⟨_, rfl, by simp [hsz], fun j v v' h1 h2 => ?_⟩⟩
                  · rcases ho with ho | ho
                    · unfold execOp
                      simp only [ho, eu, ek, Instr.mapUpdate, Sem.run_bind, run_underlying ht, Result.andThen_ok, hgo, hc, prun_run e' w]
                      simp only [he', Option.map_some, Option.getD_some, hkk, prun_run hk2 w, Result.andThen_ok, Sem.run_bind, hset, Sem.run_pure]
                    · unfold execOp
                      simp only [ho, eu, ek, Instr.mapUpdate, Sem.run_bind, run_underlying ht, Result.andThen_ok, hgo, hc, prun_run e' w]
                      simp only [he', Option.map_some, Option.getD_some, hkk, prun_run hk2 w, Result.andThen_ok, Sem.run_bind, hset, Sem.run_pure]
                  · rw [Array.getElem?_modify] at h1 h2
                    by_cases hij : i = j
                    · subst hij
                      rw [if_pos rfl, he] at h1
                      rw [if_pos rfl, he'] at h2
                      cases h1; cases h2
                      exact ⟨plain_vr hpk2, hvy, (her i e _ he he').2.2⟩
                    · rw [if_neg hij] at h1 h2
                      exact her j v v' h1 h2
              · cases hm
            · cases hm
          · cases hm
        · rename_i hfk
          cases hm
          obtain ⟨r', e', hr⟩ := findKey_rel kt (aev T k) _ _ lr _ hfk
          match r', hr with
          | none, _ =>
            refine ⟨_, ?_, fin (ob' := .map (es'.push { key := aev T k, val := a.eval y, born := clock }) (clock + 1)) ⟨_, rfl, by simp [hsz], fun j v v' h1 h2 => ?_⟩⟩
            · rcases ho with ho | ho
              · unfold execOp
                simp only [ho, eu, ek, Instr.mapUpdate, Sem.run_bind, run_underlying ht, Result.andThen_ok, hgo, hc, prun_run e' w, hset, Sem.run_pure]
              · unfold execOp
                simp only [ho, eu, ek, Instr.mapUpdate, Sem.run_bind, run_underlying ht, Result.andThen_ok, hgo, hc, prun_run e' w, hset, Sem.run_pure]
            · rw [Array.getElem?_push] at h1 h2
              split at h1
              · rename_i hj
                rw [if_pos (by rw [← hsz]; exact hj)] at h2
                cases h1; cases h2
                exact ⟨plain_vr pk, hvy, rfl⟩
              · rename_i hj
                rw [if_neg (by rw [← hsz]; exact hj)] at h2
                exact her j v v' h1 h2
        · cases hm
      · cases hm
    · cases hm

/-- Appending nothing. -/
theorem cl_append_none (h : AR p T a.tmps) {x y : Operand} {t e : TypeId} {i : TypeInfo} {A A2 : Option Addr} {n c c2 : Nat} (ho : o.op = .call { callee := .builtin .append, args := #[x, y], argTypes := #[t, t] }) (hx : okO x = true) (hy : okO y = true) (ht : P.underlying t = some (.slice e)) (hi : P.info? e = some i)
    (ex : aev T x = .slice A n c) (ey : aev T y = .slice A2 0 c2 ∨ aev T y = .chan none) (hn : n ≤ rcap c) : ClOK P p a o (.pure (.slice A n c)) := by
  have hvx := ev_vr (p := p) h hx
  have hvy := ev_vr (p := p) h hy
  rw [ex] at hvx
  obtain ⟨B2, c3, e2⟩ : ∃ B2 c3, a.eval y = .slice B2 0 c3 := by
    generalize a.eval y = u2 at hvy
    rcases ey with ey | ey
    · rw [ey] at hvy; cases hvy <;> exact ⟨_, _, rfl⟩
    · rw [ey] at hvy; cases hvy; exact ⟨_, _, rfl⟩
  refine ⟨a.eval x, hvx, fun w => ?_⟩
  have run : ∀ (B B2 : Option Addr) (cr c3 : Nat), n ≤ cr → (Builtin.append_ #[t, t] o.type #[.slice B n cr, .slice B2 0 c3]).run P w = .ok (.slice B n cr) w := fun B B2 cr c3 hcr => by
    cases B <;> cases B2 <;> simp [Builtin.append_, run_underlying ht, sizeOf, run_typeInfo _ hi, Builtin.lenOf, Builtin.firstCells, hcr, storeCells, loadCells, loadCellsFrom]
  unfold execOp
  simp only [ho, resolve, List.map_toArray, List.map_cons, List.map_nil, Sem.run_bind, Sem.run_pure, Result.andThen_ok, invoke, builtin]
  generalize a.eval x = u at hvx
  rw [e2]
  have hcap : n ≤ c := by rcases rcap_spec c with ⟨h1, h2⟩ | ⟨h1, h2⟩ <;> omega
  cases hvx with
  | nils => simp only [run _ _ _ _ hcap, Result.andThen_ok]
  | slice hp q1 =>
    have : n ≤ _ := Nat.le_trans hn q1.le
    simp only [run _ _ _ _ this, Result.andThen_ok]

/-- A row that has grown: the elder one is not asked any more. -/
theorem Into.app {H : AH} {w w' : World} (h : Sim P p H w) (hf : p H.nx = none) {row : Option Nat} (hg : w.grownBy w' row) {b : Option Nat} (hrow : ∀ g, row = some g → ∃ b0 x0, b = some b0 ∧ p b0 = some (g, x0) ∧ H.get b0 ≠ none)
    {g x : Nat} (hg' : row = some g ∨ g = w.heap.size) (hlt : g < w'.heap.size) {o : Obj} (ho : OR P (p.set H.nx (g, x)) x o w'.heap[g]?) :
    Into P p H w (p.set H.nx (g, x)) ((match b with | some b => H.put b none | none => H).push o) w' := by
  have hnx : (match b with | some b => H.put b none | none => H).nx = H.nx := by cases b <;> rfl
  generalize hH2 : (match b with | some b => H.put b none | none => H) = H2 at hnx ⊢
  have hget : ∀ b', (H2.push o).get b' = if H.nx = b' then some o else if b = some b' then none else H.get b' := fun b' => by
    rw [get_push, hnx]
    by_cases e : H.nx = b'
    · rw [if_pos e, if_pos e]
    · rw [if_neg e, if_neg e, ← hH2]
      cases b with
      | none => simp
      | some b => simp only [get_put, Option.some.injEq]
  have live : ∀ b', b' ≠ H.nx → (H2.push o).get b' ≠ none → H.get b' ≠ none ∧ b ≠ some b' := fun b' hb' hl => by
    rw [hget, if_neg (Ne.symm hb')] at hl
    split at hl
    · exact absurd rfl hl
    · rename_i e; exact ⟨hl, e⟩
  have noRow : ∀ b' r x', b' ≠ H.nx → p b' = some (r, x') → (H2.push o).get b' ≠ none → r < w.heap.size ∧ some r ≠ row := fun b' r x' hb' e hl => by
    obtain ⟨h1, h2⟩ := live b' hb' hl
    refine ⟨h.lt b' r x' e, fun er => ?_⟩
    obtain ⟨b0, x0, e0, e1, e2⟩ := hrow r er.symm
    have := h.inj b' b0 r x' x0 e e1 h1 e2
    subst this
    exact h2 e0
  refine ⟨Mp.le_set _ hf, ⟨fun b1 b2 r x1 x2 e1 e2 h1 h2 => ?_, fun b1 r x1 e1 => ?_, fun b1 r x1 o1 e1 h1 => ?_⟩, hg.size, hg.os, hg.tape, hg.output, fun r hr hno => ?_, fun b1 r x1 e1 h1 hr => ?_, fun b1 h1 => ?_, ?_⟩
  · unfold Mp.set at e1 e2
    have gne : ∀ b' x', b' ≠ H.nx → p b' = some (g, x') → (H2.push o).get b' ≠ none → False := fun b' x' hb' e hl => by
      obtain ⟨n1, n2⟩ := noRow b' g x' hb' e hl
      rcases hg' with hg' | hg'
      · exact n2 hg'.symm
      · omega
    split at e1 <;> split at e2
    · omega
    · rename_i a1 a2; cases e1; exact (gne b2 _ a2 e2 h2).elim
    · rename_i a1 a2; cases e2; exact (gne b1 _ a1 e1 h1).elim
    · rename_i a1 a2
      exact h.inj b1 b2 r x1 x2 e1 e2 (live _ a1 h1).1 (live _ a2 h2).1
  · unfold Mp.set at e1
    split at e1
    · cases e1; exact hlt
    · exact Nat.lt_of_lt_of_le (h.lt b1 r x1 e1) hg.size
  · unfold Mp.set at e1
    split at e1
    · rename_i a1
      subst a1
      rw [hget, if_pos rfl] at h1
      cases e1; cases h1
      exact ho
    · rename_i a1
      obtain ⟨n1, n2⟩ := noRow b1 r x1 a1 e1 (by rw [h1]; nofun)
      rw [hg.block r n1 n2]
      rw [hget, if_neg (Ne.symm a1)] at h1
      split at h1
      · cases h1
      · exact (h.obj b1 r x1 o1 e1 h1).mono (Mp.le_set _ hf)
  · refine hg.block r hr fun er => ?_
    obtain ⟨b0, x0, e0, e1, e2⟩ := hrow r er.symm
    exact e2 (hno b0 x0 e1)
  · unfold Mp.set at e1
    split at e1
    · cases e1
      rcases hg' with hg' | hg'
      · obtain ⟨b0, x0, e0, e1, e2⟩ := hrow _ hg'
        exact ⟨b0, x0, e1, e2⟩
      · omega
    · rename_i a1
      exact ⟨b1, x1, e1, (live _ a1 h1).1⟩
  · unfold Mp.set at h1
    split at h1
    · rename_i e; subst e; exact .inr ⟨Nat.le_refl _, by simp [AH.push, hnx]⟩
    · exact .inl h1
  · simp [AH.push, hnx]

theorem append_ok (h : AR p T a.tmps) {H : AH} {w : World} {t e : TypeId} {i : TypeInfo} {z : Value} {x y : Operand} {n m c2 b2 off : Nat} {bb : Option Nat} {cs cs2 : Array Value} {e2 : TypeId} {f2 : Nat × Nat} (ho : o.op = .call { callee := .builtin .append, args := #[x, y], argTypes := #[t, t] }) (hx : okO x = true) (hy : okO y = true)
    (ht : P.underlying t = some (.slice e)) (hi : P.info? e = some i) (hz : i.zero = some z) (hzs : z.cells.size = i.size) (hsz : 0 < i.size) (hs : Sim P p H w) (hf : p H.nx = none)
    (ex : (bb = none ∧ aev T x = .slice none 0 0 ∧ n = 0 ∧ cs = #[]) ∨ (∃ b f off cap cs0, bb = none ∧ aev T x = .slice (some ⟨b, off, none⟩) n cap ∧ BIG ≤ cap ∧ cap - BIG < n + m ∧ H.get b = some (.cells cs0 e f) ∧ off + n * i.size ≤ cs0.size ∧ cs = ((cs0.toList.drop off).take (n * i.size)).toArray) ∨ ∃ b f, bb = some b ∧ aev T x = .slice (some ⟨b, 0, none⟩) n n ∧ H.get b = some (.cells cs e f) ∧ cs.size = n * i.size)
    (ey : aev T y = .slice (some ⟨b2, off, none⟩) m c2) (hg2 : H.get b2 = some (.cells cs2 e2 f2)) (hl2 : off + m * i.size ≤ cs2.size) (h1 : ((cs2.toList.drop off).take (m * i.size)).all (·.oneCell') = true) (hnm : n + m ≤ 1048576) (hby : (n + m) * i.bytes ≤ 140737488355328) (hm : 0 < m) :
    ∃ (v' : Value) (w' : World) (g s : Nat), (execOp a.eval o).run P w = .ok (.value v') w' ∧ Into P p H w (p.set H.nx (g, s)) ((match bb with | some b => H.put b none | none => H).push (.cells (cs ++ ((cs2.toList.drop off).take (m * i.size)).toArray) e (0, 0))) w' ∧
      VR (p.set H.nx (g, s)) (.slice (some ⟨H.nx, 0, none⟩) (n + m) (n + m)) v' := by
  have hvx := ev_vr (p := p) h hx
  have hvy := ev_vr (p := p) h hy
  rw [ey] at hvy
  generalize eu : a.eval y = u at hvy
  cases hvy with
  | slice hp2 q3 =>
    rename_i r2 s2 c2r
    obtain ⟨_, c2', hc2', _, hsz2, _, hrel2⟩ := hs.obj b2 r2 s2 _ hp2 hg2
    -- the new cells
    obtain ⟨news, hnews⟩ : ∃ news, news = (c2'.toList.drop off).take (m * i.size) := ⟨_, rfl⟩
    have hnl : news.length = m * i.size := by rw [hnews]; simp; omega
    have hcell : ∀ (j : Nat) (u : Value), news[j]? = some u → w.cell? ((⟨r2, off, none⟩ : Addr).add j) = some u := fun j u hj => by
      rw [cell_at hc2']
      rw [hnews, List.getElem?_take] at hj
      split at hj
      · rw [List.getElem?_drop, Array.getElem?_toList] at hj; exact hj
      · cases hj
    have hnr : ∀ (j : Nat) (v v' : Value), ((cs2.toList.drop off).take (m * i.size))[j]? = some v → news[j]? = some v' → VR p v v' := fun j v v' h1 h2 => by
      rw [hnews] at h2
      rw [List.getElem?_take] at h1 h2
      split at h1
      · rename_i hj
        rw [if_pos hj] at h2
        rw [List.getElem?_drop, Array.getElem?_toList] at h1 h2
        exact hrel2 _ v v' h1 h2
      · cases h1
    have hlen2 : ((cs2.toList.drop off).take (m * i.size)).length = m * i.size := by simp; omega
    have hone : ∀ u ∈ news, u.oneCell' = true := fun u hu => by
      obtain ⟨j, hj⟩ := List.mem_iff_getElem?.1 hu
      have hj' : j < ((cs2.toList.drop off).take (m * i.size)).length := by rw [hlen2, ← hnl]; exact (List.getElem?_eq_some_iff.1 hj).1
      have e := List.getElem?_eq_getElem hj'
      rw [oneCell_vr (hnr j _ _ e hj)]
      exact List.all_eq_true.1 h1 _ (List.getElem_mem hj')
    -- what is left, once it is known where the cells lie
    have fin : ∀ (g sx capr : Nat) (cur' : Array Value) (w' : World) (row : Option Nat), w'.heap[g]? = some (.cells cur' e (0, 0)) → cur'.size = (n + m + sx) * i.size → (sx = 0 ∨ cur'.size ≤ maxLen * i.size) →
        (∀ (j : Nat) (v v' : Value), (cs ++ ((cs2.toList.drop off).take (m * i.size)).toArray)[j]? = some v → cur'[j]? = some v' → VR p v v') → w.grownBy w' row → (∀ g, row = some g → ∃ b0 x0, bb = some b0 ∧ p b0 = some (g, x0) ∧ H.get b0 ≠ none) → (row = some g ∨ g = w.heap.size) → n + m ≤ capr → capr ≤ n + m + sx →
        (execOp a.eval o).run P w = .ok (.value (.slice (some ⟨g, 0, none⟩) (n + m) capr)) w' → cs.size = n * i.size →
        ∃ (v' : Value) (w' : World) (g s : Nat), (execOp a.eval o).run P w = .ok (.value v') w' ∧ Into P p H w (p.set H.nx (g, s)) ((match bb with | some b => H.put b none | none => H).push (.cells (cs ++ ((cs2.toList.drop off).take (m * i.size)).toArray) e (0, 0))) w' ∧
          VR (p.set H.nx (g, s)) (.slice (some ⟨H.nx, 0, none⟩) (n + m) (n + m)) v' := by
      intro g sx capr cur' w' row hh hcur hmax hrel hgrow hrow hgg hc1 hc2 hrun hcs
      refine ⟨_, w', g, sx, hrun, ?_, .slice (Mp.set_eq _ _ _) (.inl ⟨by unfold BIG; omega, hc1, hc2⟩)⟩
      have hlt : g < w'.heap.size := (Array.getElem?_eq_some_iff.1 hh).1
      refine Into.app hs hf hgrow hrow hgg hlt ?_
      rw [hh]
      have h5 : ((cs2.toList.drop off).take (m * i.size)).toArray.size = m * i.size := List.size_toArray.trans hlen2
      have hsize : (cs ++ ((cs2.toList.drop off).take (m * i.size)).toArray).size = (n + m) * i.size := by
        rw [Array.size_append, h5, hcs, Nat.add_mul]
      refine ⟨.inl rfl, cur', rfl, fun i' hi' => ?_, ?_, ?_, fun j v v'' h1 h2 => (hrel j v v'' h1 h2).mono (Mp.le_set _ hf)⟩
      · rw [hi] at hi'; cases hi'
        rw [hcur, hsize, ← Nat.add_mul]
      · rw [hsize, hcur]; exact Nat.mul_le_mul_right _ (by omega)
      · rcases hmax with h | h
        · exact .inl h
        · right; intro i' hi'; rw [hi] at hi'; cases hi'; exact h
    have hexec : ∀ (v : Value) (w' : World), (Builtin.append_ #[t, t] o.type #[a.eval x, .slice (some ⟨r2, off, none⟩) m c2r]).run P w = .ok v w' → (execOp a.eval o).run P w = .ok (.value v) w' := fun v w' hr => by
      unfold execOp
      simp only [ho, resolve, List.map_toArray, List.map_cons, List.map_nil, Sem.run_bind, Sem.run_pure, Result.andThen_ok, invoke, builtin, eu, hr]
    have grownW : ∀ (ob : Obj) (row : Option Nat), w.grownBy (w.drew.alloc ob) row := fun ob row => ⟨rfl, rfl, rfl, by simp, fun k hk _ => Below.heap_alloc w.drew ob k hk⟩
    have joined : ∀ (olds : List Value) (rest : Array Value), AR p cs olds.toArray → ∀ (j : Nat) (v v' : Value), (cs ++ ((cs2.toList.drop off).take (m * i.size)).toArray)[j]? = some v → (olds.toArray ++ news.toArray ++ rest)[j]? = some v' → VR p v v' := fun olds rest hol j v v' h1 h2 => by
      have hcl : cs.size = olds.length := by simpa using hol.1
      have hj : j < cs.size + m * i.size := by
        have := (Array.getElem?_eq_some_iff.1 h1).1
        simp only [Array.size_append, List.size_toArray] at this
        rw [hlen2] at this; exact this
      rw [Array.getElem?_append, if_pos (by simp only [Array.size_append, List.size_toArray]; rw [hnl, ← hcl]; exact hj)] at h2
      rw [Array.getElem?_append] at h1 h2
      simp only [List.size_toArray, ← hcl] at h2
      split at h1
      · rename_i hj1
        rw [if_pos hj1] at h2
        exact hol.2 j v v' h1 h2
      · rename_i hj1
        rw [if_neg hj1] at h2
        exact hnr _ v v' (by simpa using h1) (by simpa using h2)
    rcases ex with ⟨e1, e2, e3, e4⟩ | ⟨b, f, off0, cap0, cs0, e1, e2, e5, e6, e3, e7, e8⟩ | ⟨b, f, e1, e2, e3, e4⟩
    · subst e3; subst e4
      rw [e2] at hvx
      have eux := plain_eq rfl hvx
      have hr := run_append_nil (P := P) w t o.type e i z ht hi hz ⟨r2, off, none⟩ m c2r news hnl hcell hm (by omega) (by have := hby; simp only [Nat.zero_add] at this; omega)
      have hge := grownCap_ge w m 0 e
      have hmx : grownCap w m 0 e ≤ maxLen := grownCap_le_maxLen w m 0 e (by simp only [maxLen]; omega)
      have hsz3 : (news.toArray ++ Builtin.zeroCells z.cells (grownCap w m 0 e - m)).size = grownCap w m 0 e * i.size := by
        simp only [Array.size_append, List.size_toArray, size_zeroCells, hzs, hnl, ← Nat.add_mul]
        congr 1; omega
      refine fin w.heap.size (grownCap w m 0 e - m) (grownCap w m 0 e) (news.toArray ++ Builtin.zeroCells z.cells (grownCap w m 0 e - m)) (w.drew.alloc (.cells (news.toArray ++ Builtin.zeroCells z.cells (grownCap w m 0 e - m)) e)) none (heap_alloc_new w.drew _) ?_ (.inr ?_) ?_ (grownW _ none) (fun g hg => by cases hg) (.inr rfl) (by omega) (by omega) ?_ (by simp)
      · rw [hsz3]; congr 1; omega
      · rw [hsz3]; exact Nat.mul_le_mul_right _ hmx
      · have := joined [] (Builtin.zeroCells z.cells (grownCap w m 0 e - m)) (AR.empty p)
        simpa using this
      · have := hexec _ _ (by rw [eux]; exact hr)
        simpa using this
    · rw [e2] at hvx
      generalize eux : a.eval x = ux at hvx hexec
      cases hvx with
      | slice hp q1 =>
        rename_i r s capr
        have hcr : capr = cap0 - BIG := by
          rcases q1 with h | h
          · omega
          · exact h.2
        obtain ⟨_, c', hc', hq1, hq2, hq4, hq3⟩ := hs.obj b r s _ hp e3
        have holdl : ((c'.toList.drop off0).take (n * i.size)).length = n * i.size := by simp; omega
        have hold0 : ((cs0.toList.drop off0).take (n * i.size)).length = n * i.size := by simp; omega
        have e4 : cs.size = n * i.size := by rw [e8]; exact List.size_toArray.trans hold0
        have hold : AR p cs ((c'.toList.drop off0).take (n * i.size)).toArray := ⟨e4.trans (List.size_toArray.trans holdl).symm, fun j v v' h1 h2 => by
          rw [e8] at h1
          rw [List.getElem?_toArray, List.getElem?_take] at h1 h2
          split at h1
          · rename_i hj
            rw [if_pos hj] at h2
            rw [List.getElem?_drop, Array.getElem?_toList] at h1 h2
            exact hq3 _ v v' h1 h2
          · cases h1⟩
        have holds : ∀ (j : Nat) (u : Value), ((c'.toList.drop off0).take (n * i.size))[j]? = some u → w.cell? ((⟨r, off0, none⟩ : Addr).add j) = some u := fun j u hj => by
          rw [cell_at hc']
          rw [List.getElem?_take] at hj
          split at hj
          · rw [List.getElem?_drop, Array.getElem?_toList] at hj; exact hj
          · cases hj
        have hr := run_append_grow (P := P) w t o.type e i z ht hi hz ⟨r, off0, none⟩ n capr ((c'.toList.drop off0).take (n * i.size)) holdl holds ⟨r2, off, none⟩ m c2r news hnl hcell (by omega) (by omega) (growslice_fits (by omega) hby)
        have hge := grownCap_ge w (n + m) capr e
        have hmx : grownCap w (n + m) capr e ≤ maxLen := grownCap_le_maxLen w (n + m) capr e (by simp only [maxLen]; omega)
        have hsz3 : (((c'.toList.drop off0).take (n * i.size)).toArray ++ news.toArray ++ Builtin.zeroCells z.cells (grownCap w (n + m) capr e - (n + m))).size = grownCap w (n + m) capr e * i.size := by
          have hz1 : ((c'.toList.drop off0).take (n * i.size)).toArray.size = n * i.size := List.size_toArray.trans holdl
          have hz2 : news.toArray.size = m * i.size := List.size_toArray.trans hnl
          rw [Array.size_append, Array.size_append, hz1, hz2, size_zeroCells, hzs, ← Nat.add_mul, ← Nat.add_mul]
          congr 1; omega
        refine fin w.heap.size (grownCap w (n + m) capr e - (n + m)) (grownCap w (n + m) capr e) (((c'.toList.drop off0).take (n * i.size)).toArray ++ news.toArray ++ Builtin.zeroCells z.cells (grownCap w (n + m) capr e - (n + m))) (w.drew.alloc (.cells (((c'.toList.drop off0).take (n * i.size)).toArray ++ news.toArray ++ Builtin.zeroCells z.cells (grownCap w (n + m) capr e - (n + m))) e)) none (heap_alloc_new w.drew _) ?_ (.inr ?_) ?_ (grownW _ none) (fun g hg => by cases hg) (.inr rfl) (by omega) (by omega) (hexec _ _ hr) e4
        · rw [hsz3]; congr 1; omega
        · rw [hsz3]; exact Nat.mul_le_mul_right _ hmx
        · exact joined _ _ hold
    · rw [e2] at hvx
      generalize eux : a.eval x = ux at hvx hexec
      cases hvx with
      | slice hp q1 =>
        rename_i r s capr
        have ⟨q2, q3'⟩ : n ≤ capr ∧ capr ≤ n + s := by
          rcases q1 with h | h
          · exact h.2
          · have := h.1; unfold BIG at this; omega
        obtain ⟨_, c', hc', hq1, hq2, hq4, hq3⟩ := hs.obj b r s _ hp e3
        have hq1 := hq1 i hi
        have hsum : c'.size = (n + s) * i.size := by rw [hq1, e4, Nat.add_mul]
        have hrowb : ∀ g, some r = some g → ∃ b0 x0, bb = some b0 ∧ p b0 = some (g, x0) ∧ H.get b0 ≠ none := fun g hg => by cases hg; exact ⟨b, s, e1, hp, by rw [e3]; nofun⟩
        have holdl : (c'.toList.take (n * i.size)).length = n * i.size := by
          rw [List.length_take]; simp; rw [hsum, Nat.add_mul]; omega
        have hold : AR p cs (c'.toList.take (n * i.size)).toArray := ⟨e4.trans (List.size_toArray.trans holdl).symm, fun j v v' h1 h2 => by
          rw [List.getElem?_toArray, List.getElem?_take] at h2
          split at h2
          · rw [Array.getElem?_toList] at h2; exact hq3 j v v' h1 h2
          · cases h2⟩
        by_cases hroom : n + m ≤ capr
        · have hfit : n * i.size + news.length ≤ c'.size := by rw [hnl, hsum, ← Nat.add_mul]; exact Nat.mul_le_mul_right _ (by omega)
          have hr := run_append_room (P := P) w t o.type e i ht hi r n capr c' hc' ⟨r2, off, none⟩ m c2r news hnl hcell hone hroom hfit
          have hsz3 : (c'.toList.take (n * i.size) ++ news ++ c'.toList.drop (n * i.size + news.length)).toArray.size = c'.size := by
            simp only [List.size_toArray, List.length_append, List.length_drop, holdl, Array.length_toList]
            omega
          refine fin r (s - m) capr _ _ (some r) (setRow_heap w r c' _ e (0, 0) hc') ?_ (.inr ?_) ?_ ⟨rfl, rfl, rfl, by simp [World.setRow], fun k _ hk => setRow_other w r k _ (fun e => hk (by rw [e]))⟩ hrowb (.inl rfl) (by omega) (by omega) (hexec _ _ hr) e4
          · rw [hsz3, hsum]; congr 1; omega
          · rw [hsz3]
            rcases hq4 with h | h
            · omega
            · exact h i hi
          · have := joined (c'.toList.take (n * i.size)) (c'.toList.drop (n * i.size + news.length)).toArray hold
            simpa using this
        · have holds : ∀ (j : Nat) (u : Value), (c'.toList.take (n * i.size))[j]? = some u → w.cell? ((⟨r, 0, none⟩ : Addr).add j) = some u := fun j u hj => by
            rw [cell_at hc', Nat.zero_add]
            rw [List.getElem?_take] at hj
            split at hj
            · rw [Array.getElem?_toList] at hj; exact hj
            · cases hj
          have hr := run_append_grow (P := P) w t o.type e i z ht hi hz ⟨r, 0, none⟩ n capr (c'.toList.take (n * i.size)) holdl holds ⟨r2, off, none⟩ m c2r news hnl hcell (by omega) (by omega) (growslice_fits (by omega) hby)
          have hge := grownCap_ge w (n + m) capr e
          have hmx : grownCap w (n + m) capr e ≤ maxLen := grownCap_le_maxLen w (n + m) capr e (by simp only [maxLen]; omega)
          have hsz3 : ((c'.toList.take (n * i.size)).toArray ++ news.toArray ++ Builtin.zeroCells z.cells (grownCap w (n + m) capr e - (n + m))).size = grownCap w (n + m) capr e * i.size := by
            have hz1 : (c'.toList.take (n * i.size)).toArray.size = n * i.size := List.size_toArray.trans holdl
            have hz2 : news.toArray.size = m * i.size := List.size_toArray.trans hnl
            rw [Array.size_append, Array.size_append, hz1, hz2, size_zeroCells, hzs, ← Nat.add_mul, ← Nat.add_mul]
            congr 1; omega
          refine fin w.heap.size (grownCap w (n + m) capr e - (n + m)) (grownCap w (n + m) capr e) ((c'.toList.take (n * i.size)).toArray ++ news.toArray ++ Builtin.zeroCells z.cells (grownCap w (n + m) capr e - (n + m))) (w.drew.alloc (.cells ((c'.toList.take (n * i.size)).toArray ++ news.toArray ++ Builtin.zeroCells z.cells (grownCap w (n + m) capr e - (n + m))) e)) none (heap_alloc_new w.drew _) ?_ (.inr ?_) ?_ (grownW _ none) (fun g hg => by cases hg) (.inr rfl) (by omega) (by omega) (hexec _ _ hr) e4
          · rw [hsz3]; congr 1; omega
          · rw [hsz3]; exact Nat.mul_le_mul_right _ hmx
          · exact joined _ _ hold

/-- Appending where there is room. -/
theorem append_room_ok (h : AR p T a.tmps) {H : AH} {w : World} {t e : TypeId} {i : TypeInfo} {x y : Operand} {n m c c2 b b2 off : Nat} {cs cs2 : Array Value} {e2 : TypeId} {f f2 : Nat × Nat} (ho : o.op = .call { callee := .builtin .append, args := #[x, y], argTypes := #[t, t] }) (hx : okO x = true) (hy : okO y = true)
    (ht : P.underlying t = some (.slice e)) (hi : P.info? e = some i) (hs : Sim P p H w)
    (ex : aev T x = .slice (some ⟨b, 0, none⟩) n c) (hg : H.get b = some (.cells cs e f)) (hroom : n + m ≤ rcap c) (hfit : (n + m) * i.size ≤ cs.size)
    (ey : aev T y = .slice (some ⟨b2, off, none⟩) m c2) (hg2 : H.get b2 = some (.cells cs2 e2 f2)) (hl2 : off + m * i.size ≤ cs2.size) (h1 : ((cs2.toList.drop off).take (m * i.size)).all (·.oneCell') = true) :
    ∃ v' w', (execOp a.eval o).run P w = .ok (.value v') w' ∧ Into P p H w p (H.put b (some (.cells (putAt cs (n * i.size) ((cs2.toList.drop off).take (m * i.size))) e f))) w' ∧ VR p (.slice (some ⟨b, 0, none⟩) (n + m) c) v' := by
  have hvx := ev_vr (p := p) h hx
  have hvy := ev_vr (p := p) h hy
  rw [ex] at hvx
  rw [ey] at hvy
  generalize eu : a.eval y = u at hvy
  generalize eux : a.eval x = ux at hvx
  cases hvy with
  | slice hp2 q3 =>
    rename_i r2 s2 c2r
    cases hvx with
    | slice hp q1 =>
      rename_i r s capr
      obtain ⟨_, c2', hc2', _, hsz2, _, hrel2⟩ := hs.obj b2 r2 s2 _ hp2 hg2
      obtain ⟨_, c', hc', _, hsz, _, _⟩ := hs.obj b r s _ hp hg
      have hq := q1.le
      have hlen2 : ((cs2.toList.drop off).take (m * i.size)).length = m * i.size := by simp; omega
      have hnl : ((c2'.toList.drop off).take (m * i.size)).length = m * i.size := by simp; omega
      have hcell : ∀ (j : Nat) (u : Value), ((c2'.toList.drop off).take (m * i.size))[j]? = some u → w.cell? ((⟨r2, off, none⟩ : Addr).add j) = some u := fun j u hj => by
        rw [cell_at hc2']
        rw [List.getElem?_take] at hj
        split at hj
        · rw [List.getElem?_drop, Array.getElem?_toList] at hj; exact hj
        · cases hj
      have hnr : ∀ (j : Nat) (v v' : Value), ((cs2.toList.drop off).take (m * i.size))[j]? = some v → ((c2'.toList.drop off).take (m * i.size))[j]? = some v' → VR p v v' := fun j v v' h1 h2 => by
        rw [List.getElem?_take] at h1 h2
        split at h1
        · rename_i hj
          rw [if_pos hj] at h2
          rw [List.getElem?_drop, Array.getElem?_toList] at h1 h2
          exact hrel2 _ v v' h1 h2
        · cases h1
      have hone : ∀ u ∈ (c2'.toList.drop off).take (m * i.size), u.oneCell' = true := fun u hu => by
        obtain ⟨j, hj⟩ := List.mem_iff_getElem?.1 hu
        have hj' : j < ((cs2.toList.drop off).take (m * i.size)).length := by rw [hlen2, ← hnl]; exact (List.getElem?_eq_some_iff.1 hj).1
        have e := List.getElem?_eq_getElem hj'
        rw [oneCell_vr (hnr j _ _ e hj)]
        exact List.all_eq_true.1 h1 _ (List.getElem_mem hj')
      have hfit2 : n * i.size + m * i.size ≤ cs.size := by rw [← Nat.add_mul]; exact hfit
      have hr := run_append_room (P := P) w t o.type e i ht hi r n capr c' hc' ⟨r2, off, none⟩ m c2r _ hnl hcell hone (by omega) (by rw [hnl]; omega)
      refine ⟨.slice (some ⟨r, 0, none⟩) (n + m) capr, _, ?_, into_row (off := n * i.size) hs hp hg hc' (by rw [hlen2]; exact hfit2) (hlen2.trans hnl.symm) hnr, .slice hp q1⟩
      unfold execOp
      simp only [ho, resolve, List.map_toArray, List.map_cons, List.map_nil, Sem.run_bind, Sem.run_pure, Result.andThen_ok, invoke, builtin, eu, eux, hr]
      rfl
/-- Appending zeros to nothing. -/
theorem append_zeros_ok (h : AR p T a.tmps) {H : AH} {w : World} {t tn e : TypeId} {i : TypeInfo} {z : Value} {k kn : IntKind} {x y : Operand} {m : Nat} (ho : o.op = .call { callee := .builtin .append, args := #[x, y], argTypes := #[t, tn] }) (hx : okO x = true) (hy : okO y = true)
    (ht : P.underlying t = some (.slice e)) (htn : P.underlying tn = some (.int kn)) (hi : P.info? e = some i) (hz : i.zero = some z) (hp : plain z = true) (hzs : z.cells.size = i.size) (hs : Sim P p H w) (hf : p H.nx = none)
    (ex : aev T x = .slice none 0 0) (ey : aev T y = .int k (m : Int)) (hsz0 : 0 < i.size) (hm : 0 < m) (hm2 : m ≤ 1048576) (hby : m * i.bytes ≤ 140737488355328) :
    ∃ (v' : Value) (w' : World) (g s : Nat), (execOp a.eval o).run P w = .ok (.value v') w' ∧ Into P p H w (p.set H.nx (g, s)) (H.push (.cells (zc z.cells.toList m).toArray e (0, 0))) w' ∧ VR (p.set H.nx (g, s)) (.slice (some ⟨H.nx, 0, none⟩) m m) v' := by
  have e1 := ev_plain (p := p) h hx (by rw [ex]; rfl)
  have e2 := ev_plain (p := p) h hy (by rw [ey]; rfl)
  rw [ex] at e1
  rw [ey] at e2
  have happ := Lib.run_append_nil_zeros (P := P) w t tn o.type e i z k kn ht htn hi hz m hm hsz0 (by omega) (by omega)
  have hge := grownCap_ge w m 0 e
  have hmx : grownCap w m 0 e ≤ maxLen := grownCap_le_maxLen w m 0 e (by simp only [maxLen]; omega)
  have hzc : Builtin.zeroCells z.cells m = (zc z.cells.toList m).toArray := by unfold Builtin.zeroCells; exact zeros_eq z.cells m
  have hzl : (zc z.cells.toList m).toArray.size = m * i.size := by rw [List.size_toArray, zc_len]; simp [hzs]
  refine ⟨_, w.drew.alloc (.cells (Builtin.zeroCells z.cells m ++ Builtin.zeroCells z.cells (grownCap w m 0 e - m)) e), w.heap.size, grownCap w m 0 e - m, ?_, ?_, .slice (c' := grownCap w m 0 e) (Mp.set_eq _ _ _) (.inl ⟨by unfold BIG; omega, hge, by omega⟩)⟩
  · unfold execOp
    simp only [ho, resolve, List.map_toArray, List.map_cons, List.map_nil, Sem.run_bind, Sem.run_pure, Result.andThen_ok, invoke, builtin, e1, e2, happ]
  · have hin := Into.app (p := p) (row := none) (b := none) (H := H) (w := w) (w' := w.drew.alloc (.cells (Builtin.zeroCells z.cells m ++ Builtin.zeroCells z.cells (grownCap w m 0 e - m)) e)) (g := w.heap.size) (x := grownCap w m 0 e - m) (o := .cells (zc z.cells.toList m).toArray e (0, 0)) hs hf
      ⟨rfl, rfl, rfl, by simp, fun k hk _ => Below.heap_alloc w.drew _ k hk⟩ (fun g hg => by cases hg) (.inr rfl) (by simp) ?_
    · exact hin
    · have hh : (w.drew.alloc (.cells (Builtin.zeroCells z.cells m ++ Builtin.zeroCells z.cells (grownCap w m 0 e - m)) e)).heap[w.heap.size]? = _ := heap_alloc_new w.drew _
      rw [hh]
      have hsz : (Builtin.zeroCells z.cells m ++ Builtin.zeroCells z.cells (grownCap w m 0 e - m)).size = grownCap w m 0 e * i.size := by
        rw [Array.size_append, size_zeroCells, size_zeroCells, hzs, ← Nat.add_mul]; congr 1; omega
      refine ⟨.inl rfl, _, rfl, fun i' hi' => ?_, ?_, .inr fun i' hi' => ?_, fun j v v' h1 h2 => ?_⟩
      · rw [hi] at hi'; cases hi'
        rw [hsz, hzl, ← Nat.add_mul]; congr 1; omega
      · rw [hsz, hzl]; exact Nat.mul_le_mul_right _ hge
      · rw [hi] at hi'; cases hi'
        rw [hsz]; exact Nat.mul_le_mul_right _ hmx
      · have hj : j < (zc z.cells.toList m).toArray.size := (Array.getElem?_eq_some_iff.1 h1).1
        rw [Array.getElem?_append, if_pos (by rw [hzc]; exact hj), hzc] at h2
        exact (zc_vr (plain_vr hp).cells m).2 j v v' h1 h2
end
end
end Go.Proofs.YtampcckdbjbllaaGreatDoor.Ev
