/-
  What operations do, on abstract values (7): numbers that aren't known, slices with bytes that aren't known behind them.
  Appending slices with bytes that aren't known behind them; copying from them, and into them.
  Copying from, and into, slices with bytes that aren't known behind them.
  One operation, evaluated; and the machine's step.
-/
import Derived.Test.YtampcckdbjbllaaGreatDoorEb
set_option linter.unusedVariables false
set_option linter.unusedSectionVars false
set_option linter.unusedSimpArgs false
set_option linter.unusedVariables false
set_option linter.unusedSectionVars false
set_option linter.unusedSimpArgs false
namespace Go.Proofs.YtampcckdbjbllaaGreatDoor.Ev
noncomputable section
open Go.RowKit

/-- What is known of numbers that aren't known. -/
class OraF where
  bin : BinOp → Value → Value → Option Value
  conv : TypeDesc → TypeDesc → Value → Option Value
  two : Builtin → Value → Value → Option Value
  call : FuncId → Array Value → AH → Option (Value × AH)
variable [Sym] [OraF]
class OraOK : Prop where
  bin_ok : ∀ {op x y z}, OraF.bin op x y = some z → ∀ {p : Mp} {x' y' : Value}, VR p x x' → VR p y y' → ∃ z', VR p z z' ∧ ∀ (P : Program) t (u v : Operand) w, (eqGuard op t u v x' y' : Sem Unit).run P w = .ok () w ∧ (binOp op t x' y').run P w = .ok z' w
  conv_ok : ∀ {d e x z}, OraF.conv d e x = some z → ∀ {p : Mp} {x' : Value}, VR p x x' → ∃ z', VR p z z' ∧ ∀ (P : Program) t u w, P.underlying t = some d → P.underlying u = some e → (convert t u x').run P w = .ok z' w
  two_ok : ∀ {b x y z}, OraF.two b x y = some z → ∀ {p : Mp} {x' y' : Value}, VR p x x' → VR p y y' → ∃ z', VR p z z' ∧ ∀ (P : Program) ts t cs w, (builtin b ts t cs #[x', y']).run P w = .ok (.value z') w

def rope (b off n : Nat) : Nat := 2 * ((b * 16777216 + off) * 16777216 + n) + 1
def okRope (k b off n : Nat) : Bool := Nat.beq (k % 2) 1 && Nat.beq (rb k) b && Nat.beq (ro k) off && Nat.beq (rn k) n
theorem okRope_spec {k b off n : Nat} (h : okRope k b off n = true) : k % 2 = 1 ∧ rb k = b ∧ ro k = off ∧ rn k = n := by
  unfold okRope at h
  simp only [Bool.and_eq_true, Nat.beq_eq] at h
  exact ⟨h.1.1.1, h.1.1.2, h.1.2, h.2⟩
def isRope (k : Nat) : Bool := Nat.beq (k % 2) 1

section
variable {P : Program} {p : Mp} {T : Array Value} {a : Act} {o : Oper}

theorem vr_rope {k : Nat} {v : Value} (hk : k % 2 = 1) (h : VR p (.chan (some k)) v) : ∃ A c', v = .slice A (rn k + dlen) c' ∧ RopeAt p (rb k) (ro k) (rn k) A c' := by
  cases h with
  | sym hk' => omega
  | rope _ h => exact ⟨_, _, rfl, h⟩
theorem vr_aff {m : Nat} {v : Value} (h : VR p (.chan (some (4 * m))) v) : v = .int .i64 ((m + dlen : Nat) : Int) := by
  cases h with
  | sym hk' => exact Sym.aff m
  | rope hk' h => omega
theorem aff_vr (m : Nat) : VR p (.chan (some (4 * m))) (.int .i64 ((m + dlen : Nat) : Int)) := by
  have := VR.sym (p := p) (k := 4 * m) (by omega)
  rw [Sym.aff] at this
  exact this

theorem cl_bin_sym [OraOK] (h : AR p T a.tmps) {op : BinOp} {t u : TypeId} {x y : Operand} {z : Value} (ho : o.op = .binOp op t x y u) (hx : okO x = true) (hy : okO y = true) (e : OraF.bin op (aev T x) (aev T y) = some z) : ClOK P p a o (.pure z) := by
  obtain ⟨z', h1, h2⟩ := OraOK.bin_ok e (ev_vr (p := p) h hx) (ev_vr (p := p) h hy)
  refine ⟨z', h1, fun w => ?_⟩
  obtain ⟨h3, h4⟩ := h2 P t x y w
  unfold execOp
  simp only [ho, Sem.run_bind, h3, h4, Result.andThen_ok]
  rfl
theorem cl_conv_sym [OraOK] (h : AR p T a.tmps) {t u : TypeId} {x : Operand} {d e : TypeDesc} {z : Value} (ho : o.op = .convert t u x) (hx : okO x = true) (ht : P.underlying t = some d) (hu : P.underlying u = some e) (hz : OraF.conv d e (aev T x) = some z) : ClOK P p a o (.pure z) := by
  obtain ⟨z', h1, h2⟩ := OraOK.conv_ok hz (ev_vr (p := p) h hx)
  refine ⟨z', h1, fun w => ?_⟩
  unfold execOp
  simp only [ho, Sem.run_bind, h2 P t u w ht hu, Result.andThen_ok]
  rfl
theorem cl_two_sym [OraOK] (h : AR p T a.tmps) {b : Builtin} {x y : Operand} {ts : Array TypeId} {z : Value} (ho : o.op = .call { callee := .builtin b, args := #[x, y], argTypes := ts }) (hx : okO x = true) (hy : okO y = true) (hz : OraF.two b (aev T x) (aev T y) = some z) : ClOK P p a o (.pure z) := by
  obtain ⟨z', h1, h2⟩ := OraOK.two_ok hz (ev_vr (p := p) h hx) (ev_vr (p := p) h hy)
  refine ⟨z', h1, fun w => ?_⟩
  unfold execOp
  simp only [ho, resolve, List.map_toArray, List.map_cons, List.map_nil, Sem.run_bind, Sem.run_pure, Result.andThen_ok, invoke, h2 P ts o.type _ w]

theorem cl_rope_len (h : AR p T a.tmps) {x : Operand} {t e : TypeId} {k : Nat} (ho : o.op = .call { callee := .builtin .len, args := #[x], argTypes := #[t] }) (hx : okO x = true) (ht : P.underlying t = some (.slice e)) (ex : aev T x = .chan (some k)) (hk : k % 2 = 1) :
    ClOK P p a o (.pure (.chan (some (4 * rn k)))) := by
  have hv := ev_vr (p := p) h hx
  rw [ex] at hv
  obtain ⟨A, c', ev, _⟩ := vr_rope hk hv
  refine ⟨_, aff_vr _, fun w => ?_⟩
  unfold execOp
  simp only [ho, resolve, List.map_toArray, List.map_cons, List.map_nil, Sem.run_bind, Sem.run_pure, Result.andThen_ok, invoke, builtin, Builtin.len_, List.getElem?_toArray, List.getElem?_cons_zero, ev]
  simp [run_underlying ht, goInt]

theorem cl_given_len (h : AR p T a.tmps) {x : Operand} {t e : TypeId} {fk : FloatKind} {m1 m2 : Nat} (ho : o.op = .call { callee := .builtin .len, args := #[x], argTypes := #[t] }) (hx : okO x = true) (ht : P.underlying t = some (.slice e)) (ex : aev T x = .complex fk m1 m2) :
    ClOK P p a o (.pure (.chan (some (4 * 0)))) := by
  have hv := ev_vr (p := p) h hx
  rw [ex] at hv
  generalize ev : a.eval x = v at hv
  cases hv with
  | given _ _ _ _ =>
    refine ⟨_, aff_vr _, fun w => ?_⟩
    unfold execOp
    simp only [ho, resolve, List.map_toArray, List.map_cons, List.map_nil, Sem.run_bind, Sem.run_pure, Result.andThen_ok, invoke, builtin, Builtin.len_, List.getElem?_toArray, List.getElem?_cons_zero, ev]
    simp [run_underlying ht, goInt]

/-- An upper bound that is not told, or is the end. -/
def bndEnd (T : Array Value) (k : Nat) : Option Operand → Bool
  | none => true
  | some x => match aev T x with
    | .chan (some j) => Nat.beq j (4 * rn k)
    | _ => false
theorem bndEnd_run (h : AR p T a.tmps) {k m : Nat} {hi : Option Operand} (hx : hi.all okO = true) (hb : bndEnd T k hi = true) (hm : rn k + dlen ≤ m) (code : BoundsCode) (w : World) :
    (match hi.map a.eval with | some v => Instr.sliceBound v m code | none => pure (rn k + dlen)).run P w = .ok (rn k + dlen) w := by
  cases hi with
  | none => rfl
  | some x =>
    simp only [bndEnd] at hb
    split at hb
    · rename_i j ej
      have hv := ev_vr (p := p) h (x := x) (by simpa using hx)
      rw [ej, Nat.eq_of_beq_eq_true hb] at hv
      have := vr_aff hv
      simp only [Option.map_some, this]
      have hle : (0 : Int) ≤ ((rn k + dlen : Nat) : Int) ∧ ((rn k + dlen : Nat) : Int) ≤ (m : Int) := by omega
      simp only [Instr.sliceBound, asIntOf, Sem.run_bind, Sem.run_pure, Result.andThen_ok, if_pos hle, Int.toNat_natCast]
    · cases hb
theorem bndEnd_run2 (h : AR p T a.tmps) {k cap l : Nat} {lo hi : Option Operand} (hlo : lo.all okO = true) (hhi : hi.all okO = true) (hl : bnd T 0 lo = some l) (hb : bndEnd T k hi = true) (h1 : l ≤ rn k + dlen) (h2 : rn k + dlen ≤ cap) (w : World) :
    (Instr.sliceBounds true (rn k + dlen) cap (lo.map a.eval) (hi.map a.eval) none).run P w = .ok (l, rn k + dlen, cap) w := by
  have k1 := bnd_run (P := P) h hlo hl (m := rn k + dlen) (by omega) .sliceB w
  have k2 := bndEnd_run (P := P) h hhi hb (m := cap) h2 .sliceAcap w
  unfold Instr.sliceBounds
  cases hi with
  | none =>
    cases lo with
    | none =>
      have e : 0 = l := by simpa [bnd] using hl
      subst e; rfl
    | some y =>
      simp only [Option.map_some] at k1
      simp [k1]
  | some z =>
    simp only [Option.map_some] at k2
    cases lo with
    | none =>
      have e : 0 = l := by simpa [bnd] using hl
      subst e; simp [k2]
    | some y =>
      simp only [Option.map_some] at k1
      simp [k1, k2]
/-- 's[l:]', up to the end. -/
theorem cl_rope_slice (h : AR p T a.tmps) {t elem : TypeId} {x : Operand} {lo hi : Option Operand} {i : TypeInfo} {k k' l : Nat} (ho : o.op = .slice t x lo hi none) (hx : okO x = true) (hlo : lo.all okO = true) (hhi : hi.all okO = true)
    (ht : P.underlying t = some (.slice elem)) (hinf : P.info? elem = some i) (h1s : i.size = 1) (ex : aev T x = .chan (some k)) (hk : k % 2 = 1) (hl : bnd T 0 lo = some l) (hb : bndEnd T k hi = true) (h1 : l ≤ rn k) (hk' : okRope k' (rb k) (ro k + l) (rn k - l) = true) :
    ClOK P p a o (.pure (.chan (some k'))) := by
  have hv := ev_vr (p := p) h hx
  rw [ex] at hv
  obtain ⟨A, c', ev, hr⟩ := vr_rope hk hv
  obtain ⟨q1, q2, q3, q4⟩ := okRope_spec hk'
  have e4 : rn k' + dlen = rn k + dlen - l := by omega
  rcases hr with hr | ⟨r, s, hp, rfl, hc1, hc2⟩
  · have hl0 : l = 0 := by omega
    subst hl0
    have ec : ∀ c', (rn k + dlen ≤ c') → ∀ w, _ := fun c' hc w => bndEnd_run2 (P := P) (cap := c') h hlo hhi hl hb (by omega) hc w
    have hrn : rn k + dlen = 0 := hr
    refine ⟨.slice A (rn k' + dlen) c', .rope q1 (.inl (by omega)), fun w => ?_⟩
    have e2 := ec c' (by omega) w
    unfold execOp
    cases A with
    | none =>
      simp only [ho, ev, Instr.sliceAt, Sem.run_bind, run_underlying ht, Result.andThen_ok, Instr.slice, Option.map_none, e2, sizeOf, run_typeInfo w hinf, Sem.run_pure]
      simp only [Nat.zero_mul, Nat.sub_zero, Option.map_none, e4]
      split <;> rfl
    | some A =>
      simp only [ho, ev, Instr.sliceAt, Sem.run_bind, run_underlying ht, Result.andThen_ok, Instr.slice, Option.map_none, e2, sizeOf, run_typeInfo w hinf, Sem.run_pure]
      simp only [Nat.zero_mul, Nat.sub_zero, Option.map_some, e4]
      split <;> simp [Addr.add]
  · have e2 : ∀ w, _ := fun w => bndEnd_run2 (P := P) (cap := c') h hlo hhi hl hb (by omega) hc1 w
    by_cases h0 : c' = l
    · refine ⟨.slice (some ⟨r, ro k, none⟩) (rn k' + dlen) (c' - l), .rope q1 (.inl (by omega)), fun w => ?_⟩
      unfold execOp
      simp only [ho, ev, Instr.sliceAt, Sem.run_bind, run_underlying ht, Result.andThen_ok, Instr.slice, Option.map_none, e2, sizeOf, run_typeInfo w hinf, Sem.run_pure, e4]
      rw [if_pos h0]
    · refine ⟨.slice (some ⟨r, ro k + l, none⟩) (rn k' + dlen) (c' - l), .rope q1 (.inr ⟨r, s, by rw [q2]; exact hp, by rw [q3], by omega, by omega⟩), fun w => ?_⟩
      unfold execOp
      simp only [ho, ev, Instr.sliceAt, Sem.run_bind, run_underlying ht, Result.andThen_ok, Instr.slice, Option.map_none, e2, sizeOf, run_typeInfo w hinf, Sem.run_pure, e4, h1s, Nat.mul_one, Option.map_some]
      rw [if_neg h0]
      have : (⟨r, ro k, none⟩ : Addr).add l = ⟨r, ro k + l, none⟩ := by unfold Addr.add; split <;> simp_all
      rw [this]
theorem rope_some {k : Nat} {A : Option Addr} {c' : Nat} (hr : RopeAt p (rb k) (ro k) (rn k) A c') (h0 : 0 < rn k) : ∃ r x, p (rb k) = some (r, x) ∧ A = some ⟨r, ro k, none⟩ ∧ rn k + dlen ≤ c' ∧ c' ≤ rn k + x := by
  rcases hr with hr | hr
  · omega
  · exact hr
theorem addr_add (r off l : Nat) : (⟨r, off, none⟩ : Addr).add l = ⟨r, off + l, none⟩ := by unfold Addr.add; split <;> simp_all
/-- 's[l:h]', ahead of what isn't known. -/
theorem cl_rope_cut (h : AR p T a.tmps) {t elem : TypeId} {x : Operand} {lo hi : Option Operand} {i : TypeInfo} {k l hh : Nat} (ho : o.op = .slice t x lo hi none) (hx : okO x = true) (hlo : lo.all okO = true) (hhi : hi.all okO = true) (hhs : hi.isSome = true)
    (ht : P.underlying t = some (.slice elem)) (hinf : P.info? elem = some i) (h1s : i.size = 1) (ex : aev T x = .chan (some k)) (hk : k % 2 = 1) (hl : bnd T 0 lo = some l) (hh' : bnd T 0 hi = some hh) (h1 : l ≤ hh) (h2 : hh ≤ rn k) (h0 : 0 < rn k) (h4 : l = 0 ∨ l < rn k) (hbig : rn k < BIG) :
    ClOK P p a o (.pure (.slice (some ⟨rb k, ro k + l, none⟩) (hh - l) (rn k - l))) := by
  have hv := ev_vr (p := p) h hx
  rw [ex] at hv
  obtain ⟨A, c', ev, hr⟩ := vr_rope hk hv
  obtain ⟨r, s, hp, rfl, hc1, hc2⟩ := rope_some hr h0
  have hh2 : bnd T (rn k + dlen) hi = some hh := by
    cases hi with
    | none => cases hhs
    | some z => exact hh'
  have e2 : ∀ w, _ := fun w => bounds_run (P := P) (cap := c') h hlo hhi hl hh2 h1 (by omega) w
  refine ⟨.slice (some ⟨r, ro k + l, none⟩) (hh - l) (c' - l), .slice hp (.inl ⟨by omega, by omega, by omega⟩), fun w => ?_⟩
  unfold execOp
  simp only [ho, ev, Instr.sliceAt, Sem.run_bind, run_underlying ht, Result.andThen_ok, Instr.slice, Option.map_none, e2, sizeOf, run_typeInfo w hinf, Sem.run_pure, h1s, Nat.mul_one]
  by_cases hz : c' = l
  · have : l = 0 := by omega
    subst this
    simp only [Nat.add_zero, Option.map_some, addr_add]
    split <;> rfl
  · rw [if_neg hz, Option.map_some, addr_add]
/-- 's[l:h:m]', ahead of what isn't known. -/
theorem cl_rope_cut3 (h : AR p T a.tmps) {t elem : TypeId} {x y z : Operand} {lo : Option Operand} {i : TypeInfo} {k l hh m : Nat} (ho : o.op = .slice t x lo (some y) (some z)) (hx : okO x = true) (hlo : lo.all okO = true) (hhi : okO y = true) (hmx : okO z = true)
    (ht : P.underlying t = some (.slice elem)) (hinf : P.info? elem = some i) (h1s : i.size = 1) (ex : aev T x = .chan (some k)) (hk : k % 2 = 1) (hl : bnd T 0 lo = some l) (hh' : bnd T 0 (some y) = some hh) (hm' : bnd T 0 (some z) = some m) (h1 : l ≤ hh) (h2 : hh ≤ m) (h3 : m ≤ rn k) (h0 : 0 < rn k) :
    ClOK P p a o (.pure (.slice (some ⟨rb k, if m = l then ro k else ro k + l, none⟩) (hh - l) (m - l + BIG))) := by
  have hv := ev_vr (p := p) h hx
  rw [ex] at hv
  obtain ⟨A, c', ev, hr⟩ := vr_rope hk hv
  obtain ⟨r, s, hp, rfl, hc1, hc2⟩ := rope_some hr h0
  have e2 : ∀ w, _ := fun w => bounds3_run (P := P) (len := rn k + dlen) (cap := c') h hlo hhi hmx hl hh' hm' h1 h2 (by omega) w
  refine ⟨.slice (some ⟨r, if m = l then ro k else ro k + l, none⟩) (hh - l) (m - l), .slice hp (CapR.just _ _), fun w => ?_⟩
  unfold execOp
  simp only [ho, ev, Instr.sliceAt, Sem.run_bind, run_underlying ht, Result.andThen_ok, Instr.slice, Option.map_some, e2, sizeOf, run_typeInfo w hinf, Sem.run_pure, h1s, Nat.mul_one, addr_add]
  by_cases hml : m = l
  · rw [if_pos (by omega), if_pos hml]
  · rw [if_neg (by omega), if_neg hml]
/-- 's[j]', ahead of what isn't known. -/
theorem cl_rope_index (h : AR p T a.tmps) {t elem : TypeId} {x y : Operand} {i : TypeInfo} {k j : Nat} {kd : IntKind} (ho : o.op = .indexAddr t x y) (hx : okO x = true) (hy : okO y = true)
    (ht : P.underlying t = some (.slice elem)) (hinf : P.info? elem = some i) (h1s : i.size = 1) (ex : aev T x = .chan (some k)) (hk : k % 2 = 1) (ey : aev T y = .int kd (j : Nat)) (h1 : j < rn k) :
    ClOK P p a o (.pure (.pointer (some ⟨rb k, ro k + j, none⟩))) := by
  have hv := ev_vr (p := p) h hx
  rw [ex] at hv
  obtain ⟨A, c', ev, hr⟩ := vr_rope hk hv
  obtain ⟨r, s, hp, rfl, hc1, hc2⟩ := rope_some hr (by omega)
  have eyr := ev_plain (p := p) h hy (by rw [ey]; rfl)
  rw [ey] at eyr
  refine ⟨.pointer (some ⟨r, ro k + j, none⟩), .ptr hp, fun w => ?_⟩
  have hin : (0 : Int) ≤ (j : Int) ∧ (j : Int) < ((rn k + dlen : Nat) : Int) := by omega
  unfold execOp
  simp only [ho, ev, eyr, Instr.indexAt, asIntOf, Sem.run_bind, Sem.run_pure, run_underlying ht, Result.andThen_ok, if_pos hin, sizeOf, run_typeInfo w hinf, h1s, Nat.mul_one, Int.toNat_natCast, addr_add]
end
end
end Go.Proofs.YtampcckdbjbllaaGreatDoor.Ev
set_option linter.unusedVariables false
set_option linter.unusedSectionVars false
set_option linter.unusedSimpArgs false
namespace Go.Proofs.YtampcckdbjbllaaGreatDoor.Ev
noncomputable section
open Go.RowKit
variable [Sym] [OraF]

section
variable {P : Program} {p : Mp} {T : Array Value} {a : Act} {o : Oper}

/-- An object that lies nowhere. -/
theorem Into.ghost {H : AH} {w : World} (h : Sim P p H w) (hf : p H.nx = none) (o : Obj) : Into P p H w p (H.push o) w where
  le := p.le_refl
  sim := by
    have live : ∀ b r x, p b = some (r, x) → (H.push o).get b = H.get b := fun b r x e => by
      rw [get_push]
      split
      · rename_i e1; subst e1; rw [hf] at e; cases e
      · rfl
    refine ⟨fun b b' r x x' e e' h1 h2 => h.inj b b' r x x' e e' ?_ ?_, h.lt, fun b r x o1 e h1 => h.obj b r x o1 e ?_⟩
    · rw [← live b r x e]; exact h1
    · rw [← live b' r x' e']; exact h2
    · rw [← live b r x e]; exact h1
  size := Nat.le_refl _
  os := rfl
  tape := rfl
  output := rfl
  kept := fun _ _ _ => rfl
  own := fun b r x e hb _ => by
    refine ⟨b, x, e, ?_⟩
    rw [get_push] at hb
    split at hb
    · rename_i e1; subst e1; rw [hf] at e; cases e
    · exact hb
  fresh := fun b h => .inl h
  nx := by simp [AH.push]
theorem grownBy_refl (w : World) (row : Option Nat) : w.grownBy w row := ⟨rfl, rfl, rfl, Nat.le_refl _, fun _ _ _ => rfl⟩

/-- The object that is given. -/
def isGiven : Option Obj → Bool
  | some (.chan _ _ _ _ _ _) => true
  | _ => false
theorem given_obj {P : Program} {p : Mp} {H : AH} {w : World} (hs : Sim P p H w) (hg : p 0 = some (Sym.gr, 0)) (h : isGiven (H.get 0) = true) : w.heap[Sym.gr]? = some Sym.gobj := by
  unfold isGiven at h
  split at h
  · rename_i ho
    exact hs.obj 0 _ _ _ hg ho
  · cases h
theorem append_src_ok (h : AR p T a.tmps) {H : AH} {w : World} {t e : TypeId} {i : TypeInfo} {z : Value} {x y : Operand} {n k k' : Nat} {bb : Option Nat} {cs : Array Value} (ho : o.op = .call { callee := .builtin .append, args := #[x, y], argTypes := #[t, t] }) (hx : okO x = true)
    (ht : P.underlying t = some (.slice e)) (hi : P.info? e = some i) (hz : i.zero = some z) (hzs : z.cells.size = i.size) (h1s : i.size = 1) (hib : i.bytes = 1) (hs : Sim P p H w) (hf : p H.nx = none)
    (ex : (bb = none ∧ aev T x = .slice none 0 0 ∧ n = 0 ∧ cs = #[]) ∨ ∃ b f, bb = some b ∧ aev T x = .slice (some ⟨b, 0, none⟩) n n ∧ H.get b = some (.cells cs e f) ∧ cs.size = n)
    {A : Option Addr} {c2r : Nat} {pre news : List Value} (ct : pre.length = k) (eu : a.eval y = .slice A (k + dlen) c2r)
    (hsrc : k + dlen ≠ 0 → ∃ A0 : Addr, A = some A0 ∧ news.length = k + dlen ∧ (∀ (j : Nat) (u : Value), news[j]? = some u → w.cell? (A0.add j) = some u) ∧ (∀ (j : Nat) (v v' : Value), pre[j]? = some v → news[j]? = some v' → VR p v v') ∧
      ∀ (j : Nat) (d : UInt8), Sym.data[j]? = some d → news[k + j]? = some (.int .u8 (d.toNat : Int)))
    (h1 : pre.all (·.oneCell') = true) (hnm : n + k ≤ 1000000) (hk' : okRope k' H.nx 0 (n + k) = true) :
    ∃ (v' : Value) (w' : World) (q : Mp), (execOp a.eval o).run P w = .ok (.value v') w' ∧ Into P p H w q ((match bb with | some b => H.put b none | none => H).push (.cells (cs ++ pre.toArray) e (0, 1))) w' ∧
      VR q (.chan (some k')) v' := by
  obtain ⟨q1, q2, q3, q4⟩ := okRope_spec hk'
  have hfew : dlen ≤ 400 := Sym.few
  have hvx := ev_vr (p := p) h hx
  have hexec : ∀ (v : Value) (w' : World), (Builtin.append_ #[t, t] o.type #[a.eval x, .slice A (k + dlen) c2r]).run P w = .ok v w' → (execOp a.eval o).run P w = .ok (.value v) w' := fun v w' hr => by
    unfold execOp
    simp only [ho, resolve, List.map_toArray, List.map_cons, List.map_nil, Sem.run_bind, Sem.run_pure, Result.andThen_ok, invoke, builtin, eu, hr]
  by_cases hm0 : k + dlen = 0
  · -- nothing is appended
    have hrn : k = 0 := by omega
    have hdl : dlen = 0 := by omega
    have hnil : pre = [] := List.eq_nil_of_length_eq_zero (by rw [ct]; exact hrn)
    have run0 : ∀ (B : Option Addr) (cr : Nat), n ≤ cr → (Builtin.append_ #[t, t] o.type #[.slice B n cr, .slice A (k + dlen) c2r]).run P w = .ok (.slice B n cr) w := fun B cr hcr => by
      rw [hm0]
      cases B <;> cases A <;> simp [Builtin.append_, run_underlying ht, sizeOf, run_typeInfo _ hi, Builtin.lenOf, Builtin.firstCells, hcr, storeCells, loadCells, loadCellsFrom]
    rw [hnil]
    rcases ex with ⟨e1, e2, e3, e4⟩ | ⟨b, f, e1, e2, e3, e4⟩
    · subst e1; subst e3; subst e4
      rw [e2] at hvx
      have eux := plain_eq rfl hvx
      refine ⟨.slice none 0 0, w, p, hexec _ _ (by rw [eux]; exact run0 none 0 (by omega)), by simpa using Into.ghost hs hf _, ?_⟩
      have := VR.rope (p := p) (k := k') q1 (A := none) (c' := 0) (.inl (by omega))
      rwa [q4, hrn, hdl] at this
    · subst e1
      rw [e2] at hvx
      generalize eux : a.eval x = ux at hvx hexec
      cases hvx with
      | slice hp hq =>
        rename_i r s capr
        have ⟨hc1, hc2⟩ : n ≤ capr ∧ capr ≤ n + s := by
          rcases hq with hq | hq
          · exact hq.2
          · have := hq.1; unfold BIG at this; omega
        obtain ⟨_, c', hc', hq1, hq2, hq4, hq3⟩ := hs.obj b r s _ hp e3
        refine ⟨.slice (some ⟨r, 0, none⟩) n capr, w, p.set H.nx (r, s), hexec _ _ (run0 _ _ hc1), ?_, ?_⟩
        · have := Into.app (p := p) (row := some r) (b := some b) (H := H) (w := w) (w' := w) (g := r) (x := s) (o := .cells (cs ++ ([] : List Value).toArray) e (0, 1)) hs hf (grownBy_refl w _) (fun g hg => by cases hg; exact ⟨b, s, rfl, hp, by rw [e3]; nofun⟩) (.inl rfl) (hs.lt b r s hp) ?_
          · exact this
          · rw [hc']
            refine ⟨.inr ⟨rfl, c', rfl, fun i d hd => ?_⟩, c', rfl, ?_, ?_, hq4, fun j v v' a1 a2 => (hq3 j v v' (by simpa using a1) a2).mono (Mp.le_set _ hf)⟩
            · have : i < Sym.data.length := (List.getElem?_eq_some_iff.1 hd).1
              unfold dlen at hdl; omega
            · simpa using hq1
            · simpa using hq2
        · have := VR.rope (p := p.set H.nx (r, s)) (k := k') q1 (A := some ⟨r, 0, none⟩) (c' := capr) (.inr ⟨r, s, by rw [q2]; exact Mp.set_eq _ _ _, by rw [q3], by omega, by omega⟩)
          have en : rn k' + dlen = n := by omega
          rwa [en] at this
  · obtain ⟨A0, rfl, hnl, hcell, hnr, hnt⟩ := hsrc hm0
    -- the new cells
    obtain ⟨m, hm⟩ : ∃ m, m = k + dlen := ⟨_, rfl⟩
    rw [← hm] at hexec hm0 hnl
    have hone : ∀ u ∈ news, u.oneCell' = true := fun u hu => by
      obtain ⟨j, hj⟩ := List.mem_iff_getElem?.1 hu
      have hjm : j < m := by rw [← hnl]; exact (List.getElem?_eq_some_iff.1 hj).1
      rcases Nat.lt_or_ge j (k) with hj2 | hj2
      · have hj' : j < pre.length := by rw [ct]; exact hj2
        have e := List.getElem?_eq_getElem hj'
        rw [oneCell_vr (hnr j _ _ e hj)]
        exact List.all_eq_true.1 h1 _ (List.getElem_mem hj')
      · obtain ⟨d, hd⟩ : ∃ d, Sym.data[j - k]? = some d := by
          have hlt : j - k < Sym.data.length := by unfold dlen at hm; omega
          exact ⟨_, List.getElem?_eq_getElem hlt⟩
        have := hnt _ d hd
        rw [show k + (j - k) = j by omega, hj] at this
        cases this
        rfl
    have fin : ∀ (g sx capr : Nat) (cur' : Array Value) (w' : World) (row : Option Nat) (olds rest : List Value), w'.heap[g]? = some (.cells cur' e (0, 0)) → cur'.size = n + k + sx → (sx = 0 ∨ cur'.size ≤ maxLen) → cur' = (olds ++ news ++ rest).toArray → AR p cs olds.toArray →
        w.grownBy w' row → (∀ g, row = some g → ∃ b0 x0, bb = some b0 ∧ p b0 = some (g, x0) ∧ H.get b0 ≠ none) → (row = some g ∨ g = w.heap.size) → n + m ≤ capr → capr ≤ n + k + sx →
        (execOp a.eval o).run P w = .ok (.value (.slice (some ⟨g, 0, none⟩) (n + m) capr)) w' → cs.size = n →
        ∃ (v' : Value) (w' : World) (q : Mp), (execOp a.eval o).run P w = .ok (.value v') w' ∧ Into P p H w q ((match bb with | some b => H.put b none | none => H).push (.cells (cs ++ pre.toArray) e (0, 1))) w' ∧
          VR q (.chan (some k')) v' := by
      intro g sx capr cur' w' row olds rest hh hcur hmax hjoin hold hgrow hrow hgg hc1 hc2 hrun hcs
      have hol : olds.length = n := by have := hold.1; simp at this; omega
      have hlt : g < w'.heap.size := (Array.getElem?_eq_some_iff.1 hh).1
      have hsize : (cs ++ pre.toArray).size = n + k := by
        rw [Array.size_append, hcs, List.size_toArray, ct]
      refine ⟨_, w', p.set H.nx (g, sx), hrun, ?_, ?_⟩
      · refine Into.app hs hf hgrow hrow hgg hlt ?_
        rw [hh]
        refine ⟨.inr ⟨rfl, cur', rfl, fun j d hd => ?_⟩, cur', rfl, fun i' hi' => ?_, ?_, ?_, fun j v v'' a1 a2 => VR.mono (Mp.le_set _ hf) ?_⟩
        · have hj : j < dlen := (List.getElem?_eq_some_iff.1 hd).1
          rw [hsize, hjoin, List.getElem?_toArray, list_at, hol, if_neg (by omega), hnl, if_pos (by omega)]
          have := hnt j d hd
          rw [← this]; congr 1; omega
        · rw [hi] at hi'; cases hi'
          rw [hcur, hsize, h1s]; omega
        · rw [hsize, hcur]; omega
        · rcases hmax with h | h
          · exact .inl h
          · right; intro i' hi'; rw [hi] at hi'; cases hi'; rw [h1s]; omega
        · rw [hjoin, List.getElem?_toArray, list_at, hol] at a2
          rw [Array.getElem?_append, hcs] at a1
          split at a1
          · rename_i hj1
            rw [if_pos hj1] at a2
            exact hold.2 j v v'' a1 (by simpa using a2)
          · rename_i hj1
            have a1' : pre[j - n]? = some v := by simpa using a1
            have hj2 : j - n < k := by rw [← ct]; exact (List.getElem?_eq_some_iff.1 a1').1
            rw [if_neg hj1, hnl, if_pos (by omega)] at a2
            exact hnr _ v v'' a1' a2
      · have := VR.rope (p := p.set H.nx (g, sx)) (k := k') q1 (A := some ⟨g, 0, none⟩) (c' := capr) (.inr ⟨g, sx, by rw [q2]; exact Mp.set_eq _ _ _, by rw [q3], by omega, by omega⟩)
        have en : rn k' + dlen = n + m := by omega
        rwa [en] at this
    have grownW : ∀ (ob : Obj) (row : Option Nat), w.grownBy (w.drew.alloc ob) row := fun ob row => ⟨rfl, rfl, rfl, by simp, fun k hk _ => Below.heap_alloc w.drew ob k hk⟩
    rcases ex with ⟨e1, e2, e3, e4⟩ | ⟨b, f, e1, e2, e3, e4⟩
    · subst e3; subst e4
      rw [e2] at hvx
      have eux := plain_eq rfl hvx
      have hr := run_append_nil (P := P) w t o.type e i z ht hi hz A0 m c2r news (by rw [hnl, h1s, Nat.mul_one]) (by simpa using hcell) (by omega) (by omega) (by rw [hib]; omega)
      have hge := grownCap_ge w m 0 e
      have hmx : grownCap w m 0 e ≤ maxLen := grownCap_le_maxLen w m 0 e (by simp only [maxLen]; omega)
      have hsz4 : (news.toArray ++ Builtin.zeroCells z.cells (grownCap w m 0 e - m)).size = grownCap w m 0 e := by
        simp only [Array.size_append, List.size_toArray, size_zeroCells, hzs, hnl, h1s]
        omega
      refine fin w.heap.size (grownCap w m 0 e - k) (grownCap w m 0 e) (news.toArray ++ Builtin.zeroCells z.cells (grownCap w m 0 e - m)) (w.drew.alloc (.cells (news.toArray ++ Builtin.zeroCells z.cells (grownCap w m 0 e - m)) e)) none [] (Builtin.zeroCells z.cells (grownCap w m 0 e - m)).toList (heap_alloc_new w.drew _) ?_ (.inr ?_) ?_ (AR.empty p) (grownW _ none) (fun g hg => by cases hg) (.inr rfl) (by omega) (by omega) ?_ (by simp)
      · rw [hsz4]; omega
      · rw [hsz4]; exact hmx
      · apply Array.ext'; simp
      · have := hexec _ _ (by rw [eux]; exact hr)
        simpa using this
    · rw [e2] at hvx
      generalize eux : a.eval x = ux at hvx hexec
      cases hvx with
      | slice hp hq =>
        rename_i r s capr
        have ⟨q2', q3'⟩ : n ≤ capr ∧ capr ≤ n + s := by
          rcases hq with h | h
          · exact h.2
          · have := h.1; unfold BIG at this; omega
        obtain ⟨_, c', hc', hq1, hq2, hq4, hq3⟩ := hs.obj b r s _ hp e3
        have hq1 := hq1 i hi
        rw [h1s, Nat.mul_one, e4] at hq1
        have hrowb : ∀ g, some r = some g → ∃ b0 x0, bb = some b0 ∧ p b0 = some (g, x0) ∧ H.get b0 ≠ none := fun g hg => by cases hg; exact ⟨b, s, e1, hp, by rw [e3]; nofun⟩
        have holdl : (c'.toList.take n).length = n := by rw [List.length_take]; simp; omega
        have hold : AR p cs (c'.toList.take n).toArray := ⟨e4.trans (List.size_toArray.trans holdl).symm, fun j v v' h1 h2 => by
          rw [List.getElem?_toArray, List.getElem?_take] at h2
          split at h2
          · rw [Array.getElem?_toList] at h2; exact hq3 j v v' h1 h2
          · cases h2⟩
        have e1n : n * i.size = n := by rw [h1s, Nat.mul_one]
        by_cases hroom : n + m ≤ capr
        · have hr := run_append_room (P := P) w t o.type e i ht hi r n capr c' hc' A0 m c2r news (by rw [hnl, h1s, Nat.mul_one]) (by simpa using hcell) hone hroom (by rw [e1n, hnl]; omega)
          rw [e1n] at hr
          have hsz4 : (c'.toList.take n ++ news ++ c'.toList.drop (n + news.length)).toArray.size = c'.size := by
            simp only [List.size_toArray, List.length_append, List.length_drop, holdl, Array.length_toList]
            omega
          refine fin r (s - k) capr _ _ (some r) (c'.toList.take n) (c'.toList.drop (n + news.length)) (setRow_heap w r c' _ e (0, 0) hc') ?_ ?_ rfl hold ⟨rfl, rfl, rfl, by simp [World.setRow], fun k _ hk => setRow_other w r k _ (fun e => hk (by rw [e]))⟩ hrowb (.inl rfl) (by omega) (by omega) (hexec _ _ hr) e4
          · rw [hsz4]; omega
          · rw [hsz4]
            rcases hq4 with h | h
            · omega
            · right; have := h i hi; rw [h1s] at this; omega
        · have holds : ∀ (j : Nat) (u : Value), (c'.toList.take n)[j]? = some u → w.cell? ((⟨r, 0, none⟩ : Addr).add j) = some u := fun j u hj => by
            rw [cell_at hc', Nat.zero_add]
            rw [List.getElem?_take] at hj
            split at hj
            · rw [Array.getElem?_toList] at hj; exact hj
            · cases hj
          have hr := run_append_grow (P := P) w t o.type e i z ht hi hz ⟨r, 0, none⟩ n capr (c'.toList.take n) (by rw [holdl, e1n]) holds A0 m c2r news (by rw [hnl, h1s, Nat.mul_one]) (by simpa using hcell) (by omega) (by omega) (growslice_fits (by omega) (by rw [hib]; omega))
          have hge := grownCap_ge w (n + m) capr e
          have hmx : grownCap w (n + m) capr e ≤ maxLen := grownCap_le_maxLen w (n + m) capr e (by simp only [maxLen]; omega)
          have hsz4 : ((c'.toList.take n).toArray ++ news.toArray ++ Builtin.zeroCells z.cells (grownCap w (n + m) capr e - (n + m))).size = grownCap w (n + m) capr e := by
            have hz1 : (c'.toList.take n).toArray.size = n := List.size_toArray.trans holdl
            have hz2 : news.toArray.size = m := List.size_toArray.trans hnl
            rw [Array.size_append, Array.size_append, hz1, hz2, size_zeroCells, hzs, h1s]
            omega
          refine fin w.heap.size (grownCap w (n + m) capr e - (n + k)) (grownCap w (n + m) capr e) ((c'.toList.take n).toArray ++ news.toArray ++ Builtin.zeroCells z.cells (grownCap w (n + m) capr e - (n + m))) (w.drew.alloc (.cells ((c'.toList.take n).toArray ++ news.toArray ++ Builtin.zeroCells z.cells (grownCap w (n + m) capr e - (n + m))) e)) none (c'.toList.take n) (Builtin.zeroCells z.cells (grownCap w (n + m) capr e - (n + m))).toList (heap_alloc_new w.drew _) ?_ (.inr ?_) ?_ hold (grownW _ none) (fun g hg => by cases hg) (.inr rfl) (by omega) (by omega) (hexec _ _ hr) e4
          · rw [hsz4]; omega
          · rw [hsz4]; exact hmx
          · apply Array.ext'; simp
theorem append_rope_ok (h : AR p T a.tmps) {H : AH} {w : World} {t e : TypeId} {i : TypeInfo} {z : Value} {x y : Operand} {n k k' : Nat} {bb : Option Nat} {cs cs2 : Array Value} (ho : o.op = .call { callee := .builtin .append, args := #[x, y], argTypes := #[t, t] }) (hx : okO x = true) (hy : okO y = true)
    (ht : P.underlying t = some (.slice e)) (hi : P.info? e = some i) (hz : i.zero = some z) (hzs : z.cells.size = i.size) (h1s : i.size = 1) (hib : i.bytes = 1) (hs : Sim P p H w) (hf : p H.nx = none)
    (ex : (bb = none ∧ aev T x = .slice none 0 0 ∧ n = 0 ∧ cs = #[]) ∨ ∃ b f, bb = some b ∧ aev T x = .slice (some ⟨b, 0, none⟩) n n ∧ H.get b = some (.cells cs e f) ∧ cs.size = n)
    (ey : aev T y = .chan (some k)) (hk : k % 2 = 1) (hg2 : H.get (rb k) = some (.cells cs2 e (0, 1))) (hl2 : ro k + rn k = cs2.size) (h1 : (cs2.toList.drop (ro k)).all (·.oneCell') = true) (hnm : n + rn k ≤ 1000000) (hk' : okRope k' H.nx 0 (n + rn k) = true) :
    ∃ (v' : Value) (w' : World) (q : Mp), (execOp a.eval o).run P w = .ok (.value v') w' ∧ Into P p H w q ((match bb with | some b => H.put b none | none => H).push (.cells (cs ++ (cs2.toList.drop (ro k)).toArray) e (0, 1))) w' ∧
      VR q (.chan (some k')) v' := by
  have hvy := ev_vr (p := p) h hy
  rw [ey] at hvy
  obtain ⟨A, c2r, eu, hrope⟩ := vr_rope hk hvy
  have ct : (cs2.toList.drop (ro k)).length = rn k := by simp; omega
  by_cases hm0 : rn k + dlen = 0
  · exact append_src_ok h ho hx ht hi hz hzs h1s hib hs hf ex ct eu (news := []) (fun h => absurd hm0 h) h1 hnm hk'
  · obtain ⟨r2, s2, hp2, rfl, hb1, hb2⟩ : ∃ r x, p (rb k) = some (r, x) ∧ A = some ⟨r, ro k, none⟩ ∧ rn k + dlen ≤ c2r ∧ c2r ≤ rn k + x := by
      rcases hrope with hr | hr
      · exact absurd hr hm0
      · exact hr
    obtain ⟨hfl, c2', hc2', hs1, hsz2, _, hrel2⟩ := hs.obj _ r2 s2 _ hp2 hg2
    have htail : ∀ (j : Nat) (d : UInt8), Sym.data[j]? = some d → c2'[cs2.size + j]? = some (.int .u8 (d.toNat : Int)) := by
      rcases hfl with hfl | ⟨_, c3, hc3, ht3⟩
      · cases hfl
      · rw [hc2'] at hc3; cases hc3; exact ht3
    have hsz3 : cs2.size + dlen ≤ c2'.size := by
      rcases Nat.eq_zero_or_pos dlen with h0 | h0
      · omega
      · have hlt : dlen - 1 < Sym.data.length := by unfold dlen at h0 ⊢; omega
        have := (Array.getElem?_eq_some_iff.1 (htail (dlen - 1) _ (List.getElem?_eq_getElem hlt))).1
        omega
    refine append_src_ok h ho hx ht hi hz hzs h1s hib hs hf ex ct eu (news := (c2'.toList.drop (ro k)).take (rn k + dlen)) (fun _ => ⟨_, rfl, ?_, fun j u hj => ?_, fun j v v' h1 h2 => ?_, fun j d hd => ?_⟩) h1 hnm hk'
    · simp; omega
    · rw [cell_at hc2']
      rw [List.getElem?_take] at hj
      split at hj
      · rw [List.getElem?_drop, Array.getElem?_toList] at hj; exact hj
      · cases hj
    · rw [List.getElem?_take] at h2
      split at h2
      · rw [List.getElem?_drop, Array.getElem?_toList] at h1 h2
        exact hrel2 _ v v' h1 h2
      · cases h2
    · have hj : j < dlen := (List.getElem?_eq_some_iff.1 hd).1
      rw [List.getElem?_take, if_pos (by omega), List.getElem?_drop, Array.getElem?_toList]
      have := htail j d hd
      rw [← hl2] at this
      rw [← this]; congr 1; omega
/-- Appending the slice that is given. -/
theorem append_given_ok (h : AR p T a.tmps) {H : AH} {w : World} {t e : TypeId} {i : TypeInfo} {z : Value} {x y : Operand} {n k' m1 m2 : Nat} {fk : FloatKind} {bb : Option Nat} {cs : Array Value} (ho : o.op = .call { callee := .builtin .append, args := #[x, y], argTypes := #[t, t] }) (hx : okO x = true) (hy : okO y = true)
    (ht : P.underlying t = some (.slice e)) (hi : P.info? e = some i) (hz : i.zero = some z) (hzs : z.cells.size = i.size) (h1s : i.size = 1) (hib : i.bytes = 1) (hs : Sim P p H w) (hf : p H.nx = none)
    (ex : (bb = none ∧ aev T x = .slice none 0 0 ∧ n = 0 ∧ cs = #[]) ∨ ∃ b f, bb = some b ∧ aev T x = .slice (some ⟨b, 0, none⟩) n n ∧ H.get b = some (.cells cs e f) ∧ cs.size = n)
    (ey : aev T y = .complex fk m1 m2) (hg2 : isGiven (H.get 0) = true) (hnm : n + 0 ≤ 1000000) (hk' : okRope k' H.nx 0 (n + 0) = true) :
    ∃ (v' : Value) (w' : World) (q : Mp), (execOp a.eval o).run P w = .ok (.value v') w' ∧ Into P p H w q ((match bb with | some b => H.put b none | none => H).push (.cells (cs ++ ([] : List Value).toArray) e (0, 1))) w' ∧
      VR q (.chan (some k')) v' := by
  have hvy := ev_vr (p := p) h hy
  rw [ey] at hvy
  generalize euy : a.eval y = uy at hvy
  cases hvy with
  | given _ _ _ hg =>
    refine append_src_ok (k := 0) h ho hx ht hi hz hzs h1s hib hs hf ex (A := Sym.ga) (c2r := Sym.gc) (pre := []) rfl (by rw [euy, Nat.zero_add]) (news := Sym.data.map fun d => .int .u8 (d.toNat : Int)) (fun h0 => ?_) rfl hnm hk'
    have hg : p 0 = some (Sym.gr, 0) := by
      rcases hg with hg | hg
      · omega
      · exact hg
    have hob := given_obj hs hg hg2
    have hlt : 0 < Sym.data.length := by unfold dlen at h0; omega
    obtain ⟨A0, hA0, _⟩ := Sym.greads w hob 0 _ (List.getElem?_eq_getElem hlt)
    refine ⟨A0, hA0, by simp [dlen], fun j u hj => ?_, fun j v v' h1 => by simp at h1, fun j d hd => by rw [Nat.zero_add, List.getElem?_map, hd]; rfl⟩
    rw [List.getElem?_map] at hj
    cases hd : Sym.data[j]? with
    | none => rw [hd] at hj; cases hj
    | some d =>
      rw [hd] at hj
      cases hj
      obtain ⟨A1, hA1, hr⟩ := Sym.greads w hob j d hd
      rw [hA0] at hA1; cases hA1
      exact hr
end
end
end Go.Proofs.YtampcckdbjbllaaGreatDoor.Ev
set_option linter.unusedVariables false
set_option linter.unusedSectionVars false
set_option linter.unusedSimpArgs false
namespace Go.Proofs.YtampcckdbjbllaaGreatDoor.Ev
noncomputable section
open Go.RowKit
variable [Sym] [OraF]

section
variable {P : Program} {p : Mp} {T : Array Value} {a : Act} {o : Oper}

/-- What copying does, once it is known where the cells lie. -/
theorem copy_ok (h : AR p T a.tmps) {H : AH} {w : World} {t t2 el : TypeId} {i : TypeInfo} {x y : Operand} {b r s b2 r2 s2 off off2 lx ly cx cy kk : Nat} {cs cs2 : Array Value} {e1 e2 : TypeId} {f f2 : Nat × Nat} (ho : o.op = .call { callee := .builtin .copy, args := #[x, y], argTypes := #[t, t2] }) (hs : Sim P p H w)
    (ht : P.underlying t = some (.slice el)) (hi : P.info? el = some i) (hx : a.eval x = .slice (some ⟨r, off, none⟩) lx cx) (hy : a.eval y = .slice (some ⟨r2, off2, none⟩) ly cy) (hkk : Nat.min ly lx = kk) (hp : p b = some (r, s)) (hp2 : p b2 = some (r2, s2))
    (hg : H.get b = some (.cells cs e1 f)) (hg2 : H.get b2 = some (.cells cs2 e2 f2)) (c1 : off2 + kk * i.size ≤ cs2.size) (c3 : off + kk * i.size ≤ cs.size) (c4 : ((cs2.toList.drop off2).take (kk * i.size)).all (·.oneCell') = true) :
    ∃ w', (execOp a.eval o).run P w = .ok (.value (.int .i64 (kk : Nat))) w' ∧ Into P p H w p (H.put b (some (.cells (putAt cs off ((cs2.toList.drop off2).take (kk * i.size))) e1 f))) w' := by
  obtain ⟨_, c2', hc2', _, hsz2, _, hrel2⟩ := hs.obj b2 r2 s2 _ hp2 hg2
  have hlen2 : ((cs2.toList.drop off2).take (kk * i.size)).length = kk * i.size := by simp; omega
  have hlen3 : ((c2'.toList.drop off2).take (kk * i.size)).length = kk * i.size := by simp; omega
  obtain ⟨w', h1, h2⟩ := write_cells (off := off) (vs := (cs2.toList.drop off2).take (kk * i.size)) (vs' := (c2'.toList.drop off2).take (kk * i.size)) hs hp hg (by rw [hlen2]; exact c3) (by rw [hlen2, hlen3]) (fun j v v' h1 h2 => by
    rw [List.getElem?_take] at h1 h2
    split at h1
    · rename_i hj
      rw [if_pos hj] at h2
      rw [List.getElem?_drop, Array.getElem?_toList] at h1 h2
      exact hrel2 _ v v' h1 h2
    · cases h1) c4
  refine ⟨w', ?_, h2⟩
  have hload : (loadCells ⟨r2, off2, none⟩ (kk * i.size)).run P w = .ok ((c2'.toList.drop off2).take (kk * i.size)).toArray w := by
    have := run_loadCells_list (P := P) w ⟨r2, off2, none⟩ ((c2'.toList.drop off2).take (kk * i.size)) (fun j u hj => by
      rw [cell_at hc2']
      rw [List.getElem?_take] at hj
      split at hj
      · rw [List.getElem?_drop, Array.getElem?_toList] at hj; exact hj
      · cases hj)
    rwa [hlen3] at this
  unfold execOp
  simp only [ho, resolve, List.map_toArray, List.map_cons, List.map_nil, Sem.run_bind, Sem.run_pure, Result.andThen_ok, invoke, builtin, Builtin.copy_, List.getElem?_toArray, List.getElem?_cons_zero, List.getElem?_cons_succ, hx, hy, run_underlying ht, Builtin.lenOf, hkk, sizeOf, run_typeInfo w hi, Builtin.firstCells, hload, h1]
  rfl
end
end
end Go.Proofs.YtampcckdbjbllaaGreatDoor.Ev
set_option linter.unusedVariables false
set_option linter.unusedSectionVars false
set_option linter.unusedSimpArgs false
namespace Go.Proofs.YtampcckdbjbllaaGreatDoor.Ev
noncomputable section
open Go.RowKit
variable [Sym] [OraF]

def pv (P : Program) (T : Array Value) (o : Oper) : Option Cl :=
  match prun P (execOp (aev T) o) with
  | some (.value v) => some (.pure v)
  | _ => none
def pvp (P : Program) (T : Array Value) (o : Oper) : Option Cl :=
  match prun P (execOp (aev T) o) with
  | some (.value v) => if plain v then some (.pure v) else none
  | _ => none
def zeroOf (P : Program) (t : TypeId) : Option (TypeInfo × Value) :=
  match P.info? t with
  | some i => match i.zero with
    | some z => if plain z && z.cells.size == i.size then some (i, z) else none
    | none => none
  | none => none
theorem zeroOf_spec {P : Program} {t : TypeId} {i : TypeInfo} {z : Value} (h : zeroOf P t = some (i, z)) : P.info? t = some i ∧ i.zero = some z ∧ plain z = true ∧ z.cells.size = i.size := by
  unfold zeroOf at h
  split at h
  · rename_i j hj
    split at h
    · rename_i y hy
      split at h
      · rename_i hc
        cases h
        simp only [Bool.and_eq_true, beq_iff_eq] at hc
        exact ⟨hj, hy, hc.1, hc.2⟩
      · cases h
    · cases h
  · cases h

def aLoad (P : Program) (T : Array Value) (t : TypeId) (x : Operand) : Option Cl :=
  if okO x then
    match aev T x with
    | .pointer (some ⟨b, off, none⟩) => match aggD P t with
      | some ag => match P.info? t with
        | some i => some (.obs b (loadF ag i.size off))
        | none => none
      | none => none
    | _ => none
  else none
/-- Operations on small numbers, the short way. -/
def fastBin (op : BinOp) (x y : Value) : Option Value :=
  match x, y with
  | .int .i64 (.ofNat a), .int .i64 (.ofNat b) => (match op with
    | .add => if Nat.ble (Nat.add a b) 9223372036854775807 then some (.int .i64 (.ofNat (Nat.add a b))) else none
    | .sub => if Nat.ble b a && Nat.ble a 9223372036854775807 then some (.int .i64 (.ofNat (Nat.sub a b))) else none
    | .mul => if Nat.ble (Nat.mul a b) 9223372036854775807 then some (.int .i64 (.ofNat (Nat.mul a b))) else none
    | .eql => some (.bool (Nat.beq a b))
    | .neq => some (.bool (!Nat.beq a b))
    | .lss => some (.bool (Nat.ble (Nat.succ a) b))
    | .leq => some (.bool (Nat.ble a b))
    | .gtr => some (.bool (Nat.ble (Nat.succ b) a))
    | .geq => some (.bool (Nat.ble b a))
    | _ => none)
  | .int .u8 (.ofNat a), .int .u8 (.ofNat b) => (match op with
    | .eql => some (.bool (Nat.beq a b))
    | .neq => some (.bool (!Nat.beq a b))
    | _ => none)
  | _, _ => none
theorem wrap64 {n : Nat} (h : n ≤ 9223372036854775807) : IntKind.wrap .i64 (n : Int) = n := by
  unfold IntKind.wrap
  have e : ((n : Int) % (2 ^ IntKind.i64.bits : Int)) = n := by
    have : (2 ^ IntKind.i64.bits : Int) = 18446744073709551616 := by decide
    rw [this]; omega
  simp only [e]
  rw [if_neg]
  have : (2 ^ (IntKind.i64.bits - 1) : Int) = 9223372036854775808 := by decide
  rw [this]
  simp
  omega
theorem beq_int (a b : Nat) : ((a : Int) == (b : Int)) = Nat.beq a b := by
  rw [Bool.eq_iff_iff]; simp [Nat.beq_eq]; omega
theorem fastBin_ok {P : Program} {op : BinOp} {t : TypeId} {u v : Operand} {x y z : Value} (e : fastBin op x y = some z) : prun P (do eqGuard op t u v x y; binOp op t x y) = some z := by
  unfold fastBin at e
  split at e
  · rename_i a b
    split at e
    · split at e
      · rename_i h
        cases e
        have := wrap64 (Nat.le_of_ble_eq_true h)
        simp only [Nat.add_eq, Int.natCast_add] at this
        simp [eqGuard, binOp, Op.intArith, prun, pure, Sem.bind, bind, this]
      · cases e
    · split at e
      · rename_i h
        cases e
        simp only [Bool.and_eq_true, Nat.ble_eq] at h
        have := wrap64 (n := a - b) (by omega)
        rw [Int.natCast_sub h.1] at this
        simp [eqGuard, binOp, Op.intArith, prun, pure, Sem.bind, bind, this, Int.natCast_sub h.1]
      · cases e
    · split at e
      · rename_i h
        cases e
        have := wrap64 (Nat.le_of_ble_eq_true h)
        simp only [Nat.mul_eq, Int.natCast_mul] at this
        simp [eqGuard, binOp, Op.intArith, prun, pure, Sem.bind, bind, this]
      · cases e
    · cases e; simp [eqGuard, binOp, Op.intCmp, prun, pure, Sem.bind, bind, beq_int]
    · cases e; simp [eqGuard, binOp, Op.intCmp, prun, pure, Sem.bind, bind, beq_int, bne]
    · cases e; simp [eqGuard, binOp, Op.intCmp, prun, pure, Sem.bind, bind]; rw [Bool.eq_iff_iff]; simp [Nat.succ_le_iff]
    · cases e; simp [eqGuard, binOp, Op.intCmp, prun, pure, Sem.bind, bind]; rw [Bool.eq_iff_iff]; simp
    · cases e; simp [eqGuard, binOp, Op.intCmp, prun, pure, Sem.bind, bind]; rw [Bool.eq_iff_iff]; simp [Nat.succ_le_iff]
    · cases e; simp [eqGuard, binOp, Op.intCmp, prun, pure, Sem.bind, bind]; rw [Bool.eq_iff_iff]; simp
    · cases e
  · rename_i a b
    split at e
    · cases e; simp [eqGuard, binOp, Op.intCmp, prun, pure, Sem.bind, bind, beq_int]
    · cases e; simp [eqGuard, binOp, Op.intCmp, prun, pure, Sem.bind, bind, beq_int, bne]
    · cases e
  · cases e
theorem fastBin_plain {op : BinOp} {x y z : Value} (e : fastBin op x y = some z) : plain x = true ∧ plain y = true ∧ plain z = true := by
  unfold fastBin at e
  split at e
  · refine ⟨rfl, rfl, ?_⟩
    repeat' split at e
    all_goals first | (cases e; rfl) | (cases e; done)
  · refine ⟨rfl, rfl, ?_⟩
    repeat' split at e
    all_goals first | (cases e; rfl) | (cases e; done)
  · cases e
/-- The address of a cell of a slice, the short way. -/
def fastIdx (P : Program) (t : TypeId) (x i : Value) : Option Value :=
  match x, i with
  | .slice (some ⟨b, off, none⟩) n _, .int _ (.ofNat m) => if Nat.ble (Nat.succ m) n then (match P.underlying t with
    | some (.slice e) => (match P.info? e with
      | some inf => some (.pointer (some ⟨b, Nat.add off (Nat.mul m inf.size), none⟩))
      | none => none)
    | _ => none) else none
  | _, _ => none
theorem fastIdx_ok {P : Program} {t : TypeId} {x i z : Value} (e : fastIdx P t x i = some z) : prun P (Instr.indexAt t x i) = some z := by
  unfold fastIdx at e
  split at e
  · rename_i b off n c k m
    split at e
    · rename_i h
      have hm : m < n := by simpa [Nat.ble_eq, Nat.succ_le_iff] using h
      split at e
      · rename_i el ht
        split at e
        · rename_i inf hi
          cases e
          have hin : (0 : Int) ≤ (m : Int) ∧ (m : Int) < (n : Int) := by omega
          have e1 : prun P (underlying t) = some (.slice el) := by simp [underlying, prun_bind, program, prun, ht, pure]
          have e2 : prun P (sizeOf el) = some inf.size := by simp [sizeOf, typeInfo, prun_bind, program, prun, hi, pure]
          unfold Instr.indexAt
          simp only [asIntOf, prun_bind, e1, Option.bind_some]
          simp [prun, pure, prun_bind, prun_bind', Sem.bind, bind, e1, e2, hin, hm, Addr.add]
        · cases e
      · cases e
    · cases e
  · cases e
def fastConv (P : Program) (t u : TypeId) (x : Value) : Option Value :=
  match x with
  | .int _ (.ofNat n) => (match P.underlying t with
    | some _ => (match P.underlying u with
      | some (.int .i64) => if Nat.ble n 9223372036854775807 then some (.int .i64 (.ofNat n)) else none
      | some (.int .u8) => if Nat.ble n 255 then some (.int .u8 (.ofNat n)) else none
      | _ => none)
    | none => none)
  | _ => none
theorem wrap8 {n : Nat} (h : n ≤ 255) : IntKind.wrap .u8 (n : Int) = n := by
  unfold IntKind.wrap
  have e : ((n : Int) % (2 ^ IntKind.u8.bits : Int)) = n := by
    have : (2 ^ IntKind.u8.bits : Int) = 256 := by decide
    rw [this]; omega
  simp only [e]
  rw [if_neg]
  simp [IntKind.signed]
theorem fastConv_ok {P : Program} {t u : TypeId} {x z : Value} (e : fastConv P t u x = some z) : prun P (convert t u x) = some z := by
  unfold fastConv at e
  split at e
  · rename_i k n
    split at e
    · rename_i d hd
      have e1 : prun P (underlying t) = some d := by simp [underlying, prun_bind, program, prun, hd, pure]
      split at e
      · rename_i hu
        have e2 : prun P (underlying u) = some (.int .i64) := by simp [underlying, prun_bind, program, prun, hu, pure]
        split at e
        · rename_i h
          cases e
          have := wrap64 (Nat.le_of_ble_eq_true h)
          unfold convert
          simp only [prun_bind, e1, e2, Option.bind_some]
          simp [Conv.intToInt, prun, pure, this]
        · cases e
      · rename_i hu
        have e2 : prun P (underlying u) = some (.int .u8) := by simp [underlying, prun_bind, program, prun, hu, pure]
        split at e
        · rename_i h
          cases e
          have := wrap8 (Nat.le_of_ble_eq_true h)
          unfold convert
          simp only [prun_bind, e1, e2, Option.bind_some]
          simp [Conv.intToInt, prun, pure, this]
        · cases e
      · cases e
    · cases e
  · cases e
theorem fastConv_plain {P : Program} {t u : TypeId} {x z : Value} (e : fastConv P t u x = some z) : plain x = true ∧ plain z = true := by
  unfold fastConv at e
  split at e
  · refine ⟨rfl, ?_⟩
    repeat' split at e
    all_goals first | (cases e; rfl) | (cases e; done)
  · cases e
def aBin (P : Program) (T : Array Value) (o : Oper) (op : BinOp) (t : TypeId) (x y : Operand) : Option Cl :=
  if okO x && okO y then
   match fastBin op (aev T x) (aev T y) with
   | some z => some (.pure z)
   | none =>
    if plain (aev T x) && plain (aev T y) then pvp P T o
    else match P.underlying t with
      | some d => match nilEq d (aev T x) (aev T y) with
        | some false => match op with
          | .eql => some (.pure (.bool false))
          | .neq => some (.pure (.bool true))
          | _ => none
        | _ => none
      | none => none
  else none
def aSlice (P : Program) (T : Array Value) (o : Oper) (t : TypeId) (x : Operand) (lo hi mx : Option Operand) : Option Cl :=
  if okO x && lo.all okO && hi.all okO && mx.all okO then
   match mx with
   | some z => (match hi with
    | some y => match aev T x with
      | .slice (some ad) len cap => match P.underlying t with
        | some (.slice elem) => match P.info? elem with
          | some i => match bnd T 0 lo with
            | some l => match bnd T len (some y) with
              | some h => match bnd T cap (some z) with
                | some m => if Nat.ble l h && Nat.ble h m && Nat.ble m (rcap cap) then some (.pure (.slice (some (if m = l then ad else ad.add (l * i.size))) (h - l) (m - l + BIG))) else none
                | none => none
              | none => none
            | none => none
          | none => none
        | _ => none
      | _ => none
    | none => none)
   | none => match aev T x with
    | .slice (some ad) len cap => match P.underlying t with
      | some (.slice elem) => match P.info? elem with
        | some i => match bnd T 0 lo with
          | some l => match bnd T len hi with
            | some h => if Nat.ble l h && Nat.ble h (rcap cap) && (Nat.beq l 0 || Nat.blt l (rcap cap)) then some (.pure (.slice (some (ad.add (l * i.size))) (h - l) (cap - l))) else if Nat.beq l h && Nat.ble l len && Nat.ble len (rcap cap) then some (.pure (.chan none)) else none
            | none => none
          | none => none
        | none => none
      | _ => none
    | .string s => if (lo.all fun x => plain (aev T x)) && (hi.all fun x => plain (aev T x)) then pvp P T o else none
    | .slice none n c => if (lo.all fun x => plain (aev T x)) && (hi.all fun x => plain (aev T x)) then pvp P T o else none
    | _ => none
  else none
def aSliceArr (P : Program) (T : Array Value) (t : TypeId) (x : Operand) (lo hi mx : Option Operand) : Option Cl :=
  if okO x && lo.isNone && hi.isNone && mx.isNone then
    match aev T x with
    | .pointer (some ad) => match P.underlying t with
      | some (.array n elem) => match P.info? elem with
        | some i => some (.pure (.slice (some ad) n (n + BIG)))
        | none => none
      | _ => none
    | _ => none
  else none
def aSliceAny (P : Program) (T : Array Value) (o : Oper) (t : TypeId) (x : Operand) (lo hi mx : Option Operand) : Option Cl :=
  match aev T x with
  | .pointer _ => aSliceArr P T t x lo hi mx
  | _ => aSlice P T o t x lo hi mx
def aMakeSlice (P : Program) (T : Array Value) (t : TypeId) (l c : Operand) : Option Cl :=
  if okO l && okO c then
    match P.underlying t with
    | some (.slice elem) => match zeroOf P elem with
      | some (i, z) => match aev T l with
        | .int _ (.ofNat n) => match aev T c with
          | .int _ (.ofNat m) => if Nat.ble n m && Nat.ble m 1048576 && Nat.ble (i.bytes * m) 140737488355328 then some (.new (.cells (zc z.cells.toList m).toArray elem (0, 0)) (sliceTo n m)) else none
          | _ => none
        | _ => none
      | none => none
    | _ => none
  else none
def aBuildSlice (P : Program) (T : Array Value) (t : TypeId) (len : Nat) (parts : Array (Nat × Operand)) : Option Cl :=
  if parts.toList.all fun x => okO x.2 then
    match P.underlying t with
    | some (.slice elem) => match zeroOf P elem with
      | some (i, z) => match Instr.fill (fun k => some (k * i.size, i.size)) (zc z.cells.toList len).toArray (parts.toList.map fun x => (x.1, aev T x.2)) with
        | some cs => if Nat.ble (len * i.size) 16777216 && Nat.ble len 1048576 then some (.new (.cells cs elem (0, 0)) (sliceTo len len)) else none
        | none => none
      | none => none
    | _ => none
  else none
def aConvert (P : Program) (T : Array Value) (o : Oper) (t u : TypeId) (x : Operand) : Option Cl :=
  if okO x then
    match aev T x with
    | .slice (some ⟨b, off, none⟩) n c => match P.underlying t with
      | some (.slice e) => match P.underlying e with
        | some (.int .u8) => match P.underlying u with
          | some .string => some (.obs b (strF n off))
          | _ => none
        | _ => none
      | _ => none
    | v => match fastConv P t u v with
      | some z => some (.pure z)
      | none => if plain v then pvp P T o else none
  else none
def aLookup (P : Program) (T : Array Value) (o : Oper) (t : TypeId) (x k : Operand) (ok : Bool) : Option Cl :=
  if okO x && okO k && plain (aev T k) then
    match aev T x with
    | .map (some b) => match P.underlying t with
      | some (.map kt et) => match zeroOf P et with
        | some (i, z) => some (.obs b (lookF P kt (aev T k) ok z))
        | none => none
      | _ => none
    | v => if plain v then pvp P T o else none
  else none
def aAssert (P : Program) (T : Array Value) (x : Operand) (u : TypeId) (ok : Bool) : Option Cl :=
  if okO x && ok then
    match P.underlying u with
    | some d => match d with
      | .interface _ => none
      | _ => match aev T x with
        | .iface t v => if Nat.beq t u then some (.pure (.tuple #[v, .bool true])) else none
        | _ => none
    | none => none
  else none
def aLen (P : Program) (T : Array Value) (o : Oper) (x : Operand) (t : TypeId) : Option Cl :=
  if okO x then
    match aev T x with
    | .slice A n c => match P.underlying t with
      | some (.slice e) => some (.pure (.int .i64 n))
      | _ => none
    | .chan none => match P.underlying t with
      | some (.slice e) => some (.pure (.int .i64 0))
      | _ => none
    | .map (some b) => match P.underlying t with
      | some (.map k e) => some (.obs b lenF)
      | _ => none
    | v => if plain v then pvp P T o else none
  else none
def aApp (P : Program) (T : Array Value) (x y : Operand) (t t2 : TypeId) : Option Cl :=
  if !Nat.beq t t2 then some .mut else if okO x && okO y then
    match aev T x with
    | .slice A n c => match aev T y with
      | .slice _ 0 c2 => match P.underlying t with
        | some (.slice e) => match P.info? e with
          | some i => if Nat.ble n (rcap c) then some (.pure (.slice A n c)) else none
          | none => none
        | _ => none
      | .chan none => match P.underlying t with
        | some (.slice e) => match P.info? e with
          | some i => if Nat.ble n (rcap c) then some (.pure (.slice A n c)) else none
          | none => none
        | _ => none
      | _ => some .mut
    | _ => none
  else none
/-! Numbers that aren't known; slices with bytes that aren't known behind them. -/
def aBinS (T : Array Value) (op : BinOp) (x y : Operand) : Option Cl :=
  if okO x && okO y then (match OraF.bin op (aev T x) (aev T y) with
    | some z => some (.pure z)
    | none => none) else none
def aConvS (P : Program) (T : Array Value) (t u : TypeId) (x : Operand) : Option Cl :=
  if okO x then (match P.underlying t with
    | some d => (match P.underlying u with
      | some e => (match OraF.conv d e (aev T x) with
        | some z => some (.pure z)
        | none => none)
      | none => none)
    | none => none) else none
def aTwoS (T : Array Value) (b : Builtin) (args : Array Operand) : Option Cl :=
  match args.toList with
  | [x, y] => if okO x && okO y then (match OraF.two b (aev T x) (aev T y) with
    | some z => some (.pure z)
    | none => none) else none
  | _ => none
def aLenS (P : Program) (T : Array Value) (x : Operand) (t : TypeId) : Option Cl :=
  if okO x then (match aev T x with
    | .chan (some k) => if isRope k then (match P.underlying t with
      | some (.slice _) => some (.pure (.chan (some (4 * rn k))))
      | _ => none) else none
    | .complex _ _ _ => (match P.underlying t with
      | some (.slice _) => some (.pure (.chan (some (4 * 0))))
      | _ => none)
    | _ => none) else none
def oneByte (P : Program) (t : TypeId) : Bool :=
  match P.underlying t with
  | some (.slice e) => (match P.info? e with
    | some i => Nat.beq i.size 1
    | none => false)
  | _ => false
theorem oneByte_spec {P : Program} {t : TypeId} (h : oneByte P t = true) : ∃ e i, P.underlying t = some (.slice e) ∧ P.info? e = some i ∧ i.size = 1 := by
  unfold oneByte at h
  split at h
  · rename_i e he
    split at h
    · rename_i i hi; exact ⟨e, i, he, hi, Nat.eq_of_beq_eq_true h⟩
    · cases h
  · cases h
def aSliceS (P : Program) (T : Array Value) (t : TypeId) (x : Operand) (lo hi mx : Option Operand) : Option Cl :=
  if okO x && lo.all okO && hi.all okO && mx.all okO then (match aev T x with
    | .chan (some k) => if isRope k && oneByte P t then (match bnd T 0 lo with
      | some l => (match mx with
        | some z => (match hi with
          | some y => (match bnd T 0 (some y) with
            | some h => (match bnd T 0 (some z) with
              | some m => if Nat.ble l h && Nat.ble h m && Nat.ble m (rn k) && Nat.blt 0 (rn k) then some (.pure (.slice (some ⟨rb k, if m = l then ro k else ro k + l, none⟩) (h - l) (m - l + BIG))) else none
              | none => none)
            | none => none)
          | none => none)
        | none => if bndEnd T k hi then (if Nat.ble l (rn k) && okRope (rope (rb k) (ro k + l) (rn k - l)) (rb k) (ro k + l) (rn k - l) then some (.pure (.chan (some (rope (rb k) (ro k + l) (rn k - l))))) else none)
          else if hi.isSome then (match bnd T 0 hi with
            | some h => if Nat.ble l h && Nat.ble h (rn k) && Nat.blt 0 (rn k) && (Nat.beq l 0 || Nat.blt l (rn k)) && Nat.blt (rn k) BIG then some (.pure (.slice (some ⟨rb k, ro k + l, none⟩) (h - l) (rn k - l))) else none
            | none => none) else none)
      | none => none) else none
    | _ => none) else none
def aIndexS (P : Program) (T : Array Value) (t : TypeId) (x y : Operand) : Option Cl :=
  if okO x && okO y then (match aev T x with
    | .chan (some k) => if isRope k && oneByte P t then (match aev T y with
      | .int _ (.ofNat j) => if Nat.blt j (rn k) then some (.pure (.pointer (some ⟨rb k, ro k + j, none⟩))) else none
      | _ => none) else none
    | _ => none) else none
def aBuiltin (P : Program) (T : Array Value) (o : Oper) (b : Builtin) (args : Array Operand) (ts : Array TypeId) : Option Cl :=
  match b with
  | .len => match args.toList, ts.toList with
    | [x], [t] => (aLen P T o x t).or (aLenS P T x t)
    | _, _ => none
  | .append => match args.toList, ts.toList with
    | [x, y], [t, t2] => aApp P T x y t t2
    | _, _ => none
  | .copy => some .mut
  | .clear => some .mut
  | .cap => if args.all (fun x => okO x && plain (aev T x)) then pvp P T o else none
  | .min => (if args.all (fun x => okO x && plain (aev T x)) then pvp P T o else none).or (aTwoS T .min args)
  | .max => (if args.all (fun x => okO x && plain (aev T x)) then pvp P T o else none).or (aTwoS T .max args)
  | _ => none

/-- What kind of thing an operation does. -/
def acl (P : Program) (T : Array Value) (o : Oper) : Option Cl :=
  match o.op with
  | .move x => if okO x then some (.pure (aev T x)) else none
  | .assign x => if okO x then some (.pure (aev T x)) else none
  | .pick c x y => if okO c && okO x && okO y then (match aev T c with | .bool t => some (.pure (if t then aev T x else aev T y)) | _ => none) else none
  | .alloc t => (match zeroOf P t with | some (i, z) => some (.new (.cells z.cells t (0, 0)) ptrTo) | none => none)
  | .box t x => if okO x then some (.new (.cells (aev T x).cells t (0, 0)) ptrTo) else none
  | .build t parts => if parts.toList.all fun x => okO x.2 then (match prun P (zeroValue t) with | some z => if plain z then pv P T o else none | none => none) else none
  | .buildSlice t len parts => aBuildSlice P T t len parts
  | .load t x => aLoad P T t x
  | .nilCheck x => if okO x && nilOk (aev T x) then some (.pure (aev T x)) else none
  | .binOp op t x y _ => (aBin P T o op t x y).or (aBinS T op x y)
  | .unOp _ _ x => if okO x && plain (aev T x) then pvp P T o else none
  | .convert t u x => (aConvert P T o t u x).or (aConvS P T t u x)
  | .makeInterface t x => if okO x then pv P T o else none
  | .makeFunc (.func f) first captured => if first.all okO && captured.all okO then some (.pure (.func (.func f) (first.map (aev T)) (captured.map (aev T)))) else none
  | .makeMap t none => some (.new (.map #[] 0) (fun b => .map (some b)))
  | .makeSlice t l c => aMakeSlice P T t l c
  | .slice t x lo hi mx => (aSliceAny P T o t x lo hi mx).or (aSliceS P T t x lo hi mx)
  | .fieldAddr _ x _ => if okO x then pv P T o else none
  | .field _ x _ => if okO x then pv P T o else none
  | .indexAddr t x i => (if okO x && okO i then (match fastIdx P t (aev T x) (aev T i) with | some z => some (.pure z) | none => pv P T o) else none).or (aIndexS P T t x i)
  | .index _ x i => if okO x && okO i then pv P T o else none
  | .lookup t x k ok => aLookup P T o t x k ok
  | .extract x _ => if okO x then pv P T o else none
  | .typeAssert x _ u ok => aAssert P T x u ok
  | .store _ _ _ => some .mut
  | .mapUpdate _ _ _ _ => some .mut
  | .insert _ _ _ _ => some .mut
  | .call { callee := .builtin b, args := args, argTypes := ts } => aBuiltin P T o b args ts
  | .call { callee := .value _, .. } => some .mut
  | .call { callee := .invoke _ _, .. } => some .mut
  | _ => none

section
variable {P : Program} {p : Mp} {T : Array Value} {a : Act} {o : Oper} {c : Cl}
theorem pv_spec (h : pv P T o = some c) : ∃ v, c = .pure v ∧ prun P (execOp (aev T) o) = some (.value v) := by
  unfold pv at h
  split at h
  · rename_i v hv; cases h; exact ⟨v, rfl, hv⟩
  · cases h
theorem pvp_spec (h : pvp P T o = some c) : ∃ v, c = .pure v ∧ prun P (execOp (aev T) o) = some (.value v) ∧ plain v = true := by
  unfold pvp at h
  split at h
  · rename_i v hv
    split at h
    · rename_i hp; cases h; exact ⟨v, rfl, hv, hp⟩
    · cases h
  · cases h
theorem aLoad_ok (h : AR p T a.tmps) {t : TypeId} {x : Operand} (ho : o.op = .load t x) (e : aLoad P T t x = some c) : ClOK P p a o c := by
  unfold aLoad at e
  split at e
  · rename_i hx
    split at e
    · rename_i b off ex
      split at e
      · rename_i ag hag
        split at e
        · rename_i i hi; cases e; exact cl_load h ho hx ex hag hi
        · cases e
      · cases e
    · cases e
  · cases e
theorem aBin_ok (h : AR p T a.tmps) {op : BinOp} {t u : TypeId} {x y : Operand} (ho : o.op = .binOp op t x y u) (e : aBin P T o op t x y = some c) : ClOK P p a o c := by
  unfold aBin at e
  split at e
  · rename_i hxy
    simp only [Bool.and_eq_true] at hxy
    split at e
    · rename_i z hz
      cases e
      obtain ⟨h1, h2, h3⟩ := fastBin_plain hz
      refine cl_binOp h ho hxy.1 hxy.2 h1 h2 ?_ h3
      unfold execOp
      simp only [ho, prun_bind, fastBin_ok hz]
      have := fastBin_ok (P := P) (t := t) (u := x) (v := y) hz
      simp only [prun_bind] at this
      simp [this, prun, pure]
    split at e
    · rename_i hp
      simp only [Bool.and_eq_true] at hp
      obtain ⟨v, rfl, h1, h2⟩ := pvp_spec e
      exact cl_binOp h ho hxy.1 hxy.2 hp.1 hp.2 h1 h2
    · split at e
      · rename_i d hd
        split at e
        · rename_i hn
          split at e
          · cases e; exact cl_nilEq h ho (.inl rfl) hxy.1 hxy.2 hd hn
          · cases e; exact cl_nilEq h ho (.inr rfl) hxy.1 hxy.2 hd hn
          · cases e
        · cases e
      · cases e
  · cases e
theorem all_plain (h : AR p T a.tmps) {x : Option Operand} (hx : x.all okO = true) (hp : (x.all fun y => plain (aev T y)) = true) : x.map a.eval = x.map (aev T) := by
  cases x with
  | none => rfl
  | some y => simp only [Option.map_some]; rw [ev_plain h (by simpa using hx) (by simpa using hp)]
theorem cl_slice_plain (h : AR p T a.tmps) {t : TypeId} {x : Operand} {lo hi : Option Operand} (ho : o.op = .slice t x lo hi none) (hx : okO x = true) (hlo : lo.all okO = true) (hhi : hi.all okO = true) (px : plain (aev T x) = true) (pl : (lo.all fun x => plain (aev T x)) = true) (ph : (hi.all fun x => plain (aev T x)) = true)
    {v : Value} (hv : prun P (execOp (aev T) o) = some (.value v)) (hp : plain v = true) : ClOK P p a o (.pure v) := by
  refine cl_plain ?_ hv hp
  unfold execOp
  simp only [ho, ev_plain h hx px, all_plain h hlo pl, all_plain h hhi ph, Option.map_none]
theorem aSlice_ok (h : AR p T a.tmps) {t : TypeId} {x : Operand} {lo hi mx : Option Operand} (ho : o.op = .slice t x lo hi mx) (e : aSlice P T o t x lo hi mx = some c) : ClOK P p a o c := by
  unfold aSlice at e
  split at e
  · rename_i hh
    simp only [Bool.and_eq_true] at hh
    obtain ⟨⟨⟨hx, hlo⟩, hhi⟩, hmx⟩ := hh
    split at e
    · rename_i z
      split at e
      · rename_i y
        split at e
        · rename_i ad len cap ex
          split at e
          · rename_i elem ht
            split at e
            · rename_i i hi
              split at e
              · rename_i l hl
                split at e
                · rename_i hgh hh'
                  split at e
                  · rename_i m hm
                    split at e
                    · rename_i hc
                      cases e
                      simp only [Bool.and_eq_true, Nat.ble_eq] at hc
                      exact cl_slice3 h ho hx hlo (by simpa using hhi) (by simpa using hmx) ht hi ex hl hh' hm hc.1.1 hc.1.2 hc.2
                    · cases e
                  · cases e
                · cases e
              · cases e
            · cases e
          · cases e
        · cases e
      · cases e
    split at e
    · rename_i ad len cap ex
      split at e
      · rename_i elem ht
        split at e
        · rename_i i hi
          split at e
          · rename_i l hl
            split at e
            · rename_i hgh hh'
              split at e
              · rename_i hc
                cases e
                simp only [Bool.and_eq_true, Bool.or_eq_true, Nat.ble_eq, Nat.beq_eq, Nat.blt_eq] at hc
                exact cl_slice h ho hx hlo hhi ht hi ex hl hh' hc.1.1 hc.1.2 hc.2
              · split at e
                · rename_i hc
                  cases e
                  simp only [Bool.and_eq_true, Nat.ble_eq, Nat.beq_eq] at hc
                  obtain ⟨⟨hc1, hc2⟩, hc3⟩ := hc
                  subst hc1
                  exact cl_slice_end h ho hx hlo hhi ht hi ex hl hh' hc2 hc3
                · cases e
            · cases e
          · cases e
        · cases e
      · cases e
    · rename_i s ex
      split at e
      · rename_i hpp
        simp only [Bool.and_eq_true] at hpp
        obtain ⟨v, rfl, h1, h2⟩ := pvp_spec e
        exact cl_slice_plain h ho hx hlo hhi (by rw [ex]; rfl) hpp.1 hpp.2 h1 h2
      · cases e
    · rename_i n cc ex
      split at e
      · rename_i hpp
        simp only [Bool.and_eq_true] at hpp
        obtain ⟨v, rfl, h1, h2⟩ := pvp_spec e
        exact cl_slice_plain h ho hx hlo hhi (by rw [ex]; rfl) hpp.1 hpp.2 h1 h2
      · cases e
    · cases e
  · cases e
theorem aSliceAny_ok (h : AR p T a.tmps) {t : TypeId} {x : Operand} {lo hi mx : Option Operand} (ho : o.op = .slice t x lo hi mx) (e : aSliceAny P T o t x lo hi mx = some c) : ClOK P p a o c := by
  unfold aSliceAny at e
  split at e
  · unfold aSliceArr at e
    split at e
    · rename_i hh
      simp only [Bool.and_eq_true, Option.isNone_iff_eq_none] at hh
      obtain ⟨⟨⟨hx, rfl⟩, rfl⟩, rfl⟩ := hh
      split at e
      · rename_i ad ex
        split at e
        · rename_i n elem ht
          split at e
          · rename_i i hi; cases e; exact cl_sliceArr h ho hx ht hi ex
          · cases e
        · cases e
      · cases e
    · cases e
  · exact aSlice_ok h ho e
theorem aMakeSlice_ok (h : AR p T a.tmps) {t : TypeId} {l k : Operand} (ho : o.op = .makeSlice t l k) (e : aMakeSlice P T t l k = some c) : ClOK P p a o c := by
  unfold aMakeSlice at e
  split at e
  · rename_i hh
    simp only [Bool.and_eq_true] at hh
    split at e
    · rename_i elem ht
      split at e
      · rename_i i z hz
        obtain ⟨z1, z2, z3, z4⟩ := zeroOf_spec hz
        split at e
        · rename_i k1 n el
          split at e
          · rename_i k2 m ec
            split at e
            · rename_i hc
              cases e
              simp only [Bool.and_eq_true, Nat.ble_eq] at hc
              exact cl_makeSlice h ho hh.1 hh.2 ht z1 z2 z3 z4 el ec hc.1.1 hc.1.2 hc.2
            · cases e
          · cases e
        · cases e
      · cases e
    · cases e
  · cases e
theorem aBuildSlice_ok (h : AR p T a.tmps) {t : TypeId} {len : Nat} {parts : Array (Nat × Operand)} (ho : o.op = .buildSlice t len parts) (e : aBuildSlice P T t len parts = some c) : ClOK P p a o c := by
  unfold aBuildSlice at e
  split at e
  · rename_i hh
    split at e
    · rename_i elem ht
      split at e
      · rename_i i z hz
        obtain ⟨z1, z2, z3, z4⟩ := zeroOf_spec hz
        split at e
        · rename_i cs hcs
          split at e
          · rename_i hc
            cases e
            simp only [Bool.and_eq_true, Nat.ble_eq] at hc
            exact cl_buildSlice h ho hh ht z1 z2 z3 z4 hc.1 (by unfold BIG; omega) hcs
          · cases e
        · cases e
      · cases e
    · cases e
  · cases e
theorem aConvert_ok (h : AR p T a.tmps) {t u : TypeId} {x : Operand} (ho : o.op = .convert t u x) (e : aConvert P T o t u x = some c) : ClOK P p a o c := by
  unfold aConvert at e
  split at e
  · rename_i hx
    split at e
    · rename_i b off n cc ex
      split at e
      · rename_i el ht
        split at e
        · rename_i he
          split at e
          · rename_i hu; cases e; exact cl_string h ho hx ht he hu ex
          · cases e
        · cases e
      · cases e
    · split at e
      · rename_i z hz
        cases e
        obtain ⟨q1, q2⟩ := fastConv_plain hz
        refine cl_convert h ho hx q1 ?_ q2
        unfold execOp
        have := fastConv_ok hz
        simp only [ho, prun_bind, this, Option.bind_some]
        rfl
      · split at e
        · rename_i hp
          obtain ⟨v, rfl, h1, h2⟩ := pvp_spec e
          exact cl_convert h ho hx hp h1 h2
        · cases e
  · cases e
theorem aLookup_ok (h : AR p T a.tmps) {t : TypeId} {x k : Operand} {ok : Bool} (ho : o.op = .lookup t x k ok) (e : aLookup P T o t x k ok = some c) : ClOK P p a o c := by
  unfold aLookup at e
  split at e
  · rename_i hh
    simp only [Bool.and_eq_true] at hh
    split at e
    · rename_i b ex
      split at e
      · rename_i kt et ht
        split at e
        · rename_i i z hz
          obtain ⟨z1, z2, z3, z4⟩ := zeroOf_spec hz
          cases e
          exact cl_lookup h ho hh.1.1 hh.1.2 ht z1 z2 z3 ex hh.2
        · cases e
      · cases e
    · split at e
      · rename_i hp
        obtain ⟨v, rfl, h1, h2⟩ := pvp_spec e
        exact cl_lookup_nil (kt := 0) (et := 0) (i := default) (z := default) h ho hh.1.1 hh.1.2 hp hh.2 h1 h2
      · cases e
  · cases e
theorem aAssert_ok (h : AR p T a.tmps) {t u : TypeId} {x : Operand} {ok : Bool} (ho : o.op = .typeAssert x t u ok) (e : aAssert P T x u ok = some c) : ClOK P p a o c := by
  unfold aAssert at e
  split at e
  · rename_i hh
    simp only [Bool.and_eq_true] at hh
    obtain ⟨hx, rfl⟩ := hh
    split at e
    · rename_i d hd
      split at e
      · cases e
      · rename_i hni
        split at e
        · rename_i t' v ex
          split at e
          · rename_i htu
            cases e
            have : t' = u := Nat.eq_of_beq_eq_true htu
            subst this
            refine cl_typeAssert h ho hx hd ?_ ex
            cases d <;> first | rfl | exact (hni _ rfl).elim
          · cases e
        · cases e
    · cases e
  · cases e
theorem arr_of {α : Type} {a : Array α} {l : List α} (h : a.toList = l) : a = l.toArray := by rw [← h]
theorem aLen_ok (h : AR p T a.tmps) {x : Operand} {t : TypeId} (ho : o.op = .call { callee := .builtin .len, args := #[x], argTypes := #[t] }) (e : aLen P T o x t = some c) : ClOK P p a o c := by
  unfold aLen at e
  split at e
  · rename_i hx
    split at e
    · rename_i A n cc ex
      split at e
      · rename_i el ht; cases e; exact cl_len_slice h ho hx ht ex
      · cases e
    · rename_i ex
      split at e
      · rename_i el ht; cases e; exact cl_len_mt h ho hx ht ex
      · cases e
    · rename_i bb ex
      split at e
      · rename_i k el ht; cases e; exact cl_len_map h ho hx ht ex
      · cases e
    · split at e
      · rename_i hp
        obtain ⟨v, rfl, h1, h2⟩ := pvp_spec e
        exact cl_builtin h ho (by simp [hx, hp]) h1 h2
      · cases e
  · cases e
theorem aApp_ok (h : AR p T a.tmps) {x y : Operand} {t t2 : TypeId} (ho : o.op = .call { callee := .builtin .append, args := #[x, y], argTypes := #[t, t2] }) (e : aApp P T x y t t2 = some c) : ClOK P p a o c := by
  unfold aApp at e
  split at e
  · cases e; trivial
  rename_i htt
  have : t = t2 := Nat.eq_of_beq_eq_true (by simpa using htt)
  subst this
  split at e
  · rename_i hh
    simp only [Bool.and_eq_true] at hh
    split at e
    · rename_i A n cc ex
      split at e
      · rename_i A2 c2 ey
        split at e
        · rename_i el ht
          split at e
          · rename_i i hi
            split at e
            · rename_i hn
              cases e
              exact cl_append_none h ho hh.1 hh.2 ht hi ex (.inl ey) (by simpa using hn)
            · cases e
          · cases e
        · cases e
      · rename_i ey
        split at e
        · rename_i el ht
          split at e
          · rename_i i hi
            split at e
            · rename_i hn
              cases e
              exact cl_append_none (A2 := none) (c2 := 0) h ho hh.1 hh.2 ht hi ex (.inr ey) (by simpa using hn)
            · cases e
          · cases e
        · cases e
      · cases e; trivial
    · cases e
  · cases e
theorem or_cases {α : Type} {x y : Option α} {c : α} (e : x.or y = some c) : x = some c ∨ y = some c := by
  cases x with
  | none => exact .inr (by simpa using e)
  | some a => exact .inl (by simpa using e)
theorem aBinS_ok [OraOK] (h : AR p T a.tmps) {op : BinOp} {t u : TypeId} {x y : Operand} (ho : o.op = .binOp op t x y u) (e : aBinS T op x y = some c) : ClOK P p a o c := by
  unfold aBinS at e
  split at e
  · rename_i hh
    simp only [Bool.and_eq_true] at hh
    split at e
    · rename_i z hz; cases e; exact cl_bin_sym h ho hh.1 hh.2 hz
    · cases e
  · cases e
theorem aConvS_ok [OraOK] (h : AR p T a.tmps) {t u : TypeId} {x : Operand} (ho : o.op = .convert t u x) (e : aConvS P T t u x = some c) : ClOK P p a o c := by
  unfold aConvS at e
  split at e
  · rename_i hx
    split at e
    · rename_i d hd
      split at e
      · rename_i e1 he
        split at e
        · rename_i z hz; cases e; exact cl_conv_sym h ho hx hd he hz
        · cases e
      · cases e
    · cases e
  · cases e
theorem aTwoS_ok [OraOK] (h : AR p T a.tmps) {b : Builtin} {args : Array Operand} {ts : Array TypeId} (ho : o.op = .call { callee := .builtin b, args := args, argTypes := ts }) (e : aTwoS T b args = some c) : ClOK P p a o c := by
  unfold aTwoS at e
  split at e
  · rename_i x y h1
    rw [arr_of h1] at ho
    split at e
    · rename_i hh
      simp only [Bool.and_eq_true] at hh
      split at e
      · rename_i z hz; cases e; exact cl_two_sym h ho hh.1 hh.2 hz
      · cases e
    · cases e
  · cases e
theorem aLenS_ok (h : AR p T a.tmps) {x : Operand} {t : TypeId} (ho : o.op = .call { callee := .builtin .len, args := #[x], argTypes := #[t] }) (e : aLenS P T x t = some c) : ClOK P p a o c := by
  unfold aLenS at e
  split at e
  · rename_i hx
    split at e
    · rename_i k ex
      split at e
      · rename_i hk
        split at e
        · rename_i el ht; cases e; exact cl_rope_len h ho hx ht ex (Nat.eq_of_beq_eq_true hk)
        · cases e
      · cases e
    · rename_i ex
      split at e
      · rename_i el ht; cases e; exact cl_given_len h ho hx ht ex
      · cases e
    · cases e
  · cases e
theorem aSliceS_ok (h : AR p T a.tmps) {t : TypeId} {x : Operand} {lo hi mx : Option Operand} (ho : o.op = .slice t x lo hi mx) (e : aSliceS P T t x lo hi mx = some c) : ClOK P p a o c := by
  unfold aSliceS at e
  split at e
  · rename_i hh
    simp only [Bool.and_eq_true] at hh
    obtain ⟨⟨⟨hx, hlo⟩, hhi⟩, hmx⟩ := hh
    split at e
    · rename_i k ex
      split at e
      · rename_i hkb
        simp only [Bool.and_eq_true] at hkb
        have hk : k % 2 = 1 := Nat.eq_of_beq_eq_true hkb.1
        obtain ⟨el, i, ht, hi', h1s⟩ := oneByte_spec hkb.2
        split at e
        · rename_i l hl
          split at e
          · rename_i z
            split at e
            · rename_i y
              split at e
              · rename_i hgh hh'
                split at e
                · rename_i m hm
                  split at e
                  · rename_i hc
                    cases e
                    simp only [Bool.and_eq_true, Nat.ble_eq, Nat.blt_eq] at hc
                    exact cl_rope_cut3 h ho hx hlo (by simpa using hhi) (by simpa using hmx) ht hi' h1s ex hk hl hh' hm hc.1.1.1 hc.1.1.2 hc.1.2 hc.2
                  · cases e
                · cases e
              · cases e
            · cases e
          · split at e
            · rename_i hb
              split at e
              · rename_i hc
                cases e
                simp only [Bool.and_eq_true, Nat.ble_eq] at hc
                exact cl_rope_slice h ho hx hlo hhi ht hi' h1s ex hk hl hb hc.1 hc.2
              · cases e
            · split at e
              · rename_i hs
                split at e
                · rename_i hgh hh'
                  split at e
                  · rename_i hc
                    cases e
                    simp only [Bool.and_eq_true, Bool.or_eq_true, Nat.ble_eq, Nat.blt_eq, Nat.beq_eq] at hc
                    exact cl_rope_cut h ho hx hlo hhi hs ht hi' h1s ex hk hl hh' hc.1.1.1.1 hc.1.1.1.2 hc.1.1.2 hc.1.2 hc.2
                  · cases e
                · cases e
              · cases e
        · cases e
      · cases e
    · cases e
  · cases e
theorem aIndexS_ok (h : AR p T a.tmps) {t : TypeId} {x y : Operand} (ho : o.op = .indexAddr t x y) (e : aIndexS P T t x y = some c) : ClOK P p a o c := by
  unfold aIndexS at e
  split at e
  · rename_i hh
    simp only [Bool.and_eq_true] at hh
    split at e
    · rename_i k ex
      split at e
      · rename_i hkb
        simp only [Bool.and_eq_true] at hkb
        obtain ⟨el, i, ht, hi', h1s⟩ := oneByte_spec hkb.2
        split at e
        · rename_i kd j ey
          split at e
          · rename_i hj
            cases e
            exact cl_rope_index h ho hh.1 hh.2 ht hi' h1s ex (Nat.eq_of_beq_eq_true hkb.1) ey (by simpa [Nat.blt_eq] using hj)
          · cases e
        · cases e
      · cases e
    · cases e
  · cases e
theorem aBuiltin_ok [OraOK] (h : AR p T a.tmps) {b : Builtin} {args : Array Operand} {ts : Array TypeId} (ho : o.op = .call { callee := .builtin b, args := args, argTypes := ts }) (e : aBuiltin P T o b args ts = some c) : ClOK P p a o c := by
  unfold aBuiltin at e
  split at e
  · split at e
    · rename_i x t h1 h2
      rw [arr_of h1, arr_of h2] at ho
      rcases or_cases e with e | e
      · exact aLen_ok h ho e
      · exact aLenS_ok h ho e
    · cases e
  · split at e
    · rename_i x y t t2 h1 h2
      rw [arr_of h1, arr_of h2] at ho
      exact aApp_ok h ho e
    · cases e
  · cases e; trivial
  · cases e; trivial
  · split at e
    · rename_i hh
      obtain ⟨v, rfl, h1, h2⟩ := pvp_spec e
      exact cl_builtin h ho hh h1 h2
    · cases e
  · rcases or_cases e with e | e
    · split at e
      · rename_i hh
        obtain ⟨v, rfl, h1, h2⟩ := pvp_spec e
        exact cl_builtin h ho hh h1 h2
      · cases e
    · exact aTwoS_ok h ho e
  · rcases or_cases e with e | e
    · split at e
      · rename_i hh
        obtain ⟨v, rfl, h1, h2⟩ := pvp_spec e
        exact cl_builtin h ho hh h1 h2
      · cases e
    · exact aTwoS_ok h ho e
  · cases e
theorem acl_ok [OraOK] (h : AR p T a.tmps) (e : acl P T o = some c) : ClOK P p a o c := by
  unfold acl at e
  split at e
  · rename_i x ho
    split at e
    · rename_i hx; cases e; exact cl_move h (.inl ho) hx
    · cases e
  · rename_i x ho
    split at e
    · rename_i hx; cases e; exact cl_move h (.inr ho) hx
    · cases e
  · rename_i cc x y ho
    split at e
    · rename_i hh
      simp only [Bool.and_eq_true] at hh
      split at e
      · rename_i t ht; cases e; exact cl_pick h ho hh.1.1 hh.1.2 hh.2 ht
      · cases e
    · cases e
  · rename_i t ho
    split at e
    · rename_i i z hz
      obtain ⟨z1, z2, z3, z4⟩ := zeroOf_spec hz
      cases e; exact cl_alloc ho z1 z2 z3
    · cases e
  · rename_i t x ho
    split at e
    · rename_i hx; cases e; exact cl_box h ho hx
    · cases e
  · rename_i t parts ho
    split at e
    · rename_i hx
      split at e
      · rename_i z hz
        split at e
        · rename_i hp
          obtain ⟨v, rfl, h1⟩ := pv_spec e
          exact cl_build h ho hx hz hp h1
        · cases e
      · cases e
    · cases e
  · rename_i t len parts ho; exact aBuildSlice_ok h ho e
  · rename_i t x ho; exact aLoad_ok h ho e
  · rename_i x ho
    split at e
    · rename_i hh
      simp only [Bool.and_eq_true] at hh
      cases e; exact cl_nilCheck h ho hh.1 hh.2
    · cases e
  · rename_i op t x y u ho
    rcases or_cases e with e | e
    · exact aBin_ok h ho e
    · exact aBinS_ok h ho e
  · rename_i op t x ho
    split at e
    · rename_i hh
      simp only [Bool.and_eq_true] at hh
      obtain ⟨v, rfl, h1, h2⟩ := pvp_spec e
      exact cl_unOp h ho hh.1 hh.2 h1 h2
    · cases e
  · rename_i t u x ho
    rcases or_cases e with e | e
    · exact aConvert_ok h ho e
    · exact aConvS_ok h ho e
  · rename_i t x ho
    split at e
    · rename_i hx
      obtain ⟨v, rfl, h1⟩ := pv_spec e
      exact cl_makeInterface h ho hx h1
    · cases e
  · rename_i f first captured ho
    split at e
    · rename_i hh
      simp only [Bool.and_eq_true] at hh
      cases e; exact cl_makeFunc h ho hh.1 hh.2
    · cases e
  · rename_i t ho; cases e; exact cl_makeMap ho
  · rename_i t l k ho; exact aMakeSlice_ok h ho e
  · rename_i t x lo hi mx ho
    rcases or_cases e with e | e
    · exact aSliceAny_ok h ho e
    · exact aSliceS_ok h ho e
  · rename_i s x f ho
    split at e
    · rename_i hx
      obtain ⟨v, rfl, h1⟩ := pv_spec e
      exact cl_fieldAddr h ho hx h1
    · cases e
  · rename_i s x f ho
    split at e
    · rename_i hx
      obtain ⟨v, rfl, h1⟩ := pv_spec e
      exact cl_field h ho hx h1
    · cases e
  · rename_i s x f ho
    rcases or_cases e with e | e
    · split at e
      · rename_i hh
        simp only [Bool.and_eq_true] at hh
        split at e
        · rename_i z hz
          cases e
          refine cl_indexAddr h ho hh.1 hh.2 (v := z) ?_
          unfold execOp
          have := fastIdx_ok hz
          simp only [ho, prun_bind, this, Option.bind_some]
          rfl
        · obtain ⟨v, rfl, h1⟩ := pv_spec e
          exact cl_indexAddr h ho hh.1 hh.2 h1
      · cases e
    · exact aIndexS_ok h ho e
  · rename_i s x f ho
    split at e
    · rename_i hh
      simp only [Bool.and_eq_true] at hh
      obtain ⟨v, rfl, h1⟩ := pv_spec e
      exact cl_index h ho hh.1 hh.2 h1
    · cases e
  · rename_i t x k ok ho; exact aLookup_ok h ho e
  · rename_i x f ho
    split at e
    · rename_i hx
      obtain ⟨v, rfl, h1⟩ := pv_spec e
      exact cl_extract h ho hx h1
    · cases e
  · rename_i x t u ok ho; exact aAssert_ok h ho e
  · cases e; trivial
  · cases e; trivial
  · cases e; trivial
  · rename_i b args ts ho; exact aBuiltin_ok h ho e
  · cases e; trivial
  · cases e; trivial
  · cases e
end
end
end Go.Proofs.YtampcckdbjbllaaGreatDoor.Ev
