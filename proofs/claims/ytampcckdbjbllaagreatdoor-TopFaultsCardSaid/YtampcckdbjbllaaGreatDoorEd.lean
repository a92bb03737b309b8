/-
  Operations that change memory, or call; one operation as a step of the machine.
  One operation as a piece of the machine's run; regions that draw no order.
  An operation sees its operands alone.
  Regions that draw their order: whatever order is drawn, what the text's order does is done.
  Regions that draw their order (2): each step of whatever order.
  Regions that draw their order (3): memory that is made, or changes; the whole.
-/
import Derived.Test.YtampcckdbjbllaaGreatDoorEc
import Derived.Orders
import Derived.StillTail
set_option linter.unusedVariables false
set_option linter.unusedSectionVars false
set_option linter.unusedSimpArgs false
set_option linter.unusedVariables false
set_option linter.unusedSectionVars false
set_option linter.unusedSimpArgs false
namespace Go.Proofs.YtampcckdbjbllaaGreatDoor.Ev
noncomputable section
open Go.RowKit
variable [Sym] [OraF]

abbrev ACall := FuncId → Array Value → AH → Option (Value × AH)
abbrev ARound := Nat → Array Value → AH → Option (Value × AH)

def aStore (P : Program) (T : Array Value) (t : TypeId) (x y : Operand) (H : AH) : Option (Value × AH) :=
  if okO x && okO y then
    match aev T x with
    | .pointer (some ⟨b, off, none⟩) => match H.get b with
      | some (.cells c e f) => match P.info? t with
        | some i => if Nat.beq (aev T y).cells.size i.size && Nat.ble (off + i.size) c.size && (aev T y).cells.toList.all (·.oneCell') then some (undef, H.put b (some (.cells (putAt c off (aev T y).cells.toList) e f))) else none
        | none => none
      | _ => none
    | _ => none
  else none
def aMapUpdate (P : Program) (T : Array Value) (t : TypeId) (x k y : Operand) (H : AH) : Option (Value × AH) :=
  if okO x && okO k && okO y && plain (aev T k) then
    match aev T x with
    | .map (some b) => match H.get b with
      | some (.map es clock) => match P.underlying t with
        | some (.map kt et) => match mapPut P kt (aev T k) (aev T y) es clock with
          | some ob => some (undef, H.put b (some ob))
          | none => none
        | _ => none
      | _ => none
    | _ => none
  else none
def aAppend (P : Program) (T : Array Value) (t : TypeId) (x y : Operand) (H : AH) : Option (Value × AH) :=
  if okO x && okO y then
    match P.underlying t with
    | some (.slice e) => match zeroOf P e with
      | some (i, z) => match aev T y with
        | .slice (some ⟨b2, off, none⟩) m c2 => match H.get b2 with
          | some (.cells cs2 e2 f2) =>
            if Nat.ble (off + m * i.size) cs2.size && ((cs2.toList.drop off).take (m * i.size)).all (·.oneCell') && Nat.blt 0 i.size && Nat.blt 0 m then
              match aev T x with
              | .slice none 0 0 => if Nat.ble m 1048576 && Nat.ble (m * i.bytes) 140737488355328 then some (.slice (some ⟨H.nx, 0, none⟩) m m, H.push (.cells (((cs2.toList.drop off).take (m * i.size)).toArray) e (0, 0))) else none
              | .slice (some ⟨b, off1, none⟩) n c => match H.get b with
                | some (.cells cs e1 f) => if Nat.beq off1 0 && Nat.beq e e1 && Nat.ble (n + m) (rcap c) && Nat.ble ((n + m) * i.size) cs.size then some (.slice (some ⟨b, 0, none⟩) (n + m) c, H.put b (some (.cells (putAt cs (n * i.size) ((cs2.toList.drop off).take (m * i.size))) e f))) else if Nat.ble BIG c then (if Nat.blt (c - BIG) (n + m) && Nat.beq e e1 && Nat.ble (off1 + n * i.size) cs.size && Nat.ble (n + m) 1048576 && Nat.ble ((n + m) * i.bytes) 140737488355328 then some (.slice (some ⟨H.nx, 0, none⟩) (n + m) (n + m), H.push (.cells (((cs.toList.drop off1).take (n * i.size)).toArray ++ ((cs2.toList.drop off).take (m * i.size)).toArray) e (0, 0))) else none) else if Nat.beq off1 0 && Nat.beq n c && Nat.beq e e1 && Nat.beq cs.size (n * i.size) && Nat.ble (n + m) 1048576 && Nat.ble ((n + m) * i.bytes) 140737488355328 then some (.slice (some ⟨H.nx, 0, none⟩) (n + m) (n + m), (H.put b none).push (.cells (cs ++ ((cs2.toList.drop off).take (m * i.size)).toArray) e (0, 0))) else none
                | _ => none
              | _ => none
            else none
          | _ => none
        | _ => none
      | none => none
    | _ => none
  else none
def aAppendZ (P : Program) (T : Array Value) (t tn : TypeId) (x y : Operand) (H : AH) : Option (Value × AH) :=
  if okO x && okO y then
    match P.underlying t with
    | some (.slice e) => match zeroOf P e with
      | some (i, z) => match P.underlying tn with
        | some (.int kn) => match aev T x with
          | .slice none 0 0 => match aev T y with
            | .int k (.ofNat m) => if Nat.blt 0 i.size && Nat.blt 0 m && Nat.ble m 1048576 && Nat.ble (m * i.bytes) 140737488355328 then some (.slice (some ⟨H.nx, 0, none⟩) m m, H.push (.cells (zc z.cells.toList m).toArray e (0, 0))) else none
            | _ => none
          | _ => none
        | _ => none
      | none => none
    | _ => none
  else none
def aCopy (P : Program) (T : Array Value) (t : TypeId) (x y : Operand) (H : AH) : Option (Value × AH) :=
  if okO x && okO y then
    match P.underlying t with
    | some (.slice e) => match P.info? e with
      | some i => match aev T x with
        | .slice (some ⟨b, off, none⟩) n c => match aev T y with
          | .slice (some ⟨b2, off2, none⟩) m c2 => match H.get b with
            | some (.cells cs e1 f) => match H.get b2 with
              | some (.cells cs2 e2 f2) =>
                if Nat.ble (off2 + Nat.min m n * i.size) cs2.size && Nat.ble (off + Nat.min m n * i.size) cs.size && ((cs2.toList.drop off2).take (Nat.min m n * i.size)).all (·.oneCell') then
                  some (.int .i64 (Nat.min m n : Nat), H.put b (some (.cells (putAt cs off ((cs2.toList.drop off2).take (Nat.min m n * i.size))) e1 f)))
                else none
              | _ => none
            | _ => none
          | _ => none
        | _ => none
      | none => none
    | _ => none
  else none
def aAppendR (P : Program) (T : Array Value) (t : TypeId) (x y : Operand) (H : AH) : Option (Value × AH) :=
  if okO x && okO y then
    match P.underlying t with
    | some (.slice e) => match zeroOf P e with
      | some (i, z) => match aev T y with
        | .chan (some k) => if isRope k && Nat.beq i.size 1 && Nat.beq i.bytes 1 then (match H.get (rb k) with
          | some (.cells cs2 e2 (0, 1)) => if Nat.beq e2 e && Nat.beq (ro k + rn k) cs2.size && (cs2.toList.drop (ro k)).all (·.oneCell') then (match aev T x with
            | .slice none 0 0 => if Nat.ble (0 + rn k) 1000000 && okRope (rope H.nx 0 (0 + rn k)) H.nx 0 (0 + rn k) then some (.chan (some (rope H.nx 0 (0 + rn k))), H.push (.cells (#[] ++ (cs2.toList.drop (ro k)).toArray) e (0, 1))) else none
            | .slice (some ⟨b, off, none⟩) n c => (match H.get b with
              | some (.cells cs e1 f) => if Nat.beq off 0 && Nat.beq n c && Nat.beq e1 e && Nat.beq cs.size n && Nat.ble (n + rn k) 1000000 && okRope (rope H.nx 0 (n + rn k)) H.nx 0 (n + rn k) then some (.chan (some (rope H.nx 0 (n + rn k))), (H.put b none).push (.cells (cs ++ (cs2.toList.drop (ro k)).toArray) e (0, 1))) else none
              | _ => none)
            | _ => none) else none
          | _ => none) else none
        | .complex _ _ _ => if Nat.beq i.size 1 && Nat.beq i.bytes 1 && isGiven (H.get 0) then (match aev T x with
            | .slice (some ⟨b, off, none⟩) n c => (match H.get b with
              | some (.cells cs e1 f) => if Nat.beq off 0 && Nat.beq n c && Nat.beq e1 e && Nat.beq cs.size n && Nat.ble (n + 0) 1000000 && okRope (rope H.nx 0 (n + 0)) H.nx 0 (n + 0) then some (.chan (some (rope H.nx 0 (n + 0))), (H.put b none).push (.cells (cs ++ ([] : List Value).toArray) e (0, 1))) else none
              | _ => none)
            | _ => none) else none
        | _ => none
      | none => none
    | _ => none
  else none
def aCopyR (P : Program) (T : Array Value) (t : TypeId) (x y : Operand) (H : AH) : Option (Value × AH) :=
  if okO x && okO y then
    match P.underlying t with
    | some (.slice e) => match P.info? e with
      | some i => if Nat.beq i.size 1 then (match aev T x with
        | .chan (some k) => (match aev T y with
          | .slice (some ⟨b2, off2, none⟩) m c2 => if isRope k && Nat.ble m (rn k) && Nat.blt 0 (rn k) then (match H.get (rb k) with
            | some (.cells cs e1 f) => (match H.get b2 with
              | some (.cells cs2 e2 f2) => if Nat.ble (off2 + m) cs2.size && Nat.ble (ro k + m) cs.size && ((cs2.toList.drop off2).take m).all (·.oneCell') then
                  some (.int .i64 (m : Nat), H.put (rb k) (some (.cells (putAt cs (ro k) ((cs2.toList.drop off2).take m)) e1 f))) else none
              | _ => none)
            | _ => none) else none
          | _ => none)
        | .slice (some ⟨b, off, none⟩) n c => (match aev T y with
          | .chan (some k) => if isRope k && Nat.ble n (rn k) && Nat.blt 0 (rn k) then (match H.get b with
            | some (.cells cs e1 f) => (match H.get (rb k) with
              | some (.cells cs2 e2 f2) => if Nat.ble (ro k + n) cs2.size && Nat.ble (off + n) cs.size && ((cs2.toList.drop (ro k)).take n).all (·.oneCell') then
                  some (.int .i64 (n : Nat), H.put b (some (.cells (putAt cs off ((cs2.toList.drop (ro k)).take n)) e1 f))) else none
              | _ => none)
            | _ => none) else none
          | _ => none)
        | _ => none) else none
      | none => none
    | _ => none
  else none
def aClear (P : Program) (T : Array Value) (t : TypeId) (x : Operand) (H : AH) : Option (Value × AH) :=
  if okO x then
    match P.underlying t with
    | some (.slice e) => match zeroOf P e with
      | some (i, z) => match aev T x with
        | .slice (some ⟨b, off, none⟩) (n + 1) c => match H.get b with
          | some (.cells cs e1 f) => if Nat.ble (off + (n + 1) * i.size) cs.size && z.cells.toList.all (·.oneCell') then some (undef, H.put b (some (.cells (putAt cs off (zc z.cells.toList (n + 1))) e1 f))) else none
          | _ => none
        | _ => none
      | none => none
    | _ => none
  else none
def aCallV (P : Program) (call : ACall) (round : ARound) (T : Array Value) (f : Operand) (args : Array Operand) (H : AH) : Option (Value × AH) :=
  if okO f && args.all okO then
    match aev T f with
    | .func (.func g) first captured => match P.funcs[g]? with
      | some fn => if fn.name == "runtime.NumGoroutine" then none else if fn.body.isNone then none else call g (first ++ args.map (aev T) ++ captured) H
      | none => none
    | .func (.yield l) first captured => if first.isEmpty && captured.isEmpty then round l (args.map (aev T)) H else none
    | _ => none
  else none
def aMethod (P : Program) (t : TypeId) (name : String) : Option FuncId :=
  match P.info? t with
  | some i => match i.methods.find? (·.name == name) with
    | some m => if m.path.isEmpty then (match m.func with
      | some (g, false) => match P.underlying t with
        | some (.pointer _) => none
        | some _ => some g
        | none => none
      | _ => none) else none
    | none => none
  | none => none
def aInvoke (P : Program) (call : ACall) (T : Array Value) (f : Operand) (name : String) (args : Array Operand) (H : AH) : Option (Value × AH) :=
  if okO f && args.all okO then
    match aev T f with
    | .iface t v => match aMethod P t name with
      | some g => match P.funcs[g]? with
        | some fn => if fn.name == "runtime.NumGoroutine" then none else if fn.body.isNone then none else call g (#[v] ++ args.map (aev T)) H
        | none => none
      | none => none
    | _ => none
  else none
def amut (P : Program) (call : ACall) (round : ARound) (T : Array Value) (o : Oper) (H : AH) : Option (Value × AH) :=
  match o.op with
  | .store t x y => aStore P T t x y H
  | .mapUpdate t x k y => aMapUpdate P T t x k y H
  | .insert t x k y => aMapUpdate P T t x k y H
  | .call { callee := .builtin .append, args := args, argTypes := ts } => (match args.toList, ts.toList with
    | [x, y], [t, t2] => if Nat.beq t t2 then (aAppend P T t x y H).or (aAppendR P T t x y H) else aAppendZ P T t t2 x y H
    | _, _ => none)
  | .call { callee := .builtin .copy, args := args, argTypes := ts } => (match args.toList, ts.toList with
    | [x, y], [t, t2] => (aCopy P T t x y H).or (aCopyR P T t x y H)
    | _, _ => none)
  | .call { callee := .builtin .clear, args := args, argTypes := ts } => (match args.toList, ts.toList with
    | [x], [t] => aClear P T t x H
    | _, _ => none)
  | .call { callee := .value f, args := args, .. } => aCallV P call round T f args H
  | .call { callee := .invoke f name, args := args, .. } => aInvoke P call T f name args H
  | _ => none

/-- What is asked of calls. -/
def Free (p : Mp) (H K : AH) : Prop := ∀ b, H.nx ≤ b → b < K.nx → p b = none
def CallOK (P : Program) (call : ACall) : Prop := ∀ f args H v K, call f args H = some (v, K) → ∀ p w args', AR p args args' → Sim P p H w → Free p H K →
  Calls P f args' w fun e w' => ∃ q v', e = .returned v' ∧ VR q v v' ∧ Into P p H w q K w'
def RoundOK (P : Program) (round : ARound) : Prop := ∀ l args H v K, round l args H = some (v, K) → ∀ p w r x args', p l = some (r, x) → AR p args args' → Sim P p H w → Free p H K →
  ∃ f tmps assign body, (Instr.yield r args').run P w = .ok (.round r f tmps assign body) w ∧ ∀ (c : Frame) (cs : List Frame), ∃ q v' w', VR q v v' ∧ Into P p H w q K w' ∧ Steps P (lone (Frame.round r f tmps assign body .normal) (c :: cs) w) (lone (c.finish v') cs w')

section
variable {P : Program} {b : Frame} {a : Act} {k : List Item} {cs : List Frame} {w w' : World} {ops : Array Oper} {i : Nat} {rest : List Nat} {o : Oper}
theorem step_value {v : Value} (ho : ops[i]? = some o) (hw : Region.wanted o (yielded ops a.tmps) = true) (hd : ∀ c, o.op ≠ .defer c) (hr : (execOp a.eval o).run P w = .ok (.value v) w') :
    step P (lone (b.atR a (.inRegion ops (i :: rest) :: k)) cs w) = .next (lone (b.atR (a.put o.dst v) (.inRegion ops rest :: k)) cs w') := by
  have hg := stepGR_op (P := P) (b := b) (k := k) (cs := cs) (w := w) (rest := rest) ho hw
  rw [Oper.semAt_eq _ _ _ hd] at hg
  have hfin : (b.atR a (.inRegion ops (i :: rest) :: k)).finish v = b.atR (a.put o.dst v) (.inRegion ops rest :: k) := by rw [Frame.finish_atR, ho]; rfl
  exact step_lone_go (by rw [hg, ← hfin]; simp [stepG.apply, hr])
theorem step_skipped (ho : ops[i]? = some o) (hw : Region.wanted o (yielded ops a.tmps) = true) (hd : ∀ c, o.op ≠ .defer c) (hr : (execOp a.eval o).run P w = .ok .skip w') :
    step P (lone (b.atR a (.inRegion ops (i :: rest) :: k)) cs w) = .next (lone (b.atR (a.put o.dst undef) (.inRegion ops rest :: k)) cs w') := by
  have hg := stepGR_op (P := P) (b := b) (k := k) (cs := cs) (w := w) (rest := rest) ho hw
  rw [Oper.semAt_eq _ _ _ hd] at hg
  have hfin : (b.atR a (.inRegion ops (i :: rest) :: k)).finish undef = b.atR (a.put o.dst undef) (.inRegion ops rest :: k) := by rw [Frame.finish_atR, ho]; rfl
  exact step_lone_go (by rw [hg, ← hfin]; simp [stepG.apply, hr])
theorem step_enter {f : FuncId} {args : Array Value} (ho : ops[i]? = some o) (hw : Region.wanted o (yielded ops a.tmps) = true) (hd : ∀ c, o.op ≠ .defer c) (hr : (execOp a.eval o).run P w = .ok (.enter f args) w') :
    step P (lone (b.atR a (.inRegion ops (i :: rest) :: k)) cs w) = .next (lone (Frame.enter P f args .normal) (b.atR a (.inRegion ops (i :: rest) :: k) :: cs) w') := by
  have hg := stepGR_op (P := P) (b := b) (k := k) (cs := cs) (w := w) (rest := rest) ho hw
  rw [Oper.semAt_eq _ _ _ hd] at hg
  exact step_lone_go (by rw [hg]; simp [stepG.apply, hr, Frame.atR])
theorem step_round {l : Nat} {f : FuncId} {tmps : Array Value} {assign body : Code} (ho : ops[i]? = some o) (hw : Region.wanted o (yielded ops a.tmps) = true) (hd : ∀ c, o.op ≠ .defer c) (hr : (execOp a.eval o).run P w = .ok (.round l f tmps assign body) w') :
    step P (lone (b.atR a (.inRegion ops (i :: rest) :: k)) cs w) = .next (lone (Frame.round l f tmps assign body .normal) (b.atR a (.inRegion ops (i :: rest) :: k) :: cs) w') := by
  have hg := stepGR_op (P := P) (b := b) (k := k) (cs := cs) (w := w) (rest := rest) ho hw
  rw [Oper.semAt_eq _ _ _ hd] at hg
  exact step_lone_go (by rw [hg]; simp [stepG.apply, hr, Frame.atR])
end

section
variable {P : Program} {p : Mp} {T : Array Value} {a : Act} {o : Oper} {H K : AH} {w : World} {v : Value}

/-- What a change of memory does. -/
def Does (P : Program) (p : Mp) (H : AH) (w : World) (a : Act) (o : Oper) (v : Value) (K : AH) : Prop :=
  ∃ q v' w', ((execOp a.eval o).run P w = .ok (.value v') w' ∨ ((execOp a.eval o).run P w = .ok .skip w' ∧ v' = undef)) ∧ VR q v v' ∧ Into P p H w q K w'

theorem aStore_ok (h : AR p T a.tmps) (hs : Sim P p H w) {t : TypeId} {x y : Operand} (ho : o.op = .store t x y) (e : aStore P T t x y H = some (v, K)) : Does P p H w a o v K := by
  unfold aStore at e
  split at e
  · rename_i hh
    simp only [Bool.and_eq_true] at hh
    split at e
    · rename_i b off ex
      split at e
      · rename_i c e1 f hg
        split at e
        · rename_i i hi
          split at e
          · rename_i hc
            cases e
            simp only [Bool.and_eq_true, Nat.beq_eq, Nat.ble_eq] at hc
            obtain ⟨w', h1, h2⟩ := store_ok h ho hh.1 hh.2 ex hs hg hi hc.1.1 hc.1.2 hc.2
            exact ⟨p, undef, w', .inr ⟨h1, rfl⟩, VR.undef p, h2⟩
          · cases e
        · cases e
      · cases e
    · cases e
  · cases e
theorem aMapUpdate_ok (h : AR p T a.tmps) (hs : Sim P p H w) {t : TypeId} {x k y : Operand} (ho : o.op = .mapUpdate t x k y ∨ o.op = .insert t x k y) (e : aMapUpdate P T t x k y H = some (v, K)) : Does P p H w a o v K := by
  unfold aMapUpdate at e
  split at e
  · rename_i hh
    simp only [Bool.and_eq_true] at hh
    split at e
    · rename_i b ex
      split at e
      · rename_i es clock hg
        split at e
        · rename_i kt et ht
          split at e
          · rename_i ob hm
            cases e
            obtain ⟨w', h1, h2⟩ := mapUpdate_ok h ho hh.1.1.1 hh.1.1.2 hh.1.2 ex hh.2 ht hs hg hm
            exact ⟨p, undef, w', .inr ⟨h1, rfl⟩, VR.undef p, h2⟩
          · cases e
        · cases e
      · cases e
    · cases e
  · cases e
theorem aAppend_ok (h : AR p T a.tmps) (hs : Sim P p H w) (hf : Free p H K) {t : TypeId} {x y : Operand} (ho : o.op = .call { callee := .builtin .append, args := #[x, y], argTypes := #[t, t] }) (e : aAppend P T t x y H = some (v, K)) : Does P p H w a o v K := by
  unfold aAppend at e
  split at e
  · rename_i hh
    simp only [Bool.and_eq_true] at hh
    split at e
    · rename_i el ht
      split at e
      · rename_i i z hz
        obtain ⟨z1, z2, z3, z4⟩ := zeroOf_spec hz
        split at e
        · rename_i b2 off m c2 ey
          split at e
          · rename_i cs2 e2 f2 hg2
            split at e
            · rename_i hc
              simp only [Bool.and_eq_true, Nat.ble_eq, Nat.blt_eq] at hc
              split at e
              · rename_i ex
                split at e
                · rename_i hc2
                  simp only [Bool.and_eq_true, Nat.ble_eq] at hc2
                  cases e
                  obtain ⟨v', w', g, s, h1, h2, h3⟩ := append_ok (bb := none) (n := 0) (cs := #[]) h ho hh.1 hh.2 ht z1 z2 z4 hc.1.2 hs (hf H.nx (Nat.le_refl _) (by simp [AH.push])) (.inl ⟨rfl, ex, rfl, rfl⟩) ey hg2 hc.1.1.1 hc.1.1.2 (by omega) (by simpa using hc2.2) hc.2
                  refine ⟨p.set H.nx (g, s), v', w', .inl h1, ?_, ?_⟩
                  · simpa using h3
                  · simpa using h2
                · cases e
              · rename_i b off1 n c ex
                split at e
                · rename_i cs e1 f hg
                  split at e
                  · rename_i hc2
                    simp only [Bool.and_eq_true, Nat.ble_eq, Nat.beq_eq] at hc2
                    obtain ⟨⟨⟨h0, he⟩, hrm⟩, hft⟩ := hc2
                    subst h0; subst he
                    cases e
                    obtain ⟨v', w', h1, h2, h3⟩ := append_room_ok h ho hh.1 hh.2 ht z1 hs ex hg hrm hft ey hg2 hc.1.1.1 hc.1.1.2
                    exact ⟨_, v', w', .inl h1, h3, h2⟩
                  split at e
                  · rename_i hbig
                    split at e
                    · rename_i hc2
                      simp only [Bool.and_eq_true, Nat.ble_eq, Nat.blt_eq, Nat.beq_eq] at hc2
                      obtain ⟨⟨⟨⟨hnc, he⟩, hsz⟩, hnm⟩, hby⟩ := hc2
                      subst he
                      cases e
                      obtain ⟨v', w', g, s, h1, h2, h3⟩ := append_ok (bb := none) h ho hh.1 hh.2 ht z1 z2 z4 hc.1.2 hs (hf H.nx (Nat.le_refl _) (by simp [AH.push])) (.inr (.inl ⟨b, f, off1, c, cs, rfl, ex, Nat.le_of_ble_eq_true hbig, hnc, hg, hsz, rfl⟩)) ey hg2 hc.1.1.1 hc.1.1.2 hnm hby hc.2
                      exact ⟨_, v', w', .inl h1, h3, h2⟩
                    · cases e
                  split at e
                  · rename_i hc2
                    simp only [Bool.and_eq_true, Nat.ble_eq, Nat.beq_eq] at hc2
                    obtain ⟨⟨⟨⟨⟨h0, hnc⟩, he⟩, hsz⟩, hnm⟩, hby⟩ := hc2
                    subst h0; subst hnc; subst he
                    cases e
                    obtain ⟨v', w', g, s, h1, h2, h3⟩ := append_ok (bb := some b) h ho hh.1 hh.2 ht z1 z2 z4 hc.1.2 hs (hf H.nx (Nat.le_refl _) (by simp [AH.push, AH.put])) (.inr (.inr ⟨b, f, rfl, ex, hg, hsz⟩)) ey hg2 hc.1.1.1 hc.1.1.2 hnm hby hc.2
                    exact ⟨_, v', w', .inl h1, h3, h2⟩
                  · cases e
                · cases e
              · cases e
            · cases e
          · cases e
        · cases e
      · cases e
    · cases e
  · cases e
theorem aAppendZ_ok (h : AR p T a.tmps) (hs : Sim P p H w) (hf : Free p H K) {t tn : TypeId} {x y : Operand} (ho : o.op = .call { callee := .builtin .append, args := #[x, y], argTypes := #[t, tn] }) (e : aAppendZ P T t tn x y H = some (v, K)) : Does P p H w a o v K := by
  unfold aAppendZ at e
  split at e
  · rename_i hh
    simp only [Bool.and_eq_true] at hh
    split at e
    · rename_i el ht
      split at e
      · rename_i i z hz
        obtain ⟨z1, z2, z3, z4⟩ := zeroOf_spec hz
        split at e
        · rename_i kn htn
          split at e
          · rename_i ex
            split at e
            · rename_i k m ey
              split at e
              · rename_i hc
                simp only [Bool.and_eq_true, Nat.ble_eq, Nat.blt_eq] at hc
                cases e
                obtain ⟨v', w', g, s, h1, h2, h3⟩ := append_zeros_ok h ho hh.1 hh.2 ht htn z1 z2 z3 z4 hs (hf H.nx (Nat.le_refl _) (by simp [AH.push])) ex ey hc.1.1.1 hc.1.1.2 hc.1.2 hc.2
                exact ⟨_, v', w', .inl h1, h3, h2⟩
              · cases e
            · cases e
          · cases e
        · cases e
      · cases e
    · cases e
  · cases e
theorem aCopy_ok (h : AR p T a.tmps) (hs : Sim P p H w) {t t2 : TypeId} {x y : Operand} (ho : o.op = .call { callee := .builtin .copy, args := #[x, y], argTypes := #[t, t2] }) (e : aCopy P T t x y H = some (v, K)) : Does P p H w a o v K := by
  unfold aCopy at e
  split at e
  · rename_i hh
    simp only [Bool.and_eq_true] at hh
    split at e
    · rename_i el ht
      split at e
      · rename_i i hi
        split at e
        · rename_i b off n c ex
          split at e
          · rename_i b2 off2 m c2 ey
            split at e
            · rename_i cs e1 f hg
              split at e
              · rename_i cs2 e2 f2 hg2
                split at e
                · rename_i hc
                  simp only [Bool.and_eq_true, Nat.ble_eq] at hc
                  obtain ⟨⟨c1, c3⟩, c4⟩ := hc
                  have hvx := ev_vr (p := p) h hh.1
                  have hvy := ev_vr (p := p) h hh.2
                  rw [ex] at hvx
                  rw [ey] at hvy
                  generalize eu : a.eval x = u at hvx
                  generalize eu2 : a.eval y = u2 at hvy
                  generalize hkk : Nat.min m n = kk at e c1 c3 c4
                  cases hvx with
                  | slice hp q1 =>
                    cases hvy with
                    | slice hp2 q3 =>
                      rename_i r s c1' r2 s2 c2'q
                      cases e
                      obtain ⟨_, c2', hc2', _, hsz2, _, hrel2⟩ := hs.obj b2 r2 s2 _ hp2 hg2
                      have hlen2 : ((cs2.toList.drop off2).take (kk * i.size)).length = kk * i.size := by simp; omega
                      have hlen3 : ((c2'.toList.drop off2).take (kk * i.size)).length = kk * i.size := by simp; omega
                      obtain ⟨w', h1, h2⟩ := write_cells (off := off) (vs := (cs2.toList.drop off2).take (kk * i.size)) (vs' := (c2'.toList.drop off2).take (kk * i.size)) hs hp hg (by rw [hlen2]; exact c3) (by rw [hlen2, hlen3]) (fun j v v' h1 h2 => by
                        rw [List.getElem?_take] at h1 h2
                        split at h1
                        · rename_i hj
                          rw [if_pos hj] at h2
                          rw [List.getElem?_drop, Array.getElem?_toList] at h1 h2
                          exact hrel2 _ v v' h1 h2
                        · cases h1) c4
                      refine ⟨p, .int .i64 (kk : Nat), w', .inl ?_, .int _ _, h2⟩
                      have hload : (loadCells ⟨r2, off2, none⟩ (kk * i.size)).run P w = .ok ((c2'.toList.drop off2).take (kk * i.size)).toArray w := by
                        have := run_loadCells_list (P := P) w ⟨r2, off2, none⟩ ((c2'.toList.drop off2).take (kk * i.size)) (fun j u hj => by
                          rw [cell_at hc2']
                          rw [List.getElem?_take] at hj
                          split at hj
                          · rw [List.getElem?_drop, Array.getElem?_toList] at hj; exact hj
                          · cases hj)
                        rwa [hlen3] at this
                      unfold execOp
                      simp only [ho, resolve, List.map_toArray, List.map_cons, List.map_nil, Sem.run_bind, Sem.run_pure, Result.andThen_ok, invoke, builtin, Builtin.copy_, List.getElem?_toArray, List.getElem?_cons_zero, List.getElem?_cons_succ, eu, eu2, run_underlying ht, Builtin.lenOf, hkk, sizeOf, run_typeInfo w hi, Builtin.firstCells, hload, h1]
                      rfl
                · cases e
              · cases e
            · cases e
          · cases e
        · cases e
      · cases e
    · cases e
  · cases e
theorem aAppendR_ok (h : AR p T a.tmps) (hs : Sim P p H w) (hf : Free p H K) {t : TypeId} {x y : Operand} (ho : o.op = .call { callee := .builtin .append, args := #[x, y], argTypes := #[t, t] }) (e : aAppendR P T t x y H = some (v, K)) : Does P p H w a o v K := by
  unfold aAppendR at e
  split at e
  · rename_i hh
    simp only [Bool.and_eq_true] at hh
    split at e
    · rename_i el ht
      split at e
      · rename_i i z hz
        obtain ⟨z1, z2, z3, z4⟩ := zeroOf_spec hz
        split at e
        · rename_i k ey
          split at e
          · rename_i hk
            simp only [Bool.and_eq_true] at hk
            obtain ⟨⟨hk1, hk2⟩, hk3⟩ := hk
            have hk1 : k % 2 = 1 := Nat.eq_of_beq_eq_true hk1
            split at e
            · rename_i cs2 e2 hg2
              split at e
              · rename_i hc
                simp only [Bool.and_eq_true, Nat.beq_eq] at hc
                obtain ⟨⟨he, hsz⟩, hone⟩ := hc
                subst he
                split at e
                · rename_i ex
                  split at e
                  · rename_i hc2
                    simp only [Bool.and_eq_true, Nat.ble_eq] at hc2
                    cases e
                    obtain ⟨v', w', q, h1, h2, h3⟩ := append_rope_ok (bb := none) (n := 0) (cs := #[]) h ho hh.1 hh.2 ht z1 z2 z4 (Nat.eq_of_beq_eq_true hk2) (Nat.eq_of_beq_eq_true hk3) hs (hf H.nx (Nat.le_refl _) (by simp [AH.push])) (.inl ⟨rfl, ex, rfl, rfl⟩) ey hk1 hg2 hsz hone hc2.1 hc2.2
                    exact ⟨q, v', w', .inl h1, h3, h2⟩
                  · cases e
                · rename_i b off n c ex
                  split at e
                  · rename_i cs e1 f hg
                    split at e
                    · rename_i hc2
                      simp only [Bool.and_eq_true, Nat.ble_eq, Nat.beq_eq] at hc2
                      obtain ⟨⟨⟨⟨⟨h0, hnc⟩, he⟩, hsz2⟩, hnm⟩, hok⟩ := hc2
                      subst h0; subst hnc; subst he
                      cases e
                      obtain ⟨v', w', q, h1, h2, h3⟩ := append_rope_ok (bb := some b) h ho hh.1 hh.2 ht z1 z2 z4 (Nat.eq_of_beq_eq_true hk2) (Nat.eq_of_beq_eq_true hk3) hs (hf H.nx (Nat.le_refl _) (by simp [AH.push, AH.put])) (.inr ⟨b, f, rfl, ex, hg, hsz2⟩) ey hk1 hg2 hsz hone hnm hok
                      exact ⟨q, v', w', .inl h1, h3, h2⟩
                    · cases e
                  · cases e
                · cases e
              · cases e
            · cases e
          · cases e
        · rename_i ey
          split at e
          · rename_i hk
            simp only [Bool.and_eq_true] at hk
            obtain ⟨⟨hk2, hk3⟩, hg2⟩ := hk
            split at e
            · rename_i b off n c ex
              split at e
              · rename_i cs e1 f hg
                split at e
                · rename_i hc2
                  simp only [Bool.and_eq_true, Nat.ble_eq, Nat.beq_eq] at hc2
                  obtain ⟨⟨⟨⟨⟨h0, hnc⟩, he⟩, hsz2⟩, hnm⟩, hok⟩ := hc2
                  subst h0; subst hnc; subst he
                  cases e
                  obtain ⟨v', w', q, h1, h2, h3⟩ := append_given_ok (bb := some b) h ho hh.1 hh.2 ht z1 z2 z4 (Nat.eq_of_beq_eq_true hk2) (Nat.eq_of_beq_eq_true hk3) hs (hf H.nx (Nat.le_refl _) (by simp [AH.push, AH.put])) (.inr ⟨b, f, rfl, ex, hg, hsz2⟩) ey hg2 hnm hok
                  exact ⟨q, v', w', .inl h1, h3, h2⟩
                · cases e
              · cases e
            · cases e
          · cases e
        · cases e
      · cases e
    · cases e
  · cases e
theorem aCopyR_ok (h : AR p T a.tmps) (hs : Sim P p H w) {t t2 : TypeId} {x y : Operand} (ho : o.op = .call { callee := .builtin .copy, args := #[x, y], argTypes := #[t, t2] }) (e : aCopyR P T t x y H = some (v, K)) : Does P p H w a o v K := by
  unfold aCopyR at e
  split at e
  · rename_i hh
    simp only [Bool.and_eq_true] at hh
    split at e
    · rename_i el ht
      split at e
      · rename_i i hi
        split at e
        · rename_i h1
          have h1 : i.size = 1 := Nat.eq_of_beq_eq_true h1
          have hvx := ev_vr (p := p) h hh.1
          have hvy := ev_vr (p := p) h hh.2
          split at e
          · rename_i k ex
            split at e
            · rename_i b2 off2 m c2 ey
              split at e
              · rename_i hc
                simp only [Bool.and_eq_true, Nat.ble_eq, Nat.blt_eq] at hc
                obtain ⟨⟨hk, hm⟩, h0⟩ := hc
                split at e
                · rename_i cs e1 f hg
                  split at e
                  · rename_i cs2 e2 f2 hg2
                    split at e
                    · rename_i hc2
                      simp only [Bool.and_eq_true, Nat.ble_eq] at hc2
                      obtain ⟨⟨c1, c3⟩, c4⟩ := hc2
                      cases e
                      rw [ex] at hvx
                      rw [ey] at hvy
                      obtain ⟨A, c', eu, hr⟩ := vr_rope (Nat.eq_of_beq_eq_true hk) hvx
                      obtain ⟨r, s, hp, rfl, hb1, hb2⟩ := rope_some hr h0
                      generalize eu2 : a.eval y = u2 at hvy
                      cases hvy with
                      | slice hp2 q3 =>
                        obtain ⟨w', h3, h4⟩ := copy_ok (kk := m) h ho hs ht hi eu eu2 (Nat.min_eq_left (by omega)) hp hp2 hg hg2 (by rw [h1]; omega) (by rw [h1]; omega) (by rw [h1, Nat.mul_one]; exact c4)
                        rw [h1, Nat.mul_one] at h4
                        exact ⟨p, _, w', .inl h3, .int _ _, h4⟩
                    · cases e
                  · cases e
                · cases e
              · cases e
            · cases e
          · rename_i b off n c ex
            split at e
            · rename_i k ey
              split at e
              · rename_i hc
                simp only [Bool.and_eq_true, Nat.ble_eq, Nat.blt_eq] at hc
                obtain ⟨⟨hk, hm⟩, h0⟩ := hc
                split at e
                · rename_i cs e1 f hg
                  split at e
                  · rename_i cs2 e2 f2 hg2
                    split at e
                    · rename_i hc2
                      simp only [Bool.and_eq_true, Nat.ble_eq] at hc2
                      obtain ⟨⟨c1, c3⟩, c4⟩ := hc2
                      cases e
                      rw [ex] at hvx
                      rw [ey] at hvy
                      obtain ⟨A, c', eu, hr⟩ := vr_rope (Nat.eq_of_beq_eq_true hk) hvy
                      obtain ⟨r, s, hp, rfl, hb1, hb2⟩ := rope_some hr h0
                      generalize eu2 : a.eval x = u2 at hvx
                      cases hvx with
                      | slice hp2 q3 =>
                        obtain ⟨w', h3, h4⟩ := copy_ok (kk := n) h ho hs ht hi eu2 eu (Nat.min_eq_right (by omega)) hp2 hp hg hg2 (by rw [h1]; omega) (by rw [h1]; omega) (by rw [h1, Nat.mul_one]; exact c4)
                        rw [h1, Nat.mul_one] at h4
                        exact ⟨p, _, w', .inl h3, .int _ _, h4⟩
                    · cases e
                  · cases e
                · cases e
              · cases e
            · cases e
          · cases e
        · cases e
      · cases e
    · cases e
  · cases e
theorem aClear_ok (h : AR p T a.tmps) (hs : Sim P p H w) {t : TypeId} {x : Operand} (ho : o.op = .call { callee := .builtin .clear, args := #[x], argTypes := #[t] }) (e : aClear P T t x H = some (v, K)) : Does P p H w a o v K := by
  unfold aClear at e
  split at e
  · rename_i hx
    split at e
    · rename_i el ht
      split at e
      · rename_i i z hz
        obtain ⟨z1, z2, z3, z4⟩ := zeroOf_spec hz
        split at e
        · rename_i b off n c ex
          split at e
          · rename_i cs e1 f hg
            split at e
            · rename_i hc
              cases e
              simp only [Bool.and_eq_true, Nat.ble_eq] at hc
              have hvx := ev_vr (p := p) h hx
              rw [ex] at hvx
              generalize eu : a.eval x = u at hvx
              cases hvx with
              | slice hp q1 =>
                rename_i r s c'
                have hzl : (zc z.cells.toList (n + 1)).length = (n + 1) * i.size := by rw [zc_len]; simp [z4]
                have hzr := zc_vr (q := p) (plain_vr z3).cells (n + 1)
                obtain ⟨w', h1, h2⟩ := write_cells (off := off) (vs := zc z.cells.toList (n + 1)) (vs' := zc z.cells.toList (n + 1)) hs hp hg (by rw [hzl]; exact hc.1) rfl (fun j v v' h1 h2 => hzr.2 j v v' (by simpa using h1) (by simpa using h2)) (zc_all hc.2 _)
                refine ⟨p, undef, w', .inl ?_, VR.undef p, h2⟩
                have hzz : (Builtin.zeroCells z.cells (n + 1)).toList = zc z.cells.toList (n + 1) := by
                  unfold Builtin.zeroCells
                  rw [zeros_eq]
                unfold execOp
                simp only [ho, resolve, List.map_toArray, List.map_cons, List.map_nil, Sem.run_bind, Sem.run_pure, Result.andThen_ok, invoke, builtin, Builtin.clear_, List.getElem?_toArray, List.getElem?_cons_zero, eu, run_underlying ht, zeroValue_run z1 z2, hzz, h1]
                rfl
            · cases e
          · cases e
        · cases e
      · cases e
    · cases e
  · cases e
end
end
end Go.Proofs.YtampcckdbjbllaaGreatDoor.Ev
set_option linter.unusedVariables false
set_option linter.unusedSectionVars false
set_option linter.unusedSimpArgs false
namespace Go.Proofs.YtampcckdbjbllaaGreatDoor.Ev
noncomputable section
open Go.RowKit
variable [Sym] [OraF]

def aop (P : Program) (call : ACall) (round : ARound) (T : Array Value) (o : Oper) (H : AH) : Option (Value × AH) :=
  match acl P T o with
  | some (.pure v) => some (v, H)
  | some (.obs b f) => (match H.get b with | some ob => (match f ob with | some v => some (v, H) | none => none) | none => none)
  | some (.new ob f) => some (f H.nx, H.push ob)
  | some .mut => amut P call round T o H
  | none => none
/-- A heap that has grown: new rows stand ahead of the old ones. -/
def Wf (H : AH) : Prop := ∀ b, H.nx ≤ b → H.get b = none
structure Good (H K : AH) : Prop where
  nx : H.nx ≤ K.nx
  pre : ∃ D, K.m = D ++ H.m ∧ (Wf H → ∀ e ∈ D, e.1 < K.nx)
theorem look_app (b : Nat) : ∀ (D m : List (Nat × Option Obj)), (∀ e ∈ D, e.1 ≠ b) → look b (D ++ m) = look b m
  | [], m, _ => rfl
  | (b', o) :: D, m, h => by
    rw [List.cons_append, look_cons, if_neg (h (b', o) (by simp)), look_app b D m fun e he => h e (by simp [he])]
theorem Good.wf {H K : AH} (h : Good H K) (hw : Wf H) : Wf K := fun b hb => by
  obtain ⟨D, e, hk⟩ := h.pre
  rw [← AH.look_eq, e, look_app b D H.m fun x hx => by have := hk hw x hx; omega, AH.look_eq]
  exact hw b (Nat.le_trans h.nx hb)
theorem Good.refl (H : AH) : Good H H := ⟨Nat.le_refl _, [], rfl, fun _ e h => by cases h⟩
theorem Good.trans {H K L : AH} (h : Good H K) (k : Good K L) : Good H L := by
  refine ⟨Nat.le_trans h.nx k.nx, ?_⟩
  obtain ⟨D, e, hk⟩ := h.pre
  obtain ⟨E, e2, hk2⟩ := k.pre
  refine ⟨E ++ D, by rw [e2, e, List.append_assoc], fun hw x hx => ?_⟩
  rcases List.mem_append.1 hx with hx | hx
  · exact hk2 (h.wf hw) x hx
  · exact Nat.lt_of_lt_of_le (hk hw x hx) k.nx
theorem Good.put {H : AH} {b : Nat} {o : Option Obj} (hb : H.get b ≠ none) : Good H (H.put b o) := by
  refine ⟨Nat.le_refl _, [(b, o)], rfl, fun hw x hx => ?_⟩
  simp only [List.mem_singleton] at hx
  subst hx
  rcases Nat.lt_or_ge b H.nx with h | h
  · exact h
  · exact absurd (hw b h) hb
theorem Good.push {H : AH} {o : Obj} : Good H (H.push o) := by
  refine ⟨by simp [AH.push], [(H.nx, some o)], rfl, fun hw x hx => ?_⟩
  simp only [List.mem_singleton] at hx
  subst hx
  simp [AH.push]
def NxOK (call : ACall) : Prop := ∀ f args H v K, call f args H = some (v, K) → Good H K

section
variable {P : Program} {call : ACall} {round : ARound} {p : Mp} {T : Array Value} {a : Act} {o : Oper} {H K : AH} {w : World} {v : Value}

theorem put_nx (H : AH) (b : Nat) (o : Option Obj) : (H.put b o).nx = H.nx := rfl
theorem push_nx (H : AH) (o : Obj) : (H.push o).nx = H.nx + 1 := rfl
theorem amut_good (hc : NxOK call) (hr : NxOK round) (e : amut P call round T o H = some (v, K)) : Good H K := by
  unfold amut at e
  split at e
  · unfold aStore at e
    repeat' split at e
    all_goals first | (cases e; done) | (cases e; exact Good.put (by simp [*]))
  · unfold aMapUpdate at e
    repeat' split at e
    all_goals first | (cases e; done) | (cases e; exact Good.put (by simp [*]))
  · unfold aMapUpdate at e
    repeat' split at e
    all_goals first | (cases e; done) | (cases e; exact Good.put (by simp [*]))
  · split at e
    · split at e
      · rcases or_cases e with e | e
        · unfold aAppend at e
          repeat' split at e
          all_goals first | (cases e; done) | (cases e; exact Good.push) | (cases e; exact (Good.put (by simp [*])).trans Good.push) | (cases e; exact Good.put (by simp [*]))
        · unfold aAppendR at e
          repeat' split at e
          all_goals first | (cases e; done) | (cases e; exact Good.push) | (cases e; exact (Good.put (by simp [*])).trans Good.push) | (cases e; exact Good.put (by simp [*]))
      · unfold aAppendZ at e
        repeat' split at e
        all_goals first | (cases e; done) | (cases e; exact Good.push) | (cases e; exact (Good.put (by simp [*])).trans Good.push) | (cases e; exact Good.put (by simp [*]))
    · cases e
  · split at e
    · rcases or_cases e with e | e
      · unfold aCopy at e
        repeat' split at e
        all_goals first | (cases e; done) | (cases e; exact Good.put (by simp [*]))
      · unfold aCopyR at e
        repeat' split at e
        all_goals first | (cases e; done) | (cases e; exact Good.put (by simp [*]))
    · cases e
  · unfold aClear at e
    repeat' split at e
    all_goals first | (cases e; done) | (cases e; exact Good.put (by simp [*]))
  · unfold aCallV at e
    repeat' split at e
    all_goals first | (cases e; done) | exact hc _ _ _ _ _ e | exact hr _ _ _ _ _ e
  · unfold aInvoke at e
    repeat' split at e
    all_goals first | (cases e; done) | exact hc _ _ _ _ _ e
  · cases e
theorem aop_good (hc : NxOK call) (hr : NxOK round) (e : aop P call round T o H = some (v, K)) : Good H K := by
  unfold aop at e
  split at e
  · cases e; exact Good.refl _
  · repeat' split at e
    all_goals first | (cases e; done) | (cases e; exact Good.refl _)
  · cases e; exact Good.push
  · exact amut_good hc hr e
  · cases e

theorem callFunc_run {g : FuncId} {fn : Func} (hf : P.funcs[g]? = some fn) (hn : (fn.name == "runtime.NumGoroutine") = false) (hb : fn.body.isNone = false) (args : Array Value) (w : World) : (callFunc g args).run P w = .ok (.enter g args) w := by
  unfold callFunc
  simp only [Sem.run_bind, run_program, Result.andThen_ok, hf, hn, hb, Bool.false_eq_true, if_false, Sem.run_pure]

/-- What is asked of an operation, as a piece of the machine's run. -/
def Runs1 (P : Program) (p : Mp) (H : AH) (w : World) (a : Act) (o : Oper) (v : Value) (K : AH) : Prop :=
  ∀ (b : Frame) (k : List Item) (cs : List Frame) (ops : Array Oper) (i : Nat) (rest : List Nat), ops[i]? = some o → Region.wanted o (yielded ops a.tmps) = true →
    ∃ q v' w', VR q v v' ∧ Into P p H w q K w' ∧ Steps P (lone (b.atR a (.inRegion ops (i :: rest) :: k)) cs w) (lone (b.atR (a.put o.dst v') (.inRegion ops rest :: k)) cs w')

theorem runs_of_does (hd : ∀ c, o.op ≠ .defer c) (h : Does P p H w a o v K) : Runs1 P p H w a o v K := by
  intro b k cs ops i rest ho hw
  obtain ⟨q, v', w', hr, hv, hi⟩ := h
  refine ⟨q, v', w', hv, hi, ?_⟩
  rcases hr with hr | ⟨hr, rfl⟩
  · exact .one (step_value ho hw hd hr)
  · exact .one (step_skipped ho hw hd hr)

theorem aMethod_run {t : TypeId} {name : String} {g : FuncId} (e : aMethod P t name = some g) (n : Nat) (v : Value) (w : World) : (Go.method (n + 1) t v name).run P w = .ok (g, v) w := by
  unfold aMethod at e
  split at e
  · rename_i i hi
    split at e
    · rename_i m hm
      split at e
      · rename_i hpath
        have hp : m.path = #[] := by simpa using hpath
        split at e
        · rename_i g' hfun
          split at e
          · cases e
          · rename_i d hnp hd
            cases e
            unfold Go.method
            simp only [Sem.run_bind, run_typeInfo w hi, Result.andThen_ok, hm, hp, follow, Sem.run_pure, hfun]
            unfold receiverAt
            simp only [Sem.run_bind, run_underlying hd, Result.andThen_ok]
            cases d <;> first | (exact (hnp _ rfl).elim) | rfl
          · cases e
        · cases e
      · cases e
    · cases e
  · cases e
theorem aInvoke_ok (hc : CallOK P call) (h : AR p T a.tmps) (hs : Sim P p H w) (hf : Free p H K) {f : Operand} {name : String} {args : Array Operand} {ts : Array TypeId} (ho : o.op = .call { callee := .invoke f name, args := args, argTypes := ts }) (e : aInvoke P call T f name args H = some (v, K)) :
    Runs1 P p H w a o v K := by
  intro b k cs ops i rest hoi hw
  have hd : ∀ c, o.op ≠ .defer c := fun c => by rw [ho]; nofun
  unfold aInvoke at e
  split at e
  · rename_i hh
    simp only [Bool.and_eq_true] at hh
    have hvf := ev_vr (p := p) h hh.1
    have hargs : AR p (args.map (aev T)) (args.map a.eval) := AR.map fun x hx => ev_vr h (Array.all_eq_true'.1 hh.2 x hx)
    split at e
    · rename_i t u0 ef
      split at e
      · rename_i g hg
        split at e
        · rename_i fn hfn
          split at e
          · cases e
          · rename_i hn
            split at e
            · cases e
            · rename_i hb
              rw [ef] at hvf
              generalize eu : a.eval f = u at hvf
              cases hvf with
              | iface _ hv0 =>
                rename_i u0'
                have har : AR p (#[u0] ++ args.map (aev T)) (#[u0'] ++ args.map a.eval) := AR.append (by have := (AR.empty p).push hv0; simpa using this) hargs
                have hrun : (execOp a.eval o).run P w = .ok (.enter g (#[u0'] ++ args.map a.eval)) w := by
                  unfold execOp
                  have hex : (#[Value.iface t u0'] ++ args.map a.eval).extract 1 (#[Value.iface t u0'] ++ args.map a.eval).size = args.map a.eval := by
                    apply Array.ext'
                    rw [Array.toList_extract]
                    simp [List.extract]
                    exact List.take_of_length_le (by simp)
                  have h0 : (#[Value.iface t u0'] ++ args.map a.eval)[0]? = some (.iface t u0') := by rw [← Array.getElem?_toList]; simp only [Array.toList_append]; rfl
                  simp only [ho, resolve, eu, Sem.run_bind, Sem.run_pure, Result.andThen_ok, invoke, h0, hex, callMethod, run_program, aMethod_run hg (P.types.size + Made.depth - 1)]
                  have := aMethod_run hg (P.types.size + Made.depth - 1) u0' w
                  rw [show P.types.size + Made.depth - 1 + 1 = P.types.size + Made.depth from by unfold Made.depth; omega] at this
                  simp only [this, Result.andThen_ok]
                  exact callFunc_run hfn (Bool.eq_false_iff.2 hn) (Bool.eq_false_iff.2 hb) _ w
                obtain ⟨en, w', fr, ⟨q, v', rfl, hv, hi⟩, hcomes, _, hleave⟩ := hc _ _ _ _ _ e p w _ har hs hf (b.atR a (.inRegion ops (i :: rest) :: k) :: cs)
                refine ⟨q, v', w', hv, hi, ?_⟩
                have hfin : (b.atR a (.inRegion ops (i :: rest) :: k)).finish v' = b.atR (a.put o.dst v') (.inRegion ops rest :: k) := by rw [Frame.finish_atR, hoi]; rfl
                refine .head (step_enter hoi hw hd hrun) (Steps.trans hcomes (.one ?_))
                rw [← hfin]
                exact step_leave_returned hleave
        · cases e
      · cases e
    · cases e
  · cases e
theorem aCallV_ok (hc : CallOK P call) (hr : RoundOK P round) (h : AR p T a.tmps) (hs : Sim P p H w) (hf : Free p H K) {f : Operand} {args : Array Operand} {ts : Array TypeId} (ho : o.op = .call { callee := .value f, args := args, argTypes := ts }) (e : aCallV P call round T f args H = some (v, K)) :
    Runs1 P p H w a o v K := by
  intro b k cs ops i rest hoi hw
  have hd : ∀ c, o.op ≠ .defer c := fun c => by rw [ho]; nofun
  unfold aCallV at e
  split at e
  · rename_i hh
    simp only [Bool.and_eq_true] at hh
    have hvf := ev_vr (p := p) h hh.1
    have hargs : AR p (args.map (aev T)) (args.map a.eval) := AR.map fun x hx => ev_vr h (Array.all_eq_true'.1 hh.2 x hx)
    split at e
    · rename_i g first captured ef
      split at e
      · rename_i fn hfn
        split at e
        · cases e
        · rename_i hn
          split at e
          · cases e
          · rename_i hb
            rw [ef] at hvf
            generalize eu : a.eval f = u at hvf
            cases hvf with
            | func hy s1 h1 s2 h2 =>
              rename_i first' captured'
              have har : AR p (first ++ args.map (aev T) ++ captured) (first' ++ args.map a.eval ++ captured') := (AR.append ⟨s1, h1⟩ hargs).append ⟨s2, h2⟩
              have hrun : (execOp a.eval o).run P w = .ok (.enter g (first' ++ args.map a.eval ++ captured')) w := by
                unfold execOp
                simp only [ho, resolve, eu, Deferred.ofValue, Sem.run_bind, Sem.run_pure, Result.andThen_ok, invoke]
                exact callFunc_run hfn (Bool.eq_false_iff.2 hn) (Bool.eq_false_iff.2 hb) _ w
              obtain ⟨en, w', fr, ⟨q, v', rfl, hv, hi⟩, hcomes, _, hleave⟩ := hc _ _ _ _ _ e p w _ har hs hf (b.atR a (.inRegion ops (i :: rest) :: k) :: cs)
              refine ⟨q, v', w', hv, hi, ?_⟩
              have hfin : (b.atR a (.inRegion ops (i :: rest) :: k)).finish v' = b.atR (a.put o.dst v') (.inRegion ops rest :: k) := by rw [Frame.finish_atR, hoi]; rfl
              refine .head (step_enter hoi hw hd hrun) (Steps.trans hcomes (.one ?_))
              rw [← hfin]
              exact step_leave_returned hleave
      · cases e
    · rename_i l first captured ef
      split at e
      · rename_i hem
        simp only [Bool.and_eq_true, Array.isEmpty_iff] at hem
        obtain ⟨rfl, rfl⟩ := hem
        rw [ef] at hvf
        generalize eu : a.eval f = u at hvf
        cases hvf with
        | func hy => exact (hy _ rfl).elim
        | yield hp =>
          rename_i r x
          obtain ⟨g, tmps, assign, body, hy, hround⟩ := hr _ _ _ _ _ e p w r x _ hp hargs hs hf
          have hrun : (execOp a.eval o).run P w = .ok (.round r g tmps assign body) w := by
            unfold execOp
            simp only [ho, resolve, eu, Deferred.ofValue, Sem.run_bind, Sem.run_pure, Result.andThen_ok, invoke, Array.empty_append]
            exact hy
          obtain ⟨q, v', w', hv, hi, hst⟩ := hround (b.atR a (.inRegion ops (i :: rest) :: k)) cs
          refine ⟨q, v', w', hv, hi, ?_⟩
          have hfin : (b.atR a (.inRegion ops (i :: rest) :: k)).finish v' = b.atR (a.put o.dst v') (.inRegion ops rest :: k) := by rw [Frame.finish_atR, hoi]; rfl
          rw [← hfin]
          exact .head (step_round hoi hw hd hrun) hst
      · cases e
    · cases e
  · cases e

theorem amut_ok (hc : CallOK P call) (hr : RoundOK P round) (h : AR p T a.tmps) (hs : Sim P p H w) (hf : Free p H K) (e : amut P call round T o H = some (v, K)) : Runs1 P p H w a o v K := by
  unfold amut at e
  split at e
  · rename_i t x y ho
    exact runs_of_does (fun c => by rw [ho]; nofun) (aStore_ok h hs ho e)
  · rename_i t x k y ho
    exact runs_of_does (fun c => by rw [ho]; nofun) (aMapUpdate_ok h hs (.inl ho) e)
  · rename_i t x k y ho
    exact runs_of_does (fun c => by rw [ho]; nofun) (aMapUpdate_ok h hs (.inr ho) e)
  · rename_i args ts ho
    split at e
    · rename_i x y t t2 h1 h2
      split at e
      · rename_i htt
        have : t = t2 := Nat.eq_of_beq_eq_true htt
        subst this
        rw [arr_of h1, arr_of h2] at ho
        rcases or_cases e with e | e
        · exact runs_of_does (fun c => by rw [ho]; nofun) (aAppend_ok h hs hf ho e)
        · exact runs_of_does (fun c => by rw [ho]; nofun) (aAppendR_ok h hs hf ho e)
      · rw [arr_of h1, arr_of h2] at ho
        exact runs_of_does (fun c => by rw [ho]; nofun) (aAppendZ_ok h hs hf ho e)
    · cases e
  · rename_i args ts ho
    split at e
    · rename_i x y t t2 h1 h2
      rw [arr_of h1, arr_of h2] at ho
      rcases or_cases e with e | e
      · exact runs_of_does (fun c => by rw [ho]; nofun) (aCopy_ok h hs ho e)
      · exact runs_of_does (fun c => by rw [ho]; nofun) (aCopyR_ok h hs ho e)
    · cases e
  · rename_i args ts ho
    split at e
    · rename_i x t h1 h2
      rw [arr_of h1, arr_of h2] at ho
      exact runs_of_does (fun c => by rw [ho]; nofun) (aClear_ok h hs ho e)
    · cases e
  · rename_i f args ts ho
    exact aCallV_ok hc hr h hs hf ho e
  · rename_i f name args ts ho
    exact aInvoke_ok hc h hs hf ho e
  · cases e

theorem acl_nodefer {c : Cl} (e : acl P T o = some c) : ∀ d, o.op ≠ .defer d := by
  intro d hd
  unfold acl at e
  rw [hd] at e
  cases e

theorem aop_ok [OraOK] (hc : CallOK P call) (hr : RoundOK P round) (h : AR p T a.tmps) (hs : Sim P p H w) (hf : Free p H K) (e : aop P call round T o H = some (v, K)) : Runs1 P p H w a o v K := by
  unfold aop at e
  split at e
  · rename_i u hcl
    cases e
    obtain ⟨v', hv, hrun⟩ := acl_ok (p := p) h hcl
    exact runs_of_does (acl_nodefer hcl) ⟨p, v', w, .inl (hrun w), hv, Into.refl hs⟩
  · rename_i b f hcl
    obtain ⟨r, x, hp, hrun⟩ := acl_ok (p := p) h hcl
    split at e
    · rename_i ob hob
      split at e
      · rename_i u hu
        cases e
        obtain ⟨v', hv, hr'⟩ := hrun w ob v (hs.obj b r x ob hp hob) hu
        exact runs_of_does (acl_nodefer hcl) ⟨p, v', w, .inl hr', hv, Into.refl hs⟩
      · cases e
    · cases e
  · rename_i ob f hcl
    cases e
    obtain ⟨ob', f', hrun, hrel⟩ := acl_ok (p := p) h hcl
    have hfr := hf H.nx (Nat.le_refl _) (by simp [AH.push])
    obtain ⟨h1, h2⟩ := hrel H.nx w.heap.size hfr
    exact runs_of_does (acl_nodefer hcl) ⟨_, f' w.heap.size, w.alloc ob', .inl (hrun w), h2, Into.new hs hfr h1⟩
  · rename_i hcl
    exact amut_ok hc hr h hs hf e
  · cases e

/-! Regions that draw no order. -/
def aput (T : Array Value) (d : Option Tmp) (v : Value) : Array Value :=
  match d with
  | some d => ⟨lset v T.toList d⟩
  | none => T
theorem aput_some (T : Array Value) (d : Tmp) (v : Value) : aput T (some d) v = T.setIfInBounds d v := by
  apply Array.ext'
  simp [aput, lset_eq]
def aplain (P : Program) (call : ACall) (round : ARound) (ops : Array Oper) : List Oper → Array Value → AH → Option (Array Value × AH)
  | [], T, H => some (T, H)
  | o :: r, T, H => if Region.wanted o (yielded ops T) then
      match aop P call round T o H with
      | some (v, K) => aplain P call round ops r (aput T o.dst v) K
      | none => none
    else aplain P call round ops r (aput T o.dst undef) H
theorem aput_rel {q : Mp} (h : AR q T a.tmps) {v v' : Value} (hv : VR q v v') (d : Option Tmp) : AR q (aput T d v) (a.put d v').tmps := by
  cases d with
  | none => exact h
  | some d => rw [aput_some]; exact h.set d hv
theorem put_defers (d : Option Tmp) (v' : Value) : (a.put d v').defers = a.defers := by cases d <;> rfl
theorem yielded_rel {q : Mp} (h : AR q T a.tmps) (ops : Array Oper) : yielded ops a.tmps = yielded ops T := by
  funext j
  unfold yielded
  cases (ops[j]?).bind (·.dst) with
  | none => rfl
  | some d =>
    simp only [Option.bind_some]
    cases e : T[d]? with
    | none => rw [h.none e]
    | some v =>
      obtain ⟨v', e', hv⟩ := h.get e
      rw [e']
      cases hv <;> first | rfl | (obtain ⟨kd, n, e9⟩ := Sym.isInt _; rw [e9])
theorem aplain_good (hc : NxOK call) (hr : NxOK round) {ops : Array Oper} : ∀ (l : List Oper) (T T2 : Array Value) (H K : AH), aplain P call round ops l T H = some (T2, K) → Good H K
  | [], T, T2, H, K, e => by cases e; exact Good.refl _
  | o :: r, T, T2, H, K, e => by
    unfold aplain at e
    split at e
    · split at e
      · rename_i v K1 h1
        exact (aop_good hc hr h1).trans (aplain_good hc hr r _ _ _ _ e)
      · cases e
    · exact aplain_good hc hr r _ _ _ _ e
theorem free_left {p : Mp} {H K L : AH} (h : Free p H L) (hk : K.nx ≤ L.nx) : Free p H K := fun b h1 h2 => h b h1 (Nat.lt_of_lt_of_le h2 hk)
theorem free_right {p q : Mp} {H K L : AH} {w w' : World} (h : Free p H L) (hi : Into P p H w q K w') : Free q K L := fun b h1 h2 => by
  cases hq : q b with
  | none => rfl
  | some x =>
    rcases hi.fresh b (by rw [hq]; nofun) with h3 | h3
    · exact absurd (h b (Nat.le_trans hi.nx h1) h2) h3
    · omega
theorem aplain_ok [OraOK] (nc : NxOK call) (nr : NxOK round) (hc : CallOK P call) (hr : RoundOK P round) {ops : Array Oper} {b : Frame} {k : List Item} {cs : List Frame} : ∀ (l : List Oper) (j : Nat) (T T2 : Array Value) (H K : AH) (p : Mp) (a : Act) (w : World),
    (∀ i, i < l.length → l[i]? = ops[j + i]?) → aplain P call round ops l T H = some (T2, K) → AR p T a.tmps → Sim P p H w → Free p H K →
    ∃ q a' w', AR q T2 a'.tmps ∧ a'.defers = a.defers ∧ Into P p H w q K w' ∧ Steps P (lone (b.atR a (.inRegion ops (List.range' j l.length) :: k)) cs w) (lone (b.atR a' k) cs w')
  | [], j, T, T2, H, K, p, a, w, _, e, h, hs, hf => by
    cases e
    exact ⟨p, a, w, h, rfl, Into.refl hs, .one stepR_region_end⟩
  | o :: r, j, T, T2, H, K, p, a, w, hl, e, h, hs, hf => by
    have hoj : ops[j]? = some o := by simpa using (hl 0 (by simp)).symm
    have hl' : ∀ i, i < r.length → r[i]? = ops[j + 1 + i]? := fun i hi => by
      have := hl (i + 1) (by simp; omega)
      simpa [Nat.add_assoc, Nat.add_comm 1 i] using this
    have hy := yielded_rel h ops
    rw [List.length_cons, List.range'_succ]
    unfold aplain at e
    split at e
    · rename_i hw
      rw [← hy] at hw
      split at e
      · rename_i v K1 h1
        have hk := (aplain_good nc nr r _ _ _ _ e).nx
        obtain ⟨q, v', w', hv, hi, hst⟩ := aop_ok hc hr h hs (free_left hf hk) h1 b k cs ops j (List.range' (j + 1) r.length) hoj hw
        obtain ⟨q2, a2, w2, h2, hd2, hi2, hst2⟩ := aplain_ok nc nr hc hr r (j + 1) _ _ _ _ q (a.put o.dst v') w' hl' e (aput_rel (h.mono hi.le) hv o.dst) hi.sim (free_right hf hi)
        exact ⟨q2, a2, w2, h2, hd2.trans (put_defers _ _), hi.trans hi2, hst.trans hst2⟩
      · cases e
    · rename_i hw
      rw [← hy] at hw
      obtain ⟨q2, a2, w2, h2, hd2, hi2, hst2⟩ := aplain_ok nc nr hc hr r (j + 1) _ _ _ _ p (a.put o.dst undef) w hl' e (aput_rel h (VR.undef p) o.dst) hs hf
      refine ⟨q2, a2, w2, h2, hd2.trans (put_defers _ _), hi2, .head ?_ hst2⟩
      have := stepR_op_skip (P := P) (b := b) (a := a) (k := k) (cs := cs) (w := w) (ops := ops) (i := j) (rest := List.range' (j + 1) r.length) (by simp [hoj]; simpa using hw)
      simpa [hoj] using this
end
end
end Go.Proofs.YtampcckdbjbllaaGreatDoor.Ev
set_option linter.unusedVariables false
set_option linter.unusedSectionVars false
set_option linter.unusedSimpArgs false
namespace Go.Proofs.YtampcckdbjbllaaGreatDoor.Ev
noncomputable section
open Go.RowKit
variable [Sym] [OraF]

section
variable {P : Program} {call : ACall} {round : ARound} {T T' : Array Value} {o : Oper} {H : AH}
theorem pv_congr (he : execOp (aev T) o = execOp (aev T') o) : pv P T o = pv P T' o := by unfold pv; rw [he]
theorem pvp_congr (he : execOp (aev T) o = execOp (aev T') o) : pvp P T o = pvp P T' o := by unfold pvp; rw [he]
theorem bnd_congr {d : Nat} {x : Option Operand} (h : ∀ y, x = some y → aev T y = aev T' y) : bnd T d x = bnd T' d x := by
  cases x with
  | none => rfl
  | some y => simp only [bnd, h y rfl]
theorem optall_congr {x : Option Operand} (h : ∀ y, x = some y → aev T y = aev T' y) : (x.all fun x => plain (aev T x)) = (x.all fun x => plain (aev T' x)) := by
  cases x with
  | none => rfl
  | some y => simp only [Option.all_some, h y rfl]
theorem aSlice_congr {t : TypeId} {x : Operand} {lo hi mx : Option Operand} (hx : aev T x = aev T' x) (hl : ∀ y, lo = some y → aev T y = aev T' y) (hh : ∀ y, hi = some y → aev T y = aev T' y) (hm : ∀ y, mx = some y → aev T y = aev T' y) (he : execOp (aev T) o = execOp (aev T') o) :
    aSlice P T o t x lo hi mx = aSlice P T' o t x lo hi mx := by
  unfold aSlice
  cases mx with
  | none => simp only [hx, bnd_congr hl, bnd_congr hh, optall_congr hl, optall_congr hh, pvp_congr (P := P) he]
  | some z => cases hi with
    | none => rfl
    | some y => simp only [hx, bnd_congr hl, bnd_congr hh, bnd_congr hm]
theorem aSliceAny_congr {t : TypeId} {x : Operand} {lo hi mx : Option Operand} (hx : aev T x = aev T' x) (hl : ∀ y, lo = some y → aev T y = aev T' y) (hh : ∀ y, hi = some y → aev T y = aev T' y) (hm : ∀ y, mx = some y → aev T y = aev T' y) (he : execOp (aev T) o = execOp (aev T') o) :
    aSliceAny P T o t x lo hi mx = aSliceAny P T' o t x lo hi mx := by
  unfold aSliceAny aSliceArr
  simp only [hx, aSlice_congr (P := P) hx hl hh hm he]
theorem parts_congr {ps : List (Nat × Operand)} (h : ∀ x ∈ ps, aev T x.2 = aev T' x.2) : (ps.map fun x => (x.1, aev T x.2)) = (ps.map fun x => (x.1, aev T' x.2)) :=
  List.map_congr_left fun x hx => by rw [h x hx]
theorem args_congr {xs : Array Operand} (h : ∀ x ∈ xs, aev T x = aev T' x) : xs.map (aev T) = xs.map (aev T') := Array.map_congr_left h
theorem argsall_congr {xs : Array Operand} (h : ∀ x ∈ xs, aev T x = aev T' x) : (xs.all fun x => okO x && plain (aev T x)) = (xs.all fun x => okO x && plain (aev T' x)) := by
  rw [← Array.all_toList, ← Array.all_toList]
  have gen : ∀ l : List Operand, (∀ x ∈ l, aev T x = aev T' x) → (l.all fun x => okO x && plain (aev T x)) = (l.all fun x => okO x && plain (aev T' x)) := by
    intro l
    induction l with
    | nil => intro _; rfl
    | cons x l ih => intro hl; rw [List.all_cons, List.all_cons, hl x (by simp), ih fun y hy => hl y (by simp [hy])]
  exact gen _ fun x hx => h x (by simpa using hx)

theorem bndEnd_congr {k : Nat} {x : Option Operand} (h : ∀ y, x = some y → aev T y = aev T' y) : bndEnd T k x = bndEnd T' k x := by
  cases x with
  | none => rfl
  | some y => simp only [bndEnd, h y rfl]
theorem aSliceS_congr {t : TypeId} {x : Operand} {lo hi mx : Option Operand} (hx : aev T x = aev T' x) (hl : ∀ y, lo = some y → aev T y = aev T' y) (hh : ∀ y, hi = some y → aev T y = aev T' y) (hm : ∀ y, mx = some y → aev T y = aev T' y) :
    aSliceS P T t x lo hi mx = aSliceS P T' t x lo hi mx := by
  unfold aSliceS
  have e1 : ∀ d, bnd T d lo = bnd T' d lo := fun d => bnd_congr hl
  have e2 : ∀ d, bnd T d hi = bnd T' d hi := fun d => bnd_congr hh
  have e4 : ∀ k, bndEnd T k hi = bndEnd T' k hi := fun k => bndEnd_congr hh
  cases mx with
  | none => simp only [hx, e1, e2, e4]
  | some z =>
    have e3 : ∀ d, bnd T d (some z) = bnd T' d (some z) := fun d => bnd_congr (x := some z) hm
    cases hi with
    | none => simp only [hx, e1]
    | some y => simp only [hx, e1, e2, e3]
theorem aTwoS_congr {b : Builtin} {args : Array Operand} (h : ∀ x ∈ args, aev T x = aev T' x) : aTwoS T b args = aTwoS T' b args := by
  unfold aTwoS
  split
  · rename_i x y h1
    have hx : x ∈ args := by rw [← Array.mem_toList_iff, h1]; simp
    have hy : y ∈ args := by rw [← Array.mem_toList_iff, h1]; simp
    rw [h x hx, h y hy]
  · rfl
theorem acl_congr (h : ∀ x ∈ o.op.operands, aev T x = aev T' x) : acl P T o = acl P T' o := by
  by_cases hsel : ∃ cs b, o.op = .select cs b
  · obtain ⟨cs, b, hs⟩ := hsel
    simp only [acl, hs]
  have he : execOp (aev T) o = execOp (aev T') o := execOp_congr o (fun cs b hs => hsel ⟨cs, b, hs⟩) h
  unfold acl
  cases ho : o.op <;> simp only [ho, Op.operands] at h ⊢
  case move x => rw [h x (by simp)]
  case assign x => rw [h x (by simp)]
  case pick c x y => rw [h c (by simp), h x (by simp), h y (by simp)]
  case box t x => rw [h x (by simp)]
  case build t ps => rw [pv_congr (P := P) he]
  case buildSlice t n ps =>
    unfold aBuildSlice
    rw [parts_congr fun x hx => h x.2 (by simp only [List.mem_toArray, List.mem_map]; exact ⟨x, hx, rfl⟩)]
  case load t x => unfold aLoad; rw [h x (by simp)]
  case nilCheck x => rw [h x (by simp)]
  case binOp op t x y u => unfold aBin aBinS; rw [h x (by simp), h y (by simp), pvp_congr (P := P) he]
  case unOp op t x => rw [h x (by simp), pvp_congr (P := P) he]
  case convert t u x => unfold aConvert aConvS; rw [h x (by simp), pvp_congr (P := P) he]
  case makeInterface t x => rw [pv_congr (P := P) he]
  case makeFunc fn first captured =>
    cases fn with
    | func f => simp only [args_congr (xs := first) (fun x hx => h x (by simp [hx])), args_congr (xs := captured) (fun x hx => h x (by simp [hx]))]
    | _ => rfl
  case makeMap t r => cases r <;> rfl
  case makeSlice t l c => unfold aMakeSlice; rw [h l (by simp), h c (by simp)]
  case slice t x lo hi mx => rw [aSliceAny_congr (h x (by simp)) (fun y hy => h y (by simp [hy])) (fun y hy => h y (by simp [hy])) (fun y hy => h y (by simp [hy])) he, aSliceS_congr (h x (by simp)) (fun y hy => h y (by simp [hy])) (fun y hy => h y (by simp [hy])) (fun y hy => h y (by simp [hy]))]
  case fieldAddr t x f => rw [pv_congr (P := P) he]
  case field t x f => rw [pv_congr (P := P) he]
  case indexAddr t x f => unfold aIndexS; rw [pv_congr (P := P) he, h x (by simp), h f (by simp)]
  case index t x f => rw [pv_congr (P := P) he]
  case lookup t x k ok => unfold aLookup; rw [h x (by simp), h k (by simp), pvp_congr (P := P) he]
  case extract x f => rw [pv_congr (P := P) he]
  case typeAssert x t u ok => unfold aAssert; rw [h x (by simp)]
  case call c =>
    obtain ⟨callee, args, ts⟩ := c
    simp only [Call.operands] at h
    cases callee with
    | builtin b =>
      simp only at h ⊢
      have hargs : ∀ x ∈ args, aev T x = aev T' x := fun x hx => h x (by simp [hx])
      unfold aBuiltin
      cases b <;> simp only
      case len =>
        split
        · rename_i x t h1 h2
          have : x ∈ args := by rw [← Array.mem_toList_iff, h1]; simp
          unfold aLen aLenS; rw [hargs x this, pvp_congr (P := P) he]
        · rfl
      case append =>
        split
        · rename_i x y t t2 h1 h2
          have hx : x ∈ args := by rw [← Array.mem_toList_iff, h1]; simp
          have hy : y ∈ args := by rw [← Array.mem_toList_iff, h1]; simp
          unfold aApp; rw [hargs x hx, hargs y hy]
        · rfl
      case cap => rw [argsall_congr hargs, pvp_congr (P := P) he]
      case min => rw [argsall_congr hargs, pvp_congr (P := P) he, aTwoS_congr hargs]
      case max => rw [argsall_congr hargs, pvp_congr (P := P) he, aTwoS_congr hargs]
    | _ => rfl

theorem amut_congr (h : ∀ x ∈ o.op.operands, aev T x = aev T' x) : amut P call round T o H = amut P call round T' o H := by
  unfold amut
  cases ho : o.op <;> simp only [ho, Op.operands] at h ⊢
  case store t x y => unfold aStore; rw [h x (by simp), h y (by simp)]
  case mapUpdate t x k y => unfold aMapUpdate; rw [h x (by simp), h k (by simp), h y (by simp)]
  case insert t x k y => unfold aMapUpdate; rw [h x (by simp), h k (by simp), h y (by simp)]
  case call c =>
    obtain ⟨callee, args, ts⟩ := c
    simp only [Call.operands] at h
    cases callee with
    | builtin b =>
      simp only at h ⊢
      have hargs : ∀ x ∈ args, aev T x = aev T' x := fun x hx => h x (by simp [hx])
      have hm : ∀ {x : Operand} {l : List Operand}, args.toList = l → x ∈ l → aev T x = aev T' x := fun {x l} h1 h2 => hargs x (by rw [← Array.mem_toList_iff, h1]; exact h2)
      cases b <;> simp only
      case append =>
        split
        · rename_i x y t t2 h1 h2
          unfold aAppend aAppendR aAppendZ; rw [hm h1 (x := x) (by simp), hm h1 (x := y) (by simp)]
        · rfl
      case copy =>
        split
        · rename_i x y t t2 h1 h2
          unfold aCopy aCopyR; rw [hm h1 (x := x) (by simp), hm h1 (x := y) (by simp)]
        · rfl
      case clear =>
        split
        · rename_i x t h1 h2
          unfold aClear; rw [hm h1 (x := x) (by simp)]
        · rfl
    | value f =>
      simp only at h ⊢
      unfold aCallV
      rw [h f (by simp), args_congr fun x hx => h x (by simp [hx])]
    | invoke f name =>
      simp only at h ⊢
      unfold aInvoke
      rw [h f (by simp), args_congr fun x hx => h x (by simp [hx])]
end
end
end Go.Proofs.YtampcckdbjbllaaGreatDoor.Ev
set_option linter.unusedVariables false
set_option linter.unusedSectionVars false
set_option linter.unusedSimpArgs false
namespace Go.Proofs.YtampcckdbjbllaaGreatDoor.Ev
noncomputable section
open Go.RowKit
variable [Sym] [OraF]

abbrev Rows := List (Nat × Option Obj)
structure Rec1 where
  v : Value
  D : Rows
  lo : Nat
  hi : Nat
  mu : Bool
  rb : Option Nat
def alex1 (P : Program) (call : ACall) (round : ARound) (ops : Array Oper) (T : Array Value) (o : Oper) (H : AH) : Option (Rec1 × AH) :=
  if Region.wanted o (yielded ops T) then
    match acl P T o with
    | some (.pure v) => some (⟨v, [], H.nx, H.nx, false, none⟩, H)
    | some (.obs b f) => (match H.get b with | some ob => (match f ob with | some v => some (⟨v, [], H.nx, H.nx, false, some b⟩, H) | none => none) | none => none)
    | some (.new ob f) => some (⟨f H.nx, [(H.nx, some ob)], H.nx, H.nx + 1, false, none⟩, H.push ob)
    | some .mut => (match amut P call round T o H with | some (v, K) => some (⟨v, K.m.take (K.m.length - H.m.length), H.nx, K.nx, true, none⟩, K) | none => none)
    | none => none
  else some (⟨undef, [], H.nx, H.nx, false, none⟩, H)
def alex (P : Program) (call : ACall) (round : ARound) (ops : Array Oper) : List Oper → Array Value → AH → Option (List Rec1 × Array Value × AH)
  | [], T, H => some ([], T, H)
  | o :: l, T, H => match alex1 P call round ops T o H with
    | some (r, K) => match alex P call round ops l (aput T o.dst r.v) K with
      | some (rs, T2, K2) => some (r :: rs, T2, K2)
      | none => none
    | none => none
def reach (ops : Array Oper) : Nat → Nat → Nat → Bool
  | 0, _, _ => false
  | n + 1, i, j => match ops[i]? with
    | some o => o.after.toList.any fun e => Region.binds .any e && (Nat.beq e.on j || reach ops n e.on j)
    | none => false
def hits (b : Nat) (D : Rows) : Bool := D.any fun x => Nat.beq x.1 b
def pairOK (ops : Array Oper) (i j : Nat) (x y : Oper × Rec1) : Bool :=
  Nat.beq i j || reach ops ops.size i j || reach ops ops.size j i ||
    (x.1.apart ops y.1 && y.1.apart ops x.1 && !(x.2.mu && y.2.mu) && (match x.2.rb with | none => true | some b => !hits b y.2.D) && !(x.2.D.any fun e => hits e.1 y.2.D))
def edgesOK (i : Nat) (o : Oper) : Bool := o.after.toList.all fun e => !Region.binds .any e || Nat.blt e.on i
def newOK (m : Rows) (r : Rec1) : Bool := r.mu || r.D.all fun x => (look x.1 m).isNone
def freshOK (i j : Nat) (x y : Oper × Rec1) : Bool := Nat.ble i j || x.2.mu || !(x.2.D.any fun e => hits e.1 y.2.D)
def drawOK (ops : Array Oper) (z : List (Oper × Rec1)) (m : Rows) : Bool :=
  z.zipIdx.all fun x => edgesOK x.2 x.1.1 && newOK m x.1.2 && z.zipIdx.all fun y => pairOK ops x.2 y.2 x.1 y.1 && freshOK x.2 y.2 x.1 y.1
def adraw (P : Program) (call : ACall) (round : ARound) (ops : Array Oper) (T : Array Value) (H : AH) : Option (Array Value × AH) :=
  match alex P call round ops ops.toList T H with
  | some (rs, T2, K) => if drawOK ops (ops.toList.zip rs) H.m then some (T2, K) else none
  | none => none

section
variable {P : Program} {call : ACall} {round : ARound} {ops : Array Oper}

theorem hits_iff {b : Nat} {D : Rows} : hits b D = true ↔ ∃ x ∈ D, x.1 = b := by
  simp [hits, List.any_eq_true]
theorem look_hit {b : Nat} {D m : Rows} (h : hits b D = false) : look b (D ++ m) = look b m := look_app b D m fun e he hb => by
  have : hits b D = true := hits_iff.2 ⟨e, he, hb⟩
  rw [h] at this; cases this

theorem alex1_good (hc : NxOK call) (hr : NxOK round) {T : Array Value} {o : Oper} {H K : AH} {r : Rec1} (e : alex1 P call round ops T o H = some (r, K)) : Good H K ∧ K.m = r.D ++ H.m ∧ r.lo = H.nx ∧ r.hi = K.nx := by
  unfold alex1 at e
  split at e
  · split at e
    · cases e; exact ⟨Good.refl _, rfl, rfl, rfl⟩
    · split at e
      · split at e
        · cases e; exact ⟨Good.refl _, rfl, rfl, rfl⟩
        · cases e
      · cases e
    · cases e; exact ⟨Good.push, rfl, rfl, rfl⟩
    · split at e
      · rename_i v K1 h1
        cases e
        have hg := amut_good hc hr h1
        refine ⟨hg, ?_, rfl, rfl⟩
        obtain ⟨D, hD, _⟩ := hg.pre
        rw [hD]
        simp
      · cases e
    · cases e
  · cases e; exact ⟨Good.refl _, rfl, rfl, rfl⟩

/-- The text's order, step by step. -/
inductive Chain (P : Program) (call : ACall) (round : ARound) (ops : Array Oper) : List (Oper × Rec1) → Array Value → AH → Array Value → AH → Prop
  | nil {T H} : Chain P call round ops [] T H T H
  | cons {o r z T H K T2 K2} (h : alex1 P call round ops T o H = some (r, K)) (t : Chain P call round ops z (aput T o.dst r.v) K T2 K2) : Chain P call round ops ((o, r) :: z) T H T2 K2
theorem alex_chain : ∀ (l : List Oper) {T T2 : Array Value} {H K : AH} {rs : List Rec1}, alex P call round ops l T H = some (rs, T2, K) → rs.length = l.length ∧ Chain P call round ops (l.zip rs) T H T2 K
  | [], T, T2, H, K, rs, e => by cases e; exact ⟨rfl, .nil⟩
  | o :: l, T, T2, H, K, rs, e => by
    unfold alex at e
    split at e
    · rename_i r K1 h1
      split at e
      · rename_i rs' T2' K2 h2
        cases e
        obtain ⟨h3, h4⟩ := alex_chain l h2
        exact ⟨by simp [h3], .cons h1 h4⟩
      · cases e
    · cases e

/-- Temporaries, and rows, of those that are done. -/
def TZ : List (Oper × Rec1) → Nat → (Nat → Bool) → Array Value → Array Value
  | [], _, _, T => T
  | x :: z, j, f, T => TZ z (j + 1) f (if f j then aput T x.1.dst x.2.v else T)
def CZ : List (Oper × Rec1) → Nat → (Nat → Bool) → Rows → Rows
  | [], _, _, m => m
  | x :: z, j, f, m => CZ z (j + 1) f (if f j then x.2.D ++ m else m)
theorem aput_size (T : Array Value) (d : Option Tmp) (v : Value) : (aput T d v).size = T.size := by cases d with
  | none => rfl
  | some d => rw [aput_some]; simp
theorem tz_agree {f g : Nat → Bool} {t : Nat} : ∀ (z : List (Oper × Rec1)) (j : Nat) (T T' : Array Value), T.size = T'.size → T[t]? = T'[t]? → (∀ k x, z[k]? = some x → x.1.dst = some t → f (j + k) = g (j + k)) → (TZ z j f T)[t]? = (TZ z j g T')[t]?
  | [], _, _, _, _, h, _ => h
  | x :: z, j, T, T', hs, h, ha => by
    unfold TZ
    refine tz_agree z (j + 1) _ _ ?_ ?_ fun k y hk hd => by
      have := ha (k + 1) y (by simpa using hk) hd
      rwa [show j + (k + 1) = j + 1 + k by omega] at this
    · split <;> split <;> simp [aput_size, hs]
    · have one : ∀ (S : Array Value) (v : Value), x.1.dst ≠ some t → (aput S x.1.dst v)[t]? = S[t]? := fun S v hd => by
        cases hx : x.1.dst with
        | none => rfl
        | some d => rw [aput_some]; exact Array.getElem?_setIfInBounds_ne (by intro e; subst e; exact hd hx)
      by_cases hd : x.1.dst = some t
      · have := ha 0 x rfl hd
        rw [Nat.add_zero] at this
        rw [this]
        split
        · rw [hd]
          simp only [aput_some, Array.getElem?_setIfInBounds, if_true, hs]
        · exact h
      · split <;> split <;> simp only [one _ _ hd, h]
theorem tz_false {f : Nat → Bool} : ∀ (z : List (Oper × Rec1)) (j : Nat) (T : Array Value), (∀ k, k < z.length → f (j + k) = false) → TZ z j f T = T
  | [], _, _, _ => rfl
  | x :: z, j, T, h => by
    unfold TZ
    have h0 := h 0 (by simp)
    rw [Nat.add_zero] at h0
    rw [h0]
    exact tz_false z (j + 1) T fun k hk => by
      have := h (k + 1) (by simp; omega)
      rwa [show j + (k + 1) = j + 1 + k by omega] at this
theorem cz_false {f : Nat → Bool} : ∀ (z : List (Oper × Rec1)) (j : Nat) (m : Rows), (∀ k, k < z.length → f (j + k) = false) → CZ z j f m = m
  | [], _, _, _ => rfl
  | x :: z, j, T, h => by
    unfold CZ
    have h0 := h 0 (by simp)
    rw [Nat.add_zero] at h0
    rw [h0]
    exact cz_false z (j + 1) T fun k hk => by
      have := h (k + 1) (by simp; omega)
      rwa [show j + (k + 1) = j + 1 + k by omega] at this
theorem cz_agree {f g : Nat → Bool} {b : Nat} : ∀ (z : List (Oper × Rec1)) (j : Nat) (m m' : Rows), look b m = look b m' → (∀ k x, z[k]? = some x → hits b x.2.D = true → f (j + k) = g (j + k)) → look b (CZ z j f m) = look b (CZ z j g m')
  | [], _, _, _, h, _ => h
  | x :: z, j, m, m', h, ha => by
    unfold CZ
    refine cz_agree z (j + 1) _ _ ?_ fun k y hk hd => by
      have := ha (k + 1) y (by simpa using hk) hd
      rwa [show j + (k + 1) = j + 1 + k by omega] at this
    have same : ∀ D : Rows, look b (D ++ m) = look b (D ++ m') := fun D => by
      induction D with
      | nil => exact h
      | cons e D ih =>
        obtain ⟨b', o⟩ := e
        rw [List.cons_append, List.cons_append, look_cons, look_cons, ih]
    by_cases hd : hits b x.2.D = true
    · have := ha 0 x rfl hd
      rw [Nat.add_zero] at this
      rw [this]
      split
      · exact same _
      · exact h
    · have hd' : hits b x.2.D = false := by simpa using hd
      split <;> split <;> simp only [look_hit hd', h]

theorem chain_end (hc : NxOK call) (hr : NxOK round) {z : List (Oper × Rec1)} {T T2 : Array Value} {H K : AH} (h : Chain P call round ops z T H T2 K) : ∀ j, T2 = TZ z j (fun _ => true) T ∧ K.m = CZ z j (fun _ => true) H.m ∧ Good H K := by
  induction h with
  | nil => exact fun j => ⟨rfl, rfl, Good.refl _⟩
  | cons h1 _ ih =>
    intro j
    obtain ⟨i1, i2, i3⟩ := ih (j + 1)
    obtain ⟨g1, g2, _, _⟩ := alex1_good hc hr h1
    refine ⟨i1, ?_, g1.trans i3⟩
    rw [i2, g2]
    rfl
theorem chain_at (hc : NxOK call) (hr : NxOK round) {z : List (Oper × Rec1)} {T T2 : Array Value} {H K : AH} (h : Chain P call round ops z T H T2 K) : ∀ (j i : Nat) (x : Oper × Rec1), z[i]? = some x →
    ∃ Ti Hi K1, alex1 P call round ops Ti x.1 Hi = some (x.2, K1) ∧ Ti = TZ z j (fun k => decide (k < j + i)) T ∧ Hi.m = CZ z j (fun k => decide (k < j + i)) H.m ∧ K1.m = CZ z j (fun k => decide (k < j + (i + 1))) H.m ∧ Good H Hi ∧ Good K1 K := by
  induction h with
  | nil => intro j i x hx; simp at hx
  | cons h1 t ih =>
    rename_i o r z T H K1 T2 K2
    intro j i x hx
    obtain ⟨g1, g2, _, _⟩ := alex1_good hc hr h1
    cases i with
    | zero =>
      simp only [List.getElem?_cons_zero, Option.some.injEq] at hx
      subst hx
      refine ⟨T, H, K1, h1, ?_, ?_, ?_, Good.refl _, (chain_end hc hr t 0).2.2⟩
      · exact (tz_false _ j T fun k _ => by simp).symm
      · exact (cz_false _ j H.m fun k _ => by simp).symm
      · unfold CZ
        rw [if_pos (by simp), ← g2]
        exact (cz_false z (j + 1) K1.m fun k _ => by simp).symm
    | succ i =>
      obtain ⟨Ti, Hi, L, e1, e2, e3, e4, e5, e6⟩ := ih (j + 1) i x (by simpa using hx)
      refine ⟨Ti, Hi, L, e1, ?_, ?_, ?_, g1.trans e5, e6⟩
      · unfold TZ
        rw [if_pos (by simp), e2]
        simp only [show j + (i + 1) = j + 1 + i by omega]
      · unfold CZ
        rw [if_pos (by simp), e3, ← g2]
        simp only [show j + (i + 1) = j + 1 + i by omega]
      · unfold CZ
        rw [if_pos (by simp), e4, ← g2]
        simp only [show j + (i + 1 + 1) = j + 1 + (i + 1) by omega]
theorem chain_lo (hc : NxOK call) (hr : NxOK round) {z : List (Oper × Rec1)} {T T2 : Array Value} {H K : AH} (h : Chain P call round ops z T H T2 K) {i : Nat} {x : Oper × Rec1} (hx : z[i]? = some x) : H.nx ≤ x.2.lo ∧ x.2.lo ≤ x.2.hi ∧ x.2.hi ≤ K.nx := by
  obtain ⟨Ti, Hi, L, e1, _, _, _, e5, e6⟩ := chain_at hc hr h 0 i x hx
  obtain ⟨g1, _, g3, g4⟩ := alex1_good hc hr e1
  rw [g3, g4]
  exact ⟨e5.nx, g1.nx, e6.nx⟩
theorem chain_mono (hc : NxOK call) (hr : NxOK round) {z : List (Oper × Rec1)} {T T2 : Array Value} {H K : AH} (h : Chain P call round ops z T H T2 K) : ∀ {i j : Nat} {x y : Oper × Rec1}, z[i]? = some x → z[j]? = some y → i < j → x.2.hi ≤ y.2.lo := by
  induction h with
  | nil => intro i j x y hx; simp at hx
  | cons h1 t ih =>
    intro i j x y hx hy hij
    cases j with
    | zero => omega
    | succ j =>
      cases i with
      | zero =>
        simp only [List.getElem?_cons_zero, Option.some.injEq] at hx
        subst hx
        obtain ⟨_, _, _, g4⟩ := alex1_good hc hr h1
        have := (chain_lo hc hr t (by simpa using hy)).1
        rw [g4]; exact this
      | succ i => exact ih (by simpa using hx) (by simpa using hy) (by omega)

/-! What stands ahead. -/
theorem reach_listed {f : Nat → Bool} (hcl : ∀ i o, ops[i]? = some o → f i = true → ∀ e ∈ o.after, Region.binds .any e = true → f e.on = true) : ∀ (n i k : Nat), (∀ o, ops[i]? = some o → ∀ e ∈ o.after, Region.binds .any e = true → f e.on = true) → reach ops n i k = true → f k = true
  | 0, i, k, _, h => by cases h
  | n + 1, i, k, he, h => by
    unfold reach at h
    split at h
    · rename_i o ho
      obtain ⟨e, hm, h1⟩ := List.any_eq_true.1 h
      simp only [Bool.and_eq_true, Bool.or_eq_true, Nat.beq_eq] at h1
      have hf := he o ho e (by simpa using hm) h1.1
      rcases h1.2 with h2 | h2
      · rw [← h2]; exact hf
      · exact reach_listed hcl n e.on k (fun o' ho' => hcl e.on o' ho' hf) h2
    · cases h
theorem reach_lt (he : ∀ i o, ops[i]? = some o → edgesOK i o = true) : ∀ (n i k : Nat), reach ops n i k = true → k < i
  | 0, i, k, h => by cases h
  | n + 1, i, k, h => by
    unfold reach at h
    split at h
    · rename_i o ho
      obtain ⟨e, hm, h1⟩ := List.any_eq_true.1 h
      simp only [Bool.and_eq_true, Bool.or_eq_true, Nat.beq_eq] at h1
      have hlt : e.on < i := by
        have := List.all_eq_true.1 (he i o ho) e hm
        simpa [h1.1] using this
      rcases h1.2 with h2 | h2
      · omega
      · have := reach_lt he n e.on k h2; omega
    · cases h
end
end
end Go.Proofs.YtampcckdbjbllaaGreatDoor.Ev
set_option linter.unusedVariables false
set_option linter.unusedSectionVars false
set_option linter.unusedSimpArgs false
namespace Go.Proofs.YtampcckdbjbllaaGreatDoor.Ev
noncomputable section
open Go.RowKit
variable [Sym] [OraF]

def fl (listed : Array Bool) : Nat → Bool := fun j => listed.getD j false
theorem fl_set {listed : Array Bool} {i : Nat} (hi : i < listed.size) (k : Nat) : fl (listed.setIfInBounds i true) k = if k = i then true else fl listed k := by
  unfold fl
  by_cases h : k = i
  · subst h; simp [hi]
  · rw [if_neg h, getD_set_ne false (Ne.symm h)]

theorem Sim.congr {P : Program} {p : Mp} {H K : AH} {w : World} (e : ∀ b, H.get b = K.get b) (h : Sim P p H w) : Sim P p K w :=
  ⟨fun b b' r x x' e1 e2 h1 h2 => h.inj b b' r x x' e1 e2 (by rw [e]; exact h1) (by rw [e]; exact h2), h.lt, fun b r x o e1 h1 => h.obj b r x o e1 (by rw [e]; exact h1)⟩
theorem Into.congr {P : Program} {p q : Mp} {H K L : AH} {w w' : World} (e : ∀ b, K.get b = L.get b) (en : K.nx = L.nx) (h : Into P p H w q K w') : Into P p H w q L w' where
  le := h.le
  sim := h.sim.congr e
  size := h.size
  os := h.os
  tape := h.tape
  output := h.output
  kept := h.kept
  own := fun b r x e1 h1 hr => h.own b r x e1 (by rw [e]; exact h1) hr
  fresh := fun b hb => by rw [← en]; exact h.fresh b hb
  nx := by rw [← en]; exact h.nx

theorem tz_succ : ∀ (z : List (Oper × Rec1)) (j i : Nat) (T : Array Value) (x : Oper × Rec1), z[i]? = some x → TZ z j (fun k => decide (k < j + (i + 1))) T = aput (TZ z j (fun k => decide (k < j + i)) T) x.1.dst x.2.v
  | [], _, _, _, _, h => by simp at h
  | y :: z, j, 0, T, x, h => by
    simp only [List.getElem?_cons_zero, Option.some.injEq] at h
    subst h
    unfold TZ
    rw [if_pos (by simp), if_neg (by simp), tz_false z (j + 1) _ fun k _ => (by simp; try omega), tz_false z (j + 1) _ fun k _ => (by simp; try omega)]
  | y :: z, j, i + 1, T, x, h => by
    unfold TZ
    rw [if_pos (by simp), if_pos (by simp)]
    have := tz_succ z (j + 1) i (aput T y.1.dst y.2.v) x (by simpa using h)
    simp only [show j + (i + 1 + 1) = j + 1 + (i + 1) by omega, show j + (i + 1) = j + 1 + i by omega]
    exact this
theorem tz_size {f : Nat → Bool} : ∀ (z : List (Oper × Rec1)) (j : Nat) (T : Array Value), (TZ z j f T).size = T.size
  | [], _, _ => rfl
  | x :: z, j, T => by
    unfold TZ
    rw [tz_size z (j + 1)]
    split
    · exact aput_size _ _ _
    · rfl

structure Dr (P : Program) (call : ACall) (round : ARound) (ops : Array Oper) (z : List (Oper × Rec1)) (T0 : Array Value) (H0 : AH) (T2 : Array Value) (K : AH) : Prop where
  chain : Chain P call round ops z T0 H0 T2 K
  len : z.length = ops.size
  at_ : ∀ (i : Nat) (x : Oper × Rec1), z[i]? = some x → ops[i]? = some x.1
  edges : ∀ (i : Nat) (o : Oper), ops[i]? = some o → edgesOK i o = true
  news : ∀ (i : Nat) (x : Oper × Rec1), z[i]? = some x → newOK H0.m x.2 = true
  pair : ∀ (i j : Nat) (x y : Oper × Rec1), z[i]? = some x → z[j]? = some y → pairOK ops i j x y = true
  fresh : ∀ (i j : Nat) (x y : Oper × Rec1), z[i]? = some x → z[j]? = some y → freshOK i j x y = true
structure Inv (P : Program) (ops : Array Oper) (z : List (Oper × Rec1)) (T0 : Array Value) (H0 : AH) (K : AH) (p0 : Mp) (w0 : World) (listed : Array Bool) (p : Mp) (a : Act) (w : World) : Prop where
  size : listed.size = ops.size
  closed : ∀ (i : Nat) (o : Oper), ops[i]? = some o → fl listed i = true → ∀ e ∈ o.after, Region.binds .any e = true → fl listed e.on = true
  dom : ∀ b, p b ≠ none → p0 b ≠ none ∨ ∃ (i : Nat) (x : Oper × Rec1), z[i]? = some x ∧ fl listed i = true ∧ x.2.lo ≤ b ∧ b < x.2.hi
  tm : AR p (TZ z 0 (fl listed) T0) a.tmps
  into : Into P p0 H0 w0 p (ofRows (CZ z 0 (fl listed) H0.m) K.nx) w

section
variable {P : Program} {call : ACall} {round : ARound} {ops : Array Oper} {z : List (Oper × Rec1)} {T0 T2 : Array Value} {H0 K : AH} {p0 p : Mp} {w0 w : World} {listed : Array Bool} {a : Act} {i : Nat} {x : Oper × Rec1}

/-- Two that are not one behind the other do not meet. -/
structure Apart (ops : Array Oper) (x y : Oper × Rec1) : Prop where
  xy : x.1.apart ops y.1 = true
  yx : y.1.apart ops x.1 = true
  mu : ¬ (x.2.mu = true ∧ y.2.mu = true)
  rb : ∀ b, x.2.rb = some b → hits b y.2.D = false
  ks : ∀ b, hits b x.2.D = true → hits b y.2.D = true → False
theorem pair_cases (d : Dr P call round ops z T0 H0 T2 K) (inv : Inv P ops z T0 H0 K p0 w0 listed p a w) (hx : z[i]? = some x) (hi : i ∈ Region.ready .any ops listed) {k : Nat} {y : Oper × Rec1} (hy : z[k]? = some y) (hk : k ≠ i) :
    fl listed k = decide (k < i) ∨ Apart ops x y := by
  obtain ⟨hun, o, ho, hall⟩ := mem_ready.1 hi
  have hfi : fl listed i = false := getD_both hun
  have h := d.pair i k x y hx hy
  unfold pairOK at h
  simp only [Bool.or_eq_true] at h
  rcases h with ((h | h) | h) | h
  · exact absurd (Nat.eq_of_beq_eq_true h).symm hk
  · have h1 := reach_listed (f := fl listed) inv.closed _ _ _ (fun o' ho' e he hb => by rw [ho] at ho'; cases ho'; exact hall e he hb) h
    have h2 := reach_lt d.edges _ _ _ h
    left; rw [h1]; simp [h2]
  · left
    have h2 := reach_lt d.edges _ _ _ h
    have : fl listed k = false := by
      cases hf : fl listed k with
      | false => rfl
      | true =>
        have := reach_listed (f := fl listed) inv.closed _ _ _ (fun o' ho' => inv.closed k o' ho' hf) h
        rw [hfi] at this; cases this
    rw [this]
    have : ¬ k < i := by omega
    simp [this]
  · right
    simp only [Bool.and_eq_true, Bool.not_eq_true', Bool.and_eq_false_iff] at h
    obtain ⟨⟨⟨⟨h1, h2⟩, h3⟩, h4⟩, h5⟩ := h
    refine ⟨h1, h2, fun hm => ?_, fun b hb => ?_, fun b hb1 hb2 => ?_⟩
    · rcases h3 with h3 | h3
      · rw [hm.1] at h3; cases h3
      · rw [hm.2] at h3; cases h3
    · rw [hb] at h4
      simpa using h4
    · obtain ⟨e, he, rfl⟩ := hits_iff.1 hb1
      have : (x.2.D.any fun e => hits e.1 y.2.D) = true := List.any_eq_true.2 ⟨e, he, hb2⟩
      rw [this] at h5; cases h5

theorem inv_closed (inv : Inv P ops z T0 H0 K p0 w0 listed p a w) (hi : i ∈ Region.ready .any ops listed) : ∀ j o, ops[j]? = some o → fl (listed.setIfInBounds i true) j = true → ∀ e ∈ o.after, Region.binds .any e = true → fl (listed.setIfInBounds i true) e.on = true := by
  intro j o ho hf e he hb
  obtain ⟨hun, o', ho', hall⟩ := mem_ready.1 hi
  refine getD_set_true ?_
  have hlt : i < listed.size := by
    rw [inv.size]; exact (Array.getElem?_eq_some_iff.1 ho').1
  rw [fl_set hlt] at hf
  split at hf
  · rename_i hji
    subst hji
    rw [ho'] at ho; cases ho
    exact hall e he hb
  · exact inv.closed j o ho hf e he hb

theorem inv_tz (d : Dr P call round ops z T0 H0 T2 K) (inv : Inv P ops z T0 H0 K p0 w0 listed p a w) (hx : z[i]? = some x) (hi : i ∈ Region.ready .any ops listed) :
    TZ z 0 (fl (listed.setIfInBounds i true)) T0 = aput (TZ z 0 (fl listed) T0) x.1.dst x.2.v := by
  obtain ⟨hun, o', ho', hall⟩ := mem_ready.1 hi
  have hlt : i < listed.size := by
    rw [inv.size]; exact (Array.getElem?_eq_some_iff.1 ho').1
  have hs : (TZ z 0 (fl (listed.setIfInBounds i true)) T0).size = (aput (TZ z 0 (fl listed) T0) x.1.dst x.2.v).size := by rw [tz_size, aput_size, tz_size]
  refine Array.ext_getElem? fun t => ?_
  by_cases hd : x.1.dst = some t
  · have e1 : (TZ z 0 (fl (listed.setIfInBounds i true)) T0)[t]? = (TZ z 0 (fun k => decide (k < 0 + (i + 1))) T0)[t]? := by
      refine tz_agree z 0 _ _ rfl rfl fun k y hk hdy => ?_
      rw [Nat.zero_add, fl_set hlt]
      by_cases hki : k = i
      · subst hki; simp
      · rw [if_neg hki]
        rcases pair_cases d inv hx hi hk hki with h | h
        · rw [h]
          have : (k < i) = (k < 0 + (i + 1)) := by rw [eq_iff_iff]; omega
          simp only [this]
        · exact ((Oper.apart_spec h.xy).2.1 t hd hdy).elim
    rw [e1, tz_succ z 0 i T0 x hx, hd]
    simp only [aput_some, Array.getElem?_setIfInBounds, if_true, tz_size]
  · have e1 : (TZ z 0 (fl (listed.setIfInBounds i true)) T0)[t]? = (TZ z 0 (fl listed) T0)[t]? := by
      refine tz_agree z 0 _ _ rfl rfl fun k y hk hdy => ?_
      rw [Nat.zero_add, fl_set hlt]
      by_cases hki : k = i
      · subst hki; rw [hx] at hk; cases hk; exact absurd hdy hd
      · rw [if_neg hki]
    rw [e1]
    cases hx : x.1.dst with
    | none => rfl
    | some t' => rw [aput_some]; exact (Array.getElem?_setIfInBounds_ne (by intro e; subst e; exact hd hx)).symm

/-- What an operation looks at is what it would be in the text's order. -/
theorem inv_looks (d : Dr P call round ops z T0 H0 T2 K) (inv : Inv P ops z T0 H0 K p0 w0 listed p a w) (hx : z[i]? = some x) (hi : i ∈ Region.ready .any ops listed) {t : Tmp} (ht : t ∈ x.1.looksAt ops) :
    (TZ z 0 (fl listed) T0)[t]? = (TZ z 0 (fun k => decide (k < 0 + i)) T0)[t]? := by
  obtain ⟨hun, o', ho', hall⟩ := mem_ready.1 hi
  have hfi : fl listed i = false := getD_both hun
  refine tz_agree z 0 _ _ rfl rfl fun k y hk hdy => ?_
  rw [Nat.zero_add]
  by_cases hki : k = i
  · subst hki; rw [hfi]; simp
  · rcases pair_cases d inv hx hi hk hki with h | h
    · rw [h]; simp
    · exact ((Oper.apart_spec h.yx).1 t hdy ht).elim
theorem aev_looks {T T' : Array Value} {o : Oper} (h : ∀ t ∈ o.looksAt ops, T[t]? = T'[t]?) : ∀ y ∈ o.op.operands, aev T y = aev T' y := by
  intro y hy
  cases y with
  | tmp t =>
    have : t ∈ o.looksAt ops := by
      unfold Oper.looksAt
      refine List.mem_append.2 (.inl (List.mem_filterMap.2 ⟨.tmp t, by simpa using hy, rfl⟩))
    show lget T.toList t = lget T'.toList t
    rw [lget_arr, lget_arr, Array.getD_eq_getD_getElem?, Array.getD_eq_getD_getElem?, h t this]
  | _ => rfl
theorem wanted_looks {T T' : Array Value} {o : Oper} (h : ∀ t ∈ o.looksAt ops, T[t]? = T'[t]?) : Region.wanted o (yielded ops T) = Region.wanted o (yielded ops T') := by
  unfold Region.wanted
  cases hg : o.guard with
  | none => rfl
  | some g =>
    obtain ⟨j, want⟩ := g
    simp only
    have : yielded ops T j = yielded ops T' j := by
      unfold yielded
      cases hd : (ops[j]?).bind (·.dst) with
      | none => rfl
      | some t =>
        have : t ∈ o.looksAt ops := by
          unfold Oper.looksAt
          refine List.mem_append.2 (.inr ?_)
          rw [hg]
          simp [hd]
        simp only [Option.bind_some, h t this]
    rw [this]

theorem inv_dom (inv : Inv P ops z T0 H0 K p0 w0 listed p a w) (hlt : i < listed.size) {b : Nat} (hb : p b ≠ none) : p0 b ≠ none ∨ ∃ (j : Nat) (y : Oper × Rec1), z[j]? = some y ∧ fl (listed.setIfInBounds i true) j = true ∧ y.2.lo ≤ b ∧ b < y.2.hi := by
  rcases inv.dom b hb with h | ⟨j, y, h1, h2, h3⟩
  · exact .inl h
  · refine .inr ⟨j, y, h1, ?_, h3⟩
    rw [fl_set hlt]
    split
    · rfl
    · exact h2

/-- A step that leaves memory alone. -/
theorem inv_same (d : Dr P call round ops z T0 H0 T2 K) (inv : Inv P ops z T0 H0 K p0 w0 listed p a w) (hx : z[i]? = some x) (hi : i ∈ Region.ready .any ops listed) (hD : x.2.D = []) {v' : Value} (hv : VR p x.2.v v') :
    Inv P ops z T0 H0 K p0 w0 (listed.setIfInBounds i true) p (a.put x.1.dst v') w := by
  obtain ⟨hun, o', ho', hall⟩ := mem_ready.1 hi
  have hlt : i < listed.size := by
    rw [inv.size]; exact (Array.getElem?_eq_some_iff.1 ho').1
  refine ⟨by simp [inv.size], inv_closed inv hi, fun b hb => inv_dom inv hlt hb, ?_, ?_⟩
  · rw [inv_tz d inv hx hi]
    exact aput_rel inv.tm hv x.1.dst
  · refine Into.congr (K := (ofRows (CZ z 0 (fl listed) H0.m) K.nx)) (fun b => ?_) rfl inv.into
    refine Eq.symm ?_
    rw [get_ofRows, get_ofRows]
    refine cz_agree z 0 _ _ rfl fun k y hk hh => ?_
    rw [Nat.zero_add, fl_set hlt]
    by_cases hki : k = i
    · subst hki; rw [hx] at hk; cases hk
      rw [hD] at hh; cases hh
    · rw [if_neg hki]

theorem nx_ranges (nc : NxOK call) (nr : NxOK round) (d : Dr P call round ops z T0 H0 T2 K) {k : Nat} {y : Oper × Rec1} (hx : z[i]? = some x) (hy : z[k]? = some y) (hne : k ≠ i) {b : Nat} (h1 : x.2.lo ≤ b) (h2 : b < x.2.hi) (h3 : y.2.lo ≤ b) (h4 : b < y.2.hi) : False := by
  rcases Nat.lt_or_gt_of_ne hne with h | h
  · have := chain_mono nc nr d.chain hy hx h; omega
  · have := chain_mono nc nr d.chain hx hy h; omega
/-- What an operation makes is new. -/
theorem inv_free (nc : NxOK call) (nr : NxOK round) (d : Dr P call round ops z T0 H0 T2 K) (hf : Free p0 H0 K) (inv : Inv P ops z T0 H0 K p0 w0 listed p a w) (hx : z[i]? = some x) (hi : fl listed i = false) {b : Nat} (h1 : x.2.lo ≤ b) (h2 : b < x.2.hi) : p b = none := by
  cases hp : p b with
  | none => rfl
  | some y =>
    obtain ⟨l1, l2, l3⟩ := chain_lo nc nr d.chain hx
    rcases inv.dom b (by rw [hp]; nofun) with h | ⟨j, y, e1, e2, e3, e4⟩
    · exact absurd (hf b (Nat.le_trans l1 h1) (Nat.lt_of_lt_of_le h2 l3)) h
    · by_cases hji : j = i
      · subst hji; rw [hi] at e2; cases e2
      · exact (nx_ranges nc nr d hx e1 hji h1 h2 e3 e4).elim
end
end
end Go.Proofs.YtampcckdbjbllaaGreatDoor.Ev
set_option linter.unusedVariables false
set_option linter.unusedSectionVars false
set_option linter.unusedSimpArgs false
namespace Go.Proofs.YtampcckdbjbllaaGreatDoor.Ev
noncomputable section
open Go.RowKit
variable [Sym] [OraF]

section
variable {P : Program} {call : ACall} {round : ARound} {ops : Array Oper} {z : List (Oper × Rec1)} {T0 T2 : Array Value} {H0 K : AH} {p0 p : Mp} {w0 w : World} {listed : Array Bool} {a : Act} {i : Nat} {x : Oper × Rec1}

/-- The rows behind an operation, of those that are done, and of the text's order. -/
theorem inv_look (d : Dr P call round ops z T0 H0 T2 K) (inv : Inv P ops z T0 H0 K p0 w0 listed p a w) (hx : z[i]? = some x) (hi : i ∈ Region.ready .any ops listed) {b : Nat} :
    look b (CZ z 0 (fl listed) H0.m) = look b (CZ z 0 (fun k => decide (k < 0 + i)) H0.m) ∨ ∃ k y, z[k]? = some y ∧ k ≠ i ∧ hits b y.2.D = true ∧ Apart ops x y ∧ fl listed k ≠ decide (k < i) := by
  obtain ⟨hun, o', ho', hall⟩ := mem_ready.1 hi
  have hfi : fl listed i = false := getD_both hun
  by_cases hex : ∃ k y, z[k]? = some y ∧ k ≠ i ∧ hits b y.2.D = true ∧ Apart ops x y ∧ fl listed k ≠ decide (k < i)
  · exact .inr hex
  · left
    refine cz_agree z 0 _ _ rfl fun k y hk hh => ?_
    rw [Nat.zero_add]
    by_cases hki : k = i
    · subst hki; rw [hfi]; simp
    · rcases pair_cases d inv hx hi hk hki with h | h
      · rw [h]; simp
      · by_cases hq : fl listed k = decide (k < i)
        · rw [hq]; simp
        · exact (hex ⟨k, y, hk, hki, hh, h, hq⟩).elim
theorem inv_look' (d : Dr P call round ops z T0 H0 T2 K) (inv : Inv P ops z T0 H0 K p0 w0 listed p a w) (hx : z[i]? = some x) (hi : i ∈ Region.ready .any ops listed) {b : Nat} :
    look b (CZ z 0 (fl (listed.setIfInBounds i true)) H0.m) = look b (CZ z 0 (fun k => decide (k < 0 + (i + 1))) H0.m) ∨ ∃ k y, z[k]? = some y ∧ k ≠ i ∧ hits b y.2.D = true ∧ Apart ops x y ∧ fl listed k ≠ decide (k < i) := by
  obtain ⟨hun, o', ho', hall⟩ := mem_ready.1 hi
  have hlt : i < listed.size := by
    rw [inv.size]; exact (Array.getElem?_eq_some_iff.1 ho').1
  by_cases hex : ∃ k y, z[k]? = some y ∧ k ≠ i ∧ hits b y.2.D = true ∧ Apart ops x y ∧ fl listed k ≠ decide (k < i)
  · exact .inr hex
  · left
    refine cz_agree z 0 _ _ rfl fun k y hk hh => ?_
    rw [Nat.zero_add, fl_set hlt]
    by_cases hki : k = i
    · subst hki; simp
    · rw [if_neg hki]
      have e : decide (k < i) = decide (k < 0 + (i + 1)) := by
        have : (k < i) = (k < 0 + (i + 1)) := by rw [eq_iff_iff]; omega
        simp only [this]
      rcases pair_cases d inv hx hi hk hki with h | h
      · rw [h, e]
      · by_cases hq : fl listed k = decide (k < i)
        · rw [hq, e]
        · exact (hex ⟨k, y, hk, hki, hh, h, hq⟩).elim

/-- A block that another one, not behind this one, makes. -/
theorem new_block (nc : NxOK call) (nr : NxOK round) (d : Dr P call round ops z T0 H0 T2 K) {k : Nat} {y : Oper × Rec1} (hy : z[k]? = some y) (hm : y.2.mu = false) {b : Nat} (hh : hits b y.2.D = true) : y.2.lo ≤ b ∧ b < y.2.hi ∧ look b H0.m = none := by
  obtain ⟨Ti, Hi, L, e1, _, _, _, e5, e6⟩ := chain_at nc nr d.chain 0 k y hy
  have hn := d.news k y hy
  unfold newOK at hn
  rw [hm, Bool.false_or] at hn
  obtain ⟨e, he, rfl⟩ := hits_iff.1 hh
  have h3 : look e.1 H0.m = none := by simpa using List.all_eq_true.1 hn e he
  obtain ⟨yo, yr⟩ := y
  simp only at e1 he hm ⊢
  unfold alex1 at e1
  split at e1
  · split at e1
    · cases e1; cases he
    · split at e1
      · split at e1
        · cases e1; cases he
        · cases e1
      · cases e1
    · cases e1
      simp only [List.mem_singleton] at he
      subst he
      exact ⟨Nat.le_refl _, Nat.lt_succ_self _, h3⟩
    · split at e1
      · cases e1; cases hm
      · cases e1
    · cases e1
  · cases e1; cases he
/-- Rows of those ahead do not name blocks that come later. -/
theorem look_later (nc : NxOK call) (nr : NxOK round) (d : Dr P call round ops z T0 H0 T2 K) (hx : z[i]? = some x) {b : Nat} (h0 : look b H0.m = none) (hk : ∀ k y, z[k]? = some y → k < i → hits b y.2.D = false) : look b (CZ z 0 (fun k => decide (k < 0 + i)) H0.m) = none := by
  have : look b (CZ z 0 (fun k => decide (k < 0 + i)) H0.m) = look b (CZ z 0 (fun _ => false) H0.m) := by
    refine cz_agree z 0 _ _ rfl fun k y hy hh => ?_
    by_cases hki : k < i
    · rw [hk k y hy hki] at hh; cases hh
    · simp; omega
  rw [this, cz_false z 0 _ fun _ _ => rfl]
  exact h0

theorem fresh_not (d : Dr P call round ops z T0 H0 T2 K) {k j : Nat} {y u : Oper × Rec1} (hy : z[k]? = some y) (hu : z[j]? = some u) (hjk : j < k) (hm : y.2.mu = false) {b : Nat} (hh : hits b y.2.D = true) : hits b u.2.D = false := by
  have h := d.fresh k j y u hy hu
  unfold freshOK at h
  have h1 : Nat.ble k j = false := by
    rw [Bool.eq_false_iff]; intro h'; have := Nat.le_of_ble_eq_true h'; omega
  rw [h1, hm] at h
  simp only [Bool.false_or, Bool.not_eq_true'] at h
  cases hb : hits b u.2.D with
  | false => rfl
  | true =>
    obtain ⟨e, he, rfl⟩ := hits_iff.1 hh
    have : (y.2.D.any fun e => hits e.1 u.2.D) = true := List.any_eq_true.2 ⟨e, he, hb⟩
    rw [h] at this; cases this
/-- How the rows of the text's order lie where those that are done lie. -/
theorem inv_sim (nc : NxOK call) (nr : NxOK round) (d : Dr P call round ops z T0 H0 T2 K) (hf : Free p0 H0 K) (inv : Inv P ops z T0 H0 K p0 w0 listed p a w) (hx : z[i]? = some x) (hi : i ∈ Region.ready .any ops listed) (hmu : x.2.mu = true)
    {b : Nat} (hb : p b ≠ none) : look b (CZ z 0 (fun k => decide (k < 0 + i)) H0.m) = none ∨ look b (CZ z 0 (fun k => decide (k < 0 + i)) H0.m) = look b (CZ z 0 (fl listed) H0.m) := by
  rcases inv_look d inv hx hi (b := b) with h | ⟨k, y, hy, hki, hh, hap, hne⟩
  · exact .inr h.symm
  · have hym : y.2.mu = false := by
      cases hm : y.2.mu with
      | false => rfl
      | true => exact (hap.mu ⟨hmu, hm⟩).elim
    obtain ⟨b1, b2, b3⟩ := new_block nc nr d hy hym hh
    rcases Nat.lt_or_gt_of_ne hki with hlt | hgt
    · -- made ahead in the text, but not done: nothing lies there
      have hfk : fl listed k = false := by
        cases h : fl listed k with
        | false => rfl
        | true => rw [h] at hne; simp [hlt] at hne
      exact absurd (inv_free nc nr d hf inv hy hfk b1 b2) hb
    · left
      exact look_later nc nr d hx b3 fun j u hu hj => fresh_not d hy hu (by omega) hym hh
end
end
end Go.Proofs.YtampcckdbjbllaaGreatDoor.Ev
