/-
  The names of a run: the bytes that are given, and the sums; the rules, the known calls, and the memory of elder runs.
  What is known in a run: nothing; a number that is 65535; the kind of a message; what is left of a number that chooses it.
-/
import Derived.Test.YtampcckdbjbllaaGreatDoorHb
import Derived.KernelRfl
import Derived.Test.YtampcckdbjbllaaGreatDoorEf
import Derived.Test.YtampcckdbjbllaaGreatDoorEg
import Derived.Test.YtampcckdbjbllaaGreatDoorKc
set_option linter.unusedVariables false
set_option linter.unusedSectionVars false
set_option linter.unusedSimpArgs false
set_option linter.unusedVariables false
set_option linter.unusedSectionVars false
set_option linter.unusedSimpArgs false
namespace Go.Proofs.YtampcckdbjbllaaGreatDoor.Ev
noncomputable section
open Go.RowKit

/-- The value of a name. -/
def symV (N : Nat) (X : Nat → Nat) (k : Nat) : Value :=
  if k % 4 = 2 then
    let id := k / 4 / 8
    let n := if id % 2 = 0 then id / 2 + N else X (id / 2)
    match k / 4 % 8 with
    | 0 => .int .i64 ((n / 256 % 256 : Nat) : Int)
    | 1 => .int .i64 ((n % 256 : Nat) : Int)
    | 2 => .int .u8 ((n / 256 % 256 : Nat) : Int)
    | 3 => .int .u8 ((n % 256 : Nat) : Int)
    | 4 => .int .i64 ((n / 256 % 256 * 256 : Nat) : Int)
    | 5 => .int .i64 ((n : Nat) : Int)
    | 6 => .int .i64 ((id : Int) - (N : Int))
    | _ => .int .i64 0
  else .int .i64 ((k / 4 + N : Nat) : Int)
theorem symV_int (N : Nat) (X : Nat → Nat) (k : Nat) : ∃ kd n, symV N X k = .int kd n := by
  unfold symV
  split
  · simp only
    split <;> exact ⟨_, _, rfl⟩
  · exact ⟨_, _, rfl⟩
/-- A slice that is given, of given bytes. -/
structure Giv (d : List UInt8) where
  ga : Option Addr
  gc : Nat
  gr : Nat
  gobj : Obj
  greads : ∀ w : World, w.heap[gr]? = some gobj → ∀ (j : Nat) (b : UInt8), d[j]? = some b → ∃ A, ga = some A ∧ w.cell? (A.add j) = some (.int .u8 (b.toNat : Int))
@[reducible] def mkSym (d : List UInt8) (hd : d.length ≤ 400) (X : Nat → Nat) (g : Giv d) : Sym where
  val := symV d.length X
  isInt := symV_int d.length X
  data := d
  ga := g.ga
  gc := g.gc
  gr := g.gr
  gobj := g.gobj
  greads := g.greads
  aff := fun m => by
    unfold symV
    rw [if_neg (by omega), show 4 * m / 4 = m by omega]
  few := hd
theorem symV_name (d : List UInt8) (hd : d.length ≤ 400) (X : Nat → Nat) (g : Giv d) (id c : Nat) (hc : c < 8) : symV d.length X (4 * (8 * id + c) + 2) = @cvalX (mkSym d hd X g) X id c := by
  unfold symV
  rw [if_pos (by omega)]
  have e1 : (4 * (8 * id + c) + 2) / 4 / 8 = id := by omega
  have e2 : (4 * (8 * id + c) + 2) / 4 % 8 = c := by omega
  simp only [e1, e2]
  match c, hc with
  | 0, _ => rfl
  | 1, _ => rfl
  | 2, _ => rfl
  | 3, _ => rfl
  | 4, _ => rfl
  | 5, _ => rfl
  | 6, _ => rfl
  | 7, _ => rfl
  | n + 8, h => exact absurd h (by omega)
@[reducible] def mkNums (d : List UInt8) (hd : d.length ≤ 400) (X : Nat → Nat) (hX : ∀ j, X j < 65536) (g : Giv d) : @Nums (mkSym d hd X g) :=
  @Nums.mk (mkSym d hd X g) X hX (fun id c hc => symV_name d hd X g id c hc)
def tvalX (N : Nat) (X : Nat → Nat) (t : Nat) : Nat :=
  let n := if t / 4 % 2 = 0 then t / 4 / 2 + N else X (t / 4 / 2)
  if t % 4 = 0 then n else if t % 4 = 1 then n % 256 else if t % 4 = 2 then 65535 - n else n % 256 * 256
def rawX (d : List UInt8) (X : Nat → Nat) (x : NF) : Nat := 65535 - fold (x.c + (x.ts.map (tvalX d.length X)).sum + x.tl * words d)
theorem rawX_eq (d : List UInt8) (hd : d.length ≤ 400) (X : Nat → Nat) (hX : ∀ j, X j < 65536) (g : Giv d) (x : NF) : @Xraw (mkSym d hd X g) (mkNums d hd X hX g) x = rawX d X x := rfl
def valX (d : List UInt8) (zk : Nat → Bool) (X : Nat → Nat) (k : Nat) (x : NF) : Nat := if zk k then (if rawX d X x = 0 then 65535 else rawX d X x) else rawX d X x
def stepX (d : List UInt8) (zk : Nat → Bool) (X : Nat → Nat) (k : Nat) (x : NF) : Nat → Nat := fun j => if j = k then valX d zk X k x else X j
def tabX (d : List UInt8) (zk : Nat → Bool) : Nat → List NF → (Nat → Nat) → Nat → Nat
  | _, [], X => X
  | k, x :: r, X => tabX d zk (k + 1) r (stepX d zk X k x)
def okTab (n : Nat) : Nat → List NF → Bool
  | _, [] => true
  | k, x :: r => (x.ts.all fun t => Nat.beq (t / 4 % 2) 0 || Nat.blt (t / 4 / 2) k || Nat.ble n (t / 4 / 2)) && okTab n (k + 1) r
theorem tabX_else (d : List UInt8) (zk : Nat → Bool) : ∀ (l : List NF) (k : Nat) (X : Nat → Nat) (j : Nat), j < k ∨ k + l.length ≤ j → tabX d zk k l X j = X j
  | [], k, X, j, _ => rfl
  | x :: r, k, X, j, h => by
    have hl : (x :: r).length = r.length + 1 := rfl
    show tabX d zk (k + 1) r (stepX d zk X k x) j = X j
    rw [tabX_else d zk r (k + 1) _ j (by omega)]
    unfold stepX
    rw [if_neg (by omega)]
theorem rawX_congr {d : List UInt8} {X Y : Nat → Nat} {x : NF} (h : ∀ t, t ∈ x.ts → t / 4 % 2 = 0 ∨ X (t / 4 / 2) = Y (t / 4 / 2)) : rawX d X x = rawX d Y x := by
  have e : x.ts.map (tvalX d.length X) = x.ts.map (tvalX d.length Y) := List.map_congr_left (fun t ht => by
    unfold tvalX
    rcases h t ht with h | h
    · simp only [if_pos h]
    · simp only [h])
  unfold rawX
  rw [e]
theorem tabX_at (d : List UInt8) (zk : Nat → Bool) (n : Nat) : ∀ (l : List NF) (k : Nat) (X : Nat → Nat), k + l.length = n → okTab n k l = true → ∀ i x, l[i]? = some x → tabX d zk k l X (k + i) = valX d zk (tabX d zk k l X) (k + i) x
  | [], k, X, _, _, i, x, h => by simp at h
  | y :: r, k, X, hn, hok, i, x, h => by
    have hl : (y :: r).length = r.length + 1 := rfl
    simp only [okTab, Bool.and_eq_true] at hok
    show tabX d zk (k + 1) r (stepX d zk X k y) (k + i) = valX d zk (tabX d zk (k + 1) r (stepX d zk X k y)) (k + i) x
    cases i with
    | zero =>
      simp only [List.getElem?_cons_zero, Option.some.injEq] at h
      subst h
      simp only [Nat.add_zero]
      rw [tabX_else d zk r (k + 1) _ k (by omega)]
      have e1 : stepX d zk X k y k = valX d zk X k y := by
        unfold stepX
        rw [if_pos rfl]
      rw [e1]
      have e : rawX d X y = rawX d (tabX d zk (k + 1) r (stepX d zk X k y)) y := rawX_congr fun t ht => by
        have := List.all_eq_true.1 hok.1 t ht
        simp only [Bool.or_eq_true, Nat.beq_eq, Nat.blt_eq, Nat.ble_eq] at this
        rcases this with (h | h) | h
        · exact .inl h
        · right
          rw [tabX_else d zk r (k + 1) _ _ (by omega)]
          unfold stepX
          rw [if_neg (by omega)]
        · right
          rw [tabX_else d zk r (k + 1) _ _ (by omega)]
          unfold stepX
          rw [if_neg (by omega)]
      generalize tabX d zk (k + 1) r (stepX d zk X k y) = Y at e ⊢
      unfold valX
      rw [e]
    | succ i =>
      have := tabX_at d zk n r (k + 1) (stepX d zk X k y) (by omega) hok.2 i x (by simpa using h)
      rw [show k + (i + 1) = k + 1 + i by omega]
      exact this
theorem tabX_lt (d : List UInt8) (zk : Nat → Bool) : ∀ (l : List NF) (k : Nat) (X : Nat → Nat), (∀ j, X j < 65536) → ∀ j, tabX d zk k l X j < 65536
  | [], k, X, h, j => h j
  | x :: r, k, X, h, j => tabX_lt d zk r (k + 1) (stepX d zk X k x) (fun j => by
      unfold stepX valX rawX
      have := h j
      repeat' split
      all_goals omega) j
def X0 (code n kind : Nat) : Nat → Nat := fun j => if j = 50 then code else if j = 51 then n else if j = 52 then kind else 0
theorem X0_lt {code n kind : Nat} (hc : code < 65536) (hn : n < 65536) (hk : kind < 65536) (j : Nat) : X0 code n kind j < 65536 := by
  unfold X0
  repeat' split
  all_goals omega
/-- The sums that the runs meet, and which of them are never zero. -/
def tbl : List NF := [⟨11743, [64, 64], 1⟩, ⟨26658, [224], 0⟩, ⟨26402, [224], 0⟩, ⟨85522, [64, 64], 1⟩, ⟨100181, [224], 0⟩, ⟨105234, [415, 405, 224, 36, 64, 28], 1⟩, ⟨115015, [448], 0⟩, ⟨57291, [38], 0⟩, ⟨122826, [30], 0⟩, ⟨31455, [415, 405, 224, 60, 64, 68], 1⟩, ⟨40980, [448], 0⟩]
def zk0 : Nat → Bool := fun j => Nat.beq j 0 || Nat.beq j 3 || Nat.beq j 8
/-- What is given: bytes in a slice, a code, a kind of message, and a number that chooses it. -/
class Given where
  d : List UInt8
  few : d.length ≤ 400
  g : Giv d
  kind : Nat
  kind_lt : kind < 256
  code : Nat
  code_lt : code < 256
  n : Nat
  n_is : n = 3 ∨ n = 11 ∨ n = 12
section
variable [Given]
def XX : Nat → Nat := tabX Given.d zk0 0 tbl (X0 Given.code Given.n Given.kind)
theorem XX_lt (j : Nat) : XX j < 65536 := tabX_lt _ _ _ _ _ (X0_lt (by have := Given.code_lt; omega) (by have := Given.n_is; omega) (by have := Given.kind_lt; omega)) j
instance symG : Sym := mkSym Given.d Given.few XX Given.g
instance numsG : Nums := mkNums Given.d Given.few XX XX_lt Given.g
instance tblG : Tbl tbl zk0 := ⟨fun j x h => by
  have := tabX_at Given.d zk0 tbl.length tbl 0 (X0 Given.code Given.n Given.kind) (by simp) (by decide) j x h
  rw [Nat.zero_add] at this
  exact this⟩
theorem num_code : num 101 = Given.code := rfl
theorem num_kind : num 103 = Given.n := rfl
theorem num_choice : num 105 = Given.kind := rfl
variable [Kn]
/-- The known calls: sums, the kinds that tell of faults, and elder runs. -/
def knownCall (Tb : List NF) (nz : Nat → Option Bool) (ms : List Memo) (f : FuncId) (args : Array Value) (H : AH) : Option (Value × AH) :=
  match sumCall Tb zk0 nz f args H with
  | some r => some r
  | none => if Nat.beq f 331 then (match args.toList with
    | [.chan (some k)] => if Nat.beq k 3302 then some (.bool true, H) else none
    | _ => none) else memoFind f args H ms
@[reducible] def oraG (Tb : List NF) (nz : Nat → Option Bool) (ms : List Memo) : OraF := oraOf (zOf zk0) (knownCall Tb nz ms)
theorem zG : ZOK (zOf zk0) := fun id b ho h => by
  unfold zOf at h
  split at h
  · rename_i hc
    simp only [Bool.and_eq_true, Nat.beq_eq] at hc
    cases h
    symm
    rw [decide_eq_false_iff_not]
    have ht : ∃ x, tbl[id / 2]? = some x := by
      have := hc.2
      simp only [zk0, Bool.or_eq_true, Nat.beq_eq] at this
      rcases this with (e | e) | e <;> rw [e] <;> exact ⟨_, rfl⟩
    obtain ⟨x, hx⟩ := ht
    have := Tbl.ok (Tb := tbl) (zk := zk0) (id / 2) x hx
    rw [if_pos hc.2] at this
    have e : num id = Nums.X (id / 2) := by
      unfold num numOfX
      rw [if_neg (by omega)]
    rw [e, this]
    split <;> omega
  · cases h
theorem known_good {Tb : List NF} {nz : Nat → Option Bool} {ms : List Memo} : NxOK (knownCall Tb nz ms) := by
  letI : OraF := oraG Tb nz ms
  intro f args H v K h
  unfold knownCall at h
  split at h
  · rename_i r hr
    cases h
    exact sumCall_nx _ _ _ _ _ hr
  · split at h
    · split at h
      · split at h
        · cases h; exact Good.refl _
        · cases h
      · cases h
    · exact find_good h
theorem known_ok [KnOK] {Tb : List NF} [Tbl Tb zk0] {nz : Nat → Option Bool} {ms : List Memo} (hn : NzOK Tb nz) (hm : ∀ m ∈ ms, MemoOK Tryz.prog m) : CallOK Tryz.prog (knownCall Tb nz ms) := by
  letI : OraF := oraG Tb nz ms
  intro f args H v K h
  unfold knownCall at h
  split at h
  · rename_i r hr
    cases h
    exact sumCall_ok hn _ _ _ _ _ hr
  · split at h
    · rename_i hf
      split at h
      · rename_i k ha
        split at h
        · rename_i hk
          cases h
          rw [Nat.beq_eq] at hf hk
          subst hf; subst hk
          intro p w args' har hs _
          have hl : args' = #[.int .i64 ((Given.n % 256 : Nat) : Int)] := by
            have h1 : args = #[.chan (some 3302)] := Array.ext' ha
            subst h1
            have hsz := har.1
            obtain ⟨l⟩ := args'
            have h2 : l.length = 1 := by simpa using hsz.symm
            match l, h2 with
            | [y], _ =>
              have := har.2 0 _ y rfl rfl
              cases this with
              | sym _ => exact congrArg (fun v => #[v]) (symV_name Given.d Given.few XX Given.g 103 1 (by omega))
              | rope h1 => omega
          rw [hl]
          refine (fault_any _ w).mono ?_
          rintro r w' ⟨rfl, hb⟩
          refine ⟨p, _, rfl, ?_, Into.below hs hb⟩
          have : hasI [3, 4, 5, 11, 12] ((Given.n % 256 : Nat) : Int) = true := by
            rcases Given.n_is with e | e | e <;> rw [e] <;> rfl
          rw [this]
          exact .bool _
        · cases h
      · cases h
    · intro p w args' har hs hf
      exact find_ok hm h har hs hf
/-- A run with what is known. -/
theorem run_memo [KnOK] {Tb : List NF} [Tbl Tb zk0] {nz : Nat → Option Bool} {ms : List Memo} (hn : NzOK Tb nz) (hm : ∀ m ∈ ms, MemoOK Tryz.prog m) (n : Nat) : CallOK Tryz.prog (@run (oraG Tb nz ms) Tryz.prog n) :=
  letI := oraG Tb nz ms
  haveI : OraOK := oraOf_ok zG _
  haveI : HookGood := ⟨known_good⟩
  haveI : HookOK Tryz.prog := ⟨known_ok hn hm⟩
  run_ok (by kernel_rfl) n
end
end
end Go.Proofs.YtampcckdbjbllaaGreatDoor.Ev
set_option linter.unusedVariables false
set_option linter.unusedSectionVars false
set_option linter.unusedSimpArgs false
namespace Go.Proofs.YtampcckdbjbllaaGreatDoor.Ev
noncomputable section
open Go.RowKit
section
variable [Given]
@[reducible] def kn0 : Kn := ⟨fun _ => none, false⟩
theorem kn0_ok : @KnOK symG kn0 := @KnOK.mk symG kn0 (fun _ _ h => by cases h) (fun h => by cases h)
def nzN : Nat → Option Bool := fun _ => none
theorem nzN_ok {Tb : List NF} : NzOK Tb nzN := fun _ _ _ h => by cases h
def nzJ (j : Nat) (b : Bool) : Nat → Option Bool := fun i => if Nat.beq i j then some b else none
theorem nzJ_ok {Tb : List NF} {j : Nat} {b : Bool} {x : NF} (hx : Tb[j]? = some x) (h : b = decide (Xraw x = 0)) : NzOK Tb (nzJ j b) := fun i c y hi hy => by
  unfold nzJ at hi
  split at hi
  · rename_i e
    rw [Nat.beq_eq] at e
    cases hi
    subst e
    rw [hx] at hy
    cases hy
    exact h
  · cases hi
theorem XX_full {j : Nat} {x : NF} (h : tbl[j]? = some x) (hz : zk0 j = true) (h0 : Xraw x = 0) : XX j = 65535 := by
  have := Tbl.ok (Tb := tbl) (zk := zk0) j x h
  rw [if_pos hz, if_pos h0] at this
  exact this
/-- Known of a number that is 65535. -/
def full (j k : Nat) : Option Value :=
  if Nat.beq (k % 4) 2 && Nat.beq (k / 32) (2 * j + 1) then
    (if Nat.ble (k / 4 % 8) 1 then some (.int .i64 255) else if Nat.ble (k / 4 % 8) 3 then some (.int .u8 255) else if Nat.ble (k / 4 % 8) 4 then some (.int .i64 65280) else if Nat.ble (k / 4 % 8) 5 then some (.int .i64 65535) else none) else none
@[reducible] def knF (j : Nat) : Kn := ⟨full j, false⟩
theorem knF_ok {j : Nat} (h : XX j = 65535) : @KnOK symG (knF j) := @KnOK.mk symG (knF j) (fun k v hk => by
  have hk : full j k = some v := hk
  unfold full at hk
  split at hk
  · rename_i hc
    simp only [Bool.and_eq_true, Nat.beq_eq] at hc
    refine ⟨by omega, ?_⟩
    show symV Given.d.length XX k = v
    unfold symV
    rw [if_pos hc.1]
    have e1 : k / 4 / 8 = 2 * j + 1 := by rw [Nat.div_div_eq_div_mul]; exact hc.2
    have e2 : ((2 * j + 1) % 2 = 0) = False := eq_false (by omega)
    have e3 : (2 * j + 1) / 2 = j := by omega
    have hlt : k / 4 % 8 < 8 := Nat.mod_lt _ (by omega)
    simp only [e1, e2, if_false, e3, h]
    generalize k / 4 % 8 = c at hk hlt
    match c, hlt with
    | 0, _ => cases hk; rfl
    | 1, _ => cases hk; rfl
    | 2, _ => cases hk; rfl
    | 3, _ => cases hk; rfl
    | 4, _ => cases hk; rfl
    | 5, _ => cases hk; rfl
    | 6, _ => cases hk
    | 7, _ => cases hk
    | c + 8, h => exact absurd h (by omega)
  · cases hk) (fun h => by cases h)
/-- Known: the kind of a message. -/
@[reducible] def knN (n : Nat) : Kn := ⟨fun k => if Nat.beq k 3302 then some (.int .i64 (.ofNat n)) else none, false⟩
theorem knN_ok {n : Nat} (h : Given.n = n) : @KnOK symG (knN n) := @KnOK.mk symG (knN n) (fun k v hk => by
  have hk : (if Nat.beq k 3302 then some (Value.int .i64 (.ofNat n)) else none) = some v := hk
  split at hk
  · rename_i hc
    rw [Nat.beq_eq] at hc
    subst hc
    cases hk
    refine ⟨rfl, ?_⟩
    have e := symV_name Given.d Given.few XX Given.g 103 1 (by omega)
    refine e.trans ?_
    show Value.int .i64 ((Given.n % 256 : Nat) : Int) = .int .i64 (.ofNat n)
    rw [Nat.mod_eq_of_lt (by rcases Given.n_is with e | e | e <;> omega), h]
    rfl
  · cases hk) (fun h => by cases h)
/-- The sums where one of them is known to be full. -/
def tblT : List NF := tbl.set 9 ⟨31455 + 65535, [415, 405, 224, 60, 64], 1⟩
theorem tblT_ok (h : XX 8 = 65535) : Tbl tblT zk0 := ⟨fun j x hx => by
  by_cases hj : j = 9
  · subst hj
    have e0 := Tbl.ok (Tb := tbl) (zk := zk0) 9 _ rfl
    have ex : x = ⟨31455 + 65535, [415, 405, 224, 60, 64], 1⟩ := (Option.some.inj hx).symm
    subst ex
    rw [e0]
    show rawX Given.d XX _ = rawX Given.d XX _
    unfold rawX
    have e1 : tvalX Given.d.length XX 68 = 65535 := by
      show XX 8 = 65535
      exact h
    simp only [List.map_cons, List.map_nil, List.sum_cons, List.sum_nil, e1]
    congr 2
    omega
  · have e : tblT[j]? = tbl[j]? := List.getElem?_set_ne (fun e => hj e.symm)
    rw [e] at hx
    exact Tbl.ok (Tb := tbl) (zk := zk0) j x hx⟩
end
section
variable [Given] [Kn]
/-- A memo, by a run without memos. -/
theorem memo_run [KnOK] {Tb : List NF} [Tbl Tb zk0] {nz : Nat → Option Bool} (hn : NzOK Tb nz) {m : Memo} (h : memoRun m (@run (oraG Tb nz []) Tryz.prog 20000 m.f m.args.toArray (ofRows m.R m.nx)) = true) : MemoOK Tryz.prog m :=
  letI := oraG Tb nz []
  memo_ok (run_memo (ms := []) hn (fun _ h => by cases h) 20000) h
/-- A memo, by a run with elder memos. -/
theorem memo_runs [KnOK] {Tb : List NF} [Tbl Tb zk0] {nz : Nat → Option Bool} (hn : NzOK Tb nz) {ms : List Memo} (hm : ∀ m ∈ ms, MemoOK Tryz.prog m) {m : Memo} (h : memoRun m (@run (oraG Tb nz ms) Tryz.prog 20000 m.f m.args.toArray (ofRows m.R m.nx)) = true) : MemoOK Tryz.prog m :=
  letI := oraG Tb nz ms
  memo_ok (run_memo (ms := ms) hn hm 20000) h
theorem memos_nil {P : Program} : ∀ m ∈ ([] : List Memo), MemoOK P m := fun _ h => by cases h
theorem memos_cons {P : Program} {m : Memo} {ms : List Memo} (h : MemoOK P m) (hs : ∀ m ∈ ms, MemoOK P m) : ∀ k ∈ m :: ms, MemoOK P k := fun k hk => by
  rcases List.mem_cons.1 hk with rfl | hk
  · exact h
  · exact hs k hk
/-- A memo, by a run whose new blocks begin later. -/
theorem memo_from {P : Program} {m : Memo} (n : Nat) (hle : m.nx ≤ n) (h : MemoOK P { m with nx := n }) (hn : m.nx ≤ m.nx') : MemoOK P m := by
  intro p w args' har hs hf
  have hs2 : Sim P p (ofRows m.R n) w := ⟨hs.inj, hs.lt, hs.obj⟩
  refine (h p w args' har hs2 (fun b a1 a2 => hf b (Nat.le_trans hle a1) a2)).mono ?_
  rintro e w' ⟨q, v', he, hv, hi⟩
  exact ⟨q, v', he, hv, hi.le, hi.sim, hi.size, hi.os, hi.tape, hi.output, hi.kept, hi.own, fun b hb => by
    rcases hi.fresh b hb with h | h
    · exact .inl h
    · exact .inr ⟨Nat.le_trans hle h.1, h.2⟩, hn⟩
/-- What is left of the number that chooses. -/
def remBin (c : Nat) (op : BinOp) (x y : Value) : Option Value :=
  match op with
  | .rem => (match x with
    | .chan (some k) => if Nat.beq k 3374 then (match y with
      | .int .u8 (.ofNat m) => if Nat.beq m 3 then some (.int .u8 (.ofNat c)) else none
      | _ => none) else kbin (zOf zk0) .rem x y
    | _ => kbin (zOf zk0) .rem x y)
  | op => kbin (zOf zk0) op x y
theorem rem_choice {c : Nat} (hc : Given.kind % 3 = c) {p : Mp} {x' y' : Value} (hx : VR p (.chan (some 3374)) x') (hy : VR p (.int .u8 (.ofNat 3)) y') : Tells .rem x' y' (.int .u8 (.ofNat c)) := by
  have ex : x' = .int .u8 ((Given.kind % 256 : Nat) : Int) := by
    cases hx with
    | sym _ => exact symV_name Given.d Given.few XX Given.g 105 3 (by omega)
    | rope h1 => omega
  have ey : y' = .int .u8 ((3 : Nat) : Int) := by cases hy; rfl
  subst ex; subst ey
  refine ⟨_, fun p => .int _ _, fun P t u v => ?_⟩
  refine ⟨by simp [eqGuard, prun, pure], ?_⟩
  have h0 : ¬ (((3 : Nat) : Int) = 0) := by omega
  have e : (((Given.kind % 256 : Nat) : Int).tmod ((3 : Nat) : Int)) = ((c : Nat) : Int) := by
    rw [Int.tmod_eq_emod_of_nonneg (by omega)]
    have := Given.kind_lt
    have hk : Given.kind % 256 = Given.kind := Nat.mod_eq_of_lt this
    rw [hk]
    omega
  simp only [binOp, Op.intDiv, if_neg h0, e]
  rfl
theorem remBin_ok [KnOK] {c : Nat} (hc : Given.kind % 3 = c) {op : BinOp} {x y u : Value} (h : remBin c op x y = some u) {p : Mp} {x' y' : Value} (hx : VR p x x') (hy : VR p y y') : Tells op x' y' u := by
  letI : OraF := oraOf (zOf zk0) (fun _ _ _ => none)
  have hz := zG
  unfold remBin at h
  split at h
  · split at h
    · rename_i k
      split at h
      · rename_i hk
        rw [Nat.beq_eq] at hk
        subst hk
        split at h
        · rename_i m
          split at h
          · rename_i hm
            rw [Nat.beq_eq] at hm
            subst hm
            cases h
            exact rem_choice hc hx hy
          · cases h
        · cases h
      · exact kbin_ok hz h hx hy
    · exact kbin_ok hz h hx hy
  · exact kbin_ok hz h hx hy
@[reducible] def oraC (c : Nat) (ms : List Memo) : OraF where
  bin := remBin c
  conv := sconv
  two := stwo
  call := knownCall tbl nzN ms
theorem oraC_ok [KnOK] {c : Nat} (hc : Given.kind % 3 = c) (ms : List Memo) : @OraOK _ (oraC c ms) :=
  letI := oraC c ms
  @OraOK.mk _ (oraC c ms)
    (fun {op x y u} h {p x' y'} hx hy => by
      obtain ⟨z', h1, h2⟩ := remBin_ok hc (show remBin c op x y = some u from h) hx hy
      refine ⟨z', h1 p, fun P t u v w => ?_⟩
      obtain ⟨h3, h4⟩ := h2 P t u v
      exact ⟨prun_run h3 w, prun_run h4 w⟩)
    (fun {d e x u} h {p x'} hx => sconv_ok (show sconv d e x = some u from h) hx)
    (fun {b x y u} h {p x' y'} hx hy => stwo_ok (show stwo b x y = some u from h) hx hy)
theorem run_memoC [KnOK] {c : Nat} (hc : Given.kind % 3 = c) {ms : List Memo} (hm : ∀ m ∈ ms, MemoOK Tryz.prog m) (n : Nat) : CallOK Tryz.prog (@run (oraC c ms) Tryz.prog n) :=
  letI := oraC c ms
  haveI : OraOK := oraC_ok hc _
  haveI : HookGood := ⟨known_good⟩
  haveI : HookOK Tryz.prog := ⟨known_ok nzN_ok hm⟩
  run_ok (by kernel_rfl) n
end
end
end Go.Proofs.YtampcckdbjbllaaGreatDoor.Ev
