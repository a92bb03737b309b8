/-
  TopFaults, whatever is given, in a world of the machine.
-/
import Derived.Test.YtampcckdbjbllaaGreatDoorMmTop
import Derived.WalkMore
set_option linter.unusedVariables false
set_option linter.unusedSectionVars false
set_option linter.unusedSimpArgs false
namespace Go.Proofs.YtampcckdbjbllaaGreatDoor
open Go.RowKit Ev

theorem cell_same {w w' : World} {a : Addr} (h : w'.heap[a.block]? = w.heap[a.block]?) : w'.cell? a = w.cell? a := by
  unfold World.cell?
  rw [h]
theorem add_at (b off j : Nat) : (⟨b, off, none⟩ : Addr).add j = ⟨b, off + j, none⟩ := by
  unfold Addr.add
  split
  · rename_i h; subst h; rfl
  · rfl
/-- What is given, as it lies in a world. -/
structure At (w : World) (A : Option Addr) (l : List UInt8) : Prop where
  few : l.length ≤ 400
  lie : 0 < l.length → ∃ b off, A = some ⟨b, off, none⟩ ∧ b < w.heap.size ∧ ∀ (j : Nat) (x : UInt8), l[j]? = some x → w.cell? ⟨b, off + j, none⟩ = some (.int .u8 (x.toNat : Int))
noncomputable section
theorem top_any [Given] : MemoOK Tryz.prog topm ∨ ¬ ((Given.kind % 3 = 0 → Given.n = 3) ∧ (Given.kind % 3 = 1 → Given.n = 11) ∧ (Given.kind % 3 = 2 → Given.n = 12)) := by
  by_cases h : (Given.kind % 3 = 0 → Given.n = 3) ∧ (Given.kind % 3 = 1 → Given.n = 11) ∧ (Given.kind % 3 = 2 → Given.n = 12)
  · left
    have h3 : Given.kind % 3 = 0 ∨ Given.kind % 3 = 1 ∨ Given.kind % 3 = 2 := by omega
    rcases h3 with e | e | e
    · exact topm_ok0 e (h.1 e)
    · exact topm_ok1 e (h.2.1 e)
    · exact topm_ok2 e (h.2.2 e)
  · exact .inr h
/-- The kind of a message that a number chooses. -/
def chosen (k : Nat) : Nat := if k % 3 = 0 then 3 else if k % 3 = 1 then 11 else 12
theorem chosen_is (k : Nat) : chosen k = 3 ∨ chosen k = 11 ∨ chosen k = 12 := by
  unfold chosen; split
  · exact .inl rfl
  · split
    · exact .inr (.inl rfl)
    · exact .inr (.inr rfl)
theorem ar_three {p : Mp} [Sym] {a b c a' b' c' : Value} (h1 : VR p a a') (h2 : VR p b b') (h3 : VR p c c') : AR p #[a, b, c] #[a', b', c'] := (((AR.empty p).push h1).push h2).push h3
theorem run_given (G : Given) (hk : G.n = chosen G.kind) (hcode : G.code < 256) (p : Mp) (w : World) (hp : p = (fun _ => none) ∨ (∃ b, p = (fun k => if k = 0 then some (b, 0) else none) ∧ b < w.heap.size ∧ G.g.gr = b ∧ w.heap[b]? = some G.g.gobj))
    (hz : p = (fun _ => none) → G.d.length = 0) :
    Calls Tryz.prog 3 #[.int .u8 (G.kind : Int), .int .u8 (G.code : Int), .slice G.g.ga G.d.length G.g.gc] w fun r w' => r = .returned (.bool true) ∧ Below w.heap.size w w' := by
  letI := G
  have hm : MemoOK Tryz.prog topm := by
    rcases top_any with h | h
    · exact h
    · refine absurd ⟨fun e => ?_, fun e => ?_, fun e => ?_⟩ h
      · show G.n = 3
        rw [hk]; unfold chosen; rw [if_pos e]
      · show G.n = 11
        have e : G.kind % 3 = 1 := e
        rw [hk]; unfold chosen; rw [if_neg (by omega), if_pos e]
      · show G.n = 12
        have e : G.kind % 3 = 2 := e
        rw [hk]; unfold chosen; rw [if_neg (by omega), if_neg (by omega)]
  have e1 : Value.int .u8 (G.kind : Int) = Sym.val 3374 := by
    refine Eq.trans ?_ (symV_name Given.d Given.few XX Given.g 105 3 (by omega)).symm
    show _ = Value.int .u8 ((G.kind % 256 : Nat) : Int)
    rw [Nat.mod_eq_of_lt G.kind_lt]
  have e2 : Value.int .u8 (G.code : Int) = Sym.val 3246 := by
    refine Eq.trans ?_ (symV_name Given.d Given.few XX Given.g 101 3 (by omega)).symm
    show _ = Value.int .u8 ((G.code % 256 : Nat) : Int)
    rw [Nat.mod_eq_of_lt G.code_lt]
  have v1 : VR p (.chan (some 3374)) (.int .u8 (G.kind : Int)) := by rw [e1]; exact .sym rfl
  have v2 : VR p (.chan (some 3246)) (.int .u8 (G.code : Int)) := by rw [e2]; exact .sym rfl
  have v3 : VR p (.complex .f64 0 0) (.slice G.g.ga G.d.length G.g.gc) := by
    refine VR.given (p := p) .f64 0 0 ?_
    rcases hp with hp | ⟨b, hp, _, hb, _⟩
    · exact .inl (hz hp)
    · right
      rw [hp]
      show some (b, 0) = some (G.g.gr, 0)
      rw [hb]
  have hs : Sim Tryz.prog p (ofRows topm.R topm.nx) w := by
    rcases hp with hp | ⟨b, hp, hlt, hb, ho⟩
    · subst hp
      exact ⟨fun b b' r x x' e => (by cases e), fun b r x e => (by cases e), fun b r x o e => (by cases e)⟩
    · subst hp
      refine ⟨fun k k' r x x' e e' _ _ => ?_, fun k r x e => ?_, fun k r x o e he => ?_⟩
      · split at e
        · split at e'
          · omega
          · cases e'
        · cases e
      · split at e
        · cases e; exact hlt
        · cases e
      · split at e
        · rename_i hk0
          cases e
          subst hk0
          cases he
          exact ho
        · cases e
  refine (hm p w _ (ar_three v1 v2 v3) hs (fun b h1 h2 => ?_)).mono ?_
  · rcases hp with hp | ⟨b', hp, _⟩
    · rw [hp]
    · rw [hp]
      exact if_neg (by have : 1 ≤ b := h1; omega)
  · rintro e w' ⟨q, v', rfl, hv, hi⟩
    have hv : VR q (.bool true) v' := hv
    cases hv
    refine ⟨rfl, hi.os, hi.tape, hi.output, hi.size, fun k hk => ?_⟩
    rcases hp with hp | ⟨b, hp, hlt, hb, ho⟩
    · exact hi.kept k hk (fun b x h => by rw [hp] at h; cases h)
    · by_cases hkb : k = b
      · subst hkb
        have hq : q 0 = some (k, 0) := hi.le 0 (k, 0) (by rw [hp]; rfl)
        have := hi.sim.obj 0 k 0 _ hq rfl
        rw [ho]
        exact this
      · refine hi.kept k hk (fun b' x h => ?_)
        rw [hp] at h
        simp only at h
        split at h
        · cases h; exact absurd rfl hkb
        · cases h
theorem faults_few (kind code : Nat) (hk : kind < 256) (hc : code < 256) (A : Option Addr) (l : List UInt8) (cap : Nat) (w : World) (h : At w A l) :
    Calls Tryz.prog 3 #[.int .u8 (kind : Int), .int .u8 (code : Int), .slice A l.length cap] w fun r w' => r = .returned (.bool true) ∧ Below w.heap.size w w' := by
  have hn : chosen kind < 256 := by rcases chosen_is kind with e | e | e <;> omega
  rcases Nat.eq_zero_or_pos l.length with h0 | h0
  · have hl : l = [] := List.eq_nil_of_length_eq_zero h0
    exact run_given ⟨l, h.few, giv0 l hl A cap, kind, hk, code, hc, chosen kind, chosen_is kind⟩ rfl hc (fun _ => none) w (.inl rfl) (fun _ => h0)
  · obtain ⟨b, off, e, hb, hr⟩ := h.lie h0
    subst e
    have ho : w.heap[b]? = some (w.heap[b]'hb) := Array.getElem?_eq_getElem hb
    exact run_given ⟨l, h.few, ⟨some ⟨b, off, none⟩, cap, b, w.heap[b]'hb, fun w' hw j x hx => ⟨_, rfl, by
      rw [add_at, cell_same (w := w) (hw.trans ho.symm)]
      exact hr j x hx⟩⟩, kind, hk, code, hc, chosen kind, chosen_is kind⟩ rfl hc (fun k => if k = 0 then some (b, 0) else none) w (.inr ⟨b, rfl, hb, rfl, ho⟩) (fun e => by have := congrFun e 0; cases this)
theorem faults_long (kind code : Int) (A : Option Addr) (n cap : Nat) (w : World) (h : 400 < n) :
    Calls Tryz.prog 3 #[.int .u8 kind, .int .u8 code, .slice A n cap] w fun r w' => r = .returned (.bool true) ∧ Below w.heap.size w w' := by
  have h1 : (400 : Int) < (n : Int) := by omega
  go_enter Tryz.func3, Tryz.ntmps3
  go_wp2_with fail
  refine (awake_any _).mono ?_
  rintro r w' ⟨rfl, hb⟩
  go_wp2_with fail
  go_ret
  exact ⟨rfl, hb⟩
end
end Go.Proofs.YtampcckdbjbllaaGreatDoor
