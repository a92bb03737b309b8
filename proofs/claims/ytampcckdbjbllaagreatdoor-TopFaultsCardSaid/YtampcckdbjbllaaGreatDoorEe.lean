/-
  Regions that draw their order (4): a change; the whole.
  Frames, rounds of ranges over functions, calls: the run as a whole.
  The run on the abstract heap tells what the machine does.
  One step of a frame, and the run.
-/
import Derived.Test.YtampcckdbjbllaaGreatDoorEd
set_option linter.unusedVariables false
set_option linter.unusedSectionVars false
set_option linter.unusedSimpArgs false
set_option linter.unusedVariables false
set_option linter.unusedSectionVars false
set_option linter.unusedSimpArgs false
namespace Go.Proofs.YtampcckdbjbllaaGreatDoor.Ev
noncomputable section
open Go.RowKit
variable [Sym] [OraF] [OraOK]

section
variable {P : Program} {call : ACall} {round : ARound} {ops : Array Oper} {z : List (Oper × Rec1)} {T0 T2 : Array Value} {H0 K : AH} {p0 p : Mp} {w0 w : World} {listed : Array Bool} {a : Act} {i : Nat} {x : Oper × Rec1}

theorem mp_le_eq {p q : Mp} (h : p.le q) {b : Nat} {y : Nat × Nat} (hq : q b = some y) (hp : p b ≠ none) : p b = some y := by
  cases e : p b with
  | none => exact absurd e hp
  | some u => have := h b u e; rw [hq] at this; cases this; rfl

theorem inv_new (nc : NxOK call) (nr : NxOK round) (d : Dr P call round ops z T0 H0 T2 K) (hf : Free p0 H0 K) (inv : Inv P ops z T0 H0 K p0 w0 listed p a w) (hx : z[i]? = some x) (hi : i ∈ Region.ready .any ops listed)
    {id : Nat} {ob ob' : Obj} {v' : Value} (hD : x.2.D = [(id, some ob)]) (hlo : x.2.lo = id) (hhi : x.2.hi = id + 1) (ho : OR P (p.set id (w.heap.size, 0)) 0 ob (some ob')) (hv : VR (p.set id (w.heap.size, 0)) x.2.v v') :
    Inv P ops z T0 H0 K p0 w0 (listed.setIfInBounds i true) (p.set id (w.heap.size, 0)) (a.put x.1.dst v') (w.alloc ob') := by
  obtain ⟨hun, o', ho', hall⟩ := mem_ready.1 hi
  have hfi : fl listed i = false := getD_both hun
  have hlt : i < listed.size := by
    rw [inv.size]; exact (Array.getElem?_eq_some_iff.1 ho').1
  have hfree : p id = none := inv_free nc nr d hf inv hx hfi (by omega) (by omega)
  obtain ⟨l1, l2, l3⟩ := chain_lo nc nr d.chain hx
  have hs : Sim P p (ofRows (CZ z 0 (fl listed) H0.m) id) w := Sim.congr (H := (ofRows (CZ z 0 (fl listed) H0.m) K.nx)) (fun b => by rw [get_ofRows, get_ofRows]) inv.into.sim
  have hin := Into.new hs hfree ho
  have hget : ∀ b, (AH.push (ofRows (CZ z 0 (fl listed) H0.m) id) ob).get b = (ofRows (CZ z 0 (fl (listed.setIfInBounds i true)) H0.m) K.nx).get b := fun b => by
    rw [get_push, get_ofRows, get_ofRows]
    show (if id = b then some ob else look b (CZ z 0 (fl listed) H0.m)) = look b (CZ z 0 (fl (listed.setIfInBounds i true)) H0.m)
    by_cases hb : id = b
    · subst hb
      rw [if_pos rfl]
      obtain ⟨Ti, Hi, K1, e1, e2, e3, e4, _, _⟩ := chain_at nc nr d.chain 0 i x hx
      obtain ⟨_, g2, _, _⟩ := alex1_good nc nr e1
      have h1 : look id (CZ z 0 (fl (listed.setIfInBounds i true)) H0.m) = look id (CZ z 0 (fun k => decide (k < 0 + (i + 1))) H0.m) := by
        refine cz_agree z 0 _ _ rfl fun k y hk hh => ?_
        rw [Nat.zero_add, fl_set hlt]
        by_cases hki : k = i
        · subst hki; simp
        · rw [if_neg hki]
          rcases pair_cases d inv hx hi hk hki with h | h
          · rw [h]
            have : (k < i) = (k < 0 + (i + 1)) := by rw [eq_iff_iff]; omega
            simp only [this]
          · exact (h.ks id (by rw [hD]; simp [hits]) hh).elim
      rw [h1, ← e4, g2, hD]
      simp [look_cons]
    · rw [if_neg hb]
      refine cz_agree z 0 _ _ rfl fun k y hk hh => ?_
      rw [Nat.zero_add, fl_set hlt]
      by_cases hki : k = i
      · subst hki; rw [hx] at hk; cases hk
        rw [hD] at hh
        simp [hits] at hh
        exact absurd hh hb
      · rw [if_neg hki]
  refine ⟨by simp [inv.size], inv_closed inv hi, fun b hb => ?_, ?_, ?_⟩
  · rcases hin.fresh b hb with h | h
    · exact inv_dom inv hlt h
    · refine .inr ⟨i, x, hx, ?_, ?_, ?_⟩
      · rw [fl_set hlt, if_pos rfl]
      · have h1 : id ≤ b := h.1; omega
      · have h2 : b < id + 1 := h.2; omega
  · rw [inv_tz d inv hx hi]
    exact aput_rel (inv.tm.mono hin.le) hv x.1.dst
  · refine ⟨Mp.le_trans inv.into.le hin.le, hin.sim.congr hget, Nat.le_trans inv.into.size hin.size, hin.os.trans inv.into.os, hin.tape.trans inv.into.tape, hin.output.trans inv.into.output, fun r hr hno => ?_, fun b r y e1 h1 hr => ?_, fun b hb => ?_, inv.into.nx⟩
    · refine (hin.kept r (Nat.lt_of_lt_of_le hr inv.into.size) fun b y e1 => ?_).trans (inv.into.kept r hr hno)
      cases hg : AH.get (ofRows (CZ z 0 (fl listed) H0.m) id) b with
      | none => rfl
      | some o1 =>
        rw [get_ofRows] at hg
        obtain ⟨b0, x0, q1, q2⟩ := inv.into.own b r y e1 (by rw [get_ofRows, hg]; nofun) hr
        exact absurd (hno b0 x0 q1) q2
    · obtain ⟨b0, x0, q1, q2⟩ := hin.own b r y e1 (by rw [hget]; exact h1) (Nat.lt_of_lt_of_le hr inv.into.size)
      exact inv.into.own b0 r x0 q1 q2 hr
    · rcases hin.fresh b hb with h | h
      · exact inv.into.fresh b h
      · refine .inr ?_
        have h1 : id ≤ b := h.1
        have h2 : b < id + 1 := h.2
        show H0.nx ≤ b ∧ b < K.nx
        omega

theorem inv_mut (nc : NxOK call) (nr : NxOK round) (d : Dr P call round ops z T0 H0 T2 K) (hf : Free p0 H0 K) (inv : Inv P ops z T0 H0 K p0 w0 listed p a w) (hx : z[i]? = some x) (hi : i ∈ Region.ready .any ops listed) (hmu : x.2.mu = true)
    {Hi K1 : AH} {q : Mp} {w' : World} {v' : Value} (e3 : Hi.m = CZ z 0 (fun k => decide (k < 0 + i)) H0.m) (e4 : K1.m = CZ z 0 (fun k => decide (k < 0 + (i + 1))) H0.m) (hlo : x.2.lo = Hi.nx) (hhi : x.2.hi = K1.nx) (hin : Into P p Hi w q K1 w') (hv : VR q x.2.v v') :
    Inv P ops z T0 H0 K p0 w0 (listed.setIfInBounds i true) q (a.put x.1.dst v') w' := by
  obtain ⟨hun, o', ho', hall⟩ := mem_ready.1 hi
  have hfi : fl listed i = false := getD_both hun
  have hlt : i < listed.size := by
    rw [inv.size]; exact (Array.getElem?_eq_some_iff.1 ho').1
  obtain ⟨l1, l2, l3⟩ := chain_lo nc nr d.chain hx
  -- live in the text's rows: live where those that are done lie
  have liveHi : ∀ b, p b ≠ none → Hi.get b ≠ none → look b (CZ z 0 (fl listed) H0.m) ≠ none := fun b hb hl => by
    have hl' : look b (CZ z 0 (fun k => decide (k < 0 + i)) H0.m) ≠ none := by rw [← e3, AH.look_eq]; exact hl
    rcases inv_sim nc nr d hf inv hx hi hmu hb with h | h
    · exact absurd h hl'
    · rw [← h]; exact hl'
  have cases' : ∀ b, q b ≠ none → look b (CZ z 0 (fl (listed.setIfInBounds i true)) H0.m) = K1.get b ∨ (p b ≠ none ∧ Hi.get b = none ∧ look b (CZ z 0 (fl (listed.setIfInBounds i true)) H0.m) = look b (CZ z 0 (fl listed) H0.m)) := fun b hb => by
    rcases inv_look' d inv hx hi (b := b) with h | ⟨k, y, hy, hki, hh, hap, hne⟩
    · left; rw [h, ← e4, AH.look_eq]
    · right
      have hym : y.2.mu = false := by
        cases hm : y.2.mu with
        | false => rfl
        | true => exact (hap.mu ⟨hmu, hm⟩).elim
      obtain ⟨b1, b2, b3⟩ := new_block nc nr d hy hym hh
      have hp : p b ≠ none := by
        rcases hin.fresh b hb with h | h
        · exact h
        · exact (nx_ranges nc nr d hx hy hki (by omega) (by omega) b1 b2).elim
      have hkg : i < k := by
        rcases Nat.lt_or_gt_of_ne hki with h | h
        · have hfk : fl listed k = false := by
            cases hk : fl listed k with
            | false => rfl
            | true => rw [hk] at hne; simp [h] at hne
          exact absurd (inv_free nc nr d hf inv hy hfk b1 b2) hp
        · exact h
      refine ⟨hp, ?_, ?_⟩
      · rw [← AH.look_eq, e3]
        exact look_later nc nr d hx b3 fun j u hu hj => fresh_not d hy hu (by omega) hym hh
      · refine cz_agree z 0 _ _ rfl fun j u hu hj => ?_
        rw [Nat.zero_add, fl_set hlt]
        by_cases hji : j = i
        · subst hji; rw [hx] at hu; cases hu
          exact (hap.ks b hj hh).elim
        · rw [if_neg hji]
  have hsim : Sim P q (ofRows (CZ z 0 (fl (listed.setIfInBounds i true)) H0.m) K.nx) w' := by
    have mixed : ∀ b1 b2 r y1 y2, q b1 = some (r, y1) → q b2 = some (r, y2) → look b1 (CZ z 0 (fl (listed.setIfInBounds i true)) H0.m) ≠ none → p b1 ≠ none → Hi.get b1 = none → look b1 (CZ z 0 (fl (listed.setIfInBounds i true)) H0.m) = look b1 (CZ z 0 (fl listed) H0.m) → K1.get b2 ≠ none → False := fun b1 b2 r y1 y2 e1 e2 h1 hp1 hh1 hq1 h2 => by
      have ep := mp_le_eq hin.le e1 hp1
      have hr := inv.into.sim.lt b1 r y1 ep
      obtain ⟨b0, x0, q1, q2⟩ := hin.own b2 r y2 e2 h2 hr
      have := inv.into.sim.inj b1 b0 r y1 x0 ep q1 (by rw [get_ofRows, ← hq1]; exact h1) (by rw [get_ofRows]; exact liveHi b0 (by rw [q1]; nofun) q2)
      subst this
      exact q2 hh1
    refine ⟨fun b1 b2 r y1 y2 e1 e2 h1 h2 => ?_, hin.sim.lt, fun b r y o e1 h1 => ?_⟩
    · have h1 : look b1 (CZ z 0 (fl (listed.setIfInBounds i true)) H0.m) ≠ none := by rw [← get_ofRows _ K.nx]; exact h1
      have h2 : look b2 (CZ z 0 (fl (listed.setIfInBounds i true)) H0.m) ≠ none := by rw [← get_ofRows _ K.nx]; exact h2
      rcases cases' b1 (by rw [e1]; nofun) with c1 | ⟨c1, c1', c1''⟩ <;> rcases cases' b2 (by rw [e2]; nofun) with c2 | ⟨c2, c2', c2''⟩
      · exact hin.sim.inj b1 b2 r y1 y2 e1 e2 (by rw [← c1]; exact h1) (by rw [← c2]; exact h2)
      · exact (mixed b2 b1 r y2 y1 e2 e1 h2 c2 c2' c2'' (by rw [← c1]; exact h1)).elim
      · exact (mixed b1 b2 r y1 y2 e1 e2 h1 c1 c1' c1'' (by rw [← c2]; exact h2)).elim
      · exact inv.into.sim.inj b1 b2 r y1 y2 (mp_le_eq hin.le e1 c1) (mp_le_eq hin.le e2 c2) (by rw [get_ofRows, ← c1'']; exact h1) (by rw [get_ofRows, ← c2'']; exact h2)
    · have h1 : look b (CZ z 0 (fl (listed.setIfInBounds i true)) H0.m) = some o := by rw [← get_ofRows _ K.nx]; exact h1
      rcases cases' b (by rw [e1]; nofun) with c1 | ⟨c1, c1', c1''⟩
      · exact hin.sim.obj b r y o e1 (by rw [← c1]; exact h1)
      · have ep := mp_le_eq hin.le e1 c1
        have hr := inv.into.sim.lt b r y ep
        have hl : look b (CZ z 0 (fl listed) H0.m) = some o := by rw [← c1'']; exact h1
        rw [hin.kept r hr fun b' x' e' => ?_]
        · exact (inv.into.sim.obj b r y o ep (by rw [get_ofRows]; exact hl)).mono hin.le
        · cases hg : Hi.get b' with
          | none => rfl
          | some o1 =>
            have := inv.into.sim.inj b b' r y x' ep e' (by rw [get_ofRows, hl]; nofun) (by rw [get_ofRows]; exact liveHi b' (by rw [e']; nofun) (by rw [hg]; nofun))
            subst this
            rw [c1'] at hg; cases hg
  refine ⟨by simp [inv.size], inv_closed inv hi, fun b hb => ?_, ?_, ?_⟩
  · rcases hin.fresh b hb with h | h
    · exact inv_dom inv hlt h
    · refine .inr ⟨i, x, hx, ?_, by omega, by omega⟩
      rw [fl_set hlt, if_pos rfl]
  · rw [inv_tz d inv hx hi]
    exact aput_rel (inv.tm.mono hin.le) hv x.1.dst
  · refine ⟨Mp.le_trans inv.into.le hin.le, hsim, Nat.le_trans inv.into.size hin.size, hin.os.trans inv.into.os, hin.tape.trans inv.into.tape, hin.output.trans inv.into.output, fun r hr hno => ?_, fun b r y e1 h1 hr => ?_, fun b hb => ?_, inv.into.nx⟩
    · refine (hin.kept r (Nat.lt_of_lt_of_le hr inv.into.size) fun b y e1 => ?_).trans (inv.into.kept r hr hno)
      cases hg : Hi.get b with
      | none => rfl
      | some o1 =>
        obtain ⟨b0, x0, q1, q2⟩ := inv.into.own b r y e1 (by rw [get_ofRows]; exact liveHi b (by rw [e1]; nofun) (by rw [hg]; nofun)) hr
        exact absurd (hno b0 x0 q1) q2
    · have h1 : look b (CZ z 0 (fl (listed.setIfInBounds i true)) H0.m) ≠ none := by rw [← get_ofRows _ K.nx]; exact h1
      rcases cases' b (by rw [e1]; nofun) with c1 | ⟨c1, c1', c1''⟩
      · obtain ⟨b0, x0, q1, q2⟩ := hin.own b r y e1 (by rw [← c1]; exact h1) (Nat.lt_of_lt_of_le hr inv.into.size)
        exact inv.into.own b0 r x0 q1 (by rw [get_ofRows]; exact liveHi b0 (by rw [q1]; nofun) q2) hr
      · exact inv.into.own b r y (mp_le_eq hin.le e1 c1) (by rw [get_ofRows, ← c1'']; exact h1) hr
    · rcases hin.fresh b hb with h | h
      · exact inv.into.fresh b h
      · exact .inr ⟨by omega, by show b < K.nx; omega⟩

/-- One step of whatever order. -/
theorem inv_step (nc : NxOK call) (nr : NxOK round) (hc : CallOK P call) (hr : RoundOK P round) (d : Dr P call round ops z T0 H0 T2 K) (hf : Free p0 H0 K) (inv : Inv P ops z T0 H0 K p0 w0 listed p a w) (hi : i ∈ Region.ready .any ops listed)
    (b : Frame) (k : List Item) (cs : List Frame) (rest : List Nat) :
    ∃ q a1 w1, Inv P ops z T0 H0 K p0 w0 (listed.setIfInBounds i true) q a1 w1 ∧ a1.defers = a.defers ∧ Steps P (lone (b.atR a (.inRegion ops (i :: rest) :: k)) cs w) (lone (b.atR a1 (.inRegion ops rest :: k)) cs w1) := by
  obtain ⟨hun, o, ho, hall⟩ := mem_ready.1 hi
  have hfi : fl listed i = false := getD_both hun
  have hin : i < z.length := by rw [d.len]; exact (Array.getElem?_eq_some_iff.1 ho).1
  obtain ⟨x, hx⟩ : ∃ x, z[i]? = some x := ⟨z[i], List.getElem?_eq_getElem hin⟩
  have hox : x.1 = o := by have := d.at_ i x hx; rw [ho] at this; cases this; rfl
  obtain ⟨Ti, Hi, K1, e1, e2, e3, e4, e5, e6⟩ := chain_at nc nr d.chain 0 i x hx
  obtain ⟨g1, g2, g3, g4⟩ := alex1_good nc nr e1
  have hlook : ∀ t ∈ x.1.looksAt ops, (TZ z 0 (fl listed) T0)[t]? = Ti[t]? := fun t ht => by rw [e2]; exact inv_looks d inv hx hi ht
  have hops := aev_looks hlook
  have hwant := wanted_looks hlook
  have hy := yielded_rel inv.tm ops
  have hcl : acl P (TZ z 0 (fl listed) T0) x.1 = acl P Ti x.1 := acl_congr hops
  obtain ⟨xo, xr⟩ := x
  simp only at hox e1 g2 g3 g4 hlook hops hwant hcl
  subst hox
  unfold alex1 at e1
  split at e1
  · rename_i hw
    have hw' : Region.wanted xo (yielded ops a.tmps) = true := by rw [hy, hwant]; exact hw
    split at e1
    · rename_i v hv
      cases e1
      rw [← hcl] at hv
      obtain ⟨v', h1, h2⟩ := acl_ok (p := p) inv.tm hv
      exact ⟨p, _, w, inv_same d inv hx hi rfl h1, put_defers _ _, .one (step_value ho hw' (acl_nodefer hv) (h2 w))⟩
    · rename_i bb f hv
      split at e1
      · rename_i ob hob
        split at e1
        · rename_i v hfv
          cases e1
          rw [← hcl] at hv
          obtain ⟨r, s, h1, h2⟩ := acl_ok (p := p) inv.tm hv
          have hget : look bb (CZ z 0 (fl listed) H0.m) = some ob := by
            rcases inv_look d inv hx hi (b := bb) with h | ⟨k', y, hy', hki, hh, hap, hne⟩
            · rw [h, ← e3, AH.look_eq]; exact hob
            · have := hap.rb bb rfl
              rw [hh] at this; cases this
          obtain ⟨v', h3, h4⟩ := h2 w ob v (inv.into.sim.obj bb r s ob h1 (by rw [get_ofRows]; exact hget)) hfv
          exact ⟨p, _, w, inv_same d inv hx hi rfl h3, put_defers _ _, .one (step_value ho hw' (acl_nodefer hv) h4)⟩
        · cases e1
      · cases e1
    · rename_i ob f hv
      cases e1
      rw [← hcl] at hv
      obtain ⟨ob', f', h1, h2⟩ := acl_ok (p := p) inv.tm hv
      have hfree : p Hi.nx = none := inv_free nc nr d hf inv hx hfi (Nat.le_refl _) (Nat.lt_succ_self _)
      obtain ⟨h3, h4⟩ := h2 Hi.nx w.heap.size hfree
      exact ⟨_, _, _, inv_new nc nr d hf inv hx hi rfl rfl rfl h3 h4, put_defers _ _, .one (step_value ho hw' (acl_nodefer hv) (h1 w))⟩
    · rename_i hv
      split at e1
      · rename_i v K2 hm
        cases e1
        rw [← amut_congr hops] at hm
        have hsim : Sim P p Hi w := by
          have hcmp : ∀ bb, p bb ≠ none → Hi.get bb = none ∨ Hi.get bb = look bb (CZ z 0 (fl listed) H0.m) := fun bb hb => by
            rcases inv_sim nc nr d hf inv hx hi rfl hb with h | h
            · left; rw [← AH.look_eq, e3]; exact h
            · right; rw [← AH.look_eq, e3]; exact h
          refine ⟨fun b1 b2 r y1 y2 q1 q2 h1 h2 => ?_, inv.into.sim.lt, fun b1 r y o q1 h1 => ?_⟩
          · refine inv.into.sim.inj b1 b2 r y1 y2 q1 q2 ?_ ?_
            · rcases hcmp b1 (by rw [q1]; nofun) with h | h
              · exact absurd h h1
              · rw [get_ofRows, ← h]; exact h1
            · rcases hcmp b2 (by rw [q2]; nofun) with h | h
              · exact absurd h h2
              · rw [get_ofRows, ← h]; exact h2
          · rcases hcmp b1 (by rw [q1]; nofun) with h | h
            · rw [h] at h1; cases h1
            · exact inv.into.sim.obj b1 r y o q1 (by rw [get_ofRows, ← h]; exact h1)
        have hfr : Free p Hi K1 := fun b1 h1 h2 => inv_free nc nr d hf inv hx hfi h1 h2
        obtain ⟨q, v', w', h1, h2, h3⟩ := amut_ok hc hr inv.tm hsim hfr hm b k cs ops i rest ho hw'
        exact ⟨q, _, w', inv_mut nc nr d hf inv hx hi rfl e3 e4 rfl rfl h2 h1, put_defers _ _, h3⟩
      · cases e1
    · cases e1
  · rename_i hw
    cases e1
    have hw' : ¬ Region.wanted xo (yielded ops a.tmps) = true := by rw [hy, hwant]; exact hw
    refine ⟨p, _, w, inv_same d inv hx hi rfl (VR.undef p), put_defers _ _, .one ?_⟩
    have := stepR_op_skip (P := P) (b := b) (a := a) (k := k) (cs := cs) (w := w) (ops := ops) (i := i) (rest := rest) (by simp [ho]; simpa using hw')
    simpa [ho] using this

/-- All of them. -/
theorem inv_all (nc : NxOK call) (nr : NxOK round) (hc : CallOK P call) (hr : RoundOK P round) (d : Dr P call round ops z T0 H0 T2 K) (hf : Free p0 H0 K) {b : Frame} {k : List Item} {cs : List Frame} : ∀ (fuel t : Nat) (listed : Array Bool) (p : Mp) (a : Act) (w : World), listed.count false = fuel → Inv P ops z T0 H0 K p0 w0 listed p a w →
    ∃ q a' w' listed', Inv P ops z T0 H0 K p0 w0 listed' q a' w' ∧ (∀ j, j < ops.size → fl listed' j = true) ∧ a'.defers = a.defers ∧ Steps P (lone (b.atR a (.inRegion ops (Region.linearise.go .any ops fuel t listed []) :: k)) cs w) (lone (b.atR a' k) cs w')
  | 0, t, listed, p, a, w, hcount, inv => by
    refine ⟨p, a, w, listed, inv, fun j hj => ?_, rfl, .one ?_⟩
    · have hj' : j < listed.size := by rw [inv.size]; exact hj
      unfold fl
      have hne : listed[j] ≠ false := fun e => by
        have hm : false ∈ listed := by rw [← e]; exact Array.getElem_mem hj'
        exact absurd hm (Array.count_eq_zero.1 hcount)
      simp [hj']
      cases h : listed[j] with
      | true => rfl
      | false => exact absurd h hne
    · simp only [Region.linearise.go, List.reverse_nil]
      exact stepR_region_end
  | fuel + 1, t, listed, p, a, w, hcount, inv => by
    have hne : Region.ready .any ops listed ≠ [] := by
      -- the first that is not done is ready
      have hex : ∃ j, j < ops.size ∧ fl listed j = false := by
        have hm : false ∈ listed := Array.count_pos_iff.1 (by omega)
        obtain ⟨j, hj, e⟩ := Array.mem_iff_getElem.1 hm
        exact ⟨j, by rw [← inv.size]; exact hj, by unfold fl; simp [hj, e]⟩
      obtain ⟨j, hj, hjf⟩ := hex
      have key : ∀ n j, j ≤ n → j < ops.size → fl listed j = false → ∃ i, i ∈ Region.ready .any ops listed := by
        intro n
        induction n with
        | zero =>
          intro j hn hj hjf
          have : j = 0 := by omega
          subst this
          obtain ⟨o, ho⟩ : ∃ o, ops[0]? = some o := ⟨ops[0], Array.getElem?_eq_getElem hj⟩
          refine ⟨0, mem_ready.2 ⟨getD_in (by rw [inv.size]; exact hj) hjf, o, ho, fun e he hb => ?_⟩⟩
          have := List.all_eq_true.1 (d.edges 0 o ho) e (by simpa using he)
          simp [hb] at this
        | succ n ih =>
          intro j hn hj hjf
          obtain ⟨o, ho⟩ : ∃ o, ops[j]? = some o := ⟨ops[j], Array.getElem?_eq_getElem hj⟩
          by_cases hall : ∀ e ∈ o.after, Region.binds .any e = true → listed.getD e.on false = true
          · exact ⟨j, mem_ready.2 ⟨getD_in (by rw [inv.size]; exact hj) hjf, o, ho, hall⟩⟩
          · have hex : ∃ e ∈ o.after, Region.binds .any e = true ∧ listed.getD e.on false = false := by
              refine Classical.byContradiction fun hno => hall fun e he hb => ?_
              cases hg : listed.getD e.on false with
              | true => rfl
              | false => exact (hno ⟨e, he, hb, hg⟩).elim
            obtain ⟨e, he, hb, hg⟩ := hex
            have hlt : e.on < j := by
              have := List.all_eq_true.1 (d.edges j o ho) e (by simpa using he)
              simpa [hb] using this
            exact ih e.on (by omega) (by omega) hg
      obtain ⟨i, hi⟩ := key j j (Nat.le_refl _) hj hjf
      intro h; rw [h] at hi; cases hi
    have hpos : 0 < (Region.ready .any ops listed).length := List.length_pos_iff.2 hne
    obtain ⟨i, hi⟩ : ∃ i, (Region.ready .any ops listed)[t % (Region.ready .any ops listed).length]? = some i := ⟨_, List.getElem?_eq_getElem (Nat.mod_lt _ hpos)⟩
    have him := List.mem_of_getElem? hi
    have hsched : Region.linearise.go .any ops (fuel + 1) t listed [] = i :: Region.linearise.go .any ops fuel (t / (Region.ready .any ops listed).length) (listed.setIfInBounds i true) [] := by
      simp only [Region.linearise.go]
      change (match (Region.ready .any ops listed)[t % (Region.ready .any ops listed).length]? with
        | some i => Region.linearise.go .any ops fuel (t / (Region.ready .any ops listed).length) (listed.setIfInBounds i true) [i]
        | none => [].reverse) = _
      rw [hi]
      simp only
      rw [linearise_go_acc]
      rfl
    rw [hsched]
    obtain ⟨q, a1, w1, inv1, d1, s1⟩ := inv_step nc nr hc hr d hf inv him b k cs (Region.linearise.go .any ops fuel (t / (Region.ready .any ops listed).length) (listed.setIfInBounds i true) [])
    have hcount' : (listed.setIfInBounds i true).count false = fuel := by
      obtain ⟨hun, o', ho', _⟩ := mem_ready.1 him
      have hlt : i < listed.size := by
        rw [inv.size]; exact (Array.getElem?_eq_some_iff.1 ho').1
      have hv : listed[i] = false := by simpa [hlt] using hun
      have : listed.setIfInBounds i true = listed.set i true hlt := by simp [Array.setIfInBounds, hlt]
      rw [this, Array.count_set hlt, hv, hcount]
      simp
    obtain ⟨q2, a2, w2, l2, inv2, hall2, d2, s2⟩ := inv_all nc nr hc hr d hf fuel _ _ q a1 w1 hcount' inv1
    exact ⟨q2, a2, w2, l2, inv2, hall2, d2.trans d1, s1.trans s2⟩

theorem adraw_spec (nc : NxOK call) (nr : NxOK round) {T T2 : Array Value} {H K : AH} (e : adraw P call round ops T H = some (T2, K)) : ∃ z, Dr P call round ops z T H T2 K := by
  unfold adraw at e
  split at e
  · rename_i rs T2' K' h1
    split at e
    · rename_i hok
      cases e
      obtain ⟨h2, h3⟩ := alex_chain _ h1
      have hz : ∀ (i : Nat) (x : Oper × Rec1), (ops.toList.zip rs)[i]? = some x → (x, i) ∈ (ops.toList.zip rs).zipIdx := fun i x hx => List.mem_zipIdx_iff_getElem?.2 hx
      have hall := List.all_eq_true.1 hok
      have hx1 : ∀ (i : Nat) (x : Oper × Rec1), (ops.toList.zip rs)[i]? = some x → ops[i]? = some x.1 := fun i x hx => by
        obtain ⟨a1, a2⟩ := List.getElem?_zip_eq_some.1 hx
        simpa using a1
      refine ⟨_, h3, by simp [h2], hx1, fun i o ho => ?_, fun i x hx => ?_, fun i j x y hx hy => ?_, fun i j x y hx hy => ?_⟩
      · have hi := (Array.getElem?_eq_some_iff.1 ho).1
        have hi' : i < (ops.toList.zip rs).length := by simp [h2]; exact hi
        have hx := List.getElem?_eq_getElem hi'
        have h4 := hall _ (hz i _ hx)
        simp only [Bool.and_eq_true] at h4
        have := hx1 i _ hx
        rw [ho] at this
        cases this
        exact h4.1.1
      · have h4 := hall _ (hz i x hx)
        simp only [Bool.and_eq_true] at h4
        exact h4.1.2
      · have h4 := hall _ (hz i x hx)
        simp only [Bool.and_eq_true] at h4
        have := List.all_eq_true.1 h4.2 _ (hz j y hy)
        simp only [Bool.and_eq_true] at this
        exact this.1
      · have h4 := hall _ (hz i x hx)
        simp only [Bool.and_eq_true] at h4
        have := List.all_eq_true.1 h4.2 _ (hz j y hy)
        simp only [Bool.and_eq_true] at this
        exact this.2
    · cases e
  · cases e
theorem adraw_good (hc : NxOK call) (hr : NxOK round) {T T2 : Array Value} {H K : AH} (e : adraw P call round ops T H = some (T2, K)) : Good H K := by
  obtain ⟨z, d⟩ := adraw_spec hc hr e
  exact (chain_end hc hr d.chain 0).2.2
theorem adraw_ok (nc : NxOK call) (nr : NxOK round) (hc : CallOK P call) (hr : RoundOK P round) {b : Frame} {k : List Item} {cs : List Frame} {T T2 : Array Value} {H K : AH} {p : Mp} {a : Act} {w : World} (t : Nat)
    (e : adraw P call round ops T H = some (T2, K)) (h : AR p T a.tmps) (hs : Sim P p H w) (hf : Free p H K) :
    ∃ q a' w', AR q T2 a'.tmps ∧ a'.defers = a.defers ∧ Into P p H w q K w' ∧ Steps P (lone (b.atR a (.inRegion ops (Region.linearise .any ops t) :: k)) cs w) (lone (b.atR a' k) cs w') := by
  obtain ⟨z, d⟩ := adraw_spec nc nr e
  obtain ⟨f1, f2, f3⟩ := chain_end nc nr d.chain 0
  have none0 : ∀ j, fl (Array.replicate ops.size false) j = false := fun j => getD_replicate_false _ _
  have inv0 : Inv P ops z T H K p w (Array.replicate ops.size false) p a w := by
    refine ⟨by simp, fun i o _ hf1 => (by rw [none0] at hf1; cases hf1), fun b hb => .inl hb, ?_, ?_⟩
    · rw [tz_false z 0 _ fun j _ => none0 _]
      exact h
    · have h0 := Into.refl hs
      have hcz : CZ z 0 (fl (Array.replicate ops.size false)) H.m = H.m := cz_false z 0 _ fun j _ => none0 _
      refine ⟨h0.le, ?_, h0.size, h0.os, h0.tape, h0.output, h0.kept, fun b r y e1 h1 hr => ⟨b, y, e1, ?_⟩, fun b hb => .inl hb, f3.nx⟩
      · exact hs.congr fun b => by rw [get_ofRows, hcz, AH.look_eq]
      · rw [get_ofRows, hcz, AH.look_eq] at h1; exact h1
  obtain ⟨q, a', w', l', inv', hall, hd, hst⟩ := inv_all nc nr hc hr d hf (b := b) (k := k) (cs := cs) ops.size t _ p a w (by simp) inv0
  have agree : ∀ j, j < z.length → fl l' j = true := fun j hj => hall j (by rw [← d.len]; exact hj)
  refine ⟨q, a', w', ?_, hd, ?_, hst⟩
  · have : TZ z 0 (fl l') T = T2 := by
      rw [f1]
      refine Array.ext_getElem? fun u => tz_agree z 0 _ _ rfl rfl fun j y hj _ => ?_
      rw [Nat.zero_add]
      exact agree j (List.getElem?_eq_some_iff.1 hj).1
    rw [← this]
    exact inv'.tm
  · refine Into.congr (K := (ofRows (CZ z 0 (fl l') H.m) K.nx)) (fun b => ?_) rfl inv'.into
    rw [get_ofRows, ← AH.look_eq, f2]
    refine cz_agree z 0 _ _ rfl fun j y hj _ => ?_
    rw [Nat.zero_add]
    exact agree j (List.getElem?_eq_some_iff.1 hj).1
end
end
end Go.Proofs.YtampcckdbjbllaaGreatDoor.Ev
set_option linter.unusedVariables false
set_option linter.unusedSectionVars false
set_option linter.unusedSimpArgs false
namespace Go.Proofs.YtampcckdbjbllaaGreatDoor.Ev
noncomputable section
open Go.RowKit
variable [Sym] [OraF]

structure FrS where
  fn : FuncId
  tmps : Array Value
  todo : List Item
  marks : List Nat
  round : Option Nat

def arv (P : Program) (T : Array Value) (H : AH) : ResultVar → Option Value
  | .tmp t => some (lget T.toList t)
  | .cell a t => match lget T.toList a with
    | .pointer (some ⟨b, off, none⟩) => match aggD P t with
      | some ag => match P.info? t with
        | some i => match H.get b with
          | some ob => loadF ag i.size off ob
          | none => none
        | none => none
      | none => none
    | _ => none
def arvs (P : Program) (T : Array Value) (H : AH) : List ResultVar → Option (List Value)
  | [] => some []
  | r :: rs => match arv P T H r with
    | some v => match arvs P T H rs with
      | some vs => some (v :: vs)
      | none => none
    | none => none
def tup : List Value → Value
  | [v] => v
  | vs => .tuple vs.toArray
/-- A number brought to its plain form ahead of what is asked with it (the kernel remembers what it looked up). -/
def frc {α : Sort _} (n : Nat) (k : Nat → α) : α := Nat.rec (motive := fun _ => α) (k 0) (fun m _ => k (Nat.succ m)) n
theorem frc_eq {α : Sort _} (n : Nat) (k : Nat → α) : frc n k = k n := by cases n <;> rfl
def funcAt (P : Program) (fn : Nat) : Option Func := frc fn fun n => P.funcs[n]?
theorem funcAt_eq (P : Program) (fn : Nat) : funcAt P fn = P.funcs[fn]? := frc_eq _ _
def ffin (P : Program) (fn : FuncId) (T : Array Value) : List Nat → AH → Option (Value × AH)
  | [], H => match funcAt P fn with
    | some f => match arvs P T H f.results.toList with
      | some vs => some (tup vs, H)
      | none => none
    | none => none
  | m :: ms, H => match H.get m with
    | some (.deferred (some [])) => ffin P fn T ms (H.put m (some (.deferred none)))
    | _ => none
def fleave (P : Program) (F : FrS) (H : AH) (jump : Option Code) : Option (Value × AH) :=
  match F.round with
  | none => match jump with
    | none => ffin P F.fn F.tmps F.marks H
    | some .ret => ffin P F.fn F.tmps F.marks H
    | _ => none
  | some l => match H.get l with
    | some (.loop L) => some (.bool jump.isNone, H.put l (some (.loop { L with state := if jump.isNone then .ready else .done, pending := jump })))
    | _ => none
/-- Arguments and room for the locals. -/
def undefs (n : Nat) : List Value := Nat.rec (motive := fun _ => List Value) [] (fun _ ih => undef :: ih) n
def padL (l : List Value) (r : List Value) : List Value := List.rec (motive := fun _ => List Value) r (fun v _ ih => v :: ih) l
def padded (args : Array Value) (n : Nat) : Array Value := ⟨padL args.toList (undefs (n - args.toList.length))⟩
theorem undefs_eq (n : Nat) : undefs n = List.replicate n undef := by
  induction n with
  | zero => rfl
  | succ n ih =>
    have : undefs (n + 1) = undef :: undefs n := rfl
    rw [this, ih]; rfl
theorem padL_eq (l r : List Value) : padL l r = l ++ r := by
  induction l with
  | nil => rfl
  | cons v l ih =>
    have : padL (v :: l) r = v :: padL l r := rfl
    rw [this, ih]; rfl
theorem padded_eq (args : Array Value) (n : Nat) : padded args n = args ++ Array.replicate (n - args.size) undef := by
  apply Array.ext'
  simp [padded, padL_eq, undefs_eq]
def enterFS (P : Program) (f : FuncId) (args : Array Value) : Option FrS :=
  match P.funcs[f]? with
  | some fn => match fn.body with
    | some c => some { fn := f, tmps := padded args fn.ntmps, todo := [.code c], marks := [], round := none }
    | none => none
  | none => none
def callOf (P : Program) (rec : FrS → AH → Option (Value × AH)) : ACall := fun f args H =>
  match OraF.call f args H with
  | some r => some r
  | none => match enterFS P f args with
    | some F => rec F H
    | none => none
/-- What is asked of calls that are known. -/
class HookGood : Prop where
  good : NxOK OraF.call
variable [HookGood]
def roundOf (rec : FrS → AH → Option (Value × AH)) : ARound := fun l args H =>
  match H.get l with
  | some (.loop L) => if args.size = L.params.size then
      rec { fn := L.fn, tmps := (L.params.zip args).foldl (fun tmps (x : Tmp × Value) => tmps.setIfInBounds x.1 x.2) L.tmps, todo := [.code L.assign, .beginRound, .code L.body], marks := [], round := some l } H
    else none
  | _ => none
/-- The record of a range over a function is laid. -/
def aenter (F : FrS) (params : Array Tmp) (assign body : Code) (H : AH) : Option (Nat × List Nat × AH) :=
  match F.round with
  | none => some (H.nx + 1, [H.nx], (H.push (.deferred (some []))).push (.loop { state := .ready, pending := none, fn := F.fn, tmps := F.tmps, params, assign, body, defers := H.nx }))
  | some l0 => match H.get l0 with
    | some (.loop L0) => some (H.nx, [], H.push (.loop { state := .ready, pending := none, fn := F.fn, tmps := F.tmps, params, assign, body, defers := L0.defers }))
    | _ => none
def aend (l : Nat) (H : AH) : Option (Option Code × AH) :=
  match H.get l with
  | some (.loop L) => match L.state with
    | .busy => none
    | _ => some (L.pending, H.put l (some (.loop { L with state := .exhausted })))
  | _ => none
def abegin (F : FrS) (H : AH) : Option AH :=
  match F.round with
  | none => none
  | some l => match H.get l with
    | some (.loop L) => match L.state with
      | .ready => some (H.put l (some (.loop { L with state := .busy })))
      | _ => none
    | _ => none

def fstep (P : Program) (rec : FrS → AH → Option (Value × AH)) (F : FrS) (H : AH) : Option (Value × AH) :=
  match F.todo with
  | [] => fleave P F H none
  | .inBlock _ :: k => rec { F with todo := k } H
  | .inScope _ :: k => rec { F with todo := k } H
  | .inLoop body :: k => rec { F with todo := .code body :: .inLoop body :: k } H
  | .beginRound :: k => match abegin F H with
    | some K => rec { F with todo := k } K
    | none => none
  | .code c :: k => match c with
    | .skip => rec { F with todo := k } H
    | .label _ => rec { F with todo := k } H
    | .ret => fleave P F H (some .ret)
    | .seq x y => rec { F with todo := .code x :: .code y :: k } H
    | .cond c x y => if okO c then (match aev F.tmps c with
      | .bool t => rec { F with todo := .code (if t then x else y) :: k } H
      | _ => none) else none
    | .block id body => rec { F with todo := .code body :: .inBlock id :: k } H
    | .loop body => rec { F with todo := .code body :: .inLoop body :: k } H
    | .scope body => rec { F with todo := .code body :: .inScope body :: k } H
    | .exit id => match exitTo id k with
      | some k' => rec { F with todo := k' } H
      | none => fleave P F H (some (.exit id))
    | .goto l => match gotoIn l k with
      | some k' => rec { F with todo := k' } H
      | none => fleave P F H (some (.goto l))
    | .region _ ops draw => match (if draw then adraw P (callOf P rec) (roundOf rec) ops F.tmps H else aplain P (callOf P rec) (roundOf rec) ops ops.toList F.tmps H) with
      | some (T2, K) => rec { F with tmps := T2, todo := k } K
      | none => none
    | .rangeFunc f params assign body => match aenter F params assign body H with
      | some (l, ms, H1) => if okO f then (match aev F.tmps f with
        | .func (.func g) first captured => match P.funcs[g]? with
          | some fn => if fn.name == "runtime.NumGoroutine" then none else if fn.body.isNone then none else
            match callOf P rec g (first ++ #[.func (.yield l) #[] #[]] ++ captured) H1 with
            | some (_, H2) => match aend l H2 with
              | some (jump, H3) => rec { F with todo := (jump.map Item.code).toList ++ k, marks := ms ++ F.marks } H3
              | none => none
            | none => none
          | none => none
        | _ => none) else none
      | none => none
    | _ => none
  | _ => none

def frun (P : Program) : Nat → FrS → AH → Option (Value × AH)
  | 0 => fun _ _ => none
  | n + 1 => fstep P (frun P n)

variable [OraOK]
/-! Heaps grow. -/
section
variable {P : Program}
theorem ffin_good {fn : FuncId} {T : Array Value} : ∀ (ms : List Nat) {H K : AH} {v : Value}, ffin P fn T ms H = some (v, K) → Good H K
  | [], H, K, v, e => by
    unfold ffin at e
    repeat' split at e
    all_goals first | (cases e; done) | (cases e; exact Good.refl _)
  | m :: ms, H, K, v, e => by
    unfold ffin at e
    split at e
    · rename_i h
      exact (Good.put (by rw [h]; nofun)).trans (ffin_good ms e)
    · cases e
theorem fleave_good {F : FrS} {H K : AH} {j : Option Code} {v : Value} (e : fleave P F H j = some (v, K)) : Good H K := by
  unfold fleave at e
  repeat' split at e
  all_goals first | (cases e; done) | exact ffin_good _ e | (cases e; exact Good.put (by simp [*]))
theorem aenter_good {F : FrS} {ps : Array Tmp} {x y : Code} {H K : AH} {l : Nat} {ms : List Nat} (e : aenter F ps x y H = some (l, ms, K)) : Good H K := by
  unfold aenter at e
  repeat' split at e
  all_goals first | (cases e; done) | (cases e; exact Good.push.trans Good.push) | (cases e; exact Good.push)
theorem aend_good {l : Nat} {H K : AH} {j : Option Code} (e : aend l H = some (j, K)) : Good H K := by
  unfold aend at e
  repeat' split at e
  all_goals first | (cases e; done) | (cases e; exact Good.put (by simp [*]))
theorem abegin_good {F : FrS} {H K : AH} (e : abegin F H = some K) : Good H K := by
  unfold abegin at e
  repeat' split at e
  all_goals first | (cases e; done) | (cases e; exact Good.put (by simp [*]))

def RecGood (rec : FrS → AH → Option (Value × AH)) : Prop := ∀ F H v K, rec F H = some (v, K) → Good H K
theorem callOf_good {rec : FrS → AH → Option (Value × AH)} (h : RecGood rec) : NxOK (callOf P rec) := fun f args H v K e => by
  unfold callOf at e
  split at e
  · rename_i r hr; cases e; exact HookGood.good _ _ _ _ _ hr
  · split at e
    · exact h _ _ _ _ e
    · cases e
theorem roundOf_good {rec : FrS → AH → Option (Value × AH)} (h : RecGood rec) : NxOK (roundOf rec) := fun f args H v K e => by
  unfold roundOf at e
  repeat' split at e
  all_goals first | (cases e; done) | exact h _ _ _ _ e
theorem fstep_good {rec : FrS → AH → Option (Value × AH)} (h : RecGood rec) : RecGood (fstep P rec) := by
  intro F H v K e
  have hc := callOf_good (P := P) h
  have hr := roundOf_good h
  unfold fstep at e
  split at e
  · exact fleave_good e
  · exact h _ _ _ _ e
  · exact h _ _ _ _ e
  · exact h _ _ _ _ e
  · split at e
    · rename_i h1; exact (abegin_good h1).trans (h _ _ _ _ e)
    · cases e
  · split at e
    · exact h _ _ _ _ e
    · exact h _ _ _ _ e
    · exact fleave_good e
    · exact h _ _ _ _ e
    · split at e
      · split at e
        · exact h _ _ _ _ e
        · cases e
      · cases e
    · exact h _ _ _ _ e
    · exact h _ _ _ _ e
    · exact h _ _ _ _ e
    · split at e
      · exact h _ _ _ _ e
      · exact fleave_good e
    · split at e
      · exact h _ _ _ _ e
      · exact fleave_good e
    · split at e
      · rename_i h1
        refine Good.trans ?_ (h _ _ _ _ e)
        split at h1
        · exact adraw_good hc hr h1
        · exact aplain_good hc hr _ _ _ _ _ h1
      · cases e
    · split at e
      · rename_i h1
        split at e
        · split at e
          · split at e
            · split at e
              · cases e
              · split at e
                · cases e
                · split at e
                  · rename_i h2
                    split at e
                    · rename_i h3
                      exact (((aenter_good h1).trans (hc _ _ _ _ _ h2)).trans (aend_good h3)).trans (h _ _ _ _ e)
                    · cases e
                  · cases e
            · cases e
          · cases e
        · cases e
      · cases e
    · cases e
  · cases e
theorem frun_good : ∀ n, RecGood (frun P n)
  | 0 => fun _ _ _ _ e => by cases e
  | n + 1 => fstep_good (frun_good n)
end
end
end Go.Proofs.YtampcckdbjbllaaGreatDoor.Ev
set_option linter.unusedVariables false
set_option linter.unusedSectionVars false
set_option linter.unusedSimpArgs false
namespace Go.Proofs.YtampcckdbjbllaaGreatDoor.Ev
noncomputable section
open Go.RowKit
variable [Sym] [OraF] [OraOK]
/-- What is asked of calls that are known. -/
class HookOK (P : Program) : Prop where
  ok : CallOK P OraF.call

def MR (p : Mp) : List Nat → List Deferred → Prop
  | [], [] => True
  | m :: ms, d :: ds => (∃ r x, p m = some (r, x) ∧ d = { target := .collected r, args := #[] }) ∧ MR p ms ds
  | _, _ => False
theorem MR.mono {p q : Mp} (hl : p.le q) : ∀ {ms : List Nat} {ds : List Deferred}, MR p ms ds → MR q ms ds
  | [], [], _ => trivial
  | _ :: _, _ :: _, ⟨⟨r, x, h, e⟩, hr⟩ => ⟨⟨r, x, hl _ _ h, e⟩, hr.mono hl⟩
  | [], _ :: _, h => h.elim
  | _ :: _, [], h => h.elim
theorem MR.append {p : Mp} : ∀ {ms ms' : List Nat} {ds ds' : List Deferred}, MR p ms ds → MR p ms' ds' → MR p (ms ++ ms') (ds ++ ds')
  | [], _, [], _, _, h => h
  | _ :: _, _, _ :: _, _, ⟨h1, hr⟩, h => ⟨h1, hr.append h⟩
  | [], _, _ :: _, _, h, _ => h.elim
  | _ :: _, _, [], _, h, _ => h.elim
def RdR (p : Mp) : Option Nat → Option Nat → Prop
  | none, none => True
  | some l, some r => ∃ x, p l = some (r, x)
  | _, _ => False
/-- How a frame is the machine's. -/
structure FR2 (p : Mp) (F : FrS) (b : Frame) (a : Act) : Prop where
  fn : b.fn = F.fn
  kind : b.kind = .normal
  round : RdR p F.round b.roundOf
  tmps : AR p F.tmps a.tmps
  marks : MR p F.marks a.defers
theorem RdR.mono {p q : Mp} (hl : p.le q) {x y : Option Nat} (h : RdR p x y) : RdR q x y := by
  cases x <;> cases y <;> first | exact h | (obtain ⟨z, h⟩ := h; exact ⟨z, hl _ _ h⟩)
theorem FR2.mono {p q : Mp} (hl : p.le q) {F : FrS} {b : Frame} {a : Act} (h : FR2 p F b a) : FR2 q F b a := ⟨h.fn, h.kind, h.round.mono hl, h.tmps.mono hl, h.marks.mono hl⟩

/-- How a frame ends. -/
def Fin (P : Program) (b : Frame) (cs : List Frame) (m : Machine) (v' : Value) (w' : World) : Prop :=
  (b.roundOf = none ∧ ∃ fr, Steps P m (lone fr cs w') ∧ fr.fn = b.fn ∧ fr.leaving P w' (.returned v')) ∨ (∃ r c cs', b.roundOf = some r ∧ cs = c :: cs' ∧ Steps P m (lone (c.finish v') cs' w'))
theorem Fin.of_steps {P : Program} {b : Frame} {cs : List Frame} {m m1 : Machine} {v' : Value} {w' : World} (h : Steps P m m1) (k : Fin P b cs m1 v' w') : Fin P b cs m v' w' := by
  rcases k with ⟨h1, fr, h2, h3⟩ | ⟨r, c, cs', h1, h2, h3⟩
  · exact .inl ⟨h1, fr, h.trans h2, h3⟩
  · exact .inr ⟨r, c, cs', h1, h2, h.trans h3⟩
def RecOK (P : Program) (rec : FrS → AH → Option (Value × AH)) : Prop := ∀ F H v K, rec F H = some (v, K) → ∀ p w b a cs, FR2 p F b a → Sim P p H w → Free p H K → (b.roundOf ≠ none → cs ≠ []) →
  ∃ q v' w', VR q v v' ∧ Into P p H w q K w' ∧ Fin P b cs (lone (b.atR a F.todo) cs w) v' w'

section
variable {P : Program} {p : Mp} {w : World}
theorem run_getObj' {r : Nat} {o : Obj} (h : w.heap[r]? = some o) (hc : ∀ c e f, o ≠ .cells c e f) : (getObj r).run P w = .ok o w := by
  unfold getObj
  simp only [Sem.run, h]
theorem run_setObj' {r : Nat} {o o' : Obj} (h : w.heap[r]? = some o) (hc : ∀ c e f, o ≠ .cells c e f) : (setObj r o').run P w = .ok () { w with heap := w.heap.setIfInBounds r o' } := by
  unfold setObj
  simp only [Sem.run, h]
theorem into_set {H : AH} {b r x : Nat} {o o' : Obj} (hs : Sim P p H w) (hb : p b = some (r, x)) (hl : H.get b ≠ none) (ho : OR P p x o (some o')) : Into P p H w p (H.put b (some o)) { w with heap := w.heap.setIfInBounds r o' } := by
  have hlt := hs.lt b r x hb
  refine Into.put hs hb hl (by simp) rfl rfl rfl (fun r' hr' => by simp [Array.getElem?_setIfInBounds, Ne.symm hr']) ?_
  simp only [Array.getElem?_setIfInBounds, if_true, hlt]
  exact ho

/-! Leaving. -/
def resSem (T : Array Value) : ResultVar → Sem Value
  | .tmp t => pure (T.getD t undef)
  | .cell a t => do loadVar t (← asAddr (T.getD a undef))
theorem arv_ok {T : Array Value} {H : AH} {a : Act} (h : AR p T a.tmps) (hs : Sim P p H w) {r : ResultVar} {v : Value} (e : arv P T H r = some v) :
    ∃ v', VR p v v' ∧ (resSem a.tmps r).run P w = .ok v' w := by
  unfold arv at e
  split at e
  · cases e
    exact ⟨_, by rw [lget_arr]; exact h.getD _ (VR.undef p), rfl⟩
  · rename_i ad t
    rw [lget_arr] at e
    split at e
    · rename_i b off ex
      split at e
      · rename_i ag hag
        split at e
        · rename_i i hi
          split at e
          · rename_i ob hob
            have hv := h.getD ad (VR.undef p)
            rw [ex] at hv
            generalize eu : a.tmps.getD ad undef = u at hv
            cases hv with
            | ptr hp =>
              rename_i r s
              obtain ⟨v', h1, h2⟩ := loadVar_obs (b := b) hag hi (hs.obj b r s ob hp hob) e
              refine ⟨v', h1, ?_⟩
              show (do loadVar t (← asAddr (a.tmps.getD ad undef)) : Sem Value).run P w = _
              rw [eu]
              simp only [asAddr, Sem.run_bind, Sem.run_pure, Result.andThen_ok, h2]
          · cases e
        · cases e
      · cases e
    · cases e
theorem arvs_ok {T : Array Value} {H : AH} {a : Act} (h : AR p T a.tmps) (hs : Sim P p H w) : ∀ (l : List ResultVar) (vs : List Value), arvs P T H l = some vs →
    ∃ vs' : List Value, AR p vs.toArray vs'.toArray ∧ (l.mapM (resSem a.tmps)).run P w = .ok vs' w
  | [], vs, e => by
    cases e
    exact ⟨[], AR.empty p, rfl⟩
  | r :: l, vs, e => by
    unfold arvs at e
    split at e
    · rename_i v hv
      split at e
      · rename_i us hus
        cases e
        obtain ⟨v', h1, h2⟩ := arv_ok h hs hv
        obtain ⟨us', h3, h4⟩ := arvs_ok h hs l us hus
        refine ⟨v' :: us', ?_, ?_⟩
        · have : AR p (#[v] ++ us.toArray) (#[v'] ++ us'.toArray) := AR.append (by have := (AR.empty p).push h1; simpa using this) h3
          simpa using this
        · rw [List.mapM_cons]
          simp only [Sem.run_bind, h2, Result.andThen_ok, h4, Sem.run_pure]
      · cases e
    · cases e
theorem tup_vr {vs vs' : List Value} (h : AR p vs.toArray vs'.toArray) : VR p (tup vs) (tup vs') := by
  have hl : vs.length = vs'.length := by simpa using h.1
  match vs, vs', hl with
  | [], [], _ => exact .tuple_of h
  | [v], [v'], _ => exact h.2 0 v v' rfl rfl
  | _ :: _ :: _, _ :: _ :: _, _ => exact .tuple_of h
theorem tup_real (vs : List Value) : (if h : vs.toArray.size = 1 then vs.toArray[0] else Value.tuple vs.toArray) = tup vs := by
  match vs with
  | [] => rfl
  | [v] => rfl
  | _ :: _ :: _ => rfl
theorem results_ok {T : Array Value} {H : AH} {a : Act} (h : AR p T a.tmps) (hs : Sim P p H w) {fn : Func} {vs : List Value} (e : arvs P T H fn.results.toList = some vs) :
    ∃ v', VR p (tup vs) v' ∧ (results fn a.tmps).run P w = .ok v' w := by
  obtain ⟨vs', h1, h2⟩ := arvs_ok h hs _ _ e
  refine ⟨tup vs', tup_vr h1, ?_⟩
  show (do let vs ← fn.results.mapM (resSem a.tmps); pure (if h : vs.size = 1 then vs[0] else .tuple vs) : Sem Value).run P w = _
  rw [Array.mapM_eq_mapM_toList]
  simp only [Sem.run_bind, Sem.run_map, h2, Result.andThen_ok, Sem.run_pure, tup_real]

theorem ffin_ok {fn : FuncId} {T : Array Value} : ∀ (ms : List Nat) {H K : AH} {v : Value} {p : Mp} {w : World} {a : Act} {fr : Frame} {cs : List Frame}, ffin P fn T ms H = some (v, K) → AR p T a.tmps → MR p ms fr.defers → Sim P p H w → Free p H K →
    fr.fn = fn → fr.kind = .normal → fr.mode = .returning → fr.tmps = a.tmps → ∃ v' w' fr', VR p v v' ∧ Into P p H w p K w' ∧ Steps P (lone fr cs w) (lone fr' cs w') ∧ fr'.fn = fn ∧ fr'.leaving P w' (.returned v')
  | [], H, K, v, p, w, a, fr, cs, e, h, hm, hs, hf, h1, h2, h3, h4 => by
    unfold ffin at e
    rw [funcAt_eq] at e
    split at e
    · rename_i f hfn
      split at e
      · rename_i vs hvs
        cases e
        obtain ⟨v', hv, hr⟩ := results_ok h hs hvs
        have hd : fr.defers = [] := by
          cases hd : fr.defers with
          | nil => rfl
          | cons => rw [hd] at hm; exact hm.elim
        exact ⟨v', w, fr, hv, Into.refl hs, Steps.refl _ _, h1, h3, hd, h2, f, by rw [h1]; exact hfn, by rw [h4]; exact hr⟩
      · cases e
    · cases e
  | m :: ms, H, K, v, p, w, a, fr, cs, e, h, hm, hs, hf, h1, h2, h3, h4 => by
    unfold ffin at e
    split at e
    · rename_i hg
      cases hd : fr.defers with
      | nil => rw [hd] at hm; exact hm.elim
      | cons d ds =>
        rw [hd] at hm
        obtain ⟨⟨r, x, hp, rfl⟩, hms⟩ := hm
        have ho : w.heap[r]? = some (.deferred (some [])) := (hs.obj m r x _ hp hg).2
        have hin := into_set (o' := .deferred none) hs hp (by rw [hg]; nofun) (show OR P p x (.deferred none) (some (.deferred none)) from rfl)
        have htake : (Instr.takeDeferred r).run P w = .ok [] { w with heap := w.heap.setIfInBounds r (.deferred none) } := by
          unfold Instr.takeDeferred
          simp only [Sem.run_bind, run_getObj' ho (by nofun), Result.andThen_ok, run_setObj' ho (by nofun), Sem.run_pure]
        have hst : step P (lone fr cs w) = .next (lone { fr with defers := ds } cs { w with heap := w.heap.setIfInBounds r (.deferred none) }) := by
          have := step_collected (P := P) (fr := fr) (cs := cs) (by rw [h3]; nofun) hd rfl htake
          simpa using this
        obtain ⟨v', w', fr', hv, hi, hss, hl⟩ := ffin_ok ms (fr := { fr with defers := ds }) (cs := cs) e h hms hin.sim hf h1 h2 h3 h4
        exact ⟨v', w', fr', hv, hin.trans hi, .head hst hss, hl⟩
    · cases e

def JumpOK (jump : Option Code) (k : List Item) : Prop :=
  match jump with
  | none => k = []
  | some .ret => ∃ k', k = .code .ret :: k'
  | some (.exit id) => ∃ k', k = .code (.exit id) :: k' ∧ exitTo id k' = none
  | some (.goto l) => ∃ k', k = .code (.goto l) :: k' ∧ gotoIn l k' = none
  | _ => False
theorem fleave_ok {F : FrS} {H K : AH} {v : Value} {b : Frame} {a : Act} {cs : List Frame} {k : List Item} {jump : Option Code} (e : fleave P F H jump = some (v, K)) (h : FR2 p F b a) (hs : Sim P p H w) (hf : Free p H K) (hcs : b.roundOf ≠ none → cs ≠ [])
    (hk : JumpOK jump k) :
    ∃ q v' w', VR q v v' ∧ Into P p H w q K w' ∧ Fin P b cs (lone (b.atR a k) cs w) v' w' := by
  unfold fleave at e
  split at e
  · rename_i hr
    have hb : b.roundOf = none := by
      have := h.round
      rw [hr] at this
      cases hh : b.roundOf with
      | none => rfl
      | some => rw [hh] at this; exact this.elim
    split at e
    · have hk : k = [] := hk
      subst hk
      obtain ⟨v', w', fr', hv, hi, hst, hfn, hl⟩ := ffin_ok F.marks (fr := { b.atR a [] with mode := .returning }) (cs := cs) e h.tmps h.marks hs hf h.fn h.kind rfl rfl
      exact ⟨p, v', w', hv, hi, .inl ⟨hb, fr', .head (stepR_end hb) hst, hfn.trans h.fn.symm, hl⟩⟩
    · obtain ⟨k', rfl⟩ := hk
      obtain ⟨v', w', fr', hv, hi, hst, hfn, hl⟩ := ffin_ok F.marks (fr := { b.atR a (.code .ret :: k') with mode := .returning }) (cs := cs) e h.tmps h.marks hs hf h.fn h.kind rfl rfl
      exact ⟨p, v', w', hv, hi, .inl ⟨hb, fr', .head (stepR_ret hb) hst, hfn.trans h.fn.symm, hl⟩⟩
    · cases e
  · rename_i l hr
    split at e
    · rename_i L hg
      cases e
      have hb := h.round
      rw [hr] at hb
      cases hh : b.roundOf with
      | none => rw [hh] at hb; exact hb.elim
      | some r =>
        rw [hh] at hb
        obtain ⟨x, hp⟩ := hb
        obtain ⟨L', x', ho, e1, e2, e3, e4, e5, e6, e7, e8⟩ := hs.obj l r x _ hp hg
        cases cs with
        | nil => exact (hcs (by rw [hh]; nofun) rfl).elim
        | cons c cs' =>
          have hin := into_set (o := .loop { L with state := if jump.isNone then .ready else .done, pending := jump }) (o' := .loop { L' with state := if jump.isNone then .ready else .done, pending := jump }) hs hp (by rw [hg]; nofun) ⟨_, x', rfl, rfl, rfl, e3, e4, e5, e6, e7, e8⟩
          have hend : ∀ j : Option Code, j = jump → (Instr.endRound r j).run P w = .ok (.bool j.isNone) { w with heap := w.heap.setIfInBounds r (.loop { L' with state := if jump.isNone then .ready else .done, pending := jump }) } := fun j hj => by
            subst hj
            unfold Instr.endRound Instr.getLoop
            simp only [Sem.run_bind, run_getObj' ho (by nofun), Result.andThen_ok, Sem.run_pure, run_setObj' ho (by nofun)]
          refine ⟨p, .bool jump.isNone, _, .bool _, hin, .inr ⟨r, c, cs', hh, rfl, .one ?_⟩⟩
          unfold JumpOK at hk
          split at hk
          · subst hk
            exact stepR_round_end hh h.kind (hend none rfl)
          · obtain ⟨k', rfl⟩ := hk
            exact stepR_round_ret hh h.kind (hend _ rfl)
          · obtain ⟨k', rfl, hx⟩ := hk
            exact stepR_round_exit hh h.kind hx (hend _ rfl)
          · obtain ⟨k', rfl, hx⟩ := hk
            exact stepR_round_goto hh h.kind hx (hend _ rfl)
          · exact hk.elim
    · cases e

/-! Calls and rounds. -/
theorem callOf_ok [HookOK P] {rec : FrS → AH → Option (Value × AH)} (h : RecOK P rec) : CallOK P (callOf P rec) := by
  intro f args H v K e p w args' har hs hf cs
  unfold callOf at e
  split at e
  · rename_i r0 hr0; cases e; exact HookOK.ok _ _ _ _ _ hr0 p w _ har hs hf cs
  · split at e
    · rename_i F hF
      unfold enterFS at hF
      split at hF
      · rename_i fn hfn
        split at hF
        · rename_i c hc
          cases hF
          let b : Frame := { (default : Frame) with fn := f, kind := .normal }
          let a : Act := { tmps := args' ++ Array.replicate (fn.ntmps - args'.size) undef, defers := [] }
          have hrel : FR2 p { fn := f, tmps := padded args fn.ntmps, todo := [.code c], marks := [], round := none } b a :=
            ⟨rfl, rfl, trivial, by
              show AR p (padded args fn.ntmps) (args' ++ Array.replicate (fn.ntmps - args'.size) undef)
              rw [padded_eq]
              rw [← har.1]
              exact har.append (AR.replicate _ (VR.undef p)), trivial⟩
          obtain ⟨q, v', w', hv, hi, hfin⟩ := h _ _ _ _ e p w b a cs hrel hs hf (fun hb => (hb rfl).elim)
          have henter : Frame.enter P f args' .normal = b.atR a [.code c] := by
            simp [Frame.enter, Frame.atR, hfn, hc, b, a]
            rfl
          rcases hfin with ⟨_, fr, h1, h2, h3⟩ | ⟨r, c', cs', h1, _⟩
          · refine ⟨.returned v', w', fr, ⟨q, v', rfl, hv, hi⟩, ?_, h2, h3⟩
            rw [henter]
            exact h1
          · cases h1
        · cases hF
      · cases hF
    · cases e
theorem zip_rel {p : Mp} : ∀ (ps : List Tmp) (l l' : List Value) (T T' : Array Value), l.length = l'.length → (∀ (i : Nat) (v v' : Value), l[i]? = some v → l'[i]? = some v' → VR p v v') → AR p T T' →
    AR p ((ps.zip l).foldl (fun tmps (x : Tmp × Value) => tmps.setIfInBounds x.1 x.2) T) ((ps.zip l').foldl (fun tmps (x : Tmp × Value) => tmps.setIfInBounds x.1 x.2) T')
  | [], _, _, _, _, _, _, h => h
  | _ :: _, [], [], _, _, _, _, h => h
  | t :: ps, v :: l, v' :: l', T, T', hl, hv, h => by
    simp only [List.zip_cons_cons, List.foldl_cons]
    exact zip_rel ps l l' _ _ (by simpa using hl) (fun i u u' e e' => hv (i + 1) u u' (by simpa using e) (by simpa using e')) (h.set t (hv 0 v v' rfl rfl))
  | _ :: _, [], _ :: _, _, _, hl, _, _ => by cases hl
  | _ :: _, _ :: _, [], _, _, hl, _, _ => by cases hl
theorem roundOf_ok {rec : FrS → AH → Option (Value × AH)} (h : RecOK P rec) : RoundOK P (roundOf rec) := by
  intro l args H v K e p w r x args' hp har hs hf
  unfold roundOf at e
  split at e
  · rename_i L hg
    split at e
    · rename_i hsz
      obtain ⟨L', x', ho, e1, e2, e3, e4, e5, e6, e7, e8⟩ := hs.obj l r x _ hp hg
      let T' := (L'.params.zip args').foldl (fun tmps (y : Tmp × Value) => tmps.setIfInBounds y.1 y.2) L'.tmps
      refine ⟨L'.fn, T', L'.assign, L'.body, ?_, fun c cs => ?_⟩
      · unfold Instr.yield Instr.getLoop
        have : ¬ args'.size ≠ L'.params.size := by rw [← har.1, e5]; simpa using hsz
        simp only [Sem.run_bind, run_getObj' ho (by nofun), Result.andThen_ok, Sem.run_pure, if_neg this]
        rfl
      · let b : Frame := { (default : Frame) with fn := L'.fn, kind := .normal, roundOf := some r }
        let a : Act := { tmps := T', defers := [] }
        have hrel : FR2 p { fn := L.fn, tmps := (L.params.zip args).foldl (fun tmps (x : Tmp × Value) => tmps.setIfInBounds x.1 x.2) L.tmps, todo := [.code L.assign, .beginRound, .code L.body], marks := [], round := some l } b a :=
          ⟨e3, rfl, ⟨x, hp⟩, by
            show AR p ((L.params.zip args).foldl (fun tmps (x : Tmp × Value) => tmps.setIfInBounds x.1 x.2) L.tmps) ((L'.params.zip args').foldl (fun tmps (x : Tmp × Value) => tmps.setIfInBounds x.1 x.2) L'.tmps)
            rw [e5, ← Array.foldl_toList, ← Array.foldl_toList, Array.toList_zip, Array.toList_zip]
            exact zip_rel _ _ _ _ _ (by simpa using har.1) (fun i v v' h1 h2 => har.2 i v v' (by simpa using h1) (by simpa using h2)) e4, trivial⟩
        obtain ⟨q, v', w', hv, hi, hfin⟩ := h _ _ _ _ e p w b a (c :: cs) hrel hs hf (fun _ => by nofun)
        rcases hfin with ⟨h1, _⟩ | ⟨r', c', cs', h1, h2, h3⟩
        · cases h1
        · cases h2
          refine ⟨q, v', w', hv, hi, ?_⟩
          have : Frame.round r L'.fn T' L'.assign L'.body .normal = b.atR a [.code L.assign, .beginRound, .code L.body] := by
            simp [Frame.round, Frame.atR, b, a, e6, e7]
          rw [this]
          exact h3
    · cases e
  · cases e
end
end
end Go.Proofs.YtampcckdbjbllaaGreatDoor.Ev
set_option linter.unusedVariables false
set_option linter.unusedSectionVars false
set_option linter.unusedSimpArgs false
namespace Go.Proofs.YtampcckdbjbllaaGreatDoor.Ev
noncomputable section
open Go.RowKit
variable [Sym] [OraF] [OraOK]

section
variable {P : Program} {p : Mp} {w : World} {H K : AH} {F : FrS} {b : Frame} {a : Act} {cs : List Frame} {k : List Item}

theorem abegin_ok (e : abegin F H = some K) (h : FR2 p F b a) (hs : Sim P p H w) : ∃ w', Into P p H w p K w' ∧ step P (lone (b.atR a (.beginRound :: k)) cs w) = .next (lone (b.atR a k) cs w') := by
  unfold abegin at e
  split at e
  · cases e
  · rename_i l hr
    split at e
    · rename_i L hg
      split at e
      · rename_i hst
        cases e
        have hb := h.round
        rw [hr] at hb
        cases hh : b.roundOf with
        | none => rw [hh] at hb; exact hb.elim
        | some r =>
          rw [hh] at hb
          obtain ⟨x, hp⟩ := hb
          obtain ⟨L', x', ho, e1, e2, e3, e4, e5, e6, e7, e8⟩ := hs.obj l r x _ hp hg
          have hin := into_set (o := .loop { L with state := .busy }) (o' := .loop { L' with state := .busy }) hs hp (by rw [hg]; nofun) ⟨_, x', rfl, rfl, e2, e3, e4, e5, e6, e7, e8⟩
          refine ⟨_, hin, stepR_beginRound hh ?_⟩
          unfold Instr.beginRound Instr.getLoop
          rw [hst] at e1
          simp only [Sem.run_bind, run_getObj' ho (by nofun), Result.andThen_ok, Sem.run_pure, run_setObj' ho (by nofun), e1]
      · cases e
    · cases e

theorem aend_ok {l : Nat} {j : Option Code} (e : aend l H = some (j, K)) (hs : Sim P p H w) {r x : Nat} (hp : p l = some (r, x)) : ∃ w', Into P p H w p K w' ∧ (Instr.endLoop r).run P w = .ok j w' := by
  unfold aend at e
  split at e
  · rename_i L hg
    split at e
    · cases e
    · rename_i hst
      cases e
      obtain ⟨L', x', ho, e1, e2, e3, e4, e5, e6, e7, e8⟩ := hs.obj l r x _ hp hg
      have hin := into_set (o := .loop { L with state := .exhausted }) (o' := .loop { L' with state := .exhausted }) hs hp (by rw [hg]; nofun) ⟨_, x', rfl, rfl, e2, e3, e4, e5, e6, e7, e8⟩
      refine ⟨_, hin, ?_⟩
      have hne : (L'.state == LoopState.busy) = false := by
        rw [e1]
        cases hq : L.state <;> first | rfl | exact (hst hq).elim
      unfold Instr.endLoop Instr.getLoop
      simp only [Sem.run_bind, run_getObj' ho (by nofun), Result.andThen_ok, Sem.run_pure, hne, Bool.false_eq_true, if_false, run_setObj' ho (by nofun), e2]
  · cases e

theorem aenter_ok {ps : Array Tmp} {x y : Code} {l : Nat} {ms : List Nat} (e : aenter F ps x y H = some (l, ms, K)) (h : FR2 p F b a) (hs : Sim P p H w) (hf : Free p H K) :
    ∃ q w' r z ds, Into P p H w q K w' ∧ q l = some (r, z) ∧ MR q ms ds ∧ (Instr.enterLoop b.fn a.tmps ps x y b.roundOf).run P w = .ok (r, ds) w' := by
  unfold aenter at e
  split at e
  · rename_i hr
    cases e
    have hb : b.roundOf = none := by
      have := h.round
      rw [hr] at this
      cases hh : b.roundOf with
      | none => rfl
      | some => rw [hh] at this; exact this.elim
    have f1 : p H.nx = none := hf _ (Nat.le_refl _) (by simp [AH.push]; omega)
    have i1 := Into.new (o := .deferred (some [])) (o' := .deferred (some [])) hs f1 ⟨rfl, rfl⟩
    have f2 : (p.set H.nx (w.heap.size, 0)) (H.push (.deferred (some []))).nx = none := by
      unfold Mp.set
      rw [if_neg (by simp [AH.push])]
      exact hf _ (by simp [AH.push]) (by simp [AH.push])
    have hdef : ((p.set H.nx (w.heap.size, 0)).set (H.push (.deferred (some []))).nx ((w.alloc (.deferred (some []))).heap.size, 0)) H.nx = some (w.heap.size, 0) := Mp.le_set _ f2 _ _ (Mp.set_eq _ _ _)
    have i2 := Into.new (o := .loop { state := .ready, pending := none, fn := F.fn, tmps := F.tmps, params := ps, assign := x, body := y, defers := H.nx }) (o' := .loop { state := .ready, pending := none, fn := b.fn, tmps := a.tmps, params := ps, assign := x, body := y, defers := w.heap.size }) i1.sim f2
      ⟨_, 0, rfl, rfl, rfl, h.fn, (h.tmps.mono i1.le).mono (Mp.le_set _ f2), rfl, rfl, rfl, hdef⟩
    refine ⟨_, _, _, _, [{ target := .collected w.heap.size, args := #[] }], i1.trans i2, Mp.set_eq _ _ _, ⟨⟨w.heap.size, 0, hdef, rfl⟩, trivial⟩, ?_⟩
    rw [hb]
    unfold Instr.enterLoop
    simp only [Sem.run_bind, Result.andThen_ok, Sem.run_pure, newObj, Sem.run]
    rfl
  · rename_i l0 hr
    split at e
    · rename_i L0 hg
      cases e
      have hb := h.round
      rw [hr] at hb
      cases hh : b.roundOf with
      | none => rw [hh] at hb; exact hb.elim
      | some r0 =>
        rw [hh] at hb
        obtain ⟨x0, hp0⟩ := hb
        obtain ⟨L', x', ho, e1, e2, e3, e4, e5, e6, e7, e8⟩ := hs.obj l0 r0 x0 _ hp0 hg
        have f1 : p H.nx = none := hf _ (Nat.le_refl _) (by simp [AH.push])
        have i1 := Into.new (o := .loop { state := .ready, pending := none, fn := F.fn, tmps := F.tmps, params := ps, assign := x, body := y, defers := L0.defers }) (o' := .loop { state := .ready, pending := none, fn := b.fn, tmps := a.tmps, params := ps, assign := x, body := y, defers := L'.defers }) hs f1
          ⟨_, x', rfl, rfl, rfl, h.fn, h.tmps.mono (Mp.le_set _ f1), rfl, rfl, rfl, Mp.le_set _ f1 _ _ e8⟩
        refine ⟨_, _, _, _, [], i1, Mp.set_eq _ _ _, trivial, ?_⟩
        unfold Instr.enterLoop Instr.getLoop
        simp only [Sem.run_bind, run_getObj' ho (by nofun), Result.andThen_ok, Sem.run_pure, newObj, Sem.run]
        rfl
    · cases e

theorem fstep_ok [HookGood] [HookOK P] (hm : P.follows .mixedOrders = true) {rec : FrS → AH → Option (Value × AH)} (g : RecGood rec) (h : RecOK P rec) : RecOK P (fstep P rec) := by
  intro F H v K e p w b a cs hrel hs hf hcs
  have nc := callOf_good (P := P) g
  have nr := roundOf_good g
  have hc := callOf_ok h
  have hr := roundOf_ok (P := P) h
  obtain ⟨ffn, ft, ftodo, fm, fr⟩ := F
  -- a step that leaves memory alone
  have goOn : ∀ {todo todo' : List Item}, step P (lone (b.atR a todo) cs w) = .next (lone (b.atR a todo') cs w) → rec { fn := ffn, tmps := ft, todo := todo', marks := fm, round := fr } H = some (v, K) →
      FR2 p { fn := ffn, tmps := ft, todo := todo, marks := fm, round := fr } b a → ∃ q v' w', VR q v v' ∧ Into P p H w q K w' ∧ Fin P b cs (lone (b.atR a todo) cs w) v' w' := by
    intro todo todo' hst he hrel
    obtain ⟨q, v', w', hv, hi, hfin⟩ := h _ _ _ _ he p w b a cs ⟨hrel.fn, hrel.kind, hrel.round, hrel.tmps, hrel.marks⟩ hs hf hcs
    exact ⟨q, v', w', hv, hi, hfin.of_steps (.one hst)⟩
  unfold fstep at e
  split at e
  · rename_i ht
    simp only at ht; subst ht
    exact fleave_ok e hrel hs hf hcs rfl
  · rename_i id k ht
    simp only at ht; subst ht
    exact goOn stepR_inBlock e hrel
  · rename_i id k ht
    simp only at ht; subst ht
    exact goOn (step_lone_go (by simp [stepG, stepG.exec, Frame.atR])) e hrel
  · rename_i body k ht
    simp only at ht; subst ht
    exact goOn stepR_inLoop e hrel
  · rename_i k ht
    simp only at ht; subst ht
    split at e
    · rename_i K1 h1
      obtain ⟨w1, i1, st⟩ := abegin_ok (k := k) (cs := cs) h1 hrel hs
      obtain ⟨q, v', w', hv, hi, hfin⟩ := h _ _ _ _ e p w1 b a cs ⟨hrel.fn, hrel.kind, hrel.round, hrel.tmps, hrel.marks⟩ i1.sim (free_right hf i1) hcs
      exact ⟨q, v', w', hv, i1.trans hi, hfin.of_steps (.one st)⟩
    · cases e
  · rename_i c k ht
    simp only at ht; subst ht
    split at e
    · exact goOn stepR_skip e hrel
    · exact goOn stepR_label e hrel
    · exact fleave_ok e hrel hs hf hcs ⟨k, rfl⟩
    · exact goOn stepR_seq e hrel
    · rename_i c x y
      split at e
      · rename_i hc1
        split at e
        · rename_i t ht
          have hv := ev_vr hrel.tmps hc1
          rw [ht] at hv
          have ec : a.eval c = .bool t := by
            generalize a.eval c = u at hv
            cases hv; rfl
          exact goOn (stepR_cond ec) e hrel
        · cases e
      · cases e
    · exact goOn stepR_block e hrel
    · exact goOn stepR_loop e hrel
    · exact goOn (step_lone_go (by simp [stepG, stepG.exec, Frame.atR])) e hrel
    · rename_i id
      split at e
      · rename_i k' hk'; exact goOn (stepR_exit hk') e hrel
      · rename_i hk'; exact fleave_ok e hrel hs hf hcs ⟨k, rfl, hk'⟩
    · rename_i id
      split at e
      · rename_i k' hk'; exact goOn (stepR_goto hk') e hrel
      · rename_i hk'; exact fleave_ok e hrel hs hf hcs ⟨k, rfl, hk'⟩
    · rename_i id ops draw
      split at e
      · rename_i T2 K1 h1
        have hn := (g _ _ _ _ e).nx
        split at h1
        · rename_i hd
          subst hd
          have hs' : Sim P p H { w with drawn := w.drawn + 1 } := hs.drew rfl
          obtain ⟨q, a2, w2, r2, d2, i2, st⟩ := adraw_ok nc nr hc hr (b := b) (k := k) (cs := cs) (w.tape w.drawn (.order b.fn id)) h1 hrel.tmps hs' (free_left hf hn)
          have i0 := Into.drew (w' := { w with drawn := w.drawn + 1 }) hs rfl rfl rfl rfl
          obtain ⟨q3, v', w3, hv, hi, hfin⟩ := h _ _ _ _ e q w2 b a2 cs ⟨hrel.fn, hrel.kind, hrel.round.mono i2.le, r2, by rw [d2]; exact hrel.marks.mono i2.le⟩ i2.sim (free_right hf (i0.trans i2)) hcs
          refine ⟨q3, v', w3, hv, (i0.trans i2).trans hi, hfin.of_steps (.head ?_ st)⟩
          have := stepR_region_draw (P := P) (b := b) (a := a) (k := k) (cs := cs) (w := w) (ops := ops) (id := id)
          rw [this]
          simp only [Region.schedule, hm, Bool.true_or, if_true]
        · rename_i hd
          have hd : draw = false := by simpa using hd
          subst hd
          obtain ⟨q, a2, w2, r2, d2, i2, st⟩ := aplain_ok nc nr hc hr (b := b) (k := k) (cs := cs) ops.toList 0 ft T2 H K1 p a w (fun i hi => by simp) h1 hrel.tmps hs (free_left hf hn)
          obtain ⟨q3, v', w3, hv, hi, hfin⟩ := h _ _ _ _ e q w2 b a2 cs ⟨hrel.fn, hrel.kind, hrel.round.mono i2.le, r2, by rw [d2]; exact hrel.marks.mono i2.le⟩ i2.sim (free_right hf i2) hcs
          refine ⟨q3, v', w3, hv, i2.trans hi, hfin.of_steps (.head ?_ st)⟩
          have := stepR_region (P := P) (b := b) (a := a) (k := k) (cs := cs) (w := w) (ops := ops) (id := id)
          rw [this, List.range_eq_range', Array.length_toList]
      · cases e
    · rename_i f ps x y
      split at e
      · rename_i l ms H1 h1
        split at e
        · rename_i hf1
          split at e
          · rename_i gf first captured ef
            split at e
            · rename_i fn hfn
              split at e
              · cases e
              · rename_i hnn
                split at e
                · cases e
                · rename_i hbb
                  split at e
                  · rename_i v2 H2 h2
                    split at e
                    · rename_i jump H3 h3
                      have n1 := (aenter_good h1).nx
                      have n2 := (nc _ _ _ _ _ h2).nx
                      have n3 := (aend_good h3).nx
                      have n4 := (g _ _ _ _ e).nx
                      obtain ⟨q1, w1, r, z, ds, i1, hl, hms, hent⟩ := aenter_ok h1 hrel hs (free_left hf (Nat.le_trans n2 (Nat.le_trans n3 n4)))
                      have hvf := (ev_vr hrel.tmps hf1).mono i1.le
                      rw [ef] at hvf
                      generalize eu : a.eval f = u at hvf
                      cases hvf with
                      | func hy s1 h1' s2 h2' =>
                        rename_i first' captured'
                        have har : AR q1 (first ++ #[.func (.yield l) #[] #[]] ++ captured) (first' ++ #[.func (.yield r) #[] #[]] ++ captured') :=
                          (AR.append ⟨s1, h1'⟩ (by have := (AR.empty q1).push (VR.yield hl); simpa using this)).append ⟨s2, h2'⟩
                        have hf2 : Free q1 H1 K := free_right hf i1
                        obtain ⟨en, w2, fr2, ⟨q2, v2', rfl, hv2, i2⟩, hcomes, _, hleave⟩ := hc _ _ _ _ _ h2 q1 w1 _ har i1.sim (free_left hf2 (Nat.le_trans n3 n4)) (b.atR { a with defers := ds ++ a.defers } (.inRangeFunc r :: k) :: cs)
                        have hf3 : Free q2 H2 K := free_right hf2 i2
                        obtain ⟨w3, i3, hend⟩ := aend_ok h3 i2.sim (i2.le _ _ hl)
                        have hf4 : Free q2 H3 K := free_right hf3 i3
                        have hrel' : FR2 q2 { fn := ffn, tmps := ft, todo := (jump.map Item.code).toList ++ k, marks := ms ++ fm, round := fr } b { a with defers := ds ++ a.defers } :=
                          ⟨hrel.fn, hrel.kind, (hrel.round.mono i1.le).mono i2.le, (hrel.tmps.mono i1.le).mono i2.le, (hms.mono i2.le).append ((hrel.marks.mono i1.le).mono i2.le)⟩
                        obtain ⟨q3, v', w4, hv, hi, hfin⟩ := h _ _ _ _ e q2 w3 b { a with defers := ds ++ a.defers } cs hrel' i3.sim hf4 hcs
                        refine ⟨q3, v', w4, hv, ((i1.trans i2).trans i3).trans hi, hfin.of_steps ?_⟩
                        have s1 := stepR_rangeFunc (P := P) (b := b) (a := a) (k := k) (cs := cs) (g := f) (ps := ps) (assign := x) (body := y) (d := { target := .fn (.func gf) captured', args := first' ++ #[.func (.yield r) #[] #[]] }) (f := gf) (args := first' ++ #[.func (.yield r) #[] #[]] ++ captured') (w₁' := w1) (w₂ := w1) hent
                          (by have e0 : a.eval (.const (.func (.yield r) #[] #[])) = .func (.yield r) #[] #[] := rfl; simp [resolve, rangeCall, eu, Deferred.ofValue, e0])
                          (by simp only [invoke]; exact callFunc_run hfn (Bool.eq_false_iff.2 hnn) (Bool.eq_false_iff.2 hbb) _ w1)
                        have s3 := step_leave_returned (P := P) (c := b.atR { a with defers := ds ++ a.defers } (.inRangeFunc r :: k)) (cs := cs) hleave
                        rw [finish_atR_inRangeFunc] at s3
                        have s4 := stepR_endRangeFunc (P := P) (b := b) (a := { a with defers := ds ++ a.defers }) (k := k) (cs := cs) hend
                        exact .head s1 (Steps.trans hcomes (.head s3 (.one s4)))
                    · cases e
                  · cases e
            · cases e
          · cases e
        · cases e
      · cases e
    · cases e
  · cases e

/-- The run on the abstract heap tells what the machine does. -/
theorem frun_ok [HookGood] [HookOK P] (hm : P.follows .mixedOrders = true) : ∀ n, RecOK P (frun P n)
  | 0 => fun _ _ _ _ e => by cases e
  | n + 1 => fstep_ok hm (frun_good n) (frun_ok hm n)

/-- A call, run on an abstract heap. -/
def run (P : Program) (n : Nat) (f : FuncId) (args : Array Value) (H : AH) : Option (Value × AH) := callOf P (frun P n) f args H
theorem run_ok [HookGood] [HookOK P] (hm : P.follows .mixedOrders = true) (n : Nat) : CallOK P (run P n) := callOf_ok (frun_ok hm n)
end
end
end Go.Proofs.YtampcckdbjbllaaGreatDoor.Ev
