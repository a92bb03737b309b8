/-
  TopFaults: for every input the law answers true, and its arguments read as before. No condition.
  The row's frame; the runs are in the texts that it imports.
-/
import Derived.Test.YtampcckdbjbllaaGreatDoorTopEnd
import Derived.Test.YtampcckdbjbllaaGreatDoorKa
import Derived.Test.YtampcckdbjbllaaGreatDoorFa
import Derived.Test.YtampcckdbjbllaaGreatDoorFb
import Derived.Test.YtampcckdbjbllaaGreatDoorFc
import Derived.Test.YtampcckdbjbllaaGreatDoorFd
import Derived.Test.YtampcckdbjbllaaGreatDoorWit
import Derived.Test.YtampcckdbjbllaaGreatDoorOwnTie
import Derived.Test.YtampcckdbjbllaaGreatDoorCards
import Derived.Lay
import Derived.SevenTiedAt
import Derived.Stop.Joined
import Derived.WalkKit
import Derived.ProofKit
import Derived.OpenShut
import Derived.ShutString
import Derived.ChangeOld
import Derived.Below
import Derived.Deep.Slices
import Derived.Deep.Fields
import Derived.Lib.SmallJoins
namespace Go.Proofs.YtampcckdbjbllaaGreatDoor.topFaults
open Go.ChangeShapes Go.WideShapes Go.ChangeAt Go.RowKit Go.Deep Go.Joins
set_option linter.unusedVariables false

theorem laidOut : laidOutB Tryz.prog = true := by
  unfold laidOutB
  simp only [Bool.and_eq_true]
  exact ⟨⟨j_lo1, j_lo2⟩, j_lo3⟩
theorem u8_bound {n : Int} (h : (Lit.int .u8 n).wf = true) : ∃ k : Nat, k < 256 ∧ n = (k : Int) := by
  have h : 0 ≤ n ∧ n ≤ 255 := by simpa [Lit.wf, IntKind.min, IntKind.max, IntKind.bits, IntKind.signed] using h
  exact ⟨n.toNat, by omega, by omega⟩
/-- The walk: few bytes or many. -/
theorem walk {H : Type} {enc : TypeId × Value → H} {W : World} {a0 a1 : Int} {A : Option Addr} {len cap : Nat} {d : DataW H} {p : List MemPlace} (w0 : (Lit.int .u8 a0).wf = true) (w1 : (Lit.int .u8 a1).wf = true)
    (h : DataW.Trod enc Tryz.prog W 0 (fun _ => true) true 22 (.slice A len cap) d p) :
    Calls Tryz.prog 3 #[.int .u8 a0, .int .u8 a1, .slice A len cap] W fun e W' => e = .returned (.bool true) ∧ Below W.heap.size W W' := by
  obtain ⟨k, hk, rfl⟩ := u8_bound w0
  obtain ⟨m, hm, rfl⟩ := u8_bound w1
  obtain ⟨l, hl, _, hr⟩ := given_of Tryz.underlying22 Tryz.underlying5 j_c5 h
  subst hl
  rcases Nat.lt_or_ge 400 l.length with hlt | hle
  · exact faults_long _ _ _ _ _ _ hlt
  · exact faults_few k m hk hm A l cap W ⟨hle, hr⟩

set_option maxRecDepth 100000 in
theorem lifted (os : Os) (started : os.Started) (H : Type) (enc : TypeId × Value → H) :
    ReturnsInHanded {} Tryz.checked os 3 .any (fun w args => (Rows.topFaultsSpec.pre enc Tryz.prog Tryz.f3 [] false w args ∧ laidMetH Tryz.prog Rows.topFaultsRow.laid w) ∧ sizedMet enc Tryz.prog Tryz.f3 (OpenSpec.ofChange Rows.topFaultsSpec) false w args)
      (Rows.topFaultsSpec.post enc Tryz.prog Tryz.f3 false true false false) := by
  refine returnsInHanded_of_change_and (C := Tryz.checked) (X := fun w _ => laidMetH Tryz.prog Rows.topFaultsRow.laid w) (fun _ _ _ hh h => h.of_heap hh) j_own started j_ni Tryz.func3
    (ChangeSpec.witness_shaped (enc := enc) (C := Tryz.checked) (os := os) (X := fun w _ => laidMetH Tryz.prog Rows.topFaultsRow.laid w) false (W0 Tryz.prog os) wargs 8 (w_os os)
      (World.shaped_of_ZipB (w_zip os) (w_rows os)) (w_ok os) (w_pre os enc) (w_sized os enc) (w_laid os)) ?_
  intro W base args ds gs before hval0 hW _ _ hL _
  have hval : ∀ (j : Nat) t v, Tryz.f3.params[j]? = some t → args[j]? = some v → Value.okWide Tryz.prog W .any base t v := hval0
  have hW' := hW
  obtain ⟨p, q, hA0, hV, rfl, hfz, hnd⟩ := hW
  have hA : DataW.TrodAll enc Tryz.prog W 0 (fun _ => true) true Tryz.f3.params.toList args.toList ds p := hA0
  rw [Tryz.params3] at hA hval
  obtain ⟨v0, vs0, d0, ds0, p0, q0, hargs, rfl, rfl, h0, r0⟩ := trodAll_cons hA
  obtain ⟨v1, vs1, d1, ds1, p1, q1, rfl, rfl, rfl, h1, r1⟩ := trodAll_cons r0
  obtain ⟨v2, vs2, d2, ds2, p2, q2, rfl, rfl, rfl, h2, r2⟩ := trodAll_cons r1
  obtain ⟨rfl, rfl, rfl⟩ := trodAll_nil r2
  obtain rfl : args = #[v0, v1, v2] := by cases args; simp_all
  obtain ⟨rfl, rfl⟩ := trodVars_none hV
  obtain ⟨a0, rfl, rfl, rfl, w0⟩ := open_int Tryz.underlying5 (hval 0 5 v0 rfl rfl) h0
  obtain ⟨a1, rfl, rfl, rfl, w1⟩ := open_int Tryz.underlying5 (hval 1 5 v1 rfl rfl) h1
  have k2 := h2
  have lt2 : ∀ x ∈ p2, x.block < W.heap.size := by obtain ⟨m, hm⟩ := k2; exact DataW.trod_lt m _ _ _ hm
  obtain ⟨a2, len2, cap2, rfl⟩ := okWide_slice Tryz.underlying22 (hval 2 22 v2 rfl rfl)
  clear hA0 hval0
  refine (walk w0 w1 h2).mono fun e W' ⟨he, bel⟩ => ?_
  subst he
  exact ⟨_, rfl, _, _, _, [], _, [], hW', trodAll_mk1 (shut_bool Tryz.underlying4 _), (trodAll_cons_mk (shut_int Tryz.underlying5 w0) (trodAll_cons_mk (shut_int Tryz.underlying5 w1) (trodAll_cons_mk (Below.trod laidOut j_rd j_tz k2 bel lt2) trodAll_mk0))), rfl, bel.frame _, fun h => by cases h⟩

set_option maxRecDepth 100000 in
theorem joined : joinedFacts Tryz.pinned.checked.prog 3 Tryz.f3 Rows.topFaultsSpec Rows.topFaultsRow = true := by
  unfold joinedFacts
  simp only [Bool.and_eq_true]
  exact ⟨⟨⟨⟨⟨⟨⟨⟨⟨⟨⟨⟨⟨⟨⟨⟨⟨⟨⟨⟨⟨⟨⟨⟨⟨⟨⟨⟨⟨⟨⟨j_wf, laidOut⟩, j_mr⟩, j_pr⟩, j_nt⟩, j_st1⟩, j_st2⟩, j_st3⟩, j_st4⟩, j_ip⟩, j_un⟩, j_re⟩, j_na⟩, j_ma⟩, j_if⟩, j_mo⟩, j_lp⟩, j_wk⟩, j_vr⟩, j_rr⟩, j_io⟩, j_lt⟩, j_pk⟩, j_sh⟩, j_sd⟩, j_me⟩, j_li⟩, j_mk⟩, j_ki⟩, j_pi⟩, j_ve⟩, j_vf⟩

theorem over : Rows.topFaultsRow.holds Tryz.pinned (OpenSpec.ofChange Rows.topFaultsSpec) :=
  OpenClaim.holds_of_wide 3 Tryz.f3 rfl rfl rfl rfl rfl rfl rfl ⟨rfl, rfl, rfl, rfl, rfl⟩ rfl rfl rfl rfl rfl j_fnm Tryz.func3 joined
    j_is (by unfold Func.isWrapper; first | (rw [if_pos (by decide +kernel)]; kernel_rfl) | (rw [if_neg (by decide +kernel)]; exact ⟨rfl, rfl⟩))
    (fun os started H enc _ => lifted os started H enc)

theorem proved : Rows.TopFaultsCardSaid :=
  Claim7.holds_tied_plain_at .later [] [.handle, .pinned, .data, .data, .data, .data] true (true, "7f74a1a87c239812ac6eb6062e01086fac2a06b1667c7d85a214ea3c877b2254") true
    over (fun _ h => by cases h) j_wt (fun _ h => by cases h) Own.topFaults_row_tie rfl ⟨rfl, rfl⟩ j_mn rfl
    (fun f fn hf hfn => by
      obtain rfl : f = 3 := Option.some.inj (j_fnm.symm.trans hf) |>.symm
      obtain rfl : fn = Tryz.f3 := (Option.some.inj (Tryz.func3.symm.trans hfn)).symm
      exact ⟨j_lk, fun j t ht => by
        rw [Tryz.params3] at ht
        have hm : t ∈ [5, 22] := by
          have := Array.mem_of_getElem? ht
          simp at this
          simp
          omega
        exact (show Tryz.pinned.checked.prog.wantsStandIn t = false by simpa using List.all_eq_true.1 j_sw t hm)⟩)
    j_gb
#print axioms proved
end Go.Proofs.YtampcckdbjbllaaGreatDoor.topFaults
