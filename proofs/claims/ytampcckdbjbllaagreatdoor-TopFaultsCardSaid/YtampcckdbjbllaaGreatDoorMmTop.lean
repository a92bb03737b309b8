/-
  awake, wherever it is called; TopFaults, whatever is given: by runs in the kernel.
-/
import Derived.Test.YtampcckdbjbllaaGreatDoorMmAw
import Derived.Test.YtampcckdbjbllaaGreatDoorMmDo1
import Derived.Test.YtampcckdbjbllaaGreatDoorMmDo2
import Derived.Test.YtampcckdbjbllaaGreatDoorMmDo3
import Derived.Test.YtampcckdbjbllaaGreatDoorMmDo4
set_option linter.unusedVariables false
set_option linter.unusedSectionVars false
set_option maxRecDepth 100000
namespace Go.Proofs.YtampcckdbjbllaaGreatDoor.Ev
noncomputable section
open Go.RowKit
/-- Nothing is given. -/
def giv0 (d : List UInt8) (h : d = []) (A : Option Addr) (c : Nat) : Giv d := ⟨A, c, 0, .chan 0 #[] false 0 0 false, fun _ _ j b hb => by subst h; simp at hb⟩
@[reducible] def none0 : Given := ⟨[], by simp, giv0 [] rfl none 0, 0, by omega, 0, by omega, 3, .inl rfl⟩
theorem awake_any (w : World) : Calls Tryz.prog 4 #[] w fun r w' => r = .returned (.bool true) ∧ Below w.heap.size w w' := by
  letI := none0
  refine (awm_ok (fun _ => none) w #[] (AR.empty _) ⟨fun b b' r x x' e => (by cases e), fun b r x e => (by cases e), fun b r x o e => (by cases e)⟩ (fun _ _ _ => rfl)).mono ?_
  rintro e w' ⟨q, v', rfl, hv, hi⟩
  have hv : VR q (.bool true) v' := hv
  cases hv
  exact ⟨rfl, hi.os, hi.tape, hi.output, hi.size, fun k hk => hi.kept k hk (fun b x h => by cases h)⟩
def aw2m : Memo := ⟨4, [], [], 1492, [], 1492, .bool true⟩
theorem aw2m_ok [Given] : MemoOK Tryz.prog aw2m := by
  letI := kn0
  letI := oraG tbl nzN []
  intro p w args' har hs hf
  have ha : args' = #[] := Array.eq_empty_of_size_eq_zero (by have := har.1; simpa [aw2m] using this.symm)
  subst ha
  refine (awake_any w).mono ?_
  rintro e w' ⟨rfl, hb⟩
  exact ⟨p, _, rfl, .bool _, Into.below hs hb⟩
def topMs : List Memo := [buildm, dgm, do1m, do2m, mkm, bdm, do3m, do4m, pam, icm, qum, aw2m]
theorem topMs_ok [Given] : ∀ m ∈ topMs, MemoOK Tryz.prog m :=
  letI := kn0
  memos_cons buildm_ok (memos_cons dgm_ok (memos_cons do1m_ok (memos_cons do2m_ok (memos_cons mkm_ok (memos_cons bdm_ok (memos_cons do3m_ok (memos_cons do4m_ok (memos_cons pam_ok (memos_cons icm_ok (memos_cons qum_ok (memos_cons aw2m_ok memos_nil)))))))))))
def topm : Memo := ⟨3, [.chan (some 3374), .chan (some 3246), .complex .f64 0 0], [(0, some (.chan 0 #[] false 0 0 false))], 1, [], 1492, .bool true⟩
theorem top_run [Given] (c n : Nat) (hc : Given.kind % 3 = c) (hn : Given.n = n) (h : @memoRun (knN n) topm (@run (@oraC (knN n) c topMs) Tryz.prog 20000 topm.f topm.args.toArray (ofRows topm.R topm.nx)) = true) : MemoOK Tryz.prog topm :=
  letI := knN n
  haveI : KnOK := knN_ok hn
  letI := oraC c topMs
  memo_ok (run_memoC hc topMs_ok 20000) h
theorem topm_ok0 [Given] (hc : Given.kind % 3 = 0) (hn : Given.n = 3) : MemoOK Tryz.prog topm := top_run 0 3 hc hn (by kernel_rfl)
theorem topm_ok1 [Given] (hc : Given.kind % 3 = 1) (hn : Given.n = 11) : MemoOK Tryz.prog topm := top_run 1 11 hc hn (by kernel_rfl)
theorem topm_ok2 [Given] (hc : Given.kind % 3 = 2) (hn : Given.n = 12) : MemoOK Tryz.prog topm := top_run 2 12 hc hn (by kernel_rfl)
end
end Go.Proofs.YtampcckdbjbllaaGreatDoor.Ev
