/-
  cmd: Parse.
-/
import Derived.Test.YtkbbkddepcjoaaaDoorCmdI
import Derived.BigQuiet
import Derived.WalkMore
import Derived.Scope
namespace Go.Proofs.YtkbbkddepcjoaaaDoor
open Go.RowKit Go.Great

def vW (k : Nat) : List UInt8 := if k = 1 then wFlush else if k = 2 then wMap else if k = 3 then wUnmap else wShow
def vM (k : Nat) : Nat := if k = 1 then 2 else if k = 2 then 7 else if k = 3 then 5 else 1
def fit (k : Nat) (L : List (List UInt8)) : Prop := L.head? = some (vW k) ∧ vM k = L.length
theorem fit_parse {k : Nat} {x : List UInt8} {L : List (List UInt8)} (hk : 1 ≤ k ∧ k ≤ 4) (h : fit k (x :: L)) : parseC (x :: L) = readV k L := by
  obtain ⟨h1, h2⟩ := h
  simp only [List.head?_cons, Option.some.injEq] at h1
  subst h1
  rcases (show k = 1 ∨ k = 2 ∨ k = 3 ∨ k = 4 by omega) with rfl | rfl | rfl | rfl
  · rcases L with _ | ⟨b, _ | ⟨c, r⟩⟩
    · simp [vM] at h2
    · show parseC [wFlush, b] = readV 1 [b]
      rw [readV_1]
      unfold parseC
      simp only [if_true]
      cases numV b 63 <;> rfl
    · simp [vM] at h2
  · rcases L with _ | ⟨b, _ | ⟨c, _ | ⟨d, _ | ⟨e, _ | ⟨f, _ | ⟨g, _ | ⟨z, r⟩⟩⟩⟩⟩⟩⟩
    all_goals first | (simp [vM] at h2; done) | rfl
  · rcases L with _ | ⟨b, _ | ⟨c, _ | ⟨d, _ | ⟨e, _ | ⟨z, r⟩⟩⟩⟩⟩
    all_goals first | (simp [vM] at h2; done) | rfl
  · rcases L with _ | ⟨b, r⟩
    · rfl
    · simp [vM] at h2
theorem nofit_parse {L : List (List UInt8)} (h : ∀ k, 1 ≤ k → k < 5 → ¬ fit k L) : parseC L = none := by
  have h1 := h 1 (by omega) (by omega)
  have h2 := h 2 (by omega) (by omega)
  have h3 := h 3 (by omega) (by omega)
  have h4 := h 4 (by omega) (by omega)
  unfold parseC
  split
  · rw [if_neg]; intro e; subst e; exact h4 ⟨rfl, rfl⟩
  · rw [if_neg]; intro e; subst e; exact h1 ⟨rfl, rfl⟩
  · rw [if_neg]; intro e; subst e; exact h3 ⟨rfl, rfl⟩
  · rw [if_neg]; intro e; subst e; exact h2 ⟨rfl, rfl⟩
  · rfl
theorem read_any (k : Nat) (hk : 1 ≤ k ∧ k ≤ 4) (A : Option Addr) (n c : Nat) (L : List (List UInt8)) (hm : vM k = L.length + 1) (hL : ∀ x ∈ L, x.length ≤ 1048576) (w : World) (h : TS w.heap.size w A n c L) : Calls Tryd.prog 42 #[.int .i64 (k : Nat), .slice A n c] w (ReadP w (readV (k : Nat) L)) := by
  rcases (show k = 1 ∨ k = 2 ∨ k = 3 ∨ k = 4 by omega) with rfl | rfl | rfl | rfl
  · rcases L with _ | ⟨b, _ | ⟨c, r⟩⟩
    all_goals first | (simp [vM] at hm; done) | skip
    exact read1_any A n _ b (hL _ (by simp)) w h
  · rcases L with _ | ⟨b, _ | ⟨c, _ | ⟨d, _ | ⟨e, _ | ⟨f, _ | ⟨g, _ | ⟨z, r⟩⟩⟩⟩⟩⟩⟩
    all_goals first | (simp [vM] at hm; done) | skip
    exact read2_any A n _ b c d e f g (hL _ (by simp)) (hL _ (by simp)) (hL _ (by simp)) (hL _ (by simp)) (hL _ (by simp)) w h
  · rcases L with _ | ⟨b, _ | ⟨c, _ | ⟨d, _ | ⟨e, _ | ⟨z, r⟩⟩⟩⟩⟩
    all_goals first | (simp [vM] at hm; done) | skip
    exact read3_any A n _ b c d e (hL _ (by simp)) (hL _ (by simp)) (hL _ (by simp)) w h
  · rcases L with _ | ⟨b, r⟩
    all_goals first | (simp [vM] at hm; done) | skip
    exact read4_any A n _ w h

theorem verb_size : (Tryd.prog.info? 79).map (·.size) = some 2 := by kernel_rfl
set_option maxRecDepth 100000 in
theorem verbOf_any (k : Nat) (hk : 1 ≤ k ∧ k ≤ 4) (w : World) : Calls Tryd.prog 41 #[.int .i64 (k : Nat)] w fun r w' => r = .returned (.tuple #[.agg #[.string (bs (vW k)), .int .i64 (vM k : Nat)], .bool true]) ∧ Below w.heap.size w w' := by
  rcases (show k = 1 ∨ k = 2 ∨ k = 3 ∨ k = 4 by omega) with rfl | rfl | rfl | rfl
  all_goals
    go_enter Tryd.func41, Tryd.ntmps41
    go_wp2
    refine bodyPost_ret (v := .tuple #[.agg #[.string (bs (vW _)), .int .i64 (vM _ : Nat)], .bool true]) ?_ rfl ⟨rfl, (Below.refl _ _).alloc (Nat.le_refl _) _⟩
    have hvi := verb_size
    simp [results, Tryd.f41, asAddr, run_loadVar_row _ w.heap.size 79 79 #[.string _, .int .i64 _] (0, 0) _ (Blk.new w _ _) Tryd.underlying79 rfl hvi]
    exact ⟨rfl, rfl⟩

/-- What a text says, of 200 bytes at most. -/
def parseO (s : List UInt8) : Cm × Int := if 200 < s.length then (zeroC, 6) else match parseC (piecesB [] s) with | some c => (c, 0) | none => (zeroC, 13)
def parseOV (s : List UInt8) : Value := .tuple #[cmV (parseO s).1, .int .i64 (parseO s).2]
theorem pieces_head (s cur : List UInt8) : ∃ x L, piecesB cur s = x :: L := by
  cases h : piecesB cur s with
  | nil => exact absurd h (piecesB_ne cur s)
  | cons x L => exact ⟨x, L, rfl⟩

/-- The world while a text's verb is sought. -/
def PW (w : World) (M : List (List UInt8)) (W : World) : Prop := Blk W w.heap.size 37 (cmC zeroC) ∧ TRow W (w.heap.size + 1) 0 M ∧ Below w.heap.size w W
theorem PW.on {w W W' : World} {M : List (List UInt8)} (h : PW w M W) (hb : Below W.heap.size W W') : PW w M W' := ⟨h.1.on hb, h.2.1.on hb, h.2.2.trans (hb.mono h.2.2.size)⟩
theorem PW.new {w W : World} {M : List (List UInt8)} (h : PW w M W) (o : Obj) : PW w M (W.alloc o) := h.on ((Below.refl _ _).alloc (Nat.le_refl _) _)
theorem cparse_ret {w W : World} {a : Act} {q : Cm} {z : Int} {R : Ending → World → Prop} (h2 : a.tmps[2]?.getD undef = .pointer (some ⟨w.heap.size, 0, none⟩)) (h3 : a.tmps[3]?.getD undef = .int .i64 z) (hd : a.defers = [])
    (hb : Blk W w.heap.size 37 (cmC q)) (hR : R (.returned (.tuple #[cmV q, .int .i64 z])) W) : bodyPost Tryd.prog Tryd.f15 R .ret a W := by
  refine bodyPost_ret (v := .tuple #[cmV q, .int .i64 z]) ?_ hd hR
  simp [results, Tryd.f15, asAddr, h2, h3, run_loadVar_row _ w.heap.size 37 37 (cmC q) (0, 0) _ hb Tryd.underlying37 rfl cm_size]
  rfl

set_option linter.unusedSimpArgs false in
set_option maxRecDepth 100000 in
set_option maxHeartbeats 4000000 in
theorem cparse_any (s : List UInt8) (hs : s.length ≤ 1048576) (w : World) : Calls Tryd.prog 15 #[.string (bs s)] w fun e w' => e = .returned (parseOV s) ∧ Below w.heap.size w w' := by
  have hsz : (bs s).size = s.length := rfl
  unfold parseOV
  by_cases h200 : 200 < s.length
  · have hv := Lib.hid (show parseO s = (zeroC, 6) by unfold parseO; rw [if_pos h200])
    have hd : decide ((200 : Int) < (s.length : Int)) = true := by simp; omega
    go_enter Tryd.func15, Tryd.ntmps15
    go_wp2
    go_step3
    go_wp2
    try simp only [Exit.noGoto]
    refine cparse_ret (w := w) (q := zeroC) (z := 6) rfl rfl rfl (Blk.new _ _ _) ⟨by rw [hv.out], (Below.refl _ _).alloc (Nat.le_refl _) _⟩
  · have hd : decide ((200 : Int) < (s.length : Int)) = false := by simp; omega
    have hsp := splitB_any s hs (w.alloc (.cells (cmC zeroC) 37))
    have hpl : ∀ x ∈ piecesB [] s, x.length ≤ 1048576 := fun x hx => by have := piecesB_mem s [] x hx; simp at this; omega
    have hv : parseO s = match parseC (piecesB [] s) with | some c => (c, 0) | none => (zeroC, 13) := by unfold parseO; rw [if_neg h200]
    have hpn := piecesB_len s []
    have hcl := List.count_le_length (a := (32 : UInt8)) (l := s)
    obtain ⟨x, L, hxL⟩ := pieces_head s []
    rw [hxL] at hsp hpl hv hpn
    obtain ⟨N, hN⟩ : ∃ N, (x :: L).length = N := ⟨_, rfl⟩
    rw [hN] at hsp hpn
    have hN0 : 0 < N := by rw [← hN]; simp
    have hNm : N ≤ 1048577 := by omega
    have HN := Lib.hid hN
    have HV := Lib.hid hv
    have HPL := Lib.hid hpl
    have HSP := Lib.hid hsp
    clear hv hpl hsp hxL h200 hpn hcl hN
    go_enter Tryd.func15, Tryd.ntmps15
    go_wp2
    go_step3
    go_wp2_with (go_at_call 32; refine HSP.out.mono ?_; rintro e w1 ⟨rfl, tr1, b1⟩)
    have P1 : PW w (x :: L) w1 := by
      have e0 : (w.alloc (.cells (cmC zeroC) 37)).heap.size = w.heap.size + 1 := by simp
      have l0 : Below w.heap.size w (w.alloc (.cells (cmC zeroC) 37)) := (Below.refl _ _).alloc (Nat.le_refl _) _
      exact ⟨(Blk.new w _ _).on b1, by rw [← e0]; exact tr1, l0.trans (b1.mono (by omega))⟩
    have PW1 := Lib.hid P1
    clear tr1 b1 P1
    go_step3
    go_wp2
    go_loopw [5] (fun i wr => ∃ k : Nat, 1 ≤ k ∧ k ≤ 5 ∧ i = .int .i64 k ∧ (∀ m, 1 ≤ m → m < k → ¬ fit m (x :: L)) ∧ PW w (x :: L) wr) (fun i _ => 5 - (intOf i).toNat)
    case atStart => exact ⟨1, by omega, by omega, rfl, fun m _ _ => by omega, PW1.out⟩
    case round =>
      obtain ⟨k, hk1, hk5, rfl, hno, hpw⟩ := hrel
      clear PW1
      have NO := Lib.hid hno
      have HP := Lib.hid hpw
      clear hno hpw
      by_cases hk4 : k ≤ 4
      · have hverb := fun W => verbOf_any k ⟨hk1, hk4⟩ W
        have hle := list_eq (vW k) x
        obtain ⟨T, hT⟩ : ∃ T, vW k = T := ⟨_, rfl⟩
        obtain ⟨M, hM⟩ : ∃ M, vM k = M := ⟨_, rfl⟩
        rw [hT] at hle
        rw [hT, hM] at hverb
        have HVERB := Lib.hid hverb
        have HT := Lib.hid hT
        have HM := Lib.hid hM
        clear hverb hT hM
        go_upto_region 8 with (go_at_call 41; refine (HVERB.out _).mono ?_; rintro e w2 ⟨rfl, b2⟩; have HP2 := Lib.hid (HP.out.on b2); clear b2)
        have hp3 := HP2.out.new (.cells #[.string (bs T), .int .i64 (M : Nat)] 79)
        have bv := Blk.new w2 79 #[.string (bs T), .int .i64 (M : Nat)]
        obtain ⟨V, hV⟩ : ∃ V, w2.heap.size = V := ⟨_, rfl⟩
        rw [hV] at bv ⊢
        generalize (w2.alloc (.cells #[.string (bs T), .int .i64 (M : Nat)] 79)) = w3 at hp3 bv ⊢
        have HP3 := Lib.hid hp3
        have c0 := bv.cell 0
        have c1 := bv.cell 1
        simp only [List.getElem?_toArray, List.getElem?_cons_zero, List.getElem?_cons_succ] at c0 c1
        have x0 := hp3.2.1.cell (k := 0) rfl
        simp only [Nat.add_zero] at x0
        clear hp3 bv hV HP2
        have hN1 : (0 : Int) < (N : Int) := by omega
        by_cases hTx : T = x
        · rw [decide_eq_true hTx] at hle
          by_cases hMN : M = N
          · have hfit : fit k (x :: L) := ⟨by rw [HT.out, hTx]; rfl, by rw [HM.out, HN.out]; exact hMN⟩
            have hpc := fit_parse ⟨hk1, hk4⟩ hfit
            have hmn : ((M : Int) != (N : Int)) = false := by simp; omega
            obtain ⟨O, hO⟩ : ∃ O, readV (k : Nat) L = O := ⟨_, rfl⟩
            have hm1 : vM k = L.length + 1 := hfit.2
            have hrd := fun A n c W h => read_any k ⟨hk1, hk4⟩ A n c L hm1 (fun y hy => HPL.out y (by simp [hy])) W h
            rw [hO] at hpc hrd
            have HV2 := HV.out
            rw [hpc] at HV2
            have HVO := Lib.hid HV2
            have HRD := Lib.hid hrd
            have hts : ∀ q, TS (w3.drewN q).heap.size (w3.drewN q) (some ⟨w.heap.size + 1, 0, none⟩) N N (x :: L) := fun q => by
              have := TS.of (B := w3.heap.size) (c := N) HP3.out.2.1 HP3.out.2.1.1 (by rw [HN.out]; exact Nat.le_refl _) (by simp only [maxLen]; omega)
              rw [HN.out] at this
              exact this
            obtain ⟨A', hsl, htl⟩ := TS.tail (B := w3.heap.size) (A := some ⟨w.heap.size + 1, 0, none⟩) (Nat.le_refl N) 1 hN0
            have hsl : ∀ w' : World, (Instr.slice 57 (.slice (some ⟨w.heap.size + 1, 0, none⟩) N N) (some (.int .i64 1)) none none).run Tryd.prog w' = .ok (.slice A' (N - 1) (N - 1)) w' := hsl
            have HTS := Lib.hid (fun q => htl _ _ (hts q))
            clear hfit hpc hO hm1 hrd HV2 hts htl hMN hTx
            go_quiet (fail)
            have hp4 : PW w (x :: L) (w3.drewN nq) := ⟨HP3.out.1, HP3.out.2.1, below_drewN HP3.out.2.2 nq⟩
            have HP4 := Lib.hid hp4
            have HT4 := Lib.hid (HTS.out nq)
            clear hp4 c0 c1 x0 HP3 HTS
            generalize w3.drewN nq = w4 at HP4 HT4 ⊢
            clear HSP
            go_upto_region 10 with (go_at_call 42; refine (HRD.out _ _ _ _ HT4.out.in_).mono ?_; rintro e w5 ⟨q, rfl, hq, b5⟩; have HQ := Lib.hid hq; have HP5 := Lib.hid (HP4.out.on b5); clear hq b5; unfold cmV cmC)
            have hp6 := HP5.out.new (.cells (cmC q) 37)
            have bq := Blk.new w5 37 (cmC q)
            obtain ⟨V5, hV5⟩ : ∃ V5, w5.heap.size = V5 := ⟨_, rfl⟩
            have hne : w.heap.size ≠ V5 := by
              have := HP5.out.1.lt
              omega
            rw [hV5] at bq ⊢
            unfold cmC at hp6 bq
            generalize (w5.alloc (.cells _ 37)) = w6 at hp6 bq ⊢
            have HP6 := Lib.hid hp6
            have BQ := Lib.hid bq
            clear hp6 bq hV5 HP5
            cases O with
            | none =>
              have HR := Lib.hid (show parseO s = (zeroC, 13) from HVO.out)
              go_upto_region 12 with fail
              apply wp_region_lit
              refine wpList_buildTo rfl 37 _ rfl (some 48) rfl (cmC zeroC) (by kernel_rfl) ?_
              refine wpList_store_row rfl 37 (.tmp 2) (.tmp 48) rfl w.heap.size (cmC zeroC) rfl rfl 37 (cmC zeroC) HP6.out.1 cm_size rfl (cm_one zeroC) ?_
              go_wp2_with fail
              try simp only [Exit.noGoto]
              refine cparse_ret (w := w) (q := zeroC) (z := 13) rfl rfl rfl (setRow_heap _ _ _ _ _ _ HP6.out.1) ⟨by rw [HR.out], below_setRow HP6.out.2.2 (Nat.le_refl _) _⟩
            | some cc =>
              obtain rfl := HQ.out cc rfl
              have HR := Lib.hid (show parseO s = (q, 0) from HVO.out)
              go_upto_region 11 with fail
              apply wp_region_lit
              refine wpList_load_row rfl 37 (.tmp 8) rfl V5 rfl 37 (cmC q) (0, 0) _ BQ.out Tryd.underlying37 rfl cm_size ?_
              refine wpList_store_row rfl 37 (.tmp 2) (.tmp 47) rfl w.heap.size (cmC q) rfl rfl 37 (cmC zeroC) HP6.out.1 cm_size rfl (cm_one q) ?_
              go_wp2_with fail
              try simp only [Exit.noGoto]
              refine cparse_ret (w := w) (q := q) (z := 0) rfl rfl rfl (setRow_heap _ _ _ _ _ _ HP6.out.1) ⟨by rw [HR.out], below_setRow HP6.out.2.2 (Nat.le_refl _) _⟩
          · have hmn : ((M : Int) != (N : Int)) = true := by simp; omega
            have hnx : ∀ m, 1 ≤ m → m < k + 1 → ¬ fit m (x :: L) := fun m h1 h2 => by
              by_cases hmk : m = k
              · subst hmk; exact fun h => hMN (by rw [← HM.out, ← HN.out]; exact h.2)
              · exact NO.out m h1 (by omega)
            have NX := Lib.hid hnx
            clear hnx hTx
            go_quiet (fail)
            have hp4 : PW w (x :: L) (w3.drewN nq) := ⟨HP3.out.1, HP3.out.2.1, below_drewN HP3.out.2.2 nq⟩
            have HP4 := Lib.hid hp4
            clear hp4 c0 c1 x0 HP3
            generalize w3.drewN nq = w4 at HP4 ⊢
            go_wp2
            exact ⟨⟨k + 1, by omega, by omega, by go_num, NX.out, HP4.out⟩, by simp [intOf]; omega⟩
        · rw [decide_eq_false hTx] at hle
          have hnx : ∀ m, 1 ≤ m → m < k + 1 → ¬ fit m (x :: L) := fun m h1 h2 => by
            by_cases hmk : m = k
            · subst hmk; exact fun h => hTx (by rw [← HT.out]; have := h.1; simpa using this.symm)
            · exact NO.out m h1 (by omega)
          have NX := Lib.hid hnx
          clear hnx hTx
          go_quiet (fail)
          have hp4 : PW w (x :: L) (w3.drewN nq) := ⟨HP3.out.1, HP3.out.2.1, below_drewN HP3.out.2.2 nq⟩
          have HP4 := Lib.hid hp4
          clear hp4 c0 c1 x0 HP3
          generalize w3.drewN nq = w4 at HP4 ⊢
          go_wp2
          exact ⟨⟨k + 1, by omega, by omega, by go_num, NX.out, HP4.out⟩, by simp [intOf]; omega⟩
      · obtain rfl : k = 5 := by omega
        have HR := Lib.hid (show parseO s = (zeroC, 13) by rw [HV.out, nofit_parse NO.out])
        go_upto_region 12 with fail
        apply wp_region_lit
        refine wpList_buildTo rfl 37 _ rfl (some 48) rfl (cmC zeroC) (by kernel_rfl) ?_
        refine wpList_store_row rfl 37 (.tmp 2) (.tmp 48) rfl w.heap.size (cmC zeroC) rfl rfl 37 (cmC zeroC) HP.out.1 cm_size rfl (cm_one zeroC) ?_
        go_wp2_with fail
        try simp only [Exit.noGoto]
        refine cparse_ret (w := w) (q := zeroC) (z := 13) rfl rfl rfl (setRow_heap _ _ _ _ _ _ HP.out.1) ⟨by rw [HR.out], below_setRow HP.out.2.2 (Nat.le_refl _) _⟩
end Go.Proofs.YtkbbkddepcjoaaaDoor
