/-
  name: Labels, and what its iterator hands over.
-/
import Derived.Test.YtfgcbpchapkjbaaNamD
import Derived.Test.YtfgcbpchapkjbaaBase
import Derived.RangeFuncNested
import Derived.RangeFuncBound
import Derived.RangeFuncCalls
import Derived.RangeFuncLeaves
import Derived.RangeFuncFrom
import Derived.Shelf.Abstract
import Derived.Shelf.RegionOpen
import Derived.OwnWalkIn
import Derived.TacticsInMore
import Derived.LoopNIn
import Derived.LoopIn
namespace Go.Proofs.Ytfgcbpchapkjbaa
open Go.RowKit Go.Shelf
attribute [local go_sem] Oper.semAt_some

theorem labels_any (s : ByteArray) (w : World) : Calls Try.prog 20 #[.string s] w fun r w' => r = .returned (.func (.func 39) #[] #[.pointer (some ⟨w.heap.size, 0, none⟩)]) ∧ w.alloc (.cells #[.string s] 9) = w' := by
  go_enter Try.func20, Try.ntmps20
  go_wp2
  go_ret
  exact ⟨rfl, rfl⟩

/-- A label as the iterator hands it over. -/
def bs (l : List UInt8) : ByteArray := ⟨l.toArray⟩
abbrev Lbl := { l : List UInt8 // l.length ≤ 1048576 }
abbrev encS (l : Lbl) : Array Value := #[.string (bs l.1)]
def plain (xs : List Lbl) : List (List UInt8) := xs.map (·.1)
theorem plain_snoc (xs : List Lbl) (x : Lbl) : plain (xs ++ [x]) = plain xs ++ [x.1] := by simp [plain]
theorem plain_length (xs : List Lbl) : (plain xs).length = xs.length := by simp [plain]
def mLeft : Value → Value → Nat
  | .string b, .bool true => b.size + 1
  | _, _ => 0
theorem bs_data (l : List UInt8) : (bs l).data.toList = l := rfl
theorem bs_size (l : List UInt8) : (bs l).size = l.length := rfl

set_option maxHeartbeats 2000000 in
theorem labels_stops (n : Nat) (hn : 2 ≤ n) (B : Nat) (l : List UInt8) (LL : List (List UInt8)) (hLL : labels l = LL) (hl : l.length ≤ 1048576) (w : World) (hc : w.cell? ⟨B, 0, none⟩ = some (.string (bs l))) (Kp : World → World → Prop) :
    SeqStopsK Fence.wide n Try.prog 39 #[.pointer (some ⟨B, 0, none⟩)] encS Kp (fun xs => plain xs = LL) (fun pre => plain pre <+: LL) LL.length w := fun lp J Jx W hW hJ hJx hY h0 => by
  have hB := World.block_lt_of_cell? w _ hc
  have hc' := (hW.cell (p := ⟨B, 0, none⟩) hB).trans hc
  have hn1 : 1 ≤ n := by omega
  have hJd : ∀ pre W1 k, J pre W1 → J pre (W1.drewN k) := fun pre W1 k h => hJ pre W1 _ none h (only_drewN (only_refl _ _) k) (fun r e => by cases e)
  refine callsIn_of_wp Try.func39 rfl trivial ?_ rfl
  simp only [Try.ntmps39, List.size_toArray, List.length_cons, List.length_nil, Nat.reduceAdd, Nat.reduceSub, Array.replicate_succ, Array.replicate_zero, List.push_toArray, List.append_toArray, List.nil_append, List.cons_append]
  have hne : (((bs l).toList == []) = (l == [])) := by rw [ByteArray.toList_eq, bs_data]
  gi_wp2_with fail
  refine wpIn_wide.2 ?_
  go_region
  gi_wp2
  have hlab : labels l = [] ++ (if (!l.isEmpty) then spl [] l else []) := by
    unfold labels
    cases l <;> simp
  have hJ1 : J [] W.drew := hJ [] W _ none h0 (only_drew (only_refl _ _)) (fun r e => by cases e)
  generalize (!l.isEmpty) = m0 at *
  rw [hLL] at hlab
  gi_loopw [3, 4] (fun r m wr => ∃ (pre : List Lbl) (rest : List UInt8) (b : Bool), r = .string (bs rest) ∧ m = .bool b ∧ rest.length ≤ l.length ∧ LL = plain pre ++ (if b then spl [] rest else []) ∧ J pre wr) (fun r m _ => mLeft r m)
  case atStart => exact ⟨[], l, m0, rfl, rfl, Nat.le_refl _, hlab, hJ1⟩
  case round =>
    obtain ⟨pre, rest, b, rfl, rfl, hrl, hLp, hJs⟩ := hrel
    clear hlab hJ1 h0 hne hc' hLL
    cases b with
    | false =>
      simp only [Bool.false_eq_true, if_false, List.append_nil] at hLp
      gi_wp2
      go_end0
      exact ⟨⟨_, rfl⟩, .inl ⟨_, hLp.symm, hJs⟩⟩
    | true =>
      simp only [if_true] at hLp
      have hcs := cutD_cases rest
      have hsp := spl_cut rest
      rw [hsp] at hLp
      have hcut := fun w => cut_any (bs rest) (by rw [bs_size]; omega) w
      rw [bs_data] at hcut
      have hsm : (cutD rest).1.length ≤ rest.length ∧ (cutD rest).2.1.length ≤ rest.length ∧ ((cutD rest).2.2 = true → (cutD rest).2.1.length < rest.length) := by
        rcases hcs with ⟨_, h, _⟩ | ⟨i, _, hi, h, _, _⟩ <;> rw [h] <;> simp <;> omega
      clear hcs hsp
      obtain ⟨q1, q2, q3, hq⟩ : ∃ a b c, cutD rest = (a, b, c) := ⟨_, _, _, rfl⟩
      rw [hq] at hLp hcut hsm
      simp only at hLp hcut hsm
      change ∀ w, Calls _ _ _ w fun e w' => e = .returned (.tuple #[.string (bs q1), .string (bs q2), .bool q3]) ∧ ∃ n, w' = w.drewN n at hcut
      have hq1 : q1.length ≤ 1048576 := by have := hsm.1; omega
      have hY' := fun k => hY pre ⟨q1, hq1⟩ (wr.drewN k) (hJd _ _ _ hJs) (by rw [hLp]; simp [plain])
      have hLq : LL = plain (pre ++ [⟨q1, hq1⟩]) ++ (if q3 then spl [] q2 else []) := by rw [hLp, plain_snoc]; simp
      have HL := Lib.hid hLq
      have HSM := Lib.hid hsm
      clear hLp hLq hq hY hsm
      gi_wp2_with (refine ⟨trivial, ?_⟩; gi_at_call 40; refine (callsIn_wide.2 (hcut _)).mono ?_; rintro e w' ⟨rfl, k, rfl⟩; obtain ⟨fn, tmps, assign, body, hy, hR⟩ := hY' k; have HR := Lib.hid hR; clear hR hY'; dsimp only [encS] at hy)
      refine HR.out.mono ?_
      rintro e W3 (⟨rfl, hJ3, _⟩ | ⟨rfl, hJx3⟩)
      · gi_wp2
        go_roundw
        case rel => exact ⟨pre ++ [⟨q1, hq1⟩], q2, q3, rfl, rfl, by have := HSM.out.2.1; omega, HL.out, hJ3⟩
        case measure =>
          have := HSM.out.2.2
          simp only [mLeft]
          cases q3 with
          | false => simp
          | true => have := this rfl; simp [bs_size]; omega
      · gi_wp2
        refine bodyPost_ret (results_none rfl _ _ _) rfl ?_
        exact ⟨⟨_, rfl⟩, .inr ⟨pre ++ [⟨q1, hq1⟩], ⟨_, HL.out.symm⟩, hJx3⟩⟩
end Go.Proofs.Ytfgcbpchapkjbaa
