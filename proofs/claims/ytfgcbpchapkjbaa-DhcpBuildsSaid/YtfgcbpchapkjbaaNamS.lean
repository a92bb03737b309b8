/-
  name: bytes with a name behind them, by the document (ref Put).
-/
import Derived.Test.YtfgcbpchapkjbaaNamR
import Derived.Deep.RegionLaw
namespace Go.Proofs.Ytfgcbpchapkjbaa
open Go.RowKit

theorem owns_grown {w w' : World} {b e s n b2 e2 s2 n2 : Nat} {v v2 : Value} {xs xs2 : List Value} (ho : w.ownsRow b e s v n xs) (ho2 : w.ownsRow b2 e2 s2 v2 n2 xs2) (hne : e ≠ e2) (hg : w.grownBy w' v2.ownBlock) : w'.ownsRow b e s v n xs := by
  refine ho.kept hg ?_
  rcases ho.2 with ⟨rfl, _⟩ | ⟨g, cap, cur, rfl, _, hh, _⟩
  · exact .inl rfl
  · exact .inr (owns_ne ho2 (show Blk w g e cur from hh) hne)

section
variable {P : Program} (w : World)
theorem step_append_str {ops : Array Oper} {o : Oper} {a : Act} {K : Act → World → Prop} {Q : Exit → Act → World → Prop} {E : Prop} (hgd : o.guard = none) (sl x : Operand) (t u : TypeId)
    (ho : o.op = .call { callee := .builtin .append, args := #[sl, x], argTypes := #[t, u] })
    (base : Nat) (e : TypeId) (i : TypeInfo) (ht : P.underlying t = some (.slice e)) (hu : P.underlying u = some .string) (hi : P.info? e = some i) (hz : i.zero = some (.int .u8 0))
    (hsize : i.size = 1) (hby : i.bytes = 1)
    (v : Value) (n : Nat) (xs : List Value) (hs : a.eval sl = v) (hown : w.ownsRow base e 1 v n xs) (s : ByteArray) (hx : a.eval x = .string s)
    (h63 : n + s.size ≤ maxLen) (hbytes : n + s.size ≤ 140737488355328) (hbase : base ≤ w.heap.size)
    (h : ∀ v' w', w'.ownsRow base e 1 v' (n + s.size) (xs ++ Lib.strCells s) → w.grownBy w' v.ownBlock → K (a.put o.dst v') w') :
    if Region.wanted o (yielded ops a.tmps) = true then Oper.wp P o a w K Q else E := by
  have hw : Region.wanted o (yielded ops a.tmps) = true := by simp [Region.wanted, hgd]
  rw [if_pos hw]
  obtain ⟨v', w', hr, h2, h3, _⟩ := Lib.run_append_own_string (P := P) w base t u o.type e i ht hu hi hz hsize hby v n xs hown s h63 hbytes hbase
  unfold Oper.wp execOp
  simp only [ho, resolve, invoke, builtin, Sem.run_bind, Sem.run_pure, Result.andThen_ok, List.map_toArray, List.map_cons, List.map_nil, hs, hx, hr]
  exact h v' w' h2 h3
end

theorem owns_drew {w : World} {b e s n : Nat} {v : Value} {xs : List Value} (ho : w.ownsRow b e s v n xs) : w.drew.ownsRow b e s v n xs := ho

set_option maxRecDepth 100000 in
set_option maxHeartbeats 4000000 in
theorem rput_ok (A : Option Addr) (n c : Nat) (xs : List Int) (l : List UInt8) (hl : l.length ≤ 1048576) (hf : fits (labels l)) (w : World) (h : BReads w A n xs) (hn : n ≤ 1048576) :
    Calls Try.prog 15 #[.slice A n c, .string (bs l)] w fun r w' => ∃ A' n' c', r = .returned (.tuple #[.slice A' n' c', .int .i64 0]) ∧ BReads w' A' n' (xs ++ packL (labels l) ++ [0]) ∧ n' ≤ c' ∧ Below w.heap.size w w' := by
  obtain rfl : xs.length = n := h.len
  have H := Lib.hid h
  obtain ⟨i0, hi0, hz0, hz1, hz2⟩ := info_parts byte_info
  have hlab := rgt_true hf
  obtain ⟨L, hL⟩ : ∃ L, labels l = L := ⟨_, rfl⟩
  rw [hL] at hf ⊢
  have hf1 := hf.1
  have hf2 := hf.2
  have hpl := packL_length L
  have hLb : L.length ≤ 255 := by
    have e : ∀ M : List (List UInt8), M.length + 1 ≤ sumL M := by
      intro M
      induction M with
      | nil => simp [sumL]
      | cons a M ih => simp [sumL] at ih ⊢; omega
    have := e L
    omega
  clear h hf
  go_enter Try.func15, Try.ntmps15
  go_wp2_with fail
  refine (rright_any l hl _).mono ?_
  rintro r w1 ⟨rfl, bel1⟩
  rw [hlab]
  have H1 := Lib.hid (H.out.below bel1)
  clear H
  have hw1 : w.heap.size ≤ w1.heap.size := bel1.size
  go_wp2_with (at_builtin
               refine wpList_append_any _ rfl (.const (.slice none 0 0)) (.tmp 12) _ rfl w.heap.size 5 i0 _ 1 1 Try.underlying22 hi0 hz0 hz1 hz2 rfl (by omega) (.slice none 0 0) 0 [] rfl
                 (World.ownsRow_nil _ _ _ _) w1.heap.size A xs.length c (xs.map (Value.int .u8)) rfl H1.out.1 (by intro u hu; obtain ⟨x, _, rfl⟩ := List.mem_map.1 hu; rfl) (by simp only [maxLen]; omega) (by omega) hw1 ?_
               intro v2 w2 own2 grow2 _
               rw [List.nil_append, Nat.zero_add] at own2
               obtain ⟨A2, c2, rfl, _⟩ := own_breads own2)
  have b2 : Below w1.heap.size w1 w2 := ⟨grow2.os, grow2.tape, grow2.output, grow2.size, fun i hi => grow2.block i hi (by simp [Value.ownBlock])⟩
  have hw2 : w1.heap.size ≤ w2.heap.size := b2.size
  have OW2 := Lib.hid own2
  have BEL2 := Lib.hid (bel1.trans (b2.mono hw1))
  clear grow2 own2 b2 bel1 H1
  refine (rlabels_any l hl _).mono ?_
  rintro r w3 ⟨v3, rfl, own3, bel3⟩
  rw [hL] at own3
  clear hL
  obtain ⟨A3, c3, rfl, _⟩ := own_slice own3
  have OW3 := Lib.hid (owns_below OW2.out bel3)
  have OL3 := Lib.hid own3
  have BEL3 := Lib.hid (BEL2.out.trans (bel3.mono BEL2.out.size))
  clear own3 bel3 OW2 BEL2
  go_wp2
  go_loopw [6, 8] (fun v i wr => ∃ (k m : Nat), i = .int .i64 k ∧ k ≤ L.length ∧ (xs ++ packL (L.take k)).length = m ∧ wr.ownsRow w.heap.size 5 1 v m ((xs ++ packL (L.take k)).map (Value.int .u8)) ∧ Below w.heap.size w wr ∧ wr.ownsRow w2.heap.size 9 1 (.slice A3 L.length c3) L.length (strs L)) (fun _ i _ => L.length - (intOf i).toNat)
  case atStart => exact ⟨0, xs.length, rfl, by omega, by simp [packL], by simpa [packL] using OW3.out, BEL3.out, OL3.out⟩
  case round =>
    obtain ⟨k, m, rfl, hk, hm, own, bel, ownL⟩ := hrel
    clear OW3 OL3 BEL3
    have hwr : w.heap.size ≤ wr.heap.size := bel.size
    by_cases hlt : k < L.length
    · obtain ⟨A4, c4, rfl, _⟩ := own_breads own
      obtain ⟨A3', c3', e3, hcells⟩ := own_slice ownL
      injection e3 with e3 _ e3'
      subst e3
      subst e3'
      obtain ⟨g, rfl, hg, hcap, hcell⟩ := hcells (by omega)
      obtain ⟨x, hx⟩ : ∃ x, L[k]? = some x := ⟨_, List.getElem?_eq_getElem hlt⟩
      have hsx : (strs L)[k]? = some (.string (bs x)) := by simp [strs, hx]
      have cellOf : ∀ {W : World}, W.ownsRow w2.heap.size 9 1 (.slice (some ⟨g, 0, none⟩) L.length c3) L.length (strs L) → W.cell? ⟨g, k, none⟩ = some (.string (bs x)) := fun ho => by
        obtain ⟨A6, c6, e6, hc6⟩ := own_slice ho
        injection e6 with e6 _ _
        subst e6
        obtain ⟨g6, e7, _, _, h7⟩ := hc6 (by omega)
        injection e7 with e7
        injection e7 with e7
        subst e7
        have := h7 k _ hsx
        simpa using this
      have htk : L.take (k + 1) = L.take k ++ [x] := by rw [List.take_add_one, hx]; rfl
      have hpn : packL (L.take (k + 1)) = packL (L.take k) ++ (((x.length : Int) % 256) :: nums x) := by rw [htk, packL_snoc]
      have hsub : sumL (L.take (k + 1)) ≤ sumL L := by
        have := sumL_append (L.take (k + 1)) (L.drop (k + 1))
        rwa [List.take_append_drop] at this
      have hxl : x.length ≤ 255 ∧ (packL (L.take k)).length ≤ 255 := by
        have h1 := packL_length (L.take k)
        rw [htk, sumL_snoc] at hsub
        omega
      have hml : m ≤ 1048576 + 255 := by rw [← hm, List.length_append]; omega
      generalize hys : xs ++ packL (L.take k) = ys at *
      have hsz : (bs x).size = x.length := rfl
      have hbt : Below wr.heap.size wr (wr.alloc (.cells #[.int .u8 ((x.length : Int) % 256)] 5)) := (Below.refl _ _).alloc (Nat.le_refl _) _
      have d0 : wr.cell? ⟨g, k, none⟩ = some (.string (bs x)) := cellOf ownL
      have d1 : (wr.alloc (.cells #[.int .u8 ((x.length : Int) % 256)] 5)).cell? ⟨g, k, none⟩ = some (.string (bs x)) := cellOf (ownL.alloc _)
      have OW := Lib.hid own
      have OL := Lib.hid ownL
      have BW := Lib.hid bel
      have HPN := Lib.hid hpn
      clear own ownL bel hpn hcells hcell hsx hsub htk hx
      go_wp2_with fail
      go_region_law (first
        | (refine step_append_any _ rfl (.tmp 22) (.tmp 29) 22 rfl w.heap.size 5 i0 _ 1 1 Try.underlying22 hi0 hz0 hz1 hz2 rfl (by omega) (.slice A4 m c4) m (ys.map (Value.int .u8)) (by simp [Act.eval])
             (owns_drew (OW.out.alloc _)) (wr.heap.size + 1) (some ⟨wr.heap.size, 0, none⟩) 1 1 [.int .u8 ((x.length : Int) % 256)] (by simp [Act.eval]) (reads_one _ _ _).drew (by simp [Value.oneCell']) (by simp only [maxLen]; omega) (by omega) (by simp; omega) ?_
           intro v5 w5 o5 g5 _
           have o5' : w5.ownsRow w.heap.size 5 1 v5 (m + 1) ((ys ++ [(x.length : Int) % 256]).map (Value.int .u8)) := by simpa using o5
           obtain ⟨A5, c5, rfl, _⟩ := own_breads o5'
           have b5 := (app_others (W := wr) (Wt := (wr.alloc (.cells #[.int .u8 ((x.length : Int) % 256)] 5)).drew) hbt.drew OW.out hwr g5).2
           have O5 := Lib.hid o5'
           have B5 := Lib.hid b5
           have OL5 := Lib.hid (owns_grown (owns_drew (OL.out.alloc _)) (owns_drew (OW.out.alloc _)) (by decide) g5)
           have d2 : w5.cell? ⟨g, k, none⟩ = some (.string (bs x)) := cellOf OL5.out
           clear o5 o5' g5 b5)
        | (refine step_append_str w5 rfl (.tmp 30) (.tmp 34) 22 9 rfl w.heap.size 5 i0 Try.underlying22 Try.underlying9 hi0 hz0 hz1 hz2 (.slice A5 (m + 1) c5) (m + 1) _ (by simp [Act.eval])
             O5.out (bs x) (by simp [Act.eval]) (by rw [hsz]; simp only [maxLen]; omega) (by rw [hsz]; omega) (Nat.le_trans hwr B5.out.size) ?_
           intro v6 w6 o6 g6
           have o6' : w6.ownsRow w.heap.size 5 1 v6 (m + 1 + x.length) ((ys ++ (((x.length : Int) % 256) :: nums x)).map (Value.int .u8)) := by rw [hsz] at o6; simpa [str_nums] using o6
           obtain ⟨A6, c6, rfl, _⟩ := own_breads o6'
           have b6 := (app_others (Below.refl _ _) O5.out (Nat.le_trans hwr B5.out.size) g6).2
           have O6 := Lib.hid o6'
           have B6 := Lib.hid (B5.out.trans b6)
           have OL6 := Lib.hid (owns_grown OL5.out O5.out (by decide) g6)
           clear o6 o6' g6 b6))
      all_goals
        simp only [Act.put, List.getElem_toArray, List.getElem_cons_succ, List.getElem_cons_zero, List.setIfInBounds_toArray, List.set_cons_zero, List.set_cons_succ]
        clear d0 d1 d2 hbt
        go_wp2
        have hz : xs ++ packL (L.take (k + 1)) = ys ++ (((x.length : Int) % 256) :: nums x) := by rw [HPN.out, ← List.append_assoc, hys]
        have hyl : ys.length = m := hm
        refine ⟨⟨k + 1, m + 1 + x.length, by go_num, hlt, by rw [hz, List.length_append, hyl]; simp [nums_length]; omega, by rw [hz]; exact O6.out, BW.out.trans B6.out, OL6.out⟩, by simp [intOf]; omega⟩
    · obtain rfl : k = L.length := by omega
      rw [List.take_length] at hm own
      obtain ⟨A4, c4, rfl, _⟩ := own_breads own
      have hml : m ≤ 1048576 + 255 := by rw [← hm, List.length_append]; omega
      have OW := Lib.hid own
      generalize hys : xs ++ packL L = ys at *
      clear own ownL hm
      have hbt : Below wr.heap.size wr (wr.alloc (.cells #[.int .u8 0] 5)) := (Below.refl _ _).alloc (Nat.le_refl _) _
      go_wp2_with (at_builtin
                   refine wpList_append_any _ rfl (.tmp 36) (.tmp 37) _ rfl w.heap.size 5 i0 _ 1 1 Try.underlying22 hi0 hz0 hz1 hz2 rfl (by omega) (.slice A4 m c4) m (ys.map (Value.int .u8)) rfl
                     (OW.out.alloc _) (wr.heap.size + 1) (some ⟨wr.heap.size, 0, none⟩) 1 1 [.int .u8 0] rfl (reads_one _ _ _) (by simp [Value.oneCell']) (by simp only [maxLen]; omega) (by omega) (by simp; omega) ?_
                   intro v5 w5 own5 grow5 _
                   have own5' : w5.ownsRow w.heap.size 5 1 v5 (m + 1) ((ys ++ [0]).map (Value.int .u8)) := by simpa using own5
                   obtain ⟨A5, c5, rfl, hbr, hcap⟩ := own_breads own5')
      have hb5 := (app_others hbt OW.out hwr grow5).2
      go_ret2
      exact ⟨A5, m + 1, c5, rfl, by rw [hys]; exact hbr, hcap, bel.trans hb5⟩
end Go.Proofs.Ytfgcbpchapkjbaa
