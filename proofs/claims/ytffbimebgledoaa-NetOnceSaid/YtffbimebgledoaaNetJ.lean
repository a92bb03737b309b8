/-
  NetOnce: the walk.
-/
import Derived.Test.YtffbimebgledoaaNetI
import Derived.Great.Walk
import Derived.Great.BuildSlice
import Derived.Deep.Cut
import Derived.Laws.CopyOwn
namespace Go.Proofs.Ytffbimebgledoaa
open Go.RowKit Go.Great

/-- Every item's bytes are one byte, x of the list X. -/
def Ones (w : World) (M : List Ent) (X : List Nat) : Prop := M.length = X.length ∧ ∀ (i : Nat) (e : Ent) (x : Nat), M[i]? = some e → X[i]? = some x → e.n = 1 ∧ TB w e.A 1 [(x : Int)]
theorem Ones.chg {B T1 T2 : Nat} {w w' : World} {M : List Ent} {X : List Nat} (h : Ones w M X) (hc : Chg B T1 T2 w w') (h1 : 5 ≠ T1) (h2 : 5 ≠ T2) : Ones w' M X :=
  ⟨h.1, fun i e x he hx => ⟨(h.2 i e x he hx).1, (h.2 i e x he hx).2.chg hc h1 h2⟩⟩
theorem Ones.snoc {w : World} {M : List Ent} {X : List Nat} (h : Ones w M X) {e : Ent} {x : Nat} (hn : e.n = 1) (ht : TB w e.A 1 [(x : Int)]) : Ones w (M ++ [e]) (X ++ [x]) := by
  refine ⟨by simp [h.1], fun i e' x' he hx => ?_⟩
  by_cases hi : i < M.length
  · rw [List.getElem?_append_left hi] at he
    rw [List.getElem?_append_left (by rw [← h.1]; exact hi)] at hx
    exact h.2 i e' x' he hx
  · rw [List.getElem?_append_right (by omega)] at he
    rw [List.getElem?_append_right (by rw [← h.1]; omega)] at hx
    have hz : i - M.length = 0 := by
      have := (List.getElem?_eq_some_iff.1 he).1
      simpa using this
    rw [hz] at he
    rw [← h.1, hz] at hx
    simp at he hx
    subst he hx
    exact ⟨hn, ht⟩
theorem erase_get {α : Type} (M : List α) (k i : Nat) (hk : k < M.length) : (M.take k ++ M.drop (k + 1))[i]? = M[if i < k then i else i + 1]? := by
  by_cases hi : i < k
  · rw [if_pos hi, List.getElem?_append_left (by rw [List.length_take]; omega), List.getElem?_take, if_pos hi]
  · rw [if_neg hi, List.getElem?_append_right (by rw [List.length_take]; omega), List.length_take, Nat.min_eq_left (by omega), List.getElem?_drop]
    congr 1
    omega
theorem Ones.erase {w : World} {M : List Ent} {X : List Nat} (h : Ones w M X) {k : Nat} (hk : k < M.length) : Ones w (M.take k ++ M.drop (k + 1)) (X.take k ++ X.drop (k + 1)) := by
  refine ⟨by simp [h.1], fun i e x he hx => ?_⟩
  rw [erase_get M k i hk] at he
  rw [erase_get X k i (by rw [← h.1]; exact hk)] at hx
  exact h.2 _ e x he hx

abbrev dark : Array Value := Array.replicate 256 (Value.bool false)
theorem dark_zero (w : World) : (zeroValue 43).run Try.prog w = .ok (.agg dark) w := by kernel_rfl
theorem dark_info : (Try.prog.info? 43).map (·.size) = some dark.size := by kernel_rfl
def lit (S : List Bool) : Array Value := (S.map Value.bool).toArray
theorem lit_of (n : Nat) : Array.replicate n (Value.bool false) = lit (List.replicate n false) := by simp [lit]
theorem lit_dark : dark = lit (List.replicate 256 false) := lit_of 256
theorem lit_get (S : List Bool) (i : Nat) (b : Bool) (h : S[i]? = some b) : (lit S)[i]? = some (.bool b) := by simp [lit, h]
theorem lit_set (S : List Bool) (i : Nat) (b : Bool) : (lit S).setIfInBounds i (.bool b) = lit (S.set i b) := by simp [lit, List.map_set]

theorem nodup_erase {X : List Nat} (h : X.Nodup) (p : Nat) : (X.take p ++ X.drop (p + 1)).Nodup := by
  rw [← List.eraseIdx_eq_take_drop_succ]
  exact h.sublist (List.eraseIdx_sublist X p)
theorem ne_erase {X : List Nat} (h : X.Nodup) {p x : Nat} (hx : X[p]? = some x) : ∀ y ∈ X.take p ++ X.drop (p + 1), y ∈ X ∧ y ≠ x := by
  intro y hy
  have hp : p < X.length := (List.getElem?_eq_some_iff.1 hx).1
  obtain ⟨i, hi⟩ := List.mem_iff_getElem?.1 hy
  rw [erase_get X p i hp] at hi
  refine ⟨List.mem_of_getElem? hi, ?_⟩
  rintro rfl
  have := (List.getElem?_inj hp h).1 (hx.trans hi.symm)
  split at this <;> omega

/-- What has been taken, and what is left. -/
def OnceRel (w : World) (B g s j m : Nat) (wr : World) : Prop :=
  ∃ M X S, NetP wr B g 300 M ∧ Ones wr M X ∧ X.length + j = m ∧ X.Nodup ∧ (∀ x ∈ X, x < 256 ∧ S[x]? = some false) ∧ Blk wr s 43 (lit S) ∧ Below w.heap.size w wr

set_option maxHeartbeats 4000000 in
set_option maxRecDepth 100000 in
theorem nonce_walk (m : Nat) (hm : m ≤ 255) (a : Option Addr) (len cap : Nat) (zs : List Int) (w : World) (hr : IntRow .i64 w a len zs) :
    Calls Try.prog 4 #[.int .u8 m, .slice a len cap] w fun r w' => r = .returned (.bool true) ∧ Below w.heap.size w w' := by
  have hl0 := hr.1
  have HR := Lib.hid hr
  have hmw : IntKind.i64.wrap (m : Int) = m := IntWalk.i64_in _ (by omega)
  clear hr
  go_enter Try.func4, Try.ntmps4
  go_wp2_with fail
  refine (nawake_any _).mono ?_
  rintro r w1 ⟨rfl, hb1⟩
  have B1 := Lib.hid hb1
  clear hb1
  go_wp2_with fail
  refine (new_ok 300 w1 (by decide) (by decide)).mono ?_
  rintro r w2 ⟨g, rfl, hn, b2⟩
  have HN := Lib.hid hn
  have B2 := Lib.hid b2
  have hgB : w1.heap.size ≤ g := hn.1
  clear hn b2
  go_wp2_with fail
  go_loopw [29] (fun i wr => ∃ (k : Nat), k ≤ m ∧ i = .int .i64 k ∧ ∃ M, NetP wr w1.heap.size g 300 M ∧ Ones wr M (List.range k) ∧ Below w.heap.size w wr ∧ w1.heap.size ≤ wr.heap.size) (fun i _ => m - (intOf i).toNat)
  case atStart => exact ⟨0, Nat.zero_le _, rfl, [], HN.out, ⟨rfl, fun i e x he => by simp at he⟩, B1.out.trans (B2.out.mono B1.out.size), B2.out.size⟩
  case round =>
    obtain ⟨k, hk, rfl, M, q1, q2, q3, q4⟩ := hrel
    by_cases hlt : k < m
    · have hkw : IntKind.u8.wrap (k : Int) = k := IntWalk.u8_in _ (by omega)
      have hML : M.length = k := by have := q2.1; simpa using this
      have Q1 := Lib.hid q1
      have Q2 := Lib.hid q2
      have Q3 := Lib.hid q3
      clear q1 q2 q3
      go_wp2_with fail
      refine (put_ok w1.heap.size g 300 M 0 false _ 1 1 [(k : Int)] _ (Q1.out.below ((Below.refl _ _).alloc (Nat.le_refl _) _)) (breads_1 _ _ k) (by decide) (by decide) (by decide) (by omega) (by omega)).mono ?_
      rintro r w4 ⟨A4, c4, rfl, p1, t4, h4⟩
      have C4 := Lib.hid (Chg.trans (Chg.of_below ((Below.refl _ _).alloc (Nat.le_refl _) _) q4) h4)
      have P1 := Lib.hid p1
      have T4 := Lib.hid t4
      clear p1 t4 h4
      go_wp2
      go_roundw
      case rel => exact ⟨k + 1, by omega, by go_num, _, P1.out, by rw [List.range_succ]; exact (Q2.out.chg C4.out (by decide) (by decide)).snoc rfl T4.out, Q3.out.trans (C4.out.bel.mono B1.out.size), by have := C4.out.bel.size; omega⟩
      case measure => simp [intOf]; omega
    · obtain rfl : k = m := by omega
      clear hlt hk
      have Q1 := Lib.hid q1
      have Q2 := Lib.hid q2
      have Q3 := Lib.hid q3
      have KD := Lib.hid (Blk.new wr 43 dark)
      have KE := Lib.hid (show Blk ((wr.alloc (.cells dark 43)).setRow wr.heap.size dark) wr.heap.size 43 dark from setRow_heap _ _ _ _ _ _ (Blk.new wr 43 dark))
      have BD := Lib.hid (show Below wr.heap.size wr ((wr.alloc (.cells dark 43)).setRow wr.heap.size dark) from below_setRow ((Below.refl _ _).alloc (Nat.le_refl _) _) (Nat.le_refl _) _)
      clear q1 q2 q3
      go_upto_region 12 with fail
      apply wp_region_lit
      refine wpList_buildTo rfl 43 _ rfl (some 40) rfl dark (by kernel_rfl) ?_
      refine wpList_allocTo rfl (some 8) rfl (.pointer (some ⟨wr.heap.size, 0, none⟩)) (.cells dark 43) (by kernel_rfl) ?_
      refine wpList_store_row rfl 43 (.tmp 8) (.tmp 40) rfl wr.heap.size dark rfl rfl 43 dark KD.out dark_info rfl (by kernel_rfl) ?_
      apply wpList_nil
      have N2 := Lib.hid (Q1.out.below BD.out)
      have O2 := Lib.hid (Q2.out.chg (Chg.of_below (T1 := 55) (T2 := 42) BD.out (Nat.le_refl _)) (by decide) (by decide))
      have B3 := Lib.hid (Q3.out.trans (BD.out.mono Q3.out.size))
      have hsl : w1.heap.size ≤ wr.heap.size := q4
      clear KD BD Q1 Q2 Q3
      generalize (wr.alloc (.cells dark 43)).setRow wr.heap.size dark = w3 at *
      generalize wr.heap.size = s at *
      go_wp2_with fail
      go_loopw [43] (fun i wr => ∃ (j : Nat), j ≤ k ∧ i = .int .i64 j ∧ OnceRel w w1.heap.size g s j k wr) (fun i _ => k - (intOf i).toNat)
      case atStart => exact ⟨0, Nat.zero_le _, rfl, M, List.range k, List.replicate 256 false, N2.out, O2.out, by simp, List.nodup_range, fun x hx => by (have := List.mem_range.1 hx); exact ⟨by omega, by rw [List.getElem?_replicate, if_pos (by omega)]⟩, by rw [← lit_dark]; exact KE.out, B3.out⟩
      case round =>
        obtain ⟨j, hj, rfl, rel⟩ := hrel
        obtain ⟨M, X, S, n1, o1, hX, hnd, hS, bS, b4⟩ := rel
        have hMX := o1.1
        have hwB : w.heap.size ≤ w1.heap.size := B1.out.size
        have hB1s : w.heap.size ≤ wr.heap.size := b4.size
        have N1 := Lib.hid n1
        have O1 := Lib.hid o1
        have HD := Lib.hid hnd
        have HS := Lib.hid hS
        have BS := Lib.hid bS
        have B4 := Lib.hid b4
        by_cases hlt : j < k
        · by_cases hjl : j < len
          · obtain ⟨b, off, z, rfl, hbk, hcell, hzeq, hz⟩ := HR.out.at_ b4 hjl
            clear hzeq hz n1 o1 hnd hS bS b4
            go_wp2_with fail
            clear hcell
            obtain ⟨p, hp⟩ : ∃ p : Nat, (z : Int) % (M.length : Int) = p := ⟨((z : Int) % (M.length : Int)).toNat, by have := Int.emod_nonneg (z : Int) (show (M.length : Int) ≠ 0 by omega); omega⟩
            have hpl : p < M.length := by have := Int.emod_lt_of_pos (z : Int) (show (0 : Int) < M.length by omega); omega
            obtain ⟨⟨eb, eu, eA, en, ec⟩, he⟩ : ∃ e, M[p]? = some e := ⟨_, List.getElem?_eq_getElem hpl⟩
            obtain ⟨x, hx⟩ : ∃ x, X[p]? = some x := ⟨_, List.getElem?_eq_getElem (by omega)⟩
            obtain ⟨hen, het⟩ := O1.out.2 p _ x he hx
            simp only at hen het
            subst hen
            obtain ⟨hx256, hSx⟩ := HS.out x (List.mem_of_getElem? hx)
            refine (take_any _ w1.heap.size g 300 M z p _ N1.out hp he (by omega)).mono ?_
            rintro r w5 ⟨rfl, n5, c5⟩
            obtain ⟨ad, hA, _, hcl⟩ := (het.chg c5 (by decide) (by decide)).1.1.2 (by omega)
            have hcl := hcl 0 _ rfl
            have ea : ad.add 0 = ad := by simp [Addr.add]
            rw [ea] at hcl
            subst hA
            have K5 := Lib.hid (c5.blk BS.out (by decide) (by decide))
            have N5 := Lib.hid n5
            have O5 := Lib.hid ((O1.out.erase hpl).chg c5 (by decide) (by decide))
            have B5 := Lib.hid (B4.out.trans (c5.bel.mono hwB))
            have NE := Lib.hid (ne_erase HD.out hx)
            have ND := Lib.hid (nodup_erase HD.out p)
            have al := (Below.refl w5.heap.size w5).alloc (Nat.le_refl _) (.cells #[.int .i64 eb, .bool eu, .slice (some ad) 1 ec] 42)
            have cad : (w5.alloc (.cells #[.int .i64 eb, .bool eu, .slice (some ad) 1 ec] 42)).cell? ad = some (.int .u8 x) := (al.cell (p := ad) (World.block_lt_of_cell? _ _ hcl)).trans hcl
            have k6 := K5.out.alloc (.cells #[.int .i64 eb, .bool eu, .slice (some ad) 1 ec] 42)
            have cx : (w5.alloc (.cells #[.int .i64 eb, .bool eu, .slice (some ad) 1 ec] 42)).cell? ⟨s, x, none⟩ = some (.bool false) := (k6.cell x).trans (lit_get S x false hSx)
            have zx := k6.frozen x
            have CX := Lib.hid ((Chg.of_below (B := w1.heap.size) (T1 := 43) (T2 := 43) al (by have := c5.bel.size; have := BS.out.lt; omega)).trans (Chg.set_ k6 (.inl rfl) hsl x (.bool true)))
            have K6 := Lib.hid (k6.set_ x (.bool true))
            have hx0 : (0 : Int) ≤ x := by omega
            have hx1 : (x : Int) < 256 := by omega
            have hXl : (X.take p ++ X.drop (p + 1)).length + (j + 1) = k := by rw [List.length_append, List.length_take, List.length_drop]; omega
            have HX := Lib.hid hXl
            clear hp he hx het hSx n5 c5 hcl k6 al hXl ea
            go_wp2
            go_roundw
            case rel => exact ⟨j + 1, by omega, by go_num, _, _, S.set x true, N5.out.chg CX.out (by decide) (by decide) (by decide) (by decide), O5.out.chg CX.out (by decide) (by decide), HX.out, ND.out, fun y hy => ⟨(HS.out y (NE.out y hy).1).1, by rw [List.getElem?_set_ne (by have := (NE.out y hy).2; omega)]; exact (HS.out y (NE.out y hy).1).2⟩, by rw [← lit_set]; exact K6.out, B5.out.trans (CX.out.bel.mono hwB)⟩
            case measure => simp [intOf]; omega
          · clear n1 o1 hnd hS bS b4
            go_wp2_with fail
            obtain ⟨p, hp⟩ : ∃ p : Nat, (0 : Int) % (M.length : Int) = p := ⟨((0 : Int) % (M.length : Int)).toNat, by have := Int.emod_nonneg (0 : Int) (show (M.length : Int) ≠ 0 by omega); omega⟩
            have hpl : p < M.length := by have := Int.emod_lt_of_pos (0 : Int) (show (0 : Int) < M.length by omega); omega
            obtain ⟨⟨eb, eu, eA, en, ec⟩, he⟩ : ∃ e, M[p]? = some e := ⟨_, List.getElem?_eq_getElem hpl⟩
            obtain ⟨x, hx⟩ : ∃ x, X[p]? = some x := ⟨_, List.getElem?_eq_getElem (by omega)⟩
            obtain ⟨hen, het⟩ := O1.out.2 p _ x he hx
            simp only at hen het
            subst hen
            obtain ⟨hx256, hSx⟩ := HS.out x (List.mem_of_getElem? hx)
            refine (take_any _ w1.heap.size g 300 M 0 p _ N1.out hp he (by omega)).mono ?_
            rintro r w5 ⟨rfl, n5, c5⟩
            obtain ⟨ad, hA, _, hcl⟩ := (het.chg c5 (by decide) (by decide)).1.1.2 (by omega)
            have hcl := hcl 0 _ rfl
            have ea : ad.add 0 = ad := by simp [Addr.add]
            rw [ea] at hcl
            subst hA
            have K5 := Lib.hid (c5.blk BS.out (by decide) (by decide))
            have N5 := Lib.hid n5
            have O5 := Lib.hid ((O1.out.erase hpl).chg c5 (by decide) (by decide))
            have B5 := Lib.hid (B4.out.trans (c5.bel.mono hwB))
            have NE := Lib.hid (ne_erase HD.out hx)
            have ND := Lib.hid (nodup_erase HD.out p)
            have al := (Below.refl w5.heap.size w5).alloc (Nat.le_refl _) (.cells #[.int .i64 eb, .bool eu, .slice (some ad) 1 ec] 42)
            have cad : (w5.alloc (.cells #[.int .i64 eb, .bool eu, .slice (some ad) 1 ec] 42)).cell? ad = some (.int .u8 x) := (al.cell (p := ad) (World.block_lt_of_cell? _ _ hcl)).trans hcl
            have k6 := K5.out.alloc (.cells #[.int .i64 eb, .bool eu, .slice (some ad) 1 ec] 42)
            have cx : (w5.alloc (.cells #[.int .i64 eb, .bool eu, .slice (some ad) 1 ec] 42)).cell? ⟨s, x, none⟩ = some (.bool false) := (k6.cell x).trans (lit_get S x false hSx)
            have zx := k6.frozen x
            have CX := Lib.hid ((Chg.of_below (B := w1.heap.size) (T1 := 43) (T2 := 43) al (by have := c5.bel.size; have := BS.out.lt; omega)).trans (Chg.set_ k6 (.inl rfl) hsl x (.bool true)))
            have K6 := Lib.hid (k6.set_ x (.bool true))
            have hx0 : (0 : Int) ≤ x := by omega
            have hx1 : (x : Int) < 256 := by omega
            have hXl : (X.take p ++ X.drop (p + 1)).length + (j + 1) = k := by rw [List.length_append, List.length_take, List.length_drop]; omega
            have HX := Lib.hid hXl
            clear hp he hx het hSx n5 c5 hcl k6 al hXl ea
            go_wp2
            go_roundw
            case rel => exact ⟨j + 1, by omega, by go_num, _, _, S.set x true, N5.out.chg CX.out (by decide) (by decide) (by decide) (by decide), O5.out.chg CX.out (by decide) (by decide), HX.out, ND.out, fun y hy => ⟨(HS.out y (NE.out y hy).1).1, by rw [List.getElem?_set_ne (by have := (NE.out y hy).2; omega)]; exact (HS.out y (NE.out y hy).1).2⟩, by rw [← lit_set]; exact K6.out, B5.out.trans (CX.out.bel.mono hwB)⟩
            case measure => simp [intOf]; omega
        · obtain rfl : j = k := by omega
          obtain rfl : X = [] := List.eq_nil_of_length_eq_zero (by omega)
          obtain rfl : M = [] := List.eq_nil_of_length_eq_zero (by simpa using hMX)
          clear n1 o1 hnd hS bS b4
          go_wp2_with fail
          refine (take_none _ 0 _ (fun w' hb => place_none w' w1.heap.size g 300 0 (N1.out.below hb))).mono ?_
          rintro r w5 ⟨rfl, b5⟩
          have N5 := Lib.hid ((N1.out.below b5).below ((Below.refl _ _).alloc (Nat.le_refl _) (.cells zero3.toArray 42)))
          have B5 := Lib.hid ((B4.out.trans (b5.mono B4.out.size)).alloc (by have := B4.out.size; have := b5.size; omega) (.cells zero3.toArray 42))
          clear b5
          go_wp2_with fail
          refine (len_any _ w1.heap.size g 300 [] N5.out).mono ?_
          rintro r w6 ⟨rfl, rfl⟩
          go_wp2_with fail
          refine (nawake_any _).mono ?_
          rintro r w7 ⟨rfl, b7⟩
          go_wp2
          go_ret
          exact ⟨rfl, B5.out.trans (b7.mono B5.out.size)⟩

theorem nonce_any (n : Int) (h : (Lit.int .u8 n).wf = true) (a : Option Addr) (len cap : Nat) (zs : List Int) (w : World) (hr : IntRow .i64 w a len zs) :
    Calls Try.prog 4 #[.int .u8 n, .slice a len cap] w fun r w' => r = .returned (.bool true) ∧ Below w.heap.size w w' := by
  have hn : 0 ≤ n ∧ n ≤ 255 := by simpa [Lit.wf, IntKind.min, IntKind.max, IntKind.bits, IntKind.signed] using h
  obtain ⟨m, rfl⟩ : ∃ m : Nat, n = m := ⟨n.toNat, by omega⟩
  exact nonce_walk m (by omega) a len cap zs w hr
end Go.Proofs.Ytffbimebgledoaa
