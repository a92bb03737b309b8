/-
  NetLives at a most that is no size: nobody on both sides.
-/
import Derived.Test.YtffbimebgledoaaNetR
namespace Go.Proofs.Ytffbimebgledoaa
open Go.RowKit Go.Shelf
attribute [local go_sem] Oper.semAt_some

/-- The law's own variables where both sides are nobody. -/
structure BadSt (w : World) (gx : Nat) (wr : World) : Prop where
  res : Blk wr w.heap.size 4 #[.bool false]
  var : Blk wr gx 61 #[.pointer none]
  bel : Below w.heap.size w wr
theorem BadSt.on {w wr w' : World} {gx : Nat} (h : BadSt w gx wr) (hb : Below wr.heap.size wr w') : BadSt w gx w' :=
  ⟨h.res.on hb, h.var.on hb, h.bel.trans (hb.mono h.bel.size)⟩

set_option maxRecDepth 100000 in
set_option maxHeartbeats 4000000 in
theorem nlives_bad (most : Int) (h0 : most < 0 ∨ 4096 < most) (a : Option Addr) (len cap : Nat) (w : World) (hr : DoRow w a len) :
    Calls Try.prog 8 #[.int .i64 most, .slice a len cap] w fun r w' => r = .returned (.bool true) ∧ Below w.heap.size w w' := by
  have hl0 := hr.1
  have HR := Lib.hid hr
  have bw : Below w.heap.size w (w.alloc (.cells #[.bool false] 4)) := (Below.refl _ w).alloc (Nat.le_refl _) _
  have kr : Blk (w.alloc (.cells #[.bool false] 4)) w.heap.size 4 #[.bool false] := Blk.new _ _ _
  clear hr
  refine (callsIn_wide (n := 6)).1 ?_
  refine callsIn_of_wp_marks Try.func8 rfl trivial ?_ rfl
  simp only [Try.ntmps8, List.size_toArray, List.length_cons, List.length_nil, Nat.reduceAdd, Nat.reduceSub, Array.replicate_succ, Array.replicate_zero, List.push_toArray, List.append_toArray, List.nil_append, List.cons_append]
  refine wpIn_wide.2 ?_
  go_wp2_with fail
  refine (nawake_any _).mono ?_
  rintro r w1 ⟨rfl, hb1⟩
  have B1 := Lib.hid (bw.trans (hb1.mono bw.size))
  have K1 := Lib.hid (kr.below hb1 kr.lt)
  clear bw kr hb1
  go_wp2_with fail
  refine (new_bad most w1 h0).mono ?_
  rintro r w2 ⟨rfl, rfl⟩
  go_wp2_with fail
  refine (rnew_bad most _ h0).mono ?_
  rintro r w3 ⟨rfl, rfl⟩
  have al := (Below.refl w1.heap.size w1).alloc (Nat.le_refl _) (.cells #[.pointer none] 61)
  have ST := Lib.hid (show BadSt w w1.heap.size (w1.alloc (.cells #[.pointer none] 61)) from
    ⟨K1.out.on al, Blk.new _ _ _, B1.out.trans (al.mono B1.out.size)⟩)
  clear al B1 K1 h0
  go_upto_block 0 with fail
  generalize (w1.alloc (.cells #[.pointer none] 61)) = W0 at ST ⊢
  generalize w1.heap.size = gx at *
  go_cut [] from 9 (fun wx => BadSt w gx wx)
  case first =>
    go_wp2_with fail
    go_loopw [41] (fun i wr => i = .int .i64 0 ∧ BadSt w gx wr) (fun i _ => len - (intOf i).toNat)
    case atStart => exact ⟨rfl, ST.out⟩
    case round =>
      obtain ⟨rfl, st⟩ := hrel
      clear ST
      by_cases hlt : 0 < len
      · obtain ⟨b, off, tke, at_, b4, up, A, n, c, bs, rfl, m0, m1, m2, m3, m4, hbr, hnn⟩ := HR.out.at_ st.bel hlt
        simp only [Nat.zero_mul, Nat.add_zero] at m0 m1 m2 m3 m4
        have al := (Below.refl wr.heap.size wr).alloc (Nat.le_refl _) (.cells #[.bool tke, .int .i64 at_, .int .i64 b4, .bool up, .slice A n c] 65)
        have s1 := st.on al
        have S1 := Lib.hid s1
        have kd := Blk.new wr 65 #[.bool tke, .int .i64 at_, .int .i64 b4, .bool up, .slice A n c]
        have v1 : (wr.alloc (.cells #[.bool tke, .int .i64 at_, .int .i64 b4, .bool up, .slice A n c] 65)).cell? ⟨gx, 0, none⟩ = some (.pointer none) := s1.var.cell 0
        clear al s1 kd hbr st
        go_wp2_with fail
        go_meet
        case rel => exact S1.out
      · go_wp2_with fail
        go_meet
        case rel => exact st
  case rest =>
    have v0 : wc.cell? ⟨gx, 0, none⟩ = some (.pointer none) := hcut.var.cell 0
    go_wp2_with fail
    refine (nawake_any _).mono ?_
    rintro r w8 ⟨rfl, hb8⟩
    have s8 := hcut.on hb8
    have j1 : w8.cell? ⟨w.heap.size, 0, none⟩ = some (.bool false) := s8.res.cell 0
    have j2 : w8.frozen? ⟨w.heap.size, 0, none⟩ = false := s8.res.frozen 0
    clear hb8 v0
    go_wp2
    have hc5 : (w8.setCell ⟨w.heap.size, 0, none⟩ (.bool true)).cell? ⟨w.heap.size, 0, none⟩ = some (.bool true) := World.cell?_setCell_same' w8 ⟨w.heap.size, 0, none⟩ (.bool true) (by rw [j1]; rfl)
    refine ⟨.bool true, ?_, rfl, s8.bel.setCell (p := ⟨w.heap.size, 0, none⟩) (Nat.le_refl _) _⟩
    simp [results, Try.f8, go_sem, hc5]

theorem nlives_any (most : Int) (a : Option Addr) (len cap : Nat) (w : World) (hr : DoRow w a len) :
    Calls Try.prog 8 #[.int .i64 most, .slice a len cap] w fun r w' => r = .returned (.bool true) ∧ Below w.heap.size w w' := by
  by_cases h0 : 0 ≤ most ∧ most ≤ 4096
  · exact nlives_ok most h0.1 h0.2 a len cap w hr
  · exact nlives_bad most (by omega) a len cap w hr
end Go.Proofs.Ytffbimebgledoaa
