/-
  wrap: Wrap of the program: the walk. (Printed by wip/gen/wrapD.py.)
-/
import Derived.Test.YtpjndplinplkjaaWrapC
import Derived.Laws.CopyOwn
import Derived.Deep.Cut
import Derived.Great.Walk
import Derived.Great.BuildSlice
namespace Go.Proofs.Ytpjndplinplkjaa
open Go.RowKit Go.Great

/-- What Wrap hands back. -/
def Wrapped (w : World) (h : Int) (s d : Nat → Int) (n : Nat) (xs : List Int) (e : Ending) (w' : World) : Prop :=
  ∃ A' c', e = .returned (.tuple #[.agg (if chk h = 0 then wrapped h s d (.slice A' n c') else none6), .int .i64 (chk h)]) ∧ BReads w' A' n xs ∧ Below w.heap.size w w'

theorem six_size : (Try.prog.info? 23).map (·.size) = some 16 := by kernel_rfl
theorem v6_size : (Try.prog.info? 26).map (·.size) = some 37 := by kernel_rfl
theorem one6 (t f n h : Int) (s d : Nat → Int) (A : Option Addr) (m c : Nat) : (six6 t f n h s d (.slice A m c)).all (·.oneCell') = true := by simp [Value.oneCell']

/-- A row turned whole. -/
theorem Blk.row {w : World} {g : Nat} {t : TypeId} {old cs : Array Value} (h : Blk w g t old) : Blk (w.setRow g cs) g t cs := setRow_heap w g old cs t (0, 0) h
theorem Blk.at_ {w : World} {g : Nat} {t : TypeId} {cs : Array Value} (h : g = w.heap.size) : Blk (w.alloc (.cells cs t)) g t cs := by subst h; exact Blk.new w t cs

/-- Bytes in a block at b or behind it. -/
def Behind (b : Nat) (A : Option Addr) : Prop := ∀ ad, A = some ad → b ≤ ad.block

theorem BReads.far {w : World} {A : Option Addr} {n b : Nat} {xs : List Int} (h : BReads w A n xs) (hb : Behind b A) {p : Addr} (hp : p.block < b) (u : Value) : BReads (w.setCell p u) A n xs := by
  refine ⟨⟨h.1.1, fun hn => ?_⟩, h.2⟩
  obtain ⟨ad, e, h1, h2⟩ := h.1.2 hn
  refine ⟨ad, e, by simpa using h1, fun j v hv => (World.cell?_setCell_other w p _ u ?_).trans (h2 j v hv)⟩
  intro e'
  have := hb ad e
  have h3 := block_of_add ad j
  rw [← e'] at h3
  omega

theorem BReads.row {w : World} {A : Option Addr} {n b g : Nat} {xs : List Int} (h : BReads w A n xs) (hb : Behind b A) (hp : g < b) (cs : Array Value) : BReads (w.setRow g cs) A n xs := by
  refine ⟨⟨h.1.1, fun hn => ?_⟩, h.2⟩
  obtain ⟨ad, e, h1, h2⟩ := h.1.2 hn
  refine ⟨ad, e, by simpa using h1, fun j v hv => (cell_setRow_other w g cs _ ?_).trans (h2 j v hv)⟩
  rw [block_of_add]
  have := hb ad e
  omega

/-- slices.Clone of bytes: the copy's own block. -/
theorem clone_f (A : Option Addr) (n c : Nat) (xs : List Int) (w : World) (h : BReads w A n xs) (hn : n ≤ 1099511627776) :
    Calls Try.prog 17 #[.slice A n c] w fun e w' => ∃ A' c', e = .returned (.slice A' n c') ∧ BReads w' A' n xs ∧ Below w.heap.size w w' ∧ Behind w.heap.size A' :=
  (clone_bytes A n c _ w h.1 (by intro u hu; obtain ⟨x, _, rfl⟩ := List.mem_map.1 hu; rfl) hn h.2).mono fun e w' ⟨A', c', h1, h2, h3, h4, h5⟩ =>
    ⟨A', c', h1, breads_of h2 h5 h.2, h3, fun ad e => by obtain ⟨g, rfl, hg⟩ := h4 ad e; exact hg⟩

/-- The two ways out of Wrap, ahead of the return. -/
theorem wrap_out {w w6 : World} {h : Int} {s d : Nat → Int} {n : Nat} {xs : List Int} {A' : Option Addr} {c' : Nat} {e : Ending} {C : Int} {cs : Array Value}
    (hC : chk h = C) (he : e = .returned (.tuple #[.agg cs, .int .i64 C])) (hcs : cs = if C = 0 then wrapped h s d (.slice A' n c') else none6)
    (h2 : BReads w6 A' n xs) (hb : Behind (w.heap.size + 1 + 1 + 1 + 1) A') (hB : Below w.heap.size w w6) : Wrapped w h s d n xs e (w6.setRow (w.heap.size + 1 + 1) cs) :=
  ⟨A', c', by rw [hC, he, hcs], h2.row hb (by omega) cs, below_setRow hB (by omega) cs⟩

set_option maxRecDepth 100000 in
set_option maxHeartbeats 4000000 in
theorem wrap_any (h : Int) (s d : Nat → Int) (A : Option Addr) (n c : Nat) (xs : List Int) (w : World) (hr : BReads w A n xs) (hn : n ≤ 3000) (hh : h ≤ 9223372036854775807) :
    Calls Try.prog 6 #[.agg #[.int .u8 (s 0), .int .u8 (s 1), .int .u8 (s 2), .int .u8 (s 3), .int .u8 (s 4), .int .u8 (s 5), .int .u8 (s 6), .int .u8 (s 7), .int .u8 (s 8), .int .u8 (s 9), .int .u8 (s 10), .int .u8 (s 11), .int .u8 (s 12), .int .u8 (s 13), .int .u8 (s 14), .int .u8 (s 15)], .agg #[.int .u8 (d 0), .int .u8 (d 1), .int .u8 (d 2), .int .u8 (d 3), .int .u8 (d 4), .int .u8 (d 5), .int .u8 (d 6), .int .u8 (d 7), .int .u8 (d 8), .int .u8 (d 9), .int .u8 (d 10), .int .u8 (d 11), .int .u8 (d 12), .int .u8 (d 13), .int .u8 (d 14), .int .u8 (d 15)], .int .i64 h, .slice A n c] w (Wrapped w h s d n xs) := by
  have ec : chk h = 0 ∨ chk h = 1 := by unfold chk; split <;> simp
  obtain ⟨C, hC⟩ : ∃ C, chk h = C := ⟨_, rfl⟩
  rw [hC] at ec
  have EC := Lib.hid hC
  have HR := Lib.hid hr
  clear hr hC
  have bw : Below w.heap.size w (((((w.alloc (.cells #[.int .u8 (s 0), .int .u8 (s 1), .int .u8 (s 2), .int .u8 (s 3), .int .u8 (s 4), .int .u8 (s 5), .int .u8 (s 6), .int .u8 (s 7), .int .u8 (s 8), .int .u8 (s 9), .int .u8 (s 10), .int .u8 (s 11), .int .u8 (s 12), .int .u8 (s 13), .int .u8 (s 14), .int .u8 (s 15)] 23)).alloc (.cells #[.int .u8 (d 0), .int .u8 (d 1), .int .u8 (d 2), .int .u8 (d 3), .int .u8 (d 4), .int .u8 (d 5), .int .u8 (d 6), .int .u8 (d 7), .int .u8 (d 8), .int .u8 (d 9), .int .u8 (d 10), .int .u8 (d 11), .int .u8 (d 12), .int .u8 (d 13), .int .u8 (d 14), .int .u8 (d 15)] 23)).alloc (.cells none6 26)).alloc (.cells none6 26)).setRow (w.heap.size + 1 + 1 + 1) (wrapped h s d (.slice none 0 0))) := below_setRow (((((Below.refl _ w).alloc (Nat.le_refl _) _).alloc (by simp) _).alloc (by simp; omega) _).alloc (by simp; omega) _) (by omega) _
  have k4 : Blk (((w.alloc (.cells #[.int .u8 (s 0), .int .u8 (s 1), .int .u8 (s 2), .int .u8 (s 3), .int .u8 (s 4), .int .u8 (s 5), .int .u8 (s 6), .int .u8 (s 7), .int .u8 (s 8), .int .u8 (s 9), .int .u8 (s 10), .int .u8 (s 11), .int .u8 (s 12), .int .u8 (s 13), .int .u8 (s 14), .int .u8 (s 15)] 23)).alloc (.cells #[.int .u8 (d 0), .int .u8 (d 1), .int .u8 (d 2), .int .u8 (d 3), .int .u8 (d 4), .int .u8 (d 5), .int .u8 (d 6), .int .u8 (d 7), .int .u8 (d 8), .int .u8 (d 9), .int .u8 (d 10), .int .u8 (d 11), .int .u8 (d 12), .int .u8 (d 13), .int .u8 (d 14), .int .u8 (d 15)] 23)).alloc (.cells none6 26)) w.heap.size 23 #[.int .u8 (s 0), .int .u8 (s 1), .int .u8 (s 2), .int .u8 (s 3), .int .u8 (s 4), .int .u8 (s 5), .int .u8 (s 6), .int .u8 (s 7), .int .u8 (s 8), .int .u8 (s 9), .int .u8 (s 10), .int .u8 (s 11), .int .u8 (s 12), .int .u8 (s 13), .int .u8 (s 14), .int .u8 (s 15)] := ((Blk.at_ rfl).alloc _).alloc _
  have k5 : Blk (((w.alloc (.cells #[.int .u8 (s 0), .int .u8 (s 1), .int .u8 (s 2), .int .u8 (s 3), .int .u8 (s 4), .int .u8 (s 5), .int .u8 (s 6), .int .u8 (s 7), .int .u8 (s 8), .int .u8 (s 9), .int .u8 (s 10), .int .u8 (s 11), .int .u8 (s 12), .int .u8 (s 13), .int .u8 (s 14), .int .u8 (s 15)] 23)).alloc (.cells #[.int .u8 (d 0), .int .u8 (d 1), .int .u8 (d 2), .int .u8 (d 3), .int .u8 (d 4), .int .u8 (d 5), .int .u8 (d 6), .int .u8 (d 7), .int .u8 (d 8), .int .u8 (d 9), .int .u8 (d 10), .int .u8 (d 11), .int .u8 (d 12), .int .u8 (d 13), .int .u8 (d 14), .int .u8 (d 15)] 23)).alloc (.cells none6 26)) (w.heap.size + 1) 23 #[.int .u8 (d 0), .int .u8 (d 1), .int .u8 (d 2), .int .u8 (d 3), .int .u8 (d 4), .int .u8 (d 5), .int .u8 (d 6), .int .u8 (d 7), .int .u8 (d 8), .int .u8 (d 9), .int .u8 (d 10), .int .u8 (d 11), .int .u8 (d 12), .int .u8 (d 13), .int .u8 (d 14), .int .u8 (d 15)] := (Blk.at_ (by simp)).alloc _
  have k8 : Blk (((w.alloc (.cells #[.int .u8 (s 0), .int .u8 (s 1), .int .u8 (s 2), .int .u8 (s 3), .int .u8 (s 4), .int .u8 (s 5), .int .u8 (s 6), .int .u8 (s 7), .int .u8 (s 8), .int .u8 (s 9), .int .u8 (s 10), .int .u8 (s 11), .int .u8 (s 12), .int .u8 (s 13), .int .u8 (s 14), .int .u8 (s 15)] 23)).alloc (.cells #[.int .u8 (d 0), .int .u8 (d 1), .int .u8 (d 2), .int .u8 (d 3), .int .u8 (d 4), .int .u8 (d 5), .int .u8 (d 6), .int .u8 (d 7), .int .u8 (d 8), .int .u8 (d 9), .int .u8 (d 10), .int .u8 (d 11), .int .u8 (d 12), .int .u8 (d 13), .int .u8 (d 14), .int .u8 (d 15)] 23)).alloc (.cells none6 26)) (w.heap.size + 1 + 1) 26 none6 := Blk.at_ (by simp)
  have kn : Blk ((((w.alloc (.cells #[.int .u8 (s 0), .int .u8 (s 1), .int .u8 (s 2), .int .u8 (s 3), .int .u8 (s 4), .int .u8 (s 5), .int .u8 (s 6), .int .u8 (s 7), .int .u8 (s 8), .int .u8 (s 9), .int .u8 (s 10), .int .u8 (s 11), .int .u8 (s 12), .int .u8 (s 13), .int .u8 (s 14), .int .u8 (s 15)] 23)).alloc (.cells #[.int .u8 (d 0), .int .u8 (d 1), .int .u8 (d 2), .int .u8 (d 3), .int .u8 (d 4), .int .u8 (d 5), .int .u8 (d 6), .int .u8 (d 7), .int .u8 (d 8), .int .u8 (d 9), .int .u8 (d 10), .int .u8 (d 11), .int .u8 (d 12), .int .u8 (d 13), .int .u8 (d 14), .int .u8 (d 15)] 23)).alloc (.cells none6 26)).alloc (.cells none6 26)) (w.heap.size + 1 + 1 + 1) 26 none6 := Blk.at_ (by simp)
  have K10 := Lib.hid (kn.row (cs := wrapped h s d (.slice none 0 0)))
  have K8 := Lib.hid (show Blk (((((w.alloc (.cells #[.int .u8 (s 0), .int .u8 (s 1), .int .u8 (s 2), .int .u8 (s 3), .int .u8 (s 4), .int .u8 (s 5), .int .u8 (s 6), .int .u8 (s 7), .int .u8 (s 8), .int .u8 (s 9), .int .u8 (s 10), .int .u8 (s 11), .int .u8 (s 12), .int .u8 (s 13), .int .u8 (s 14), .int .u8 (s 15)] 23)).alloc (.cells #[.int .u8 (d 0), .int .u8 (d 1), .int .u8 (d 2), .int .u8 (d 3), .int .u8 (d 4), .int .u8 (d 5), .int .u8 (d 6), .int .u8 (d 7), .int .u8 (d 8), .int .u8 (d 9), .int .u8 (d 10), .int .u8 (d 11), .int .u8 (d 12), .int .u8 (d 13), .int .u8 (d 14), .int .u8 (d 15)] 23)).alloc (.cells none6 26)).alloc (.cells none6 26)).setRow (w.heap.size + 1 + 1 + 1) (wrapped h s d (.slice none 0 0))) (w.heap.size + 1 + 1) 26 none6 from (setRow_other _ _ _ _ (by omega)).trans (k8.alloc _))
  have BW := Lib.hid bw
  have K4 := Lib.hid k4
  have K5 := Lib.hid k5
  have KN := Lib.hid kn
  clear bw k8 k4 k5 kn
  go_enter Try.func6, Try.ntmps6
  go_upto_region 1 with fail
  apply wp_region_lit
  refine wpList_readTo rfl (some 12) rfl (.int .i64 h) rfl ?_
  refine wpList_load_row rfl 23 (.tmp 4) rfl w.heap.size rfl 23 _ (0, 0) _ K4.out Try.underlying23 rfl six_size ?_
  refine wpList_load_row rfl 23 (.tmp 5) rfl (w.heap.size + 1) rfl 23 _ (0, 0) _ K5.out Try.underlying23 rfl six_size ?_
  refine wpList_buildTo rfl 26 _ rfl (some 15) rfl (wrapped h s d (.slice none 0 0)) (by kernel_rfl) ?_
  refine wpList_allocTo rfl (some 10) rfl (.pointer (some ⟨w.heap.size + 1 + 1 + 1, 0, none⟩)) (.cells none6 26) (by simp [execOp, go_sem]) ?_
  refine wpList_store_row rfl 26 (.tmp 10) (.tmp 15) rfl (w.heap.size + 1 + 1 + 1) (wrapped h s d (.slice none 0 0)) rfl rfl 26 none6 KN.out v6_size rfl (one6 0 0 4 h s d none 0 0) ?_
  apply wpList_nil
  go_wp2_with fail
  refine (clone_f A n c xs _ (HR.out.below BW.out) (by omega)).mono ?_
  rintro r w4 ⟨A', c', rfl, h2, h3, hb⟩
  have sz : (((((w.alloc (.cells #[.int .u8 (s 0), .int .u8 (s 1), .int .u8 (s 2), .int .u8 (s 3), .int .u8 (s 4), .int .u8 (s 5), .int .u8 (s 6), .int .u8 (s 7), .int .u8 (s 8), .int .u8 (s 9), .int .u8 (s 10), .int .u8 (s 11), .int .u8 (s 12), .int .u8 (s 13), .int .u8 (s 14), .int .u8 (s 15)] 23)).alloc (.cells #[.int .u8 (d 0), .int .u8 (d 1), .int .u8 (d 2), .int .u8 (d 3), .int .u8 (d 4), .int .u8 (d 5), .int .u8 (d 6), .int .u8 (d 7), .int .u8 (d 8), .int .u8 (d 9), .int .u8 (d 10), .int .u8 (d 11), .int .u8 (d 12), .int .u8 (d 13), .int .u8 (d 14), .int .u8 (d 15)] 23)).alloc (.cells none6 26)).alloc (.cells none6 26)).setRow (w.heap.size + 1 + 1 + 1) (wrapped h s d (.slice none 0 0))).heap.size = w.heap.size + 1 + 1 + 1 + 1 := by simp
  have HB := Lib.hid (show Behind (w.heap.size + 1 + 1 + 1 + 1) A' from sz ▸ hb)
  have j10 := K10.out.below h3 (by omega)
  have j8 := K8.out.below h3 (by omega)
  have B4 := Lib.hid (BW.out.trans (h3.mono (by omega)))
  have H2 := Lib.hid h2
  have lt10 := j10.lt
  clear h3 BW K10 K8 K4 K5 KN h2 hb sz
  have m1 : w4.cell? ⟨w.heap.size + 1 + 1 + 1, 36, none⟩ = some (.slice none 0 0) := j10.cell 36
  have m2 : w4.frozen? ⟨w.heap.size + 1 + 1 + 1, 36, none⟩ = false := j10.frozen 36
  have L10 := Lib.hid (show Blk (w4.setCell ⟨w.heap.size + 1 + 1 + 1, 36, none⟩ (.slice A' n c')) (w.heap.size + 1 + 1 + 1) 26 (wrapped h s d (.slice A' n c')) from j10.set_ 36 _)
  have L8 := Lib.hid (show Blk (w4.setCell ⟨w.heap.size + 1 + 1 + 1, 36, none⟩ (.slice A' n c')) (w.heap.size + 1 + 1) 26 none6 from j8.far (by simp) _)
  have B5 := Lib.hid (show Below w.heap.size w (w4.setCell ⟨w.heap.size + 1 + 1 + 1, 36, none⟩ (.slice A' n c')) from B4.out.setCell (by simp; omega) _)
  have H3 := Lib.hid (show BReads (w4.setCell ⟨w.heap.size + 1 + 1 + 1, 36, none⟩ (.slice A' n c')) A' n xs from H2.out.far HB.out (by simp) _)
  clear j10 j8 B4 H2
  go_upto_region 3 with fail
  apply wp_region_lit
  refine wpList_load_row rfl 26 (.tmp 10) rfl (w.heap.size + 1 + 1 + 1) rfl 26 (wrapped h s d (.slice A' n c')) (0, 0) _ L10.out Try.underlying26 rfl v6_size ?_
  go_wp2_with fail
  refine (check_any h s d A' n c' _ (by omega) hh).mono ?_
  rintro r w6 ⟨rfl, h6⟩
  have lt6 : w.heap.size + 1 + 1 + 1 < (w4.setCell ⟨w.heap.size + 1 + 1 + 1, 36, none⟩ (.slice A' n c')).heap.size := by simpa using lt10
  have R10 := Lib.hid (L10.out.below h6 lt6)
  have R8 := Lib.hid (L8.out.below h6 (by omega))
  have B6 := Lib.hid (B5.out.trans (h6.mono (by omega)))
  have H6 := Lib.hid (H3.out.below h6)
  clear h6 L10 L8 B5 H3 m1 m2
  rw [EC.out]
  rcases ec with rfl | rfl
  · go_upto_region 6 with fail
    apply wp_region_lit
    refine wpList_load_row rfl 26 (.tmp 10) rfl (w.heap.size + 1 + 1 + 1) rfl 26 (wrapped h s d (.slice A' n c')) (0, 0) _ R10.out Try.underlying26 rfl v6_size ?_
    refine wpList_store_row rfl 26 (.tmp 8) (.tmp 25) rfl (w.heap.size + 1 + 1) (wrapped h s d (.slice A' n c')) rfl rfl 26 none6 R8.out v6_size rfl (one6 0 0 4 h s d A' n c') ?_
    go_wp2_with fail
    refine bodyPost_ret (v := .tuple #[.agg (wrapped h s d (.slice A' n c')), .int .i64 0]) ?_ rfl ?_
    · simp [results, Try.f6, asAddr, run_loadVar_row _ (w.heap.size + 1 + 1) 26 26 (wrapped h s d (.slice A' n c')) (0, 0) _ R8.out.row Try.underlying26 rfl v6_size]
    · exact wrap_out (c' := c') EC.out rfl rfl H6.out HB.out B6.out
  · go_upto_region 5 with fail
    apply wp_region_lit
    refine wpList_buildTo rfl 26 _ rfl (some 23) rfl none6 (by kernel_rfl) ?_
    refine wpList_readTo rfl (some 24) rfl (.int .i64 1) rfl ?_
    refine wpList_store_row rfl 26 (.tmp 8) (.tmp 23) rfl (w.heap.size + 1 + 1) none6 rfl rfl 26 none6 R8.out v6_size rfl (by simp [Value.oneCell']) ?_
    go_wp2_with fail
    refine bodyPost_ret (v := .tuple #[.agg none6, .int .i64 1]) ?_ rfl ?_
    · simp [results, Try.f6, asAddr, run_loadVar_row _ (w.heap.size + 1 + 1) 26 26 none6 (0, 0) _ R8.out.row Try.underlying26 rfl v6_size]
    · exact wrap_out (c' := c') EC.out rfl rfl H6.out HB.out B6.out
end Go.Proofs.Ytpjndplinplkjaa
