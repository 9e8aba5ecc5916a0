/- The specification's comparisons: zero and difference. -/
import Derived.Test.YtmkjgkldbonpnaaWRefS1
import Derived.Test.YtmkjgkldbonpnaaWSimG
namespace Go.Proofs.Ytmkjgkldbonpnaa
open Go Go.RowKit Go.Cd
set_option linter.unusedVariables false

/-- Five cells of one block are set. -/
theorem set5 (w : World) (r : Nat) (x0 x1 x2 x3 x4 c0 c1 c2 c3 c4 : Value) (t : TypeId) (h : w.heap[r]? = some (.cells #[c0, c1, c2, c3, c4] t)) :
    Only r w (((((w.setCell ⟨r, 0, none⟩ x0).setCell ⟨r, 1, none⟩ x1).setCell ⟨r, 2, none⟩ x2).setCell ⟨r, 3, none⟩ x3).setCell ⟨r, 4, none⟩ x4) ∧
    (((((w.setCell ⟨r, 0, none⟩ x0).setCell ⟨r, 1, none⟩ x1).setCell ⟨r, 2, none⟩ x2).setCell ⟨r, 3, none⟩ x3).setCell ⟨r, 4, none⟩ x4).heap[r]? = some (.cells #[x0, x1, x2, x3, x4] t) := by
  refine ⟨⟨by simp, ?_, ?_, ?_, fun k hk => ?_⟩, heap_set_at (heap_set_at (heap_set_at (heap_set_at (heap_set_at h 0 _) 1 _) 2 _) 3 _) 4 _⟩
  · simp only [os_setCell]
  · simp only [tape_setCell]
  · simp only [output_setCell]
  · rw [heap_setCell_ne _ _ _ _ hk, heap_setCell_ne _ _ _ _ hk, heap_setCell_ne _ _ _ _ hk, heap_setCell_ne _ _ _ _ hk, heap_setCell_ne _ _ _ _ hk]
theorem expr_size : (Try.prog.info? 64).map (·.size) = some 5 := by kernel_rfl
theorem New.only {w w1 w2 : World} {r : Nat} (h : New w w1) (ho : Only r w1 w2) (hr : w.heap.size ≤ r) : New w w2 :=
  ⟨ho.os.trans h.os, ho.tape.trans h.tape, ho.output.trans h.output, by rw [ho.size]; exact h.size, fun k hk => (ho.block k (by omega)).trans (h.block k hk)⟩
attribute [local go_sem ↓] Go.wp_at_zero Go.wp_at_succ
set_option maxRecDepth 100000 in
set_option maxHeartbeats 2000000 in
theorem zero_0 (x0 x1 x2 x3 x4 x5 : Int) (w : World) : Calls Try.prog 45 #[.int .i64 0, .agg #[.int .i64 x0, .int .i64 x1, .int .u32 x2, .int .u32 x3, .int .u32 x4, .int .u32 x5]] w (ExprPost2 ⟨4, 1, 14, 0, [⟨x0, x1, x2, x3, x4, x5⟩, (wordA 0)]⟩ w) := by
  have NA := Lib.hid (((New.refl w).alloc (Nat.le_refl _) (.cells #[.int .i64 x0, .int .i64 x1, .int .u32 x2, .int .u32 x3, .int .u32 x4, .int .u32 x5] 59)).alloc (by simp) (.cells #[.int .i64 0, .int .i64 0, .int .i64 0, .int .i64 0, .slice none 0 0] 64))
  have TX := Lib.hid (heap_keep (o := (.cells #[.int .i64 0, .int .i64 0, .int .i64 0, .int .i64 0, .slice none 0 0] 64)) (heap_alloc_at w (.cells #[.int .i64 x0, .int .i64 x1, .int .u32 x2, .int .u32 x3, .int .u32 x4, .int .u32 x5] 59) _ rfl))
  have TC := Lib.hid (heap_alloc_at (w.alloc (.cells #[.int .i64 x0, .int .i64 x1, .int .u32 x2, .int .u32 x3, .int .u32 x4, .int .u32 x5] 59)) (.cells #[.int .i64 0, .int .i64 0, .int .i64 0, .int .i64 0, .slice none 0 0] 64) (w.heap.size + 1) (by simp))
  go_enter Try.func45, Try.ntmps45
  go_wp2_with fail
  generalize (w.alloc (.cells #[.int .i64 x0, .int .i64 x1, .int .u32 x2, .int .u32 x3, .int .u32 x4, .int .u32 x5] 59)).alloc (.cells #[.int .i64 0, .int .i64 0, .int .i64 0, .int .i64 0, .slice none 0 0] 64) = wA at *
  have hX := TX.out
  have xl := lt_of_heap hX
  have cl := lt_of_heap TC.out
  have xq0 : wA.cell? ⟨w.heap.size, 0, none⟩ = some (.int .i64 x0) := cell_of_heap hX rfl
  have xq1 : wA.cell? ⟨w.heap.size, 1, none⟩ = some (.int .i64 x1) := cell_of_heap hX rfl
  have xq2 : wA.cell? ⟨w.heap.size, 2, none⟩ = some (.int .u32 x2) := cell_of_heap hX rfl
  have xq3 : wA.cell? ⟨w.heap.size, 3, none⟩ = some (.int .u32 x3) := cell_of_heap hX rfl
  have xq4 : wA.cell? ⟨w.heap.size, 4, none⟩ = some (.int .u32 x4) := cell_of_heap hX rfl
  have xq5 : wA.cell? ⟨w.heap.size, 5, none⟩ = some (.int .u32 x5) := cell_of_heap hX rfl
  clear hX
  go_region_with (first | (go_at_call 76; refine (rword_c 0 _).mono ?_; rintro e u1 ⟨rfl, hb1⟩; have hn1 : New wA u1 := (by first | exact hb1 | exact Below.trans ((New.refl wA).drew) hb1); have hX1 := keep hn1 TX.out; have hR1 := keep hn1 TC.out; have hl1 := lt_of_heap hR1; have hlx1 := lt_of_heap hX1; have xr0 : u1.cell? ⟨w.heap.size, 0, none⟩ = some (.int .i64 x0) := cell_of_heap hX1 rfl; have xr1 : u1.cell? ⟨w.heap.size, 1, none⟩ = some (.int .i64 x1) := cell_of_heap hX1 rfl; have xr2 : u1.cell? ⟨w.heap.size, 2, none⟩ = some (.int .u32 x2) := cell_of_heap hX1 rfl; have xr3 : u1.cell? ⟨w.heap.size, 3, none⟩ = some (.int .u32 x3) := cell_of_heap hX1 rfl; have xr4 : u1.cell? ⟨w.heap.size, 4, none⟩ = some (.int .u32 x4) := cell_of_heap hX1 rfl; have xr5 : u1.cell? ⟨w.heap.size, 5, none⟩ = some (.int .u32 x5) := cell_of_heap hX1 rfl; have X1 := Lib.hid hX1; have R1 := Lib.hid hR1; unfold wordA Atom.val; dsimp only; clear hb1 hX1 hR1) | (go_at_call 47; refine (binary_c 14 1 ⟨x0, x1, x2, x3, x4, x5⟩ (wordA 0) _).mono ?_; rintro e u2 ⟨bl, rfl, hbl0, hlo, hb2⟩; have hn12 : New u1 u2 := (by first | exact hb2 | exact Below.trans ((New.refl u1).drew) hb2); have hlo1 : u1.heap.size ≤ bl := hlo; have hR2 := keep hn12 R1.out; have hn2 : New wA u2 := hn1.trans (hn12.mono hn1.size); have hl2 := lt_of_heap hR2; have d0 : u2.cell? ⟨w.heap.size + 1, 0, none⟩ = some (.int .i64 0) := cell_of_heap hR2 rfl; have d1 : u2.cell? ⟨w.heap.size + 1, 1, none⟩ = some (.int .i64 0) := cell_of_heap hR2 rfl; have d2 : u2.cell? ⟨w.heap.size + 1, 2, none⟩ = some (.int .i64 0) := cell_of_heap hR2 rfl; have d3 : u2.cell? ⟨w.heap.size + 1, 3, none⟩ = some (.int .i64 0) := cell_of_heap hR2 rfl; have d4 : u2.cell? ⟨w.heap.size + 1, 4, none⟩ = some (.slice none 0 0) := cell_of_heap hR2 rfl; have df : ∀ i, u2.frozen? ⟨w.heap.size + 1, i, none⟩ = false := (fun i => frozen_of_heap hR2); have hbl := Lib.hid hbl0; have RR2 := Lib.hid hR2; unfold exprV; dsimp only; clear hb2 hR2 hbl0 hlo hn12))
  all_goals
    go_wp2
    have hR2 := RR2.out
    obtain ⟨HO, HR⟩ := set5 u2 (w.heap.size + 1) (.int .i64 4) (.int .i64 1) (.int .i64 14) (.int .i64 0) (.slice (some ⟨bl, 0, none⟩) 2 2) _ _ _ _ _ _ hR2
    have HN : New w _ := New.only (NA.out.trans (hn2.mono NA.out.size)) HO (by omega)
    generalize (((((u2.setCell ⟨w.heap.size + 1, 0, none⟩ (.int .i64 4)).setCell ⟨w.heap.size + 1, 1, none⟩ (.int .i64 1)).setCell ⟨w.heap.size + 1, 2, none⟩ (.int .i64 14)).setCell ⟨w.heap.size + 1, 3, none⟩ (.int .i64 0)).setCell ⟨w.heap.size + 1, 4, none⟩ (.slice (some ⟨bl, 0, none⟩) 2 2)) = w3 at *
    have HF := (HO.block bl (by omega)).trans hbl.out
    refine bodyPost_ret (v := .tuple #[exprV 4 1 14 0 2 bl, .bool true]) ?_ rfl ⟨bl, rfl, HF, by omega, HN⟩
    exact results_cell_slot Try.results45 _ _ ⟨w.heap.size + 1, 0, none⟩ _ rfl (load_row 64 _ _ _ _ _ HR Try.underlying64 rfl (expr_size.trans rfl))
set_option maxRecDepth 100000 in
set_option maxHeartbeats 2000000 in
theorem zero_1 (x0 x1 x2 x3 x4 x5 : Int) (w : World) : Calls Try.prog 45 #[.int .i64 1, .agg #[.int .i64 x0, .int .i64 x1, .int .u32 x2, .int .u32 x3, .int .u32 x4, .int .u32 x5]] w (ExprPost2 ⟨4, 1, 15, 0, [⟨x0, x1, x2, x3, x4, x5⟩, (wordA 0)]⟩ w) := by
  have NA := Lib.hid (((New.refl w).alloc (Nat.le_refl _) (.cells #[.int .i64 x0, .int .i64 x1, .int .u32 x2, .int .u32 x3, .int .u32 x4, .int .u32 x5] 59)).alloc (by simp) (.cells #[.int .i64 0, .int .i64 0, .int .i64 0, .int .i64 0, .slice none 0 0] 64))
  have TX := Lib.hid (heap_keep (o := (.cells #[.int .i64 0, .int .i64 0, .int .i64 0, .int .i64 0, .slice none 0 0] 64)) (heap_alloc_at w (.cells #[.int .i64 x0, .int .i64 x1, .int .u32 x2, .int .u32 x3, .int .u32 x4, .int .u32 x5] 59) _ rfl))
  have TC := Lib.hid (heap_alloc_at (w.alloc (.cells #[.int .i64 x0, .int .i64 x1, .int .u32 x2, .int .u32 x3, .int .u32 x4, .int .u32 x5] 59)) (.cells #[.int .i64 0, .int .i64 0, .int .i64 0, .int .i64 0, .slice none 0 0] 64) (w.heap.size + 1) (by simp))
  go_enter Try.func45, Try.ntmps45
  go_wp2_with fail
  generalize (w.alloc (.cells #[.int .i64 x0, .int .i64 x1, .int .u32 x2, .int .u32 x3, .int .u32 x4, .int .u32 x5] 59)).alloc (.cells #[.int .i64 0, .int .i64 0, .int .i64 0, .int .i64 0, .slice none 0 0] 64) = wA at *
  have hX := TX.out
  have xl := lt_of_heap hX
  have cl := lt_of_heap TC.out
  have xq0 : wA.cell? ⟨w.heap.size, 0, none⟩ = some (.int .i64 x0) := cell_of_heap hX rfl
  have xq1 : wA.cell? ⟨w.heap.size, 1, none⟩ = some (.int .i64 x1) := cell_of_heap hX rfl
  have xq2 : wA.cell? ⟨w.heap.size, 2, none⟩ = some (.int .u32 x2) := cell_of_heap hX rfl
  have xq3 : wA.cell? ⟨w.heap.size, 3, none⟩ = some (.int .u32 x3) := cell_of_heap hX rfl
  have xq4 : wA.cell? ⟨w.heap.size, 4, none⟩ = some (.int .u32 x4) := cell_of_heap hX rfl
  have xq5 : wA.cell? ⟨w.heap.size, 5, none⟩ = some (.int .u32 x5) := cell_of_heap hX rfl
  clear hX
  go_region_with (first | (go_at_call 76; refine (rword_c 0 _).mono ?_; rintro e u1 ⟨rfl, hb1⟩; have hn1 : New wA u1 := (by first | exact hb1 | exact Below.trans ((New.refl wA).drew) hb1); have hX1 := keep hn1 TX.out; have hR1 := keep hn1 TC.out; have hl1 := lt_of_heap hR1; have hlx1 := lt_of_heap hX1; have xr0 : u1.cell? ⟨w.heap.size, 0, none⟩ = some (.int .i64 x0) := cell_of_heap hX1 rfl; have xr1 : u1.cell? ⟨w.heap.size, 1, none⟩ = some (.int .i64 x1) := cell_of_heap hX1 rfl; have xr2 : u1.cell? ⟨w.heap.size, 2, none⟩ = some (.int .u32 x2) := cell_of_heap hX1 rfl; have xr3 : u1.cell? ⟨w.heap.size, 3, none⟩ = some (.int .u32 x3) := cell_of_heap hX1 rfl; have xr4 : u1.cell? ⟨w.heap.size, 4, none⟩ = some (.int .u32 x4) := cell_of_heap hX1 rfl; have xr5 : u1.cell? ⟨w.heap.size, 5, none⟩ = some (.int .u32 x5) := cell_of_heap hX1 rfl; have X1 := Lib.hid hX1; have R1 := Lib.hid hR1; unfold wordA Atom.val; dsimp only; clear hb1 hX1 hR1) | (go_at_call 47; refine (binary_c 15 1 ⟨x0, x1, x2, x3, x4, x5⟩ (wordA 0) _).mono ?_; rintro e u2 ⟨bl, rfl, hbl0, hlo, hb2⟩; have hn12 : New u1 u2 := (by first | exact hb2 | exact Below.trans ((New.refl u1).drew) hb2); have hlo1 : u1.heap.size ≤ bl := hlo; have hR2 := keep hn12 R1.out; have hn2 : New wA u2 := hn1.trans (hn12.mono hn1.size); have hl2 := lt_of_heap hR2; have d0 : u2.cell? ⟨w.heap.size + 1, 0, none⟩ = some (.int .i64 0) := cell_of_heap hR2 rfl; have d1 : u2.cell? ⟨w.heap.size + 1, 1, none⟩ = some (.int .i64 0) := cell_of_heap hR2 rfl; have d2 : u2.cell? ⟨w.heap.size + 1, 2, none⟩ = some (.int .i64 0) := cell_of_heap hR2 rfl; have d3 : u2.cell? ⟨w.heap.size + 1, 3, none⟩ = some (.int .i64 0) := cell_of_heap hR2 rfl; have d4 : u2.cell? ⟨w.heap.size + 1, 4, none⟩ = some (.slice none 0 0) := cell_of_heap hR2 rfl; have df : ∀ i, u2.frozen? ⟨w.heap.size + 1, i, none⟩ = false := (fun i => frozen_of_heap hR2); have hbl := Lib.hid hbl0; have RR2 := Lib.hid hR2; unfold exprV; dsimp only; clear hb2 hR2 hbl0 hlo hn12))
  all_goals
    go_wp2
    have hR2 := RR2.out
    obtain ⟨HO, HR⟩ := set5 u2 (w.heap.size + 1) (.int .i64 4) (.int .i64 1) (.int .i64 15) (.int .i64 0) (.slice (some ⟨bl, 0, none⟩) 2 2) _ _ _ _ _ _ hR2
    have HN : New w _ := New.only (NA.out.trans (hn2.mono NA.out.size)) HO (by omega)
    generalize (((((u2.setCell ⟨w.heap.size + 1, 0, none⟩ (.int .i64 4)).setCell ⟨w.heap.size + 1, 1, none⟩ (.int .i64 1)).setCell ⟨w.heap.size + 1, 2, none⟩ (.int .i64 15)).setCell ⟨w.heap.size + 1, 3, none⟩ (.int .i64 0)).setCell ⟨w.heap.size + 1, 4, none⟩ (.slice (some ⟨bl, 0, none⟩) 2 2)) = w3 at *
    have HF := (HO.block bl (by omega)).trans hbl.out
    refine bodyPost_ret (v := .tuple #[exprV 4 1 15 0 2 bl, .bool true]) ?_ rfl ⟨bl, rfl, HF, by omega, HN⟩
    exact results_cell_slot Try.results45 _ _ ⟨w.heap.size + 1, 0, none⟩ _ rfl (load_row 64 _ _ _ _ _ HR Try.underlying64 rfl (expr_size.trans rfl))
set_option maxRecDepth 100000 in
set_option maxHeartbeats 2000000 in
theorem zero_4 (x0 x1 x2 x3 x4 x5 : Int) (w : World) : Calls Try.prog 45 #[.int .i64 4, .agg #[.int .i64 x0, .int .i64 x1, .int .u32 x2, .int .u32 x3, .int .u32 x4, .int .u32 x5]] w (ExprPost2 ⟨4, 1, 17, 0, [⟨x0, x1, x2, x3, x4, x5⟩, (wordA 0)]⟩ w) := by
  have NA := Lib.hid (((New.refl w).alloc (Nat.le_refl _) (.cells #[.int .i64 x0, .int .i64 x1, .int .u32 x2, .int .u32 x3, .int .u32 x4, .int .u32 x5] 59)).alloc (by simp) (.cells #[.int .i64 0, .int .i64 0, .int .i64 0, .int .i64 0, .slice none 0 0] 64))
  have TX := Lib.hid (heap_keep (o := (.cells #[.int .i64 0, .int .i64 0, .int .i64 0, .int .i64 0, .slice none 0 0] 64)) (heap_alloc_at w (.cells #[.int .i64 x0, .int .i64 x1, .int .u32 x2, .int .u32 x3, .int .u32 x4, .int .u32 x5] 59) _ rfl))
  have TC := Lib.hid (heap_alloc_at (w.alloc (.cells #[.int .i64 x0, .int .i64 x1, .int .u32 x2, .int .u32 x3, .int .u32 x4, .int .u32 x5] 59)) (.cells #[.int .i64 0, .int .i64 0, .int .i64 0, .int .i64 0, .slice none 0 0] 64) (w.heap.size + 1) (by simp))
  go_enter Try.func45, Try.ntmps45
  go_wp2_with fail
  generalize (w.alloc (.cells #[.int .i64 x0, .int .i64 x1, .int .u32 x2, .int .u32 x3, .int .u32 x4, .int .u32 x5] 59)).alloc (.cells #[.int .i64 0, .int .i64 0, .int .i64 0, .int .i64 0, .slice none 0 0] 64) = wA at *
  have hX := TX.out
  have xl := lt_of_heap hX
  have cl := lt_of_heap TC.out
  have xq0 : wA.cell? ⟨w.heap.size, 0, none⟩ = some (.int .i64 x0) := cell_of_heap hX rfl
  have xq1 : wA.cell? ⟨w.heap.size, 1, none⟩ = some (.int .i64 x1) := cell_of_heap hX rfl
  have xq2 : wA.cell? ⟨w.heap.size, 2, none⟩ = some (.int .u32 x2) := cell_of_heap hX rfl
  have xq3 : wA.cell? ⟨w.heap.size, 3, none⟩ = some (.int .u32 x3) := cell_of_heap hX rfl
  have xq4 : wA.cell? ⟨w.heap.size, 4, none⟩ = some (.int .u32 x4) := cell_of_heap hX rfl
  have xq5 : wA.cell? ⟨w.heap.size, 5, none⟩ = some (.int .u32 x5) := cell_of_heap hX rfl
  clear hX
  go_region_with (first | (go_at_call 76; refine (rword_c 0 _).mono ?_; rintro e u1 ⟨rfl, hb1⟩; have hn1 : New wA u1 := (by first | exact hb1 | exact Below.trans ((New.refl wA).drew) hb1); have hX1 := keep hn1 TX.out; have hR1 := keep hn1 TC.out; have hl1 := lt_of_heap hR1; have hlx1 := lt_of_heap hX1; have xr0 : u1.cell? ⟨w.heap.size, 0, none⟩ = some (.int .i64 x0) := cell_of_heap hX1 rfl; have xr1 : u1.cell? ⟨w.heap.size, 1, none⟩ = some (.int .i64 x1) := cell_of_heap hX1 rfl; have xr2 : u1.cell? ⟨w.heap.size, 2, none⟩ = some (.int .u32 x2) := cell_of_heap hX1 rfl; have xr3 : u1.cell? ⟨w.heap.size, 3, none⟩ = some (.int .u32 x3) := cell_of_heap hX1 rfl; have xr4 : u1.cell? ⟨w.heap.size, 4, none⟩ = some (.int .u32 x4) := cell_of_heap hX1 rfl; have xr5 : u1.cell? ⟨w.heap.size, 5, none⟩ = some (.int .u32 x5) := cell_of_heap hX1 rfl; have X1 := Lib.hid hX1; have R1 := Lib.hid hR1; unfold wordA Atom.val; dsimp only; clear hb1 hX1 hR1) | (go_at_call 47; refine (binary_c 17 1 ⟨x0, x1, x2, x3, x4, x5⟩ (wordA 0) _).mono ?_; rintro e u2 ⟨bl, rfl, hbl0, hlo, hb2⟩; have hn12 : New u1 u2 := (by first | exact hb2 | exact Below.trans ((New.refl u1).drew) hb2); have hlo1 : u1.heap.size ≤ bl := hlo; have hR2 := keep hn12 R1.out; have hn2 : New wA u2 := hn1.trans (hn12.mono hn1.size); have hl2 := lt_of_heap hR2; have d0 : u2.cell? ⟨w.heap.size + 1, 0, none⟩ = some (.int .i64 0) := cell_of_heap hR2 rfl; have d1 : u2.cell? ⟨w.heap.size + 1, 1, none⟩ = some (.int .i64 0) := cell_of_heap hR2 rfl; have d2 : u2.cell? ⟨w.heap.size + 1, 2, none⟩ = some (.int .i64 0) := cell_of_heap hR2 rfl; have d3 : u2.cell? ⟨w.heap.size + 1, 3, none⟩ = some (.int .i64 0) := cell_of_heap hR2 rfl; have d4 : u2.cell? ⟨w.heap.size + 1, 4, none⟩ = some (.slice none 0 0) := cell_of_heap hR2 rfl; have df : ∀ i, u2.frozen? ⟨w.heap.size + 1, i, none⟩ = false := (fun i => frozen_of_heap hR2); have hbl := Lib.hid hbl0; have RR2 := Lib.hid hR2; unfold exprV; dsimp only; clear hb2 hR2 hbl0 hlo hn12))
  all_goals
    go_wp2
    have hR2 := RR2.out
    obtain ⟨HO, HR⟩ := set5 u2 (w.heap.size + 1) (.int .i64 4) (.int .i64 1) (.int .i64 17) (.int .i64 0) (.slice (some ⟨bl, 0, none⟩) 2 2) _ _ _ _ _ _ hR2
    have HN : New w _ := New.only (NA.out.trans (hn2.mono NA.out.size)) HO (by omega)
    generalize (((((u2.setCell ⟨w.heap.size + 1, 0, none⟩ (.int .i64 4)).setCell ⟨w.heap.size + 1, 1, none⟩ (.int .i64 1)).setCell ⟨w.heap.size + 1, 2, none⟩ (.int .i64 17)).setCell ⟨w.heap.size + 1, 3, none⟩ (.int .i64 0)).setCell ⟨w.heap.size + 1, 4, none⟩ (.slice (some ⟨bl, 0, none⟩) 2 2)) = w3 at *
    have HF := (HO.block bl (by omega)).trans hbl.out
    refine bodyPost_ret (v := .tuple #[exprV 4 1 17 0 2 bl, .bool true]) ?_ rfl ⟨bl, rfl, HF, by omega, HN⟩
    exact results_cell_slot Try.results45 _ _ ⟨w.heap.size + 1, 0, none⟩ _ rfl (load_row 64 _ _ _ _ _ HR Try.underlying64 rfl (expr_size.trans rfl))
set_option maxRecDepth 100000 in
set_option maxHeartbeats 2000000 in
theorem zero_5 (x0 x1 x2 x3 x4 x5 : Int) (w : World) : Calls Try.prog 45 #[.int .i64 5, .agg #[.int .i64 x0, .int .i64 x1, .int .u32 x2, .int .u32 x3, .int .u32 x4, .int .u32 x5]] w (ExprPost2 ⟨4, 1, 19, 0, [(wordA 0), ⟨x0, x1, x2, x3, x4, x5⟩]⟩ w) := by
  have NA := Lib.hid (((New.refl w).alloc (Nat.le_refl _) (.cells #[.int .i64 x0, .int .i64 x1, .int .u32 x2, .int .u32 x3, .int .u32 x4, .int .u32 x5] 59)).alloc (by simp) (.cells #[.int .i64 0, .int .i64 0, .int .i64 0, .int .i64 0, .slice none 0 0] 64))
  have TX := Lib.hid (heap_keep (o := (.cells #[.int .i64 0, .int .i64 0, .int .i64 0, .int .i64 0, .slice none 0 0] 64)) (heap_alloc_at w (.cells #[.int .i64 x0, .int .i64 x1, .int .u32 x2, .int .u32 x3, .int .u32 x4, .int .u32 x5] 59) _ rfl))
  have TC := Lib.hid (heap_alloc_at (w.alloc (.cells #[.int .i64 x0, .int .i64 x1, .int .u32 x2, .int .u32 x3, .int .u32 x4, .int .u32 x5] 59)) (.cells #[.int .i64 0, .int .i64 0, .int .i64 0, .int .i64 0, .slice none 0 0] 64) (w.heap.size + 1) (by simp))
  go_enter Try.func45, Try.ntmps45
  go_wp2_with fail
  generalize (w.alloc (.cells #[.int .i64 x0, .int .i64 x1, .int .u32 x2, .int .u32 x3, .int .u32 x4, .int .u32 x5] 59)).alloc (.cells #[.int .i64 0, .int .i64 0, .int .i64 0, .int .i64 0, .slice none 0 0] 64) = wA at *
  have hX := TX.out
  have xl := lt_of_heap hX
  have cl := lt_of_heap TC.out
  have xq0 : wA.cell? ⟨w.heap.size, 0, none⟩ = some (.int .i64 x0) := cell_of_heap hX rfl
  have xq1 : wA.cell? ⟨w.heap.size, 1, none⟩ = some (.int .i64 x1) := cell_of_heap hX rfl
  have xq2 : wA.cell? ⟨w.heap.size, 2, none⟩ = some (.int .u32 x2) := cell_of_heap hX rfl
  have xq3 : wA.cell? ⟨w.heap.size, 3, none⟩ = some (.int .u32 x3) := cell_of_heap hX rfl
  have xq4 : wA.cell? ⟨w.heap.size, 4, none⟩ = some (.int .u32 x4) := cell_of_heap hX rfl
  have xq5 : wA.cell? ⟨w.heap.size, 5, none⟩ = some (.int .u32 x5) := cell_of_heap hX rfl
  clear hX
  go_region_with (first | (go_at_call 76; refine (rword_c 0 _).mono ?_; rintro e u1 ⟨rfl, hb1⟩; have hn1 : New wA u1 := (by first | exact hb1 | exact Below.trans ((New.refl wA).drew) hb1); have hX1 := keep hn1 TX.out; have hR1 := keep hn1 TC.out; have hl1 := lt_of_heap hR1; have hlx1 := lt_of_heap hX1; have xr0 : u1.cell? ⟨w.heap.size, 0, none⟩ = some (.int .i64 x0) := cell_of_heap hX1 rfl; have xr1 : u1.cell? ⟨w.heap.size, 1, none⟩ = some (.int .i64 x1) := cell_of_heap hX1 rfl; have xr2 : u1.cell? ⟨w.heap.size, 2, none⟩ = some (.int .u32 x2) := cell_of_heap hX1 rfl; have xr3 : u1.cell? ⟨w.heap.size, 3, none⟩ = some (.int .u32 x3) := cell_of_heap hX1 rfl; have xr4 : u1.cell? ⟨w.heap.size, 4, none⟩ = some (.int .u32 x4) := cell_of_heap hX1 rfl; have xr5 : u1.cell? ⟨w.heap.size, 5, none⟩ = some (.int .u32 x5) := cell_of_heap hX1 rfl; have X1 := Lib.hid hX1; have R1 := Lib.hid hR1; unfold wordA Atom.val; dsimp only; clear hb1 hX1 hR1) | (go_at_call 47; refine (binary_c 19 1 (wordA 0) ⟨x0, x1, x2, x3, x4, x5⟩ _).mono ?_; rintro e u2 ⟨bl, rfl, hbl0, hlo, hb2⟩; have hn12 : New u1 u2 := (by first | exact hb2 | exact Below.trans ((New.refl u1).drew) hb2); have hlo1 : u1.heap.size ≤ bl := hlo; have hR2 := keep hn12 R1.out; have hn2 : New wA u2 := hn1.trans (hn12.mono hn1.size); have hl2 := lt_of_heap hR2; have d0 : u2.cell? ⟨w.heap.size + 1, 0, none⟩ = some (.int .i64 0) := cell_of_heap hR2 rfl; have d1 : u2.cell? ⟨w.heap.size + 1, 1, none⟩ = some (.int .i64 0) := cell_of_heap hR2 rfl; have d2 : u2.cell? ⟨w.heap.size + 1, 2, none⟩ = some (.int .i64 0) := cell_of_heap hR2 rfl; have d3 : u2.cell? ⟨w.heap.size + 1, 3, none⟩ = some (.int .i64 0) := cell_of_heap hR2 rfl; have d4 : u2.cell? ⟨w.heap.size + 1, 4, none⟩ = some (.slice none 0 0) := cell_of_heap hR2 rfl; have df : ∀ i, u2.frozen? ⟨w.heap.size + 1, i, none⟩ = false := (fun i => frozen_of_heap hR2); have hbl := Lib.hid hbl0; have RR2 := Lib.hid hR2; unfold exprV; dsimp only; clear hb2 hR2 hbl0 hlo hn12))
  all_goals
    go_wp2
    have hR2 := RR2.out
    obtain ⟨HO, HR⟩ := set5 u2 (w.heap.size + 1) (.int .i64 4) (.int .i64 1) (.int .i64 19) (.int .i64 0) (.slice (some ⟨bl, 0, none⟩) 2 2) _ _ _ _ _ _ hR2
    have HN : New w _ := New.only (NA.out.trans (hn2.mono NA.out.size)) HO (by omega)
    generalize (((((u2.setCell ⟨w.heap.size + 1, 0, none⟩ (.int .i64 4)).setCell ⟨w.heap.size + 1, 1, none⟩ (.int .i64 1)).setCell ⟨w.heap.size + 1, 2, none⟩ (.int .i64 19)).setCell ⟨w.heap.size + 1, 3, none⟩ (.int .i64 0)).setCell ⟨w.heap.size + 1, 4, none⟩ (.slice (some ⟨bl, 0, none⟩) 2 2)) = w3 at *
    have HF := (HO.block bl (by omega)).trans hbl.out
    refine bodyPost_ret (v := .tuple #[exprV 4 1 19 0 2 bl, .bool true]) ?_ rfl ⟨bl, rfl, HF, by omega, HN⟩
    exact results_cell_slot Try.results45 _ _ ⟨w.heap.size + 1, 0, none⟩ _ rfl (load_row 64 _ _ _ _ _ HR Try.underlying64 rfl (expr_size.trans rfl))
set_option maxRecDepth 100000 in
set_option maxHeartbeats 2000000 in
theorem zero_8 (x0 x1 x2 x3 x4 x5 : Int) (w : World) : Calls Try.prog 45 #[.int .i64 8, .agg #[.int .i64 x0, .int .i64 x1, .int .u32 x2, .int .u32 x3, .int .u32 x4, .int .u32 x5]] w (ExprPost2 ⟨4, 1, 14, 0, [⟨x0, x1, x2, x3, x4, x5⟩, (wordA 0)]⟩ w) := by
  have NA := Lib.hid (((New.refl w).alloc (Nat.le_refl _) (.cells #[.int .i64 x0, .int .i64 x1, .int .u32 x2, .int .u32 x3, .int .u32 x4, .int .u32 x5] 59)).alloc (by simp) (.cells #[.int .i64 0, .int .i64 0, .int .i64 0, .int .i64 0, .slice none 0 0] 64))
  have TX := Lib.hid (heap_keep (o := (.cells #[.int .i64 0, .int .i64 0, .int .i64 0, .int .i64 0, .slice none 0 0] 64)) (heap_alloc_at w (.cells #[.int .i64 x0, .int .i64 x1, .int .u32 x2, .int .u32 x3, .int .u32 x4, .int .u32 x5] 59) _ rfl))
  have TC := Lib.hid (heap_alloc_at (w.alloc (.cells #[.int .i64 x0, .int .i64 x1, .int .u32 x2, .int .u32 x3, .int .u32 x4, .int .u32 x5] 59)) (.cells #[.int .i64 0, .int .i64 0, .int .i64 0, .int .i64 0, .slice none 0 0] 64) (w.heap.size + 1) (by simp))
  go_enter Try.func45, Try.ntmps45
  go_wp2_with fail
  generalize (w.alloc (.cells #[.int .i64 x0, .int .i64 x1, .int .u32 x2, .int .u32 x3, .int .u32 x4, .int .u32 x5] 59)).alloc (.cells #[.int .i64 0, .int .i64 0, .int .i64 0, .int .i64 0, .slice none 0 0] 64) = wA at *
  have hX := TX.out
  have xl := lt_of_heap hX
  have cl := lt_of_heap TC.out
  have xq0 : wA.cell? ⟨w.heap.size, 0, none⟩ = some (.int .i64 x0) := cell_of_heap hX rfl
  have xq1 : wA.cell? ⟨w.heap.size, 1, none⟩ = some (.int .i64 x1) := cell_of_heap hX rfl
  have xq2 : wA.cell? ⟨w.heap.size, 2, none⟩ = some (.int .u32 x2) := cell_of_heap hX rfl
  have xq3 : wA.cell? ⟨w.heap.size, 3, none⟩ = some (.int .u32 x3) := cell_of_heap hX rfl
  have xq4 : wA.cell? ⟨w.heap.size, 4, none⟩ = some (.int .u32 x4) := cell_of_heap hX rfl
  have xq5 : wA.cell? ⟨w.heap.size, 5, none⟩ = some (.int .u32 x5) := cell_of_heap hX rfl
  clear hX
  go_region_with (first | (go_at_call 76; refine (rword_c 0 _).mono ?_; rintro e u1 ⟨rfl, hb1⟩; have hn1 : New wA u1 := (by first | exact hb1 | exact Below.trans ((New.refl wA).drew) hb1); have hX1 := keep hn1 TX.out; have hR1 := keep hn1 TC.out; have hl1 := lt_of_heap hR1; have hlx1 := lt_of_heap hX1; have xr0 : u1.cell? ⟨w.heap.size, 0, none⟩ = some (.int .i64 x0) := cell_of_heap hX1 rfl; have xr1 : u1.cell? ⟨w.heap.size, 1, none⟩ = some (.int .i64 x1) := cell_of_heap hX1 rfl; have xr2 : u1.cell? ⟨w.heap.size, 2, none⟩ = some (.int .u32 x2) := cell_of_heap hX1 rfl; have xr3 : u1.cell? ⟨w.heap.size, 3, none⟩ = some (.int .u32 x3) := cell_of_heap hX1 rfl; have xr4 : u1.cell? ⟨w.heap.size, 4, none⟩ = some (.int .u32 x4) := cell_of_heap hX1 rfl; have xr5 : u1.cell? ⟨w.heap.size, 5, none⟩ = some (.int .u32 x5) := cell_of_heap hX1 rfl; have X1 := Lib.hid hX1; have R1 := Lib.hid hR1; unfold wordA Atom.val; dsimp only; clear hb1 hX1 hR1) | (go_at_call 47; refine (binary_c 14 1 ⟨x0, x1, x2, x3, x4, x5⟩ (wordA 0) _).mono ?_; rintro e u2 ⟨bl, rfl, hbl0, hlo, hb2⟩; have hn12 : New u1 u2 := (by first | exact hb2 | exact Below.trans ((New.refl u1).drew) hb2); have hlo1 : u1.heap.size ≤ bl := hlo; have hR2 := keep hn12 R1.out; have hn2 : New wA u2 := hn1.trans (hn12.mono hn1.size); have hl2 := lt_of_heap hR2; have d0 : u2.cell? ⟨w.heap.size + 1, 0, none⟩ = some (.int .i64 0) := cell_of_heap hR2 rfl; have d1 : u2.cell? ⟨w.heap.size + 1, 1, none⟩ = some (.int .i64 0) := cell_of_heap hR2 rfl; have d2 : u2.cell? ⟨w.heap.size + 1, 2, none⟩ = some (.int .i64 0) := cell_of_heap hR2 rfl; have d3 : u2.cell? ⟨w.heap.size + 1, 3, none⟩ = some (.int .i64 0) := cell_of_heap hR2 rfl; have d4 : u2.cell? ⟨w.heap.size + 1, 4, none⟩ = some (.slice none 0 0) := cell_of_heap hR2 rfl; have df : ∀ i, u2.frozen? ⟨w.heap.size + 1, i, none⟩ = false := (fun i => frozen_of_heap hR2); have hbl := Lib.hid hbl0; have RR2 := Lib.hid hR2; unfold exprV; dsimp only; clear hb2 hR2 hbl0 hlo hn12))
  all_goals
    go_wp2
    have hR2 := RR2.out
    obtain ⟨HO, HR⟩ := set5 u2 (w.heap.size + 1) (.int .i64 4) (.int .i64 1) (.int .i64 14) (.int .i64 0) (.slice (some ⟨bl, 0, none⟩) 2 2) _ _ _ _ _ _ hR2
    have HN : New w _ := New.only (NA.out.trans (hn2.mono NA.out.size)) HO (by omega)
    generalize (((((u2.setCell ⟨w.heap.size + 1, 0, none⟩ (.int .i64 4)).setCell ⟨w.heap.size + 1, 1, none⟩ (.int .i64 1)).setCell ⟨w.heap.size + 1, 2, none⟩ (.int .i64 14)).setCell ⟨w.heap.size + 1, 3, none⟩ (.int .i64 0)).setCell ⟨w.heap.size + 1, 4, none⟩ (.slice (some ⟨bl, 0, none⟩) 2 2)) = w3 at *
    have HF := (HO.block bl (by omega)).trans hbl.out
    refine bodyPost_ret (v := .tuple #[exprV 4 1 14 0 2 bl, .bool true]) ?_ rfl ⟨bl, rfl, HF, by omega, HN⟩
    exact results_cell_slot Try.results45 _ _ ⟨w.heap.size + 1, 0, none⟩ _ rfl (load_row 64 _ _ _ _ _ HR Try.underlying64 rfl (expr_size.trans rfl))
set_option maxRecDepth 100000 in
set_option maxHeartbeats 2000000 in
theorem zero_9 (x0 x1 x2 x3 x4 x5 : Int) (w : World) : Calls Try.prog 45 #[.int .i64 9, .agg #[.int .i64 x0, .int .i64 x1, .int .u32 x2, .int .u32 x3, .int .u32 x4, .int .u32 x5]] w (ExprPost2 ⟨4, 1, 15, 0, [⟨x0, x1, x2, x3, x4, x5⟩, (wordA 0)]⟩ w) := by
  have NA := Lib.hid (((New.refl w).alloc (Nat.le_refl _) (.cells #[.int .i64 x0, .int .i64 x1, .int .u32 x2, .int .u32 x3, .int .u32 x4, .int .u32 x5] 59)).alloc (by simp) (.cells #[.int .i64 0, .int .i64 0, .int .i64 0, .int .i64 0, .slice none 0 0] 64))
  have TX := Lib.hid (heap_keep (o := (.cells #[.int .i64 0, .int .i64 0, .int .i64 0, .int .i64 0, .slice none 0 0] 64)) (heap_alloc_at w (.cells #[.int .i64 x0, .int .i64 x1, .int .u32 x2, .int .u32 x3, .int .u32 x4, .int .u32 x5] 59) _ rfl))
  have TC := Lib.hid (heap_alloc_at (w.alloc (.cells #[.int .i64 x0, .int .i64 x1, .int .u32 x2, .int .u32 x3, .int .u32 x4, .int .u32 x5] 59)) (.cells #[.int .i64 0, .int .i64 0, .int .i64 0, .int .i64 0, .slice none 0 0] 64) (w.heap.size + 1) (by simp))
  go_enter Try.func45, Try.ntmps45
  go_wp2_with fail
  generalize (w.alloc (.cells #[.int .i64 x0, .int .i64 x1, .int .u32 x2, .int .u32 x3, .int .u32 x4, .int .u32 x5] 59)).alloc (.cells #[.int .i64 0, .int .i64 0, .int .i64 0, .int .i64 0, .slice none 0 0] 64) = wA at *
  have hX := TX.out
  have xl := lt_of_heap hX
  have cl := lt_of_heap TC.out
  have xq0 : wA.cell? ⟨w.heap.size, 0, none⟩ = some (.int .i64 x0) := cell_of_heap hX rfl
  have xq1 : wA.cell? ⟨w.heap.size, 1, none⟩ = some (.int .i64 x1) := cell_of_heap hX rfl
  have xq2 : wA.cell? ⟨w.heap.size, 2, none⟩ = some (.int .u32 x2) := cell_of_heap hX rfl
  have xq3 : wA.cell? ⟨w.heap.size, 3, none⟩ = some (.int .u32 x3) := cell_of_heap hX rfl
  have xq4 : wA.cell? ⟨w.heap.size, 4, none⟩ = some (.int .u32 x4) := cell_of_heap hX rfl
  have xq5 : wA.cell? ⟨w.heap.size, 5, none⟩ = some (.int .u32 x5) := cell_of_heap hX rfl
  clear hX
  go_region_with (first | (go_at_call 76; refine (rword_c 0 _).mono ?_; rintro e u1 ⟨rfl, hb1⟩; have hn1 : New wA u1 := (by first | exact hb1 | exact Below.trans ((New.refl wA).drew) hb1); have hX1 := keep hn1 TX.out; have hR1 := keep hn1 TC.out; have hl1 := lt_of_heap hR1; have hlx1 := lt_of_heap hX1; have xr0 : u1.cell? ⟨w.heap.size, 0, none⟩ = some (.int .i64 x0) := cell_of_heap hX1 rfl; have xr1 : u1.cell? ⟨w.heap.size, 1, none⟩ = some (.int .i64 x1) := cell_of_heap hX1 rfl; have xr2 : u1.cell? ⟨w.heap.size, 2, none⟩ = some (.int .u32 x2) := cell_of_heap hX1 rfl; have xr3 : u1.cell? ⟨w.heap.size, 3, none⟩ = some (.int .u32 x3) := cell_of_heap hX1 rfl; have xr4 : u1.cell? ⟨w.heap.size, 4, none⟩ = some (.int .u32 x4) := cell_of_heap hX1 rfl; have xr5 : u1.cell? ⟨w.heap.size, 5, none⟩ = some (.int .u32 x5) := cell_of_heap hX1 rfl; have X1 := Lib.hid hX1; have R1 := Lib.hid hR1; unfold wordA Atom.val; dsimp only; clear hb1 hX1 hR1) | (go_at_call 47; refine (binary_c 15 1 ⟨x0, x1, x2, x3, x4, x5⟩ (wordA 0) _).mono ?_; rintro e u2 ⟨bl, rfl, hbl0, hlo, hb2⟩; have hn12 : New u1 u2 := (by first | exact hb2 | exact Below.trans ((New.refl u1).drew) hb2); have hlo1 : u1.heap.size ≤ bl := hlo; have hR2 := keep hn12 R1.out; have hn2 : New wA u2 := hn1.trans (hn12.mono hn1.size); have hl2 := lt_of_heap hR2; have d0 : u2.cell? ⟨w.heap.size + 1, 0, none⟩ = some (.int .i64 0) := cell_of_heap hR2 rfl; have d1 : u2.cell? ⟨w.heap.size + 1, 1, none⟩ = some (.int .i64 0) := cell_of_heap hR2 rfl; have d2 : u2.cell? ⟨w.heap.size + 1, 2, none⟩ = some (.int .i64 0) := cell_of_heap hR2 rfl; have d3 : u2.cell? ⟨w.heap.size + 1, 3, none⟩ = some (.int .i64 0) := cell_of_heap hR2 rfl; have d4 : u2.cell? ⟨w.heap.size + 1, 4, none⟩ = some (.slice none 0 0) := cell_of_heap hR2 rfl; have df : ∀ i, u2.frozen? ⟨w.heap.size + 1, i, none⟩ = false := (fun i => frozen_of_heap hR2); have hbl := Lib.hid hbl0; have RR2 := Lib.hid hR2; unfold exprV; dsimp only; clear hb2 hR2 hbl0 hlo hn12))
  all_goals
    go_wp2
    have hR2 := RR2.out
    obtain ⟨HO, HR⟩ := set5 u2 (w.heap.size + 1) (.int .i64 4) (.int .i64 1) (.int .i64 15) (.int .i64 0) (.slice (some ⟨bl, 0, none⟩) 2 2) _ _ _ _ _ _ hR2
    have HN : New w _ := New.only (NA.out.trans (hn2.mono NA.out.size)) HO (by omega)
    generalize (((((u2.setCell ⟨w.heap.size + 1, 0, none⟩ (.int .i64 4)).setCell ⟨w.heap.size + 1, 1, none⟩ (.int .i64 1)).setCell ⟨w.heap.size + 1, 2, none⟩ (.int .i64 15)).setCell ⟨w.heap.size + 1, 3, none⟩ (.int .i64 0)).setCell ⟨w.heap.size + 1, 4, none⟩ (.slice (some ⟨bl, 0, none⟩) 2 2)) = w3 at *
    have HF := (HO.block bl (by omega)).trans hbl.out
    refine bodyPost_ret (v := .tuple #[exprV 4 1 15 0 2 bl, .bool true]) ?_ rfl ⟨bl, rfl, HF, by omega, HN⟩
    exact results_cell_slot Try.results45 _ _ ⟨w.heap.size + 1, 0, none⟩ _ rfl (load_row 64 _ _ _ _ _ HR Try.underlying64 rfl (expr_size.trans rfl))
set_option maxRecDepth 100000 in
set_option maxHeartbeats 2000000 in
theorem zero_10 (x0 x1 x2 x3 x4 x5 : Int) (w : World) : Calls Try.prog 45 #[.int .i64 10, .agg #[.int .i64 x0, .int .i64 x1, .int .u32 x2, .int .u32 x3, .int .u32 x4, .int .u32 x5]] w (ExprPost2 ⟨4, 1, 17, 0, [⟨x0, x1, x2, x3, x4, x5⟩, (wordA 0)]⟩ w) := by
  have NA := Lib.hid (((New.refl w).alloc (Nat.le_refl _) (.cells #[.int .i64 x0, .int .i64 x1, .int .u32 x2, .int .u32 x3, .int .u32 x4, .int .u32 x5] 59)).alloc (by simp) (.cells #[.int .i64 0, .int .i64 0, .int .i64 0, .int .i64 0, .slice none 0 0] 64))
  have TX := Lib.hid (heap_keep (o := (.cells #[.int .i64 0, .int .i64 0, .int .i64 0, .int .i64 0, .slice none 0 0] 64)) (heap_alloc_at w (.cells #[.int .i64 x0, .int .i64 x1, .int .u32 x2, .int .u32 x3, .int .u32 x4, .int .u32 x5] 59) _ rfl))
  have TC := Lib.hid (heap_alloc_at (w.alloc (.cells #[.int .i64 x0, .int .i64 x1, .int .u32 x2, .int .u32 x3, .int .u32 x4, .int .u32 x5] 59)) (.cells #[.int .i64 0, .int .i64 0, .int .i64 0, .int .i64 0, .slice none 0 0] 64) (w.heap.size + 1) (by simp))
  go_enter Try.func45, Try.ntmps45
  go_wp2_with fail
  generalize (w.alloc (.cells #[.int .i64 x0, .int .i64 x1, .int .u32 x2, .int .u32 x3, .int .u32 x4, .int .u32 x5] 59)).alloc (.cells #[.int .i64 0, .int .i64 0, .int .i64 0, .int .i64 0, .slice none 0 0] 64) = wA at *
  have hX := TX.out
  have xl := lt_of_heap hX
  have cl := lt_of_heap TC.out
  have xq0 : wA.cell? ⟨w.heap.size, 0, none⟩ = some (.int .i64 x0) := cell_of_heap hX rfl
  have xq1 : wA.cell? ⟨w.heap.size, 1, none⟩ = some (.int .i64 x1) := cell_of_heap hX rfl
  have xq2 : wA.cell? ⟨w.heap.size, 2, none⟩ = some (.int .u32 x2) := cell_of_heap hX rfl
  have xq3 : wA.cell? ⟨w.heap.size, 3, none⟩ = some (.int .u32 x3) := cell_of_heap hX rfl
  have xq4 : wA.cell? ⟨w.heap.size, 4, none⟩ = some (.int .u32 x4) := cell_of_heap hX rfl
  have xq5 : wA.cell? ⟨w.heap.size, 5, none⟩ = some (.int .u32 x5) := cell_of_heap hX rfl
  clear hX
  go_region_with (first | (go_at_call 76; refine (rword_c 0 _).mono ?_; rintro e u1 ⟨rfl, hb1⟩; have hn1 : New wA u1 := (by first | exact hb1 | exact Below.trans ((New.refl wA).drew) hb1); have hX1 := keep hn1 TX.out; have hR1 := keep hn1 TC.out; have hl1 := lt_of_heap hR1; have hlx1 := lt_of_heap hX1; have xr0 : u1.cell? ⟨w.heap.size, 0, none⟩ = some (.int .i64 x0) := cell_of_heap hX1 rfl; have xr1 : u1.cell? ⟨w.heap.size, 1, none⟩ = some (.int .i64 x1) := cell_of_heap hX1 rfl; have xr2 : u1.cell? ⟨w.heap.size, 2, none⟩ = some (.int .u32 x2) := cell_of_heap hX1 rfl; have xr3 : u1.cell? ⟨w.heap.size, 3, none⟩ = some (.int .u32 x3) := cell_of_heap hX1 rfl; have xr4 : u1.cell? ⟨w.heap.size, 4, none⟩ = some (.int .u32 x4) := cell_of_heap hX1 rfl; have xr5 : u1.cell? ⟨w.heap.size, 5, none⟩ = some (.int .u32 x5) := cell_of_heap hX1 rfl; have X1 := Lib.hid hX1; have R1 := Lib.hid hR1; unfold wordA Atom.val; dsimp only; clear hb1 hX1 hR1) | (go_at_call 47; refine (binary_c 17 1 ⟨x0, x1, x2, x3, x4, x5⟩ (wordA 0) _).mono ?_; rintro e u2 ⟨bl, rfl, hbl0, hlo, hb2⟩; have hn12 : New u1 u2 := (by first | exact hb2 | exact Below.trans ((New.refl u1).drew) hb2); have hlo1 : u1.heap.size ≤ bl := hlo; have hR2 := keep hn12 R1.out; have hn2 : New wA u2 := hn1.trans (hn12.mono hn1.size); have hl2 := lt_of_heap hR2; have d0 : u2.cell? ⟨w.heap.size + 1, 0, none⟩ = some (.int .i64 0) := cell_of_heap hR2 rfl; have d1 : u2.cell? ⟨w.heap.size + 1, 1, none⟩ = some (.int .i64 0) := cell_of_heap hR2 rfl; have d2 : u2.cell? ⟨w.heap.size + 1, 2, none⟩ = some (.int .i64 0) := cell_of_heap hR2 rfl; have d3 : u2.cell? ⟨w.heap.size + 1, 3, none⟩ = some (.int .i64 0) := cell_of_heap hR2 rfl; have d4 : u2.cell? ⟨w.heap.size + 1, 4, none⟩ = some (.slice none 0 0) := cell_of_heap hR2 rfl; have df : ∀ i, u2.frozen? ⟨w.heap.size + 1, i, none⟩ = false := (fun i => frozen_of_heap hR2); have hbl := Lib.hid hbl0; have RR2 := Lib.hid hR2; unfold exprV; dsimp only; clear hb2 hR2 hbl0 hlo hn12))
  all_goals
    go_wp2
    have hR2 := RR2.out
    obtain ⟨HO, HR⟩ := set5 u2 (w.heap.size + 1) (.int .i64 4) (.int .i64 1) (.int .i64 17) (.int .i64 0) (.slice (some ⟨bl, 0, none⟩) 2 2) _ _ _ _ _ _ hR2
    have HN : New w _ := New.only (NA.out.trans (hn2.mono NA.out.size)) HO (by omega)
    generalize (((((u2.setCell ⟨w.heap.size + 1, 0, none⟩ (.int .i64 4)).setCell ⟨w.heap.size + 1, 1, none⟩ (.int .i64 1)).setCell ⟨w.heap.size + 1, 2, none⟩ (.int .i64 17)).setCell ⟨w.heap.size + 1, 3, none⟩ (.int .i64 0)).setCell ⟨w.heap.size + 1, 4, none⟩ (.slice (some ⟨bl, 0, none⟩) 2 2)) = w3 at *
    have HF := (HO.block bl (by omega)).trans hbl.out
    refine bodyPost_ret (v := .tuple #[exprV 4 1 17 0 2 bl, .bool true]) ?_ rfl ⟨bl, rfl, HF, by omega, HN⟩
    exact results_cell_slot Try.results45 _ _ ⟨w.heap.size + 1, 0, none⟩ _ rfl (load_row 64 _ _ _ _ _ HR Try.underlying64 rfl (expr_size.trans rfl))
set_option maxRecDepth 100000 in
set_option maxHeartbeats 2000000 in
theorem zero_11 (x0 x1 x2 x3 x4 x5 : Int) (w : World) : Calls Try.prog 45 #[.int .i64 11, .agg #[.int .i64 x0, .int .i64 x1, .int .u32 x2, .int .u32 x3, .int .u32 x4, .int .u32 x5]] w (ExprPost2 ⟨4, 1, 19, 0, [(wordA 0), ⟨x0, x1, x2, x3, x4, x5⟩]⟩ w) := by
  have NA := Lib.hid (((New.refl w).alloc (Nat.le_refl _) (.cells #[.int .i64 x0, .int .i64 x1, .int .u32 x2, .int .u32 x3, .int .u32 x4, .int .u32 x5] 59)).alloc (by simp) (.cells #[.int .i64 0, .int .i64 0, .int .i64 0, .int .i64 0, .slice none 0 0] 64))
  have TX := Lib.hid (heap_keep (o := (.cells #[.int .i64 0, .int .i64 0, .int .i64 0, .int .i64 0, .slice none 0 0] 64)) (heap_alloc_at w (.cells #[.int .i64 x0, .int .i64 x1, .int .u32 x2, .int .u32 x3, .int .u32 x4, .int .u32 x5] 59) _ rfl))
  have TC := Lib.hid (heap_alloc_at (w.alloc (.cells #[.int .i64 x0, .int .i64 x1, .int .u32 x2, .int .u32 x3, .int .u32 x4, .int .u32 x5] 59)) (.cells #[.int .i64 0, .int .i64 0, .int .i64 0, .int .i64 0, .slice none 0 0] 64) (w.heap.size + 1) (by simp))
  go_enter Try.func45, Try.ntmps45
  go_wp2_with fail
  generalize (w.alloc (.cells #[.int .i64 x0, .int .i64 x1, .int .u32 x2, .int .u32 x3, .int .u32 x4, .int .u32 x5] 59)).alloc (.cells #[.int .i64 0, .int .i64 0, .int .i64 0, .int .i64 0, .slice none 0 0] 64) = wA at *
  have hX := TX.out
  have xl := lt_of_heap hX
  have cl := lt_of_heap TC.out
  have xq0 : wA.cell? ⟨w.heap.size, 0, none⟩ = some (.int .i64 x0) := cell_of_heap hX rfl
  have xq1 : wA.cell? ⟨w.heap.size, 1, none⟩ = some (.int .i64 x1) := cell_of_heap hX rfl
  have xq2 : wA.cell? ⟨w.heap.size, 2, none⟩ = some (.int .u32 x2) := cell_of_heap hX rfl
  have xq3 : wA.cell? ⟨w.heap.size, 3, none⟩ = some (.int .u32 x3) := cell_of_heap hX rfl
  have xq4 : wA.cell? ⟨w.heap.size, 4, none⟩ = some (.int .u32 x4) := cell_of_heap hX rfl
  have xq5 : wA.cell? ⟨w.heap.size, 5, none⟩ = some (.int .u32 x5) := cell_of_heap hX rfl
  clear hX
  go_region_with (first | (go_at_call 76; refine (rword_c 0 _).mono ?_; rintro e u1 ⟨rfl, hb1⟩; have hn1 : New wA u1 := (by first | exact hb1 | exact Below.trans ((New.refl wA).drew) hb1); have hX1 := keep hn1 TX.out; have hR1 := keep hn1 TC.out; have hl1 := lt_of_heap hR1; have hlx1 := lt_of_heap hX1; have xr0 : u1.cell? ⟨w.heap.size, 0, none⟩ = some (.int .i64 x0) := cell_of_heap hX1 rfl; have xr1 : u1.cell? ⟨w.heap.size, 1, none⟩ = some (.int .i64 x1) := cell_of_heap hX1 rfl; have xr2 : u1.cell? ⟨w.heap.size, 2, none⟩ = some (.int .u32 x2) := cell_of_heap hX1 rfl; have xr3 : u1.cell? ⟨w.heap.size, 3, none⟩ = some (.int .u32 x3) := cell_of_heap hX1 rfl; have xr4 : u1.cell? ⟨w.heap.size, 4, none⟩ = some (.int .u32 x4) := cell_of_heap hX1 rfl; have xr5 : u1.cell? ⟨w.heap.size, 5, none⟩ = some (.int .u32 x5) := cell_of_heap hX1 rfl; have X1 := Lib.hid hX1; have R1 := Lib.hid hR1; unfold wordA Atom.val; dsimp only; clear hb1 hX1 hR1) | (go_at_call 47; refine (binary_c 19 1 (wordA 0) ⟨x0, x1, x2, x3, x4, x5⟩ _).mono ?_; rintro e u2 ⟨bl, rfl, hbl0, hlo, hb2⟩; have hn12 : New u1 u2 := (by first | exact hb2 | exact Below.trans ((New.refl u1).drew) hb2); have hlo1 : u1.heap.size ≤ bl := hlo; have hR2 := keep hn12 R1.out; have hn2 : New wA u2 := hn1.trans (hn12.mono hn1.size); have hl2 := lt_of_heap hR2; have d0 : u2.cell? ⟨w.heap.size + 1, 0, none⟩ = some (.int .i64 0) := cell_of_heap hR2 rfl; have d1 : u2.cell? ⟨w.heap.size + 1, 1, none⟩ = some (.int .i64 0) := cell_of_heap hR2 rfl; have d2 : u2.cell? ⟨w.heap.size + 1, 2, none⟩ = some (.int .i64 0) := cell_of_heap hR2 rfl; have d3 : u2.cell? ⟨w.heap.size + 1, 3, none⟩ = some (.int .i64 0) := cell_of_heap hR2 rfl; have d4 : u2.cell? ⟨w.heap.size + 1, 4, none⟩ = some (.slice none 0 0) := cell_of_heap hR2 rfl; have df : ∀ i, u2.frozen? ⟨w.heap.size + 1, i, none⟩ = false := (fun i => frozen_of_heap hR2); have hbl := Lib.hid hbl0; have RR2 := Lib.hid hR2; unfold exprV; dsimp only; clear hb2 hR2 hbl0 hlo hn12))
  all_goals
    go_wp2
    have hR2 := RR2.out
    obtain ⟨HO, HR⟩ := set5 u2 (w.heap.size + 1) (.int .i64 4) (.int .i64 1) (.int .i64 19) (.int .i64 0) (.slice (some ⟨bl, 0, none⟩) 2 2) _ _ _ _ _ _ hR2
    have HN : New w _ := New.only (NA.out.trans (hn2.mono NA.out.size)) HO (by omega)
    generalize (((((u2.setCell ⟨w.heap.size + 1, 0, none⟩ (.int .i64 4)).setCell ⟨w.heap.size + 1, 1, none⟩ (.int .i64 1)).setCell ⟨w.heap.size + 1, 2, none⟩ (.int .i64 19)).setCell ⟨w.heap.size + 1, 3, none⟩ (.int .i64 0)).setCell ⟨w.heap.size + 1, 4, none⟩ (.slice (some ⟨bl, 0, none⟩) 2 2)) = w3 at *
    have HF := (HO.block bl (by omega)).trans hbl.out
    refine bodyPost_ret (v := .tuple #[exprV 4 1 19 0 2 bl, .bool true]) ?_ rfl ⟨bl, rfl, HF, by omega, HN⟩
    exact results_cell_slot Try.results45 _ _ ⟨w.heap.size + 1, 0, none⟩ _ rfl (load_row 64 _ _ _ _ _ HR Try.underlying64 rfl (expr_size.trans rfl))
set_option maxRecDepth 100000 in
set_option maxHeartbeats 2000000 in
theorem zero_12 (x0 x1 x2 x3 x4 x5 : Int) (w : World) : Calls Try.prog 45 #[.int .i64 12, .agg #[.int .i64 x0, .int .i64 x1, .int .u32 x2, .int .u32 x3, .int .u32 x4, .int .u32 x5]] w (ExprPost2 ⟨4, 1, 19, 0, [⟨x0, x1, x2, x3, x4, x5⟩, (wordA 0)]⟩ w) := by
  have NA := Lib.hid (((New.refl w).alloc (Nat.le_refl _) (.cells #[.int .i64 x0, .int .i64 x1, .int .u32 x2, .int .u32 x3, .int .u32 x4, .int .u32 x5] 59)).alloc (by simp) (.cells #[.int .i64 0, .int .i64 0, .int .i64 0, .int .i64 0, .slice none 0 0] 64))
  have TX := Lib.hid (heap_keep (o := (.cells #[.int .i64 0, .int .i64 0, .int .i64 0, .int .i64 0, .slice none 0 0] 64)) (heap_alloc_at w (.cells #[.int .i64 x0, .int .i64 x1, .int .u32 x2, .int .u32 x3, .int .u32 x4, .int .u32 x5] 59) _ rfl))
  have TC := Lib.hid (heap_alloc_at (w.alloc (.cells #[.int .i64 x0, .int .i64 x1, .int .u32 x2, .int .u32 x3, .int .u32 x4, .int .u32 x5] 59)) (.cells #[.int .i64 0, .int .i64 0, .int .i64 0, .int .i64 0, .slice none 0 0] 64) (w.heap.size + 1) (by simp))
  go_enter Try.func45, Try.ntmps45
  go_wp2_with fail
  generalize (w.alloc (.cells #[.int .i64 x0, .int .i64 x1, .int .u32 x2, .int .u32 x3, .int .u32 x4, .int .u32 x5] 59)).alloc (.cells #[.int .i64 0, .int .i64 0, .int .i64 0, .int .i64 0, .slice none 0 0] 64) = wA at *
  have hX := TX.out
  have xl := lt_of_heap hX
  have cl := lt_of_heap TC.out
  have xq0 : wA.cell? ⟨w.heap.size, 0, none⟩ = some (.int .i64 x0) := cell_of_heap hX rfl
  have xq1 : wA.cell? ⟨w.heap.size, 1, none⟩ = some (.int .i64 x1) := cell_of_heap hX rfl
  have xq2 : wA.cell? ⟨w.heap.size, 2, none⟩ = some (.int .u32 x2) := cell_of_heap hX rfl
  have xq3 : wA.cell? ⟨w.heap.size, 3, none⟩ = some (.int .u32 x3) := cell_of_heap hX rfl
  have xq4 : wA.cell? ⟨w.heap.size, 4, none⟩ = some (.int .u32 x4) := cell_of_heap hX rfl
  have xq5 : wA.cell? ⟨w.heap.size, 5, none⟩ = some (.int .u32 x5) := cell_of_heap hX rfl
  clear hX
  go_region_with (first | (go_at_call 76; refine (rword_c 0 _).mono ?_; rintro e u1 ⟨rfl, hb1⟩; have hn1 : New wA u1 := (by first | exact hb1 | exact Below.trans ((New.refl wA).drew) hb1); have hX1 := keep hn1 TX.out; have hR1 := keep hn1 TC.out; have hl1 := lt_of_heap hR1; have hlx1 := lt_of_heap hX1; have xr0 : u1.cell? ⟨w.heap.size, 0, none⟩ = some (.int .i64 x0) := cell_of_heap hX1 rfl; have xr1 : u1.cell? ⟨w.heap.size, 1, none⟩ = some (.int .i64 x1) := cell_of_heap hX1 rfl; have xr2 : u1.cell? ⟨w.heap.size, 2, none⟩ = some (.int .u32 x2) := cell_of_heap hX1 rfl; have xr3 : u1.cell? ⟨w.heap.size, 3, none⟩ = some (.int .u32 x3) := cell_of_heap hX1 rfl; have xr4 : u1.cell? ⟨w.heap.size, 4, none⟩ = some (.int .u32 x4) := cell_of_heap hX1 rfl; have xr5 : u1.cell? ⟨w.heap.size, 5, none⟩ = some (.int .u32 x5) := cell_of_heap hX1 rfl; have X1 := Lib.hid hX1; have R1 := Lib.hid hR1; unfold wordA Atom.val; dsimp only; clear hb1 hX1 hR1) | (go_at_call 47; refine (binary_c 19 1 ⟨x0, x1, x2, x3, x4, x5⟩ (wordA 0) _).mono ?_; rintro e u2 ⟨bl, rfl, hbl0, hlo, hb2⟩; have hn12 : New u1 u2 := (by first | exact hb2 | exact Below.trans ((New.refl u1).drew) hb2); have hlo1 : u1.heap.size ≤ bl := hlo; have hR2 := keep hn12 R1.out; have hn2 : New wA u2 := hn1.trans (hn12.mono hn1.size); have hl2 := lt_of_heap hR2; have d0 : u2.cell? ⟨w.heap.size + 1, 0, none⟩ = some (.int .i64 0) := cell_of_heap hR2 rfl; have d1 : u2.cell? ⟨w.heap.size + 1, 1, none⟩ = some (.int .i64 0) := cell_of_heap hR2 rfl; have d2 : u2.cell? ⟨w.heap.size + 1, 2, none⟩ = some (.int .i64 0) := cell_of_heap hR2 rfl; have d3 : u2.cell? ⟨w.heap.size + 1, 3, none⟩ = some (.int .i64 0) := cell_of_heap hR2 rfl; have d4 : u2.cell? ⟨w.heap.size + 1, 4, none⟩ = some (.slice none 0 0) := cell_of_heap hR2 rfl; have df : ∀ i, u2.frozen? ⟨w.heap.size + 1, i, none⟩ = false := (fun i => frozen_of_heap hR2); have hbl := Lib.hid hbl0; have RR2 := Lib.hid hR2; unfold exprV; dsimp only; clear hb2 hR2 hbl0 hlo hn12))
  all_goals
    go_wp2
    have hR2 := RR2.out
    obtain ⟨HO, HR⟩ := set5 u2 (w.heap.size + 1) (.int .i64 4) (.int .i64 1) (.int .i64 19) (.int .i64 0) (.slice (some ⟨bl, 0, none⟩) 2 2) _ _ _ _ _ _ hR2
    have HN : New w _ := New.only (NA.out.trans (hn2.mono NA.out.size)) HO (by omega)
    generalize (((((u2.setCell ⟨w.heap.size + 1, 0, none⟩ (.int .i64 4)).setCell ⟨w.heap.size + 1, 1, none⟩ (.int .i64 1)).setCell ⟨w.heap.size + 1, 2, none⟩ (.int .i64 19)).setCell ⟨w.heap.size + 1, 3, none⟩ (.int .i64 0)).setCell ⟨w.heap.size + 1, 4, none⟩ (.slice (some ⟨bl, 0, none⟩) 2 2)) = w3 at *
    have HF := (HO.block bl (by omega)).trans hbl.out
    refine bodyPost_ret (v := .tuple #[exprV 4 1 19 0 2 bl, .bool true]) ?_ rfl ⟨bl, rfl, HF, by omega, HN⟩
    exact results_cell_slot Try.results45 _ _ ⟨w.heap.size + 1, 0, none⟩ _ rfl (load_row 64 _ _ _ _ _ HR Try.underlying64 rfl (expr_size.trans rfl))
set_option maxRecDepth 100000 in
set_option maxHeartbeats 2000000 in
theorem zero_13 (x0 x1 x2 x3 x4 x5 : Int) (w : World) : Calls Try.prog 45 #[.int .i64 13, .agg #[.int .i64 x0, .int .i64 x1, .int .u32 x2, .int .u32 x3, .int .u32 x4, .int .u32 x5]] w (ExprPost2 ⟨4, 1, 17, 0, [(wordA 0), ⟨x0, x1, x2, x3, x4, x5⟩]⟩ w) := by
  have NA := Lib.hid (((New.refl w).alloc (Nat.le_refl _) (.cells #[.int .i64 x0, .int .i64 x1, .int .u32 x2, .int .u32 x3, .int .u32 x4, .int .u32 x5] 59)).alloc (by simp) (.cells #[.int .i64 0, .int .i64 0, .int .i64 0, .int .i64 0, .slice none 0 0] 64))
  have TX := Lib.hid (heap_keep (o := (.cells #[.int .i64 0, .int .i64 0, .int .i64 0, .int .i64 0, .slice none 0 0] 64)) (heap_alloc_at w (.cells #[.int .i64 x0, .int .i64 x1, .int .u32 x2, .int .u32 x3, .int .u32 x4, .int .u32 x5] 59) _ rfl))
  have TC := Lib.hid (heap_alloc_at (w.alloc (.cells #[.int .i64 x0, .int .i64 x1, .int .u32 x2, .int .u32 x3, .int .u32 x4, .int .u32 x5] 59)) (.cells #[.int .i64 0, .int .i64 0, .int .i64 0, .int .i64 0, .slice none 0 0] 64) (w.heap.size + 1) (by simp))
  go_enter Try.func45, Try.ntmps45
  go_wp2_with fail
  generalize (w.alloc (.cells #[.int .i64 x0, .int .i64 x1, .int .u32 x2, .int .u32 x3, .int .u32 x4, .int .u32 x5] 59)).alloc (.cells #[.int .i64 0, .int .i64 0, .int .i64 0, .int .i64 0, .slice none 0 0] 64) = wA at *
  have hX := TX.out
  have xl := lt_of_heap hX
  have cl := lt_of_heap TC.out
  have xq0 : wA.cell? ⟨w.heap.size, 0, none⟩ = some (.int .i64 x0) := cell_of_heap hX rfl
  have xq1 : wA.cell? ⟨w.heap.size, 1, none⟩ = some (.int .i64 x1) := cell_of_heap hX rfl
  have xq2 : wA.cell? ⟨w.heap.size, 2, none⟩ = some (.int .u32 x2) := cell_of_heap hX rfl
  have xq3 : wA.cell? ⟨w.heap.size, 3, none⟩ = some (.int .u32 x3) := cell_of_heap hX rfl
  have xq4 : wA.cell? ⟨w.heap.size, 4, none⟩ = some (.int .u32 x4) := cell_of_heap hX rfl
  have xq5 : wA.cell? ⟨w.heap.size, 5, none⟩ = some (.int .u32 x5) := cell_of_heap hX rfl
  clear hX
  go_region_with (first | (go_at_call 76; refine (rword_c 0 _).mono ?_; rintro e u1 ⟨rfl, hb1⟩; have hn1 : New wA u1 := (by first | exact hb1 | exact Below.trans ((New.refl wA).drew) hb1); have hX1 := keep hn1 TX.out; have hR1 := keep hn1 TC.out; have hl1 := lt_of_heap hR1; have hlx1 := lt_of_heap hX1; have xr0 : u1.cell? ⟨w.heap.size, 0, none⟩ = some (.int .i64 x0) := cell_of_heap hX1 rfl; have xr1 : u1.cell? ⟨w.heap.size, 1, none⟩ = some (.int .i64 x1) := cell_of_heap hX1 rfl; have xr2 : u1.cell? ⟨w.heap.size, 2, none⟩ = some (.int .u32 x2) := cell_of_heap hX1 rfl; have xr3 : u1.cell? ⟨w.heap.size, 3, none⟩ = some (.int .u32 x3) := cell_of_heap hX1 rfl; have xr4 : u1.cell? ⟨w.heap.size, 4, none⟩ = some (.int .u32 x4) := cell_of_heap hX1 rfl; have xr5 : u1.cell? ⟨w.heap.size, 5, none⟩ = some (.int .u32 x5) := cell_of_heap hX1 rfl; have X1 := Lib.hid hX1; have R1 := Lib.hid hR1; unfold wordA Atom.val; dsimp only; clear hb1 hX1 hR1) | (go_at_call 47; refine (binary_c 17 1 (wordA 0) ⟨x0, x1, x2, x3, x4, x5⟩ _).mono ?_; rintro e u2 ⟨bl, rfl, hbl0, hlo, hb2⟩; have hn12 : New u1 u2 := (by first | exact hb2 | exact Below.trans ((New.refl u1).drew) hb2); have hlo1 : u1.heap.size ≤ bl := hlo; have hR2 := keep hn12 R1.out; have hn2 : New wA u2 := hn1.trans (hn12.mono hn1.size); have hl2 := lt_of_heap hR2; have d0 : u2.cell? ⟨w.heap.size + 1, 0, none⟩ = some (.int .i64 0) := cell_of_heap hR2 rfl; have d1 : u2.cell? ⟨w.heap.size + 1, 1, none⟩ = some (.int .i64 0) := cell_of_heap hR2 rfl; have d2 : u2.cell? ⟨w.heap.size + 1, 2, none⟩ = some (.int .i64 0) := cell_of_heap hR2 rfl; have d3 : u2.cell? ⟨w.heap.size + 1, 3, none⟩ = some (.int .i64 0) := cell_of_heap hR2 rfl; have d4 : u2.cell? ⟨w.heap.size + 1, 4, none⟩ = some (.slice none 0 0) := cell_of_heap hR2 rfl; have df : ∀ i, u2.frozen? ⟨w.heap.size + 1, i, none⟩ = false := (fun i => frozen_of_heap hR2); have hbl := Lib.hid hbl0; have RR2 := Lib.hid hR2; unfold exprV; dsimp only; clear hb2 hR2 hbl0 hlo hn12))
  all_goals
    go_wp2
    have hR2 := RR2.out
    obtain ⟨HO, HR⟩ := set5 u2 (w.heap.size + 1) (.int .i64 4) (.int .i64 1) (.int .i64 17) (.int .i64 0) (.slice (some ⟨bl, 0, none⟩) 2 2) _ _ _ _ _ _ hR2
    have HN : New w _ := New.only (NA.out.trans (hn2.mono NA.out.size)) HO (by omega)
    generalize (((((u2.setCell ⟨w.heap.size + 1, 0, none⟩ (.int .i64 4)).setCell ⟨w.heap.size + 1, 1, none⟩ (.int .i64 1)).setCell ⟨w.heap.size + 1, 2, none⟩ (.int .i64 17)).setCell ⟨w.heap.size + 1, 3, none⟩ (.int .i64 0)).setCell ⟨w.heap.size + 1, 4, none⟩ (.slice (some ⟨bl, 0, none⟩) 2 2)) = w3 at *
    have HF := (HO.block bl (by omega)).trans hbl.out
    refine bodyPost_ret (v := .tuple #[exprV 4 1 17 0 2 bl, .bool true]) ?_ rfl ⟨bl, rfl, HF, by omega, HN⟩
    exact results_cell_slot Try.results45 _ _ ⟨w.heap.size + 1, 0, none⟩ _ rfl (load_row 64 _ _ _ _ _ HR Try.underlying64 rfl (expr_size.trans rfl))
set_option maxRecDepth 100000 in
set_option maxHeartbeats 2000000 in
theorem difference_0 (x0 x1 x2 x3 x4 x5 y0 y1 y2 y3 y4 y5 : Int) (w : World) : Calls Try.prog 43 #[.int .i64 0, .agg #[.int .i64 x0, .int .i64 x1, .int .u32 x2, .int .u32 x3, .int .u32 x4, .int .u32 x5], .agg #[.int .i64 y0, .int .i64 y1, .int .u32 y2, .int .u32 y3, .int .u32 y4, .int .u32 y5]] w (ExprPost2 ⟨4, 1, 14, 0, [⟨x0, x1, x2, x3, x4, x5⟩, ⟨y0, y1, y2, y3, y4, y5⟩]⟩ w) := by
  have NA := Lib.hid ((((New.refl w).alloc (Nat.le_refl _) (.cells #[.int .i64 x0, .int .i64 x1, .int .u32 x2, .int .u32 x3, .int .u32 x4, .int .u32 x5] 59)).alloc (by simp) (.cells #[.int .i64 y0, .int .i64 y1, .int .u32 y2, .int .u32 y3, .int .u32 y4, .int .u32 y5] 59)).alloc (by simp; omega) (.cells #[.int .i64 0, .int .i64 0, .int .i64 0, .int .i64 0, .slice none 0 0] 64))
  have TC := Lib.hid (heap_alloc_at ((w.alloc (.cells #[.int .i64 x0, .int .i64 x1, .int .u32 x2, .int .u32 x3, .int .u32 x4, .int .u32 x5] 59)).alloc (.cells #[.int .i64 y0, .int .i64 y1, .int .u32 y2, .int .u32 y3, .int .u32 y4, .int .u32 y5] 59)) (.cells #[.int .i64 0, .int .i64 0, .int .i64 0, .int .i64 0, .slice none 0 0] 64) (w.heap.size + 1 + 1) (by simp))
  go_enter Try.func43, Try.ntmps43
  go_wp2_with fail
  generalize ((w.alloc (.cells #[.int .i64 x0, .int .i64 x1, .int .u32 x2, .int .u32 x3, .int .u32 x4, .int .u32 x5] 59)).alloc (.cells #[.int .i64 y0, .int .i64 y1, .int .u32 y2, .int .u32 y3, .int .u32 y4, .int .u32 y5] 59)).alloc (.cells #[.int .i64 0, .int .i64 0, .int .i64 0, .int .i64 0, .slice none 0 0] 64) = wA at *
  refine (binary_c 14 1 ⟨x0, x1, x2, x3, x4, x5⟩ ⟨y0, y1, y2, y3, y4, y5⟩ _).mono ?_
  rintro e u2 ⟨bl, rfl, hbl0, hlo, hn2⟩
  have hR2 := keep hn2 TC.out
  have hl1 := lt_of_heap TC.out
  have hl2 := lt_of_heap hR2
  have d0 : u2.cell? ⟨w.heap.size + 1 + 1, 0, none⟩ = some (.int .i64 0) := cell_of_heap hR2 rfl
  have d1 : u2.cell? ⟨w.heap.size + 1 + 1, 1, none⟩ = some (.int .i64 0) := cell_of_heap hR2 rfl
  have d2 : u2.cell? ⟨w.heap.size + 1 + 1, 2, none⟩ = some (.int .i64 0) := cell_of_heap hR2 rfl
  have d3 : u2.cell? ⟨w.heap.size + 1 + 1, 3, none⟩ = some (.int .i64 0) := cell_of_heap hR2 rfl
  have d4 : u2.cell? ⟨w.heap.size + 1 + 1, 4, none⟩ = some (.slice none 0 0) := cell_of_heap hR2 rfl
  have df : ∀ i, u2.frozen? ⟨w.heap.size + 1 + 1, i, none⟩ = false := fun i => frozen_of_heap hR2
  have hbl := Lib.hid hbl0
  have RR2 := Lib.hid hR2
  unfold exprV
  dsimp only
  clear hR2 hbl0
  go_wp2
  have hR2 := RR2.out
  obtain ⟨HO, HR⟩ := set5 u2 (w.heap.size + 1 + 1) (.int .i64 4) (.int .i64 1) (.int .i64 14) (.int .i64 0) (.slice (some ⟨bl, 0, none⟩) 2 2) _ _ _ _ _ _ hR2
  have HN : New w _ := New.only (NA.out.trans (hn2.mono NA.out.size)) HO (by omega)
  generalize (((((u2.setCell ⟨w.heap.size + 1 + 1, 0, none⟩ (.int .i64 4)).setCell ⟨w.heap.size + 1 + 1, 1, none⟩ (.int .i64 1)).setCell ⟨w.heap.size + 1 + 1, 2, none⟩ (.int .i64 14)).setCell ⟨w.heap.size + 1 + 1, 3, none⟩ (.int .i64 0)).setCell ⟨w.heap.size + 1 + 1, 4, none⟩ (.slice (some ⟨bl, 0, none⟩) 2 2)) = w3 at *
  have HF := (HO.block bl (by omega)).trans hbl.out
  refine bodyPost_ret (v := .tuple #[exprV 4 1 14 0 2 bl, .bool true]) ?_ rfl ⟨bl, rfl, HF, by omega, HN⟩
  exact results_cell_slot Try.results43 _ _ ⟨w.heap.size + 1 + 1, 0, none⟩ _ rfl (load_row 64 _ _ _ _ _ HR Try.underlying64 rfl (expr_size.trans rfl))
set_option maxRecDepth 100000 in
set_option maxHeartbeats 2000000 in
theorem difference_1 (x0 x1 x2 x3 x4 x5 y0 y1 y2 y3 y4 y5 : Int) (w : World) : Calls Try.prog 43 #[.int .i64 1, .agg #[.int .i64 x0, .int .i64 x1, .int .u32 x2, .int .u32 x3, .int .u32 x4, .int .u32 x5], .agg #[.int .i64 y0, .int .i64 y1, .int .u32 y2, .int .u32 y3, .int .u32 y4, .int .u32 y5]] w (ExprPost2 ⟨4, 1, 15, 0, [⟨x0, x1, x2, x3, x4, x5⟩, ⟨y0, y1, y2, y3, y4, y5⟩]⟩ w) := by
  have NA := Lib.hid ((((New.refl w).alloc (Nat.le_refl _) (.cells #[.int .i64 x0, .int .i64 x1, .int .u32 x2, .int .u32 x3, .int .u32 x4, .int .u32 x5] 59)).alloc (by simp) (.cells #[.int .i64 y0, .int .i64 y1, .int .u32 y2, .int .u32 y3, .int .u32 y4, .int .u32 y5] 59)).alloc (by simp; omega) (.cells #[.int .i64 0, .int .i64 0, .int .i64 0, .int .i64 0, .slice none 0 0] 64))
  have TC := Lib.hid (heap_alloc_at ((w.alloc (.cells #[.int .i64 x0, .int .i64 x1, .int .u32 x2, .int .u32 x3, .int .u32 x4, .int .u32 x5] 59)).alloc (.cells #[.int .i64 y0, .int .i64 y1, .int .u32 y2, .int .u32 y3, .int .u32 y4, .int .u32 y5] 59)) (.cells #[.int .i64 0, .int .i64 0, .int .i64 0, .int .i64 0, .slice none 0 0] 64) (w.heap.size + 1 + 1) (by simp))
  go_enter Try.func43, Try.ntmps43
  go_wp2_with fail
  generalize ((w.alloc (.cells #[.int .i64 x0, .int .i64 x1, .int .u32 x2, .int .u32 x3, .int .u32 x4, .int .u32 x5] 59)).alloc (.cells #[.int .i64 y0, .int .i64 y1, .int .u32 y2, .int .u32 y3, .int .u32 y4, .int .u32 y5] 59)).alloc (.cells #[.int .i64 0, .int .i64 0, .int .i64 0, .int .i64 0, .slice none 0 0] 64) = wA at *
  refine (binary_c 15 1 ⟨x0, x1, x2, x3, x4, x5⟩ ⟨y0, y1, y2, y3, y4, y5⟩ _).mono ?_
  rintro e u2 ⟨bl, rfl, hbl0, hlo, hn2⟩
  have hR2 := keep hn2 TC.out
  have hl1 := lt_of_heap TC.out
  have hl2 := lt_of_heap hR2
  have d0 : u2.cell? ⟨w.heap.size + 1 + 1, 0, none⟩ = some (.int .i64 0) := cell_of_heap hR2 rfl
  have d1 : u2.cell? ⟨w.heap.size + 1 + 1, 1, none⟩ = some (.int .i64 0) := cell_of_heap hR2 rfl
  have d2 : u2.cell? ⟨w.heap.size + 1 + 1, 2, none⟩ = some (.int .i64 0) := cell_of_heap hR2 rfl
  have d3 : u2.cell? ⟨w.heap.size + 1 + 1, 3, none⟩ = some (.int .i64 0) := cell_of_heap hR2 rfl
  have d4 : u2.cell? ⟨w.heap.size + 1 + 1, 4, none⟩ = some (.slice none 0 0) := cell_of_heap hR2 rfl
  have df : ∀ i, u2.frozen? ⟨w.heap.size + 1 + 1, i, none⟩ = false := fun i => frozen_of_heap hR2
  have hbl := Lib.hid hbl0
  have RR2 := Lib.hid hR2
  unfold exprV
  dsimp only
  clear hR2 hbl0
  go_wp2
  have hR2 := RR2.out
  obtain ⟨HO, HR⟩ := set5 u2 (w.heap.size + 1 + 1) (.int .i64 4) (.int .i64 1) (.int .i64 15) (.int .i64 0) (.slice (some ⟨bl, 0, none⟩) 2 2) _ _ _ _ _ _ hR2
  have HN : New w _ := New.only (NA.out.trans (hn2.mono NA.out.size)) HO (by omega)
  generalize (((((u2.setCell ⟨w.heap.size + 1 + 1, 0, none⟩ (.int .i64 4)).setCell ⟨w.heap.size + 1 + 1, 1, none⟩ (.int .i64 1)).setCell ⟨w.heap.size + 1 + 1, 2, none⟩ (.int .i64 15)).setCell ⟨w.heap.size + 1 + 1, 3, none⟩ (.int .i64 0)).setCell ⟨w.heap.size + 1 + 1, 4, none⟩ (.slice (some ⟨bl, 0, none⟩) 2 2)) = w3 at *
  have HF := (HO.block bl (by omega)).trans hbl.out
  refine bodyPost_ret (v := .tuple #[exprV 4 1 15 0 2 bl, .bool true]) ?_ rfl ⟨bl, rfl, HF, by omega, HN⟩
  exact results_cell_slot Try.results43 _ _ ⟨w.heap.size + 1 + 1, 0, none⟩ _ rfl (load_row 64 _ _ _ _ _ HR Try.underlying64 rfl (expr_size.trans rfl))
set_option maxRecDepth 100000 in
set_option maxHeartbeats 2000000 in
theorem difference_2 (x0 x1 x2 x3 x4 x5 y0 y1 y2 y3 y4 y5 : Int) (w : World) : Calls Try.prog 43 #[.int .i64 2, .agg #[.int .i64 x0, .int .i64 x1, .int .u32 x2, .int .u32 x3, .int .u32 x4, .int .u32 x5], .agg #[.int .i64 y0, .int .i64 y1, .int .u32 y2, .int .u32 y3, .int .u32 y4, .int .u32 y5]] w (ExprPost2 ⟨4, 1, 16, 0, [⟨x0, x1, x2, x3, x4, x5⟩, ⟨y0, y1, y2, y3, y4, y5⟩]⟩ w) := by
  have NA := Lib.hid ((((New.refl w).alloc (Nat.le_refl _) (.cells #[.int .i64 x0, .int .i64 x1, .int .u32 x2, .int .u32 x3, .int .u32 x4, .int .u32 x5] 59)).alloc (by simp) (.cells #[.int .i64 y0, .int .i64 y1, .int .u32 y2, .int .u32 y3, .int .u32 y4, .int .u32 y5] 59)).alloc (by simp; omega) (.cells #[.int .i64 0, .int .i64 0, .int .i64 0, .int .i64 0, .slice none 0 0] 64))
  have TC := Lib.hid (heap_alloc_at ((w.alloc (.cells #[.int .i64 x0, .int .i64 x1, .int .u32 x2, .int .u32 x3, .int .u32 x4, .int .u32 x5] 59)).alloc (.cells #[.int .i64 y0, .int .i64 y1, .int .u32 y2, .int .u32 y3, .int .u32 y4, .int .u32 y5] 59)) (.cells #[.int .i64 0, .int .i64 0, .int .i64 0, .int .i64 0, .slice none 0 0] 64) (w.heap.size + 1 + 1) (by simp))
  go_enter Try.func43, Try.ntmps43
  go_wp2_with fail
  generalize ((w.alloc (.cells #[.int .i64 x0, .int .i64 x1, .int .u32 x2, .int .u32 x3, .int .u32 x4, .int .u32 x5] 59)).alloc (.cells #[.int .i64 y0, .int .i64 y1, .int .u32 y2, .int .u32 y3, .int .u32 y4, .int .u32 y5] 59)).alloc (.cells #[.int .i64 0, .int .i64 0, .int .i64 0, .int .i64 0, .slice none 0 0] 64) = wA at *
  refine (binary_c 16 1 ⟨x0, x1, x2, x3, x4, x5⟩ ⟨y0, y1, y2, y3, y4, y5⟩ _).mono ?_
  rintro e u2 ⟨bl, rfl, hbl0, hlo, hn2⟩
  have hR2 := keep hn2 TC.out
  have hl1 := lt_of_heap TC.out
  have hl2 := lt_of_heap hR2
  have d0 : u2.cell? ⟨w.heap.size + 1 + 1, 0, none⟩ = some (.int .i64 0) := cell_of_heap hR2 rfl
  have d1 : u2.cell? ⟨w.heap.size + 1 + 1, 1, none⟩ = some (.int .i64 0) := cell_of_heap hR2 rfl
  have d2 : u2.cell? ⟨w.heap.size + 1 + 1, 2, none⟩ = some (.int .i64 0) := cell_of_heap hR2 rfl
  have d3 : u2.cell? ⟨w.heap.size + 1 + 1, 3, none⟩ = some (.int .i64 0) := cell_of_heap hR2 rfl
  have d4 : u2.cell? ⟨w.heap.size + 1 + 1, 4, none⟩ = some (.slice none 0 0) := cell_of_heap hR2 rfl
  have df : ∀ i, u2.frozen? ⟨w.heap.size + 1 + 1, i, none⟩ = false := fun i => frozen_of_heap hR2
  have hbl := Lib.hid hbl0
  have RR2 := Lib.hid hR2
  unfold exprV
  dsimp only
  clear hR2 hbl0
  go_wp2
  have hR2 := RR2.out
  obtain ⟨HO, HR⟩ := set5 u2 (w.heap.size + 1 + 1) (.int .i64 4) (.int .i64 1) (.int .i64 16) (.int .i64 0) (.slice (some ⟨bl, 0, none⟩) 2 2) _ _ _ _ _ _ hR2
  have HN : New w _ := New.only (NA.out.trans (hn2.mono NA.out.size)) HO (by omega)
  generalize (((((u2.setCell ⟨w.heap.size + 1 + 1, 0, none⟩ (.int .i64 4)).setCell ⟨w.heap.size + 1 + 1, 1, none⟩ (.int .i64 1)).setCell ⟨w.heap.size + 1 + 1, 2, none⟩ (.int .i64 16)).setCell ⟨w.heap.size + 1 + 1, 3, none⟩ (.int .i64 0)).setCell ⟨w.heap.size + 1 + 1, 4, none⟩ (.slice (some ⟨bl, 0, none⟩) 2 2)) = w3 at *
  have HF := (HO.block bl (by omega)).trans hbl.out
  refine bodyPost_ret (v := .tuple #[exprV 4 1 16 0 2 bl, .bool true]) ?_ rfl ⟨bl, rfl, HF, by omega, HN⟩
  exact results_cell_slot Try.results43 _ _ ⟨w.heap.size + 1 + 1, 0, none⟩ _ rfl (load_row 64 _ _ _ _ _ HR Try.underlying64 rfl (expr_size.trans rfl))
set_option maxRecDepth 100000 in
set_option maxHeartbeats 2000000 in
theorem difference_3 (x0 x1 x2 x3 x4 x5 y0 y1 y2 y3 y4 y5 : Int) (w : World) : Calls Try.prog 43 #[.int .i64 3, .agg #[.int .i64 x0, .int .i64 x1, .int .u32 x2, .int .u32 x3, .int .u32 x4, .int .u32 x5], .agg #[.int .i64 y0, .int .i64 y1, .int .u32 y2, .int .u32 y3, .int .u32 y4, .int .u32 y5]] w (ExprPost2 ⟨4, 1, 18, 0, [⟨y0, y1, y2, y3, y4, y5⟩, ⟨x0, x1, x2, x3, x4, x5⟩]⟩ w) := by
  have NA := Lib.hid ((((New.refl w).alloc (Nat.le_refl _) (.cells #[.int .i64 x0, .int .i64 x1, .int .u32 x2, .int .u32 x3, .int .u32 x4, .int .u32 x5] 59)).alloc (by simp) (.cells #[.int .i64 y0, .int .i64 y1, .int .u32 y2, .int .u32 y3, .int .u32 y4, .int .u32 y5] 59)).alloc (by simp; omega) (.cells #[.int .i64 0, .int .i64 0, .int .i64 0, .int .i64 0, .slice none 0 0] 64))
  have TC := Lib.hid (heap_alloc_at ((w.alloc (.cells #[.int .i64 x0, .int .i64 x1, .int .u32 x2, .int .u32 x3, .int .u32 x4, .int .u32 x5] 59)).alloc (.cells #[.int .i64 y0, .int .i64 y1, .int .u32 y2, .int .u32 y3, .int .u32 y4, .int .u32 y5] 59)) (.cells #[.int .i64 0, .int .i64 0, .int .i64 0, .int .i64 0, .slice none 0 0] 64) (w.heap.size + 1 + 1) (by simp))
  go_enter Try.func43, Try.ntmps43
  go_wp2_with fail
  generalize ((w.alloc (.cells #[.int .i64 x0, .int .i64 x1, .int .u32 x2, .int .u32 x3, .int .u32 x4, .int .u32 x5] 59)).alloc (.cells #[.int .i64 y0, .int .i64 y1, .int .u32 y2, .int .u32 y3, .int .u32 y4, .int .u32 y5] 59)).alloc (.cells #[.int .i64 0, .int .i64 0, .int .i64 0, .int .i64 0, .slice none 0 0] 64) = wA at *
  refine (binary_c 18 1 ⟨y0, y1, y2, y3, y4, y5⟩ ⟨x0, x1, x2, x3, x4, x5⟩ _).mono ?_
  rintro e u2 ⟨bl, rfl, hbl0, hlo, hn2⟩
  have hR2 := keep hn2 TC.out
  have hl1 := lt_of_heap TC.out
  have hl2 := lt_of_heap hR2
  have d0 : u2.cell? ⟨w.heap.size + 1 + 1, 0, none⟩ = some (.int .i64 0) := cell_of_heap hR2 rfl
  have d1 : u2.cell? ⟨w.heap.size + 1 + 1, 1, none⟩ = some (.int .i64 0) := cell_of_heap hR2 rfl
  have d2 : u2.cell? ⟨w.heap.size + 1 + 1, 2, none⟩ = some (.int .i64 0) := cell_of_heap hR2 rfl
  have d3 : u2.cell? ⟨w.heap.size + 1 + 1, 3, none⟩ = some (.int .i64 0) := cell_of_heap hR2 rfl
  have d4 : u2.cell? ⟨w.heap.size + 1 + 1, 4, none⟩ = some (.slice none 0 0) := cell_of_heap hR2 rfl
  have df : ∀ i, u2.frozen? ⟨w.heap.size + 1 + 1, i, none⟩ = false := fun i => frozen_of_heap hR2
  have hbl := Lib.hid hbl0
  have RR2 := Lib.hid hR2
  unfold exprV
  dsimp only
  clear hR2 hbl0
  go_wp2
  have hR2 := RR2.out
  obtain ⟨HO, HR⟩ := set5 u2 (w.heap.size + 1 + 1) (.int .i64 4) (.int .i64 1) (.int .i64 18) (.int .i64 0) (.slice (some ⟨bl, 0, none⟩) 2 2) _ _ _ _ _ _ hR2
  have HN : New w _ := New.only (NA.out.trans (hn2.mono NA.out.size)) HO (by omega)
  generalize (((((u2.setCell ⟨w.heap.size + 1 + 1, 0, none⟩ (.int .i64 4)).setCell ⟨w.heap.size + 1 + 1, 1, none⟩ (.int .i64 1)).setCell ⟨w.heap.size + 1 + 1, 2, none⟩ (.int .i64 18)).setCell ⟨w.heap.size + 1 + 1, 3, none⟩ (.int .i64 0)).setCell ⟨w.heap.size + 1 + 1, 4, none⟩ (.slice (some ⟨bl, 0, none⟩) 2 2)) = w3 at *
  have HF := (HO.block bl (by omega)).trans hbl.out
  refine bodyPost_ret (v := .tuple #[exprV 4 1 18 0 2 bl, .bool true]) ?_ rfl ⟨bl, rfl, HF, by omega, HN⟩
  exact results_cell_slot Try.results43 _ _ ⟨w.heap.size + 1 + 1, 0, none⟩ _ rfl (load_row 64 _ _ _ _ _ HR Try.underlying64 rfl (expr_size.trans rfl))
set_option maxRecDepth 100000 in
set_option maxHeartbeats 2000000 in
theorem difference_8 (x0 x1 x2 x3 x4 x5 y0 y1 y2 y3 y4 y5 : Int) (w : World) : Calls Try.prog 43 #[.int .i64 8, .agg #[.int .i64 x0, .int .i64 x1, .int .u32 x2, .int .u32 x3, .int .u32 x4, .int .u32 x5], .agg #[.int .i64 y0, .int .i64 y1, .int .u32 y2, .int .u32 y3, .int .u32 y4, .int .u32 y5]] w (ExprPost2 ⟨4, 1, 18, 0, [⟨x0, x1, x2, x3, x4, x5⟩, ⟨y0, y1, y2, y3, y4, y5⟩]⟩ w) := by
  have NA := Lib.hid ((((New.refl w).alloc (Nat.le_refl _) (.cells #[.int .i64 x0, .int .i64 x1, .int .u32 x2, .int .u32 x3, .int .u32 x4, .int .u32 x5] 59)).alloc (by simp) (.cells #[.int .i64 y0, .int .i64 y1, .int .u32 y2, .int .u32 y3, .int .u32 y4, .int .u32 y5] 59)).alloc (by simp; omega) (.cells #[.int .i64 0, .int .i64 0, .int .i64 0, .int .i64 0, .slice none 0 0] 64))
  have TC := Lib.hid (heap_alloc_at ((w.alloc (.cells #[.int .i64 x0, .int .i64 x1, .int .u32 x2, .int .u32 x3, .int .u32 x4, .int .u32 x5] 59)).alloc (.cells #[.int .i64 y0, .int .i64 y1, .int .u32 y2, .int .u32 y3, .int .u32 y4, .int .u32 y5] 59)) (.cells #[.int .i64 0, .int .i64 0, .int .i64 0, .int .i64 0, .slice none 0 0] 64) (w.heap.size + 1 + 1) (by simp))
  go_enter Try.func43, Try.ntmps43
  go_wp2_with fail
  generalize ((w.alloc (.cells #[.int .i64 x0, .int .i64 x1, .int .u32 x2, .int .u32 x3, .int .u32 x4, .int .u32 x5] 59)).alloc (.cells #[.int .i64 y0, .int .i64 y1, .int .u32 y2, .int .u32 y3, .int .u32 y4, .int .u32 y5] 59)).alloc (.cells #[.int .i64 0, .int .i64 0, .int .i64 0, .int .i64 0, .slice none 0 0] 64) = wA at *
  refine (binary_c 18 1 ⟨x0, x1, x2, x3, x4, x5⟩ ⟨y0, y1, y2, y3, y4, y5⟩ _).mono ?_
  rintro e u2 ⟨bl, rfl, hbl0, hlo, hn2⟩
  have hR2 := keep hn2 TC.out
  have hl1 := lt_of_heap TC.out
  have hl2 := lt_of_heap hR2
  have d0 : u2.cell? ⟨w.heap.size + 1 + 1, 0, none⟩ = some (.int .i64 0) := cell_of_heap hR2 rfl
  have d1 : u2.cell? ⟨w.heap.size + 1 + 1, 1, none⟩ = some (.int .i64 0) := cell_of_heap hR2 rfl
  have d2 : u2.cell? ⟨w.heap.size + 1 + 1, 2, none⟩ = some (.int .i64 0) := cell_of_heap hR2 rfl
  have d3 : u2.cell? ⟨w.heap.size + 1 + 1, 3, none⟩ = some (.int .i64 0) := cell_of_heap hR2 rfl
  have d4 : u2.cell? ⟨w.heap.size + 1 + 1, 4, none⟩ = some (.slice none 0 0) := cell_of_heap hR2 rfl
  have df : ∀ i, u2.frozen? ⟨w.heap.size + 1 + 1, i, none⟩ = false := fun i => frozen_of_heap hR2
  have hbl := Lib.hid hbl0
  have RR2 := Lib.hid hR2
  unfold exprV
  dsimp only
  clear hR2 hbl0
  go_wp2
  have hR2 := RR2.out
  obtain ⟨HO, HR⟩ := set5 u2 (w.heap.size + 1 + 1) (.int .i64 4) (.int .i64 1) (.int .i64 18) (.int .i64 0) (.slice (some ⟨bl, 0, none⟩) 2 2) _ _ _ _ _ _ hR2
  have HN : New w _ := New.only (NA.out.trans (hn2.mono NA.out.size)) HO (by omega)
  generalize (((((u2.setCell ⟨w.heap.size + 1 + 1, 0, none⟩ (.int .i64 4)).setCell ⟨w.heap.size + 1 + 1, 1, none⟩ (.int .i64 1)).setCell ⟨w.heap.size + 1 + 1, 2, none⟩ (.int .i64 18)).setCell ⟨w.heap.size + 1 + 1, 3, none⟩ (.int .i64 0)).setCell ⟨w.heap.size + 1 + 1, 4, none⟩ (.slice (some ⟨bl, 0, none⟩) 2 2)) = w3 at *
  have HF := (HO.block bl (by omega)).trans hbl.out
  refine bodyPost_ret (v := .tuple #[exprV 4 1 18 0 2 bl, .bool true]) ?_ rfl ⟨bl, rfl, HF, by omega, HN⟩
  exact results_cell_slot Try.results43 _ _ ⟨w.heap.size + 1 + 1, 0, none⟩ _ rfl (load_row 64 _ _ _ _ _ HR Try.underlying64 rfl (expr_size.trans rfl))
set_option maxRecDepth 100000 in
set_option maxHeartbeats 2000000 in
theorem difference_9 (x0 x1 x2 x3 x4 x5 y0 y1 y2 y3 y4 y5 : Int) (w : World) : Calls Try.prog 43 #[.int .i64 9, .agg #[.int .i64 x0, .int .i64 x1, .int .u32 x2, .int .u32 x3, .int .u32 x4, .int .u32 x5], .agg #[.int .i64 y0, .int .i64 y1, .int .u32 y2, .int .u32 y3, .int .u32 y4, .int .u32 y5]] w (ExprPost2 ⟨4, 1, 16, 0, [⟨y0, y1, y2, y3, y4, y5⟩, ⟨x0, x1, x2, x3, x4, x5⟩]⟩ w) := by
  have NA := Lib.hid ((((New.refl w).alloc (Nat.le_refl _) (.cells #[.int .i64 x0, .int .i64 x1, .int .u32 x2, .int .u32 x3, .int .u32 x4, .int .u32 x5] 59)).alloc (by simp) (.cells #[.int .i64 y0, .int .i64 y1, .int .u32 y2, .int .u32 y3, .int .u32 y4, .int .u32 y5] 59)).alloc (by simp; omega) (.cells #[.int .i64 0, .int .i64 0, .int .i64 0, .int .i64 0, .slice none 0 0] 64))
  have TC := Lib.hid (heap_alloc_at ((w.alloc (.cells #[.int .i64 x0, .int .i64 x1, .int .u32 x2, .int .u32 x3, .int .u32 x4, .int .u32 x5] 59)).alloc (.cells #[.int .i64 y0, .int .i64 y1, .int .u32 y2, .int .u32 y3, .int .u32 y4, .int .u32 y5] 59)) (.cells #[.int .i64 0, .int .i64 0, .int .i64 0, .int .i64 0, .slice none 0 0] 64) (w.heap.size + 1 + 1) (by simp))
  go_enter Try.func43, Try.ntmps43
  go_wp2_with fail
  generalize ((w.alloc (.cells #[.int .i64 x0, .int .i64 x1, .int .u32 x2, .int .u32 x3, .int .u32 x4, .int .u32 x5] 59)).alloc (.cells #[.int .i64 y0, .int .i64 y1, .int .u32 y2, .int .u32 y3, .int .u32 y4, .int .u32 y5] 59)).alloc (.cells #[.int .i64 0, .int .i64 0, .int .i64 0, .int .i64 0, .slice none 0 0] 64) = wA at *
  refine (binary_c 16 1 ⟨y0, y1, y2, y3, y4, y5⟩ ⟨x0, x1, x2, x3, x4, x5⟩ _).mono ?_
  rintro e u2 ⟨bl, rfl, hbl0, hlo, hn2⟩
  have hR2 := keep hn2 TC.out
  have hl1 := lt_of_heap TC.out
  have hl2 := lt_of_heap hR2
  have d0 : u2.cell? ⟨w.heap.size + 1 + 1, 0, none⟩ = some (.int .i64 0) := cell_of_heap hR2 rfl
  have d1 : u2.cell? ⟨w.heap.size + 1 + 1, 1, none⟩ = some (.int .i64 0) := cell_of_heap hR2 rfl
  have d2 : u2.cell? ⟨w.heap.size + 1 + 1, 2, none⟩ = some (.int .i64 0) := cell_of_heap hR2 rfl
  have d3 : u2.cell? ⟨w.heap.size + 1 + 1, 3, none⟩ = some (.int .i64 0) := cell_of_heap hR2 rfl
  have d4 : u2.cell? ⟨w.heap.size + 1 + 1, 4, none⟩ = some (.slice none 0 0) := cell_of_heap hR2 rfl
  have df : ∀ i, u2.frozen? ⟨w.heap.size + 1 + 1, i, none⟩ = false := fun i => frozen_of_heap hR2
  have hbl := Lib.hid hbl0
  have RR2 := Lib.hid hR2
  unfold exprV
  dsimp only
  clear hR2 hbl0
  go_wp2
  have hR2 := RR2.out
  obtain ⟨HO, HR⟩ := set5 u2 (w.heap.size + 1 + 1) (.int .i64 4) (.int .i64 1) (.int .i64 16) (.int .i64 0) (.slice (some ⟨bl, 0, none⟩) 2 2) _ _ _ _ _ _ hR2
  have HN : New w _ := New.only (NA.out.trans (hn2.mono NA.out.size)) HO (by omega)
  generalize (((((u2.setCell ⟨w.heap.size + 1 + 1, 0, none⟩ (.int .i64 4)).setCell ⟨w.heap.size + 1 + 1, 1, none⟩ (.int .i64 1)).setCell ⟨w.heap.size + 1 + 1, 2, none⟩ (.int .i64 16)).setCell ⟨w.heap.size + 1 + 1, 3, none⟩ (.int .i64 0)).setCell ⟨w.heap.size + 1 + 1, 4, none⟩ (.slice (some ⟨bl, 0, none⟩) 2 2)) = w3 at *
  have HF := (HO.block bl (by omega)).trans hbl.out
  refine bodyPost_ret (v := .tuple #[exprV 4 1 16 0 2 bl, .bool true]) ?_ rfl ⟨bl, rfl, HF, by omega, HN⟩
  exact results_cell_slot Try.results43 _ _ ⟨w.heap.size + 1 + 1, 0, none⟩ _ rfl (load_row 64 _ _ _ _ _ HR Try.underlying64 rfl (expr_size.trans rfl))
set_option maxRecDepth 100000 in
set_option maxHeartbeats 2000000 in
theorem difference_10 (x0 x1 x2 x3 x4 x5 y0 y1 y2 y3 y4 y5 : Int) (w : World) : Calls Try.prog 43 #[.int .i64 10, .agg #[.int .i64 x0, .int .i64 x1, .int .u32 x2, .int .u32 x3, .int .u32 x4, .int .u32 x5], .agg #[.int .i64 y0, .int .i64 y1, .int .u32 y2, .int .u32 y3, .int .u32 y4, .int .u32 y5]] w (ExprPost2 ⟨4, 1, 17, 0, [⟨x0, x1, x2, x3, x4, x5⟩, ⟨y0, y1, y2, y3, y4, y5⟩]⟩ w) := by
  have NA := Lib.hid ((((New.refl w).alloc (Nat.le_refl _) (.cells #[.int .i64 x0, .int .i64 x1, .int .u32 x2, .int .u32 x3, .int .u32 x4, .int .u32 x5] 59)).alloc (by simp) (.cells #[.int .i64 y0, .int .i64 y1, .int .u32 y2, .int .u32 y3, .int .u32 y4, .int .u32 y5] 59)).alloc (by simp; omega) (.cells #[.int .i64 0, .int .i64 0, .int .i64 0, .int .i64 0, .slice none 0 0] 64))
  have TC := Lib.hid (heap_alloc_at ((w.alloc (.cells #[.int .i64 x0, .int .i64 x1, .int .u32 x2, .int .u32 x3, .int .u32 x4, .int .u32 x5] 59)).alloc (.cells #[.int .i64 y0, .int .i64 y1, .int .u32 y2, .int .u32 y3, .int .u32 y4, .int .u32 y5] 59)) (.cells #[.int .i64 0, .int .i64 0, .int .i64 0, .int .i64 0, .slice none 0 0] 64) (w.heap.size + 1 + 1) (by simp))
  go_enter Try.func43, Try.ntmps43
  go_wp2_with fail
  generalize ((w.alloc (.cells #[.int .i64 x0, .int .i64 x1, .int .u32 x2, .int .u32 x3, .int .u32 x4, .int .u32 x5] 59)).alloc (.cells #[.int .i64 y0, .int .i64 y1, .int .u32 y2, .int .u32 y3, .int .u32 y4, .int .u32 y5] 59)).alloc (.cells #[.int .i64 0, .int .i64 0, .int .i64 0, .int .i64 0, .slice none 0 0] 64) = wA at *
  refine (binary_c 17 1 ⟨x0, x1, x2, x3, x4, x5⟩ ⟨y0, y1, y2, y3, y4, y5⟩ _).mono ?_
  rintro e u2 ⟨bl, rfl, hbl0, hlo, hn2⟩
  have hR2 := keep hn2 TC.out
  have hl1 := lt_of_heap TC.out
  have hl2 := lt_of_heap hR2
  have d0 : u2.cell? ⟨w.heap.size + 1 + 1, 0, none⟩ = some (.int .i64 0) := cell_of_heap hR2 rfl
  have d1 : u2.cell? ⟨w.heap.size + 1 + 1, 1, none⟩ = some (.int .i64 0) := cell_of_heap hR2 rfl
  have d2 : u2.cell? ⟨w.heap.size + 1 + 1, 2, none⟩ = some (.int .i64 0) := cell_of_heap hR2 rfl
  have d3 : u2.cell? ⟨w.heap.size + 1 + 1, 3, none⟩ = some (.int .i64 0) := cell_of_heap hR2 rfl
  have d4 : u2.cell? ⟨w.heap.size + 1 + 1, 4, none⟩ = some (.slice none 0 0) := cell_of_heap hR2 rfl
  have df : ∀ i, u2.frozen? ⟨w.heap.size + 1 + 1, i, none⟩ = false := fun i => frozen_of_heap hR2
  have hbl := Lib.hid hbl0
  have RR2 := Lib.hid hR2
  unfold exprV
  dsimp only
  clear hR2 hbl0
  go_wp2
  have hR2 := RR2.out
  obtain ⟨HO, HR⟩ := set5 u2 (w.heap.size + 1 + 1) (.int .i64 4) (.int .i64 1) (.int .i64 17) (.int .i64 0) (.slice (some ⟨bl, 0, none⟩) 2 2) _ _ _ _ _ _ hR2
  have HN : New w _ := New.only (NA.out.trans (hn2.mono NA.out.size)) HO (by omega)
  generalize (((((u2.setCell ⟨w.heap.size + 1 + 1, 0, none⟩ (.int .i64 4)).setCell ⟨w.heap.size + 1 + 1, 1, none⟩ (.int .i64 1)).setCell ⟨w.heap.size + 1 + 1, 2, none⟩ (.int .i64 17)).setCell ⟨w.heap.size + 1 + 1, 3, none⟩ (.int .i64 0)).setCell ⟨w.heap.size + 1 + 1, 4, none⟩ (.slice (some ⟨bl, 0, none⟩) 2 2)) = w3 at *
  have HF := (HO.block bl (by omega)).trans hbl.out
  refine bodyPost_ret (v := .tuple #[exprV 4 1 17 0 2 bl, .bool true]) ?_ rfl ⟨bl, rfl, HF, by omega, HN⟩
  exact results_cell_slot Try.results43 _ _ ⟨w.heap.size + 1 + 1, 0, none⟩ _ rfl (load_row 64 _ _ _ _ _ HR Try.underlying64 rfl (expr_size.trans rfl))
set_option maxRecDepth 100000 in
set_option maxHeartbeats 2000000 in
theorem difference_11 (x0 x1 x2 x3 x4 x5 y0 y1 y2 y3 y4 y5 : Int) (w : World) : Calls Try.prog 43 #[.int .i64 11, .agg #[.int .i64 x0, .int .i64 x1, .int .u32 x2, .int .u32 x3, .int .u32 x4, .int .u32 x5], .agg #[.int .i64 y0, .int .i64 y1, .int .u32 y2, .int .u32 y3, .int .u32 y4, .int .u32 y5]] w (ExprPost2 ⟨4, 1, 19, 0, [⟨y0, y1, y2, y3, y4, y5⟩, ⟨x0, x1, x2, x3, x4, x5⟩]⟩ w) := by
  have NA := Lib.hid ((((New.refl w).alloc (Nat.le_refl _) (.cells #[.int .i64 x0, .int .i64 x1, .int .u32 x2, .int .u32 x3, .int .u32 x4, .int .u32 x5] 59)).alloc (by simp) (.cells #[.int .i64 y0, .int .i64 y1, .int .u32 y2, .int .u32 y3, .int .u32 y4, .int .u32 y5] 59)).alloc (by simp; omega) (.cells #[.int .i64 0, .int .i64 0, .int .i64 0, .int .i64 0, .slice none 0 0] 64))
  have TC := Lib.hid (heap_alloc_at ((w.alloc (.cells #[.int .i64 x0, .int .i64 x1, .int .u32 x2, .int .u32 x3, .int .u32 x4, .int .u32 x5] 59)).alloc (.cells #[.int .i64 y0, .int .i64 y1, .int .u32 y2, .int .u32 y3, .int .u32 y4, .int .u32 y5] 59)) (.cells #[.int .i64 0, .int .i64 0, .int .i64 0, .int .i64 0, .slice none 0 0] 64) (w.heap.size + 1 + 1) (by simp))
  go_enter Try.func43, Try.ntmps43
  go_wp2_with fail
  generalize ((w.alloc (.cells #[.int .i64 x0, .int .i64 x1, .int .u32 x2, .int .u32 x3, .int .u32 x4, .int .u32 x5] 59)).alloc (.cells #[.int .i64 y0, .int .i64 y1, .int .u32 y2, .int .u32 y3, .int .u32 y4, .int .u32 y5] 59)).alloc (.cells #[.int .i64 0, .int .i64 0, .int .i64 0, .int .i64 0, .slice none 0 0] 64) = wA at *
  refine (binary_c 19 1 ⟨y0, y1, y2, y3, y4, y5⟩ ⟨x0, x1, x2, x3, x4, x5⟩ _).mono ?_
  rintro e u2 ⟨bl, rfl, hbl0, hlo, hn2⟩
  have hR2 := keep hn2 TC.out
  have hl1 := lt_of_heap TC.out
  have hl2 := lt_of_heap hR2
  have d0 : u2.cell? ⟨w.heap.size + 1 + 1, 0, none⟩ = some (.int .i64 0) := cell_of_heap hR2 rfl
  have d1 : u2.cell? ⟨w.heap.size + 1 + 1, 1, none⟩ = some (.int .i64 0) := cell_of_heap hR2 rfl
  have d2 : u2.cell? ⟨w.heap.size + 1 + 1, 2, none⟩ = some (.int .i64 0) := cell_of_heap hR2 rfl
  have d3 : u2.cell? ⟨w.heap.size + 1 + 1, 3, none⟩ = some (.int .i64 0) := cell_of_heap hR2 rfl
  have d4 : u2.cell? ⟨w.heap.size + 1 + 1, 4, none⟩ = some (.slice none 0 0) := cell_of_heap hR2 rfl
  have df : ∀ i, u2.frozen? ⟨w.heap.size + 1 + 1, i, none⟩ = false := fun i => frozen_of_heap hR2
  have hbl := Lib.hid hbl0
  have RR2 := Lib.hid hR2
  unfold exprV
  dsimp only
  clear hR2 hbl0
  go_wp2
  have hR2 := RR2.out
  obtain ⟨HO, HR⟩ := set5 u2 (w.heap.size + 1 + 1) (.int .i64 4) (.int .i64 1) (.int .i64 19) (.int .i64 0) (.slice (some ⟨bl, 0, none⟩) 2 2) _ _ _ _ _ _ hR2
  have HN : New w _ := New.only (NA.out.trans (hn2.mono NA.out.size)) HO (by omega)
  generalize (((((u2.setCell ⟨w.heap.size + 1 + 1, 0, none⟩ (.int .i64 4)).setCell ⟨w.heap.size + 1 + 1, 1, none⟩ (.int .i64 1)).setCell ⟨w.heap.size + 1 + 1, 2, none⟩ (.int .i64 19)).setCell ⟨w.heap.size + 1 + 1, 3, none⟩ (.int .i64 0)).setCell ⟨w.heap.size + 1 + 1, 4, none⟩ (.slice (some ⟨bl, 0, none⟩) 2 2)) = w3 at *
  have HF := (HO.block bl (by omega)).trans hbl.out
  refine bodyPost_ret (v := .tuple #[exprV 4 1 19 0 2 bl, .bool true]) ?_ rfl ⟨bl, rfl, HF, by omega, HN⟩
  exact results_cell_slot Try.results43 _ _ ⟨w.heap.size + 1 + 1, 0, none⟩ _ rfl (load_row 64 _ _ _ _ _ HR Try.underlying64 rfl (expr_size.trans rfl))
set_option maxRecDepth 100000 in
set_option maxHeartbeats 2000000 in
theorem difference_12 (x0 x1 x2 x3 x4 x5 y0 y1 y2 y3 y4 y5 : Int) (w : World) : Calls Try.prog 43 #[.int .i64 12, .agg #[.int .i64 x0, .int .i64 x1, .int .u32 x2, .int .u32 x3, .int .u32 x4, .int .u32 x5], .agg #[.int .i64 y0, .int .i64 y1, .int .u32 y2, .int .u32 y3, .int .u32 y4, .int .u32 y5]] w (ExprPost2 ⟨4, 1, 19, 0, [⟨x0, x1, x2, x3, x4, x5⟩, ⟨y0, y1, y2, y3, y4, y5⟩]⟩ w) := by
  have NA := Lib.hid ((((New.refl w).alloc (Nat.le_refl _) (.cells #[.int .i64 x0, .int .i64 x1, .int .u32 x2, .int .u32 x3, .int .u32 x4, .int .u32 x5] 59)).alloc (by simp) (.cells #[.int .i64 y0, .int .i64 y1, .int .u32 y2, .int .u32 y3, .int .u32 y4, .int .u32 y5] 59)).alloc (by simp; omega) (.cells #[.int .i64 0, .int .i64 0, .int .i64 0, .int .i64 0, .slice none 0 0] 64))
  have TC := Lib.hid (heap_alloc_at ((w.alloc (.cells #[.int .i64 x0, .int .i64 x1, .int .u32 x2, .int .u32 x3, .int .u32 x4, .int .u32 x5] 59)).alloc (.cells #[.int .i64 y0, .int .i64 y1, .int .u32 y2, .int .u32 y3, .int .u32 y4, .int .u32 y5] 59)) (.cells #[.int .i64 0, .int .i64 0, .int .i64 0, .int .i64 0, .slice none 0 0] 64) (w.heap.size + 1 + 1) (by simp))
  go_enter Try.func43, Try.ntmps43
  go_wp2_with fail
  generalize ((w.alloc (.cells #[.int .i64 x0, .int .i64 x1, .int .u32 x2, .int .u32 x3, .int .u32 x4, .int .u32 x5] 59)).alloc (.cells #[.int .i64 y0, .int .i64 y1, .int .u32 y2, .int .u32 y3, .int .u32 y4, .int .u32 y5] 59)).alloc (.cells #[.int .i64 0, .int .i64 0, .int .i64 0, .int .i64 0, .slice none 0 0] 64) = wA at *
  refine (binary_c 19 1 ⟨x0, x1, x2, x3, x4, x5⟩ ⟨y0, y1, y2, y3, y4, y5⟩ _).mono ?_
  rintro e u2 ⟨bl, rfl, hbl0, hlo, hn2⟩
  have hR2 := keep hn2 TC.out
  have hl1 := lt_of_heap TC.out
  have hl2 := lt_of_heap hR2
  have d0 : u2.cell? ⟨w.heap.size + 1 + 1, 0, none⟩ = some (.int .i64 0) := cell_of_heap hR2 rfl
  have d1 : u2.cell? ⟨w.heap.size + 1 + 1, 1, none⟩ = some (.int .i64 0) := cell_of_heap hR2 rfl
  have d2 : u2.cell? ⟨w.heap.size + 1 + 1, 2, none⟩ = some (.int .i64 0) := cell_of_heap hR2 rfl
  have d3 : u2.cell? ⟨w.heap.size + 1 + 1, 3, none⟩ = some (.int .i64 0) := cell_of_heap hR2 rfl
  have d4 : u2.cell? ⟨w.heap.size + 1 + 1, 4, none⟩ = some (.slice none 0 0) := cell_of_heap hR2 rfl
  have df : ∀ i, u2.frozen? ⟨w.heap.size + 1 + 1, i, none⟩ = false := fun i => frozen_of_heap hR2
  have hbl := Lib.hid hbl0
  have RR2 := Lib.hid hR2
  unfold exprV
  dsimp only
  clear hR2 hbl0
  go_wp2
  have hR2 := RR2.out
  obtain ⟨HO, HR⟩ := set5 u2 (w.heap.size + 1 + 1) (.int .i64 4) (.int .i64 1) (.int .i64 19) (.int .i64 0) (.slice (some ⟨bl, 0, none⟩) 2 2) _ _ _ _ _ _ hR2
  have HN : New w _ := New.only (NA.out.trans (hn2.mono NA.out.size)) HO (by omega)
  generalize (((((u2.setCell ⟨w.heap.size + 1 + 1, 0, none⟩ (.int .i64 4)).setCell ⟨w.heap.size + 1 + 1, 1, none⟩ (.int .i64 1)).setCell ⟨w.heap.size + 1 + 1, 2, none⟩ (.int .i64 19)).setCell ⟨w.heap.size + 1 + 1, 3, none⟩ (.int .i64 0)).setCell ⟨w.heap.size + 1 + 1, 4, none⟩ (.slice (some ⟨bl, 0, none⟩) 2 2)) = w3 at *
  have HF := (HO.block bl (by omega)).trans hbl.out
  refine bodyPost_ret (v := .tuple #[exprV 4 1 19 0 2 bl, .bool true]) ?_ rfl ⟨bl, rfl, HF, by omega, HN⟩
  exact results_cell_slot Try.results43 _ _ ⟨w.heap.size + 1 + 1, 0, none⟩ _ rfl (load_row 64 _ _ _ _ _ HR Try.underlying64 rfl (expr_size.trans rfl))
set_option maxRecDepth 100000 in
set_option maxHeartbeats 2000000 in
theorem difference_13 (x0 x1 x2 x3 x4 x5 y0 y1 y2 y3 y4 y5 : Int) (w : World) : Calls Try.prog 43 #[.int .i64 13, .agg #[.int .i64 x0, .int .i64 x1, .int .u32 x2, .int .u32 x3, .int .u32 x4, .int .u32 x5], .agg #[.int .i64 y0, .int .i64 y1, .int .u32 y2, .int .u32 y3, .int .u32 y4, .int .u32 y5]] w (ExprPost2 ⟨4, 1, 17, 0, [⟨y0, y1, y2, y3, y4, y5⟩, ⟨x0, x1, x2, x3, x4, x5⟩]⟩ w) := by
  have NA := Lib.hid ((((New.refl w).alloc (Nat.le_refl _) (.cells #[.int .i64 x0, .int .i64 x1, .int .u32 x2, .int .u32 x3, .int .u32 x4, .int .u32 x5] 59)).alloc (by simp) (.cells #[.int .i64 y0, .int .i64 y1, .int .u32 y2, .int .u32 y3, .int .u32 y4, .int .u32 y5] 59)).alloc (by simp; omega) (.cells #[.int .i64 0, .int .i64 0, .int .i64 0, .int .i64 0, .slice none 0 0] 64))
  have TC := Lib.hid (heap_alloc_at ((w.alloc (.cells #[.int .i64 x0, .int .i64 x1, .int .u32 x2, .int .u32 x3, .int .u32 x4, .int .u32 x5] 59)).alloc (.cells #[.int .i64 y0, .int .i64 y1, .int .u32 y2, .int .u32 y3, .int .u32 y4, .int .u32 y5] 59)) (.cells #[.int .i64 0, .int .i64 0, .int .i64 0, .int .i64 0, .slice none 0 0] 64) (w.heap.size + 1 + 1) (by simp))
  go_enter Try.func43, Try.ntmps43
  go_wp2_with fail
  generalize ((w.alloc (.cells #[.int .i64 x0, .int .i64 x1, .int .u32 x2, .int .u32 x3, .int .u32 x4, .int .u32 x5] 59)).alloc (.cells #[.int .i64 y0, .int .i64 y1, .int .u32 y2, .int .u32 y3, .int .u32 y4, .int .u32 y5] 59)).alloc (.cells #[.int .i64 0, .int .i64 0, .int .i64 0, .int .i64 0, .slice none 0 0] 64) = wA at *
  refine (binary_c 17 1 ⟨y0, y1, y2, y3, y4, y5⟩ ⟨x0, x1, x2, x3, x4, x5⟩ _).mono ?_
  rintro e u2 ⟨bl, rfl, hbl0, hlo, hn2⟩
  have hR2 := keep hn2 TC.out
  have hl1 := lt_of_heap TC.out
  have hl2 := lt_of_heap hR2
  have d0 : u2.cell? ⟨w.heap.size + 1 + 1, 0, none⟩ = some (.int .i64 0) := cell_of_heap hR2 rfl
  have d1 : u2.cell? ⟨w.heap.size + 1 + 1, 1, none⟩ = some (.int .i64 0) := cell_of_heap hR2 rfl
  have d2 : u2.cell? ⟨w.heap.size + 1 + 1, 2, none⟩ = some (.int .i64 0) := cell_of_heap hR2 rfl
  have d3 : u2.cell? ⟨w.heap.size + 1 + 1, 3, none⟩ = some (.int .i64 0) := cell_of_heap hR2 rfl
  have d4 : u2.cell? ⟨w.heap.size + 1 + 1, 4, none⟩ = some (.slice none 0 0) := cell_of_heap hR2 rfl
  have df : ∀ i, u2.frozen? ⟨w.heap.size + 1 + 1, i, none⟩ = false := fun i => frozen_of_heap hR2
  have hbl := Lib.hid hbl0
  have RR2 := Lib.hid hR2
  unfold exprV
  dsimp only
  clear hR2 hbl0
  go_wp2
  have hR2 := RR2.out
  obtain ⟨HO, HR⟩ := set5 u2 (w.heap.size + 1 + 1) (.int .i64 4) (.int .i64 1) (.int .i64 17) (.int .i64 0) (.slice (some ⟨bl, 0, none⟩) 2 2) _ _ _ _ _ _ hR2
  have HN : New w _ := New.only (NA.out.trans (hn2.mono NA.out.size)) HO (by omega)
  generalize (((((u2.setCell ⟨w.heap.size + 1 + 1, 0, none⟩ (.int .i64 4)).setCell ⟨w.heap.size + 1 + 1, 1, none⟩ (.int .i64 1)).setCell ⟨w.heap.size + 1 + 1, 2, none⟩ (.int .i64 17)).setCell ⟨w.heap.size + 1 + 1, 3, none⟩ (.int .i64 0)).setCell ⟨w.heap.size + 1 + 1, 4, none⟩ (.slice (some ⟨bl, 0, none⟩) 2 2)) = w3 at *
  have HF := (HO.block bl (by omega)).trans hbl.out
  refine bodyPost_ret (v := .tuple #[exprV 4 1 17 0 2 bl, .bool true]) ?_ rfl ⟨bl, rfl, HF, by omega, HN⟩
  exact results_cell_slot Try.results43 _ _ ⟨w.heap.size + 1 + 1, 0, none⟩ _ rfl (load_row 64 _ _ _ _ _ HR Try.underlying64 rfl (expr_size.trans rfl))
theorem zero_c (i : Nat) (x : Atom) (w : World) (h : i < 14) (h2 : ¬ (i = 2 ∨ i = 3 ∨ i = 6 ∨ i = 7)) : Calls Try.prog 45 #[.int .i64 i, x.val] w (ExprPost2 ⟨4, 1, cmpOpR i, 0, if cmpExR i then [wordA 0, x] else [x, wordA 0]⟩ w) := by
  obtain ⟨x0, x1, x2, x3, x4, x5⟩ := x
  have hi : i = 0 ∨ i = 1 ∨ i = 4 ∨ i = 5 ∨ i = 8 ∨ i = 9 ∨ i = 10 ∨ i = 11 ∨ i = 12 ∨ i = 13 := by omega
  rcases hi with rfl | rfl | rfl | rfl | rfl | rfl | rfl | rfl | rfl | rfl
  · exact zero_0 x0 x1 x2 x3 x4 x5 w
  · exact zero_1 x0 x1 x2 x3 x4 x5 w
  · exact zero_4 x0 x1 x2 x3 x4 x5 w
  · exact zero_5 x0 x1 x2 x3 x4 x5 w
  · exact zero_8 x0 x1 x2 x3 x4 x5 w
  · exact zero_9 x0 x1 x2 x3 x4 x5 w
  · exact zero_10 x0 x1 x2 x3 x4 x5 w
  · exact zero_11 x0 x1 x2 x3 x4 x5 w
  · exact zero_12 x0 x1 x2 x3 x4 x5 w
  · exact zero_13 x0 x1 x2 x3 x4 x5 w
theorem difference_c (i : Nat) (x y : Atom) (w : World) (h : i < 14) (h2 : ¬ (i = 4 ∨ i = 5 ∨ i = 6 ∨ i = 7)) : Calls Try.prog 43 #[.int .i64 i, x.val, y.val] w (ExprPost2 ⟨4, 1, cmpOpS i, 0, if cmpExS i then [y, x] else [x, y]⟩ w) := by
  obtain ⟨x0, x1, x2, x3, x4, x5⟩ := x
  obtain ⟨y0, y1, y2, y3, y4, y5⟩ := y
  have hi : i = 0 ∨ i = 1 ∨ i = 2 ∨ i = 3 ∨ i = 8 ∨ i = 9 ∨ i = 10 ∨ i = 11 ∨ i = 12 ∨ i = 13 := by omega
  rcases hi with rfl | rfl | rfl | rfl | rfl | rfl | rfl | rfl | rfl | rfl
  · exact difference_0 x0 x1 x2 x3 x4 x5 y0 y1 y2 y3 y4 y5 w
  · exact difference_1 x0 x1 x2 x3 x4 x5 y0 y1 y2 y3 y4 y5 w
  · exact difference_2 x0 x1 x2 x3 x4 x5 y0 y1 y2 y3 y4 y5 w
  · exact difference_3 x0 x1 x2 x3 x4 x5 y0 y1 y2 y3 y4 y5 w
  · exact difference_8 x0 x1 x2 x3 x4 x5 y0 y1 y2 y3 y4 y5 w
  · exact difference_9 x0 x1 x2 x3 x4 x5 y0 y1 y2 y3 y4 y5 w
  · exact difference_10 x0 x1 x2 x3 x4 x5 y0 y1 y2 y3 y4 y5 w
  · exact difference_11 x0 x1 x2 x3 x4 x5 y0 y1 y2 y3 y4 y5 w
  · exact difference_12 x0 x1 x2 x3 x4 x5 y0 y1 y2 y3 y4 y5 w
  · exact difference_13 x0 x1 x2 x3 x4 x5 y0 y1 y2 y3 y4 y5 w
set_option maxHeartbeats 1000000 in
theorem difference_4 (x y : Atom) (w : World) : Calls Try.prog 43 #[.int .i64 4, x.val, y.val] w fun e w' => e = .returned (.tuple #[.agg #[.int .i64 0, .int .i64 0, .int .i64 0, .int .i64 0, .slice none 0 0], .bool false]) ∧ New w w' := by
  unfold Atom.val
  go_enter Try.func43, Try.ntmps43
  go_wp2
  exact bodyPost_ret (v := .tuple #[.agg #[.int .i64 0, .int .i64 0, .int .i64 0, .int .i64 0, .slice none 0 0], .bool false]) (by simp [results, Try.results43, go_sem]) rfl ⟨rfl, by go_grown⟩
set_option maxHeartbeats 1000000 in
theorem difference_5 (x y : Atom) (w : World) : Calls Try.prog 43 #[.int .i64 5, x.val, y.val] w fun e w' => e = .returned (.tuple #[.agg #[.int .i64 0, .int .i64 0, .int .i64 0, .int .i64 0, .slice none 0 0], .bool false]) ∧ New w w' := by
  unfold Atom.val
  go_enter Try.func43, Try.ntmps43
  go_wp2
  exact bodyPost_ret (v := .tuple #[.agg #[.int .i64 0, .int .i64 0, .int .i64 0, .int .i64 0, .slice none 0 0], .bool false]) (by simp [results, Try.results43, go_sem]) rfl ⟨rfl, by go_grown⟩
set_option maxHeartbeats 1000000 in
theorem difference_6 (x y : Atom) (w : World) : Calls Try.prog 43 #[.int .i64 6, x.val, y.val] w fun e w' => e = .returned (.tuple #[.agg #[.int .i64 0, .int .i64 0, .int .i64 0, .int .i64 0, .slice none 0 0], .bool false]) ∧ New w w' := by
  unfold Atom.val
  go_enter Try.func43, Try.ntmps43
  go_wp2
  exact bodyPost_ret (v := .tuple #[.agg #[.int .i64 0, .int .i64 0, .int .i64 0, .int .i64 0, .slice none 0 0], .bool false]) (by simp [results, Try.results43, go_sem]) rfl ⟨rfl, by go_grown⟩
set_option maxHeartbeats 1000000 in
theorem difference_7 (x y : Atom) (w : World) : Calls Try.prog 43 #[.int .i64 7, x.val, y.val] w fun e w' => e = .returned (.tuple #[.agg #[.int .i64 0, .int .i64 0, .int .i64 0, .int .i64 0, .slice none 0 0], .bool false]) ∧ New w w' := by
  unfold Atom.val
  go_enter Try.func43, Try.ntmps43
  go_wp2
  exact bodyPost_ret (v := .tuple #[.agg #[.int .i64 0, .int .i64 0, .int .i64 0, .int .i64 0, .slice none 0 0], .bool false]) (by simp [results, Try.results43, go_sem]) rfl ⟨rfl, by go_grown⟩
end Go.Proofs.Ytmkjgkldbonpnaa
