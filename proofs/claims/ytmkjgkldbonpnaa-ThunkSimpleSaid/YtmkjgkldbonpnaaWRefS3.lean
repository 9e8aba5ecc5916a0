/- The specification's copied. -/
import Derived.Test.YtmkjgkldbonpnaaWRefS2
import Derived.Deep.AppendLies
namespace Go.Proofs.Ytmkjgkldbonpnaa
open Go Go.RowKit Go.Cd
set_option linter.unusedVariables false

theorem New.undrew {w w' : World} (h : New w.drew w') : New w w' := ⟨h.os, h.tape, h.output, h.size, h.block⟩
/-- A list of expressions that was made anew, its block whole. -/
def RowsPost2 (es : List IExpr) (w : World) (e : Ending) (w' : World) : Prop := ∃ g xs, e = .returned (.slice (some ⟨g, 0, none⟩) es.length es.length) ∧ w'.heap[g]? = some (.cells xs.toArray 64) ∧ Elems w' w.heap.size g (some g) es xs ∧ g < w'.heap.size ∧ w.heap.size ≤ g ∧ New w w'
theorem map3_0 (i : Int) (w : World) (h2 : (i == 2) = false) (h4 : (i == 4) = false) (h6 : (i == 6) = false) : Calls Try.prog 77 #[.int .i64 i] w fun e w' => e = .returned (.int .u32 0) ∧ w = w' := by
  go_enter Try.func77, Try.ntmps77
  go_wp2
  go_ret
  exact ⟨rfl, rfl⟩
theorem map3_c (i k : Int) (w : World) (h : (i = 4 ∧ k = 1) ∨ (i = 2 ∧ k = 2) ∨ (i = 6 ∧ k = 3)) : Calls Try.prog 77 #[.int .i64 i] w fun e w' => e = .returned (.int .u32 k) ∧ w = w' := by
  rcases h with ⟨rfl, rfl⟩ | ⟨rfl, rfl⟩ | ⟨rfl, rfl⟩
  all_goals
    go_enter Try.func77, Try.ntmps77
    go_wp2
    go_ret
    exact ⟨rfl, rfl⟩
attribute [local go_sem ↓] Go.wp_at_zero Go.wp_at_succ
set_option maxRecDepth 100000 in
set_option maxHeartbeats 4000000 in
theorem rcopied_0 (x0 x1 x2 x3 x4 x5 t : Int) (w : World) : Calls Try.prog 46 #[.int .i64 0, .agg #[.int .i64 x0, .int .i64 x1, .int .u32 x2, .int .u32 x3, .int .u32 x4, .int .u32 x5], .int .i64 t] w (RowsPost2 [⟨4, 32, 8, 0, [⟨x0, x1, x2, x3, x4, x5⟩, wordA 1]⟩] w) := by
  have NA := Lib.hid ((New.refl w).alloc (Nat.le_refl _) (.cells #[.int .i64 x0, .int .i64 x1, .int .u32 x2, .int .u32 x3, .int .u32 x4, .int .u32 x5] 59))
  have TX := Lib.hid (heap_alloc_at w (.cells #[.int .i64 x0, .int .i64 x1, .int .u32 x2, .int .u32 x3, .int .u32 x4, .int .u32 x5] 59) _ rfl)
  go_enter Try.func46, Try.ntmps46
  go_upto_region 7 with (fail)
  generalize w.alloc (.cells #[.int .i64 x0, .int .i64 x1, .int .u32 x2, .int .u32 x3, .int .u32 x4, .int .u32 x5] 59) = wA at *
  have hX := TX.out
  have xl := lt_of_heap hX
  have xq0 : wA.cell? ⟨w.heap.size, 0, none⟩ = some (.int .i64 x0) := cell_of_heap hX rfl
  have xq1 : wA.cell? ⟨w.heap.size, 1, none⟩ = some (.int .i64 x1) := cell_of_heap hX rfl
  have xq2 : wA.cell? ⟨w.heap.size, 2, none⟩ = some (.int .u32 x2) := cell_of_heap hX rfl
  have xq3 : wA.cell? ⟨w.heap.size, 3, none⟩ = some (.int .u32 x3) := cell_of_heap hX rfl
  have xq4 : wA.cell? ⟨w.heap.size, 4, none⟩ = some (.int .u32 x4) := cell_of_heap hX rfl
  have xq5 : wA.cell? ⟨w.heap.size, 5, none⟩ = some (.int .u32 x5) := cell_of_heap hX rfl
  clear hX
  have c1 : ∀ w : World, Calls Try.prog 76 #[.int .u32 1] w fun e w' => e = .returned (.agg #[.int .i64 (-1), .int .i64 32, .int .u32 1, .int .u32 0, .int .u32 0, .int .u32 0]) ∧ New w w' := fun w => rword_c 1 w
  have C1 := Lib.hid c1
  clear c1
  have c2 : ∀ w : World, Calls Try.prog 47 #[.int .i64 8, .int .i64 32, .agg #[.int .i64 x0, .int .i64 x1, .int .u32 x2, .int .u32 x3, .int .u32 x4, .int .u32 x5], .agg #[.int .i64 (-1), .int .i64 32, .int .u32 1, .int .u32 0, .int .u32 0, .int .u32 0]] w (ExprPost ⟨4, 32, 8, 0, [⟨x0, x1, x2, x3, x4, x5⟩, ⟨(-1), 32, 1, 0, 0, 0⟩]⟩ w) := fun w => binary_c 8 32 ⟨x0, x1, x2, x3, x4, x5⟩ ⟨(-1), 32, 1, 0, 0, 0⟩ w
  have C2 := Lib.hid c2
  clear c2
  go_region_held3 (fun w' => w'.cell? ⟨w.heap.size, 0, none⟩ = some (.int .i64 x0) ∧ w'.cell? ⟨w.heap.size, 1, none⟩ = some (.int .i64 x1) ∧ w'.cell? ⟨w.heap.size, 2, none⟩ = some (.int .u32 x2) ∧ w'.cell? ⟨w.heap.size, 3, none⟩ = some (.int .u32 x3) ∧ w'.cell? ⟨w.heap.size, 4, none⟩ = some (.int .u32 x4) ∧ w'.cell? ⟨w.heap.size, 5, none⟩ = some (.int .u32 x5) ∧ New wA w') (((try dsimp only); (repeat' apply And.intro) <;> (first | assumption | (go_keep; done) | (exact Below.alloc (by assumption) (by omega) _) | (exact Below.alloc (by assumption) (Nat.le_refl _) _) | (go_grown; done))))
    (first | (go_at_call 76; (with_reducible refine (C1.out _).mono ?_); rintro e u1 ⟨rfl, hb1⟩; have hH1 := ‹_ ∧ _ ∧ _ ∧ _ ∧ _ ∧ _ ∧ _›; have e1_x0 := (hb1.cell (p := ⟨w.heap.size, 0, none⟩) (Nat.lt_of_lt_of_le xl hH1.2.2.2.2.2.2.size)).trans hH1.1; have e1_x1 := (hb1.cell (p := ⟨w.heap.size, 1, none⟩) (Nat.lt_of_lt_of_le xl hH1.2.2.2.2.2.2.size)).trans hH1.2.1; have e1_x2 := (hb1.cell (p := ⟨w.heap.size, 2, none⟩) (Nat.lt_of_lt_of_le xl hH1.2.2.2.2.2.2.size)).trans hH1.2.2.1; have e1_x3 := (hb1.cell (p := ⟨w.heap.size, 3, none⟩) (Nat.lt_of_lt_of_le xl hH1.2.2.2.2.2.2.size)).trans hH1.2.2.2.1; have e1_x4 := (hb1.cell (p := ⟨w.heap.size, 4, none⟩) (Nat.lt_of_lt_of_le xl hH1.2.2.2.2.2.2.size)).trans hH1.2.2.2.2.1; have e1_x5 := (hb1.cell (p := ⟨w.heap.size, 5, none⟩) (Nat.lt_of_lt_of_le xl hH1.2.2.2.2.2.2.size)).trans hH1.2.2.2.2.2.1; have hn1 := hH1.2.2.2.2.2.2.trans (hb1.mono hH1.2.2.2.2.2.2.size); have s1 := hn1.size; have HB1 := Lib.hid hb1; clear hH1 hb1) | (go_at_call 47; (with_reducible refine (C2.out _).mono ?_); rintro e u2 ⟨bl2, rfl, hbl2, hlo2, hb2⟩; have BL2 := Lib.hid hbl2; have LO2 := Lib.hid hlo2; have hH2 := ‹_ ∧ _ ∧ _ ∧ _ ∧ _ ∧ _ ∧ _›; have e2_x0 := (hb2.cell (p := ⟨w.heap.size, 0, none⟩) (Nat.lt_of_lt_of_le xl hH2.2.2.2.2.2.2.size)).trans hH2.1; have e2_x1 := (hb2.cell (p := ⟨w.heap.size, 1, none⟩) (Nat.lt_of_lt_of_le xl hH2.2.2.2.2.2.2.size)).trans hH2.2.1; have e2_x2 := (hb2.cell (p := ⟨w.heap.size, 2, none⟩) (Nat.lt_of_lt_of_le xl hH2.2.2.2.2.2.2.size)).trans hH2.2.2.1; have e2_x3 := (hb2.cell (p := ⟨w.heap.size, 3, none⟩) (Nat.lt_of_lt_of_le xl hH2.2.2.2.2.2.2.size)).trans hH2.2.2.2.1; have e2_x4 := (hb2.cell (p := ⟨w.heap.size, 4, none⟩) (Nat.lt_of_lt_of_le xl hH2.2.2.2.2.2.2.size)).trans hH2.2.2.2.2.1; have e2_x5 := (hb2.cell (p := ⟨w.heap.size, 5, none⟩) (Nat.lt_of_lt_of_le xl hH2.2.2.2.2.2.2.size)).trans hH2.2.2.2.2.2.1; have hn2 := hH2.2.2.2.2.2.2.trans (hb2.mono hH2.2.2.2.2.2.2.size); have s2 := hn2.size; have HB2 := Lib.hid hb2; unfold exprV; dsimp only; clear hH2 hb2 hbl2 hlo2))
  go_wp2
  go_ret
  have hlo := LO2.out
  refine ⟨u2.heap.size, _, rfl, heap_alloc_at u2 (.cells (exprC 4 32 8 0 (.slice (some ⟨bl2, 0, none⟩) 2 2)).toArray 64) _ rfl, Elems.snoc (e := ⟨4, 32, 8, 0, [⟨x0, x1, x2, x3, x4, x5⟩, wordA 1]⟩) .nil (heap_keep BL2.out) (by have := HB1.out.size; have := NA.out.size; omega) (Nat.ne_of_lt (lt_of_heap BL2.out)) (fun q => absurd (Option.some.inj q) (Nat.ne_of_lt (lt_of_heap BL2.out))), by simp, by have := NA.out.size; omega, ?_⟩
  exact (NA.out.trans (hn2.mono NA.out.size)).alloc (by have := NA.out.size; omega) _
set_option maxRecDepth 100000 in
set_option maxHeartbeats 4000000 in
theorem rcopied_2 (x0 x1 x2 x3 x4 x5 t : Int) (w : World) : Calls Try.prog 46 #[.int .i64 2, .agg #[.int .i64 x0, .int .i64 x1, .int .u32 x2, .int .u32 x3, .int .u32 x4, .int .u32 x5], .int .i64 t] w (RowsPost2 [⟨4, 32, 12, 0, [⟨x0, x1, x2, x3, x4, x5⟩, wordA 2]⟩, ⟨4, 32, 8, 0, [tmpA t, wordA 1]⟩] w) := by
  have NA := Lib.hid ((New.refl w).alloc (Nat.le_refl _) (.cells #[.int .i64 x0, .int .i64 x1, .int .u32 x2, .int .u32 x3, .int .u32 x4, .int .u32 x5] 59))
  have TX := Lib.hid (heap_alloc_at w (.cells #[.int .i64 x0, .int .i64 x1, .int .u32 x2, .int .u32 x3, .int .u32 x4, .int .u32 x5] 59) _ rfl)
  have m3 := fun (w : World) => map3_c 2 2 w
  go_enter Try.func46, Try.ntmps46
  go_upto_region 8 with (fail)
  go_wp2_with fail
  refine (m3 _ (by decide)).mono ?_
  rintro e wx ⟨rfl, rfl⟩
  go_upto_region 11 with (fail)
  clear m3
  generalize w.alloc (.cells #[.int .i64 x0, .int .i64 x1, .int .u32 x2, .int .u32 x3, .int .u32 x4, .int .u32 x5] 59) = wA at *
  have hX := TX.out
  have xl := lt_of_heap hX
  have xq0 : wA.cell? ⟨w.heap.size, 0, none⟩ = some (.int .i64 x0) := cell_of_heap hX rfl
  have xq1 : wA.cell? ⟨w.heap.size, 1, none⟩ = some (.int .i64 x1) := cell_of_heap hX rfl
  have xq2 : wA.cell? ⟨w.heap.size, 2, none⟩ = some (.int .u32 x2) := cell_of_heap hX rfl
  have xq3 : wA.cell? ⟨w.heap.size, 3, none⟩ = some (.int .u32 x3) := cell_of_heap hX rfl
  have xq4 : wA.cell? ⟨w.heap.size, 4, none⟩ = some (.int .u32 x4) := cell_of_heap hX rfl
  have xq5 : wA.cell? ⟨w.heap.size, 5, none⟩ = some (.int .u32 x5) := cell_of_heap hX rfl
  clear hX
  have c1 : ∀ w : World, Calls Try.prog 76 #[.int .u32 2] w fun e w' => e = .returned (.agg #[.int .i64 (-1), .int .i64 32, .int .u32 2, .int .u32 0, .int .u32 0, .int .u32 0]) ∧ New w w' := fun w => rword_c 2 w
  have C1 := Lib.hid c1
  clear c1
  have c2 : ∀ w : World, Calls Try.prog 47 #[.int .i64 12, .int .i64 32, .agg #[.int .i64 x0, .int .i64 x1, .int .u32 x2, .int .u32 x3, .int .u32 x4, .int .u32 x5], .agg #[.int .i64 (-1), .int .i64 32, .int .u32 2, .int .u32 0, .int .u32 0, .int .u32 0]] w (ExprPost ⟨4, 32, 12, 0, [⟨x0, x1, x2, x3, x4, x5⟩, ⟨(-1), 32, 2, 0, 0, 0⟩]⟩ w) := fun w => binary_c 12 32 ⟨x0, x1, x2, x3, x4, x5⟩ ⟨(-1), 32, 2, 0, 0, 0⟩ w
  have C2 := Lib.hid c2
  clear c2
  have c3 : ∀ w : World, Calls Try.prog 76 #[.int .u32 1] w fun e w' => e = .returned (.agg #[.int .i64 (-1), .int .i64 32, .int .u32 1, .int .u32 0, .int .u32 0, .int .u32 0]) ∧ New w w' := fun w => rword_c 1 w
  have C3 := Lib.hid c3
  clear c3
  have c4 : ∀ w : World, Calls Try.prog 47 #[.int .i64 8, .int .i64 32, .agg #[.int .i64 t, .int .i64 0, .int .u32 0, .int .u32 0, .int .u32 0, .int .u32 0], .agg #[.int .i64 (-1), .int .i64 32, .int .u32 1, .int .u32 0, .int .u32 0, .int .u32 0]] w (ExprPost ⟨4, 32, 8, 0, [⟨t, 0, 0, 0, 0, 0⟩, ⟨(-1), 32, 1, 0, 0, 0⟩]⟩ w) := fun w => binary_c 8 32 ⟨t, 0, 0, 0, 0, 0⟩ ⟨(-1), 32, 1, 0, 0, 0⟩ w
  have C4 := Lib.hid c4
  clear c4
  go_region_held3 (fun w' => w'.cell? ⟨w.heap.size, 0, none⟩ = some (.int .i64 x0) ∧ w'.cell? ⟨w.heap.size, 1, none⟩ = some (.int .i64 x1) ∧ w'.cell? ⟨w.heap.size, 2, none⟩ = some (.int .u32 x2) ∧ w'.cell? ⟨w.heap.size, 3, none⟩ = some (.int .u32 x3) ∧ w'.cell? ⟨w.heap.size, 4, none⟩ = some (.int .u32 x4) ∧ w'.cell? ⟨w.heap.size, 5, none⟩ = some (.int .u32 x5) ∧ New wA w') (((try dsimp only); (repeat' apply And.intro) <;> (first | assumption | (go_keep; done) | (exact Below.alloc (by assumption) (by omega) _) | (exact Below.alloc (by assumption) (Nat.le_refl _) _) | (go_grown; done))))
    (first | (go_at_call 76; have _t := HB2; clear _t; (with_reducible refine (C3.out _).mono ?_); rintro e u3 ⟨rfl, hb3⟩; have hH3 := ‹_ ∧ _ ∧ _ ∧ _ ∧ _ ∧ _ ∧ _›; have e3_x0 := (hb3.cell (p := ⟨w.heap.size, 0, none⟩) (Nat.lt_of_lt_of_le xl hH3.2.2.2.2.2.2.size)).trans hH3.1; have e3_x1 := (hb3.cell (p := ⟨w.heap.size, 1, none⟩) (Nat.lt_of_lt_of_le xl hH3.2.2.2.2.2.2.size)).trans hH3.2.1; have e3_x2 := (hb3.cell (p := ⟨w.heap.size, 2, none⟩) (Nat.lt_of_lt_of_le xl hH3.2.2.2.2.2.2.size)).trans hH3.2.2.1; have e3_x3 := (hb3.cell (p := ⟨w.heap.size, 3, none⟩) (Nat.lt_of_lt_of_le xl hH3.2.2.2.2.2.2.size)).trans hH3.2.2.2.1; have e3_x4 := (hb3.cell (p := ⟨w.heap.size, 4, none⟩) (Nat.lt_of_lt_of_le xl hH3.2.2.2.2.2.2.size)).trans hH3.2.2.2.2.1; have e3_x5 := (hb3.cell (p := ⟨w.heap.size, 5, none⟩) (Nat.lt_of_lt_of_le xl hH3.2.2.2.2.2.2.size)).trans hH3.2.2.2.2.2.1; have hn3 := hH3.2.2.2.2.2.2.trans (hb3.mono hH3.2.2.2.2.2.2.size); have s3 := hn3.size; have HB3 := Lib.hid hb3; clear hH3 hb3) | (go_at_call 76; (with_reducible refine (C1.out _).mono ?_); rintro e u1 ⟨rfl, hb1⟩; have hH1 := ‹_ ∧ _ ∧ _ ∧ _ ∧ _ ∧ _ ∧ _›; have e1_x0 := (hb1.cell (p := ⟨w.heap.size, 0, none⟩) (Nat.lt_of_lt_of_le xl hH1.2.2.2.2.2.2.size)).trans hH1.1; have e1_x1 := (hb1.cell (p := ⟨w.heap.size, 1, none⟩) (Nat.lt_of_lt_of_le xl hH1.2.2.2.2.2.2.size)).trans hH1.2.1; have e1_x2 := (hb1.cell (p := ⟨w.heap.size, 2, none⟩) (Nat.lt_of_lt_of_le xl hH1.2.2.2.2.2.2.size)).trans hH1.2.2.1; have e1_x3 := (hb1.cell (p := ⟨w.heap.size, 3, none⟩) (Nat.lt_of_lt_of_le xl hH1.2.2.2.2.2.2.size)).trans hH1.2.2.2.1; have e1_x4 := (hb1.cell (p := ⟨w.heap.size, 4, none⟩) (Nat.lt_of_lt_of_le xl hH1.2.2.2.2.2.2.size)).trans hH1.2.2.2.2.1; have e1_x5 := (hb1.cell (p := ⟨w.heap.size, 5, none⟩) (Nat.lt_of_lt_of_le xl hH1.2.2.2.2.2.2.size)).trans hH1.2.2.2.2.2.1; have hn1 := hH1.2.2.2.2.2.2.trans (hb1.mono hH1.2.2.2.2.2.2.size); have s1 := hn1.size; have HB1 := Lib.hid hb1; clear hH1 hb1) | (go_at_call 47; (with_reducible refine (C2.out _).mono ?_); rintro e u2 ⟨bl2, rfl, hbl2, hlo2, hb2⟩; have BL2 := Lib.hid hbl2; have LO2 := Lib.hid hlo2; have hH2 := ‹_ ∧ _ ∧ _ ∧ _ ∧ _ ∧ _ ∧ _›; have e2_x0 := (hb2.cell (p := ⟨w.heap.size, 0, none⟩) (Nat.lt_of_lt_of_le xl hH2.2.2.2.2.2.2.size)).trans hH2.1; have e2_x1 := (hb2.cell (p := ⟨w.heap.size, 1, none⟩) (Nat.lt_of_lt_of_le xl hH2.2.2.2.2.2.2.size)).trans hH2.2.1; have e2_x2 := (hb2.cell (p := ⟨w.heap.size, 2, none⟩) (Nat.lt_of_lt_of_le xl hH2.2.2.2.2.2.2.size)).trans hH2.2.2.1; have e2_x3 := (hb2.cell (p := ⟨w.heap.size, 3, none⟩) (Nat.lt_of_lt_of_le xl hH2.2.2.2.2.2.2.size)).trans hH2.2.2.2.1; have e2_x4 := (hb2.cell (p := ⟨w.heap.size, 4, none⟩) (Nat.lt_of_lt_of_le xl hH2.2.2.2.2.2.2.size)).trans hH2.2.2.2.2.1; have e2_x5 := (hb2.cell (p := ⟨w.heap.size, 5, none⟩) (Nat.lt_of_lt_of_le xl hH2.2.2.2.2.2.2.size)).trans hH2.2.2.2.2.2.1; have hn2 := hH2.2.2.2.2.2.2.trans (hb2.mono hH2.2.2.2.2.2.2.size); have s2 := hn2.size; have HB2 := Lib.hid hb2; unfold exprV; dsimp only; clear hH2 hb2 hbl2 hlo2) | (go_at_call 47; (with_reducible refine (C4.out _).mono ?_); rintro e u4 ⟨bl4, rfl, hbl4, hlo4, hb4⟩; have BL4 := Lib.hid hbl4; have LO4 := Lib.hid hlo4; have hH4 := ‹_ ∧ _ ∧ _ ∧ _ ∧ _ ∧ _ ∧ _›; have e4_x0 := (hb4.cell (p := ⟨w.heap.size, 0, none⟩) (Nat.lt_of_lt_of_le xl hH4.2.2.2.2.2.2.size)).trans hH4.1; have e4_x1 := (hb4.cell (p := ⟨w.heap.size, 1, none⟩) (Nat.lt_of_lt_of_le xl hH4.2.2.2.2.2.2.size)).trans hH4.2.1; have e4_x2 := (hb4.cell (p := ⟨w.heap.size, 2, none⟩) (Nat.lt_of_lt_of_le xl hH4.2.2.2.2.2.2.size)).trans hH4.2.2.1; have e4_x3 := (hb4.cell (p := ⟨w.heap.size, 3, none⟩) (Nat.lt_of_lt_of_le xl hH4.2.2.2.2.2.2.size)).trans hH4.2.2.2.1; have e4_x4 := (hb4.cell (p := ⟨w.heap.size, 4, none⟩) (Nat.lt_of_lt_of_le xl hH4.2.2.2.2.2.2.size)).trans hH4.2.2.2.2.1; have e4_x5 := (hb4.cell (p := ⟨w.heap.size, 5, none⟩) (Nat.lt_of_lt_of_le xl hH4.2.2.2.2.2.2.size)).trans hH4.2.2.2.2.2.1; have hn4 := hH4.2.2.2.2.2.2.trans (hb4.mono hH4.2.2.2.2.2.2.size); have s4 := hn4.size; have HB4 := Lib.hid hb4; unfold exprV; dsimp only; clear hH4 hb4 hbl4 hlo4))
  go_wp2
  go_ret
  have hlo2 := LO2.out
  have hlo4 := LO4.out
  have q1 := HB1.out.size
  have q2 := HB2.out.size
  have q3 := HB3.out.size
  have q4 := HB4.out.size
  have hl2 := lt_of_heap BL2.out
  have hl4 := lt_of_heap BL4.out
  have hA := NA.out.size
  have hb2 := keep (by first | exact HB4.out | exact New.undrew HB4.out) (keep (by first | exact HB3.out | exact New.undrew HB3.out) BL2.out)
  have hl2' := lt_of_heap hb2
  have q12 : wA.heap.size ≤ u1.heap.size := q1
  refine ⟨u4.heap.size, _, rfl, heap_alloc_at u4 (.cells (([] ++ exprC 4 32 12 0 (.slice (some ⟨bl2, 0, none⟩) 2 2)) ++ exprC 4 32 8 0 (.slice (some ⟨bl4, 0, none⟩) 2 2)).toArray 64) _ rfl, Elems.snoc (e := ⟨4, 32, 8, 0, [tmpA t, wordA 1]⟩) (Elems.snoc (e := ⟨4, 32, 12, 0, [⟨x0, x1, x2, x3, x4, x5⟩, wordA 2]⟩) .nil (heap_keep hb2) (by omega) (Nat.ne_of_lt hl2') (fun q => absurd (Option.some.inj q) (Nat.ne_of_lt hl2'))) (heap_keep BL4.out) (by omega) (Nat.ne_of_lt hl4) (fun q => absurd (Option.some.inj q) (Nat.ne_of_lt hl4)), by simp, by omega, ?_⟩
  exact (NA.out.trans (hn4.mono NA.out.size)).alloc (by omega) _
set_option maxRecDepth 100000 in
set_option maxHeartbeats 4000000 in
theorem rcopied_4 (x0 x1 x2 x3 x4 x5 t : Int) (w : World) : Calls Try.prog 46 #[.int .i64 4, .agg #[.int .i64 x0, .int .i64 x1, .int .u32 x2, .int .u32 x3, .int .u32 x4, .int .u32 x5], .int .i64 t] w (RowsPost2 [⟨4, 32, 12, 0, [⟨x0, x1, x2, x3, x4, x5⟩, wordA 1]⟩, ⟨4, 32, 8, 0, [tmpA t, wordA 1]⟩] w) := by
  have NA := Lib.hid ((New.refl w).alloc (Nat.le_refl _) (.cells #[.int .i64 x0, .int .i64 x1, .int .u32 x2, .int .u32 x3, .int .u32 x4, .int .u32 x5] 59))
  have TX := Lib.hid (heap_alloc_at w (.cells #[.int .i64 x0, .int .i64 x1, .int .u32 x2, .int .u32 x3, .int .u32 x4, .int .u32 x5] 59) _ rfl)
  have m3 := fun (w : World) => map3_c 4 1 w
  go_enter Try.func46, Try.ntmps46
  go_upto_region 8 with (fail)
  go_wp2_with fail
  refine (m3 _ (by decide)).mono ?_
  rintro e wx ⟨rfl, rfl⟩
  go_upto_region 11 with (fail)
  clear m3
  generalize w.alloc (.cells #[.int .i64 x0, .int .i64 x1, .int .u32 x2, .int .u32 x3, .int .u32 x4, .int .u32 x5] 59) = wA at *
  have hX := TX.out
  have xl := lt_of_heap hX
  have xq0 : wA.cell? ⟨w.heap.size, 0, none⟩ = some (.int .i64 x0) := cell_of_heap hX rfl
  have xq1 : wA.cell? ⟨w.heap.size, 1, none⟩ = some (.int .i64 x1) := cell_of_heap hX rfl
  have xq2 : wA.cell? ⟨w.heap.size, 2, none⟩ = some (.int .u32 x2) := cell_of_heap hX rfl
  have xq3 : wA.cell? ⟨w.heap.size, 3, none⟩ = some (.int .u32 x3) := cell_of_heap hX rfl
  have xq4 : wA.cell? ⟨w.heap.size, 4, none⟩ = some (.int .u32 x4) := cell_of_heap hX rfl
  have xq5 : wA.cell? ⟨w.heap.size, 5, none⟩ = some (.int .u32 x5) := cell_of_heap hX rfl
  clear hX
  have c1 : ∀ w : World, Calls Try.prog 76 #[.int .u32 1] w fun e w' => e = .returned (.agg #[.int .i64 (-1), .int .i64 32, .int .u32 1, .int .u32 0, .int .u32 0, .int .u32 0]) ∧ New w w' := fun w => rword_c 1 w
  have C1 := Lib.hid c1
  clear c1
  have c2 : ∀ w : World, Calls Try.prog 47 #[.int .i64 12, .int .i64 32, .agg #[.int .i64 x0, .int .i64 x1, .int .u32 x2, .int .u32 x3, .int .u32 x4, .int .u32 x5], .agg #[.int .i64 (-1), .int .i64 32, .int .u32 1, .int .u32 0, .int .u32 0, .int .u32 0]] w (ExprPost ⟨4, 32, 12, 0, [⟨x0, x1, x2, x3, x4, x5⟩, ⟨(-1), 32, 1, 0, 0, 0⟩]⟩ w) := fun w => binary_c 12 32 ⟨x0, x1, x2, x3, x4, x5⟩ ⟨(-1), 32, 1, 0, 0, 0⟩ w
  have C2 := Lib.hid c2
  clear c2
  have c3 : ∀ w : World, Calls Try.prog 76 #[.int .u32 1] w fun e w' => e = .returned (.agg #[.int .i64 (-1), .int .i64 32, .int .u32 1, .int .u32 0, .int .u32 0, .int .u32 0]) ∧ New w w' := fun w => rword_c 1 w
  have C3 := Lib.hid c3
  clear c3
  have c4 : ∀ w : World, Calls Try.prog 47 #[.int .i64 8, .int .i64 32, .agg #[.int .i64 t, .int .i64 0, .int .u32 0, .int .u32 0, .int .u32 0, .int .u32 0], .agg #[.int .i64 (-1), .int .i64 32, .int .u32 1, .int .u32 0, .int .u32 0, .int .u32 0]] w (ExprPost ⟨4, 32, 8, 0, [⟨t, 0, 0, 0, 0, 0⟩, ⟨(-1), 32, 1, 0, 0, 0⟩]⟩ w) := fun w => binary_c 8 32 ⟨t, 0, 0, 0, 0, 0⟩ ⟨(-1), 32, 1, 0, 0, 0⟩ w
  have C4 := Lib.hid c4
  clear c4
  go_region_held3 (fun w' => w'.cell? ⟨w.heap.size, 0, none⟩ = some (.int .i64 x0) ∧ w'.cell? ⟨w.heap.size, 1, none⟩ = some (.int .i64 x1) ∧ w'.cell? ⟨w.heap.size, 2, none⟩ = some (.int .u32 x2) ∧ w'.cell? ⟨w.heap.size, 3, none⟩ = some (.int .u32 x3) ∧ w'.cell? ⟨w.heap.size, 4, none⟩ = some (.int .u32 x4) ∧ w'.cell? ⟨w.heap.size, 5, none⟩ = some (.int .u32 x5) ∧ New wA w') (((try dsimp only); (repeat' apply And.intro) <;> (first | assumption | (go_keep; done) | (exact Below.alloc (by assumption) (by omega) _) | (exact Below.alloc (by assumption) (Nat.le_refl _) _) | (go_grown; done))))
    (first | (go_at_call 76; have _t := HB2; clear _t; (with_reducible refine (C3.out _).mono ?_); rintro e u3 ⟨rfl, hb3⟩; have hH3 := ‹_ ∧ _ ∧ _ ∧ _ ∧ _ ∧ _ ∧ _›; have e3_x0 := (hb3.cell (p := ⟨w.heap.size, 0, none⟩) (Nat.lt_of_lt_of_le xl hH3.2.2.2.2.2.2.size)).trans hH3.1; have e3_x1 := (hb3.cell (p := ⟨w.heap.size, 1, none⟩) (Nat.lt_of_lt_of_le xl hH3.2.2.2.2.2.2.size)).trans hH3.2.1; have e3_x2 := (hb3.cell (p := ⟨w.heap.size, 2, none⟩) (Nat.lt_of_lt_of_le xl hH3.2.2.2.2.2.2.size)).trans hH3.2.2.1; have e3_x3 := (hb3.cell (p := ⟨w.heap.size, 3, none⟩) (Nat.lt_of_lt_of_le xl hH3.2.2.2.2.2.2.size)).trans hH3.2.2.2.1; have e3_x4 := (hb3.cell (p := ⟨w.heap.size, 4, none⟩) (Nat.lt_of_lt_of_le xl hH3.2.2.2.2.2.2.size)).trans hH3.2.2.2.2.1; have e3_x5 := (hb3.cell (p := ⟨w.heap.size, 5, none⟩) (Nat.lt_of_lt_of_le xl hH3.2.2.2.2.2.2.size)).trans hH3.2.2.2.2.2.1; have hn3 := hH3.2.2.2.2.2.2.trans (hb3.mono hH3.2.2.2.2.2.2.size); have s3 := hn3.size; have HB3 := Lib.hid hb3; clear hH3 hb3) | (go_at_call 76; (with_reducible refine (C1.out _).mono ?_); rintro e u1 ⟨rfl, hb1⟩; have hH1 := ‹_ ∧ _ ∧ _ ∧ _ ∧ _ ∧ _ ∧ _›; have e1_x0 := (hb1.cell (p := ⟨w.heap.size, 0, none⟩) (Nat.lt_of_lt_of_le xl hH1.2.2.2.2.2.2.size)).trans hH1.1; have e1_x1 := (hb1.cell (p := ⟨w.heap.size, 1, none⟩) (Nat.lt_of_lt_of_le xl hH1.2.2.2.2.2.2.size)).trans hH1.2.1; have e1_x2 := (hb1.cell (p := ⟨w.heap.size, 2, none⟩) (Nat.lt_of_lt_of_le xl hH1.2.2.2.2.2.2.size)).trans hH1.2.2.1; have e1_x3 := (hb1.cell (p := ⟨w.heap.size, 3, none⟩) (Nat.lt_of_lt_of_le xl hH1.2.2.2.2.2.2.size)).trans hH1.2.2.2.1; have e1_x4 := (hb1.cell (p := ⟨w.heap.size, 4, none⟩) (Nat.lt_of_lt_of_le xl hH1.2.2.2.2.2.2.size)).trans hH1.2.2.2.2.1; have e1_x5 := (hb1.cell (p := ⟨w.heap.size, 5, none⟩) (Nat.lt_of_lt_of_le xl hH1.2.2.2.2.2.2.size)).trans hH1.2.2.2.2.2.1; have hn1 := hH1.2.2.2.2.2.2.trans (hb1.mono hH1.2.2.2.2.2.2.size); have s1 := hn1.size; have HB1 := Lib.hid hb1; clear hH1 hb1) | (go_at_call 47; (with_reducible refine (C2.out _).mono ?_); rintro e u2 ⟨bl2, rfl, hbl2, hlo2, hb2⟩; have BL2 := Lib.hid hbl2; have LO2 := Lib.hid hlo2; have hH2 := ‹_ ∧ _ ∧ _ ∧ _ ∧ _ ∧ _ ∧ _›; have e2_x0 := (hb2.cell (p := ⟨w.heap.size, 0, none⟩) (Nat.lt_of_lt_of_le xl hH2.2.2.2.2.2.2.size)).trans hH2.1; have e2_x1 := (hb2.cell (p := ⟨w.heap.size, 1, none⟩) (Nat.lt_of_lt_of_le xl hH2.2.2.2.2.2.2.size)).trans hH2.2.1; have e2_x2 := (hb2.cell (p := ⟨w.heap.size, 2, none⟩) (Nat.lt_of_lt_of_le xl hH2.2.2.2.2.2.2.size)).trans hH2.2.2.1; have e2_x3 := (hb2.cell (p := ⟨w.heap.size, 3, none⟩) (Nat.lt_of_lt_of_le xl hH2.2.2.2.2.2.2.size)).trans hH2.2.2.2.1; have e2_x4 := (hb2.cell (p := ⟨w.heap.size, 4, none⟩) (Nat.lt_of_lt_of_le xl hH2.2.2.2.2.2.2.size)).trans hH2.2.2.2.2.1; have e2_x5 := (hb2.cell (p := ⟨w.heap.size, 5, none⟩) (Nat.lt_of_lt_of_le xl hH2.2.2.2.2.2.2.size)).trans hH2.2.2.2.2.2.1; have hn2 := hH2.2.2.2.2.2.2.trans (hb2.mono hH2.2.2.2.2.2.2.size); have s2 := hn2.size; have HB2 := Lib.hid hb2; unfold exprV; dsimp only; clear hH2 hb2 hbl2 hlo2) | (go_at_call 47; (with_reducible refine (C4.out _).mono ?_); rintro e u4 ⟨bl4, rfl, hbl4, hlo4, hb4⟩; have BL4 := Lib.hid hbl4; have LO4 := Lib.hid hlo4; have hH4 := ‹_ ∧ _ ∧ _ ∧ _ ∧ _ ∧ _ ∧ _›; have e4_x0 := (hb4.cell (p := ⟨w.heap.size, 0, none⟩) (Nat.lt_of_lt_of_le xl hH4.2.2.2.2.2.2.size)).trans hH4.1; have e4_x1 := (hb4.cell (p := ⟨w.heap.size, 1, none⟩) (Nat.lt_of_lt_of_le xl hH4.2.2.2.2.2.2.size)).trans hH4.2.1; have e4_x2 := (hb4.cell (p := ⟨w.heap.size, 2, none⟩) (Nat.lt_of_lt_of_le xl hH4.2.2.2.2.2.2.size)).trans hH4.2.2.1; have e4_x3 := (hb4.cell (p := ⟨w.heap.size, 3, none⟩) (Nat.lt_of_lt_of_le xl hH4.2.2.2.2.2.2.size)).trans hH4.2.2.2.1; have e4_x4 := (hb4.cell (p := ⟨w.heap.size, 4, none⟩) (Nat.lt_of_lt_of_le xl hH4.2.2.2.2.2.2.size)).trans hH4.2.2.2.2.1; have e4_x5 := (hb4.cell (p := ⟨w.heap.size, 5, none⟩) (Nat.lt_of_lt_of_le xl hH4.2.2.2.2.2.2.size)).trans hH4.2.2.2.2.2.1; have hn4 := hH4.2.2.2.2.2.2.trans (hb4.mono hH4.2.2.2.2.2.2.size); have s4 := hn4.size; have HB4 := Lib.hid hb4; unfold exprV; dsimp only; clear hH4 hb4 hbl4 hlo4))
  go_wp2
  go_ret
  have hlo2 := LO2.out
  have hlo4 := LO4.out
  have q1 := HB1.out.size
  have q2 := HB2.out.size
  have q3 := HB3.out.size
  have q4 := HB4.out.size
  have hl2 := lt_of_heap BL2.out
  have hl4 := lt_of_heap BL4.out
  have hA := NA.out.size
  have hb2 := keep (by first | exact HB4.out | exact New.undrew HB4.out) (keep (by first | exact HB3.out | exact New.undrew HB3.out) BL2.out)
  have hl2' := lt_of_heap hb2
  have q12 : wA.heap.size ≤ u1.heap.size := q1
  refine ⟨u4.heap.size, _, rfl, heap_alloc_at u4 (.cells (([] ++ exprC 4 32 12 0 (.slice (some ⟨bl2, 0, none⟩) 2 2)) ++ exprC 4 32 8 0 (.slice (some ⟨bl4, 0, none⟩) 2 2)).toArray 64) _ rfl, Elems.snoc (e := ⟨4, 32, 8, 0, [tmpA t, wordA 1]⟩) (Elems.snoc (e := ⟨4, 32, 12, 0, [⟨x0, x1, x2, x3, x4, x5⟩, wordA 1]⟩) .nil (heap_keep hb2) (by omega) (Nat.ne_of_lt hl2') (fun q => absurd (Option.some.inj q) (Nat.ne_of_lt hl2'))) (heap_keep BL4.out) (by omega) (Nat.ne_of_lt hl4) (fun q => absurd (Option.some.inj q) (Nat.ne_of_lt hl4)), by simp, by omega, ?_⟩
  exact (NA.out.trans (hn4.mono NA.out.size)).alloc (by omega) _
set_option maxRecDepth 100000 in
set_option maxHeartbeats 4000000 in
theorem rcopied_6 (x0 x1 x2 x3 x4 x5 t : Int) (w : World) : Calls Try.prog 46 #[.int .i64 6, .agg #[.int .i64 x0, .int .i64 x1, .int .u32 x2, .int .u32 x3, .int .u32 x4, .int .u32 x5], .int .i64 t] w (RowsPost2 [⟨4, 32, 12, 0, [⟨x0, x1, x2, x3, x4, x5⟩, wordA 3]⟩, ⟨4, 32, 8, 0, [tmpA t, wordA 1]⟩] w) := by
  have NA := Lib.hid ((New.refl w).alloc (Nat.le_refl _) (.cells #[.int .i64 x0, .int .i64 x1, .int .u32 x2, .int .u32 x3, .int .u32 x4, .int .u32 x5] 59))
  have TX := Lib.hid (heap_alloc_at w (.cells #[.int .i64 x0, .int .i64 x1, .int .u32 x2, .int .u32 x3, .int .u32 x4, .int .u32 x5] 59) _ rfl)
  have m3 := fun (w : World) => map3_c 6 3 w
  go_enter Try.func46, Try.ntmps46
  go_upto_region 8 with (fail)
  go_wp2_with fail
  refine (m3 _ (by decide)).mono ?_
  rintro e wx ⟨rfl, rfl⟩
  go_upto_region 11 with (fail)
  clear m3
  generalize w.alloc (.cells #[.int .i64 x0, .int .i64 x1, .int .u32 x2, .int .u32 x3, .int .u32 x4, .int .u32 x5] 59) = wA at *
  have hX := TX.out
  have xl := lt_of_heap hX
  have xq0 : wA.cell? ⟨w.heap.size, 0, none⟩ = some (.int .i64 x0) := cell_of_heap hX rfl
  have xq1 : wA.cell? ⟨w.heap.size, 1, none⟩ = some (.int .i64 x1) := cell_of_heap hX rfl
  have xq2 : wA.cell? ⟨w.heap.size, 2, none⟩ = some (.int .u32 x2) := cell_of_heap hX rfl
  have xq3 : wA.cell? ⟨w.heap.size, 3, none⟩ = some (.int .u32 x3) := cell_of_heap hX rfl
  have xq4 : wA.cell? ⟨w.heap.size, 4, none⟩ = some (.int .u32 x4) := cell_of_heap hX rfl
  have xq5 : wA.cell? ⟨w.heap.size, 5, none⟩ = some (.int .u32 x5) := cell_of_heap hX rfl
  clear hX
  have c1 : ∀ w : World, Calls Try.prog 76 #[.int .u32 3] w fun e w' => e = .returned (.agg #[.int .i64 (-1), .int .i64 32, .int .u32 3, .int .u32 0, .int .u32 0, .int .u32 0]) ∧ New w w' := fun w => rword_c 3 w
  have C1 := Lib.hid c1
  clear c1
  have c2 : ∀ w : World, Calls Try.prog 47 #[.int .i64 12, .int .i64 32, .agg #[.int .i64 x0, .int .i64 x1, .int .u32 x2, .int .u32 x3, .int .u32 x4, .int .u32 x5], .agg #[.int .i64 (-1), .int .i64 32, .int .u32 3, .int .u32 0, .int .u32 0, .int .u32 0]] w (ExprPost ⟨4, 32, 12, 0, [⟨x0, x1, x2, x3, x4, x5⟩, ⟨(-1), 32, 3, 0, 0, 0⟩]⟩ w) := fun w => binary_c 12 32 ⟨x0, x1, x2, x3, x4, x5⟩ ⟨(-1), 32, 3, 0, 0, 0⟩ w
  have C2 := Lib.hid c2
  clear c2
  have c3 : ∀ w : World, Calls Try.prog 76 #[.int .u32 1] w fun e w' => e = .returned (.agg #[.int .i64 (-1), .int .i64 32, .int .u32 1, .int .u32 0, .int .u32 0, .int .u32 0]) ∧ New w w' := fun w => rword_c 1 w
  have C3 := Lib.hid c3
  clear c3
  have c4 : ∀ w : World, Calls Try.prog 47 #[.int .i64 8, .int .i64 32, .agg #[.int .i64 t, .int .i64 0, .int .u32 0, .int .u32 0, .int .u32 0, .int .u32 0], .agg #[.int .i64 (-1), .int .i64 32, .int .u32 1, .int .u32 0, .int .u32 0, .int .u32 0]] w (ExprPost ⟨4, 32, 8, 0, [⟨t, 0, 0, 0, 0, 0⟩, ⟨(-1), 32, 1, 0, 0, 0⟩]⟩ w) := fun w => binary_c 8 32 ⟨t, 0, 0, 0, 0, 0⟩ ⟨(-1), 32, 1, 0, 0, 0⟩ w
  have C4 := Lib.hid c4
  clear c4
  go_region_held3 (fun w' => w'.cell? ⟨w.heap.size, 0, none⟩ = some (.int .i64 x0) ∧ w'.cell? ⟨w.heap.size, 1, none⟩ = some (.int .i64 x1) ∧ w'.cell? ⟨w.heap.size, 2, none⟩ = some (.int .u32 x2) ∧ w'.cell? ⟨w.heap.size, 3, none⟩ = some (.int .u32 x3) ∧ w'.cell? ⟨w.heap.size, 4, none⟩ = some (.int .u32 x4) ∧ w'.cell? ⟨w.heap.size, 5, none⟩ = some (.int .u32 x5) ∧ New wA w') (((try dsimp only); (repeat' apply And.intro) <;> (first | assumption | (go_keep; done) | (exact Below.alloc (by assumption) (by omega) _) | (exact Below.alloc (by assumption) (Nat.le_refl _) _) | (go_grown; done))))
    (first | (go_at_call 76; have _t := HB2; clear _t; (with_reducible refine (C3.out _).mono ?_); rintro e u3 ⟨rfl, hb3⟩; have hH3 := ‹_ ∧ _ ∧ _ ∧ _ ∧ _ ∧ _ ∧ _›; have e3_x0 := (hb3.cell (p := ⟨w.heap.size, 0, none⟩) (Nat.lt_of_lt_of_le xl hH3.2.2.2.2.2.2.size)).trans hH3.1; have e3_x1 := (hb3.cell (p := ⟨w.heap.size, 1, none⟩) (Nat.lt_of_lt_of_le xl hH3.2.2.2.2.2.2.size)).trans hH3.2.1; have e3_x2 := (hb3.cell (p := ⟨w.heap.size, 2, none⟩) (Nat.lt_of_lt_of_le xl hH3.2.2.2.2.2.2.size)).trans hH3.2.2.1; have e3_x3 := (hb3.cell (p := ⟨w.heap.size, 3, none⟩) (Nat.lt_of_lt_of_le xl hH3.2.2.2.2.2.2.size)).trans hH3.2.2.2.1; have e3_x4 := (hb3.cell (p := ⟨w.heap.size, 4, none⟩) (Nat.lt_of_lt_of_le xl hH3.2.2.2.2.2.2.size)).trans hH3.2.2.2.2.1; have e3_x5 := (hb3.cell (p := ⟨w.heap.size, 5, none⟩) (Nat.lt_of_lt_of_le xl hH3.2.2.2.2.2.2.size)).trans hH3.2.2.2.2.2.1; have hn3 := hH3.2.2.2.2.2.2.trans (hb3.mono hH3.2.2.2.2.2.2.size); have s3 := hn3.size; have HB3 := Lib.hid hb3; clear hH3 hb3) | (go_at_call 76; (with_reducible refine (C1.out _).mono ?_); rintro e u1 ⟨rfl, hb1⟩; have hH1 := ‹_ ∧ _ ∧ _ ∧ _ ∧ _ ∧ _ ∧ _›; have e1_x0 := (hb1.cell (p := ⟨w.heap.size, 0, none⟩) (Nat.lt_of_lt_of_le xl hH1.2.2.2.2.2.2.size)).trans hH1.1; have e1_x1 := (hb1.cell (p := ⟨w.heap.size, 1, none⟩) (Nat.lt_of_lt_of_le xl hH1.2.2.2.2.2.2.size)).trans hH1.2.1; have e1_x2 := (hb1.cell (p := ⟨w.heap.size, 2, none⟩) (Nat.lt_of_lt_of_le xl hH1.2.2.2.2.2.2.size)).trans hH1.2.2.1; have e1_x3 := (hb1.cell (p := ⟨w.heap.size, 3, none⟩) (Nat.lt_of_lt_of_le xl hH1.2.2.2.2.2.2.size)).trans hH1.2.2.2.1; have e1_x4 := (hb1.cell (p := ⟨w.heap.size, 4, none⟩) (Nat.lt_of_lt_of_le xl hH1.2.2.2.2.2.2.size)).trans hH1.2.2.2.2.1; have e1_x5 := (hb1.cell (p := ⟨w.heap.size, 5, none⟩) (Nat.lt_of_lt_of_le xl hH1.2.2.2.2.2.2.size)).trans hH1.2.2.2.2.2.1; have hn1 := hH1.2.2.2.2.2.2.trans (hb1.mono hH1.2.2.2.2.2.2.size); have s1 := hn1.size; have HB1 := Lib.hid hb1; clear hH1 hb1) | (go_at_call 47; (with_reducible refine (C2.out _).mono ?_); rintro e u2 ⟨bl2, rfl, hbl2, hlo2, hb2⟩; have BL2 := Lib.hid hbl2; have LO2 := Lib.hid hlo2; have hH2 := ‹_ ∧ _ ∧ _ ∧ _ ∧ _ ∧ _ ∧ _›; have e2_x0 := (hb2.cell (p := ⟨w.heap.size, 0, none⟩) (Nat.lt_of_lt_of_le xl hH2.2.2.2.2.2.2.size)).trans hH2.1; have e2_x1 := (hb2.cell (p := ⟨w.heap.size, 1, none⟩) (Nat.lt_of_lt_of_le xl hH2.2.2.2.2.2.2.size)).trans hH2.2.1; have e2_x2 := (hb2.cell (p := ⟨w.heap.size, 2, none⟩) (Nat.lt_of_lt_of_le xl hH2.2.2.2.2.2.2.size)).trans hH2.2.2.1; have e2_x3 := (hb2.cell (p := ⟨w.heap.size, 3, none⟩) (Nat.lt_of_lt_of_le xl hH2.2.2.2.2.2.2.size)).trans hH2.2.2.2.1; have e2_x4 := (hb2.cell (p := ⟨w.heap.size, 4, none⟩) (Nat.lt_of_lt_of_le xl hH2.2.2.2.2.2.2.size)).trans hH2.2.2.2.2.1; have e2_x5 := (hb2.cell (p := ⟨w.heap.size, 5, none⟩) (Nat.lt_of_lt_of_le xl hH2.2.2.2.2.2.2.size)).trans hH2.2.2.2.2.2.1; have hn2 := hH2.2.2.2.2.2.2.trans (hb2.mono hH2.2.2.2.2.2.2.size); have s2 := hn2.size; have HB2 := Lib.hid hb2; unfold exprV; dsimp only; clear hH2 hb2 hbl2 hlo2) | (go_at_call 47; (with_reducible refine (C4.out _).mono ?_); rintro e u4 ⟨bl4, rfl, hbl4, hlo4, hb4⟩; have BL4 := Lib.hid hbl4; have LO4 := Lib.hid hlo4; have hH4 := ‹_ ∧ _ ∧ _ ∧ _ ∧ _ ∧ _ ∧ _›; have e4_x0 := (hb4.cell (p := ⟨w.heap.size, 0, none⟩) (Nat.lt_of_lt_of_le xl hH4.2.2.2.2.2.2.size)).trans hH4.1; have e4_x1 := (hb4.cell (p := ⟨w.heap.size, 1, none⟩) (Nat.lt_of_lt_of_le xl hH4.2.2.2.2.2.2.size)).trans hH4.2.1; have e4_x2 := (hb4.cell (p := ⟨w.heap.size, 2, none⟩) (Nat.lt_of_lt_of_le xl hH4.2.2.2.2.2.2.size)).trans hH4.2.2.1; have e4_x3 := (hb4.cell (p := ⟨w.heap.size, 3, none⟩) (Nat.lt_of_lt_of_le xl hH4.2.2.2.2.2.2.size)).trans hH4.2.2.2.1; have e4_x4 := (hb4.cell (p := ⟨w.heap.size, 4, none⟩) (Nat.lt_of_lt_of_le xl hH4.2.2.2.2.2.2.size)).trans hH4.2.2.2.2.1; have e4_x5 := (hb4.cell (p := ⟨w.heap.size, 5, none⟩) (Nat.lt_of_lt_of_le xl hH4.2.2.2.2.2.2.size)).trans hH4.2.2.2.2.2.1; have hn4 := hH4.2.2.2.2.2.2.trans (hb4.mono hH4.2.2.2.2.2.2.size); have s4 := hn4.size; have HB4 := Lib.hid hb4; unfold exprV; dsimp only; clear hH4 hb4 hbl4 hlo4))
  go_wp2
  go_ret
  have hlo2 := LO2.out
  have hlo4 := LO4.out
  have q1 := HB1.out.size
  have q2 := HB2.out.size
  have q3 := HB3.out.size
  have q4 := HB4.out.size
  have hl2 := lt_of_heap BL2.out
  have hl4 := lt_of_heap BL4.out
  have hA := NA.out.size
  have hb2 := keep (by first | exact HB4.out | exact New.undrew HB4.out) (keep (by first | exact HB3.out | exact New.undrew HB3.out) BL2.out)
  have hl2' := lt_of_heap hb2
  have q12 : wA.heap.size ≤ u1.heap.size := q1
  refine ⟨u4.heap.size, _, rfl, heap_alloc_at u4 (.cells (([] ++ exprC 4 32 12 0 (.slice (some ⟨bl2, 0, none⟩) 2 2)) ++ exprC 4 32 8 0 (.slice (some ⟨bl4, 0, none⟩) 2 2)).toArray 64) _ rfl, Elems.snoc (e := ⟨4, 32, 8, 0, [tmpA t, wordA 1]⟩) (Elems.snoc (e := ⟨4, 32, 12, 0, [⟨x0, x1, x2, x3, x4, x5⟩, wordA 3]⟩) .nil (heap_keep hb2) (by omega) (Nat.ne_of_lt hl2') (fun q => absurd (Option.some.inj q) (Nat.ne_of_lt hl2'))) (heap_keep BL4.out) (by omega) (Nat.ne_of_lt hl4) (fun q => absurd (Option.some.inj q) (Nat.ne_of_lt hl4)), by simp, by omega, ?_⟩
  exact (NA.out.trans (hn4.mono NA.out.size)).alloc (by omega) _
/-- A list of expressions in new memory. -/
def RList (es : List IExpr) (w : World) (e : Ending) (w' : World) : Prop := ∃ a cap, e = .returned (.slice a es.length cap) ∧ ERows w' a es ∧ New w w'
theorem Elems.len {w : World} {lo bs : Nat} {row : Option Nat} {es : List IExpr} {xs : List Value} (h : Elems w lo bs row es xs) : xs.length = es.length * 5 := h.get.1
theorem own_of_block {w : World} {g n : Nat} {xs : List Value} {E : TypeId} {size lo : Nat} (h : w.heap[g]? = some (.cells xs.toArray E)) (hl : xs.length = n * size) (hn : n ≤ 1000) (hlo : lo ≤ g) : w.ownsRow lo E size (.slice (some ⟨g, 0, none⟩) n n) n xs :=
  ⟨hl, .inr ⟨g, n, xs.toArray, rfl, hlo, h, Nat.le_refl _, by unfold maxLen; omega, by simp [hl], by simp [← hl]⟩⟩
theorem Elems.mono {w : World} {lo lo' bs : Nat} {row : Option Nat} {es : List IExpr} {xs : List Value} (h : Elems w lo bs row es xs) (hl : lo' ≤ lo) : Elems w lo' bs row es xs := by
  induction h with
  | nil => exact .nil
  | snoc _ hb h1 h2 h3 ih => exact .snoc ih hb (Nat.le_trans hl h1) h2 h3
theorem RowsPost2.list {es : List IExpr} {w : World} {e : Ending} {w' : World} (h : RowsPost2 es w e w') (hn : es.length ≤ 1000) : RList es w e w' := by
  obtain ⟨g, xs, he, hh, hel, hg, hlo, hN⟩ := h
  have ho := own_of_block (n := es.length) (size := 5) (lo := w.heap.size) hh hel.len hn hlo
  obtain ⟨a, cap, ha, hr⟩ := ExprsAt.rows (v := .slice (some ⟨g, 0, none⟩) es.length es.length) ⟨g, xs, ho, hel⟩
  injection ha with h1 h2 h3
  subst h1
  exact ⟨_, _, he, hr, hN⟩
set_option maxRecDepth 100000 in
set_option maxHeartbeats 4000000 in
theorem rcopied_1 (x0 x1 x2 x3 x4 x5 t : Int) (w : World) (ht0 : 0 ≤ t) (ht1 : t ≤ 9000) : Calls Try.prog 46 #[.int .i64 1, .agg #[.int .i64 x0, .int .i64 x1, .int .u32 x2, .int .u32 x3, .int .u32 x4, .int .u32 x5], .int .i64 t] w (RList ([⟨4, 32, 8, 0, [⟨x0, x1, x2, x3, x4, x5⟩, wordA 1]⟩] ++ [⟨4, 32, 10, 0, [tmpA t, wordA 1]⟩]) w) := by
  have NA := Lib.hid ((New.refl w).alloc (Nat.le_refl _) (.cells #[.int .i64 x0, .int .i64 x1, .int .u32 x2, .int .u32 x3, .int .u32 x4, .int .u32 x5] 59))
  have TX := Lib.hid (heap_alloc_at w (.cells #[.int .i64 x0, .int .i64 x1, .int .u32 x2, .int .u32 x3, .int .u32 x4, .int .u32 x5] 59) _ rfl)
  go_enter Try.func46, Try.ntmps46
  go_wp2_with fail
  refine (rcopied_0 x0 x1 x2 x3 x4 x5 t _).mono ?_
  rintro e w1 ⟨g, xs, rfl, hh, hel, hg, hlo, hN⟩
  have N1 := Lib.hid (NA.out.trans (hN.mono NA.out.size))
  have HH := Lib.hid hh
  have HE := Lib.hid hel
  have HLO := Lib.hid hlo
  clear hh hel hN hlo NA TX
  go_wp2_with fail
  refine (rword_c 1 _).mono ?_
  rintro e w2 ⟨rfl, hb2⟩
  have B2 := Lib.hid hb2
  clear hb2
  unfold wordA Atom.val
  dsimp only
  go_wp2_with fail
  refine (binary_c 10 32 ⟨t, 0, 0, 0, 0, 0⟩ (wordA 1) _).mono ?_
  rintro e w3 ⟨bl, rfl, hbl, hlo3, hb3⟩
  have B3 := Lib.hid hb3
  have BL := Lib.hid hbl
  have LO3 := Lib.hid hlo3
  clear hb3 hbl hlo3
  unfold exprV
  dsimp only
  obtain ⟨i0, hi, hz0, hz1, hz2⟩ := info_parts infoE
  have HG2 := keep B2.out HH.out
  have HG3 := keep B3.out HG2
  have hlo := HLO.out
  have hA : w.heap.size + 1 ≤ g := by simpa using hlo
  have hxl := HE.out.len
  have hown := own_of_block (n := 1) (size := 5) (lo := w.heap.size) (heap_keep (o := .cells (exprC 4 32 10 0 (.slice (some ⟨bl, 0, none⟩) 2 2)).toArray 64) HG3) hxl (by decide) (by omega)
  have HOWN := Lib.hid hown
  have hz1s := N1.out.size
  have hz2s := B2.out.size
  have hz3s := B3.out.size
  have hg3 := lt_of_heap HG3
  have HGL := Lib.hid (lt_of_heap HH.out)
  clear HG2 HG3 hown hxl
  go_wp2_with (at_builtin; refine wpList_append_lies _ rfl _ _ _ rfl w.heap.size 64 i0 (.agg #[.int .i64 0, .int .i64 0, .int .i64 0, .int .i64 0, .slice none 0 0]) 5 56 Try.underlying24 hi hz0 hz1 hz2 rfl (by omega) (.slice (some ⟨g, 0, none⟩) 1 1) 1 xs (by rfl) HOWN.out ⟨w3.heap.size, 0, none⟩ 1 1 (exprC 4 32 10 0 (.slice (some ⟨bl, 0, none⟩) 2 2)) (by rfl) (by rfl) ?hnews ?h1 (by omega) ?h63 ?hbytes ?hbase (w3.heap.size + 1) ?hH ?_; (case hnews => exact World.news_of_block (heap_alloc_at _ _ _ rfl)); (case h1 => (intro u hu; simp [exprC] at hu; rcases hu with rfl | rfl | rfl | rfl | rfl <;> rfl)); (case h63 => (unfold maxLen; omega)); (case hbytes => omega); (case hbase => (simp; omega)); (case hH => simp); intro g4 cap w4 hown4 hgrow hat hlt; have HX4 := Lib.hid (And.intro hown4 (And.intro hgrow (And.intro hat hlt))); clear hown4 hgrow hat hlt)
  obtain ⟨hown4, hgrow, hat, hlt⟩ := HX4.out
  have hel2 : Elems w4 w.heap.size g (some g4) ([⟨4, 32, 8, 0, [⟨x0, x1, x2, x3, x4, x5⟩, wordA 1]⟩] ++ [⟨4, 32, 10, 0, [⟨t, 0, 0, 0, 0, 0⟩, wordA 1]⟩]) (xs ++ exprC 4 32 10 0 (.slice (some ⟨bl, 0, none⟩) 2 2)) := by
    have hold : ∀ k, k < w3.heap.size → k ≠ g → w4.heap[k]? = w3.heap[k]? := fun k h1 h2 => (hgrow.block k (by simp; omega) (fun q => h2 (Option.some.inj q))).trans ((MapKept.heap_alloc w3 _).2 k h1)
    have hne : ∀ k, k < w3.heap.size → k ≠ g → some k ≠ some g4 := fun k h1 h2 q => by
      have q := Option.some.inj q
      rcases hat with h | h
      · exact h2 (q.trans (Option.some.inj h).symm)
      · omega
    have hbl := BL.out
    have hl := lt_of_heap hbl
    have hlo3 := LO3.out
    have hgl := HGL.out
    refine Elems.snoc (e := ⟨4, 32, 10, 0, [⟨t, 0, 0, 0, 0, 0⟩, wordA 1]⟩) ((HE.out.keep (w' := w4) (row' := some g4) fun k h1 h2 _ => ⟨(hold k (by omega) h2).trans ((B3.out.block k (by omega)).trans (B2.out.block k h1)), hne k (by omega) h2⟩).mono (by simp)) ((hold bl hl (by omega)).trans hbl) (by omega) (by omega) (hne bl hl (by omega))
  have hown5 : w4.ownsRow w.heap.size 64 5 (.slice (some ⟨g4, 0, none⟩) (1 + 1) cap) (([⟨4, 32, 8, 0, [⟨x0, x1, x2, x3, x4, x5⟩, wordA 1]⟩] : List IExpr) ++ [(⟨4, 32, 10, 0, [⟨t, 0, 0, 0, 0, 0⟩, wordA 1]⟩ : IExpr)]).length (xs ++ exprC 4 32 10 0 (.slice (some ⟨bl, 0, none⟩) 2 2)) := hown4
  obtain ⟨ad, cp, ha, hr⟩ := ExprsAt.rows (w := w4) (lo := w.heap.size) (es := ([⟨4, 32, 8, 0, [⟨x0, x1, x2, x3, x4, x5⟩, wordA 1]⟩] : List IExpr) ++ [(⟨4, 32, 10, 0, [⟨t, 0, 0, 0, 0, 0⟩, wordA 1]⟩ : IExpr)]) (v := .slice (some ⟨g4, 0, none⟩) (1 + 1) cap) ⟨g, _, hown5, hel2⟩
  have HR := Lib.hid hr
  have HAD := Lib.hid ha
  have HN4 := Lib.hid (show New w w4 from Below.grown (((N1.out.trans ((B2.out.trans (B3.out.mono hz2s)).mono hz1s)).alloc (by omega) _)) hgrow (by simp; omega) (fun k hk => by have hk' : g = k := Option.some.inj hk; omega))
  clear hown4 hown5 hgrow hat hlt hel2 ha hr
  go_wp2
  go_ret
  injection HAD.out with q1 q2 q3
  subst q1
  exact ⟨_, _, rfl, HR.out, HN4.out⟩
set_option maxRecDepth 100000 in
set_option maxHeartbeats 4000000 in
theorem rcopied_3 (x0 x1 x2 x3 x4 x5 t : Int) (w : World) (ht0 : 0 ≤ t) (ht1 : t ≤ 9000) : Calls Try.prog 46 #[.int .i64 3, .agg #[.int .i64 x0, .int .i64 x1, .int .u32 x2, .int .u32 x3, .int .u32 x4, .int .u32 x5], .int .i64 t] w (RList ([⟨4, 32, 12, 0, [⟨x0, x1, x2, x3, x4, x5⟩, wordA 2]⟩, ⟨4, 32, 8, 0, [tmpA t, wordA 1]⟩] ++ [⟨4, 32, 10, 0, [tmpA (t + 2 - 1), wordA 1]⟩]) w) := by
  have NA := Lib.hid ((New.refl w).alloc (Nat.le_refl _) (.cells #[.int .i64 x0, .int .i64 x1, .int .u32 x2, .int .u32 x3, .int .u32 x4, .int .u32 x5] 59))
  have TX := Lib.hid (heap_alloc_at w (.cells #[.int .i64 x0, .int .i64 x1, .int .u32 x2, .int .u32 x3, .int .u32 x4, .int .u32 x5] 59) _ rfl)
  go_enter Try.func46, Try.ntmps46
  go_wp2_with fail
  refine (rcopied_2 x0 x1 x2 x3 x4 x5 t _).mono ?_
  rintro e w1 ⟨g, xs, rfl, hh, hel, hg, hlo, hN⟩
  have N1 := Lib.hid (NA.out.trans (hN.mono NA.out.size))
  have HH := Lib.hid hh
  have HE := Lib.hid hel
  have HLO := Lib.hid hlo
  clear hh hel hN hlo NA TX
  go_wp2_with fail
  refine (rword_c 1 _).mono ?_
  rintro e w2 ⟨rfl, hb2⟩
  have B2 := Lib.hid hb2
  clear hb2
  unfold wordA Atom.val
  dsimp only
  go_wp2_with fail
  refine (binary_c 10 32 ⟨t + 2 - 1, 0, 0, 0, 0, 0⟩ (wordA 1) _).mono ?_
  rintro e w3 ⟨bl, rfl, hbl, hlo3, hb3⟩
  have B3 := Lib.hid hb3
  have BL := Lib.hid hbl
  have LO3 := Lib.hid hlo3
  clear hb3 hbl hlo3
  unfold exprV
  dsimp only
  obtain ⟨i0, hi, hz0, hz1, hz2⟩ := info_parts infoE
  have HG2 := keep B2.out HH.out
  have HG3 := keep B3.out HG2
  have hlo := HLO.out
  have hA : w.heap.size + 1 ≤ g := by simpa using hlo
  have hxl := HE.out.len
  have hown := own_of_block (n := 2) (size := 5) (lo := w.heap.size) (heap_keep (o := .cells (exprC 4 32 10 0 (.slice (some ⟨bl, 0, none⟩) 2 2)).toArray 64) HG3) hxl (by decide) (by omega)
  have HOWN := Lib.hid hown
  have hz1s := N1.out.size
  have hz2s := B2.out.size
  have hz3s := B3.out.size
  have hg3 := lt_of_heap HG3
  have HGL := Lib.hid (lt_of_heap HH.out)
  clear HG2 HG3 hown hxl
  go_wp2_with (at_builtin; refine wpList_append_lies _ rfl _ _ _ rfl w.heap.size 64 i0 (.agg #[.int .i64 0, .int .i64 0, .int .i64 0, .int .i64 0, .slice none 0 0]) 5 56 Try.underlying24 hi hz0 hz1 hz2 rfl (by omega) (.slice (some ⟨g, 0, none⟩) 2 2) 2 xs (by rfl) HOWN.out ⟨w3.heap.size, 0, none⟩ 1 1 (exprC 4 32 10 0 (.slice (some ⟨bl, 0, none⟩) 2 2)) (by rfl) (by rfl) ?hnews ?h1 (by omega) ?h63 ?hbytes ?hbase (w3.heap.size + 1) ?hH ?_; (case hnews => exact World.news_of_block (heap_alloc_at _ _ _ rfl)); (case h1 => (intro u hu; simp [exprC] at hu; rcases hu with rfl | rfl | rfl | rfl | rfl <;> rfl)); (case h63 => (unfold maxLen; omega)); (case hbytes => omega); (case hbase => (simp; omega)); (case hH => simp); intro g4 cap w4 hown4 hgrow hat hlt; have HX4 := Lib.hid (And.intro hown4 (And.intro hgrow (And.intro hat hlt))); clear hown4 hgrow hat hlt)
  obtain ⟨hown4, hgrow, hat, hlt⟩ := HX4.out
  have hel2 : Elems w4 w.heap.size g (some g4) ([⟨4, 32, 12, 0, [⟨x0, x1, x2, x3, x4, x5⟩, wordA 2]⟩, ⟨4, 32, 8, 0, [tmpA t, wordA 1]⟩] ++ [⟨4, 32, 10, 0, [⟨t + 2 - 1, 0, 0, 0, 0, 0⟩, wordA 1]⟩]) (xs ++ exprC 4 32 10 0 (.slice (some ⟨bl, 0, none⟩) 2 2)) := by
    have hold : ∀ k, k < w3.heap.size → k ≠ g → w4.heap[k]? = w3.heap[k]? := fun k h1 h2 => (hgrow.block k (by simp; omega) (fun q => h2 (Option.some.inj q))).trans ((MapKept.heap_alloc w3 _).2 k h1)
    have hne : ∀ k, k < w3.heap.size → k ≠ g → some k ≠ some g4 := fun k h1 h2 q => by
      have q := Option.some.inj q
      rcases hat with h | h
      · exact h2 (q.trans (Option.some.inj h).symm)
      · omega
    have hbl := BL.out
    have hl := lt_of_heap hbl
    have hlo3 := LO3.out
    have hgl := HGL.out
    refine Elems.snoc (e := ⟨4, 32, 10, 0, [⟨t + 2 - 1, 0, 0, 0, 0, 0⟩, wordA 1]⟩) ((HE.out.keep (w' := w4) (row' := some g4) fun k h1 h2 _ => ⟨(hold k (by omega) h2).trans ((B3.out.block k (by omega)).trans (B2.out.block k h1)), hne k (by omega) h2⟩).mono (by simp)) ((hold bl hl (by omega)).trans hbl) (by omega) (by omega) (hne bl hl (by omega))
  have hown5 : w4.ownsRow w.heap.size 64 5 (.slice (some ⟨g4, 0, none⟩) (2 + 1) cap) (([⟨4, 32, 12, 0, [⟨x0, x1, x2, x3, x4, x5⟩, wordA 2]⟩, ⟨4, 32, 8, 0, [tmpA t, wordA 1]⟩] : List IExpr) ++ [(⟨4, 32, 10, 0, [⟨t + 2 - 1, 0, 0, 0, 0, 0⟩, wordA 1]⟩ : IExpr)]).length (xs ++ exprC 4 32 10 0 (.slice (some ⟨bl, 0, none⟩) 2 2)) := hown4
  obtain ⟨ad, cp, ha, hr⟩ := ExprsAt.rows (w := w4) (lo := w.heap.size) (es := ([⟨4, 32, 12, 0, [⟨x0, x1, x2, x3, x4, x5⟩, wordA 2]⟩, ⟨4, 32, 8, 0, [tmpA t, wordA 1]⟩] : List IExpr) ++ [(⟨4, 32, 10, 0, [⟨t + 2 - 1, 0, 0, 0, 0, 0⟩, wordA 1]⟩ : IExpr)]) (v := .slice (some ⟨g4, 0, none⟩) (2 + 1) cap) ⟨g, _, hown5, hel2⟩
  have HR := Lib.hid hr
  have HAD := Lib.hid ha
  have HN4 := Lib.hid (show New w w4 from Below.grown (((N1.out.trans ((B2.out.trans (B3.out.mono hz2s)).mono hz1s)).alloc (by omega) _)) hgrow (by simp; omega) (fun k hk => by have hk' : g = k := Option.some.inj hk; omega))
  clear hown4 hown5 hgrow hat hlt hel2 ha hr
  go_wp2
  go_ret
  injection HAD.out with q1 q2 q3
  subst q1
  exact ⟨_, _, rfl, HR.out, HN4.out⟩
set_option maxRecDepth 100000 in
set_option maxHeartbeats 4000000 in
theorem rcopied_5 (x0 x1 x2 x3 x4 x5 t : Int) (w : World) (ht0 : 0 ≤ t) (ht1 : t ≤ 9000) : Calls Try.prog 46 #[.int .i64 5, .agg #[.int .i64 x0, .int .i64 x1, .int .u32 x2, .int .u32 x3, .int .u32 x4, .int .u32 x5], .int .i64 t] w (RList ([⟨4, 32, 12, 0, [⟨x0, x1, x2, x3, x4, x5⟩, wordA 1]⟩, ⟨4, 32, 8, 0, [tmpA t, wordA 1]⟩] ++ [⟨4, 32, 10, 0, [tmpA (t + 2 - 1), wordA 1]⟩]) w) := by
  have NA := Lib.hid ((New.refl w).alloc (Nat.le_refl _) (.cells #[.int .i64 x0, .int .i64 x1, .int .u32 x2, .int .u32 x3, .int .u32 x4, .int .u32 x5] 59))
  have TX := Lib.hid (heap_alloc_at w (.cells #[.int .i64 x0, .int .i64 x1, .int .u32 x2, .int .u32 x3, .int .u32 x4, .int .u32 x5] 59) _ rfl)
  go_enter Try.func46, Try.ntmps46
  go_wp2_with fail
  refine (rcopied_4 x0 x1 x2 x3 x4 x5 t _).mono ?_
  rintro e w1 ⟨g, xs, rfl, hh, hel, hg, hlo, hN⟩
  have N1 := Lib.hid (NA.out.trans (hN.mono NA.out.size))
  have HH := Lib.hid hh
  have HE := Lib.hid hel
  have HLO := Lib.hid hlo
  clear hh hel hN hlo NA TX
  go_wp2_with fail
  refine (rword_c 1 _).mono ?_
  rintro e w2 ⟨rfl, hb2⟩
  have B2 := Lib.hid hb2
  clear hb2
  unfold wordA Atom.val
  dsimp only
  go_wp2_with fail
  refine (binary_c 10 32 ⟨t + 2 - 1, 0, 0, 0, 0, 0⟩ (wordA 1) _).mono ?_
  rintro e w3 ⟨bl, rfl, hbl, hlo3, hb3⟩
  have B3 := Lib.hid hb3
  have BL := Lib.hid hbl
  have LO3 := Lib.hid hlo3
  clear hb3 hbl hlo3
  unfold exprV
  dsimp only
  obtain ⟨i0, hi, hz0, hz1, hz2⟩ := info_parts infoE
  have HG2 := keep B2.out HH.out
  have HG3 := keep B3.out HG2
  have hlo := HLO.out
  have hA : w.heap.size + 1 ≤ g := by simpa using hlo
  have hxl := HE.out.len
  have hown := own_of_block (n := 2) (size := 5) (lo := w.heap.size) (heap_keep (o := .cells (exprC 4 32 10 0 (.slice (some ⟨bl, 0, none⟩) 2 2)).toArray 64) HG3) hxl (by decide) (by omega)
  have HOWN := Lib.hid hown
  have hz1s := N1.out.size
  have hz2s := B2.out.size
  have hz3s := B3.out.size
  have hg3 := lt_of_heap HG3
  have HGL := Lib.hid (lt_of_heap HH.out)
  clear HG2 HG3 hown hxl
  go_wp2_with (at_builtin; refine wpList_append_lies _ rfl _ _ _ rfl w.heap.size 64 i0 (.agg #[.int .i64 0, .int .i64 0, .int .i64 0, .int .i64 0, .slice none 0 0]) 5 56 Try.underlying24 hi hz0 hz1 hz2 rfl (by omega) (.slice (some ⟨g, 0, none⟩) 2 2) 2 xs (by rfl) HOWN.out ⟨w3.heap.size, 0, none⟩ 1 1 (exprC 4 32 10 0 (.slice (some ⟨bl, 0, none⟩) 2 2)) (by rfl) (by rfl) ?hnews ?h1 (by omega) ?h63 ?hbytes ?hbase (w3.heap.size + 1) ?hH ?_; (case hnews => exact World.news_of_block (heap_alloc_at _ _ _ rfl)); (case h1 => (intro u hu; simp [exprC] at hu; rcases hu with rfl | rfl | rfl | rfl | rfl <;> rfl)); (case h63 => (unfold maxLen; omega)); (case hbytes => omega); (case hbase => (simp; omega)); (case hH => simp); intro g4 cap w4 hown4 hgrow hat hlt; have HX4 := Lib.hid (And.intro hown4 (And.intro hgrow (And.intro hat hlt))); clear hown4 hgrow hat hlt)
  obtain ⟨hown4, hgrow, hat, hlt⟩ := HX4.out
  have hel2 : Elems w4 w.heap.size g (some g4) ([⟨4, 32, 12, 0, [⟨x0, x1, x2, x3, x4, x5⟩, wordA 1]⟩, ⟨4, 32, 8, 0, [tmpA t, wordA 1]⟩] ++ [⟨4, 32, 10, 0, [⟨t + 2 - 1, 0, 0, 0, 0, 0⟩, wordA 1]⟩]) (xs ++ exprC 4 32 10 0 (.slice (some ⟨bl, 0, none⟩) 2 2)) := by
    have hold : ∀ k, k < w3.heap.size → k ≠ g → w4.heap[k]? = w3.heap[k]? := fun k h1 h2 => (hgrow.block k (by simp; omega) (fun q => h2 (Option.some.inj q))).trans ((MapKept.heap_alloc w3 _).2 k h1)
    have hne : ∀ k, k < w3.heap.size → k ≠ g → some k ≠ some g4 := fun k h1 h2 q => by
      have q := Option.some.inj q
      rcases hat with h | h
      · exact h2 (q.trans (Option.some.inj h).symm)
      · omega
    have hbl := BL.out
    have hl := lt_of_heap hbl
    have hlo3 := LO3.out
    have hgl := HGL.out
    refine Elems.snoc (e := ⟨4, 32, 10, 0, [⟨t + 2 - 1, 0, 0, 0, 0, 0⟩, wordA 1]⟩) ((HE.out.keep (w' := w4) (row' := some g4) fun k h1 h2 _ => ⟨(hold k (by omega) h2).trans ((B3.out.block k (by omega)).trans (B2.out.block k h1)), hne k (by omega) h2⟩).mono (by simp)) ((hold bl hl (by omega)).trans hbl) (by omega) (by omega) (hne bl hl (by omega))
  have hown5 : w4.ownsRow w.heap.size 64 5 (.slice (some ⟨g4, 0, none⟩) (2 + 1) cap) (([⟨4, 32, 12, 0, [⟨x0, x1, x2, x3, x4, x5⟩, wordA 1]⟩, ⟨4, 32, 8, 0, [tmpA t, wordA 1]⟩] : List IExpr) ++ [(⟨4, 32, 10, 0, [⟨t + 2 - 1, 0, 0, 0, 0, 0⟩, wordA 1]⟩ : IExpr)]).length (xs ++ exprC 4 32 10 0 (.slice (some ⟨bl, 0, none⟩) 2 2)) := hown4
  obtain ⟨ad, cp, ha, hr⟩ := ExprsAt.rows (w := w4) (lo := w.heap.size) (es := ([⟨4, 32, 12, 0, [⟨x0, x1, x2, x3, x4, x5⟩, wordA 1]⟩, ⟨4, 32, 8, 0, [tmpA t, wordA 1]⟩] : List IExpr) ++ [(⟨4, 32, 10, 0, [⟨t + 2 - 1, 0, 0, 0, 0, 0⟩, wordA 1]⟩ : IExpr)]) (v := .slice (some ⟨g4, 0, none⟩) (2 + 1) cap) ⟨g, _, hown5, hel2⟩
  have HR := Lib.hid hr
  have HAD := Lib.hid ha
  have HN4 := Lib.hid (show New w w4 from Below.grown (((N1.out.trans ((B2.out.trans (B3.out.mono hz2s)).mono hz1s)).alloc (by omega) _)) hgrow (by simp; omega) (fun k hk => by have hk' : g = k := Option.some.inj hk; omega))
  clear hown4 hown5 hgrow hat hlt hel2 ha hr
  go_wp2
  go_ret
  injection HAD.out with q1 q2 q3
  subst q1
  exact ⟨_, _, rfl, HR.out, HN4.out⟩
set_option maxRecDepth 100000 in
set_option maxHeartbeats 4000000 in
theorem rcopied_7 (x0 x1 x2 x3 x4 x5 t : Int) (w : World) (ht0 : 0 ≤ t) (ht1 : t ≤ 9000) : Calls Try.prog 46 #[.int .i64 7, .agg #[.int .i64 x0, .int .i64 x1, .int .u32 x2, .int .u32 x3, .int .u32 x4, .int .u32 x5], .int .i64 t] w (RList ([⟨4, 32, 12, 0, [⟨x0, x1, x2, x3, x4, x5⟩, wordA 3]⟩, ⟨4, 32, 8, 0, [tmpA t, wordA 1]⟩] ++ [⟨4, 32, 10, 0, [tmpA (t + 2 - 1), wordA 1]⟩]) w) := by
  have NA := Lib.hid ((New.refl w).alloc (Nat.le_refl _) (.cells #[.int .i64 x0, .int .i64 x1, .int .u32 x2, .int .u32 x3, .int .u32 x4, .int .u32 x5] 59))
  have TX := Lib.hid (heap_alloc_at w (.cells #[.int .i64 x0, .int .i64 x1, .int .u32 x2, .int .u32 x3, .int .u32 x4, .int .u32 x5] 59) _ rfl)
  go_enter Try.func46, Try.ntmps46
  go_wp2_with fail
  refine (rcopied_6 x0 x1 x2 x3 x4 x5 t _).mono ?_
  rintro e w1 ⟨g, xs, rfl, hh, hel, hg, hlo, hN⟩
  have N1 := Lib.hid (NA.out.trans (hN.mono NA.out.size))
  have HH := Lib.hid hh
  have HE := Lib.hid hel
  have HLO := Lib.hid hlo
  clear hh hel hN hlo NA TX
  go_wp2_with fail
  refine (rword_c 1 _).mono ?_
  rintro e w2 ⟨rfl, hb2⟩
  have B2 := Lib.hid hb2
  clear hb2
  unfold wordA Atom.val
  dsimp only
  go_wp2_with fail
  refine (binary_c 10 32 ⟨t + 2 - 1, 0, 0, 0, 0, 0⟩ (wordA 1) _).mono ?_
  rintro e w3 ⟨bl, rfl, hbl, hlo3, hb3⟩
  have B3 := Lib.hid hb3
  have BL := Lib.hid hbl
  have LO3 := Lib.hid hlo3
  clear hb3 hbl hlo3
  unfold exprV
  dsimp only
  obtain ⟨i0, hi, hz0, hz1, hz2⟩ := info_parts infoE
  have HG2 := keep B2.out HH.out
  have HG3 := keep B3.out HG2
  have hlo := HLO.out
  have hA : w.heap.size + 1 ≤ g := by simpa using hlo
  have hxl := HE.out.len
  have hown := own_of_block (n := 2) (size := 5) (lo := w.heap.size) (heap_keep (o := .cells (exprC 4 32 10 0 (.slice (some ⟨bl, 0, none⟩) 2 2)).toArray 64) HG3) hxl (by decide) (by omega)
  have HOWN := Lib.hid hown
  have hz1s := N1.out.size
  have hz2s := B2.out.size
  have hz3s := B3.out.size
  have hg3 := lt_of_heap HG3
  have HGL := Lib.hid (lt_of_heap HH.out)
  clear HG2 HG3 hown hxl
  go_wp2_with (at_builtin; refine wpList_append_lies _ rfl _ _ _ rfl w.heap.size 64 i0 (.agg #[.int .i64 0, .int .i64 0, .int .i64 0, .int .i64 0, .slice none 0 0]) 5 56 Try.underlying24 hi hz0 hz1 hz2 rfl (by omega) (.slice (some ⟨g, 0, none⟩) 2 2) 2 xs (by rfl) HOWN.out ⟨w3.heap.size, 0, none⟩ 1 1 (exprC 4 32 10 0 (.slice (some ⟨bl, 0, none⟩) 2 2)) (by rfl) (by rfl) ?hnews ?h1 (by omega) ?h63 ?hbytes ?hbase (w3.heap.size + 1) ?hH ?_; (case hnews => exact World.news_of_block (heap_alloc_at _ _ _ rfl)); (case h1 => (intro u hu; simp [exprC] at hu; rcases hu with rfl | rfl | rfl | rfl | rfl <;> rfl)); (case h63 => (unfold maxLen; omega)); (case hbytes => omega); (case hbase => (simp; omega)); (case hH => simp); intro g4 cap w4 hown4 hgrow hat hlt; have HX4 := Lib.hid (And.intro hown4 (And.intro hgrow (And.intro hat hlt))); clear hown4 hgrow hat hlt)
  obtain ⟨hown4, hgrow, hat, hlt⟩ := HX4.out
  have hel2 : Elems w4 w.heap.size g (some g4) ([⟨4, 32, 12, 0, [⟨x0, x1, x2, x3, x4, x5⟩, wordA 3]⟩, ⟨4, 32, 8, 0, [tmpA t, wordA 1]⟩] ++ [⟨4, 32, 10, 0, [⟨t + 2 - 1, 0, 0, 0, 0, 0⟩, wordA 1]⟩]) (xs ++ exprC 4 32 10 0 (.slice (some ⟨bl, 0, none⟩) 2 2)) := by
    have hold : ∀ k, k < w3.heap.size → k ≠ g → w4.heap[k]? = w3.heap[k]? := fun k h1 h2 => (hgrow.block k (by simp; omega) (fun q => h2 (Option.some.inj q))).trans ((MapKept.heap_alloc w3 _).2 k h1)
    have hne : ∀ k, k < w3.heap.size → k ≠ g → some k ≠ some g4 := fun k h1 h2 q => by
      have q := Option.some.inj q
      rcases hat with h | h
      · exact h2 (q.trans (Option.some.inj h).symm)
      · omega
    have hbl := BL.out
    have hl := lt_of_heap hbl
    have hlo3 := LO3.out
    have hgl := HGL.out
    refine Elems.snoc (e := ⟨4, 32, 10, 0, [⟨t + 2 - 1, 0, 0, 0, 0, 0⟩, wordA 1]⟩) ((HE.out.keep (w' := w4) (row' := some g4) fun k h1 h2 _ => ⟨(hold k (by omega) h2).trans ((B3.out.block k (by omega)).trans (B2.out.block k h1)), hne k (by omega) h2⟩).mono (by simp)) ((hold bl hl (by omega)).trans hbl) (by omega) (by omega) (hne bl hl (by omega))
  have hown5 : w4.ownsRow w.heap.size 64 5 (.slice (some ⟨g4, 0, none⟩) (2 + 1) cap) (([⟨4, 32, 12, 0, [⟨x0, x1, x2, x3, x4, x5⟩, wordA 3]⟩, ⟨4, 32, 8, 0, [tmpA t, wordA 1]⟩] : List IExpr) ++ [(⟨4, 32, 10, 0, [⟨t + 2 - 1, 0, 0, 0, 0, 0⟩, wordA 1]⟩ : IExpr)]).length (xs ++ exprC 4 32 10 0 (.slice (some ⟨bl, 0, none⟩) 2 2)) := hown4
  obtain ⟨ad, cp, ha, hr⟩ := ExprsAt.rows (w := w4) (lo := w.heap.size) (es := ([⟨4, 32, 12, 0, [⟨x0, x1, x2, x3, x4, x5⟩, wordA 3]⟩, ⟨4, 32, 8, 0, [tmpA t, wordA 1]⟩] : List IExpr) ++ [(⟨4, 32, 10, 0, [⟨t + 2 - 1, 0, 0, 0, 0, 0⟩, wordA 1]⟩ : IExpr)]) (v := .slice (some ⟨g4, 0, none⟩) (2 + 1) cap) ⟨g, _, hown5, hel2⟩
  have HR := Lib.hid hr
  have HAD := Lib.hid ha
  have HN4 := Lib.hid (show New w w4 from Below.grown (((N1.out.trans ((B2.out.trans (B3.out.mono hz2s)).mono hz1s)).alloc (by omega) _)) hgrow (by simp; omega) (fun k hk => by have hk' : g = k := Option.some.inj hk; omega))
  clear hown4 hown5 hgrow hat hlt hel2 ha hr
  go_wp2
  go_ret
  injection HAD.out with q1 q2 q3
  subst q1
  exact ⟨_, _, rfl, HR.out, HN4.out⟩
set_option maxHeartbeats 1000000 in
theorem rcopied_8 (x0 x1 x2 x3 x4 x5 t : Int) (w : World) : Calls Try.prog 46 #[.int .i64 8, .agg #[.int .i64 x0, .int .i64 x1, .int .u32 x2, .int .u32 x3, .int .u32 x4, .int .u32 x5], .int .i64 t] w fun e w' => e = .returned (.slice none 0 0) ∧ New w w' := by
  have m3 := fun (w : World) => map3_0 8 w (by decide) (by decide) (by decide)
  go_enter Try.func46, Try.ntmps46
  go_wp2_with fail
  refine (m3 _).mono ?_
  rintro e wx ⟨rfl, rfl⟩
  clear m3
  go_wp2
  go_ret
  exact ⟨rfl, by go_grown⟩
set_option maxHeartbeats 1000000 in
theorem rcopied_10 (x0 x1 x2 x3 x4 x5 t : Int) (w : World) : Calls Try.prog 46 #[.int .i64 10, .agg #[.int .i64 x0, .int .i64 x1, .int .u32 x2, .int .u32 x3, .int .u32 x4, .int .u32 x5], .int .i64 t] w fun e w' => e = .returned (.slice none 0 0) ∧ New w w' := by
  have m3 := fun (w : World) => map3_0 10 w (by decide) (by decide) (by decide)
  go_enter Try.func46, Try.ntmps46
  go_wp2_with fail
  refine (m3 _).mono ?_
  rintro e wx ⟨rfl, rfl⟩
  clear m3
  go_wp2
  go_ret
  exact ⟨rfl, by go_grown⟩
set_option maxHeartbeats 1000000 in
theorem rcopied_12 (x0 x1 x2 x3 x4 x5 t : Int) (w : World) : Calls Try.prog 46 #[.int .i64 12, .agg #[.int .i64 x0, .int .i64 x1, .int .u32 x2, .int .u32 x3, .int .u32 x4, .int .u32 x5], .int .i64 t] w fun e w' => e = .returned (.slice none 0 0) ∧ New w w' := by
  have m3 := fun (w : World) => map3_0 12 w (by decide) (by decide) (by decide)
  go_enter Try.func46, Try.ntmps46
  go_wp2_with fail
  refine (m3 _).mono ?_
  rintro e wx ⟨rfl, rfl⟩
  clear m3
  go_wp2
  go_ret
  exact ⟨rfl, by go_grown⟩
set_option maxHeartbeats 1000000 in
theorem rcopied_9 (x0 x1 x2 x3 x4 x5 t : Int) (w : World) : Calls Try.prog 46 #[.int .i64 9, .agg #[.int .i64 x0, .int .i64 x1, .int .u32 x2, .int .u32 x3, .int .u32 x4, .int .u32 x5], .int .i64 t] w fun e w' => e = .returned (.slice none 0 0) ∧ New w w' := by
  have NA := Lib.hid ((New.refl w).alloc (Nat.le_refl _) (.cells #[.int .i64 x0, .int .i64 x1, .int .u32 x2, .int .u32 x3, .int .u32 x4, .int .u32 x5] 59))
  go_enter Try.func46, Try.ntmps46
  go_wp2_with fail
  refine (rcopied_8 x0 x1 x2 x3 x4 x5 t _).mono ?_
  rintro e w1 ⟨rfl, hb⟩
  have N1 := Lib.hid (NA.out.trans (hb.mono NA.out.size))
  clear hb NA
  go_wp2
  go_ret
  exact ⟨rfl, N1.out⟩
set_option maxHeartbeats 1000000 in
theorem rcopied_11 (x0 x1 x2 x3 x4 x5 t : Int) (w : World) : Calls Try.prog 46 #[.int .i64 11, .agg #[.int .i64 x0, .int .i64 x1, .int .u32 x2, .int .u32 x3, .int .u32 x4, .int .u32 x5], .int .i64 t] w fun e w' => e = .returned (.slice none 0 0) ∧ New w w' := by
  have NA := Lib.hid ((New.refl w).alloc (Nat.le_refl _) (.cells #[.int .i64 x0, .int .i64 x1, .int .u32 x2, .int .u32 x3, .int .u32 x4, .int .u32 x5] 59))
  go_enter Try.func46, Try.ntmps46
  go_wp2_with fail
  refine (rcopied_10 x0 x1 x2 x3 x4 x5 t _).mono ?_
  rintro e w1 ⟨rfl, hb⟩
  have N1 := Lib.hid (NA.out.trans (hb.mono NA.out.size))
  clear hb NA
  go_wp2
  go_ret
  exact ⟨rfl, N1.out⟩
set_option maxHeartbeats 1000000 in
theorem rcopied_13 (x0 x1 x2 x3 x4 x5 t : Int) (w : World) : Calls Try.prog 46 #[.int .i64 13, .agg #[.int .i64 x0, .int .i64 x1, .int .u32 x2, .int .u32 x3, .int .u32 x4, .int .u32 x5], .int .i64 t] w fun e w' => e = .returned (.slice none 0 0) ∧ New w w' := by
  have NA := Lib.hid ((New.refl w).alloc (Nat.le_refl _) (.cells #[.int .i64 x0, .int .i64 x1, .int .u32 x2, .int .u32 x3, .int .u32 x4, .int .u32 x5] 59))
  go_enter Try.func46, Try.ntmps46
  go_wp2_with fail
  refine (rcopied_12 x0 x1 x2 x3 x4 x5 t _).mono ?_
  rintro e w1 ⟨rfl, hb⟩
  have N1 := Lib.hid (NA.out.trans (hb.mono NA.out.size))
  clear hb NA
  go_wp2
  go_ret
  exact ⟨rfl, N1.out⟩
theorem rcopied_c (i : Nat) (x : Atom) (t : Int) (w : World) (hi : i ≤ 7) (ht0 : 0 ≤ t) (ht1 : t ≤ 9000) : Calls Try.prog 46 #[.int .i64 i, x.val, .int .i64 t] w (RList (copyE i x t 0) w) := by
  obtain ⟨x0, x1, x2, x3, x4, x5⟩ := x
  have e0 : t + ((0 : Nat) : Int) = t := by simp
  have e1 : t + ((0 + 1 : Nat) : Int) = t + 2 - 1 := by simp; omega
  have hx : i = 0 ∨ i = 1 ∨ i = 2 ∨ i = 3 ∨ i = 4 ∨ i = 5 ∨ i = 6 ∨ i = 7 := by omega
  unfold copyE
  rw [e0, e1]
  rcases hx with rfl | rfl | rfl | rfl | rfl | rfl | rfl | rfl
  · exact (rcopied_0 x0 x1 x2 x3 x4 x5 t w).mono fun e w' h => RowsPost2.list h (Nat.le_of_ble_eq_true rfl)
  · exact rcopied_1 x0 x1 x2 x3 x4 x5 t w ht0 ht1
  · exact (rcopied_2 x0 x1 x2 x3 x4 x5 t w).mono fun e w' h => RowsPost2.list h (Nat.le_of_ble_eq_true rfl)
  · exact rcopied_3 x0 x1 x2 x3 x4 x5 t w ht0 ht1
  · exact (rcopied_4 x0 x1 x2 x3 x4 x5 t w).mono fun e w' h => RowsPost2.list h (Nat.le_of_ble_eq_true rfl)
  · exact rcopied_5 x0 x1 x2 x3 x4 x5 t w ht0 ht1
  · exact (rcopied_6 x0 x1 x2 x3 x4 x5 t w).mono fun e w' h => RowsPost2.list h (Nat.le_of_ble_eq_true rfl)
  · exact rcopied_7 x0 x1 x2 x3 x4 x5 t w ht0 ht1
theorem rcopied_hi (i : Nat) (x : Atom) (t : Int) (w : World) (h7 : 7 < i) (hi : i < 14) : Calls Try.prog 46 #[.int .i64 i, x.val, .int .i64 t] w fun e w' => e = .returned (.slice none 0 0) ∧ New w w' := by
  obtain ⟨x0, x1, x2, x3, x4, x5⟩ := x
  have hx : i = 8 ∨ i = 9 ∨ i = 10 ∨ i = 11 ∨ i = 12 ∨ i = 13 := by omega
  rcases hx with rfl | rfl | rfl | rfl | rfl | rfl
  · exact rcopied_8 x0 x1 x2 x3 x4 x5 t w
  · exact rcopied_9 x0 x1 x2 x3 x4 x5 t w
  · exact rcopied_10 x0 x1 x2 x3 x4 x5 t w
  · exact rcopied_11 x0 x1 x2 x3 x4 x5 t w
  · exact rcopied_12 x0 x1 x2 x3 x4 x5 t w
  · exact rcopied_13 x0 x1 x2 x3 x4 x5 t w
end Go.Proofs.Ytmkjgkldbonpnaa
