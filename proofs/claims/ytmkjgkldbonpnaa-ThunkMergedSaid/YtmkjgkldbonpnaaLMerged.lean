/- ThunkMerged holds: merging all flags is a copy of them; merging twice with one mask is merging the second time alone; merging a thunk's own flags changes none. No condition. -/
import Derived.Test.YtmkjgkldbonpnaaKitLaw
import Derived.Test.YtmkjgkldbonpnaaWSane2
import Derived.Test.YtmkjgkldbonpnaaPlainMerge
namespace Go.Proofs.Ytmkjgkldbonpnaa
open Go Go.RowKit Go.Cd Go.ChangeShapes Go.WideShapes Go.ChangeAt
set_option linter.unusedVariables false
attribute [local go_sem ↓] Go.wp_at_zero Go.wp_at_succ eql_four neq_four
set_option maxRecDepth 100000 in
set_option maxHeartbeats 4000000 in
theorem thunkMerged_c (a0 a1 a2 a3 mask fa fb : Int) (h0 : 0 ≤ a0 ∧ a0 < 4294967296) (h1 : 0 ≤ a1 ∧ a1 < 4294967296) (h2 : 0 ≤ a2 ∧ a2 < 4294967296) (h3 : 0 ≤ a3 ∧ a3 < 4294967296) (w : World) :
    Calls Try.prog 8 #[.agg #[.int .u32 a0, .int .u32 a1, .int .u32 a2, .int .u32 a3], .int .i64 mask, .int .i64 fa, .int .i64 fb] w fun e w' => e = .returned (.bool true) ∧ New w w' := by
  have k1 := merge_all a0 a1 a2 a3 fa
  have k2 := merge_own a0 a1 a2 a3 mask h0 h1 h2 h3
  have k3 := merge_flags a0 a1 a2 a3 mask fa h0 h1 h2 h3
  have k4 := merge_twice a0 a1 a2 a3 mask fa fb h0
  have b2 := mergeF_bd a0 a1 a2 a3 mask (flagsF a0 a1 a2 a3) h0 h1 h2 h3
  have b3 := mergeF_bd a0 a1 a2 a3 mask fa h0 h1 h2 h3
  obtain ⟨⟨o0, o1, o2, o3⟩, hO⟩ : ∃ t : Four, mergeF a0 a1 a2 a3 mask (flagsF a0 a1 a2 a3) = t := ⟨_, rfl⟩
  obtain ⟨⟨x0, x1, x2, x3⟩, hX⟩ : ∃ t : Four, mergeF a0 a1 a2 a3 mask fa = t := ⟨_, rfl⟩
  obtain ⟨⟨y0, y1, y2, y3⟩, hY⟩ : ∃ t : Four, mergeF a0 a1 a2 a3 mask fb = t := ⟨_, rfl⟩
  rw [hO] at k2 b2
  rw [hX] at k3 k4 b3
  rw [hY] at k4
  unfold flagsT at k2 k3
  unfold Bd at b2 b3
  dsimp only at k2 k3 k4 b2 b3
  obtain ⟨p0, p1, p2, p3⟩ := b2
  obtain ⟨q0, q1, q2, q3⟩ := b3
  have c2 : ∀ w : World, Calls Try.prog 21 #[.agg #[.int .u32 a0, .int .u32 a1, .int .u32 a2, .int .u32 a3], .int .i64 15, .int .i64 fa] w fun e w' => e = .returned (.agg #[.int .u32 0, .int .u32 (IntKind.u32.wrap (bits .and .i64 fa 15)), .int .u32 0, .int .u32 0]) ∧ New w w' := fun w => by
    have h := lmerged_c a0 a1 a2 a3 15 fa w h0.1 h0.2 h1.1 h1.2 h2.1 h2.2 h3.1 h3.2
    rw [k1, ← IntKind.wrap_u32] at h
    exact h
  have C2 := Lib.hid c2
  clear c2
  have c3 : ∀ w : World, Calls Try.prog 21 #[.agg #[.int .u32 a0, .int .u32 a1, .int .u32 a2, .int .u32 a3], .int .i64 mask, .int .i64 (flagsF a0 a1 a2 a3)] w fun e w' => e = .returned (.agg #[.int .u32 o0, .int .u32 o1, .int .u32 o2, .int .u32 o3]) ∧ New w w' := fun w => by
    have h := lmerged_c a0 a1 a2 a3 mask (flagsF a0 a1 a2 a3) w h0.1 h0.2 h1.1 h1.2 h2.1 h2.2 h3.1 h3.2
    rw [hO] at h
    exact h
  have C3 := Lib.hid c3
  clear c3
  have c4 : ∀ w : World, Calls Try.prog 18 #[.agg #[.int .u32 a0, .int .u32 a1, .int .u32 a2, .int .u32 a3]] w fun e w' => e = .returned (.int .i64 (flagsF a0 a1 a2 a3)) ∧ New w w' := fun w => by
    have h := tof_c a0 a1 a2 a3 w h0.1 h0.2 h1.1 h1.2 h2.1 h2.2 h3.1 h3.2
    exact h
  have C4 := Lib.hid c4
  clear c4
  have c5 : ∀ w : World, Calls Try.prog 18 #[.agg #[.int .u32 o0, .int .u32 o1, .int .u32 o2, .int .u32 o3]] w fun e w' => e = .returned (.int .i64 (flagsF a0 a1 a2 a3)) ∧ New w w' := fun w => by
    have h := tof_c o0 o1 o2 o3 w p0.1 p0.2 p1.1 p1.2 p2.1 p2.2 p3.1 p3.2
    rw [k2] at h
    exact h
  have C5 := Lib.hid c5
  clear c5
  have c6 : ∀ w : World, Calls Try.prog 21 #[.agg #[.int .u32 a0, .int .u32 a1, .int .u32 a2, .int .u32 a3], .int .i64 mask, .int .i64 fa] w fun e w' => e = .returned (.agg #[.int .u32 x0, .int .u32 x1, .int .u32 x2, .int .u32 x3]) ∧ New w w' := fun w => by
    have h := lmerged_c a0 a1 a2 a3 mask fa w h0.1 h0.2 h1.1 h1.2 h2.1 h2.2 h3.1 h3.2
    rw [hX] at h
    exact h
  have C6 := Lib.hid c6
  clear c6
  have c7 : ∀ w : World, Calls Try.prog 18 #[.agg #[.int .u32 x0, .int .u32 x1, .int .u32 x2, .int .u32 x3]] w fun e w' => e = .returned (.int .i64 (bits .or .i64 (bits .and .i64 (bits .andNot .i64 (flagsF a0 a1 a2 a3) mask) 15) (bits .and .i64 (bits .and .i64 fa mask) 15))) ∧ New w w' := fun w => by
    have h := tof_c x0 x1 x2 x3 w q0.1 q0.2 q1.1 q1.2 q2.1 q2.2 q3.1 q3.2
    rw [k3] at h
    exact h
  have C7 := Lib.hid c7
  clear c7
  have c8 : ∀ w : World, Calls Try.prog 21 #[.agg #[.int .u32 x0, .int .u32 x1, .int .u32 x2, .int .u32 x3], .int .i64 mask, .int .i64 fb] w fun e w' => e = .returned (.agg #[.int .u32 y0, .int .u32 y1, .int .u32 y2, .int .u32 y3]) ∧ New w w' := fun w => by
    have h := lmerged_c x0 x1 x2 x3 mask fb w q0.1 q0.2 q1.1 q1.2 q2.1 q2.2 q3.1 q3.2
    rw [k4] at h
    exact h
  have C8 := Lib.hid c8
  clear c8
  have c9 : ∀ w : World, Calls Try.prog 21 #[.agg #[.int .u32 a0, .int .u32 a1, .int .u32 a2, .int .u32 a3], .int .i64 mask, .int .i64 fb] w fun e w' => e = .returned (.agg #[.int .u32 y0, .int .u32 y1, .int .u32 y2, .int .u32 y3]) ∧ New w w' := fun w => by
    have h := lmerged_c a0 a1 a2 a3 mask fb w h0.1 h0.2 h1.1 h1.2 h2.1 h2.2 h3.1 h3.2
    rw [hY] at h
    exact h
  have C9 := Lib.hid c9
  clear c9
  clear k1 k2 k3 k4 hO hX hY
  go_enter Try.func8, Try.ntmps8
  have T0 := Lib.hid (heap_alloc_at w (.cells #[.int .u32 a0, .int .u32 a1, .int .u32 a2, .int .u32 a3] 34) _ rfl)
  have N0 := Lib.hid ((New.refl w).alloc (Nat.le_refl _) (.cells #[.int .u32 a0, .int .u32 a1, .int .u32 a2, .int .u32 a3] 34))
  go_wp2_with fail
  refine (sane_c _).mono ?_
  rintro e w1 ⟨rfl, hb1⟩
  have T1 := Lib.hid (keep hb1 T0.out)
  have N1 := Lib.hid (N0.out.trans (hb1.mono N0.out.size))
  obtain ⟨c10, c11, c12, c13, cs1⟩ := four_cells T1.out
  clear hb1
  go_wp2_with fail
  go_region_held3 (fun w' => w'.cell? ⟨w.heap.size, 0, none⟩ = some (.int .u32 a0) ∧ w'.cell? ⟨w.heap.size, 1, none⟩ = some (.int .u32 a1) ∧ w'.cell? ⟨w.heap.size, 2, none⟩ = some (.int .u32 a2) ∧ w'.cell? ⟨w.heap.size, 3, none⟩ = some (.int .u32 a3) ∧ w.heap.size < w'.heap.size ∧ New w1 w') (((try dsimp only); (repeat' apply And.intro) <;> (first | assumption | go_keep | omega | go_grown)))
    (first | (go_at_call 21; (with_reducible refine (C2.out _).mono ?_); rintro e u2 ⟨rfl, hb2⟩; have hH2 := ‹_ ∧ _ ∧ _ ∧ _ ∧ _ ∧ _›; have e200 := (hb2.cell (p := ⟨w.heap.size, 0, none⟩) hH2.2.2.2.2.1).trans hH2.1; have e201 := (hb2.cell (p := ⟨w.heap.size, 1, none⟩) hH2.2.2.2.2.1).trans hH2.2.1; have e202 := (hb2.cell (p := ⟨w.heap.size, 2, none⟩) hH2.2.2.2.2.1).trans hH2.2.2.1; have e203 := (hb2.cell (p := ⟨w.heap.size, 3, none⟩) hH2.2.2.2.2.1).trans hH2.2.2.2.1; have el20 := Nat.lt_of_lt_of_le hH2.2.2.2.2.1 hb2.size; have hn2 := hH2.2.2.2.2.2.trans (hb2.mono hH2.2.2.2.2.2.size); clear hH2 hb2) | (go_at_call 21; (with_reducible refine (C3.out _).mono ?_); rintro e u3 ⟨rfl, hb3⟩; have hH3 := ‹_ ∧ _ ∧ _ ∧ _ ∧ _ ∧ _›; have e300 := (hb3.cell (p := ⟨w.heap.size, 0, none⟩) hH3.2.2.2.2.1).trans hH3.1; have e301 := (hb3.cell (p := ⟨w.heap.size, 1, none⟩) hH3.2.2.2.2.1).trans hH3.2.1; have e302 := (hb3.cell (p := ⟨w.heap.size, 2, none⟩) hH3.2.2.2.2.1).trans hH3.2.2.1; have e303 := (hb3.cell (p := ⟨w.heap.size, 3, none⟩) hH3.2.2.2.2.1).trans hH3.2.2.2.1; have el30 := Nat.lt_of_lt_of_le hH3.2.2.2.2.1 hb3.size; have hn3 := hH3.2.2.2.2.2.trans (hb3.mono hH3.2.2.2.2.2.size); clear hH3 hb3) | (go_at_call 18; (with_reducible refine (C4.out _).mono ?_); rintro e u4 ⟨rfl, hb4⟩; have hH4 := ‹_ ∧ _ ∧ _ ∧ _ ∧ _ ∧ _›; have e400 := (hb4.cell (p := ⟨w.heap.size, 0, none⟩) hH4.2.2.2.2.1).trans hH4.1; have e401 := (hb4.cell (p := ⟨w.heap.size, 1, none⟩) hH4.2.2.2.2.1).trans hH4.2.1; have e402 := (hb4.cell (p := ⟨w.heap.size, 2, none⟩) hH4.2.2.2.2.1).trans hH4.2.2.1; have e403 := (hb4.cell (p := ⟨w.heap.size, 3, none⟩) hH4.2.2.2.2.1).trans hH4.2.2.2.1; have el40 := Nat.lt_of_lt_of_le hH4.2.2.2.2.1 hb4.size; have hn4 := hH4.2.2.2.2.2.trans (hb4.mono hH4.2.2.2.2.2.size); clear hH4 hb4) | (go_at_call 18; (with_reducible refine (C5.out _).mono ?_); rintro e u5 ⟨rfl, hb5⟩; have hH5 := ‹_ ∧ _ ∧ _ ∧ _ ∧ _ ∧ _›; have e500 := (hb5.cell (p := ⟨w.heap.size, 0, none⟩) hH5.2.2.2.2.1).trans hH5.1; have e501 := (hb5.cell (p := ⟨w.heap.size, 1, none⟩) hH5.2.2.2.2.1).trans hH5.2.1; have e502 := (hb5.cell (p := ⟨w.heap.size, 2, none⟩) hH5.2.2.2.2.1).trans hH5.2.2.1; have e503 := (hb5.cell (p := ⟨w.heap.size, 3, none⟩) hH5.2.2.2.2.1).trans hH5.2.2.2.1; have el50 := Nat.lt_of_lt_of_le hH5.2.2.2.2.1 hb5.size; have hn5 := hH5.2.2.2.2.2.trans (hb5.mono hH5.2.2.2.2.2.size); clear hH5 hb5))
  go_wp2_with fail
  refine (C6.out _).mono ?_
  rintro e w6 ⟨rfl, hb6⟩
  have d0 := (hb6.cell (p := ⟨w.heap.size, 0, none⟩) el40).trans e400
  have d1 := (hb6.cell (p := ⟨w.heap.size, 1, none⟩) el40).trans e401
  have d2 := (hb6.cell (p := ⟨w.heap.size, 2, none⟩) el40).trans e402
  have d3 := (hb6.cell (p := ⟨w.heap.size, 3, none⟩) el40).trans e403
  have dl := Nat.lt_of_lt_of_le el40 hb6.size
  have M6 := Lib.hid (N1.out.trans ((hn4.trans (hb6.mono hn4.size)).mono N1.out.size))
  clear hb6
  have hA := (New.refl w6).alloc (Nat.le_refl _) (.cells #[.int .u32 x0, .int .u32 x1, .int .u32 x2, .int .u32 x3] 34)
  have D0 := (hA.cell (p := ⟨w.heap.size, 0, none⟩) dl).trans d0
  have D1 := (hA.cell (p := ⟨w.heap.size, 1, none⟩) dl).trans d1
  have D2 := (hA.cell (p := ⟨w.heap.size, 2, none⟩) dl).trans d2
  have D3 := (hA.cell (p := ⟨w.heap.size, 3, none⟩) dl).trans d3
  have DL := Nat.lt_of_lt_of_le dl hA.size
  have TX := Lib.hid (heap_alloc_at w6 (.cells #[.int .u32 x0, .int .u32 x1, .int .u32 x2, .int .u32 x3] 34) _ rfl)
  have M7 := Lib.hid (M6.out.alloc M6.out.size (.cells #[.int .u32 x0, .int .u32 x1, .int .u32 x2, .int .u32 x3] 34))
  clear hA d0 d1 d2 d3 dl
  go_wp2_with fail
  generalize w6.alloc (.cells #[.int .u32 x0, .int .u32 x1, .int .u32 x2, .int .u32 x3] 34) = wB at *
  obtain ⟨x40, x41, x42, x43, xs4⟩ := four_cells TX.out
  go_region_held3 (fun w' => w'.cell? ⟨w.heap.size, 0, none⟩ = some (.int .u32 a0) ∧ w'.cell? ⟨w.heap.size, 1, none⟩ = some (.int .u32 a1) ∧ w'.cell? ⟨w.heap.size, 2, none⟩ = some (.int .u32 a2) ∧ w'.cell? ⟨w.heap.size, 3, none⟩ = some (.int .u32 a3) ∧ w.heap.size < w'.heap.size ∧ w'.cell? ⟨w6.heap.size, 0, none⟩ = some (.int .u32 x0) ∧ w'.cell? ⟨w6.heap.size, 1, none⟩ = some (.int .u32 x1) ∧ w'.cell? ⟨w6.heap.size, 2, none⟩ = some (.int .u32 x2) ∧ w'.cell? ⟨w6.heap.size, 3, none⟩ = some (.int .u32 x3) ∧ w6.heap.size < w'.heap.size ∧ New wB w') (((try dsimp only); (repeat' apply And.intro) <;> (first | assumption | go_keep | omega | go_grown)))
    (first | (go_at_call 18; (with_reducible refine (C7.out _).mono ?_); rintro e u7 ⟨rfl, hb7⟩; have hH7 := ‹_ ∧ _ ∧ _ ∧ _ ∧ _ ∧ _ ∧ _ ∧ _ ∧ _ ∧ _ ∧ _›; have e700 := (hb7.cell (p := ⟨w.heap.size, 0, none⟩) hH7.2.2.2.2.1).trans hH7.1; have e701 := (hb7.cell (p := ⟨w.heap.size, 1, none⟩) hH7.2.2.2.2.1).trans hH7.2.1; have e702 := (hb7.cell (p := ⟨w.heap.size, 2, none⟩) hH7.2.2.2.2.1).trans hH7.2.2.1; have e703 := (hb7.cell (p := ⟨w.heap.size, 3, none⟩) hH7.2.2.2.2.1).trans hH7.2.2.2.1; have el70 := Nat.lt_of_lt_of_le hH7.2.2.2.2.1 hb7.size; have e710 := (hb7.cell (p := ⟨w6.heap.size, 0, none⟩) hH7.2.2.2.2.2.2.2.2.2.1).trans hH7.2.2.2.2.2.1; have e711 := (hb7.cell (p := ⟨w6.heap.size, 1, none⟩) hH7.2.2.2.2.2.2.2.2.2.1).trans hH7.2.2.2.2.2.2.1; have e712 := (hb7.cell (p := ⟨w6.heap.size, 2, none⟩) hH7.2.2.2.2.2.2.2.2.2.1).trans hH7.2.2.2.2.2.2.2.1; have e713 := (hb7.cell (p := ⟨w6.heap.size, 3, none⟩) hH7.2.2.2.2.2.2.2.2.2.1).trans hH7.2.2.2.2.2.2.2.2.1; have el71 := Nat.lt_of_lt_of_le hH7.2.2.2.2.2.2.2.2.2.1 hb7.size; have hn7 := hH7.2.2.2.2.2.2.2.2.2.2.trans (hb7.mono hH7.2.2.2.2.2.2.2.2.2.2.size); clear hH7 hb7) | (go_at_call 18; (with_reducible refine (C4.out _).mono ?_); rintro e u4 ⟨rfl, hb4⟩; have hH4 := ‹_ ∧ _ ∧ _ ∧ _ ∧ _ ∧ _ ∧ _ ∧ _ ∧ _ ∧ _ ∧ _›; have e400 := (hb4.cell (p := ⟨w.heap.size, 0, none⟩) hH4.2.2.2.2.1).trans hH4.1; have e401 := (hb4.cell (p := ⟨w.heap.size, 1, none⟩) hH4.2.2.2.2.1).trans hH4.2.1; have e402 := (hb4.cell (p := ⟨w.heap.size, 2, none⟩) hH4.2.2.2.2.1).trans hH4.2.2.1; have e403 := (hb4.cell (p := ⟨w.heap.size, 3, none⟩) hH4.2.2.2.2.1).trans hH4.2.2.2.1; have el40 := Nat.lt_of_lt_of_le hH4.2.2.2.2.1 hb4.size; have e410 := (hb4.cell (p := ⟨w6.heap.size, 0, none⟩) hH4.2.2.2.2.2.2.2.2.2.1).trans hH4.2.2.2.2.2.1; have e411 := (hb4.cell (p := ⟨w6.heap.size, 1, none⟩) hH4.2.2.2.2.2.2.2.2.2.1).trans hH4.2.2.2.2.2.2.1; have e412 := (hb4.cell (p := ⟨w6.heap.size, 2, none⟩) hH4.2.2.2.2.2.2.2.2.2.1).trans hH4.2.2.2.2.2.2.2.1; have e413 := (hb4.cell (p := ⟨w6.heap.size, 3, none⟩) hH4.2.2.2.2.2.2.2.2.2.1).trans hH4.2.2.2.2.2.2.2.2.1; have el41 := Nat.lt_of_lt_of_le hH4.2.2.2.2.2.2.2.2.2.1 hb4.size; have hn4 := hH4.2.2.2.2.2.2.2.2.2.2.trans (hb4.mono hH4.2.2.2.2.2.2.2.2.2.2.size); clear hH4 hb4) | (go_at_call 21; (with_reducible refine (C8.out _).mono ?_); rintro e u8 ⟨rfl, hb8⟩; have hH8 := ‹_ ∧ _ ∧ _ ∧ _ ∧ _ ∧ _ ∧ _ ∧ _ ∧ _ ∧ _ ∧ _›; have e800 := (hb8.cell (p := ⟨w.heap.size, 0, none⟩) hH8.2.2.2.2.1).trans hH8.1; have e801 := (hb8.cell (p := ⟨w.heap.size, 1, none⟩) hH8.2.2.2.2.1).trans hH8.2.1; have e802 := (hb8.cell (p := ⟨w.heap.size, 2, none⟩) hH8.2.2.2.2.1).trans hH8.2.2.1; have e803 := (hb8.cell (p := ⟨w.heap.size, 3, none⟩) hH8.2.2.2.2.1).trans hH8.2.2.2.1; have el80 := Nat.lt_of_lt_of_le hH8.2.2.2.2.1 hb8.size; have e810 := (hb8.cell (p := ⟨w6.heap.size, 0, none⟩) hH8.2.2.2.2.2.2.2.2.2.1).trans hH8.2.2.2.2.2.1; have e811 := (hb8.cell (p := ⟨w6.heap.size, 1, none⟩) hH8.2.2.2.2.2.2.2.2.2.1).trans hH8.2.2.2.2.2.2.1; have e812 := (hb8.cell (p := ⟨w6.heap.size, 2, none⟩) hH8.2.2.2.2.2.2.2.2.2.1).trans hH8.2.2.2.2.2.2.2.1; have e813 := (hb8.cell (p := ⟨w6.heap.size, 3, none⟩) hH8.2.2.2.2.2.2.2.2.2.1).trans hH8.2.2.2.2.2.2.2.2.1; have el81 := Nat.lt_of_lt_of_le hH8.2.2.2.2.2.2.2.2.2.1 hb8.size; have hn8 := hH8.2.2.2.2.2.2.2.2.2.2.trans (hb8.mono hH8.2.2.2.2.2.2.2.2.2.2.size); clear hH8 hb8) | (go_at_call 21; (with_reducible refine (C9.out _).mono ?_); rintro e u9 ⟨rfl, hb9⟩; have hH9 := ‹_ ∧ _ ∧ _ ∧ _ ∧ _ ∧ _ ∧ _ ∧ _ ∧ _ ∧ _ ∧ _›; have e900 := (hb9.cell (p := ⟨w.heap.size, 0, none⟩) hH9.2.2.2.2.1).trans hH9.1; have e901 := (hb9.cell (p := ⟨w.heap.size, 1, none⟩) hH9.2.2.2.2.1).trans hH9.2.1; have e902 := (hb9.cell (p := ⟨w.heap.size, 2, none⟩) hH9.2.2.2.2.1).trans hH9.2.2.1; have e903 := (hb9.cell (p := ⟨w.heap.size, 3, none⟩) hH9.2.2.2.2.1).trans hH9.2.2.2.1; have el90 := Nat.lt_of_lt_of_le hH9.2.2.2.2.1 hb9.size; have e910 := (hb9.cell (p := ⟨w6.heap.size, 0, none⟩) hH9.2.2.2.2.2.2.2.2.2.1).trans hH9.2.2.2.2.2.1; have e911 := (hb9.cell (p := ⟨w6.heap.size, 1, none⟩) hH9.2.2.2.2.2.2.2.2.2.1).trans hH9.2.2.2.2.2.2.1; have e912 := (hb9.cell (p := ⟨w6.heap.size, 2, none⟩) hH9.2.2.2.2.2.2.2.2.2.1).trans hH9.2.2.2.2.2.2.2.1; have e913 := (hb9.cell (p := ⟨w6.heap.size, 3, none⟩) hH9.2.2.2.2.2.2.2.2.2.1).trans hH9.2.2.2.2.2.2.2.2.1; have el91 := Nat.lt_of_lt_of_le hH9.2.2.2.2.2.2.2.2.2.1 hb9.size; have hn9 := hH9.2.2.2.2.2.2.2.2.2.2.trans (hb9.mono hH9.2.2.2.2.2.2.2.2.2.2.size); clear hH9 hb9))
  go_wp2
  go_ret
  exact ⟨rfl, M7.out.trans (hn9.mono M7.out.size)⟩

theorem thunkMerged_own : ownKnob Try.prog.godebug = none := by kernel_rfl
set_option maxRecDepth 100000 in
theorem thunkMerged_lifted (os : Os) (started : os.Started) (H : Type) (enc : TypeId × Value → H) :
    ReturnsInHanded {} Try.checked os 8 .any (Rows.thunkMergedSpec.pre6 enc Try.prog Try.f8 Rows.thunkMergedRow.domain false) (Rows.thunkMergedSpec.post enc Try.prog Try.f8 false true false false) := by
  refine returnsInHanded_of_change (C := Try.checked) thunkMerged_own started (by kernel_rfl) Try.func8
    (ChangeSpec.witness6 (enc := enc) (C := Try.checked) false ⟨#[], #[.agg #[.int .u32 0, .int .u32 0, .int .u32 0, .int .u32 0], .int .i64 0, .int .i64 0, .int .i64 0], []⟩ 8 (by kernel_rfl) (by kernel_rfl) (by kernel_rfl) (by kernel_rfl)) ?_
  intro W base args ds gs before hval0 hW hcnd _
  have hval : ∀ (j : Nat) t v, Try.f8.params[j]? = some t → args[j]? = some v → Value.okWide Try.prog W .any base t v := hval0
  have hW' := hW
  obtain ⟨p, q, hA0, hV, rfl, hfz, hnd⟩ := hW
  have hA : DataW.TrodAll enc Try.prog W 0 (fun _ => true) true Try.f8.params.toList args.toList ds p := hA0
  rw [Try.params8] at hA hval
  obtain ⟨v0, vs0, d0, ds0, p0, q0, hargs, rfl, rfl, h0, r0⟩ := trodAll_cons hA
  obtain ⟨v1, vs1, d1, ds1, p1, q1, rfl, rfl, rfl, h1, r1⟩ := trodAll_cons r0
  obtain ⟨v2, vs2, d2, ds2, p2, q2, rfl, rfl, rfl, h2, r2⟩ := trodAll_cons r1
  obtain ⟨v3, vs3, d3, ds3, p3, q3, rfl, rfl, rfl, h3, r3⟩ := trodAll_cons r2
  obtain ⟨rfl, rfl, rfl⟩ := trodAll_nil r3
  obtain rfl : args = #[v0, v1, v2, v3] := by cases args; simp_all
  obtain ⟨c00, c01, c02, c03, y00, y01, y02, y03, m0, rfl, rfl, rfl, z00, z01, z02, z03⟩ := Joins.open_agg4 Try.underlying34 (by kernel_rfl) (show Try.prog.cellsOf 34 = 4 by kernel_rfl) (hval 0 34 v0 rfl rfl) h0
  obtain ⟨a00, e00, rfl, w00⟩ := DataW.trod_int Try.underlying29 z00
  obtain rfl : c00 = .int .u32 a00 := by simpa using e00
  obtain ⟨a01, e01, rfl, w01⟩ := DataW.trod_int Try.underlying29 z01
  obtain rfl : c01 = .int .u32 a01 := by simpa using e01
  obtain ⟨a02, e02, rfl, w02⟩ := DataW.trod_int Try.underlying29 z02
  obtain rfl : c02 = .int .u32 a02 := by simpa using e02
  obtain ⟨a03, e03, rfl, w03⟩ := DataW.trod_int Try.underlying29 z03
  obtain rfl : c03 = .int .u32 a03 := by simpa using e03
  obtain ⟨a1, rfl, rfl, rfl, w1⟩ := open_int Try.underlying3 (hval 1 3 v1 rfl rfl) h1
  obtain ⟨a2, rfl, rfl, rfl, w2⟩ := open_int Try.underlying3 (hval 2 3 v2 rfl rfl) h2
  obtain ⟨a3, rfl, rfl, rfl, w3⟩ := open_int Try.underlying3 (hval 3 3 v3 rfl rfl) h3
  exact (thunkMerged_c a00 a01 a02 a03 a1 a2 a3 (wf_u32 w00) (wf_u32 w01) (wf_u32 w02) (wf_u32 w03) W).mono fun e W' ⟨he, hg⟩ =>
    ⟨_, he, law_post (tb := 4) (by kernel_rfl) (by decide +kernel) rfl Try.underlying4 rfl hW' rfl hg⟩
theorem thunkMerged_holds : Rows.ThunkMergedSaid :=
  OpenClaim.holds_of_wide 8 Try.f8 rfl rfl rfl rfl rfl rfl rfl ⟨rfl, rfl, rfl, rfl, rfl⟩ rfl rfl rfl rfl rfl (by kernel_rfl) Try.func8 (by kernel_rfl)
    (of_decide_eq_true (by kernel_rfl)) (by unfold Func.isWrapper; first | (rw [if_pos (by decide +kernel)]; kernel_rfl) | (rw [if_neg (by decide +kernel)]; exact ⟨rfl, rfl⟩))
    (fun os started H enc _ => thunkMerged_lifted os started H enc)
#print axioms thunkMerged_holds
end Go.Proofs.Ytmkjgkldbonpnaa
