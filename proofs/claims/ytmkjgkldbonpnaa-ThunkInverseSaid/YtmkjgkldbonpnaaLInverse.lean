/- ThunkInverse holds: of a condition and its inverse exactly one holds; a condition hangs on the flags that it uses alone; flags that are fixed are so. No condition. -/
import Derived.Test.YtmkjgkldbonpnaaKitLaw
import Derived.Test.YtmkjgkldbonpnaaWSane2
import Derived.Test.YtmkjgkldbonpnaaPlainInv
import Derived.Test.YtmkjgkldbonpnaaPlainMerge
namespace Go.Proofs.Ytmkjgkldbonpnaa
open Go Go.RowKit Go.Cd Go.ChangeShapes Go.WideShapes Go.ChangeAt
set_option linter.unusedVariables false
attribute [local go_sem ↓] Go.wp_at_zero Go.wp_at_succ eql_four neq_four
set_option maxRecDepth 100000 in
set_option maxHeartbeats 4000000 in
theorem thunkInverse_lo (cd a0 a1 a2 a3 fl fo : Int) (h0 : 0 ≤ a0 ∧ a0 < 4294967296) (h1 : 0 ≤ a1 ∧ a1 < 4294967296) (h2 : 0 ≤ a2 ∧ a2 < 4294967296) (h3 : 0 ≤ a3 ∧ a3 < 4294967296) (hcd : cd < 0) (w : World) :
    Calls Try.prog 10 #[.int .i64 cd, .agg #[.int .u32 a0, .int .u32 a1, .int .u32 a2, .int .u32 a3], .int .i64 fl, .int .i64 fo] w fun e w' => e = .returned (.bool true) ∧ New w w' := by
  have i1 := (inv_out cd (by omega)).1
  have i2 := (inv_out cd (by omega)).2.1
  have i3 := (inv_out cd (by omega)).2.2 fl
  have cf : ∀ w : World, Calls Try.prog 23 #[.int .u32 a0] w fun e w' => e = .returned (.tuple #[.int .i64 (fixedF a0), .int .i64 0]) ∧ w = w' := fun w => by
    have h := fixed_c a0 w
    exact h
  have Cf := Lib.hid cf
  clear cf
  have co : ∀ w : World, Calls Try.prog 18 #[.agg #[.int .u32 a0, .int .u32 a1, .int .u32 a2, .int .u32 a3]] w fun e w' => e = .returned (.int .i64 (flagsF a0 a1 a2 a3)) ∧ New w w' := fun w => by
    have h := tof_c a0 a1 a2 a3 w h0.1 h0.2 h1.1 h1.2 h2.1 h2.2 h3.1 h3.2
    exact h
  have Co := Lib.hid co
  clear co
  have ci : ∀ w : World, Calls Try.prog 29 #[.int .i64 cd] w fun e w' => e = .returned (.int .i64 (-1)) ∧ w = w' := fun w => by
    have h := inverse_c cd w
    rw [i1] at h
    exact h
  have Ci := Lib.hid ci
  clear ci
  have ch : ∀ w : World, Calls Try.prog 26 #[.int .i64 cd, .int .i64 fl] w fun e w' => e = .returned (.bool false) ∧ New w w' := fun w => by
    have h := tholds_c cd fl w
    rw [i3] at h
    exact h
  have Ch := Lib.hid ch
  clear ch
  have cu : ∀ w : World, Calls Try.prog 31 #[.int .i64 cd] w fun e w' => e = .returned (.int .i64 0) ∧ New w w' := fun w => by
    have h := uses_c cd w
    rw [i2] at h
    exact h
  have Cu := Lib.hid cu
  clear cu
  clear i1 i2 i3
  have k1 : (bits .and .i64 (flagsF a0 a1 a2 a3) (fixedF a0) != 0) = false := by rw [fixed_and a0 a1 a2 a3 h0.1]; rfl
  have k2 : (bits .andNot .i64 0 (fixedF a0) != 0) = false := by rw [zero_andNot]; rfl
  go_enter Try.func10, Try.ntmps10
  have T0 := Lib.hid (heap_alloc_at w (.cells #[.int .u32 a0, .int .u32 a1, .int .u32 a2, .int .u32 a3] 34) _ rfl)
  have N0 := Lib.hid ((New.refl w).alloc (Nat.le_refl _) (.cells #[.int .u32 a0, .int .u32 a1, .int .u32 a2, .int .u32 a3] 34))
  go_wp2_with fail
  refine (sane_c _).mono ?_
  rintro e w1 ⟨rfl, hb1⟩
  have T1 := Lib.hid (keep hb1 T0.out)
  have N1 := Lib.hid (N0.out.trans (hb1.mono N0.out.size))
  obtain ⟨c10, c11, c12, c13, cs1⟩ := four_cells T1.out
  clear hb1
  go_wp2_with (go_at_call 23; (with_reducible refine (Cf.out _).mono ?_); rintro e wx ⟨rfl, rfl⟩)
  refine (Co.out _).mono ?_
  rintro e w2 ⟨rfl, hb2⟩
  have T2 := Lib.hid (keep hb2 T1.out)
  have N2 := Lib.hid (N1.out.trans (hb2.mono N1.out.size))
  clear c10 c11 c12 c13 cs1
  obtain ⟨c20, c21, c22, c23, cs2⟩ := four_cells T2.out
  clear hb2
  go_wp2_with (go_at_call 29; (with_reducible refine (Ci.out _).mono ?_); rintro e wx ⟨rfl, rfl⟩)
  refine (Ch.out _).mono ?_
  rintro e w3 ⟨rfl, hb3⟩
  have N3 := Lib.hid (N2.out.trans (hb3.mono N2.out.size))
  clear hb3
  go_wp2_with fail
  refine (Cu.out _).mono ?_
  rintro e w4 ⟨rfl, hb4⟩
  have N4 := Lib.hid (N3.out.trans (hb4.mono N3.out.size))
  clear hb4
  go_wp2
  go_ret
  exact ⟨rfl, N4.out⟩
set_option maxRecDepth 100000 in
set_option maxHeartbeats 4000000 in
theorem thunkInverse_hi (cd a0 a1 a2 a3 fl fo : Int) (h0 : 0 ≤ a0 ∧ a0 < 4294967296) (h1 : 0 ≤ a1 ∧ a1 < 4294967296) (h2 : 0 ≤ a2 ∧ a2 < 4294967296) (h3 : 0 ≤ a3 ∧ a3 < 4294967296) (hcd : 15 < cd) (w : World) :
    Calls Try.prog 10 #[.int .i64 cd, .agg #[.int .u32 a0, .int .u32 a1, .int .u32 a2, .int .u32 a3], .int .i64 fl, .int .i64 fo] w fun e w' => e = .returned (.bool true) ∧ New w w' := by
  have i1 := (inv_out cd (by omega)).1
  have i2 := (inv_out cd (by omega)).2.1
  have i3 := (inv_out cd (by omega)).2.2 fl
  have cf : ∀ w : World, Calls Try.prog 23 #[.int .u32 a0] w fun e w' => e = .returned (.tuple #[.int .i64 (fixedF a0), .int .i64 0]) ∧ w = w' := fun w => by
    have h := fixed_c a0 w
    exact h
  have Cf := Lib.hid cf
  clear cf
  have co : ∀ w : World, Calls Try.prog 18 #[.agg #[.int .u32 a0, .int .u32 a1, .int .u32 a2, .int .u32 a3]] w fun e w' => e = .returned (.int .i64 (flagsF a0 a1 a2 a3)) ∧ New w w' := fun w => by
    have h := tof_c a0 a1 a2 a3 w h0.1 h0.2 h1.1 h1.2 h2.1 h2.2 h3.1 h3.2
    exact h
  have Co := Lib.hid co
  clear co
  have ci : ∀ w : World, Calls Try.prog 29 #[.int .i64 cd] w fun e w' => e = .returned (.int .i64 (-1)) ∧ w = w' := fun w => by
    have h := inverse_c cd w
    rw [i1] at h
    exact h
  have Ci := Lib.hid ci
  clear ci
  have ch : ∀ w : World, Calls Try.prog 26 #[.int .i64 cd, .int .i64 fl] w fun e w' => e = .returned (.bool false) ∧ New w w' := fun w => by
    have h := tholds_c cd fl w
    rw [i3] at h
    exact h
  have Ch := Lib.hid ch
  clear ch
  have cu : ∀ w : World, Calls Try.prog 31 #[.int .i64 cd] w fun e w' => e = .returned (.int .i64 0) ∧ New w w' := fun w => by
    have h := uses_c cd w
    rw [i2] at h
    exact h
  have Cu := Lib.hid cu
  clear cu
  clear i1 i2 i3
  have k1 : (bits .and .i64 (flagsF a0 a1 a2 a3) (fixedF a0) != 0) = false := by rw [fixed_and a0 a1 a2 a3 h0.1]; rfl
  have k2 : (bits .andNot .i64 0 (fixedF a0) != 0) = false := by rw [zero_andNot]; rfl
  go_enter Try.func10, Try.ntmps10
  have T0 := Lib.hid (heap_alloc_at w (.cells #[.int .u32 a0, .int .u32 a1, .int .u32 a2, .int .u32 a3] 34) _ rfl)
  have N0 := Lib.hid ((New.refl w).alloc (Nat.le_refl _) (.cells #[.int .u32 a0, .int .u32 a1, .int .u32 a2, .int .u32 a3] 34))
  go_wp2_with fail
  refine (sane_c _).mono ?_
  rintro e w1 ⟨rfl, hb1⟩
  have T1 := Lib.hid (keep hb1 T0.out)
  have N1 := Lib.hid (N0.out.trans (hb1.mono N0.out.size))
  obtain ⟨c10, c11, c12, c13, cs1⟩ := four_cells T1.out
  clear hb1
  go_wp2_with (go_at_call 23; (with_reducible refine (Cf.out _).mono ?_); rintro e wx ⟨rfl, rfl⟩)
  refine (Co.out _).mono ?_
  rintro e w2 ⟨rfl, hb2⟩
  have T2 := Lib.hid (keep hb2 T1.out)
  have N2 := Lib.hid (N1.out.trans (hb2.mono N1.out.size))
  clear c10 c11 c12 c13 cs1
  obtain ⟨c20, c21, c22, c23, cs2⟩ := four_cells T2.out
  clear hb2
  go_wp2_with (go_at_call 29; (with_reducible refine (Ci.out _).mono ?_); rintro e wx ⟨rfl, rfl⟩)
  refine (Ch.out _).mono ?_
  rintro e w3 ⟨rfl, hb3⟩
  have N3 := Lib.hid (N2.out.trans (hb3.mono N2.out.size))
  clear hb3
  go_wp2_with fail
  refine (Cu.out _).mono ?_
  rintro e w4 ⟨rfl, hb4⟩
  have N4 := Lib.hid (N3.out.trans (hb4.mono N3.out.size))
  clear hb4
  go_wp2
  go_ret
  exact ⟨rfl, N4.out⟩
set_option maxRecDepth 100000 in
set_option maxHeartbeats 4000000 in
theorem thunkInverse_in (cd a0 a1 a2 a3 fl fo : Int) (h0 : 0 ≤ a0 ∧ a0 < 4294967296) (h1 : 0 ≤ a1 ∧ a1 < 4294967296) (h2 : 0 ≤ a2 ∧ a2 < 4294967296) (h3 : 0 ≤ a3 ∧ a3 < 4294967296) (hcd : 0 ≤ cd ∧ cd ≤ 15) (w : World) :
    Calls Try.prog 10 #[.int .i64 cd, .agg #[.int .u32 a0, .int .u32 a1, .int .u32 a2, .int .u32 a3], .int .i64 fl, .int .i64 fo] w fun e w' => e = .returned (.bool true) ∧ New w w' := by
  obtain ⟨g0, g1, g2, g3, _, _⟩ := inv_in cd hcd.1 hcd.2
  have g4 := cond_inv cd a0 a1 a2 a3 hcd.1 hcd.2
  have g5 := holds_uses cd fl fo hcd.1 hcd.2
  obtain ⟨i, hi⟩ : ∃ i, invF cd = i := ⟨_, rfl⟩
  obtain ⟨u, hu⟩ : ∃ u, usesF cd = u := ⟨_, rfl⟩
  obtain ⟨b, hb⟩ : ∃ b, condF cd a0 a1 a2 a3 = b := ⟨_, rfl⟩
  obtain ⟨o, ho⟩ : ∃ o, holdsF cd fl = o := ⟨_, rfl⟩
  rw [hi] at g0 g1 g2 g3 g4
  rw [hu] at g3 g5
  rw [hb] at g4
  rw [ho] at g5
  have cf : ∀ w : World, Calls Try.prog 23 #[.int .u32 a0] w fun e w' => e = .returned (.tuple #[.int .i64 (fixedF a0), .int .i64 0]) ∧ w = w' := fun w => by
    have h := fixed_c a0 w
    exact h
  have Cf := Lib.hid cf
  clear cf
  have co : ∀ w : World, Calls Try.prog 18 #[.agg #[.int .u32 a0, .int .u32 a1, .int .u32 a2, .int .u32 a3]] w fun e w' => e = .returned (.int .i64 (flagsF a0 a1 a2 a3)) ∧ New w w' := fun w => by
    have h := tof_c a0 a1 a2 a3 w h0.1 h0.2 h1.1 h1.2 h2.1 h2.2 h3.1 h3.2
    exact h
  have Co := Lib.hid co
  clear co
  have ci : ∀ w : World, Calls Try.prog 29 #[.int .i64 cd] w fun e w' => e = .returned (.int .i64 i) ∧ w = w' := fun w => by
    have h := inverse_c cd w
    rw [hi] at h
    exact h
  have Ci := Lib.hid ci
  clear ci
  have cj : ∀ w : World, Calls Try.prog 29 #[.int .i64 i] w fun e w' => e = .returned (.int .i64 cd) ∧ w = w' := fun w => by
    have h := inverse_c i w
    rw [g2] at h
    exact h
  have Cj := Lib.hid cj
  clear cj
  have cu : ∀ w : World, Calls Try.prog 31 #[.int .i64 cd] w fun e w' => e = .returned (.int .i64 u) ∧ New w w' := fun w => by
    have h := uses_c cd w
    rw [hu] at h
    exact h
  have Cu := Lib.hid cu
  clear cu
  have cv : ∀ w : World, Calls Try.prog 31 #[.int .i64 i] w fun e w' => e = .returned (.int .i64 u) ∧ New w w' := fun w => by
    have h := uses_c i w
    rw [g3] at h
    exact h
  have Cv := Lib.hid cv
  clear cv
  have c7 : ∀ w : World, Calls Try.prog 16 #[.int .i64 cd, .int .u32 a0, .int .u32 a1, .int .u32 a2, .int .u32 a3] w fun e w' => e = .returned (.bool b) ∧ New w w' := fun w => by
    have h := cond_c cd a0 a1 a2 a3 w h0.1 h0.2 h1.1 h1.2 h2.1 h2.2 h3.1 h3.2
    rw [hb] at h
    exact h
  have C7 := Lib.hid c7
  clear c7
  have c8 : ∀ w : World, Calls Try.prog 16 #[.int .i64 i, .int .u32 a0, .int .u32 a1, .int .u32 a2, .int .u32 a3] w fun e w' => e = .returned (.bool (!b)) ∧ New w w' := fun w => by
    have h := cond_c i a0 a1 a2 a3 w h0.1 h0.2 h1.1 h1.2 h2.1 h2.2 h3.1 h3.2
    rw [g4] at h
    exact h
  have C8 := Lib.hid c8
  clear c8
  have ch : ∀ w : World, Calls Try.prog 26 #[.int .i64 cd, .int .i64 fl] w fun e w' => e = .returned (.bool o) ∧ New w w' := fun w => by
    have h := tholds_c cd fl w
    rw [ho] at h
    exact h
  have Ch := Lib.hid ch
  clear ch
  have cq : ∀ w : World, Calls Try.prog 26 #[.int .i64 cd, .int .i64 (bits .or .i64 (bits .and .i64 fl u) (bits .andNot .i64 fo u))] w fun e w' => e = .returned (.bool o) ∧ New w w' := fun w => by
    have h := tholds_c cd (bits .or .i64 (bits .and .i64 fl u) (bits .andNot .i64 fo u)) w
    rw [← g5] at h
    exact h
  have Cq := Lib.hid cq
  clear cq
  have hcd1 := hcd.1
  have hcd2 := hcd.2
  have g6 : (i < 0) = False := by simp; omega
  clear hcd g2 g3 g4 g5 g6 hi hu hb ho
  have k1 : (bits .and .i64 (flagsF a0 a1 a2 a3) (fixedF a0) != 0) = false := by rw [fixed_and a0 a1 a2 a3 h0.1]; rfl
  have k2 : (bits .andNot .i64 0 (fixedF a0) != 0) = false := by rw [zero_andNot]; rfl
  go_enter Try.func10, Try.ntmps10
  have T0 := Lib.hid (heap_alloc_at w (.cells #[.int .u32 a0, .int .u32 a1, .int .u32 a2, .int .u32 a3] 34) _ rfl)
  have N0 := Lib.hid ((New.refl w).alloc (Nat.le_refl _) (.cells #[.int .u32 a0, .int .u32 a1, .int .u32 a2, .int .u32 a3] 34))
  go_wp2_with fail
  refine (sane_c _).mono ?_
  rintro e w1 ⟨rfl, hb1⟩
  have T1 := Lib.hid (keep hb1 T0.out)
  have N1 := Lib.hid (N0.out.trans (hb1.mono N0.out.size))
  obtain ⟨c10, c11, c12, c13, cs1⟩ := four_cells T1.out
  clear hb1
  go_wp2_with (go_at_call 23; (with_reducible refine (Cf.out _).mono ?_); rintro e wx ⟨rfl, rfl⟩)
  refine (Co.out _).mono ?_
  rintro e w2 ⟨rfl, hb2⟩
  have T2 := Lib.hid (keep hb2 T1.out)
  have N2 := Lib.hid (N1.out.trans (hb2.mono N1.out.size))
  clear c10 c11 c12 c13 cs1
  obtain ⟨c20, c21, c22, c23, cs2⟩ := four_cells T2.out
  clear hb2
  go_wp2_with (go_at_call 29; (with_reducible refine (Ci.out _).mono ?_); rintro e wx ⟨rfl, rfl⟩)
  refine (Cu.out _).mono ?_
  rintro e w3 ⟨rfl, hb3⟩
  have T3 := Lib.hid (keep hb3 T2.out)
  have N3 := Lib.hid (N2.out.trans (hb3.mono N2.out.size))
  clear hb3 c20 c21 c22 c23 cs2
  go_wp2_with (go_at_call 29; (with_reducible refine (Cj.out _).mono ?_); rintro e wx ⟨rfl, rfl⟩)
  refine (Cv.out _).mono ?_
  rintro e w4 ⟨rfl, hb4⟩
  have T4 := Lib.hid (keep hb4 T3.out)
  have N4 := Lib.hid (N3.out.trans (hb4.mono N3.out.size))
  obtain ⟨c40, c41, c42, c43, cs4⟩ := four_cells T4.out
  clear hb4
  go_wp2_with fail
  go_region_held3 (fun w' => w'.cell? ⟨w.heap.size, 0, none⟩ = some (.int .u32 a0) ∧ w'.cell? ⟨w.heap.size, 1, none⟩ = some (.int .u32 a1) ∧ w'.cell? ⟨w.heap.size, 2, none⟩ = some (.int .u32 a2) ∧ w'.cell? ⟨w.heap.size, 3, none⟩ = some (.int .u32 a3) ∧ w.heap.size < w'.heap.size ∧ New w4 w') (((try dsimp only); (repeat' apply And.intro) <;> (first | assumption | go_keep | omega | go_grown)))
    (first | (go_at_call 16; (with_reducible refine (C7.out _).mono ?_); rintro e u7 ⟨rfl, hb7⟩; have hH7 := ‹_ ∧ _ ∧ _ ∧ _ ∧ _ ∧ _›; have e700 := (hb7.cell (p := ⟨w.heap.size, 0, none⟩) hH7.2.2.2.2.1).trans hH7.1; have e701 := (hb7.cell (p := ⟨w.heap.size, 1, none⟩) hH7.2.2.2.2.1).trans hH7.2.1; have e702 := (hb7.cell (p := ⟨w.heap.size, 2, none⟩) hH7.2.2.2.2.1).trans hH7.2.2.1; have e703 := (hb7.cell (p := ⟨w.heap.size, 3, none⟩) hH7.2.2.2.2.1).trans hH7.2.2.2.1; have el70 := Nat.lt_of_lt_of_le hH7.2.2.2.2.1 hb7.size; have hn7 := hH7.2.2.2.2.2.trans (hb7.mono hH7.2.2.2.2.2.size); clear hH7 hb7) | (go_at_call 16; (with_reducible refine (C8.out _).mono ?_); rintro e u8 ⟨rfl, hb8⟩; have hH8 := ‹_ ∧ _ ∧ _ ∧ _ ∧ _ ∧ _›; have e800 := (hb8.cell (p := ⟨w.heap.size, 0, none⟩) hH8.2.2.2.2.1).trans hH8.1; have e801 := (hb8.cell (p := ⟨w.heap.size, 1, none⟩) hH8.2.2.2.2.1).trans hH8.2.1; have e802 := (hb8.cell (p := ⟨w.heap.size, 2, none⟩) hH8.2.2.2.2.1).trans hH8.2.2.1; have e803 := (hb8.cell (p := ⟨w.heap.size, 3, none⟩) hH8.2.2.2.2.1).trans hH8.2.2.2.1; have el80 := Nat.lt_of_lt_of_le hH8.2.2.2.2.1 hb8.size; have hn8 := hH8.2.2.2.2.2.trans (hb8.mono hH8.2.2.2.2.2.size); clear hH8 hb8))
  have N8 := Lib.hid (N4.out.trans (hn8.mono N4.out.size))
  clear e800 e801 e802 e803 el80 hn8 e700 e701 e702 e703 el70 hn7
  have bb : (b == !b) = false := by cases b <;> rfl
  go_wp2_with fail
  refine (Ch.out _).mono ?_
  rintro e w9 ⟨rfl, hb9⟩
  have N9 := Lib.hid (N8.out.trans (hb9.mono N8.out.size))
  clear hb9
  go_wp2_with fail
  refine (Cq.out _).mono ?_
  rintro e wa ⟨rfl, hba⟩
  have NA := Lib.hid (N9.out.trans (hba.mono N9.out.size))
  clear hba
  go_wp2
  go_ret
  exact ⟨rfl, NA.out⟩
theorem thunkInverse_c (cd a0 a1 a2 a3 fl fo : Int) (h0 : 0 ≤ a0 ∧ a0 < 4294967296) (h1 : 0 ≤ a1 ∧ a1 < 4294967296) (h2 : 0 ≤ a2 ∧ a2 < 4294967296) (h3 : 0 ≤ a3 ∧ a3 < 4294967296) (w : World) :
    Calls Try.prog 10 #[.int .i64 cd, .agg #[.int .u32 a0, .int .u32 a1, .int .u32 a2, .int .u32 a3], .int .i64 fl, .int .i64 fo] w fun e w' => e = .returned (.bool true) ∧ New w w' := by
  by_cases h : cd < 0
  · exact thunkInverse_lo cd a0 a1 a2 a3 fl fo h0 h1 h2 h3 h w
  · by_cases h' : 15 < cd
    · exact thunkInverse_hi cd a0 a1 a2 a3 fl fo h0 h1 h2 h3 h' w
    · exact thunkInverse_in cd a0 a1 a2 a3 fl fo h0 h1 h2 h3 ⟨by omega, by omega⟩ w

theorem thunkInverse_own : ownKnob Try.prog.godebug = none := by kernel_rfl
set_option maxRecDepth 100000 in
theorem thunkInverse_lifted (os : Os) (started : os.Started) (H : Type) (enc : TypeId × Value → H) :
    ReturnsInHanded {} Try.checked os 10 .any (Rows.thunkInverseSpec.pre6 enc Try.prog Try.f10 Rows.thunkInverseRow.domain false) (Rows.thunkInverseSpec.post enc Try.prog Try.f10 false true false false) := by
  refine returnsInHanded_of_change (C := Try.checked) thunkInverse_own started (by kernel_rfl) Try.func10
    (ChangeSpec.witness6 (enc := enc) (C := Try.checked) false ⟨#[], #[.int .i64 0, .agg #[.int .u32 0, .int .u32 0, .int .u32 0, .int .u32 0], .int .i64 0, .int .i64 0], []⟩ 8 (by kernel_rfl) (by kernel_rfl) (by kernel_rfl) (by kernel_rfl)) ?_
  intro W base args ds gs before hval0 hW hcnd _
  have hval : ∀ (j : Nat) t v, Try.f10.params[j]? = some t → args[j]? = some v → Value.okWide Try.prog W .any base t v := hval0
  have hW' := hW
  obtain ⟨p, q, hA0, hV, rfl, hfz, hnd⟩ := hW
  have hA : DataW.TrodAll enc Try.prog W 0 (fun _ => true) true Try.f10.params.toList args.toList ds p := hA0
  rw [Try.params10] at hA hval
  obtain ⟨v0, vs0, d0, ds0, p0, q0, hargs, rfl, rfl, h0, r0⟩ := trodAll_cons hA
  obtain ⟨v1, vs1, d1, ds1, p1, q1, rfl, rfl, rfl, h1, r1⟩ := trodAll_cons r0
  obtain ⟨v2, vs2, d2, ds2, p2, q2, rfl, rfl, rfl, h2, r2⟩ := trodAll_cons r1
  obtain ⟨v3, vs3, d3, ds3, p3, q3, rfl, rfl, rfl, h3, r3⟩ := trodAll_cons r2
  obtain ⟨rfl, rfl, rfl⟩ := trodAll_nil r3
  obtain rfl : args = #[v0, v1, v2, v3] := by cases args; simp_all
  obtain ⟨a0, rfl, rfl, rfl, w0⟩ := open_int Try.underlying3 (hval 0 3 v0 rfl rfl) h0
  obtain ⟨c10, c11, c12, c13, y10, y11, y12, y13, m1, rfl, rfl, rfl, z10, z11, z12, z13⟩ := Joins.open_agg4 Try.underlying34 (by kernel_rfl) (show Try.prog.cellsOf 34 = 4 by kernel_rfl) (hval 1 34 v1 rfl rfl) h1
  obtain ⟨a10, e10, rfl, w10⟩ := DataW.trod_int Try.underlying29 z10
  obtain rfl : c10 = .int .u32 a10 := by simpa using e10
  obtain ⟨a11, e11, rfl, w11⟩ := DataW.trod_int Try.underlying29 z11
  obtain rfl : c11 = .int .u32 a11 := by simpa using e11
  obtain ⟨a12, e12, rfl, w12⟩ := DataW.trod_int Try.underlying29 z12
  obtain rfl : c12 = .int .u32 a12 := by simpa using e12
  obtain ⟨a13, e13, rfl, w13⟩ := DataW.trod_int Try.underlying29 z13
  obtain rfl : c13 = .int .u32 a13 := by simpa using e13
  obtain ⟨a2, rfl, rfl, rfl, w2⟩ := open_int Try.underlying3 (hval 2 3 v2 rfl rfl) h2
  obtain ⟨a3, rfl, rfl, rfl, w3⟩ := open_int Try.underlying3 (hval 3 3 v3 rfl rfl) h3
  exact (thunkInverse_c a0 a10 a11 a12 a13 a2 a3 (wf_u32 w10) (wf_u32 w11) (wf_u32 w12) (wf_u32 w13) W).mono fun e W' ⟨he, hg⟩ =>
    ⟨_, he, law_post (tb := 4) (by kernel_rfl) (by decide +kernel) rfl Try.underlying4 rfl hW' rfl hg⟩
theorem thunkInverse_holds : Rows.ThunkInverseSaid :=
  OpenClaim.holds_of_wide 10 Try.f10 rfl rfl rfl rfl rfl rfl rfl ⟨rfl, rfl, rfl, rfl, rfl⟩ rfl rfl rfl rfl rfl (by kernel_rfl) Try.func10 (by kernel_rfl)
    (of_decide_eq_true (by kernel_rfl)) (by unfold Func.isWrapper; first | (rw [if_pos (by decide +kernel)]; kernel_rfl) | (rw [if_neg (by decide +kernel)]; exact ⟨rfl, rfl⟩))
    (fun os started H enc _ => thunkInverse_lifted os started H enc)
#print axioms thunkInverse_holds
end Go.Proofs.Ytmkjgkldbonpnaa
