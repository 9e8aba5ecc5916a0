/- ThunkSame holds: the normal form of a thunk has the same flags, and is its own normal form. No condition. -/
import Derived.Test.YtmkjgkldbonpnaaKitLaw
import Derived.Test.YtmkjgkldbonpnaaWSane2
import Derived.Test.YtmkjgkldbonpnaaPlainNorm
namespace Go.Proofs.Ytmkjgkldbonpnaa
open Go Go.RowKit Go.Cd Go.ChangeShapes Go.WideShapes Go.ChangeAt
set_option linter.unusedVariables false
attribute [local go_sem ↓] Go.wp_at_zero Go.wp_at_succ eql_four neq_four
set_option maxRecDepth 100000 in
set_option maxHeartbeats 4000000 in
theorem thunkSame_c (a0 a1 a2 a3 : Int) (h0 : 0 ≤ a0 ∧ a0 < 4294967296) (h1 : 0 ≤ a1 ∧ a1 < 4294967296) (h2 : 0 ≤ a2 ∧ a2 < 4294967296) (h3 : 0 ≤ a3 ∧ a3 < 4294967296) (w : World) :
    Calls Try.prog 5 #[.agg #[.int .u32 a0, .int .u32 a1, .int .u32 a2, .int .u32 a3]] w fun e w' => e = .returned (.bool true) ∧ New w w' := by
  obtain ⟨t, ht⟩ : ∃ t : Four, normF a0 a1 a2 a3 = t := ⟨_, rfl⟩
  have hbd := normF_bd a0 a1 a2 a3 h0 h1 h2 h3
  have hfl := normF_flags a0 a1 a2 a3 h0 h1 h2 h3
  have hnn := normF_norm a0 a1 a2 a3 h0
  rw [ht] at hbd hfl hnn
  obtain ⟨n0, n1, n2, n3⟩ := t
  unfold flagsT at hfl
  unfold normT at hnn
  unfold Bd at hbd
  dsimp only at hbd hfl hnn
  obtain ⟨g0, g1, g2, g3⟩ := hbd
  have c5 : ∀ w : World, Calls Try.prog 18 #[.agg #[.int .u32 n0, .int .u32 n1, .int .u32 n2, .int .u32 n3]] w fun e w' => e = .returned (.int .i64 (flagsF a0 a1 a2 a3)) ∧ New w w' := fun w => by
    have h := tof_c n0 n1 n2 n3 w g0.1 g0.2 g1.1 g1.2 g2.1 g2.2 g3.1 g3.2
    rw [hfl] at h
    exact h
  have C5 := Lib.hid c5
  clear c5
  have c6 : ∀ w : World, Calls Try.prog 18 #[.agg #[.int .u32 a0, .int .u32 a1, .int .u32 a2, .int .u32 a3]] w fun e w' => e = .returned (.int .i64 (flagsF a0 a1 a2 a3)) ∧ New w w' := fun w => by
    have h := tof_c a0 a1 a2 a3 w h0.1 h0.2 h1.1 h1.2 h2.1 h2.2 h3.1 h3.2
    exact h
  have C6 := Lib.hid c6
  clear c6
  have c7 : ∀ w : World, Calls Try.prog 17 #[.agg #[.int .u32 n0, .int .u32 n1, .int .u32 n2, .int .u32 n3]] w fun e w' => e = .returned (.agg #[.int .u32 n0, .int .u32 n1, .int .u32 n2, .int .u32 n3]) ∧ New w w' := fun w => by
    have h := lnormal_c n0 n1 n2 n3 w g1.1 g1.2 g2.1 g2.2 g3.1 g3.2
    rw [hnn] at h
    exact h
  have C7 := Lib.hid c7
  clear c7
  have c2 : ∀ w : World, Calls Try.prog 17 #[.agg #[.int .u32 a0, .int .u32 a1, .int .u32 a2, .int .u32 a3]] w fun e w' => e = .returned (.agg #[.int .u32 n0, .int .u32 n1, .int .u32 n2, .int .u32 n3]) ∧ New w w' := fun w => by
    have h := lnormal_c a0 a1 a2 a3 w h1.1 h1.2 h2.1 h2.2 h3.1 h3.2
    rw [ht] at h
    exact h
  have C2 := Lib.hid c2
  clear c2
  clear hfl hnn ht
  go_enter Try.func5, Try.ntmps5
  have T0 := Lib.hid (heap_alloc_at w (.cells #[.int .u32 a0, .int .u32 a1, .int .u32 a2, .int .u32 a3] 34) _ rfl)
  have N0 := Lib.hid ((New.refl w).alloc (Nat.le_refl _) (.cells #[.int .u32 a0, .int .u32 a1, .int .u32 a2, .int .u32 a3] 34))
  go_wp2_with fail
  refine (sane_c _).mono ?_
  rintro e w1 ⟨rfl, hb1⟩
  have T1 := Lib.hid (keep hb1 T0.out)
  have N1 := Lib.hid (N0.out.trans (hb1.mono N0.out.size))
  obtain ⟨c10, c11, c12, c13, cs1⟩ := four_cells T1.out
  clear hb1
  go_wp2_with fail
  refine (C2.out _).mono ?_
  rintro e w2 ⟨rfl, hb2⟩
  have T2 := Lib.hid (keep hb2 T1.out)
  have N2 := Lib.hid (N1.out.trans (hb2.mono N1.out.size))
  clear c10 c11 c12 c13 cs1
  obtain ⟨c20, c21, c22, c23, cs2⟩ := four_cells T2.out
  clear hb2
  have TN := Lib.hid (heap_alloc_at w2 (.cells #[.int .u32 n0, .int .u32 n1, .int .u32 n2, .int .u32 n3] 34) _ rfl)
  have T3 := Lib.hid (heap_keep (o := (.cells #[.int .u32 n0, .int .u32 n1, .int .u32 n2, .int .u32 n3] 34)) T2.out)
  have N3 := Lib.hid (N2.out.alloc N2.out.size (.cells #[.int .u32 n0, .int .u32 n1, .int .u32 n2, .int .u32 n3] 34))
  go_wp2_with fail
  have hz2 : w2.heap.size < (w2.alloc (.cells #[.int .u32 n0, .int .u32 n1, .int .u32 n2, .int .u32 n3] 34)).heap.size := lt_of_heap TN.out
  generalize w2.alloc (.cells #[.int .u32 n0, .int .u32 n1, .int .u32 n2, .int .u32 n3] 34) = wB at *
  clear c20 c21 c22 c23
  obtain ⟨c30, c31, c32, c33, cs3⟩ := four_cells T3.out
  obtain ⟨c40, c41, c42, c43, cs4⟩ := four_cells TN.out
  go_region_held3 (fun w' => w'.cell? ⟨w.heap.size, 0, none⟩ = some (.int .u32 a0) ∧ w'.cell? ⟨w.heap.size, 1, none⟩ = some (.int .u32 a1) ∧ w'.cell? ⟨w.heap.size, 2, none⟩ = some (.int .u32 a2) ∧ w'.cell? ⟨w.heap.size, 3, none⟩ = some (.int .u32 a3) ∧ w.heap.size < w'.heap.size ∧ w'.cell? ⟨w2.heap.size, 0, none⟩ = some (.int .u32 n0) ∧ w'.cell? ⟨w2.heap.size, 1, none⟩ = some (.int .u32 n1) ∧ w'.cell? ⟨w2.heap.size, 2, none⟩ = some (.int .u32 n2) ∧ w'.cell? ⟨w2.heap.size, 3, none⟩ = some (.int .u32 n3) ∧ w2.heap.size < w'.heap.size ∧ New wB w') (((try dsimp only); (repeat' apply And.intro) <;> (first | assumption | go_keep | omega | go_grown)))
    (first | (go_at_call 18; (with_reducible refine (C5.out _).mono ?_); rintro e u5 ⟨rfl, hb5⟩; have hH5 := ‹_ ∧ _ ∧ _ ∧ _ ∧ _ ∧ _ ∧ _ ∧ _ ∧ _ ∧ _ ∧ _›; have e500 := (hb5.cell (p := ⟨w.heap.size, 0, none⟩) hH5.2.2.2.2.1).trans hH5.1; have e501 := (hb5.cell (p := ⟨w.heap.size, 1, none⟩) hH5.2.2.2.2.1).trans hH5.2.1; have e502 := (hb5.cell (p := ⟨w.heap.size, 2, none⟩) hH5.2.2.2.2.1).trans hH5.2.2.1; have e503 := (hb5.cell (p := ⟨w.heap.size, 3, none⟩) hH5.2.2.2.2.1).trans hH5.2.2.2.1; have el50 := Nat.lt_of_lt_of_le hH5.2.2.2.2.1 hb5.size; have e510 := (hb5.cell (p := ⟨w2.heap.size, 0, none⟩) hH5.2.2.2.2.2.2.2.2.2.1).trans hH5.2.2.2.2.2.1; have e511 := (hb5.cell (p := ⟨w2.heap.size, 1, none⟩) hH5.2.2.2.2.2.2.2.2.2.1).trans hH5.2.2.2.2.2.2.1; have e512 := (hb5.cell (p := ⟨w2.heap.size, 2, none⟩) hH5.2.2.2.2.2.2.2.2.2.1).trans hH5.2.2.2.2.2.2.2.1; have e513 := (hb5.cell (p := ⟨w2.heap.size, 3, none⟩) hH5.2.2.2.2.2.2.2.2.2.1).trans hH5.2.2.2.2.2.2.2.2.1; have el51 := Nat.lt_of_lt_of_le hH5.2.2.2.2.2.2.2.2.2.1 hb5.size; have hn5 := hH5.2.2.2.2.2.2.2.2.2.2.trans (hb5.mono hH5.2.2.2.2.2.2.2.2.2.2.size); clear hH5 hb5) | (go_at_call 18; (with_reducible refine (C6.out _).mono ?_); rintro e u6 ⟨rfl, hb6⟩; have hH6 := ‹_ ∧ _ ∧ _ ∧ _ ∧ _ ∧ _ ∧ _ ∧ _ ∧ _ ∧ _ ∧ _›; have e600 := (hb6.cell (p := ⟨w.heap.size, 0, none⟩) hH6.2.2.2.2.1).trans hH6.1; have e601 := (hb6.cell (p := ⟨w.heap.size, 1, none⟩) hH6.2.2.2.2.1).trans hH6.2.1; have e602 := (hb6.cell (p := ⟨w.heap.size, 2, none⟩) hH6.2.2.2.2.1).trans hH6.2.2.1; have e603 := (hb6.cell (p := ⟨w.heap.size, 3, none⟩) hH6.2.2.2.2.1).trans hH6.2.2.2.1; have el60 := Nat.lt_of_lt_of_le hH6.2.2.2.2.1 hb6.size; have e610 := (hb6.cell (p := ⟨w2.heap.size, 0, none⟩) hH6.2.2.2.2.2.2.2.2.2.1).trans hH6.2.2.2.2.2.1; have e611 := (hb6.cell (p := ⟨w2.heap.size, 1, none⟩) hH6.2.2.2.2.2.2.2.2.2.1).trans hH6.2.2.2.2.2.2.1; have e612 := (hb6.cell (p := ⟨w2.heap.size, 2, none⟩) hH6.2.2.2.2.2.2.2.2.2.1).trans hH6.2.2.2.2.2.2.2.1; have e613 := (hb6.cell (p := ⟨w2.heap.size, 3, none⟩) hH6.2.2.2.2.2.2.2.2.2.1).trans hH6.2.2.2.2.2.2.2.2.1; have el61 := Nat.lt_of_lt_of_le hH6.2.2.2.2.2.2.2.2.2.1 hb6.size; have hn6 := hH6.2.2.2.2.2.2.2.2.2.2.trans (hb6.mono hH6.2.2.2.2.2.2.2.2.2.2.size); clear hH6 hb6) | (go_at_call 17; (with_reducible refine (C7.out _).mono ?_); rintro e u7 ⟨rfl, hb7⟩; have hH7 := ‹_ ∧ _ ∧ _ ∧ _ ∧ _ ∧ _ ∧ _ ∧ _ ∧ _ ∧ _ ∧ _›; have e700 := (hb7.cell (p := ⟨w.heap.size, 0, none⟩) hH7.2.2.2.2.1).trans hH7.1; have e701 := (hb7.cell (p := ⟨w.heap.size, 1, none⟩) hH7.2.2.2.2.1).trans hH7.2.1; have e702 := (hb7.cell (p := ⟨w.heap.size, 2, none⟩) hH7.2.2.2.2.1).trans hH7.2.2.1; have e703 := (hb7.cell (p := ⟨w.heap.size, 3, none⟩) hH7.2.2.2.2.1).trans hH7.2.2.2.1; have el70 := Nat.lt_of_lt_of_le hH7.2.2.2.2.1 hb7.size; have e710 := (hb7.cell (p := ⟨w2.heap.size, 0, none⟩) hH7.2.2.2.2.2.2.2.2.2.1).trans hH7.2.2.2.2.2.1; have e711 := (hb7.cell (p := ⟨w2.heap.size, 1, none⟩) hH7.2.2.2.2.2.2.2.2.2.1).trans hH7.2.2.2.2.2.2.1; have e712 := (hb7.cell (p := ⟨w2.heap.size, 2, none⟩) hH7.2.2.2.2.2.2.2.2.2.1).trans hH7.2.2.2.2.2.2.2.1; have e713 := (hb7.cell (p := ⟨w2.heap.size, 3, none⟩) hH7.2.2.2.2.2.2.2.2.2.1).trans hH7.2.2.2.2.2.2.2.2.1; have el71 := Nat.lt_of_lt_of_le hH7.2.2.2.2.2.2.2.2.2.1 hb7.size; have hn7 := hH7.2.2.2.2.2.2.2.2.2.2.trans (hb7.mono hH7.2.2.2.2.2.2.2.2.2.2.size); clear hH7 hb7))
  all_goals go_wp2
  all_goals go_ret
  all_goals exact ⟨rfl, N3.out.trans (Below.mono ‹New wB _› N3.out.size)⟩

theorem thunkSame_own : ownKnob Try.prog.godebug = none := by kernel_rfl
set_option maxRecDepth 100000 in
theorem thunkSame_lifted (os : Os) (started : os.Started) (H : Type) (enc : TypeId × Value → H) :
    ReturnsInHanded {} Try.checked os 5 .any (Rows.thunkSameSpec.pre6 enc Try.prog Try.f5 Rows.thunkSameRow.domain false) (Rows.thunkSameSpec.post enc Try.prog Try.f5 false true false false) := by
  refine returnsInHanded_of_change (C := Try.checked) thunkSame_own started (by kernel_rfl) Try.func5
    (ChangeSpec.witness6 (enc := enc) (C := Try.checked) false ⟨#[], #[.agg #[.int .u32 0, .int .u32 0, .int .u32 0, .int .u32 0]], []⟩ 8 (by kernel_rfl) (by kernel_rfl) (by kernel_rfl) (by kernel_rfl)) ?_
  intro W base args ds gs before hval0 hW hcnd _
  have hval : ∀ (j : Nat) t v, Try.f5.params[j]? = some t → args[j]? = some v → Value.okWide Try.prog W .any base t v := hval0
  have hW' := hW
  obtain ⟨p, q, hA0, hV, rfl, hfz, hnd⟩ := hW
  have hA : DataW.TrodAll enc Try.prog W 0 (fun _ => true) true Try.f5.params.toList args.toList ds p := hA0
  rw [Try.params5] at hA hval
  obtain ⟨v0, vs0, d0, ds0, p0, q0, hargs, rfl, rfl, h0, r0⟩ := trodAll_cons hA
  obtain ⟨rfl, rfl, rfl⟩ := trodAll_nil r0
  obtain rfl : args = #[v0] := by cases args; simp_all
  obtain ⟨c00, c01, c02, c03, y00, y01, y02, y03, m0, rfl, rfl, rfl, z00, z01, z02, z03⟩ := Joins.open_agg4 Try.underlying34 (by kernel_rfl) (show Try.prog.cellsOf 34 = 4 by kernel_rfl) (hval 0 34 v0 rfl rfl) h0
  obtain ⟨a00, e00, rfl, w00⟩ := DataW.trod_int Try.underlying29 z00
  obtain rfl : c00 = .int .u32 a00 := by simpa using e00
  obtain ⟨a01, e01, rfl, w01⟩ := DataW.trod_int Try.underlying29 z01
  obtain rfl : c01 = .int .u32 a01 := by simpa using e01
  obtain ⟨a02, e02, rfl, w02⟩ := DataW.trod_int Try.underlying29 z02
  obtain rfl : c02 = .int .u32 a02 := by simpa using e02
  obtain ⟨a03, e03, rfl, w03⟩ := DataW.trod_int Try.underlying29 z03
  obtain rfl : c03 = .int .u32 a03 := by simpa using e03
  exact (thunkSame_c a00 a01 a02 a03 (wf_u32 w00) (wf_u32 w01) (wf_u32 w02) (wf_u32 w03) W).mono fun e W' ⟨he, hg⟩ =>
    ⟨_, he, law_post (tb := 4) (by kernel_rfl) (by decide +kernel) rfl Try.underlying4 rfl hW' rfl hg⟩
theorem thunkSame_holds : Rows.ThunkSameSaid :=
  OpenClaim.holds_of_wide 5 Try.f5 rfl rfl rfl rfl rfl rfl rfl ⟨rfl, rfl, rfl, rfl, rfl⟩ rfl rfl rfl rfl rfl (by kernel_rfl) Try.func5 (by kernel_rfl)
    (of_decide_eq_true (by kernel_rfl)) (by unfold Func.isWrapper; first | (rw [if_pos (by decide +kernel)]; kernel_rfl) | (rw [if_neg (by decide +kernel)]; exact ⟨rfl, rfl⟩))
    (fun os started H enc _ => thunkSame_lifted os started H enc)
#print axioms thunkSame_holds
end Go.Proofs.Ytmkjgkldbonpnaa
