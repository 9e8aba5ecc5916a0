/- ThunkNormals holds: for all thunks, masks and flags, Normal and Merge answer as the specification's do. No condition. -/
import Derived.Test.YtmkjgkldbonpnaaKitLaw
import Derived.Test.YtmkjgkldbonpnaaWSane2
import Derived.Test.YtmkjgkldbonpnaaWFourEq
import Derived.Test.YtmkjgkldbonpnaaWRefE
namespace Go.Proofs.Ytmkjgkldbonpnaa
open Go Go.RowKit Go.Cd Go.ChangeShapes Go.WideShapes Go.ChangeAt
set_option linter.unusedVariables false
attribute [local go_sem ↓] Go.wp_at_zero Go.wp_at_succ eql_four neq_four
set_option maxRecDepth 100000 in
set_option maxHeartbeats 4000000 in
theorem thunkNormals_c (a0 a1 a2 a3 mask fl : Int) (h0 : 0 ≤ a0 ∧ a0 < 4294967296) (h1 : 0 ≤ a1 ∧ a1 < 4294967296) (h2 : 0 ≤ a2 ∧ a2 < 4294967296) (h3 : 0 ≤ a3 ∧ a3 < 4294967296) (w : World) :
    Calls Try.prog 7 #[.agg #[.int .u32 a0, .int .u32 a1, .int .u32 a2, .int .u32 a3], .int .i64 mask, .int .i64 fl] w fun e w' => e = .returned (.bool true) ∧ New w w' := by
  obtain ⟨⟨n0, n1, n2, n3⟩, ht⟩ : ∃ t : Four, normF a0 a1 a2 a3 = t := ⟨_, rfl⟩
  obtain ⟨⟨m0, m1, m2, m3⟩, hm⟩ : ∃ t : Four, mergeF a0 a1 a2 a3 mask fl = t := ⟨_, rfl⟩
  have HT := Lib.hid ht
  have HM := Lib.hid hm
  clear ht hm
  go_enter Try.func7, Try.ntmps7
  have T0 := Lib.hid (heap_alloc_at w (.cells #[.int .u32 a0, .int .u32 a1, .int .u32 a2, .int .u32 a3] 34) _ rfl)
  have N0 := Lib.hid ((New.refl w).alloc (Nat.le_refl _) (.cells #[.int .u32 a0, .int .u32 a1, .int .u32 a2, .int .u32 a3] 34))
  go_wp2_with fail
  refine (sane_c _).mono ?_
  rintro e w1 ⟨rfl, hb1⟩
  have T1 := Lib.hid (keep hb1 T0.out)
  have N1 := Lib.hid (N0.out.trans (hb1.mono N0.out.size))
  obtain ⟨c10, c11, c12, c13, cs1⟩ := four_cells T1.out
  clear hb1
  go_wp2_with fail
  go_region_held3 (fun w' => w'.cell? ⟨w.heap.size, 0, none⟩ = some (.int .u32 a0) ∧ w'.cell? ⟨w.heap.size, 1, none⟩ = some (.int .u32 a1) ∧ w'.cell? ⟨w.heap.size, 2, none⟩ = some (.int .u32 a2) ∧ w'.cell? ⟨w.heap.size, 3, none⟩ = some (.int .u32 a3) ∧ w.heap.size < w'.heap.size ∧ New w1 w') (((try dsimp only); (repeat' apply And.intro) <;> (first | assumption | go_keep | omega | go_grown)))
    (first | (go_at_call 17; refine (lnormal_c a0 a1 a2 a3 _ h1.1 h1.2 h2.1 h2.2 h3.1 h3.2).mono ?_; rw [HT.out]; unfold four; dsimp only; rintro e u2 ⟨rfl, hb2⟩; have hH2 := ‹_ ∧ _ ∧ _ ∧ _ ∧ _ ∧ _›; have e200 := (hb2.cell (p := ⟨w.heap.size, 0, none⟩) hH2.2.2.2.2.1).trans hH2.1; have e201 := (hb2.cell (p := ⟨w.heap.size, 1, none⟩) hH2.2.2.2.2.1).trans hH2.2.1; have e202 := (hb2.cell (p := ⟨w.heap.size, 2, none⟩) hH2.2.2.2.2.1).trans hH2.2.2.1; have e203 := (hb2.cell (p := ⟨w.heap.size, 3, none⟩) hH2.2.2.2.2.1).trans hH2.2.2.2.1; have el20 := Nat.lt_of_lt_of_le hH2.2.2.2.2.1 hb2.size; have hn2 := hH2.2.2.2.2.2.trans (hb2.mono hH2.2.2.2.2.2.size); clear hH2 hb2) | (go_at_call 20; refine (rnormal_c a0 a1 a2 a3 _ h0.1 h0.2 h1.1 h1.2 h2.1 h2.2 h3.1 h3.2).mono ?_; rw [HT.out]; unfold four; dsimp only; rintro e u3 ⟨rfl, hb3⟩; have hH3 := ‹_ ∧ _ ∧ _ ∧ _ ∧ _ ∧ _›; have e300 := (hb3.cell (p := ⟨w.heap.size, 0, none⟩) hH3.2.2.2.2.1).trans hH3.1; have e301 := (hb3.cell (p := ⟨w.heap.size, 1, none⟩) hH3.2.2.2.2.1).trans hH3.2.1; have e302 := (hb3.cell (p := ⟨w.heap.size, 2, none⟩) hH3.2.2.2.2.1).trans hH3.2.2.1; have e303 := (hb3.cell (p := ⟨w.heap.size, 3, none⟩) hH3.2.2.2.2.1).trans hH3.2.2.2.1; have el30 := Nat.lt_of_lt_of_le hH3.2.2.2.2.1 hb3.size; have hn3 := hH3.2.2.2.2.2.trans (hb3.mono hH3.2.2.2.2.2.size); clear hH3 hb3) | (go_at_call 21; refine (lmerged_c a0 a1 a2 a3 mask fl _ h0.1 h0.2 h1.1 h1.2 h2.1 h2.2 h3.1 h3.2).mono ?_; rw [HM.out]; unfold four; dsimp only; rintro e u4 ⟨rfl, hb4⟩; have hH4 := ‹_ ∧ _ ∧ _ ∧ _ ∧ _ ∧ _›; have e400 := (hb4.cell (p := ⟨w.heap.size, 0, none⟩) hH4.2.2.2.2.1).trans hH4.1; have e401 := (hb4.cell (p := ⟨w.heap.size, 1, none⟩) hH4.2.2.2.2.1).trans hH4.2.1; have e402 := (hb4.cell (p := ⟨w.heap.size, 2, none⟩) hH4.2.2.2.2.1).trans hH4.2.2.1; have e403 := (hb4.cell (p := ⟨w.heap.size, 3, none⟩) hH4.2.2.2.2.1).trans hH4.2.2.2.1; have el40 := Nat.lt_of_lt_of_le hH4.2.2.2.2.1 hb4.size; have hn4 := hH4.2.2.2.2.2.trans (hb4.mono hH4.2.2.2.2.2.size); clear hH4 hb4) | (go_at_call 22; refine (rmerge_c a0 a1 a2 a3 mask fl _ h0.1 h0.2 h1.1 h1.2 h2.1 h2.2 h3.1 h3.2).mono ?_; rw [HM.out]; unfold four; dsimp only; rintro e u5 ⟨rfl, hb5⟩; have hH5 := ‹_ ∧ _ ∧ _ ∧ _ ∧ _ ∧ _›; have e500 := (hb5.cell (p := ⟨w.heap.size, 0, none⟩) hH5.2.2.2.2.1).trans hH5.1; have e501 := (hb5.cell (p := ⟨w.heap.size, 1, none⟩) hH5.2.2.2.2.1).trans hH5.2.1; have e502 := (hb5.cell (p := ⟨w.heap.size, 2, none⟩) hH5.2.2.2.2.1).trans hH5.2.2.1; have e503 := (hb5.cell (p := ⟨w.heap.size, 3, none⟩) hH5.2.2.2.2.1).trans hH5.2.2.2.1; have el50 := Nat.lt_of_lt_of_le hH5.2.2.2.2.1 hb5.size; have hn5 := hH5.2.2.2.2.2.trans (hb5.mono hH5.2.2.2.2.2.size); clear hH5 hb5))
  go_wp2
  go_ret
  exact ⟨rfl, N1.out.trans (hn5.mono N1.out.size)⟩

theorem thunkNormals_own : ownKnob Try.prog.godebug = none := by kernel_rfl
set_option maxRecDepth 100000 in
theorem thunkNormals_lifted (os : Os) (started : os.Started) (H : Type) (enc : TypeId × Value → H) :
    ReturnsInHanded {} Try.checked os 7 .any (Rows.thunkNormalsSpec.pre6 enc Try.prog Try.f7 Rows.thunkNormalsRow.domain false) (Rows.thunkNormalsSpec.post enc Try.prog Try.f7 false true false false) := by
  refine returnsInHanded_of_change (C := Try.checked) thunkNormals_own started (by kernel_rfl) Try.func7
    (ChangeSpec.witness6 (enc := enc) (C := Try.checked) false ⟨#[], #[.agg #[.int .u32 0, .int .u32 0, .int .u32 0, .int .u32 0], .int .i64 0, .int .i64 0], []⟩ 8 (by kernel_rfl) (by kernel_rfl) (by kernel_rfl) (by kernel_rfl)) ?_
  intro W base args ds gs before hval0 hW hcnd _
  have hval : ∀ (j : Nat) t v, Try.f7.params[j]? = some t → args[j]? = some v → Value.okWide Try.prog W .any base t v := hval0
  have hW' := hW
  obtain ⟨p, q, hA0, hV, rfl, hfz, hnd⟩ := hW
  have hA : DataW.TrodAll enc Try.prog W 0 (fun _ => true) true Try.f7.params.toList args.toList ds p := hA0
  rw [Try.params7] at hA hval
  obtain ⟨v0, vs0, d0, ds0, p0, q0, hargs, rfl, rfl, h0, r0⟩ := trodAll_cons hA
  obtain ⟨v1, vs1, d1, ds1, p1, q1, rfl, rfl, rfl, h1, r1⟩ := trodAll_cons r0
  obtain ⟨v2, vs2, d2, ds2, p2, q2, rfl, rfl, rfl, h2, r2⟩ := trodAll_cons r1
  obtain ⟨rfl, rfl, rfl⟩ := trodAll_nil r2
  obtain rfl : args = #[v0, v1, v2] := by cases args; simp_all
  obtain ⟨c00, c01, c02, c03, y00, y01, y02, y03, m0, rfl, rfl, rfl, z00, z01, z02, z03⟩ := Joins.open_agg4 Try.underlying34 (by kernel_rfl) (show Try.prog.cellsOf 34 = 4 by kernel_rfl) (hval 0 34 v0 rfl rfl) h0
  obtain ⟨a00, e00, rfl, w00⟩ := DataW.trod_int Try.underlying29 z00
  obtain rfl : c00 = .int .u32 a00 := by simpa using e00
  obtain ⟨a01, e01, rfl, w01⟩ := DataW.trod_int Try.underlying29 z01
  obtain rfl : c01 = .int .u32 a01 := by simpa using e01
  obtain ⟨a02, e02, rfl, w02⟩ := DataW.trod_int Try.underlying29 z02
  obtain rfl : c02 = .int .u32 a02 := by simpa using e02
  obtain ⟨a03, e03, rfl, w03⟩ := DataW.trod_int Try.underlying29 z03
  obtain rfl : c03 = .int .u32 a03 := by simpa using e03
  obtain ⟨a1, rfl, rfl, rfl, w1⟩ := open_int Try.underlying3 (hval 1 3 v1 rfl rfl) h1
  obtain ⟨a2, rfl, rfl, rfl, w2⟩ := open_int Try.underlying3 (hval 2 3 v2 rfl rfl) h2
  exact (thunkNormals_c a00 a01 a02 a03 a1 a2 (wf_u32 w00) (wf_u32 w01) (wf_u32 w02) (wf_u32 w03) W).mono fun e W' ⟨he, hg⟩ =>
    ⟨_, he, law_post (tb := 4) (by kernel_rfl) (by decide +kernel) rfl Try.underlying4 rfl hW' rfl hg⟩
theorem thunkNormals_holds : Rows.ThunkNormalsSaid :=
  OpenClaim.holds_of_wide 7 Try.f7 rfl rfl rfl rfl rfl rfl rfl ⟨rfl, rfl, rfl, rfl, rfl⟩ rfl rfl rfl rfl rfl (by kernel_rfl) Try.func7 (by kernel_rfl)
    (of_decide_eq_true (by kernel_rfl)) (by unfold Func.isWrapper; first | (rw [if_pos (by decide +kernel)]; kernel_rfl) | (rw [if_neg (by decide +kernel)]; exact ⟨rfl, rfl⟩))
    (fun os started H enc _ => thunkNormals_lifted os started H enc)
#print axioms thunkNormals_holds
end Go.Proofs.Ytmkjgkldbonpnaa
