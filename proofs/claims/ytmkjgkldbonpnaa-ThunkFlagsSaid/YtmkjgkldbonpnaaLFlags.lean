/- ThunkFlags holds: for all thunks, conditions and flags, Flags, Holds, Cond, Inverse, Uses and Fixed answer as the specification's do. No condition. -/
import Derived.Test.YtmkjgkldbonpnaaKitLaw
import Derived.Test.YtmkjgkldbonpnaaWSane2
import Derived.Test.YtmkjgkldbonpnaaWRefE
import Derived.Test.YtmkjgkldbonpnaaWRefD
namespace Go.Proofs.Ytmkjgkldbonpnaa
open Go Go.RowKit Go.Cd Go.ChangeShapes Go.WideShapes Go.ChangeAt
set_option linter.unusedVariables false
attribute [local go_sem ↓] Go.wp_at_zero Go.wp_at_succ
set_option maxRecDepth 100000 in
set_option maxHeartbeats 4000000 in
theorem thunkFlags_c (a0 a1 a2 a3 a4 a5 : Int) (h0 : 0 ≤ a0 ∧ a0 < 4294967296) (h1 : 0 ≤ a1 ∧ a1 < 4294967296) (h2 : 0 ≤ a2 ∧ a2 < 4294967296) (h3 : 0 ≤ a3 ∧ a3 < 4294967296) (w : World) :
    Calls Try.prog 9 #[.int .u32 a0, .int .u32 a1, .int .u32 a2, .int .u32 a3, .int .i64 a4, .int .i64 a5] w fun e w' => e = .returned (.bool true) ∧ New w w' := by
  go_enter Try.func9, Try.ntmps9
  go_wp2_with fail
  refine (sane_c _).mono ?_
  rintro e w1 ⟨rfl, hb1⟩
  have N1 := Lib.hid hb1
  clear hb1
  go_wp2_with (first
    | (go_at_call 23; refine (fixed_c _ _).mono ?_; rintro e wx ⟨rfl, rfl⟩)
    | (go_at_call 24; refine (rfixed_c _ _).mono ?_; rintro e wx ⟨rfl, rfl⟩)
    | (go_at_call 19; refine (tflags_c _ _ _ _ _ h0.1 h0.2 h1.1 h1.2 h2.1 h2.2 h3.1 h3.2).mono ?_; rintro e w2 ⟨rfl, hb2⟩; have N2 := Lib.hid (N1.out.trans (hb2.mono N1.out.size)); clear hb2)
    | (go_at_call 25; refine (rflags_c _ _ _ _ _ h0.1 h0.2 h1.1 h1.2 h2.1 h2.2 h3.1 h3.2).mono ?_; rintro e wx ⟨rfl, rfl⟩)
    | (go_at_call 26; refine (tholds_c _ _ _).mono ?_; rintro e w3 ⟨rfl, hb3⟩; have N3 := Lib.hid (N2.out.trans (hb3.mono N2.out.size)); clear hb3)
    | (go_at_call 27; refine (rholds_c _ _ _).mono ?_; rintro e wx ⟨rfl, rfl⟩)
    | (go_at_call 16; refine (cond_c _ _ _ _ _ _ h0.1 h0.2 h1.1 h1.2 h2.1 h2.2 h3.1 h3.2).mono ?_; rintro e w4 ⟨rfl, hb4⟩; have N4 := Lib.hid (N3.out.trans (hb4.mono N3.out.size)); clear hb4)
    | (go_at_call 28; refine (rcond_c _ _ _ _ _ _ h0.1 h0.2 h1.1 h1.2 h2.1 h2.2 h3.1 h3.2).mono ?_; rintro e wx ⟨rfl, rfl⟩)
    | (go_at_call 29; refine (inverse_c _ _).mono ?_; rintro e wx ⟨rfl, rfl⟩)
    | (go_at_call 30; refine (rinverse_c _ _).mono ?_; rintro e wx ⟨rfl, rfl⟩)
    | (go_at_call 31; refine (uses_c _ _).mono ?_; rintro e w5 ⟨rfl, hb5⟩; have N5 := Lib.hid (N4.out.trans (hb5.mono N4.out.size)); clear hb5)
    | (go_at_call 32; refine (ruses_c _ _).mono ?_; rintro e wx ⟨rfl, rfl⟩))
  go_ret
  exact ⟨rfl, N5.out⟩

theorem thunkFlags_own : ownKnob Try.prog.godebug = none := by kernel_rfl
set_option maxRecDepth 100000 in
theorem thunkFlags_lifted (os : Os) (started : os.Started) (H : Type) (enc : TypeId × Value → H) :
    ReturnsInHanded {} Try.checked os 9 .any (Rows.thunkFlagsSpec.pre6 enc Try.prog Try.f9 Rows.thunkFlagsRow.domain false) (Rows.thunkFlagsSpec.post enc Try.prog Try.f9 false true false false) := by
  refine returnsInHanded_of_change (C := Try.checked) thunkFlags_own started (by kernel_rfl) Try.func9
    (ChangeSpec.witness6 (enc := enc) (C := Try.checked) false ⟨#[], #[.int .u32 0, .int .u32 0, .int .u32 0, .int .u32 0, .int .i64 0, .int .i64 0], []⟩ 8 (by kernel_rfl) (by kernel_rfl) (by kernel_rfl) (by kernel_rfl)) ?_
  intro W base args ds gs before hval0 hW hcnd _
  have hval : ∀ (j : Nat) t v, Try.f9.params[j]? = some t → args[j]? = some v → Value.okWide Try.prog W .any base t v := hval0
  have hW' := hW
  obtain ⟨p, q, hA0, hV, rfl, hfz, hnd⟩ := hW
  have hA : DataW.TrodAll enc Try.prog W 0 (fun _ => true) true Try.f9.params.toList args.toList ds p := hA0
  rw [Try.params9] at hA hval
  obtain ⟨v0, vs0, d0, ds0, p0, q0, hargs, rfl, rfl, h0, r0⟩ := trodAll_cons hA
  obtain ⟨v1, vs1, d1, ds1, p1, q1, rfl, rfl, rfl, h1, r1⟩ := trodAll_cons r0
  obtain ⟨v2, vs2, d2, ds2, p2, q2, rfl, rfl, rfl, h2, r2⟩ := trodAll_cons r1
  obtain ⟨v3, vs3, d3, ds3, p3, q3, rfl, rfl, rfl, h3, r3⟩ := trodAll_cons r2
  obtain ⟨v4, vs4, d4, ds4, p4, q4, rfl, rfl, rfl, h4, r4⟩ := trodAll_cons r3
  obtain ⟨v5, vs5, d5, ds5, p5, q5, rfl, rfl, rfl, h5, r5⟩ := trodAll_cons r4
  obtain ⟨rfl, rfl, rfl⟩ := trodAll_nil r5
  obtain rfl : args = #[v0, v1, v2, v3, v4, v5] := by cases args; simp_all
  obtain ⟨a0, rfl, rfl, rfl, w0⟩ := open_int Try.underlying29 (hval 0 29 v0 rfl rfl) h0
  obtain ⟨a1, rfl, rfl, rfl, w1⟩ := open_int Try.underlying29 (hval 1 29 v1 rfl rfl) h1
  obtain ⟨a2, rfl, rfl, rfl, w2⟩ := open_int Try.underlying29 (hval 2 29 v2 rfl rfl) h2
  obtain ⟨a3, rfl, rfl, rfl, w3⟩ := open_int Try.underlying29 (hval 3 29 v3 rfl rfl) h3
  obtain ⟨a4, rfl, rfl, rfl, w4⟩ := open_int Try.underlying3 (hval 4 3 v4 rfl rfl) h4
  obtain ⟨a5, rfl, rfl, rfl, w5⟩ := open_int Try.underlying3 (hval 5 3 v5 rfl rfl) h5
  exact (thunkFlags_c a0 a1 a2 a3 a4 a5 (wf_u32 w0) (wf_u32 w1) (wf_u32 w2) (wf_u32 w3) W).mono fun e W' ⟨he, hg⟩ =>
    ⟨_, he, law_post (tb := 4) (by kernel_rfl) (by decide +kernel) rfl Try.underlying4 rfl hW' rfl hg⟩
theorem thunkFlags_holds : Rows.ThunkFlagsSaid :=
  OpenClaim.holds_of_wide 9 Try.f9 rfl rfl rfl rfl rfl rfl rfl ⟨rfl, rfl, rfl, rfl, rfl⟩ rfl rfl rfl rfl rfl (by kernel_rfl) Try.func9 (by kernel_rfl)
    (of_decide_eq_true (by kernel_rfl)) (by unfold Func.isWrapper; first | (rw [if_pos (by decide +kernel)]; kernel_rfl) | (rw [if_neg (by decide +kernel)]; exact ⟨rfl, rfl⟩))
    (fun os started H enc _ => thunkFlags_lifted os started H enc)
#print axioms thunkFlags_holds
end Go.Proofs.Ytmkjgkldbonpnaa
