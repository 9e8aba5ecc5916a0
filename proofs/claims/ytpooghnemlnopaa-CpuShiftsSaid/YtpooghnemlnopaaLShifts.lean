/- CpuShifts holds: shifts are products and quotients by powers of two. No condition. -/
import Derived.Test.YtpooghnemlnopaaKitLaw
import Derived.Test.YtpooghnemlnopaaPlainShifts
namespace Go.Proofs.Ytpooghnemlnopaa
open Go Go.Sx Go.RowKit Go.Cd Go.MapKept Go.ChangeShapes Go.WideShapes Go.ChangeAt
set_option linter.unusedVariables false
theorem cpuShifts_c (a n : Int) (ha : 0 ≤ a ∧ a < 4294967296) (hn : 0 ≤ n ∧ n < 4294967296) (w : World) :
    Calls Try.prog 4 #[.int .u32 a, .int .u32 n] w fun e w' => e = .returned (.bool true) ∧ New w w' := by
  letI := shV a n
  have hv : SV.DenL (fun _ => none) [.int .u32 (.sym (.var .u32 0)), .int .u32 (.sym (.var .u32 1))] [.int .u32 a, .int .u32 n] := by
    refine denL_cons'.2 ⟨?_, denL_cons'.2 ⟨?_, by simp⟩⟩
    · simp only [SV.Den, SI.sym_v]
      rw [sh_a a n ha hn]
    · simp only [SV.Den, SI.sym_v]
      rw [sh_n a n ha hn]
  exact law_calls fnOk mixed_ok (cpuPure_ok _ _) (by rw [shifts_tree]; exact sh_all a n ha hn) hv w

theorem cpuShifts_own : ownKnob Try.prog.godebug = none := by kernel_rfl
set_option maxRecDepth 100000 in
theorem cpuShifts_lifted (os : Os) (started : os.Started) (H : Type) (enc : TypeId × Value → H) :
    ReturnsInHanded {} Try.checked os 4 .any (Rows.cpuShiftsSpec.pre6 enc Try.prog Try.f4 Rows.cpuShiftsRow.domain false) (Rows.cpuShiftsSpec.post enc Try.prog Try.f4 false true false false) := by
  refine returnsInHanded_of_change (C := Try.checked) cpuShifts_own started (by kernel_rfl) Try.func4
    (ChangeSpec.witness6 (enc := enc) (C := Try.checked) false ⟨#[], #[.int .u32 0, .int .u32 0], []⟩ 8 (by kernel_rfl) (by kernel_rfl) (by kernel_rfl) (by kernel_rfl)) ?_
  intro W base args ds gs before hval0 hW hcnd _
  have hval : ∀ (j : Nat) t v, Try.f4.params[j]? = some t → args[j]? = some v → Value.okWide Try.prog W .any base t v := hval0
  have hW' := hW
  obtain ⟨p, q, hA0, hV, rfl, hfz, hnd⟩ := hW
  have hA : DataW.TrodAll enc Try.prog W 0 (fun _ => true) true Try.f4.params.toList args.toList ds p := hA0
  rw [Try.params4] at hA hval
  obtain ⟨v0, vs0, d0, ds0, p0, q0, hargs, rfl, rfl, h0, r0⟩ := trodAll_cons hA
  obtain ⟨v1, vs1, d1, ds1, p1, q1, rfl, rfl, rfl, h1, r1⟩ := trodAll_cons r0
  obtain ⟨rfl, rfl, rfl⟩ := trodAll_nil r1
  obtain rfl : args = #[v0, v1] := by cases args; simp_all
  obtain ⟨a0, rfl, rfl, rfl, w0⟩ := open_int Try.underlying22 (hval 0 22 v0 rfl rfl) h0
  obtain ⟨a1, rfl, rfl, rfl, w1⟩ := open_int Try.underlying22 (hval 1 22 v1 rfl rfl) h1
  exact (cpuShifts_c a0 a1 (wf_u32 w0) (wf_u32 w1) W).mono fun e W' ⟨he, hg⟩ =>
    ⟨_, he, law_post (tb := 4) (by kernel_rfl) (by decide +kernel) rfl Try.underlying4 rfl hW' rfl hg⟩
theorem cpuShifts_holds : Rows.CpuShiftsSaid :=
  OpenClaim.holds_of_wide 4 Try.f4 rfl rfl rfl rfl rfl rfl rfl ⟨rfl, rfl, rfl, rfl, rfl⟩ rfl rfl rfl rfl rfl (by kernel_rfl) Try.func4 (by kernel_rfl)
    (of_decide_eq_true (by kernel_rfl)) (by unfold Func.isWrapper; first | (rw [if_pos (by decide +kernel)]; kernel_rfl) | (rw [if_neg (by decide +kernel)]; exact ⟨rfl, rfl⟩))
    (fun os started H enc _ => cpuShifts_lifted os started H enc)
#print axioms cpuShifts_holds
end Go.Proofs.Ytpooghnemlnopaa
