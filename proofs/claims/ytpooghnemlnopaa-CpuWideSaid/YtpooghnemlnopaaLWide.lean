/- CpuWide holds: sums, differences, products and quotients of 64 bits by words. No condition. -/
import Derived.Test.YtpooghnemlnopaaZ0
import Derived.Test.YtpooghnemlnopaaZ14
namespace Go.Proofs.Ytpooghnemlnopaa
open Go Go.Sx Go.RowKit Go.Cd Go.MapKept Go.ChangeShapes Go.WideShapes Go.ChangeAt
set_option linter.unusedVariables false
theorem wf_u64 {a : Int} (h : (Lit.int .u64 a).wf = true) : 0 ≤ a ∧ a < 18446744073709551616 := by
  have h1 : IntKind.u64.min ≤ a ∧ a ≤ IntKind.u64.max := by simpa [Lit.wf] using h
  have e1 : IntKind.u64.min = 0 := by decide
  have e2 : IntKind.u64.max = 18446744073709551615 := by decide
  omega
theorem cpuWide_c (a b : Int) (ha : U64 a) (hb : U64 b) (w : World) :
    Calls Try.prog 7 #[.int .u64 a, .int .u64 b] w fun e w' => e = .returned (.bool true) ∧ New w w' := by
  letI := weV a b
  have hv : SV.DenL (fun _ => none) [.int .u64 (.sym (.var .u64 0)), .int .u64 (.sym (.var .u64 1))] [.int .u64 a, .int .u64 b] := by
    refine denL_cons'.2 ⟨?_, denL_cons'.2 ⟨?_, by simp⟩⟩
    · simp only [SV.Den, SI.sym_v]
      rw [we_a a b ha]
    · simp only [SV.Den, SI.sym_v]
      rw [we_b a b hb]
  exact law_calls fnOk mixed_ok (cpuPure_ok _ _) cpuXt_ok (by rw [wide_tree]; exact we_all a b ha hb) hv w

theorem cpuWide_own : ownKnob Try.prog.godebug = none := by kernel_rfl
set_option maxRecDepth 100000 in
theorem cpuWide_lifted (os : Os) (started : os.Started) (H : Type) (enc : TypeId × Value → H) :
    ReturnsInHanded {} Try.checked os 7 .any (Rows.cpuWideSpec.pre6 enc Try.prog Try.f7 Rows.cpuWideRow.domain false) (Rows.cpuWideSpec.post enc Try.prog Try.f7 false true false false) := by
  refine returnsInHanded_of_change (C := Try.checked) cpuWide_own started (by kernel_rfl) Try.func7
    (ChangeSpec.witness6 (enc := enc) (C := Try.checked) false ⟨#[], #[.int .u64 0, .int .u64 0], []⟩ 8 (by kernel_rfl) (by kernel_rfl) (by kernel_rfl) (by kernel_rfl)) ?_
  intro W base args ds gs before hval0 hW hcnd _
  have hval : ∀ (j : Nat) t v, Try.f7.params[j]? = some t → args[j]? = some v → Value.okWide Try.prog W .any base t v := hval0
  have hW' := hW
  obtain ⟨p, q, hA0, hV, rfl, hfz, hnd⟩ := hW
  have hA : DataW.TrodAll enc Try.prog W 0 (fun _ => true) true Try.f7.params.toList args.toList ds p := hA0
  rw [Try.params7] at hA hval
  obtain ⟨v0, vs0, d0, ds0, p0, q0, hargs, rfl, rfl, h0, r0⟩ := trodAll_cons hA
  obtain ⟨v1, vs1, d1, ds1, p1, q1, rfl, rfl, rfl, h1, r1⟩ := trodAll_cons r0
  obtain ⟨rfl, rfl, rfl⟩ := trodAll_nil r1
  obtain rfl : args = #[v0, v1] := by cases args; simp_all
  obtain ⟨a0, rfl, rfl, rfl, w0⟩ := open_int Try.underlying29 (hval 0 29 v0 rfl rfl) h0
  obtain ⟨a1, rfl, rfl, rfl, w1⟩ := open_int Try.underlying29 (hval 1 29 v1 rfl rfl) h1
  exact (cpuWide_c a0 a1 (wf_u64 w0) (wf_u64 w1) W).mono fun e W' ⟨he, hg⟩ =>
    ⟨_, he, law_post (tb := 4) (by kernel_rfl) (by decide +kernel) rfl Try.underlying4 rfl hW' rfl hg⟩
theorem cpuWide_holds : Rows.CpuWideSaid :=
  OpenClaim.holds_of_wide 7 Try.f7 rfl rfl rfl rfl rfl rfl rfl ⟨rfl, rfl, rfl, rfl, rfl⟩ rfl rfl rfl rfl rfl (by kernel_rfl) Try.func7 (by kernel_rfl)
    (of_decide_eq_true (by kernel_rfl)) (by unfold Func.isWrapper; first | (rw [if_pos (by decide +kernel)]; kernel_rfl) | (rw [if_neg (by decide +kernel)]; exact ⟨rfl, rfl⟩))
    (fun os started H enc _ => cpuWide_lifted os started H enc)
#print axioms cpuWide_holds
end Go.Proofs.Ytpooghnemlnopaa
