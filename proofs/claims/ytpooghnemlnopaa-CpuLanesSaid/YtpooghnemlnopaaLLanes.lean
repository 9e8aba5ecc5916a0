/- CpuLanes holds: additions, subtractions and comparisons of lanes, and shuffles. No condition. -/
import Derived.Test.YtpooghnemlnopaaZ0
import Derived.Test.YtpooghnemlnopaaZ14
namespace Go.Proofs.Ytpooghnemlnopaa
open Go Go.Sx Go.RowKit Go.Cd Go.MapKept Go.ChangeShapes Go.WideShapes Go.ChangeAt
set_option linter.unusedVariables false
theorem vec_list (l : List Int) (n : l.length = 4) (w : ∀ z ∈ l, 0 ≤ z ∧ z < 4294967296) : ∃ v : Vc, (Value.agg (l.map (Value.int .u32)).toArray = vecV v) ∧ VcOk v := by
  match l, n with
  | [a, b, c, d], _ =>
    refine ⟨q4 a b c d, rfl, fun k hk => ?_⟩
    match k, hk with
    | 0, _ => exact w a (by simp)
    | 1, _ => exact w b (by simp)
    | 2, _ => exact w c (by simp)
    | 3, _ => exact w d (by simp)
theorem cpuLanes_c (l0 : List Int) (n0 : l0.length = 4) (w0 : ∀ z ∈ l0, 0 ≤ z ∧ z < 4294967296) (l1 : List Int) (n1 : l1.length = 4) (w1 : ∀ z ∈ l1, 0 ≤ z ∧ z < 4294967296) (l2 : List Int) (n2 : l2.length = 4) (w2 : ∀ z ∈ l2, 0 ≤ z ∧ z < 4294967296) (d : Int) (hd : d64 d) (w : World) :
    Calls Try.prog 5 #[.agg (l0.map (Value.int .u32)).toArray, .agg (l1.map (Value.int .u32)).toArray, .agg (l2.map (Value.int .u32)).toArray, .int .i64 d] w fun e w' => e = .returned (.bool true) ∧ New w w' := by
  obtain ⟨x, e0, hx⟩ := vec_list l0 n0 w0
  obtain ⟨y, e1, hy⟩ := vec_list l1 n1 w1
  obtain ⟨z, e2, hz⟩ := vec_list l2 n2 w2
  rw [e0, e1, e2]
  letI := laV x y z d
  have hvec : ∀ (i : Nat) (v : Vc), (Tm.var .u32 i).v = v 0 → (Tm.var .u32 (i + 1)).v = v 1 → (Tm.var .u32 (i + 2)).v = v 2 → (Tm.var .u32 (i + 3)).v = v 3 → (vecS i).Den (fun _ => none) (vecV v) := fun i v h0 h1 h2 h3 => by
    unfold vecS
    simp only [SV.Den]
    refine ⟨[_, _, _, _], denL_cons'.2 ⟨?_, denL_cons'.2 ⟨?_, denL_cons'.2 ⟨?_, denL_cons'.2 ⟨?_, by simp⟩⟩⟩⟩, rfl⟩
    · simp only [SV.Den, SI.sym_v, h0]
    · simp only [SV.Den, SI.sym_v, h1]
    · simp only [SV.Den, SI.sym_v, h2]
    · simp only [SV.Den, SI.sym_v, h3]
  have hv : SV.DenL (fun _ => none) [vecS 0, vecS 4, vecS 8, .int .i64 (.sym (.var .i64 12))] [vecV x, vecV y, vecV z, .int .i64 d] := by
    refine denL_cons'.2 ⟨?_, denL_cons'.2 ⟨?_, denL_cons'.2 ⟨?_, denL_cons'.2 ⟨?_, by simp⟩⟩⟩⟩
    · exact hvec 0 x (la_0 x y z d hx) (la_1 x y z d hx) (la_2 x y z d hx) (la_3 x y z d hx)
    · exact hvec 4 y (la_4 x y z d hy) (la_5 x y z d hy) (la_6 x y z d hy) (la_7 x y z d hy)
    · exact hvec 8 z (la_8 x y z d hz) (la_9 x y z d hz) (la_10 x y z d hz) (la_11 x y z d hz)
    · simp only [SV.Den, SI.sym_v]
      rw [la_d x y z d hd]
  exact law_calls fnOk mixed_ok (cpuPure_ok _ _) (by rw [lanes_tree]; exact la_all x y z d hx hy hz hd) hv w

theorem cpuLanes_own : ownKnob Try.prog.godebug = none := by kernel_rfl
set_option maxRecDepth 100000 in
theorem cpuLanes_lifted (os : Os) (started : os.Started) (H : Type) (enc : TypeId × Value → H) :
    ReturnsInHanded {} Try.checked os 5 .any (Rows.cpuLanesSpec.pre6 enc Try.prog Try.f5 Rows.cpuLanesRow.domain false) (Rows.cpuLanesSpec.post enc Try.prog Try.f5 false true false false) := by
  refine returnsInHanded_of_change (C := Try.checked) cpuLanes_own started (by kernel_rfl) Try.func5
    (ChangeSpec.witness6 (enc := enc) (C := Try.checked) false ⟨#[], #[.agg #[.int .u32 0, .int .u32 0, .int .u32 0, .int .u32 0], .agg #[.int .u32 0, .int .u32 0, .int .u32 0, .int .u32 0], .agg #[.int .u32 0, .int .u32 0, .int .u32 0, .int .u32 0], .int .i64 0], []⟩ 8 (by kernel_rfl) (by kernel_rfl) (by kernel_rfl) (by kernel_rfl)) ?_
  intro W base args ds gs before hval0 hW hcnd _
  have hval : ∀ (j : Nat) t v, Try.f5.params[j]? = some t → args[j]? = some v → Value.okWide Try.prog W .any base t v := hval0
  have hW' := hW
  obtain ⟨p, q, hA0, hV, rfl, hfz, hnd⟩ := hW
  have hA : DataW.TrodAll enc Try.prog W 0 (fun _ => true) true Try.f5.params.toList args.toList ds p := hA0
  rw [Try.params5] at hA hval
  obtain ⟨v0, vs0, d0, ds0, p0, q0, hargs, rfl, rfl, h0, r0⟩ := trodAll_cons hA
  obtain ⟨v1, vs1, d1, ds1, p1, q1, rfl, rfl, rfl, h1, r1⟩ := trodAll_cons r0
  obtain ⟨v2, vs2, d2, ds2, p2, q2, rfl, rfl, rfl, h2, r2⟩ := trodAll_cons r1
  obtain ⟨v3, vs3, d3, ds3, p3, q3, rfl, rfl, rfl, h3, r3⟩ := trodAll_cons r2
  obtain ⟨rfl, rfl, rfl⟩ := trodAll_nil r3
  obtain rfl : args = #[v0, v1, v2, v3] := by cases args; simp_all
  obtain ⟨l0, rfl, n0, w0⟩ := open_ints_arr Try.underlying32 Try.underlying22 (by kernel_rfl) (show Try.prog.cellsOf 32 = 4 by kernel_rfl) (hval 0 32 v0 rfl rfl) h0
  obtain ⟨l1, rfl, n1, w1⟩ := open_ints_arr Try.underlying32 Try.underlying22 (by kernel_rfl) (show Try.prog.cellsOf 32 = 4 by kernel_rfl) (hval 1 32 v1 rfl rfl) h1
  obtain ⟨l2, rfl, n2, w2⟩ := open_ints_arr Try.underlying32 Try.underlying22 (by kernel_rfl) (show Try.prog.cellsOf 32 = 4 by kernel_rfl) (hval 2 32 v2 rfl rfl) h2
  obtain ⟨a3, rfl, rfl, rfl, w3⟩ := open_int Try.underlying3 (hval 3 3 v3 rfl rfl) h3
  exact (cpuLanes_c l0 n0 (fun z hz => wf_u32 (w0 z hz)) l1 n1 (fun z hz => wf_u32 (w1 z hz)) l2 n2 (fun z hz => wf_u32 (w2 z hz)) a3 (wf_i64 w3) W).mono fun e W' ⟨he, hg⟩ =>
    ⟨_, he, law_post (tb := 4) (by kernel_rfl) (by decide +kernel) rfl Try.underlying4 rfl hW' rfl hg⟩
theorem cpuLanes_holds : Rows.CpuLanesSaid :=
  OpenClaim.holds_of_wide 5 Try.f5 rfl rfl rfl rfl rfl rfl rfl ⟨rfl, rfl, rfl, rfl, rfl⟩ rfl rfl rfl rfl rfl (by kernel_rfl) Try.func5 (by kernel_rfl)
    (of_decide_eq_true (by kernel_rfl)) (by unfold Func.isWrapper; first | (rw [if_pos (by decide +kernel)]; kernel_rfl) | (rw [if_neg (by decide +kernel)]; exact ⟨rfl, rfl⟩))
    (fun os started H enc _ => cpuLanes_lifted os started H enc)
#print axioms cpuLanes_holds
end Go.Proofs.Ytpooghnemlnopaa
