/- CpuNumbers holds: Check, Holds, Alu, Extend, Lanes and Mask match the specification. No condition. -/
import Derived.Test.YtpooghnemlnopaaZ13
namespace Go.Proofs.Ytpooghnemlnopaa
open Go Go.Sx Go.RowKit Go.Cd Go.MapKept Go.ChangeShapes Go.WideShapes Go.ChangeAt
set_option linter.unusedVariables false
theorem num_run [Val] (hp : PureOk Try.prog numPure) {fs : Facts} {so sd : SI} (hf : FactsOk fs) (ht : (numT Try.prog fs so sd).allTrue = true) {vs : List Value} (hv : SV.DenL (fun _ => none) (numArgs so sd) vs) (w : World) :
    Calls Try.prog 6 vs.toArray w fun e w' => e = .returned (.bool true) ∧ New w w' := by
  exact law_callsT fnOk mixed_ok hp cpuXt_ok hf ht hv w
set_option maxRecDepth 100000 in
theorem cpuNumbers_c (c : Regs) (op d k a b : Int) (l0 l1 : List Int) (hc : CpuOk c) (hop : -9223372036854775808 ≤ op ∧ op < 9223372036854775808) (hd : -9223372036854775808 ≤ d ∧ d < 9223372036854775808) (hk : -9223372036854775808 ≤ k ∧ k < 9223372036854775808)
    (ha : 0 ≤ a ∧ a < 4294967296) (hb : 0 ≤ b ∧ b < 4294967296) (n0 : l0.length = 4) (w0 : ∀ z ∈ l0, 0 ≤ z ∧ z < 4294967296) (n1 : l1.length = 4) (w1 : ∀ z ∈ l1, 0 ≤ z ∧ z < 4294967296) (w : World) :
    Calls Try.prog 6 #[cpuV c, .int .i64 op, .int .i64 d, .int .i64 k, .int .u32 a, .int .u32 b, .agg (l0.map (Value.int .u32)).toArray, .agg (l1.map (Value.int .u32)).toArray] w fun e w' => e = .returned (.bool true) ∧ New w w' := by
  letI := cpuVal (numI op d k a b l0 l1 c) (fun _ => false)
  have i64v : ∀ n : Int, -9223372036854775808 ≤ n ∧ n < 9223372036854775808 → IntKind.i64.wrap n = n := fun n h => wrap_same .i64 (by have := h.1; show (-9223372036854775808 : Int) ≤ n; omega) (by have := h.2; show n ≤ 9223372036854775807; omega)
  have eop : opT.v = op := by
    show IntKind.i64.wrap op = op
    exact i64v op hop
  have ed : dT.v = d := by
    show IntKind.i64.wrap d = d
    exact i64v d hd
  have run : ∀ (fs : Facts) (so sd : SI), so.v = op → sd.v = d → FactsOk fs → (numT Try.prog fs so sd).allTrue = true →
      Calls Try.prog 6 #[cpuV c, .int .i64 op, .int .i64 d, .int .i64 k, .int .u32 a, .int .u32 b, .agg (l0.map (Value.int .u32)).toArray, .agg (l1.map (Value.int .u32)).toArray] w fun e w' => e = .returned (.bool true) ∧ New w w' := by
    intro fs so sd e1 e2 hf ht
    have hv : SV.DenL (fun _ => none) (numArgs so sd) [cpuV c, .int .i64 op, .int .i64 d, .int .i64 k, .int .u32 a, .int .u32 b, .agg (l0.map (Value.int .u32)).toArray, .agg (l1.map (Value.int .u32)).toArray] := by
      unfold numArgs
      refine denL_cons'.2 ⟨cpuS_den hc fun j hj => ?_, denL_cons'.2 ⟨?_, denL_cons'.2 ⟨?_, denL_cons'.2 ⟨?_, denL_cons'.2 ⟨?_, denL_cons'.2 ⟨?_, denL_cons'.2 ⟨vecS'_den n0 w0 fun j hj => ?_, denL_cons'.2 ⟨vecS'_den n1 w1 fun j hj => ?_, by simp⟩⟩⟩⟩⟩⟩⟩⟩
      · show numI op d k a b l0 l1 c (13 + j) = c j
        unfold numI
        rw [if_neg (by omega), if_neg (by omega), if_neg (by omega), Nat.add_sub_cancel_left]
      · simp only [SV.Den, e1]
      · simp only [SV.Den, e2]
      · simp only [SV.Den, SI.sym_v]
        show Value.int .i64 k = .int .i64 (IntKind.i64.wrap k)
        rw [i64v k hk]
      · simp only [SV.Den, SI.sym_v]
        show Value.int .u32 a = .int .u32 (IntKind.u32.wrap a)
        rw [u32_wrap ha]
      · simp only [SV.Den, SI.sym_v]
        show Value.int .u32 b = .int .u32 (IntKind.u32.wrap b)
        rw [u32_wrap hb]
      · show numI op d k a b l0 l1 c (5 + j) = _
        unfold numI
        rw [if_neg (by omega), if_pos (by omega), Nat.add_sub_cancel_left]
      · show numI op d k a b l0 l1 c (9 + j) = _
        unfold numI
        rw [if_neg (by omega), if_neg (by omega), if_pos (by omega), Nat.add_sub_cancel_left]
    exact num_run (numPure_ok _ _) hf ht hv w
  have feq : ∀ (t : Tm) (x n : Int), t.v = x → x ≠ n → (Bm.cmp .eq t (.lit n)).v = false := fun t x n e h => by
    show (t.v == n) = false
    rw [e]; exact beq_eq_false_iff_ne.2 h
  have flt : (Bm.cmp .lt dT (.lit 0)).v = decide (d < 0) := by
    show decide (dT.v < 0) = _
    rw [ed]
  have fgt : (Bm.cmp .lt (.lit 2) dT).v = decide (2 < d) := by
    show decide (2 < dT.v) = _
    rw [ed]
  have okB : d < 0 → FactsOk fsB := fun h p hp => by
    simp only [fsB, List.mem_singleton] at hp; subst hp
    exact flt.trans (decide_eq_true h)
  have okC : 2 < d → FactsOk fsC := fun h p hp => by
    simp only [fsC, List.mem_cons, List.not_mem_nil, or_false] at hp
    rcases hp with rfl | rfl
    · exact flt.trans (decide_eq_false (by omega))
    · exact fgt.trans (decide_eq_true h)
  have ok0 : FactsOk [] := fun p hp => absurd hp (by simp)
  by_cases h51 : op = 51
  · rcases (show d < 0 ∨ 2 < d ∨ d = 0 ∨ d = 1 ∨ d = 2 by omega) with h | h | h | h | h
    · exact run fsB (.lit 51) (.sym dT) h51.symm ed (okB h) num_51B
    · exact run fsC (.lit 51) (.sym dT) h51.symm ed (okC h) num_51C
    · exact run [] (.lit 51) (.lit 0) h51.symm h.symm ok0 num_51_0
    · exact run [] (.lit 51) (.lit 1) h51.symm h.symm ok0 num_51_1
    · exact run [] (.lit 51) (.lit 2) h51.symm h.symm ok0 num_51_2
  by_cases h52 : op = 52
  · rcases (show d < 0 ∨ 2 < d ∨ d = 0 ∨ d = 1 ∨ d = 2 by omega) with h | h | h | h | h
    · exact run fsB (.lit 52) (.sym dT) h52.symm ed (okB h) num_52B
    · exact run fsC (.lit 52) (.sym dT) h52.symm ed (okC h) num_52C
    · exact run [] (.lit 52) (.lit 0) h52.symm h.symm ok0 num_52_0
    · exact run [] (.lit 52) (.lit 1) h52.symm h.symm ok0 num_52_1
    · exact run [] (.lit 52) (.lit 2) h52.symm h.symm ok0 num_52_2
  by_cases h53 : op = 53
  · rcases (show d < 0 ∨ 2 < d ∨ d = 0 ∨ d = 1 ∨ d = 2 by omega) with h | h | h | h | h
    · exact run fsB (.lit 53) (.sym dT) h53.symm ed (okB h) num_53B
    · exact run fsC (.lit 53) (.sym dT) h53.symm ed (okC h) num_53C
    · exact run [] (.lit 53) (.lit 0) h53.symm h.symm ok0 num_53_0
    · exact run [] (.lit 53) (.lit 1) h53.symm h.symm ok0 num_53_1
    · exact run [] (.lit 53) (.lit 2) h53.symm h.symm ok0 num_53_2
  refine run fsA (.sym opT) (.sym dT) eop ed (fun p hp => ?_) num_A
  simp only [fsA, List.mem_cons, List.not_mem_nil, or_false] at hp
  rcases hp with rfl | rfl | rfl
  · exact feq opT op 51 eop h51
  · exact feq opT op 52 eop h52
  · exact feq opT op 53 eop h53

theorem cpuNumbers_own : ownKnob Try.prog.godebug = none := by kernel_rfl
set_option maxRecDepth 100000 in
theorem cpuNumbers_lifted (os : Os) (started : os.Started) (H : Type) (enc : TypeId × Value → H) :
    ReturnsInHanded {} Try.checked os 6 .any (Rows.cpuNumbersSpec.pre6 enc Try.prog Try.f6 Rows.cpuNumbersRow.domain false) (Rows.cpuNumbersSpec.post enc Try.prog Try.f6 false true false false) := by
  refine returnsInHanded_of_change (C := Try.checked) cpuNumbers_own started (by kernel_rfl) Try.func6
    (ChangeSpec.witness6 (enc := enc) (C := Try.checked) false ⟨#[], #[.agg #[.int .u32 0, .int .u32 0, .int .u32 0, .int .u32 0, .int .u32 0, .int .u32 0, .int .u32 0, .int .u32 0, .int .u32 0, .int .u32 0, .int .u32 0, .int .u32 0, .int .u32 0, .int .u32 0, .int .u32 0, .int .u32 0, .int .u32 0, .int .i64 0, .int .u32 0, .int .u32 0, .int .u32 0, .int .u32 0, .int .u32 0, .int .u32 0, .int .u32 0, .int .u32 0, .int .u32 0, .int .u32 0, .int .u32 0, .int .u32 0, .int .u32 0, .int .u32 0, .int .u32 0, .int .u32 0, .int .u32 0, .int .u32 0, .int .u32 0, .int .u32 0, .int .u32 0, .int .u32 0, .int .u32 0, .int .u32 0, .int .u32 0, .int .u32 0, .int .u32 0, .int .u32 0, .int .u32 0, .int .u32 0, .int .u32 0, .int .u32 0], .int .i64 0, .int .i64 0, .int .i64 0, .int .u32 0, .int .u32 0, .agg #[.int .u32 0, .int .u32 0, .int .u32 0, .int .u32 0], .agg #[.int .u32 0, .int .u32 0, .int .u32 0, .int .u32 0]], []⟩ 8 (by kernel_rfl) (by kernel_rfl) (by kernel_rfl) (by kernel_rfl)) ?_
  intro W base args ds gs before hval0 hW hcnd _
  have hval : ∀ (j : Nat) t v, Try.f6.params[j]? = some t → args[j]? = some v → Value.okWide Try.prog W .any base t v := hval0
  have hW' := hW
  obtain ⟨p, q, hA0, hV, rfl, hfz, hnd⟩ := hW
  have hA : DataW.TrodAll enc Try.prog W 0 (fun _ => true) true Try.f6.params.toList args.toList ds p := hA0
  rw [Try.params6] at hA hval
  obtain ⟨v0, vs0, d0, ds0, p0, q0, hargs, rfl, rfl, h0, r0⟩ := trodAll_cons hA
  obtain ⟨v1, vs1, d1, ds1, p1, q1, rfl, rfl, rfl, h1, r1⟩ := trodAll_cons r0
  obtain ⟨v2, vs2, d2, ds2, p2, q2, rfl, rfl, rfl, h2, r2⟩ := trodAll_cons r1
  obtain ⟨v3, vs3, d3, ds3, p3, q3, rfl, rfl, rfl, h3, r3⟩ := trodAll_cons r2
  obtain ⟨v4, vs4, d4, ds4, p4, q4, rfl, rfl, rfl, h4, r4⟩ := trodAll_cons r3
  obtain ⟨v5, vs5, d5, ds5, p5, q5, rfl, rfl, rfl, h5, r5⟩ := trodAll_cons r4
  obtain ⟨v6, vs6, d6, ds6, p6, q6, rfl, rfl, rfl, h6, r6⟩ := trodAll_cons r5
  obtain ⟨v7, vs7, d7, ds7, p7, q7, rfl, rfl, rfl, h7, r7⟩ := trodAll_cons r6
  obtain ⟨rfl, rfl, rfl⟩ := trodAll_nil r7
  obtain rfl : args = #[v0, v1, v2, v3, v4, v5, v6, v7] := by cases args; simp_all
  obtain ⟨c0, rfl, w0⟩ := open_cpu (hval 0 39 v0 rfl rfl) h0
  obtain ⟨a1, rfl, rfl, rfl, w1⟩ := open_int Try.underlying3 (hval 1 3 v1 rfl rfl) h1
  obtain ⟨a2, rfl, rfl, rfl, w2⟩ := open_int Try.underlying3 (hval 2 3 v2 rfl rfl) h2
  obtain ⟨a3, rfl, rfl, rfl, w3⟩ := open_int Try.underlying3 (hval 3 3 v3 rfl rfl) h3
  obtain ⟨a4, rfl, rfl, rfl, w4⟩ := open_int Try.underlying22 (hval 4 22 v4 rfl rfl) h4
  obtain ⟨a5, rfl, rfl, rfl, w5⟩ := open_int Try.underlying22 (hval 5 22 v5 rfl rfl) h5
  obtain ⟨l6, rfl, n6, w6⟩ := open_ints_arr Try.underlying32 Try.underlying22 (by kernel_rfl) (show Try.prog.cellsOf 32 = 4 by kernel_rfl) (hval 6 32 v6 rfl rfl) h6
  obtain ⟨l7, rfl, n7, w7⟩ := open_ints_arr Try.underlying32 Try.underlying22 (by kernel_rfl) (show Try.prog.cellsOf 32 = 4 by kernel_rfl) (hval 7 32 v7 rfl rfl) h7
  exact (cpuNumbers_c c0 a1 a2 a3 a4 a5 l6 l7 w0 (wf_i64 w1) (wf_i64 w2) (wf_i64 w3) (wf_u32 w4) (wf_u32 w5) n6 (fun z hz => wf_u32 (w6 z hz)) n7 (fun z hz => wf_u32 (w7 z hz)) W).mono fun e W' ⟨he, hg⟩ =>
    ⟨_, he, law_post (tb := 4) (by kernel_rfl) (by decide +kernel) rfl Try.underlying4 rfl hW' rfl hg⟩
theorem cpuNumbers_holds : Rows.CpuNumbersSaid :=
  OpenClaim.holds_of_wide 6 Try.f6 rfl rfl rfl rfl rfl rfl rfl ⟨rfl, rfl, rfl, rfl, rfl⟩ rfl rfl rfl rfl rfl (by kernel_rfl) Try.func6 (by kernel_rfl)
    (of_decide_eq_true (by kernel_rfl)) (by unfold Func.isWrapper; first | (rw [if_pos (by decide +kernel)]; kernel_rfl) | (rw [if_neg (by decide +kernel)]; exact ⟨rfl, rfl⟩))
    (fun os started H enc _ => cpuNumbers_lifted os started H enc)
#print axioms cpuNumbers_holds
end Go.Proofs.Ytpooghnemlnopaa
