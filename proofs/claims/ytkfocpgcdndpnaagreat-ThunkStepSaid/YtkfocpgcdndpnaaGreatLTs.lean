/- ThunkStep holds: the flags behind an instruction of the machine are those of its thunk. No condition. -/
import Derived.Test.YtkfocpgcdndpnaaGreatZ16
import Derived.Test.YtkfocpgcdndpnaaGreatZ17
import Derived.Test.YtkfocpgcdndpnaaGreatZ18
import Derived.Test.YtkfocpgcdndpnaaGreatZ19
import Derived.Test.YtkfocpgcdndpnaaGreatZ20
import Derived.Test.YtkfocpgcdndpnaaGreatZ21
namespace Go.Proofs.YtkfocpgcdndpnaaGreat
open Go Go.Sx Go.RowKit Go.Cd Go.MapKept Go.ChangeShapes Go.WideShapes Go.ChangeAt
set_option linter.unusedVariables false
theorem opL_ok : ∀ k ∈ opTab.map (·.1), (0 ≤ (roomOf ((opL k).getD #[]).toList).a ∧ (roomOf ((opL k).getD #[]).toList).a ≤ 15) ∧ (roomOf ((opL k).getD #[]).toList).d ≤ 15 := by decide +kernel
theorem ops_short : ∀ k ∈ tsOps, k < 64 → (roomOf ((opL k).getD #[]).toList).i = false := by decide +kernel
theorem ops_in : ∀ k ∈ tsOps, k ∈ opTab.map (·.1) := by decide +kernel
theorem valid_rng {op a b c d k i : Int} (hop : op ∈ tsOps) (hk : In64 k) (h : validF ⟨op, a, b, c, d, k, i⟩ = true) :
    (0 ≤ a ∧ a ≤ 15) ∧ (0 ≤ d ∧ d ≤ 15) ∧ (-128 ≤ k ∧ k ≤ 127) ∧ (op < 64 → i = 0) := by
  obtain ⟨⟨_, r1⟩, r2⟩ := opL_ok op (ops_in op hop)
  have r3 := ops_short op hop
  unfold validF hasF fieldsF wthn at h
  generalize roomOf ((opL op).getD #[]).toList = R at *
  simp only [Bool.and_eq_true, Bool.or_eq_true, decide_eq_true_eq, beq_iff_eq] at h
  obtain ⟨_, ⟨⟨⟨⟨⟨h1, h1'⟩, _⟩, _⟩, h2, h2'⟩, h3⟩, h4⟩ := h
  refine ⟨⟨by omega, by omega⟩, ⟨by omega, by omega⟩, ?_, fun hs => ?_⟩
  · rcases h3 with rfl | ⟨_, h5, h6⟩
    · omega
    · obtain ⟨k1, k2⟩ := hk
      by_cases q : k ≤ 9223372036854775679
      · rw [i64_same ⟨by omega, by omega⟩] at h5 h6
        omega
      · exfalso
        have : IntKind.i64.wrap (k + 128) = k + 128 - 18446744073709551616 := by
          have e : IntKind.i64.wrap (k + 128) = IntKind.i64.wrap (k + 128 - 18446744073709551616) := by
            have p : ((2 : Int) ^ IntKind.i64.bits) = 18446744073709551616 := by decide
            simp only [IntKind.wrap, p]
            rw [show (k + 128 - 18446744073709551616) % 18446744073709551616 = (k + 128) % 18446744073709551616 by omega]
          rw [e, i64_same ⟨by omega, by omega⟩]
        omega
  · rcases h4 with h4 | h4
    · exact h4
    · rw [r3 hs] at h4; cases h4
theorem no_op {op : Int} (h : op ∉ tsOps) {k : Int} (hk : k ∈ tsOps) : op ≠ k := fun e => h (e ▸ hk)
set_option maxRecDepth 100000 in
theorem thunkStep_c (op a b c d k i : Int) (r : Regs) (hop : In64 op) (ha : In64 a) (hb : In64 b) (hc : In64 c) (hd : In64 d) (hk : In64 k) (hi : 0 ≤ i ∧ i < 4294967296) (hr : CpuOk r) (w : World) :
    Calls Tryz.prog 3 #[insV op a b c d k i, cpuV r] w fun e w' => e = .returned (.bool true) ∧ New w w' := by
  let I := tsInts op a b c d k i r
  letI := tsVal I
  have hI : ∀ j, j < 50 → j ≠ 17 → I (100 + j) = r j := fun j _ _ => by
    show tsInts op a b c d k i r (100 + j) = r j
    unfold tsInts
    rw [if_neg (by omega), Nat.add_sub_cancel_left]
  have e0 : (tv 0).v = op := i64_same (n := op) hop
  have e1 : (tv 1).v = a := i64_same ha
  have e2 : (tv 2).v = b := i64_same hb
  have e3 : (tv 3).v = c := i64_same hc
  have e4 : (tv 4).v = d := i64_same hd
  have e5 : (tv 5).v = k := i64_same hk
  have e6 : tI.v = i := u32_same hi
  have e7 : (tv 117).v = r 17 := i64_same hr.2
  have hvx : [tv 0, tv 1, tv 2, tv 3, tv 4, tv 5, tI, tv 117].map Tm.v = [op, a, b, c, d, k, i, r 17] := by simp only [List.map, e0, e1, e2, e3, e4, e5, e6, e7]
  have ltv : ∀ {x y : Tm} {t : Bool} {p q : Int}, x.v = p → y.v = q → decide (p < q) = t → (Bm.cmp .lt x y).v = t := fun h1 h2 h3 => by
    simp only [Bm.v, COp.f, h1, h2, h3]
  have l0 : (Tm.lit 0).v = 0 := rfl
  have l15 : (Tm.lit 15).v = 15 := rfl
  have two : ∀ {p q : Bm × Bool}, p.1.v = p.2 → q.1.v = q.2 → FactsOk [p, q] := fun h1 h2 x hx => by
    simp only [List.mem_cons, List.not_mem_nil, or_false] at hx
    rcases hx with rfl | rfl
    · exact h1
    · exact h2
  have three : ∀ {p q s : Bm × Bool}, p.1.v = p.2 → q.1.v = q.2 → s.1.v = s.2 → FactsOk [p, q, s] := fun h1 h2 h3 x hx => by
    simp only [List.mem_cons, List.not_mem_nil, or_false] at hx
    rcases hx with rfl | rfl | rfl
    · exact h1
    · exact h2
    · exact h3
  have one : ∀ {p : Bm × Bool}, p.1.v = p.2 → FactsOk [p] := fun h1 x hx => by
    simp only [List.mem_singleton] at hx; subst hx; exact h1
  have dt : ∀ {p : Prop} [Decidable p], p → decide p = true := fun h => decide_eq_true h
  have df : ∀ {p : Prop} [Decidable p], ¬ p → decide p = false := fun h => decide_eq_false h
  by_cases b0 : b < 0
  · by_cases cb : c < b
    · exact ts_run I hr hI hvx (three (ltv e2 l0 (dt b0)) (ltv e3 e2 (dt cb)) (ltv e3 l0 (dt (by omega)))) ts_B0a w
    · exact ts_run I hr hI hvx (two (ltv e2 l0 (dt b0)) (ltv e3 e2 (df cb))) ts_B0b w
  by_cases c0 : c < 0
  · exact ts_run I hr hI hvx (two (ltv e3 l0 (dt c0)) (ltv e3 e2 (dt (by omega)))) ts_C0a w
  by_cases b1 : 15 < b
  · by_cases bc : b < c
    · exact ts_run I hr hI hvx (three (ltv l15 e2 (dt b1)) (ltv e2 e3 (dt bc)) (ltv l15 e3 (dt (by omega)))) ts_B1a w
    · exact ts_run I hr hI hvx (two (ltv l15 e2 (dt b1)) (ltv e2 e3 (df bc))) ts_B1b w
  by_cases c1 : 15 < c
  · exact ts_run I hr hI hvx (two (ltv l15 e3 (dt c1)) (ltv e2 e3 (dt (by omega)))) ts_C1a w
  have g2 : (tr 2).v = b := u8_16 (n := b) ⟨by omega, by omega⟩
  have g3 : (tr 3).v = c := u8_16 (n := c) ⟨by omega, by omega⟩
  have hvy : [tv 0, tv 1, tr 2, tr 3, tv 4, tv 5, tI, tv 117].map Tm.v = [op, a, b, c, d, k, i, r 17] := by simp only [List.map, e0, e1, g2, g3, e4, e5, e6, e7]
  by_cases ho : op ∈ tsOps
  case neg =>
    refine ts_run I hr hI hvy (fun p hp => ?_) ts_No w
    obtain ⟨q, hq, rfl⟩ := List.mem_map.1 hp
    show ((tv 0).v == q) = false
    rw [e0]; exact beq_eq_false_iff_ne.2 (no_op ho hq)
  by_cases f0 : r 17 < 0
  · exact ts_run I hr hI hvy (one (ltv e7 l0 (dt f0))) ts_F0 w
  by_cases f1 : 15 < r 17
  · exact ts_run I hr hI hvy (one (ltv l15 e7 (dt f1))) ts_F1 w
  have vl : ∀ {t0 t1 t2 t3 t4 t5 t6 : Tm}, t0.v = op → t1.v = a → t2.v = b → t3.v = c → t4.v = d → t5.v = k → t6.v = i → (tsVl t0 t1 t2 t3 t4 t5 t6).v = validF ⟨op, a, b, c, d, k, i⟩ := fun h0 h1 h2 h3 h4 h5 h6 => by
    simp only [tsVl, Bm.v, Tms.v, h0, h1, h2, h3, h4, h5, h6]
    rfl
  cases hval : validF ⟨op, a, b, c, d, k, i⟩ with
  | false => exact ts_run I hr hI hvy (one ((vl e0 e1 g2 g3 e4 e5 e6).trans hval)) ts_NV w
  | true =>
    obtain ⟨wa, wd, wk, wi⟩ := valid_rng ho hk hval
    have g1 : (tr 1).v = a := u8_16 (n := a) wa
    have g4 : (tr 4).v = d := u8_16 (n := d) wd
    have g5 : tK.v = k := i8_same (n := k) wk
    have g7 : (tr 117).v = r 17 := u8_16 (n := r 17) ⟨by omega, by omega⟩
    have go : ∀ {t6 : Tm} (h6 : t6.v = i), (tsT Tryz.prog (tsOp op t6) (.lit op) (tr 1) (tr 2) (tr 3) (tr 4) tK t6 (tr 117)).trueF (tsOp op t6) = true →
        Calls Tryz.prog 3 #[insV op a b c d k i, cpuV r] w fun e w' => e = .returned (.bool true) ∧ New w w' := fun {t6} h6 ht => by
      refine ts_run I hr hI ?_ (one ((vl rfl g1 g2 g3 g4 g5 h6).trans hval)) ht w
      simp only [List.map, g1, g2, g3, g4, g5, g7, h6]
      rfl
    have z6 : op < 64 → (Tm.lit 0).v = i := fun h => (wi h).symm
    clear vl hval hvx hvy wi
    simp only [tsOps, List.mem_cons, List.not_mem_nil, or_false] at ho
    rcases ho with rfl | rfl | rfl | rfl | rfl | rfl | rfl | rfl | rfl | rfl | rfl | rfl | rfl | rfl | rfl | rfl | rfl | rfl
    · exact go (z6 (by decide)) ts_op3
    · exact go (z6 (by decide)) ts_op4
    · exact go (z6 (by decide)) ts_op5
    · exact go (z6 (by decide)) ts_op6
    · exact go (z6 (by decide)) ts_op7
    · exact go (z6 (by decide)) ts_op8
    · exact go (z6 (by decide)) ts_op9
    · exact go (z6 (by decide)) ts_op10
    · exact go (z6 (by decide)) ts_op16
    · exact go (z6 (by decide)) ts_op17
    · exact go (z6 (by decide)) ts_op18
    · exact go (z6 (by decide)) ts_op19
    · exact go (z6 (by decide)) ts_op22
    · exact go (z6 (by decide)) ts_op23
    · exact go (z6 (by decide)) ts_op24
    · exact go (z6 (by decide)) ts_op47
    · exact go e6 ts_op65
    · exact go e6 ts_op72

theorem thunkStep_own : ownKnob Tryz.prog.godebug = none := by kernel_rfl
set_option maxRecDepth 100000 in
theorem thunkStep_lifted (os : Os) (started : os.Started) (H : Type) (enc : TypeId × Value → H) :
    ReturnsInHanded {} Tryz.checked os 3 .any (Rows.thunkStepSpec.pre6 enc Tryz.prog Tryz.f3 Rows.thunkStepRow.domain false) (Rows.thunkStepSpec.post enc Tryz.prog Tryz.f3 false true false false) := by
  refine returnsInHanded_of_change (C := Tryz.checked) thunkStep_own started (by kernel_rfl) Tryz.func3
    (ChangeSpec.witness6 (enc := enc) (C := Tryz.checked) false ⟨#[], #[.agg #[.int .i64 0, .int .i64 0, .int .i64 0, .int .i64 0, .int .i64 0, .int .i64 0, .int .u32 0], .agg #[.int .u32 0, .int .u32 0, .int .u32 0, .int .u32 0, .int .u32 0, .int .u32 0, .int .u32 0, .int .u32 0, .int .u32 0, .int .u32 0, .int .u32 0, .int .u32 0, .int .u32 0, .int .u32 0, .int .u32 0, .int .u32 0, .int .u32 0, .int .i64 0, .int .u32 0, .int .u32 0, .int .u32 0, .int .u32 0, .int .u32 0, .int .u32 0, .int .u32 0, .int .u32 0, .int .u32 0, .int .u32 0, .int .u32 0, .int .u32 0, .int .u32 0, .int .u32 0, .int .u32 0, .int .u32 0, .int .u32 0, .int .u32 0, .int .u32 0, .int .u32 0, .int .u32 0, .int .u32 0, .int .u32 0, .int .u32 0, .int .u32 0, .int .u32 0, .int .u32 0, .int .u32 0, .int .u32 0, .int .u32 0, .int .u32 0, .int .u32 0]], []⟩ 8 (by kernel_rfl) (by kernel_rfl) (by kernel_rfl) (by kernel_rfl)) ?_
  intro W base args ds gs before hval0 hW hcnd _
  have hval : ∀ (j : Nat) t v, Tryz.f3.params[j]? = some t → args[j]? = some v → Value.okWide Tryz.prog W .any base t v := hval0
  have hW' := hW
  obtain ⟨p, q, hA0, hV, rfl, hfz, hnd⟩ := hW
  have hA : DataW.TrodAll enc Tryz.prog W 0 (fun _ => true) true Tryz.f3.params.toList args.toList ds p := hA0
  rw [Tryz.params3] at hA hval
  obtain ⟨v0, vs0, d0, ds0, p0, q0, hargs, rfl, rfl, h0, r0⟩ := trodAll_cons hA
  obtain ⟨v1, vs1, d1, ds1, p1, q1, rfl, rfl, rfl, h1, r1⟩ := trodAll_cons r0
  obtain ⟨rfl, rfl, rfl⟩ := trodAll_nil r1
  obtain rfl : args = #[v0, v1] := by cases args; simp_all
  obtain ⟨x0, x1, x2, x3, x4, x5, x6, rfl, y0, y1, y2, y3, y4, y5, y6⟩ := open_insn (hval 0 24 v0 rfl rfl) h0
  obtain ⟨c1, rfl, w1⟩ := open_cpu (hval 1 30 v1 rfl rfl) h1
  exact (thunkStep_c x0 x1 x2 x3 x4 x5 x6 c1 y0 y1 y2 y3 y4 y5 y6 w1 W).mono fun e W' ⟨he, hg⟩ =>
    ⟨_, he, law_post (tb := 4) (by kernel_rfl) (by decide +kernel) rfl Tryz.underlying4 rfl hW' rfl hg⟩
theorem thunkStep_holds : Rows.ThunkStepSaid :=
  OpenClaim.holds_of_wide 3 Tryz.f3 rfl rfl rfl rfl rfl rfl rfl ⟨rfl, rfl, rfl, rfl, rfl⟩ rfl rfl rfl rfl rfl (by kernel_rfl) Tryz.func3 (by kernel_rfl)
    (of_decide_eq_true (by kernel_rfl)) (by unfold Func.isWrapper; first | (rw [if_pos (by decide +kernel)]; kernel_rfl) | (rw [if_neg (by decide +kernel)]; exact ⟨rfl, rfl⟩))
    (fun os started H enc _ => thunkStep_lifted os started H enc)
#print axioms thunkStep_holds
end Go.Proofs.YtkfocpgcdndpnaaGreat
