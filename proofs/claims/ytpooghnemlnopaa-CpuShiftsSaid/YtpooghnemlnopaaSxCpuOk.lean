/- The contracts of cpu for runs: all of them together. -/
import Derived.Test.YtpooghnemlnopaaSxCpu
namespace Go.Proofs.Ytpooghnemlnopaa
open Go Go.Sx Go.RowKit Go.Cd Go.MapKept
set_option linter.unusedVariables false
section
variable (ints : Nat → Int) (bools : Nat → Bool)
theorem vec4_ok [Val] {x : SV} {l : List SI} {ρ : Env} {v : Value} (h : vec4 x = some l) (hx : x.Den ρ v) : ∃ a b c d, l = [a, b, c, d] ∧ v = vecV (fun k => [a.v, b.v, c.v, d.v].getD k 0) ∧ VcOk (fun k => [a.v, b.v, c.v, d.v].getD k 0) := by
  unfold vec4 at h
  split at h <;> try (cases h; done)
  rename_i a b c d
  split at h <;> cases h
  rename_i ha hb hc hd
  have ha := word_ok ha
  have hb := word_ok hb
  have hc := word_ok hc
  have hd := word_ok hd
  simp only [SV.Den] at hx
  obtain ⟨vs, hvs, rfl⟩ := hx
  obtain ⟨x0, _, rfl, h0, r0⟩ := denL_cons.1 hvs
  obtain ⟨x1, _, rfl, h1, r1⟩ := denL_cons.1 r0
  obtain ⟨x2, _, rfl, h2, r2⟩ := denL_cons.1 r1
  obtain ⟨x3, _, rfl, h3, r3⟩ := denL_cons.1 r2
  rw [denL_nil] at r3
  simp only [SV.Den] at h0 h1 h2 h3
  subst h0 h1 h2 h3 r3
  refine ⟨a, b, c, d, rfl, rfl, fun k hk => ?_⟩
  match k, hk with
  | 0, _ => exact ha
  | 1, _ => exact hb
  | 2, _ => exact hc
  | 3, _ => exact hd
theorem mask_pure : letI := cpuVal ints bools; ∀ f, f = 19 ∨ f = 20 → ∀ args v, maskS args = some v → ∀ (ρ : Env) (vs : List Value) (w : World), SV.DenL ρ args vs → Calls Try.prog f vs.toArray w fun e w' => ∃ x, e = .returned x ∧ v.Den ρ x ∧ New w w' := by
  letI := cpuVal ints bools
  intro f hf args v h ρ vs w hd
  unfold maskS at h
  split at h <;> try (cases h; done)
  rename_i x
  split at h <;> cases h
  rename_i l hl
  obtain ⟨x0, _, rfl, h0, r0⟩ := denL_cons.1 hd
  rw [denL_nil] at r0; subst r0
  obtain ⟨a, b, c, d, rfl, rfl, hok⟩ := vec4_ok hl h0
  have hbd := maskTo_bd (fun k => [a.v, b.v, c.v, d.v].getD k 0) 16
  have key : ∀ e w', (e = Ending.returned (.int .u32 (maskTo (fun k => [a.v, b.v, c.v, d.v].getD k 0) 16)) ∧ New w w') → ∃ x, e = .returned x ∧ (SV.int .u32 (fnI .u32 3 [a, b, c, d])).Den ρ x ∧ New w w' := by
    rintro e w' ⟨rfl, hn⟩
    refine ⟨_, rfl, ?_, hn⟩
    simp only [SV.Den, fnI, SI.sym_v, Tm.v, tms_v, List.map]
    show Value.int .u32 _ = .int .u32 (IntKind.u32.wrap (maskTo (fun k => [a.v, b.v, c.v, d.v].getD k 0) 16))
    rw [u32_wrap hbd]
  rcases hf with rfl | rfl
  · exact (mask_c _ w hok).mono key
  · exact (rmask_c _ w hok).mono key
end
def VBd (t : Vc × Bool) : Prop := ∀ k, k < 4 → 0 ≤ t.1 k ∧ t.1 k < 4294967296
theorem VBd.ite {c : Prop} [Decidable c] {x y : Vc × Bool} (hx : c → VBd x) (hy : ¬ c → VBd y) : VBd (if c then x else y) := by
  by_cases h : c
  · rw [if_pos h]; exact hx h
  · rw [if_neg h]; exact hy h
theorem or_bd (x y : Int) : 0 ≤ bits .or .u32 x y ∧ bits .or .u32 x y < 4294967296 := ⟨bits_nonneg _ _ _, bits_lt _ _ _⟩
theorem zero_bd : (0 : Int) ≤ 0 ∧ (0 : Int) < 4294967296 := by decide
theorem byLanes_bd (op d a b : Int) : 0 ≤ byLanesF op d a b ∧ byLanesF op d a b < 4294967296 := by
  have key : ∀ (l : List (Int × Int)) (o : Int), 0 ≤ o ∧ o < 4294967296 → 0 ≤ l.foldl (laneSt op a b) o ∧ l.foldl (laneSt op a b) o < 4294967296 := fun l => by
    induction l with
    | nil => exact fun o h => h
    | cons p l ih => exact fun o h => ih _ (or_bd _ _)
  exact key _ 0 zero_bd
theorem shuf_bd (a b : Vc) : ∀ n k, 0 ≤ shufTo a b n k ∧ shufTo a b n k < 4294967296
  | 0, k => zero_bd
  | n + 1, k => by
    unfold shufTo setV
    split
    · exact or_bd _ _
    · exact shuf_bd a b n k
theorem VBd.of {v : Vc} {t : Bool} (h : ∀ k, k < 4 → 0 ≤ v k ∧ v k < 4294967296) : VBd (v, t) := h
theorem lanesTo_bd (op d : Int) (a b : Vc) (k : Nat) (hk : k < 4) : 0 ≤ lanesTo op d a b 4 k ∧ lanesTo op d a b 4 k < 4294967296 := by
  unfold lanesTo; rw [if_pos hk]; exact byLanes_bd _ _ _ _
theorem lanesV_bd (op d : Int) (a b : Vc) : VBd (lanesV op d a b) := by
  unfold lanesV
  refine VBd.ite (fun _ => VBd.ite (fun _ => VBd.of fun k hk => zero_bd) fun _ => VBd.of fun k hk => lanesTo_bd op d a b k hk) fun _ => ?_
  refine VBd.ite (fun _ => VBd.of fun k hk => ⟨bits_nonneg _ _ _, bits_lt _ _ _⟩) fun _ => ?_
  refine VBd.ite (fun _ => VBd.of fun k hk => ⟨bits_nonneg _ _ _, bits_lt _ _ _⟩) fun _ => ?_
  refine VBd.ite (fun _ => VBd.of fun k hk => ⟨bits_nonneg _ _ _, bits_lt _ _ _⟩) fun _ => ?_
  exact VBd.ite (fun _ => VBd.of fun k hk => shuf_bd a b 16 k) fun _ => VBd.of fun k hk => zero_bd
section
variable (ints : Nat → Int) (bools : Nat → Bool)
theorem lanes_pure : letI := cpuVal ints bools; ∀ args v, lanesS args = some v → ∀ (ρ : Env) (vs : List Value) (w : World), SV.DenL ρ args vs → Calls Try.prog 12 vs.toArray w fun e w' => ∃ x, e = .returned x ∧ v.Den ρ x ∧ New w w' := by
  letI := cpuVal ints bools
  intro args v h ρ vs w hd
  unfold lanesS at h
  split at h <;> try (cases h; done)
  rename_i op d x y
  split at h <;> try (cases h; done)
  rename_i la lb hla hlb
  obtain ⟨x0, _, rfl, h0, r0⟩ := denL_cons.1 hd
  obtain ⟨x1, _, rfl, h1, r1⟩ := denL_cons.1 r0
  obtain ⟨x2, _, rfl, h2, r2⟩ := denL_cons.1 r1
  obtain ⟨x3, _, rfl, h3, r3⟩ := denL_cons.1 r2
  rw [denL_nil] at r3; subst r3
  simp only [SV.Den] at h0 h1
  subst h0 h1
  obtain ⟨a0, a1, a2, a3, rfl, rfl, hoka⟩ := vec4_ok hla h2
  obtain ⟨b0, b1, b2, b3, rfl, rfl, hokb⟩ := vec4_ok hlb h3
  cases h
  have hbd := lanesV_bd op.v d.v (fun k => [a0.v, a1.v, a2.v, a3.v].getD k 0) (fun k => [b0.v, b1.v, b2.v, b3.v].getD k 0)
  refine (lanesc_c op.v d.v _ _ w hoka hokb).mono ?_
  rintro e w' ⟨rfl, hn⟩
  refine ⟨_, rfl, ?_, hn⟩
  simp only [SV.Den]
  refine ⟨[_, _], denL_cons'.2 ⟨?_, denL_cons'.2 ⟨?_, by simp⟩⟩, rfl⟩
  · simp only [SV.Den]
    refine ⟨[_, _, _, _], denL_cons'.2 ⟨?_, denL_cons'.2 ⟨?_, denL_cons'.2 ⟨?_, denL_cons'.2 ⟨?_, by simp⟩⟩⟩⟩, rfl⟩
    · simp only [SV.Den, fnI, SI.sym_v, Tm.v, tms_v, List.map, List.cons_append, List.nil_append]
      exact congrArg (Value.int .u32) (u32_wrap (hbd 0 (by decide))).symm
    · simp only [SV.Den, fnI, SI.sym_v, Tm.v, tms_v, List.map, List.cons_append, List.nil_append]
      exact congrArg (Value.int .u32) (u32_wrap (hbd 1 (by decide))).symm
    · simp only [SV.Den, fnI, SI.sym_v, Tm.v, tms_v, List.map, List.cons_append, List.nil_append]
      exact congrArg (Value.int .u32) (u32_wrap (hbd 2 (by decide))).symm
    · simp only [SV.Den, fnI, SI.sym_v, Tm.v, tms_v, List.map, List.cons_append, List.nil_append]
      exact congrArg (Value.int .u32) (u32_wrap (hbd 3 (by decide))).symm
  · simp only [SV.Den, fnB, SB.sym_v, Bm.v, tms_v, List.map, List.cons_append, List.nil_append]
    rfl
end
theorem cpuPure_ok (ints : Nat → Int) (bools : Nat → Bool) : letI := cpuVal ints bools; PureOk Try.prog cpuPure := by
  letI := cpuVal ints bools
  intro f args v h ρ vs w hd
  unfold cpuPure at h
  split at h
  · split at h <;> cases h
    rw [denL_nil] at hd; subst hd
    refine (sane_c w).mono ?_
    rintro e w' ⟨rfl, hn⟩
    exact ⟨_, rfl, by simp only [SV.Den, SB.lit_v], hn⟩
  · exact alu_pure ints bools _ (.inl rfl) args v h ρ vs w hd
  · exact alu_pure ints bools _ (.inr rfl) args v h ρ vs w hd
  · exact holds_pure ints bools _ (.inl rfl) args v h ρ vs w hd
  · exact holds_pure ints bools _ (.inr rfl) args v h ρ vs w hd
  · exact ext_pure ints bools _ (.inl rfl) args v h ρ vs w hd
  · exact ext_pure ints bools _ (.inr rfl) args v h ρ vs w hd
  · exact mask_pure ints bools _ (.inl rfl) args v h ρ vs w hd
  · exact mask_pure ints bools _ (.inr rfl) args v h ρ vs w hd
  · exact lanes_pure ints bools args v h ρ vs w hd
  · cases h
end Go.Proofs.Ytpooghnemlnopaa
