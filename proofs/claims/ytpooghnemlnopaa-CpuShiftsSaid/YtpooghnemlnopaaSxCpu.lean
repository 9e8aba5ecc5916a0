/- The contracts of cpu, and of its specification, for runs. -/
import Derived.Test.YtpooghnemlnopaaSxSane
import Derived.Test.YtpooghnemlnopaaCAlu
import Derived.Test.YtpooghnemlnopaaCRalu
import Derived.Test.YtpooghnemlnopaaCHolds
import Derived.Test.YtpooghnemlnopaaCNum3
import Derived.Test.YtpooghnemlnopaaCLanes4
namespace Go.Proofs.Ytpooghnemlnopaa
open Go Go.Sx Go.RowKit Go.Cd Go.MapKept
set_option linter.unusedVariables false

def tms : List SI → Tms
  | [] => .nil
  | a :: l => .cons a.tm (tms l)
theorem tms_v [Val] : ∀ l : List SI, (tms l).v = l.map SI.v
  | [] => by simp [tms, Tms.v]
  | a :: l => by simp [tms, Tms.v, tms_v l]
def fnI (k : IntKind) (f : Nat) (l : List SI) : SI := .sym (.fn k f (tms l))
def fnB (f : Nat) (l : List SI) : SB := .sym (.fn f (tms l))
/-- The plain functions by their numbers. -/
def cpuFi : Nat → List Int → Int
  | 0, [op, a, b, k] => (aluT op a b k).1
  | 1, [op, a, b, k] => (aluT op a b k).2.1
  | 2, [d, a] => (extT d a).1
  | 3, [a, b, c, d] => maskTo (fun k => [a, b, c, d].getD k 0) 16
  | 10, [op, d, a0, a1, a2, a3, b0, b1, b2, b3] => (lanesV op d (fun k => [a0, a1, a2, a3].getD k 0) (fun k => [b0, b1, b2, b3].getD k 0)).1 0
  | 11, [op, d, a0, a1, a2, a3, b0, b1, b2, b3] => (lanesV op d (fun k => [a0, a1, a2, a3].getD k 0) (fun k => [b0, b1, b2, b3].getD k 0)).1 1
  | 12, [op, d, a0, a1, a2, a3, b0, b1, b2, b3] => (lanesV op d (fun k => [a0, a1, a2, a3].getD k 0) (fun k => [b0, b1, b2, b3].getD k 0)).1 2
  | 13, [op, d, a0, a1, a2, a3, b0, b1, b2, b3] => (lanesV op d (fun k => [a0, a1, a2, a3].getD k 0) (fun k => [b0, b1, b2, b3].getD k 0)).1 3
  | _, _ => 0
def cpuFb : Nat → List Int → Bool
  | 0, [op, a, b, k] => (aluT op a b k).2.2
  | 1, [cd, f] => holdsF cd f
  | 2, [d, a] => (extT d a).2
  | 3, [op, d, a0, a1, a2, a3, b0, b1, b2, b3] => (lanesV op d (fun k => [a0, a1, a2, a3].getD k 0) (fun k => [b0, b1, b2, b3].getD k 0)).2
  | _, _ => false
@[reducible] def cpuVal (ints : Nat → Int) (bools : Nat → Bool) : Val := ⟨ints, bools, cpuFi, cpuFb⟩
/-- Has an operation of words a result? -/
def aluIs (op a b k : SI) : SB :=
  match op with
  | .lit (.ofNat n) => match Nat.ble 3 n with
    | true => match Nat.ble n 12 with
      | true => .lit true
      | false => match Nat.ble n 15 with
        | true => SI.cmp .ne b (.lit 0)
        | false => match Nat.ble n 17 with
          | true => .lit true
          | false => fnB 0 [op, a, b, k]
    | false => fnB 0 [op, a, b, k]
  | _ => fnB 0 [op, a, b, k]
def word (a : SI) : Bool := a.within 0 4294967295
theorem word_ok [Val] {a : SI} (h : word a = true) : 0 ≤ a.v ∧ a.v < 4294967296 := by
  have := SI.within_ok h
  omega
def aluS : List SV → Option SV
  | [.int .i64 op, .int .u32 a, .int .u32 b, .int .i64 k] => match word a, word b with
    | true, true => some (.tup [.int .u32 (fnI .u32 0 [op, a, b, k]), .int .i64 (fnI .i64 1 [op, a, b, k]), .bool (aluIs op a b k)])
    | _, _ => none
  | _ => none
def holdsS : List SV → Option SV
  | [.int .i64 cd, .int .i64 f] => some (.bool (fnB 1 [cd, f]))
  | _ => none
def extS : List SV → Option SV
  | [.int .i64 d, .int .u32 a] => match word a with
    | true => some (.tup [.int .u32 (fnI .u32 2 [d, a]), .bool (fnB 2 [d, a])])
    | false => none
  | _ => none
def vec4 : SV → Option (List SI)
  | .agg [.int .u32 a, .int .u32 b, .int .u32 c, .int .u32 d] => match word a, word b, word c, word d with
    | true, true, true, true => some [a, b, c, d]
    | _, _, _, _ => none
  | _ => none
def maskS : List SV → Option SV
  | [x] => match vec4 x with
    | some l => some (.int .u32 (fnI .u32 3 l))
    | none => none
  | _ => none
def lanesS : List SV → Option SV
  | [.int .i64 op, .int .i64 d, x, y] => match vec4 x, vec4 y with
    | some a, some b => match op :: d :: (a ++ b) with
      | l => some (.tup [.agg [.int .u32 (fnI .u32 10 l), .int .u32 (fnI .u32 11 l), .int .u32 (fnI .u32 12 l), .int .u32 (fnI .u32 13 l)], .bool (fnB 3 l)])
    | _, _ => none
  | _ => none
def cpuPure : Pure := fun f args =>
  match f with
  | 9 => match args with
    | [] => some (.bool (.lit true))
    | _ => none
  | 10 => aluS args
  | 13 => aluS args
  | 11 => holdsS args
  | 16 => holdsS args
  | 17 => extS args
  | 18 => extS args
  | 19 => maskS args
  | 20 => maskS args
  | 12 => lanesS args
  | _ => none
theorem flagNum_bd (z n c v : Bool) : 0 ≤ flagNum z n c v ∧ flagNum z n c v ≤ 15 := by cases z <;> cases n <;> cases c <;> cases v <;> decide
def AluBd (t : Int × Int × Bool) : Prop := (0 ≤ t.1 ∧ t.1 < 4294967296) ∧ (0 ≤ t.2.1 ∧ t.2.1 ≤ 15)
theorem AluBd.ite {c : Prop} [Decidable c] {x y : Int × Int × Bool} (hx : c → AluBd x) (hy : ¬ c → AluBd y) : AluBd (if c then x else y) := by
  by_cases h : c
  · rw [if_pos h]; exact hx h
  · rw [if_neg h]; exact hy h
theorem aluT_bd (op a b k : Int) (ha : 0 ≤ a ∧ a < 4294967296) (hb : 0 ≤ b ∧ b < 4294967296) : AluBd (aluT op a b k) := by
  have hm : 0 ≤ a * b := Int.mul_nonneg ha.1 hb.1
  have hm2 : a * b < 4294967296 * 4294967296 := by
    have h1 : a * b ≤ a * 4294967296 := Int.mul_le_mul_of_nonneg_left (by omega) ha.1
    have h2 : a * 4294967296 < 4294967296 * 4294967296 := by omega
    omega
  unfold aluT
  repeat' (apply AluBd.ite <;> intro)
  all_goals unfold AluBd
  all_goals refine ⟨?_, ?_⟩
  all_goals (try dsimp only)
  all_goals first
    | exact flagNum_bd _ _ _ _
    | exact ⟨bits_nonneg _ _ _, bits_lt _ _ _⟩
    | exact shlR_bd _ _
    | exact shrR_bd _ _ ha
    | (simp only [sumR, difR, sarR, divS]; exact ⟨Int.emod_nonneg _ (by decide), Int.emod_lt_of_pos _ (by decide)⟩)
    | omega
    | exact ⟨Int.ediv_nonneg ha.1 hb.1, Int.lt_of_le_of_lt (Int.ediv_le_self _ ha.1) ha.2⟩
    | exact ⟨Int.emod_nonneg _ (by omega), Int.lt_trans (Int.emod_lt_of_pos _ (by omega)) hb.2⟩
theorem extT_bd (d a : Int) : 0 ≤ (extT d a).1 ∧ (extT d a).1 < 4294967296 := by
  unfold extT
  repeat' split
  all_goals (try dsimp only)
  all_goals omega
theorem u32_wrap {n : Int} (h : 0 ≤ n ∧ n < 4294967296) : IntKind.u32.wrap n = n := wrap_same _ h.1 (by have := h.2; show n ≤ 4294967295; omega)
theorem i64_wrap {n : Int} (h : 0 ≤ n ∧ n ≤ 15) : IntKind.i64.wrap n = n := wrap_same _ (by have := h.1; show (-9223372036854775808 : Int) ≤ n; omega) (by have := h.2; show n ≤ 9223372036854775807; omega)
section
variable (ints : Nat → Int) (bools : Nat → Bool)
theorem alu_pure : letI := cpuVal ints bools; ∀ f, f = 10 ∨ f = 13 → ∀ args v, aluS args = some v → ∀ (ρ : Env) (vs : List Value) (w : World), SV.DenL ρ args vs → Calls Try.prog f vs.toArray w fun e w' => ∃ x, e = .returned x ∧ v.Den ρ x ∧ New w w' := by
  letI := cpuVal ints bools
  intro f hf args v h ρ vs w hd
  unfold aluS at h
  split at h <;> try (cases h; done)
  rename_i op a b k
  split at h <;> cases h
  rename_i ha hb
  have ha := word_ok ha
  have hb := word_ok hb
  obtain ⟨x0, _, rfl, h0, r0⟩ := denL_cons.1 hd
  obtain ⟨x1, _, rfl, h1, r1⟩ := denL_cons.1 r0
  obtain ⟨x2, _, rfl, h2, r2⟩ := denL_cons.1 r1
  obtain ⟨x3, _, rfl, h3, r3⟩ := denL_cons.1 r2
  rw [denL_nil] at r3
  simp only [SV.Den] at h0 h1 h2 h3
  subst h0 h1 h2 h3 r3
  have hbd := aluT_bd op.v a.v b.v k.v ha hb
  have key : ∀ e w', AluPost (aluT op.v a.v b.v k.v) w e w' → ∃ x, e = .returned x ∧ (SV.tup [.int .u32 (fnI .u32 0 [op, a, b, k]), .int .i64 (fnI .i64 1 [op, a, b, k]), .bool (aluIs op a b k)]).Den ρ x ∧ New w w' := by
    rintro e w' ⟨rfl, hn⟩
    refine ⟨_, rfl, ?_, hn⟩
    simp only [SV.Den]
    refine ⟨[_, _, _], denL_cons'.2 ⟨?_, denL_cons'.2 ⟨?_, denL_cons'.2 ⟨?_, by simp⟩⟩⟩, rfl⟩
    · simp only [SV.Den, fnI, SI.sym_v, Tm.v, tms_v, List.map]
      show Value.int .u32 _ = .int .u32 (IntKind.u32.wrap (aluT op.v a.v b.v k.v).1)
      rw [u32_wrap hbd.1]
    · simp only [SV.Den, fnI, SI.sym_v, Tm.v, tms_v, List.map]
      show Value.int .i64 _ = .int .i64 (IntKind.i64.wrap (aluT op.v a.v b.v k.v).2.1)
      rw [i64_wrap hbd.2]
    · simp only [SV.Den]
      have hfn : (aluT op.v a.v b.v k.v).2.2 = (fnB 0 [op, a, b, k]).v := by
        simp only [fnB, SB.sym_v, Bm.v, tms_v, List.map]
        rfl
      unfold aluIs
      split
      · rename_i n
        split
        · rename_i q1
          have q1 := Nat.le_of_ble_eq_true q1
          split
          · rename_i q2
            have q2 := Nat.le_of_ble_eq_true q2
            have hn : n = 3 ∨ n = 4 ∨ n = 5 ∨ n = 6 ∨ n = 7 ∨ n = 8 ∨ n = 9 ∨ n = 10 ∨ n = 11 ∨ n = 12 := by omega
            simp only [SI.lit_v, SB.lit_v]
            rcases hn with rfl | rfl | rfl | rfl | rfl | rfl | rfl | rfl | rfl | rfl <;> rfl
          · rename_i q2
            have q2 : ¬ n ≤ 12 := fun h => by rw [Nat.ble_eq_true_of_le h] at q2; cases q2
            split
            · rename_i q3
              have q3 := Nat.le_of_ble_eq_true q3
              have hn : n = 13 ∨ n = 14 ∨ n = 15 := by omega
              rw [SI.cmp_v]
              simp only [SI.lit_v, COp.f]
              have hz : (b.v != 0) = !decide (b.v = 0) := by rw [Bool.eq_iff_iff]; simp
              rw [hz]
              rcases hn with rfl | rfl | rfl
              · show Value.bool (aluT 13 a.v b.v k.v).2.2 = _
                by_cases h0 : b.v = 0
                · simp [aluT, h0]
                · simp [aluT, h0]
              · show Value.bool (aluT 14 a.v b.v k.v).2.2 = _
                by_cases h0 : b.v = 0
                · simp [aluT, h0]
                · simp [aluT, h0]
              · show Value.bool (aluT 15 a.v b.v k.v).2.2 = _
                by_cases h0 : b.v = 0
                · simp [aluT, h0]
                · simp [aluT, h0]
            · rename_i q3
              have q3 : ¬ n ≤ 15 := fun h => by rw [Nat.ble_eq_true_of_le h] at q3; cases q3
              split
              · rename_i q4
                have q4 := Nat.le_of_ble_eq_true q4
                have hn : n = 16 ∨ n = 17 := by omega
                simp only [SI.lit_v, SB.lit_v]
                rcases hn with rfl | rfl <;> rfl
              · rw [hfn]
        · rw [hfn]
      · rw [hfn]
  rcases hf with rfl | rfl
  · exact (alu_c _ _ _ _ w ha hb).mono key
  · exact (ralu_c _ _ _ _ w ha hb).mono key
theorem holds_pure : letI := cpuVal ints bools; ∀ f, f = 11 ∨ f = 16 → ∀ args v, holdsS args = some v → ∀ (ρ : Env) (vs : List Value) (w : World), SV.DenL ρ args vs → Calls Try.prog f vs.toArray w fun e w' => ∃ x, e = .returned x ∧ v.Den ρ x ∧ New w w' := by
  letI := cpuVal ints bools
  intro f hf args v h ρ vs w hd
  unfold holdsS at h
  split at h <;> cases h
  rename_i cd fl
  obtain ⟨x0, _, rfl, h0, r0⟩ := denL_cons.1 hd
  obtain ⟨x1, _, rfl, h1, r1⟩ := denL_cons.1 r0
  rw [denL_nil] at r1
  simp only [SV.Den] at h0 h1
  subst h0 h1 r1
  have key : ∀ e w', (e = Ending.returned (.bool (holdsF cd.v fl.v)) ∧ New w w') → ∃ x, e = .returned x ∧ (SV.bool (fnB 1 [cd, fl])).Den ρ x ∧ New w w' := by
    rintro e w' ⟨rfl, hn⟩
    refine ⟨_, rfl, ?_, hn⟩
    simp only [SV.Den, fnB, SB.sym_v, Bm.v, tms_v, List.map]
    rfl
  rcases hf with rfl | rfl
  · exact (holds_c _ _ w).mono key
  · exact (rholds7_c _ _ w).mono key
theorem ext_pure : letI := cpuVal ints bools; ∀ f, f = 17 ∨ f = 18 → ∀ args v, extS args = some v → ∀ (ρ : Env) (vs : List Value) (w : World), SV.DenL ρ args vs → Calls Try.prog f vs.toArray w fun e w' => ∃ x, e = .returned x ∧ v.Den ρ x ∧ New w w' := by
  letI := cpuVal ints bools
  intro f hf args v h ρ vs w hd
  unfold extS at h
  split at h <;> try (cases h; done)
  rename_i d a
  split at h <;> cases h
  rename_i ha
  have ha := word_ok ha
  obtain ⟨x0, _, rfl, h0, r0⟩ := denL_cons.1 hd
  obtain ⟨x1, _, rfl, h1, r1⟩ := denL_cons.1 r0
  rw [denL_nil] at r1
  simp only [SV.Den] at h0 h1
  subst h0 h1 r1
  have hbd := extT_bd d.v a.v
  have key : ∀ e w', ExtPost (extT d.v a.v) w e w' → ∃ x, e = .returned x ∧ (SV.tup [.int .u32 (fnI .u32 2 [d, a]), .bool (fnB 2 [d, a])]).Den ρ x ∧ New w w' := by
    rintro e w' ⟨rfl, rfl⟩
    refine ⟨_, rfl, ?_, New.refl _⟩
    simp only [SV.Den]
    refine ⟨[_, _], denL_cons'.2 ⟨?_, denL_cons'.2 ⟨?_, by simp⟩⟩, rfl⟩
    · simp only [SV.Den, fnI, SI.sym_v, Tm.v, tms_v, List.map]
      show Value.int .u32 _ = .int .u32 (IntKind.u32.wrap (extT d.v a.v).1)
      rw [u32_wrap hbd]
    · simp only [SV.Den, fnB, SB.sym_v, Bm.v, tms_v, List.map]
      rfl
  rcases hf with rfl | rfl
  · exact (ext_c _ _ w ha).mono key
  · exact (rext_c _ _ w ha).mono key
end
end Go.Proofs.Ytpooghnemlnopaa
