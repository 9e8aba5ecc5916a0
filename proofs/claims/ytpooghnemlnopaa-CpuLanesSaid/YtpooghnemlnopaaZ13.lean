/- Parts of the proof: CLanes4, SxCpu, SxCpuOk, LLanesT, PlainBytes, PlainLanes. -/
import Derived.Test.YtpooghnemlnopaaZ12
import Derived.Test.YtpooghnemlnopaaZ9
import Derived.Test.YtpooghnemlnopaaZ10
import Derived.Test.YtpooghnemlnopaaZ11
/- The contract of cpu.Lanes, the rest. Written by genLanes3.py. -/
namespace Go.Proofs.Ytpooghnemlnopaa
open Go Go.RowKit Go.Cd
set_option linter.unusedVariables false
attribute [local go_sem ↓] exVs exVl Go.wp_at_zero Go.wp_at_succ
set_option maxRecDepth 100000 in
set_option maxHeartbeats 1000000 in
theorem lanes_wide (op d : Int) (a b : Vc) (w : World) (hop : op = 51 ∨ op = 52 ∨ op = 53) (hd : d < 0 ∨ 2 < d) :
    Calls Try.prog 12 #[.int .i64 op, .int .i64 d, vecV a, vecV b] w (LanesPost (lanesV op d a b) w) := by
  have e : lanesV op d a b = (zeroV, false) := by
    unfold lanesV
    rw [if_pos hop, if_pos hd]
  rw [e]
  clear e
  unfold vecV
  rcases hop with rfl | rfl | rfl <;> rcases hd with hd | hd
  all_goals
    go_enter Try.func12, Try.ntmps12
    go_upto_region 4 with (fail)
    obtain ⟨x0, x1, x2, x3, hN⟩ := laid4 w (.cells (vecA a) 32) (.cells (vecA b) 32) (.cells #[.int .u32 0, .int .u32 0, .int .u32 0, .int .u32 0] 32) (.cells #[.int .u32 0, .int .u32 0, .int .u32 0, .int .u32 0] 32)
    generalize (((w.alloc (.cells (vecA a) 32)).alloc (.cells (vecA b) 32)).alloc (.cells #[.int .u32 0, .int .u32 0, .int .u32 0, .int .u32 0] 32)).alloc (.cells #[.int .u32 0, .int .u32 0, .int .u32 0, .int .u32 0] 32) = W at *
    have Y2 := Lib.hid x2
    have Y3 := Lib.hid (show W.heap[w.heap.size + 1 + 1 + 1]? = some (.cells (vecA zeroV) 32) from x3)
    have HN := Lib.hid hN
    clear x0 x1 x2 x3 hN
    go_wp2_with fail
    rw [load_all (P := Try.prog) 32 (w.heap.size + 1 + 1 + 1) (vecA zeroV) 32 _ W Y3.out Try.underlying32 rfl (vec_size.trans rfl)]
    go_wp2_with fail
    obtain ⟨w8, hst, h8, ho8⟩ := store_all (P := Try.prog) 32 (w.heap.size + 1 + 1) _ (vecA zeroV) _ W Y2.out rfl (vec_size.trans rfl) (by simp [vecA, Value.oneCell'])
    rw [hst]
    clear hst
    have N8 := Lib.hid (new_only HN.out ho8 (by omega))
    have X8 := Lib.hid h8
    clear h8 ho8
    go_wp2_with fail
    refine ⟨rfl, _, results_cell_slot Try.results12 _ _ _ _ rfl (load_row 32 (w.heap.size + 1 + 1) (vecA zeroV) 32 _ w8 X8.out Try.underlying32 rfl (vec_size.trans rfl)), ?_⟩
    exact ⟨rfl, N8.out⟩
set_option maxRecDepth 100000 in
set_option maxHeartbeats 1000000 in
theorem lanes_else (op d : Int) (a b : Vc) (w : World) (h : op < 51 ∨ 57 < op) :
    Calls Try.prog 12 #[.int .i64 op, .int .i64 d, vecV a, vecV b] w (LanesPost (lanesV op d a b) w) := by
  have e : lanesV op d a b = (zeroV, false) := by
    unfold lanesV
    rw [if_neg (by omega), if_neg (by omega), if_neg (by omega), if_neg (by omega), if_neg (by omega)]
  rw [e]
  clear e
  have n1 : (op == 51) = false := by simp; omega
  have n2 : (op == 52) = false := by simp; omega
  have n3 : (op == 53) = false := by simp; omega
  have n4 : (op == 54) = false := by simp; omega
  have n5 : (op == 55) = false := by simp; omega
  have n6 : (op == 56) = false := by simp; omega
  have n7 : (op == 57) = false := by simp; omega
  clear h
  unfold vecV
  iterate 1
    go_enter Try.func12, Try.ntmps12
    go_upto_region 4 with (fail)
    obtain ⟨x0, x1, x2, x3, hN⟩ := laid4 w (.cells (vecA a) 32) (.cells (vecA b) 32) (.cells #[.int .u32 0, .int .u32 0, .int .u32 0, .int .u32 0] 32) (.cells #[.int .u32 0, .int .u32 0, .int .u32 0, .int .u32 0] 32)
    generalize (((w.alloc (.cells (vecA a) 32)).alloc (.cells (vecA b) 32)).alloc (.cells #[.int .u32 0, .int .u32 0, .int .u32 0, .int .u32 0] 32)).alloc (.cells #[.int .u32 0, .int .u32 0, .int .u32 0, .int .u32 0] 32) = W at *
    have Y2 := Lib.hid x2
    have Y3 := Lib.hid (show W.heap[w.heap.size + 1 + 1 + 1]? = some (.cells (vecA zeroV) 32) from x3)
    have HN := Lib.hid hN
    clear x0 x1 x2 x3 hN
    go_wp2_with fail
    rw [load_all (P := Try.prog) 32 (w.heap.size + 1 + 1 + 1) (vecA zeroV) 32 _ W Y3.out Try.underlying32 rfl (vec_size.trans rfl)]
    go_wp2_with fail
    obtain ⟨w8, hst, h8, ho8⟩ := store_all (P := Try.prog) 32 (w.heap.size + 1 + 1) _ (vecA zeroV) _ W Y2.out rfl (vec_size.trans rfl) (by simp [vecA, Value.oneCell'])
    rw [hst]
    clear hst
    have N8 := Lib.hid (new_only HN.out ho8 (by omega))
    have X8 := Lib.hid h8
    clear h8 ho8
    go_wp2_with fail
    refine ⟨rfl, _, results_cell_slot Try.results12 _ _ _ _ rfl (load_row 32 (w.heap.size + 1 + 1) (vecA zeroV) 32 _ w8 X8.out Try.underlying32 rfl (vec_size.trans rfl)), ?_⟩
    exact ⟨rfl, N8.out⟩
/-- cpu.Lanes. -/
theorem lanesc_c (op d : Int) (a b : Vc) (w : World) (ha : VcOk a) (hb : VcOk b) :
    Calls Try.prog 12 #[.int .i64 op, .int .i64 d, vecV a, vecV b] w (LanesPost (lanesV op d a b) w) := by
  by_cases h : op < 51 ∨ 57 < op
  · exact lanes_else op d a b w h
  · have h' : op = 51 ∨ op = 52 ∨ op = 53 ∨ op = 54 ∨ op = 55 ∨ op = 56 ∨ op = 57 := by omega
    have hb3 : (op = 51 ∨ op = 52 ∨ op = 53) → Calls Try.prog 12 #[.int .i64 op, .int .i64 d, vecV a, vecV b] w (LanesPost (lanesV op d a b) w) := fun h3 => by
      by_cases hd : d < 0 ∨ 2 < d
      · exact lanes_wide op d a b w h3 hd
      · exact lanes_by op d a b w h3 (by omega) ha hb
    rcases h' with h | h | h | h | h | h | h
    · exact hb3 (.inl h)
    · exact hb3 (.inr (.inl h))
    · exact hb3 (.inr (.inr h))
    · subst h; exact lanes_54 d a b w
    · subst h; exact lanes_55 d a b w
    · subst h; exact lanes_56 d a b w
    · subst h; exact lanes_57 d a b w ha hb
end Go.Proofs.Ytpooghnemlnopaa
/- The contracts of cpu, and of its specification, for runs. -/
namespace Go.Proofs.Ytpooghnemlnopaa
open Go Go.Sx Go.RowKit Go.Cd Go.MapKept
set_option linter.unusedVariables false

def tms : List SI → Tms
  | [] => .nil
  | a :: l => .cons a.tm (tms l)
theorem tms_v [Val] : ∀ l : List SI, (tms l).v = l.map SI.v
  | [] => by simp [tms, Tms.v]
  | a :: l => by simp [tms, Tms.v, tms_v l]
def fnI (k : IntKind) (f : Nat) (l : List SI) : SI := .sym (.fn k f (tms l))
def fnB (f : Nat) (l : List SI) : SB := .sym (.fn f (tms l))
/-- The plain functions by their numbers. -/
def cpuFi : Nat → List Int → Int
  | 0, [op, a, b, k] => (aluT op a b k).1
  | 1, [op, a, b, k] => (aluT op a b k).2.1
  | 2, [d, a] => (extT d a).1
  | 3, [a, b, c, d] => maskTo (fun k => [a, b, c, d].getD k 0) 16
  | 10, [op, d, a0, a1, a2, a3, b0, b1, b2, b3] => (lanesV op d (fun k => [a0, a1, a2, a3].getD k 0) (fun k => [b0, b1, b2, b3].getD k 0)).1 0
  | 11, [op, d, a0, a1, a2, a3, b0, b1, b2, b3] => (lanesV op d (fun k => [a0, a1, a2, a3].getD k 0) (fun k => [b0, b1, b2, b3].getD k 0)).1 1
  | 12, [op, d, a0, a1, a2, a3, b0, b1, b2, b3] => (lanesV op d (fun k => [a0, a1, a2, a3].getD k 0) (fun k => [b0, b1, b2, b3].getD k 0)).1 2
  | 13, [op, d, a0, a1, a2, a3, b0, b1, b2, b3] => (lanesV op d (fun k => [a0, a1, a2, a3].getD k 0) (fun k => [b0, b1, b2, b3].getD k 0)).1 3
  | _, _ => 0
def cpuFb : Nat → List Int → Bool
  | 0, [op, a, b, k] => (aluT op a b k).2.2
  | 1, [cd, f] => holdsF cd f
  | 2, [d, a] => (extT d a).2
  | 3, [op, d, a0, a1, a2, a3, b0, b1, b2, b3] => (lanesV op d (fun k => [a0, a1, a2, a3].getD k 0) (fun k => [b0, b1, b2, b3].getD k 0)).2
  | _, _ => false
@[reducible] def cpuVal (ints : Nat → Int) (bools : Nat → Bool) : Val := ⟨ints, bools, cpuFi, cpuFb⟩
/-- Has an operation of words a result? -/
def aluIs (op a b k : SI) : SB :=
  match op with
  | .lit (.ofNat n) => match Nat.ble 3 n with
    | true => match Nat.ble n 12 with
      | true => .lit true
      | false => match Nat.ble n 15 with
        | true => SI.cmp .ne b (.lit 0)
        | false => match Nat.ble n 17 with
          | true => .lit true
          | false => fnB 0 [op, a, b, k]
    | false => fnB 0 [op, a, b, k]
  | _ => fnB 0 [op, a, b, k]
def word (a : SI) : Bool := a.within 0 4294967295
theorem word_ok [Val] {a : SI} (h : word a = true) : 0 ≤ a.v ∧ a.v < 4294967296 := by
  have := SI.within_ok h
  omega
def aluS : List SV → Option SV
  | [.int .i64 op, .int .u32 a, .int .u32 b, .int .i64 k] => match word a, word b with
    | true, true => some (.tup [.int .u32 (fnI .u32 0 [op, a, b, k]), .int .i64 (fnI .i64 1 [op, a, b, k]), .bool (aluIs op a b k)])
    | _, _ => none
  | _ => none
def holdsS : List SV → Option SV
  | [.int .i64 cd, .int .i64 f] => some (.bool (fnB 1 [cd, f]))
  | _ => none
def extS : List SV → Option SV
  | [.int .i64 d, .int .u32 a] => match word a with
    | true => some (.tup [.int .u32 (fnI .u32 2 [d, a]), .bool (fnB 2 [d, a])])
    | false => none
  | _ => none
def vec4 : SV → Option (List SI)
  | .agg [.int .u32 a, .int .u32 b, .int .u32 c, .int .u32 d] => match word a, word b, word c, word d with
    | true, true, true, true => some [a, b, c, d]
    | _, _, _, _ => none
  | _ => none
def maskS : List SV → Option SV
  | [x] => match vec4 x with
    | some l => some (.int .u32 (fnI .u32 3 l))
    | none => none
  | _ => none
def lanesS : List SV → Option SV
  | [.int .i64 op, .int .i64 d, x, y] => match vec4 x, vec4 y with
    | some a, some b => match op :: d :: (a ++ b) with
      | l => some (.tup [.agg [.int .u32 (fnI .u32 10 l), .int .u32 (fnI .u32 11 l), .int .u32 (fnI .u32 12 l), .int .u32 (fnI .u32 13 l)], .bool (fnB 3 l)])
    | _, _ => none
  | _ => none
def cpuPure : Pure := fun f args =>
  match f with
  | 9 => match args with
    | [] => some (.bool (.lit true))
    | _ => none
  | 10 => aluS args
  | 13 => aluS args
  | 11 => holdsS args
  | 16 => holdsS args
  | 17 => extS args
  | 18 => extS args
  | 19 => maskS args
  | 20 => maskS args
  | 12 => lanesS args
  | _ => none
theorem flagNum_bd (z n c v : Bool) : 0 ≤ flagNum z n c v ∧ flagNum z n c v ≤ 15 := by cases z <;> cases n <;> cases c <;> cases v <;> decide
def AluBd (t : Int × Int × Bool) : Prop := (0 ≤ t.1 ∧ t.1 < 4294967296) ∧ (0 ≤ t.2.1 ∧ t.2.1 ≤ 15)
theorem AluBd.ite {c : Prop} [Decidable c] {x y : Int × Int × Bool} (hx : c → AluBd x) (hy : ¬ c → AluBd y) : AluBd (if c then x else y) := by
  by_cases h : c
  · rw [if_pos h]; exact hx h
  · rw [if_neg h]; exact hy h
theorem aluT_bd (op a b k : Int) (ha : 0 ≤ a ∧ a < 4294967296) (hb : 0 ≤ b ∧ b < 4294967296) : AluBd (aluT op a b k) := by
  have hm : 0 ≤ a * b := Int.mul_nonneg ha.1 hb.1
  have hm2 : a * b < 4294967296 * 4294967296 := by
    have h1 : a * b ≤ a * 4294967296 := Int.mul_le_mul_of_nonneg_left (by omega) ha.1
    have h2 : a * 4294967296 < 4294967296 * 4294967296 := by omega
    omega
  unfold aluT
  repeat' (apply AluBd.ite <;> intro)
  all_goals unfold AluBd
  all_goals refine ⟨?_, ?_⟩
  all_goals (try dsimp only)
  all_goals first
    | exact flagNum_bd _ _ _ _
    | exact ⟨bits_nonneg _ _ _, bits_lt _ _ _⟩
    | exact shlR_bd _ _
    | exact shrR_bd _ _ ha
    | (simp only [sumR, difR, sarR, divS]; exact ⟨Int.emod_nonneg _ (by decide), Int.emod_lt_of_pos _ (by decide)⟩)
    | omega
    | exact ⟨Int.ediv_nonneg ha.1 hb.1, Int.lt_of_le_of_lt (Int.ediv_le_self _ ha.1) ha.2⟩
    | exact ⟨Int.emod_nonneg _ (by omega), Int.lt_trans (Int.emod_lt_of_pos _ (by omega)) hb.2⟩
theorem extT_bd (d a : Int) : 0 ≤ (extT d a).1 ∧ (extT d a).1 < 4294967296 := by
  unfold extT
  repeat' split
  all_goals (try dsimp only)
  all_goals omega
theorem u32_wrap {n : Int} (h : 0 ≤ n ∧ n < 4294967296) : IntKind.u32.wrap n = n := wrap_same _ h.1 (by have := h.2; show n ≤ 4294967295; omega)
theorem i64_wrap {n : Int} (h : 0 ≤ n ∧ n ≤ 15) : IntKind.i64.wrap n = n := wrap_same _ (by have := h.1; show (-9223372036854775808 : Int) ≤ n; omega) (by have := h.2; show n ≤ 9223372036854775807; omega)
section
variable (ints : Nat → Int) (bools : Nat → Bool)
theorem alu_pure : letI := cpuVal ints bools; ∀ f, f = 10 ∨ f = 13 → ∀ args v, aluS args = some v → ∀ (ρ : Env) (vs : List Value) (w : World), SV.DenL ρ args vs → Calls Try.prog f vs.toArray w fun e w' => ∃ x, e = .returned x ∧ v.Den ρ x ∧ New w w' := by
  letI := cpuVal ints bools
  intro f hf args v h ρ vs w hd
  unfold aluS at h
  split at h <;> try (cases h; done)
  rename_i op a b k
  split at h <;> cases h
  rename_i ha hb
  have ha := word_ok ha
  have hb := word_ok hb
  obtain ⟨x0, _, rfl, h0, r0⟩ := denL_cons.1 hd
  obtain ⟨x1, _, rfl, h1, r1⟩ := denL_cons.1 r0
  obtain ⟨x2, _, rfl, h2, r2⟩ := denL_cons.1 r1
  obtain ⟨x3, _, rfl, h3, r3⟩ := denL_cons.1 r2
  rw [denL_nil] at r3
  simp only [SV.Den] at h0 h1 h2 h3
  subst h0 h1 h2 h3 r3
  have hbd := aluT_bd op.v a.v b.v k.v ha hb
  have key : ∀ e w', AluPost (aluT op.v a.v b.v k.v) w e w' → ∃ x, e = .returned x ∧ (SV.tup [.int .u32 (fnI .u32 0 [op, a, b, k]), .int .i64 (fnI .i64 1 [op, a, b, k]), .bool (aluIs op a b k)]).Den ρ x ∧ New w w' := by
    rintro e w' ⟨rfl, hn⟩
    refine ⟨_, rfl, ?_, hn⟩
    simp only [SV.Den]
    refine ⟨[_, _, _], denL_cons'.2 ⟨?_, denL_cons'.2 ⟨?_, denL_cons'.2 ⟨?_, by simp⟩⟩⟩, rfl⟩
    · simp only [SV.Den, fnI, SI.sym_v, Tm.v, tms_v, List.map]
      show Value.int .u32 _ = .int .u32 (IntKind.u32.wrap (aluT op.v a.v b.v k.v).1)
      rw [u32_wrap hbd.1]
    · simp only [SV.Den, fnI, SI.sym_v, Tm.v, tms_v, List.map]
      show Value.int .i64 _ = .int .i64 (IntKind.i64.wrap (aluT op.v a.v b.v k.v).2.1)
      rw [i64_wrap hbd.2]
    · simp only [SV.Den]
      have hfn : (aluT op.v a.v b.v k.v).2.2 = (fnB 0 [op, a, b, k]).v := by
        simp only [fnB, SB.sym_v, Bm.v, tms_v, List.map]
        rfl
      unfold aluIs
      split
      · rename_i n
        split
        · rename_i q1
          have q1 := Nat.le_of_ble_eq_true q1
          split
          · rename_i q2
            have q2 := Nat.le_of_ble_eq_true q2
            have hn : n = 3 ∨ n = 4 ∨ n = 5 ∨ n = 6 ∨ n = 7 ∨ n = 8 ∨ n = 9 ∨ n = 10 ∨ n = 11 ∨ n = 12 := by omega
            simp only [SI.lit_v, SB.lit_v]
            rcases hn with rfl | rfl | rfl | rfl | rfl | rfl | rfl | rfl | rfl | rfl <;> rfl
          · rename_i q2
            have q2 : ¬ n ≤ 12 := fun h => by rw [Nat.ble_eq_true_of_le h] at q2; cases q2
            split
            · rename_i q3
              have q3 := Nat.le_of_ble_eq_true q3
              have hn : n = 13 ∨ n = 14 ∨ n = 15 := by omega
              rw [SI.cmp_v]
              simp only [SI.lit_v, COp.f]
              have hz : (b.v != 0) = !decide (b.v = 0) := by rw [Bool.eq_iff_iff]; simp
              rw [hz]
              rcases hn with rfl | rfl | rfl
              · show Value.bool (aluT 13 a.v b.v k.v).2.2 = _
                by_cases h0 : b.v = 0
                · simp [aluT, h0]
                · simp [aluT, h0]
              · show Value.bool (aluT 14 a.v b.v k.v).2.2 = _
                by_cases h0 : b.v = 0
                · simp [aluT, h0]
                · simp [aluT, h0]
              · show Value.bool (aluT 15 a.v b.v k.v).2.2 = _
                by_cases h0 : b.v = 0
                · simp [aluT, h0]
                · simp [aluT, h0]
            · rename_i q3
              have q3 : ¬ n ≤ 15 := fun h => by rw [Nat.ble_eq_true_of_le h] at q3; cases q3
              split
              · rename_i q4
                have q4 := Nat.le_of_ble_eq_true q4
                have hn : n = 16 ∨ n = 17 := by omega
                simp only [SI.lit_v, SB.lit_v]
                rcases hn with rfl | rfl <;> rfl
              · rw [hfn]
        · rw [hfn]
      · rw [hfn]
  rcases hf with rfl | rfl
  · exact (alu_c _ _ _ _ w ha hb).mono key
  · exact (ralu_c _ _ _ _ w ha hb).mono key
theorem holds_pure : letI := cpuVal ints bools; ∀ f, f = 11 ∨ f = 16 → ∀ args v, holdsS args = some v → ∀ (ρ : Env) (vs : List Value) (w : World), SV.DenL ρ args vs → Calls Try.prog f vs.toArray w fun e w' => ∃ x, e = .returned x ∧ v.Den ρ x ∧ New w w' := by
  letI := cpuVal ints bools
  intro f hf args v h ρ vs w hd
  unfold holdsS at h
  split at h <;> cases h
  rename_i cd fl
  obtain ⟨x0, _, rfl, h0, r0⟩ := denL_cons.1 hd
  obtain ⟨x1, _, rfl, h1, r1⟩ := denL_cons.1 r0
  rw [denL_nil] at r1
  simp only [SV.Den] at h0 h1
  subst h0 h1 r1
  have key : ∀ e w', (e = Ending.returned (.bool (holdsF cd.v fl.v)) ∧ New w w') → ∃ x, e = .returned x ∧ (SV.bool (fnB 1 [cd, fl])).Den ρ x ∧ New w w' := by
    rintro e w' ⟨rfl, hn⟩
    refine ⟨_, rfl, ?_, hn⟩
    simp only [SV.Den, fnB, SB.sym_v, Bm.v, tms_v, List.map]
    rfl
  rcases hf with rfl | rfl
  · exact (holds_c _ _ w).mono key
  · exact (rholds7_c _ _ w).mono key
theorem ext_pure : letI := cpuVal ints bools; ∀ f, f = 17 ∨ f = 18 → ∀ args v, extS args = some v → ∀ (ρ : Env) (vs : List Value) (w : World), SV.DenL ρ args vs → Calls Try.prog f vs.toArray w fun e w' => ∃ x, e = .returned x ∧ v.Den ρ x ∧ New w w' := by
  letI := cpuVal ints bools
  intro f hf args v h ρ vs w hd
  unfold extS at h
  split at h <;> try (cases h; done)
  rename_i d a
  split at h <;> cases h
  rename_i ha
  have ha := word_ok ha
  obtain ⟨x0, _, rfl, h0, r0⟩ := denL_cons.1 hd
  obtain ⟨x1, _, rfl, h1, r1⟩ := denL_cons.1 r0
  rw [denL_nil] at r1
  simp only [SV.Den] at h0 h1
  subst h0 h1 r1
  have hbd := extT_bd d.v a.v
  have key : ∀ e w', ExtPost (extT d.v a.v) w e w' → ∃ x, e = .returned x ∧ (SV.tup [.int .u32 (fnI .u32 2 [d, a]), .bool (fnB 2 [d, a])]).Den ρ x ∧ New w w' := by
    rintro e w' ⟨rfl, rfl⟩
    refine ⟨_, rfl, ?_, New.refl _⟩
    simp only [SV.Den]
    refine ⟨[_, _], denL_cons'.2 ⟨?_, denL_cons'.2 ⟨?_, by simp⟩⟩, rfl⟩
    · simp only [SV.Den, fnI, SI.sym_v, Tm.v, tms_v, List.map]
      show Value.int .u32 _ = .int .u32 (IntKind.u32.wrap (extT d.v a.v).1)
      rw [u32_wrap hbd]
    · simp only [SV.Den, fnB, SB.sym_v, Bm.v, tms_v, List.map]
      rfl
  rcases hf with rfl | rfl
  · exact (ext_c _ _ w ha).mono key
  · exact (rext_c _ _ w ha).mono key
end
end Go.Proofs.Ytpooghnemlnopaa
/- The contracts of cpu for runs: all of them together. -/
namespace Go.Proofs.Ytpooghnemlnopaa
open Go Go.Sx Go.RowKit Go.Cd Go.MapKept
set_option linter.unusedVariables false
section
variable (ints : Nat → Int) (bools : Nat → Bool)
theorem vec4_ok [Val] {x : SV} {l : List SI} {ρ : Env} {v : Value} (h : vec4 x = some l) (hx : x.Den ρ v) : ∃ a b c d, l = [a, b, c, d] ∧ v = vecV (fun k => [a.v, b.v, c.v, d.v].getD k 0) ∧ VcOk (fun k => [a.v, b.v, c.v, d.v].getD k 0) := by
  unfold vec4 at h
  split at h <;> try (cases h; done)
  rename_i a b c d
  split at h <;> cases h
  rename_i ha hb hc hd
  have ha := word_ok ha
  have hb := word_ok hb
  have hc := word_ok hc
  have hd := word_ok hd
  simp only [SV.Den] at hx
  obtain ⟨vs, hvs, rfl⟩ := hx
  obtain ⟨x0, _, rfl, h0, r0⟩ := denL_cons.1 hvs
  obtain ⟨x1, _, rfl, h1, r1⟩ := denL_cons.1 r0
  obtain ⟨x2, _, rfl, h2, r2⟩ := denL_cons.1 r1
  obtain ⟨x3, _, rfl, h3, r3⟩ := denL_cons.1 r2
  rw [denL_nil] at r3
  simp only [SV.Den] at h0 h1 h2 h3
  subst h0 h1 h2 h3 r3
  refine ⟨a, b, c, d, rfl, rfl, fun k hk => ?_⟩
  match k, hk with
  | 0, _ => exact ha
  | 1, _ => exact hb
  | 2, _ => exact hc
  | 3, _ => exact hd
theorem mask_pure : letI := cpuVal ints bools; ∀ f, f = 19 ∨ f = 20 → ∀ args v, maskS args = some v → ∀ (ρ : Env) (vs : List Value) (w : World), SV.DenL ρ args vs → Calls Try.prog f vs.toArray w fun e w' => ∃ x, e = .returned x ∧ v.Den ρ x ∧ New w w' := by
  letI := cpuVal ints bools
  intro f hf args v h ρ vs w hd
  unfold maskS at h
  split at h <;> try (cases h; done)
  rename_i x
  split at h <;> cases h
  rename_i l hl
  obtain ⟨x0, _, rfl, h0, r0⟩ := denL_cons.1 hd
  rw [denL_nil] at r0; subst r0
  obtain ⟨a, b, c, d, rfl, rfl, hok⟩ := vec4_ok hl h0
  have hbd := maskTo_bd (fun k => [a.v, b.v, c.v, d.v].getD k 0) 16
  have key : ∀ e w', (e = Ending.returned (.int .u32 (maskTo (fun k => [a.v, b.v, c.v, d.v].getD k 0) 16)) ∧ New w w') → ∃ x, e = .returned x ∧ (SV.int .u32 (fnI .u32 3 [a, b, c, d])).Den ρ x ∧ New w w' := by
    rintro e w' ⟨rfl, hn⟩
    refine ⟨_, rfl, ?_, hn⟩
    simp only [SV.Den, fnI, SI.sym_v, Tm.v, tms_v, List.map]
    show Value.int .u32 _ = .int .u32 (IntKind.u32.wrap (maskTo (fun k => [a.v, b.v, c.v, d.v].getD k 0) 16))
    rw [u32_wrap hbd]
  rcases hf with rfl | rfl
  · exact (mask_c _ w hok).mono key
  · exact (rmask_c _ w hok).mono key
end
def VBd (t : Vc × Bool) : Prop := ∀ k, k < 4 → 0 ≤ t.1 k ∧ t.1 k < 4294967296
theorem VBd.ite {c : Prop} [Decidable c] {x y : Vc × Bool} (hx : c → VBd x) (hy : ¬ c → VBd y) : VBd (if c then x else y) := by
  by_cases h : c
  · rw [if_pos h]; exact hx h
  · rw [if_neg h]; exact hy h
theorem or_bd (x y : Int) : 0 ≤ bits .or .u32 x y ∧ bits .or .u32 x y < 4294967296 := ⟨bits_nonneg _ _ _, bits_lt _ _ _⟩
theorem zero_bd : (0 : Int) ≤ 0 ∧ (0 : Int) < 4294967296 := by decide
theorem byLanes_bd (op d a b : Int) : 0 ≤ byLanesF op d a b ∧ byLanesF op d a b < 4294967296 := by
  have key : ∀ (l : List (Int × Int)) (o : Int), 0 ≤ o ∧ o < 4294967296 → 0 ≤ l.foldl (laneSt op a b) o ∧ l.foldl (laneSt op a b) o < 4294967296 := fun l => by
    induction l with
    | nil => exact fun o h => h
    | cons p l ih => exact fun o h => ih _ (or_bd _ _)
  exact key _ 0 zero_bd
theorem shuf_bd (a b : Vc) : ∀ n k, 0 ≤ shufTo a b n k ∧ shufTo a b n k < 4294967296
  | 0, k => zero_bd
  | n + 1, k => by
    unfold shufTo setV
    split
    · exact or_bd _ _
    · exact shuf_bd a b n k
theorem VBd.of {v : Vc} {t : Bool} (h : ∀ k, k < 4 → 0 ≤ v k ∧ v k < 4294967296) : VBd (v, t) := h
theorem lanesTo_bd (op d : Int) (a b : Vc) (k : Nat) (hk : k < 4) : 0 ≤ lanesTo op d a b 4 k ∧ lanesTo op d a b 4 k < 4294967296 := by
  unfold lanesTo; rw [if_pos hk]; exact byLanes_bd _ _ _ _
theorem lanesV_bd (op d : Int) (a b : Vc) : VBd (lanesV op d a b) := by
  unfold lanesV
  refine VBd.ite (fun _ => VBd.ite (fun _ => VBd.of fun k hk => zero_bd) fun _ => VBd.of fun k hk => lanesTo_bd op d a b k hk) fun _ => ?_
  refine VBd.ite (fun _ => VBd.of fun k hk => ⟨bits_nonneg _ _ _, bits_lt _ _ _⟩) fun _ => ?_
  refine VBd.ite (fun _ => VBd.of fun k hk => ⟨bits_nonneg _ _ _, bits_lt _ _ _⟩) fun _ => ?_
  refine VBd.ite (fun _ => VBd.of fun k hk => ⟨bits_nonneg _ _ _, bits_lt _ _ _⟩) fun _ => ?_
  exact VBd.ite (fun _ => VBd.of fun k hk => shuf_bd a b 16 k) fun _ => VBd.of fun k hk => zero_bd
section
variable (ints : Nat → Int) (bools : Nat → Bool)
theorem lanes_pure : letI := cpuVal ints bools; ∀ args v, lanesS args = some v → ∀ (ρ : Env) (vs : List Value) (w : World), SV.DenL ρ args vs → Calls Try.prog 12 vs.toArray w fun e w' => ∃ x, e = .returned x ∧ v.Den ρ x ∧ New w w' := by
  letI := cpuVal ints bools
  intro args v h ρ vs w hd
  unfold lanesS at h
  split at h <;> try (cases h; done)
  rename_i op d x y
  split at h <;> try (cases h; done)
  rename_i la lb hla hlb
  obtain ⟨x0, _, rfl, h0, r0⟩ := denL_cons.1 hd
  obtain ⟨x1, _, rfl, h1, r1⟩ := denL_cons.1 r0
  obtain ⟨x2, _, rfl, h2, r2⟩ := denL_cons.1 r1
  obtain ⟨x3, _, rfl, h3, r3⟩ := denL_cons.1 r2
  rw [denL_nil] at r3; subst r3
  simp only [SV.Den] at h0 h1
  subst h0 h1
  obtain ⟨a0, a1, a2, a3, rfl, rfl, hoka⟩ := vec4_ok hla h2
  obtain ⟨b0, b1, b2, b3, rfl, rfl, hokb⟩ := vec4_ok hlb h3
  cases h
  have hbd := lanesV_bd op.v d.v (fun k => [a0.v, a1.v, a2.v, a3.v].getD k 0) (fun k => [b0.v, b1.v, b2.v, b3.v].getD k 0)
  refine (lanesc_c op.v d.v _ _ w hoka hokb).mono ?_
  rintro e w' ⟨rfl, hn⟩
  refine ⟨_, rfl, ?_, hn⟩
  simp only [SV.Den]
  refine ⟨[_, _], denL_cons'.2 ⟨?_, denL_cons'.2 ⟨?_, by simp⟩⟩, rfl⟩
  · simp only [SV.Den]
    refine ⟨[_, _, _, _], denL_cons'.2 ⟨?_, denL_cons'.2 ⟨?_, denL_cons'.2 ⟨?_, denL_cons'.2 ⟨?_, by simp⟩⟩⟩⟩, rfl⟩
    · simp only [SV.Den, fnI, SI.sym_v, Tm.v, tms_v, List.map, List.cons_append, List.nil_append]
      exact congrArg (Value.int .u32) (u32_wrap (hbd 0 (by decide))).symm
    · simp only [SV.Den, fnI, SI.sym_v, Tm.v, tms_v, List.map, List.cons_append, List.nil_append]
      exact congrArg (Value.int .u32) (u32_wrap (hbd 1 (by decide))).symm
    · simp only [SV.Den, fnI, SI.sym_v, Tm.v, tms_v, List.map, List.cons_append, List.nil_append]
      exact congrArg (Value.int .u32) (u32_wrap (hbd 2 (by decide))).symm
    · simp only [SV.Den, fnI, SI.sym_v, Tm.v, tms_v, List.map, List.cons_append, List.nil_append]
      exact congrArg (Value.int .u32) (u32_wrap (hbd 3 (by decide))).symm
  · simp only [SV.Den, fnB, SB.sym_v, Bm.v, tms_v, List.map, List.cons_append, List.nil_append]
    rfl
end
theorem cpuPure_ok (ints : Nat → Int) (bools : Nat → Bool) : letI := cpuVal ints bools; PureOk Try.prog cpuPure := by
  letI := cpuVal ints bools
  intro f args v h ρ vs w hd
  unfold cpuPure at h
  split at h
  · split at h <;> cases h
    rw [denL_nil] at hd; subst hd
    refine (sane_c w).mono ?_
    rintro e w' ⟨rfl, hn⟩
    exact ⟨_, rfl, by simp only [SV.Den, SB.lit_v], hn⟩
  · exact alu_pure ints bools _ (.inl rfl) args v h ρ vs w hd
  · exact alu_pure ints bools _ (.inr rfl) args v h ρ vs w hd
  · exact holds_pure ints bools _ (.inl rfl) args v h ρ vs w hd
  · exact holds_pure ints bools _ (.inr rfl) args v h ρ vs w hd
  · exact ext_pure ints bools _ (.inl rfl) args v h ρ vs w hd
  · exact ext_pure ints bools _ (.inr rfl) args v h ρ vs w hd
  · exact mask_pure ints bools _ (.inl rfl) args v h ρ vs w hd
  · exact mask_pure ints bools _ (.inr rfl) args v h ρ vs w hd
  · exact lanes_pure ints bools args v h ρ vs w hd
  · cases h
end Go.Proofs.Ytpooghnemlnopaa
/- CpuLanes, run: what is left to be shown. -/
namespace Go.Proofs.Ytpooghnemlnopaa
open Go Go.Sx Go.RowKit Go.Cd Go.MapKept
set_option linter.unusedVariables false
def vecS (i : Nat) : SV := .agg [.int .u32 (.sym (.var .u32 i)), .int .u32 (.sym (.var .u32 (i + 1))), .int .u32 (.sym (.var .u32 (i + 2))), .int .u32 (.sym (.var .u32 (i + 3)))]
def lanest0 : Tm := .fn .u32 10 (.cons (.lit 51) (.cons (.var .i64 12) (.cons (.var .u32 0) (.cons (.var .u32 1) (.cons (.var .u32 2) (.cons (.var .u32 3) (.cons (.var .u32 4) (.cons (.var .u32 5) (.cons (.var .u32 6) (.cons (.var .u32 7) .nil))))))))))
def lanest1 : Tm := .fn .u32 11 (.cons (.lit 51) (.cons (.var .i64 12) (.cons (.var .u32 0) (.cons (.var .u32 1) (.cons (.var .u32 2) (.cons (.var .u32 3) (.cons (.var .u32 4) (.cons (.var .u32 5) (.cons (.var .u32 6) (.cons (.var .u32 7) .nil))))))))))
def lanest2 : Tm := .fn .u32 12 (.cons (.lit 51) (.cons (.var .i64 12) (.cons (.var .u32 0) (.cons (.var .u32 1) (.cons (.var .u32 2) (.cons (.var .u32 3) (.cons (.var .u32 4) (.cons (.var .u32 5) (.cons (.var .u32 6) (.cons (.var .u32 7) .nil))))))))))
def lanest3 : Tm := .fn .u32 13 (.cons (.lit 51) (.cons (.var .i64 12) (.cons (.var .u32 0) (.cons (.var .u32 1) (.cons (.var .u32 2) (.cons (.var .u32 3) (.cons (.var .u32 4) (.cons (.var .u32 5) (.cons (.var .u32 6) (.cons (.var .u32 7) .nil))))))))))
def lanest4 : Tm := .fn .u32 10 (.cons (.lit 52) (.cons (.var .i64 12) (.cons lanest0 (.cons lanest1 (.cons lanest2 (.cons lanest3 (.cons (.var .u32 4) (.cons (.var .u32 5) (.cons (.var .u32 6) (.cons (.var .u32 7) .nil))))))))))
def lanest5 : Tm := .fn .u32 11 (.cons (.lit 52) (.cons (.var .i64 12) (.cons lanest0 (.cons lanest1 (.cons lanest2 (.cons lanest3 (.cons (.var .u32 4) (.cons (.var .u32 5) (.cons (.var .u32 6) (.cons (.var .u32 7) .nil))))))))))
def lanest6 : Tm := .fn .u32 12 (.cons (.lit 52) (.cons (.var .i64 12) (.cons lanest0 (.cons lanest1 (.cons lanest2 (.cons lanest3 (.cons (.var .u32 4) (.cons (.var .u32 5) (.cons (.var .u32 6) (.cons (.var .u32 7) .nil))))))))))
def lanest7 : Tm := .fn .u32 13 (.cons (.lit 52) (.cons (.var .i64 12) (.cons lanest0 (.cons lanest1 (.cons lanest2 (.cons lanest3 (.cons (.var .u32 4) (.cons (.var .u32 5) (.cons (.var .u32 6) (.cons (.var .u32 7) .nil))))))))))
def lanest8 : Tm := .fn .u32 10 (.cons (.lit 53) (.cons (.var .i64 12) (.cons (.var .u32 0) (.cons (.var .u32 1) (.cons (.var .u32 2) (.cons (.var .u32 3) (.cons (.var .u32 0) (.cons (.var .u32 1) (.cons (.var .u32 2) (.cons (.var .u32 3) .nil))))))))))
def lanest9 : Tm := .fn .u32 11 (.cons (.lit 53) (.cons (.var .i64 12) (.cons (.var .u32 0) (.cons (.var .u32 1) (.cons (.var .u32 2) (.cons (.var .u32 3) (.cons (.var .u32 0) (.cons (.var .u32 1) (.cons (.var .u32 2) (.cons (.var .u32 3) .nil))))))))))
def lanest10 : Tm := .fn .u32 12 (.cons (.lit 53) (.cons (.var .i64 12) (.cons (.var .u32 0) (.cons (.var .u32 1) (.cons (.var .u32 2) (.cons (.var .u32 3) (.cons (.var .u32 0) (.cons (.var .u32 1) (.cons (.var .u32 2) (.cons (.var .u32 3) .nil))))))))))
def lanest11 : Tm := .fn .u32 13 (.cons (.lit 53) (.cons (.var .i64 12) (.cons (.var .u32 0) (.cons (.var .u32 1) (.cons (.var .u32 2) (.cons (.var .u32 3) (.cons (.var .u32 0) (.cons (.var .u32 1) (.cons (.var .u32 2) (.cons (.var .u32 3) .nil))))))))))
def lanest12 : Tm := .fn .u32 10 (.cons (.lit 51) (.cons (.lit 2) (.cons (.var .u32 0) (.cons (.var .u32 1) (.cons (.var .u32 2) (.cons (.var .u32 3) (.cons (.var .u32 4) (.cons (.var .u32 5) (.cons (.var .u32 6) (.cons (.var .u32 7) .nil))))))))))
def lanest13 : Tm := .fn .u32 0 (.cons (.lit 3) (.cons (.var .u32 0) (.cons (.var .u32 4) (.cons (.lit 0) .nil))))
def lanest14 : Tm := .fn .u32 10 (.cons (.lit 52) (.cons (.lit 2) (.cons (.var .u32 0) (.cons (.var .u32 1) (.cons (.var .u32 2) (.cons (.var .u32 3) (.cons (.var .u32 4) (.cons (.var .u32 5) (.cons (.var .u32 6) (.cons (.var .u32 7) .nil))))))))))
def lanest15 : Tm := .fn .u32 0 (.cons (.lit 4) (.cons (.var .u32 0) (.cons (.var .u32 4) (.cons (.lit 0) .nil))))
def lanest16 : Tm := .fn .u32 11 (.cons (.lit 51) (.cons (.lit 2) (.cons (.var .u32 0) (.cons (.var .u32 1) (.cons (.var .u32 2) (.cons (.var .u32 3) (.cons (.var .u32 4) (.cons (.var .u32 5) (.cons (.var .u32 6) (.cons (.var .u32 7) .nil))))))))))
def lanest17 : Tm := .fn .u32 0 (.cons (.lit 3) (.cons (.var .u32 1) (.cons (.var .u32 5) (.cons (.lit 0) .nil))))
def lanest18 : Tm := .fn .u32 11 (.cons (.lit 52) (.cons (.lit 2) (.cons (.var .u32 0) (.cons (.var .u32 1) (.cons (.var .u32 2) (.cons (.var .u32 3) (.cons (.var .u32 4) (.cons (.var .u32 5) (.cons (.var .u32 6) (.cons (.var .u32 7) .nil))))))))))
def lanest19 : Tm := .fn .u32 0 (.cons (.lit 4) (.cons (.var .u32 1) (.cons (.var .u32 5) (.cons (.lit 0) .nil))))
def lanest20 : Tm := .fn .u32 12 (.cons (.lit 51) (.cons (.lit 2) (.cons (.var .u32 0) (.cons (.var .u32 1) (.cons (.var .u32 2) (.cons (.var .u32 3) (.cons (.var .u32 4) (.cons (.var .u32 5) (.cons (.var .u32 6) (.cons (.var .u32 7) .nil))))))))))
def lanest21 : Tm := .fn .u32 0 (.cons (.lit 3) (.cons (.var .u32 2) (.cons (.var .u32 6) (.cons (.lit 0) .nil))))
def lanest22 : Tm := .fn .u32 12 (.cons (.lit 52) (.cons (.lit 2) (.cons (.var .u32 0) (.cons (.var .u32 1) (.cons (.var .u32 2) (.cons (.var .u32 3) (.cons (.var .u32 4) (.cons (.var .u32 5) (.cons (.var .u32 6) (.cons (.var .u32 7) .nil))))))))))
def lanest23 : Tm := .fn .u32 0 (.cons (.lit 4) (.cons (.var .u32 2) (.cons (.var .u32 6) (.cons (.lit 0) .nil))))
def lanest24 : Tm := .fn .u32 13 (.cons (.lit 51) (.cons (.lit 2) (.cons (.var .u32 0) (.cons (.var .u32 1) (.cons (.var .u32 2) (.cons (.var .u32 3) (.cons (.var .u32 4) (.cons (.var .u32 5) (.cons (.var .u32 6) (.cons (.var .u32 7) .nil))))))))))
def lanest25 : Tm := .fn .u32 0 (.cons (.lit 3) (.cons (.var .u32 3) (.cons (.var .u32 7) (.cons (.lit 0) .nil))))
def lanest26 : Tm := .fn .u32 13 (.cons (.lit 52) (.cons (.lit 2) (.cons (.var .u32 0) (.cons (.var .u32 1) (.cons (.var .u32 2) (.cons (.var .u32 3) (.cons (.var .u32 4) (.cons (.var .u32 5) (.cons (.var .u32 6) (.cons (.var .u32 7) .nil))))))))))
def lanest27 : Tm := .fn .u32 0 (.cons (.lit 4) (.cons (.var .u32 3) (.cons (.var .u32 7) (.cons (.lit 0) .nil))))
def lanest28 : Tm := .fn .u32 10 (.cons (.lit 57) (.cons (.lit 0) (.cons (.var .u32 0) (.cons (.var .u32 1) (.cons (.var .u32 2) (.cons (.var .u32 3) (.cons (.var .u32 4) (.cons (.var .u32 5) (.cons (.var .u32 6) (.cons (.var .u32 7) .nil))))))))))
def lanest29 : Tm := .fn .u32 11 (.cons (.lit 57) (.cons (.lit 0) (.cons (.var .u32 0) (.cons (.var .u32 1) (.cons (.var .u32 2) (.cons (.var .u32 3) (.cons (.var .u32 4) (.cons (.var .u32 5) (.cons (.var .u32 6) (.cons (.var .u32 7) .nil))))))))))
def lanest30 : Tm := .fn .u32 12 (.cons (.lit 57) (.cons (.lit 0) (.cons (.var .u32 0) (.cons (.var .u32 1) (.cons (.var .u32 2) (.cons (.var .u32 3) (.cons (.var .u32 4) (.cons (.var .u32 5) (.cons (.var .u32 6) (.cons (.var .u32 7) .nil))))))))))
def lanest31 : Tm := .fn .u32 13 (.cons (.lit 57) (.cons (.lit 0) (.cons (.var .u32 0) (.cons (.var .u32 1) (.cons (.var .u32 2) (.cons (.var .u32 3) (.cons (.var .u32 4) (.cons (.var .u32 5) (.cons (.var .u32 6) (.cons (.var .u32 7) .nil))))))))))
def lanest32 : Tm := .fn .u32 10 (.cons (.lit 57) (.cons (.lit 0) (.cons (.var .u32 4) (.cons (.var .u32 5) (.cons (.var .u32 6) (.cons (.var .u32 7) (.cons (.var .u32 8) (.cons (.var .u32 9) (.cons (.var .u32 10) (.cons (.var .u32 11) .nil))))))))))
def lanest33 : Tm := .fn .u32 11 (.cons (.lit 57) (.cons (.lit 0) (.cons (.var .u32 4) (.cons (.var .u32 5) (.cons (.var .u32 6) (.cons (.var .u32 7) (.cons (.var .u32 8) (.cons (.var .u32 9) (.cons (.var .u32 10) (.cons (.var .u32 11) .nil))))))))))
def lanest34 : Tm := .fn .u32 12 (.cons (.lit 57) (.cons (.lit 0) (.cons (.var .u32 4) (.cons (.var .u32 5) (.cons (.var .u32 6) (.cons (.var .u32 7) (.cons (.var .u32 8) (.cons (.var .u32 9) (.cons (.var .u32 10) (.cons (.var .u32 11) .nil))))))))))
def lanest35 : Tm := .fn .u32 13 (.cons (.lit 57) (.cons (.lit 0) (.cons (.var .u32 4) (.cons (.var .u32 5) (.cons (.var .u32 6) (.cons (.var .u32 7) (.cons (.var .u32 8) (.cons (.var .u32 9) (.cons (.var .u32 10) (.cons (.var .u32 11) .nil))))))))))
def lanest36 : Tm := .fn .u32 10 (.cons (.lit 57) (.cons (.lit 0) (.cons (.var .u32 0) (.cons (.var .u32 1) (.cons (.var .u32 2) (.cons (.var .u32 3) (.cons (.lit 50462976) (.cons (.lit 117835012) (.cons (.lit 185207048) (.cons (.lit 252579084) .nil))))))))))
def lanest37 : Tm := .fn .u32 11 (.cons (.lit 57) (.cons (.lit 0) (.cons (.var .u32 0) (.cons (.var .u32 1) (.cons (.var .u32 2) (.cons (.var .u32 3) (.cons (.lit 50462976) (.cons (.lit 117835012) (.cons (.lit 185207048) (.cons (.lit 252579084) .nil))))))))))
def lanest38 : Tm := .fn .u32 12 (.cons (.lit 57) (.cons (.lit 0) (.cons (.var .u32 0) (.cons (.var .u32 1) (.cons (.var .u32 2) (.cons (.var .u32 3) (.cons (.lit 50462976) (.cons (.lit 117835012) (.cons (.lit 185207048) (.cons (.lit 252579084) .nil))))))))))
def lanest39 : Tm := .fn .u32 13 (.cons (.lit 57) (.cons (.lit 0) (.cons (.var .u32 0) (.cons (.var .u32 1) (.cons (.var .u32 2) (.cons (.var .u32 3) (.cons (.lit 50462976) (.cons (.lit 117835012) (.cons (.lit 185207048) (.cons (.lit 252579084) .nil))))))))))
def lanest40 : Tm := .fn .u32 10 (.cons (.lit 57) (.cons (.lit 0) (.cons lanest28 (.cons lanest29 (.cons lanest30 (.cons lanest31 (.cons (.var .u32 8) (.cons (.var .u32 9) (.cons (.var .u32 10) (.cons (.var .u32 11) .nil))))))))))
def lanest41 : Tm := .fn .u32 10 (.cons (.lit 57) (.cons (.lit 0) (.cons (.var .u32 0) (.cons (.var .u32 1) (.cons (.var .u32 2) (.cons (.var .u32 3) (.cons lanest32 (.cons lanest33 (.cons lanest34 (.cons lanest35 .nil))))))))))
def lanest42 : Tm := .fn .u32 11 (.cons (.lit 57) (.cons (.lit 0) (.cons lanest28 (.cons lanest29 (.cons lanest30 (.cons lanest31 (.cons (.var .u32 8) (.cons (.var .u32 9) (.cons (.var .u32 10) (.cons (.var .u32 11) .nil))))))))))
def lanest43 : Tm := .fn .u32 11 (.cons (.lit 57) (.cons (.lit 0) (.cons (.var .u32 0) (.cons (.var .u32 1) (.cons (.var .u32 2) (.cons (.var .u32 3) (.cons lanest32 (.cons lanest33 (.cons lanest34 (.cons lanest35 .nil))))))))))
def lanest44 : Tm := .fn .u32 12 (.cons (.lit 57) (.cons (.lit 0) (.cons lanest28 (.cons lanest29 (.cons lanest30 (.cons lanest31 (.cons (.var .u32 8) (.cons (.var .u32 9) (.cons (.var .u32 10) (.cons (.var .u32 11) .nil))))))))))
def lanest45 : Tm := .fn .u32 12 (.cons (.lit 57) (.cons (.lit 0) (.cons (.var .u32 0) (.cons (.var .u32 1) (.cons (.var .u32 2) (.cons (.var .u32 3) (.cons lanest32 (.cons lanest33 (.cons lanest34 (.cons lanest35 .nil))))))))))
def lanest46 : Tm := .fn .u32 13 (.cons (.lit 57) (.cons (.lit 0) (.cons lanest28 (.cons lanest29 (.cons lanest30 (.cons lanest31 (.cons (.var .u32 8) (.cons (.var .u32 9) (.cons (.var .u32 10) (.cons (.var .u32 11) .nil))))))))))
def lanest47 : Tm := .fn .u32 13 (.cons (.lit 57) (.cons (.lit 0) (.cons (.var .u32 0) (.cons (.var .u32 1) (.cons (.var .u32 2) (.cons (.var .u32 3) (.cons lanest32 (.cons lanest33 (.cons lanest34 (.cons lanest35 .nil))))))))))
def lanesb0 : Bm := .cmp .lt (.var .i64 12) (.lit 0)
def lanesb1 : Bm := .cmp .lt (.lit 2) (.var .i64 12)
def lanesb2 : Bm := .fn 3 (.cons (.lit 51) (.cons (.var .i64 12) (.cons (.var .u32 0) (.cons (.var .u32 1) (.cons (.var .u32 2) (.cons (.var .u32 3) (.cons (.var .u32 4) (.cons (.var .u32 5) (.cons (.var .u32 6) (.cons (.var .u32 7) .nil))))))))))
def lanesb3 : Bm := .fn 3 (.cons (.lit 52) (.cons (.var .i64 12) (.cons lanest0 (.cons lanest1 (.cons lanest2 (.cons lanest3 (.cons (.var .u32 4) (.cons (.var .u32 5) (.cons (.var .u32 6) (.cons (.var .u32 7) .nil))))))))))
def lanesb4 : Bm := .fn 3 (.cons (.lit 53) (.cons (.var .i64 12) (.cons (.var .u32 0) (.cons (.var .u32 1) (.cons (.var .u32 2) (.cons (.var .u32 3) (.cons (.var .u32 0) (.cons (.var .u32 1) (.cons (.var .u32 2) (.cons (.var .u32 3) .nil))))))))))
def lanesb5 : Bm := .cmp .eq lanest4 (.var .u32 0)
def lanesb6 : Bm := .cmp .eq lanest5 (.var .u32 1)
def lanesb7 : Bm := .cmp .eq lanest6 (.var .u32 2)
def lanesb8 : Bm := .cmp .eq lanest7 (.var .u32 3)
def lanesb9 : Bm := .cmp .eq lanest8 (.lit 4294967295)
def lanesb10 : Bm := .cmp .eq lanest9 (.lit 4294967295)
def lanesb11 : Bm := .cmp .eq lanest10 (.lit 4294967295)
def lanesb12 : Bm := .cmp .eq lanest11 (.lit 4294967295)
def lanesb13 : Bm := .cmp .eq lanest12 lanest13
def lanesb14 : Bm := .cmp .eq lanest14 lanest15
def lanesb15 : Bm := .cmp .eq lanest16 lanest17
def lanesb16 : Bm := .cmp .eq lanest18 lanest19
def lanesb17 : Bm := .cmp .eq lanest20 lanest21
def lanesb18 : Bm := .cmp .eq lanest22 lanest23
def lanesb19 : Bm := .cmp .eq lanest24 lanest25
def lanesb20 : Bm := .cmp .eq lanest26 lanest27
def lanesb21 : Bm := .fn 3 (.cons (.lit 57) (.cons (.lit 0) (.cons (.var .u32 0) (.cons (.var .u32 1) (.cons (.var .u32 2) (.cons (.var .u32 3) (.cons (.lit 50462976) (.cons (.lit 117835012) (.cons (.lit 185207048) (.cons (.lit 252579084) .nil))))))))))
def lanesb22 : Bm := .fn 3 (.cons (.lit 57) (.cons (.lit 0) (.cons (.var .u32 0) (.cons (.var .u32 1) (.cons (.var .u32 2) (.cons (.var .u32 3) (.cons (.var .u32 4) (.cons (.var .u32 5) (.cons (.var .u32 6) (.cons (.var .u32 7) .nil))))))))))
def lanesb23 : Bm := .fn 3 (.cons (.lit 57) (.cons (.lit 0) (.cons lanest28 (.cons lanest29 (.cons lanest30 (.cons lanest31 (.cons (.var .u32 8) (.cons (.var .u32 9) (.cons (.var .u32 10) (.cons (.var .u32 11) .nil))))))))))
def lanesb24 : Bm := .fn 3 (.cons (.lit 57) (.cons (.lit 0) (.cons (.var .u32 4) (.cons (.var .u32 5) (.cons (.var .u32 6) (.cons (.var .u32 7) (.cons (.var .u32 8) (.cons (.var .u32 9) (.cons (.var .u32 10) (.cons (.var .u32 11) .nil))))))))))
def lanesb25 : Bm := .fn 3 (.cons (.lit 57) (.cons (.lit 0) (.cons (.var .u32 0) (.cons (.var .u32 1) (.cons (.var .u32 2) (.cons (.var .u32 3) (.cons lanest32 (.cons lanest33 (.cons lanest34 (.cons lanest35 .nil))))))))))
def lanesb26 : Bm := .cmp .eq lanest36 (.var .u32 0)
def lanesb27 : Bm := .cmp .eq lanest37 (.var .u32 1)
def lanesb28 : Bm := .cmp .eq lanest38 (.var .u32 2)
def lanesb29 : Bm := .cmp .eq lanest39 (.var .u32 3)
def lanesb30 : Bm := .cmp .eq lanest40 lanest41
def lanesb31 : Bm := .cmp .eq lanest42 lanest43
def lanesb32 : Bm := .cmp .eq lanest44 lanest45
def lanesb33 : Bm := .cmp .eq lanest46 lanest47
def lanesT : Tree SB := .split lanesb0 (.leaf (.lit true)) (.split (.lop .or lanesb0 lanesb1) (.leaf (.lit true)) (.split (.not lanesb2) (.leaf (.lit false)) (.split (.lop .or (.not lanesb2) (.not lanesb3)) (.leaf (.lit false)) (.split (.lop .or (.lop .or (.not lanesb2) (.not lanesb3)) (.not lanesb4)) (.leaf (.lit false)) (.split (.lop .or (.lop .or (.lop .or (.not lanesb2) (.not lanesb3)) (.not lanesb4)) (.not (.lop .and lanesb5 (.lop .and lanesb6 (.lop .and lanesb7 lanesb8))))) (.leaf (.lit false)) (.split (.lop .or (.lop .or (.lop .or (.lop .or (.not lanesb2) (.not lanesb3)) (.not lanesb4)) (.not (.lop .and lanesb5 (.lop .and lanesb6 (.lop .and lanesb7 lanesb8))))) (.not (.lop .and lanesb9 (.lop .and lanesb10 (.lop .and lanesb11 lanesb12))))) (.leaf (.lit false)) (.split (.not lanesb13) (.leaf (.lit false)) (.split (.lop .or (.not lanesb13) (.not lanesb14)) (.leaf (.lit false)) (.split (.not lanesb15) (.leaf (.lit false)) (.split (.lop .or (.not lanesb15) (.not lanesb16)) (.leaf (.lit false)) (.split (.not lanesb17) (.leaf (.lit false)) (.split (.lop .or (.not lanesb17) (.not lanesb18)) (.leaf (.lit false)) (.split (.not lanesb19) (.leaf (.lit false)) (.split (.lop .or (.not lanesb19) (.not lanesb20)) (.leaf (.lit false)) (.split lanesb21 (.split (.lop .and lanesb21 lanesb22) (.split (.lop .and (.lop .and lanesb21 lanesb22) lanesb23) (.split (.lop .and (.lop .and (.lop .and lanesb21 lanesb22) lanesb23) lanesb24) (.split (.lop .and (.lop .and (.lop .and (.lop .and lanesb21 lanesb22) lanesb23) lanesb24) lanesb25) (.split (.lop .and (.lop .and (.lop .and (.lop .and (.lop .and lanesb21 lanesb22) lanesb23) lanesb24) lanesb25) (.lop .and lanesb26 (.lop .and lanesb27 (.lop .and lanesb28 lanesb29)))) (.leaf (.sym (.lop .and (.lop .and (.lop .and (.lop .and (.lop .and (.lop .and lanesb21 lanesb22) lanesb23) lanesb24) lanesb25) (.lop .and lanesb26 (.lop .and lanesb27 (.lop .and lanesb28 lanesb29)))) (.lop .and lanesb30 (.lop .and lanesb31 (.lop .and lanesb32 lanesb33)))))) (.leaf (.lit false))) (.leaf (.lit false))) (.leaf (.lit false))) (.leaf (.lit false))) (.leaf (.lit false))) (.leaf (.lit false)))))))))))))))))
theorem lanes_tree : lawTree Try.prog cpuPure 5 [vecS 0, vecS 4, vecS 8, .int .i64 (.sym (.var .i64 12))] 1500 = lanesT := by kernel_rfl
end Go.Proofs.Ytpooghnemlnopaa
/- Words of bytes. -/
namespace Go.Proofs.Ytpooghnemlnopaa
open Go Go.Cd
theorem or_add32 (a b : Int) (k : Nat) (ha : 0 ≤ a) (ha2 : a < 4294967296) (hak : a < 2 ^ k) (hb : 0 ≤ b) (h : b * 2 ^ k < 4294967296) : bits .or .u32 a (b * 2 ^ k % 4294967296) = a + b * 2 ^ k := by
  have hp : (2 : Int) ^ k = ((2 ^ k : Nat) : Int) := by simp
  rw [hp] at hak h ⊢
  obtain ⟨m, rfl⟩ := Int.eq_ofNat_of_zero_le ha
  obtain ⟨n, rfl⟩ := Int.eq_ofNat_of_zero_le hb
  have hmk : m < 2 ^ k := Int.ofNat_lt.1 hak
  have e : (n : Int) * ((2 ^ k : Nat) : Int) = ((n * 2 ^ k : Nat) : Int) := (Int.natCast_mul n (2 ^ k)).symm
  rw [e] at h ⊢
  have hlt : n * 2 ^ k < 4294967296 := by omega
  have hor : n * 2 ^ k + m = n * 2 ^ k ||| m := by
    have := Nat.shiftLeft_add_eq_or_of_lt hmk n
    rwa [Nat.shiftLeft_eq] at this
  have hm : m < 4294967296 := Int.ofNat_lt.1 ha2
  have hmod : ((n * 2 ^ k : Nat) : Int) % 4294967296 = ((n * 2 ^ k : Nat) : Int) := Int.emod_eq_of_lt (Int.natCast_nonneg _) h
  rw [hmod, or32 (m : Int) _ (by omega) (by omega) (by omega) h, Int.toNat_natCast, Int.toNat_natCast, Nat.or_comm, ← hor]
  omega
/-- Four bytes as a word, the lowest first. -/
def word4 (f : Nat → Int) (j : Nat) : Int := f j + f (j + 1) * 256 + f (j + 2) * 65536 + f (j + 3) * 16777216
theorem word4_or (x y z u : Int) (hx : 0 ≤ x ∧ x < 256) (hy : 0 ≤ y ∧ y < 256) (hz : 0 ≤ z ∧ z < 256) (hu : 0 ≤ u ∧ u < 256) :
    bits .or .u32 (bits .or .u32 (bits .or .u32 x (y * 2 ^ 8 % 4294967296)) (z * 2 ^ 16 % 4294967296)) (u * 2 ^ 24 % 4294967296) = x + y * 256 + z * 65536 + u * 16777216 := by
  have p8 : (2 : Int) ^ 8 = 256 := rfl
  have p16 : (2 : Int) ^ 16 = 65536 := rfl
  have p24 : (2 : Int) ^ 24 = 16777216 := rfl
  rw [or_add32 x y 8 hx.1 (by omega) (by omega) hy.1 (by omega), p8]
  rw [or_add32 _ z 16 (by omega) (by omega) (by omega) hz.1 (by omega), p16]
  rw [or_add32 _ u 24 (by omega) (by omega) (by omega) hu.1 (by omega), p24]
end Go.Proofs.Ytpooghnemlnopaa
/- The plain laws of lanes. -/
namespace Go.Proofs.Ytpooghnemlnopaa
open Go Go.Cd
set_option linter.unusedVariables false
/-- An operation of two lanes; M: how many values a lane has. -/
def laneR (op x y M : Int) : Int := if op = 51 then (x + y) % M else if op = 52 then (x - y) % M else if x = y then M - 1 else 0
theorem laneR_bd (op x y M : Int) (hM : 0 < M) : 0 ≤ laneR op x y M ∧ laneR op x y M < M := by
  unfold laneR
  split
  · exact ⟨Int.emod_nonneg _ (by omega), Int.emod_lt_of_pos _ hM⟩
  · split
    · exact ⟨Int.emod_nonneg _ (by omega), Int.emod_lt_of_pos _ hM⟩
    · split <;> omega
theorem div_word (A : Int) (h : 0 ≤ A ∧ A < 4294967296) (j : Nat) : 0 ≤ A / 2 ^ j ∧ A / 2 ^ j < 4294967296 :=
  ⟨Int.ediv_nonneg h.1 (Int.le_of_lt (pow_pos' _)), Int.lt_of_le_of_lt (Int.ediv_le_self _ h.1) h.2⟩
theorem lane_is (op A B : Int) (ha : 0 ≤ A ∧ A < 4294967296) (hb : 0 ≤ B ∧ B < 4294967296) (at' j : Nat) (hj : j ≤ 32) (m : Int) (hm : m = 2 ^ j - 1) :
    bits .and .u32 (laneOp op (bits .and .u32 (A / 2 ^ at') m) (bits .and .u32 (B / 2 ^ at') m) m) m = laneR op (A / 2 ^ at' % 2 ^ j) (B / 2 ^ at' % 2 ^ j) (2 ^ j) := by
  have d1 := div_word A ha at'
  have d2 := div_word B hb at'
  subst hm
  rw [and_mask _ d1.1 d1.2 j hj, and_mask _ d2.1 d2.2 j hj]
  have hp : (0 : Int) < 2 ^ j := pow_pos' j
  have hp2 : (2 : Int) ^ j ≤ 4294967296 := by
    have := Nat.pow_le_pow_right (show 0 < 2 by decide) hj
    have e : ((2 ^ j : Nat) : Int) ≤ ((2 ^ 32 : Nat) : Int) := Int.ofNat_le.2 this
    simpa using e
  have hdvd : (2 : Int) ^ j ∣ 4294967296 := by
    have : (2 ^ j : Nat) ∣ 2 ^ 32 := Nat.pow_dvd_pow 2 hj
    have e : ((2 ^ j : Nat) : Int) ∣ ((2 ^ 32 : Nat) : Int) := Int.natCast_dvd_natCast.2 this
    simpa using e
  generalize A / 2 ^ at' % 2 ^ j = x
  generalize B / 2 ^ at' % 2 ^ j = y
  unfold laneOp laneR
  split
  · rw [and_mask _ (by omega) (by omega) j hj, Int.emod_emod_of_dvd _ hdvd]
  · split
    · rw [and_mask _ (by omega) (by omega) j hj, Int.emod_emod_of_dvd _ hdvd]
    · split
      · rw [and_mask _ (by omega) (by omega) j hj]; exact Int.emod_eq_of_lt (by omega) (by omega)
      · rw [and_mask _ (by omega) (by omega) j hj]; exact Int.zero_emod _
theorem or_zero (x : Int) (h : 0 ≤ x ∧ x < 4294967296) : bits .or .u32 0 (x * 2 ^ 0 % 4294967296) = x := by
  have p0 : (2 : Int) ^ 0 = 1 := rfl
  have := or_add32 0 x 0 (by decide) (by decide) (by decide) h.1 (by rw [p0]; omega)
  rw [this, p0]; omega
def W4 (x y z u : Int) : Int := x + y * 256 + z * 65536 + u * 16777216
theorem by0 (op A B : Int) (ha : 0 ≤ A ∧ A < 4294967296) (hb : 0 ≤ B ∧ B < 4294967296) :
    byLanesF op 0 A B = W4 (laneR op (A % 256) (B % 256) 256) (laneR op (A / 256 % 256) (B / 256 % 256) 256) (laneR op (A / 65536 % 256) (B / 65536 % 256) 256) (laneR op (A / 16777216 % 256) (B / 16777216 % 256) 256) := by
  have e : byLanesF op 0 A B = laneSt op A B (laneSt op A B (laneSt op A B (laneSt op A B 0 (0, 255)) (8, 255)) (16, 255)) (24, 255) := rfl
  have st : ∀ (at' : Nat) (o : Int), laneSt op A B o ((at' : Int), 255) = bits .or .u32 o (laneR op (A / 2 ^ at' % 256) (B / 2 ^ at' % 256) 256 * 2 ^ at' % 4294967296) := fun at' o => by
    have := lane_is op A B ha hb at' 8 (by decide) 255 rfl
    show bits .or .u32 o (bits .and .u32 (laneOp op (bits .and .u32 (A / 2 ^ at') 255) (bits .and .u32 (B / 2 ^ at') 255) 255) 255 * 2 ^ at' % 4294967296) = _
    rw [this]
    rfl
  have s0 := st 0
  have s8 := st 8
  have s16 := st 16
  have s24 := st 24
  have p0 : (2 : Int) ^ 0 = 1 := rfl
  have p8 : (2 : Int) ^ 8 = 256 := rfl
  have p16 : (2 : Int) ^ 16 = 65536 := rfl
  have p24 : (2 : Int) ^ 24 = 16777216 := rfl
  have b : ∀ x y, 0 ≤ laneR op x y 256 ∧ laneR op x y 256 < 256 := fun x y => laneR_bd op x y 256 (by decide)
  have c0 : ((0 : Nat) : Int) = 0 := rfl
  have c8 : ((8 : Nat) : Int) = 8 := rfl
  have c16 : ((16 : Nat) : Int) = 16 := rfl
  have c24 : ((24 : Nat) : Int) = 24 := rfl
  rw [c0] at s0
  rw [c8] at s8
  rw [c16] at s16
  rw [c24] at s24
  rw [e, s0, s8, s16, s24]
  have q0 := b (A / 2 ^ 0 % 256) (B / 2 ^ 0 % 256)
  have q8 := b (A / 2 ^ 8 % 256) (B / 2 ^ 8 % 256)
  have q16 := b (A / 2 ^ 16 % 256) (B / 2 ^ 16 % 256)
  have q24 := b (A / 2 ^ 24 % 256) (B / 2 ^ 24 % 256)
  rw [or_zero _ ⟨q0.1, by omega⟩, word4_or _ _ _ _ q0 q8 q16 q24, p0, p8, p16, p24, Int.ediv_one, Int.ediv_one]
  rfl
theorem by1 (op A B : Int) (ha : 0 ≤ A ∧ A < 4294967296) (hb : 0 ≤ B ∧ B < 4294967296) :
    byLanesF op 1 A B = laneR op (A % 65536) (B % 65536) 65536 + laneR op (A / 65536 % 65536) (B / 65536 % 65536) 65536 * 65536 := by
  have e : byLanesF op 1 A B = laneSt op A B (laneSt op A B 0 (0, 65535)) (16, 65535) := rfl
  have st : ∀ (at' : Nat) (o : Int), laneSt op A B o ((at' : Int), 65535) = bits .or .u32 o (laneR op (A / 2 ^ at' % 65536) (B / 2 ^ at' % 65536) 65536 * 2 ^ at' % 4294967296) := fun at' o => by
    have := lane_is op A B ha hb at' 16 (by decide) 65535 rfl
    show bits .or .u32 o (bits .and .u32 (laneOp op (bits .and .u32 (A / 2 ^ at') 65535) (bits .and .u32 (B / 2 ^ at') 65535) 65535) 65535 * 2 ^ at' % 4294967296) = _
    rw [this]
    rfl
  have s0 := st 0
  have s16 := st 16
  have p0 : (2 : Int) ^ 0 = 1 := rfl
  have p16 : (2 : Int) ^ 16 = 65536 := rfl
  have b : ∀ x y, 0 ≤ laneR op x y 65536 ∧ laneR op x y 65536 < 65536 := fun x y => laneR_bd op x y 65536 (by decide)
  have c0 : ((0 : Nat) : Int) = 0 := rfl
  have c16 : ((16 : Nat) : Int) = 16 := rfl
  rw [c0] at s0
  rw [c16] at s16
  rw [e, s0, s16]
  have q0 := b (A / 2 ^ 0 % 65536) (B / 2 ^ 0 % 65536)
  have q16 := b (A / 2 ^ 16 % 65536) (B / 2 ^ 16 % 65536)
  rw [or_zero _ ⟨q0.1, by omega⟩, or_add32 _ _ 16 q0.1 (by omega) (by rw [p16]; exact q0.2) q16.1 (show laneR op (A / 2 ^ 16 % 65536) (B / 2 ^ 16 % 65536) 65536 * 65536 < 4294967296 by omega), p0, p16, Int.ediv_one, Int.ediv_one]
theorem by2 (op A B : Int) (ha : 0 ≤ A ∧ A < 4294967296) (hb : 0 ≤ B ∧ B < 4294967296) : byLanesF op 2 A B = laneR op A B 4294967296 := by
  have e : byLanesF op 2 A B = laneSt op A B 0 (0, 4294967295) := rfl
  have st : laneSt op A B 0 (0, 4294967295) = bits .or .u32 0 (laneR op (A / 2 ^ 0 % 4294967296) (B / 2 ^ 0 % 4294967296) 4294967296 * 2 ^ 0 % 4294967296) := by
    have := lane_is op A B ha hb 0 32 (by decide) 4294967295 rfl
    show bits .or .u32 0 (bits .and .u32 (laneOp op (bits .and .u32 (A / 2 ^ 0) 4294967295) (bits .and .u32 (B / 2 ^ 0) 4294967295) 4294967295) 4294967295 * 2 ^ 0 % 4294967296) = _
    rw [this]
    rfl
  have p0 : (2 : Int) ^ 0 = 1 := rfl
  rw [e, st, or_zero _ (laneR_bd op _ _ 4294967296 (by decide)), p0, Int.ediv_one, Int.ediv_one, Int.emod_eq_of_lt ha.1 ha.2, Int.emod_eq_of_lt hb.1 hb.2]
theorem lane_undo (x y M : Int) (h : 0 ≤ x ∧ x < M) : laneR 52 (laneR 51 x y M) y M = x := by
  show ((x + y) % M - y) % M = x
  have e : (x + y) % M - y = x + -(M * ((x + y) / M)) := by
    have := Int.emod_add_mul_ediv (x + y) M
    omega
  rw [e, show x + -(M * ((x + y) / M)) = x + M * -((x + y) / M) by rw [Int.mul_neg], Int.add_mul_emod_self_left, Int.emod_eq_of_lt h.1 h.2]
theorem lane_same (x M : Int) : laneR 53 x x M = M - 1 := by
  show (if x = x then M - 1 else 0) = _
  rw [if_pos rfl]
theorem byLanes_bd' (op d a b : Int) : 0 ≤ byLanesF op d a b ∧ byLanesF op d a b < 4294967296 := by
  have key : ∀ (l : List (Int × Int)) (o : Int), 0 ≤ o ∧ o < 4294967296 → 0 ≤ l.foldl (laneSt op a b) o ∧ l.foldl (laneSt op a b) o < 4294967296 := fun l => by
    induction l with
    | nil => exact fun o h => h
    | cons p l ih => exact fun o h => ih _ ⟨bits_nonneg _ _ _, bits_lt _ _ _⟩
  exact key _ 0 (by decide)
/-- Subtraction undoes addition. -/
theorem lanes_undo (d a b : Int) (hd : d = 0 ∨ d = 1 ∨ d = 2) (ha : 0 ≤ a ∧ a < 4294967296) (hb : 0 ≤ b ∧ b < 4294967296) : byLanesF 52 d (byLanesF 51 d a b) b = a := by
  have hc := byLanes_bd' 51 d a b
  rcases hd with rfl | rfl | rfl
  · rw [by0 52 _ b hc hb, by0 51 a b ha hb]
    have r0 := laneR_bd 51 (a % 256) (b % 256) 256 (by decide)
    have r1 := laneR_bd 51 (a / 256 % 256) (b / 256 % 256) 256 (by decide)
    have r2 := laneR_bd 51 (a / 65536 % 256) (b / 65536 % 256) 256 (by decide)
    have r3 := laneR_bd 51 (a / 16777216 % 256) (b / 16777216 % 256) 256 (by decide)
    have u0 := lane_undo (a % 256) (b % 256) 256 (by omega)
    have u1 := lane_undo (a / 256 % 256) (b / 256 % 256) 256 (by omega)
    have u2 := lane_undo (a / 65536 % 256) (b / 65536 % 256) 256 (by omega)
    have u3 := lane_undo (a / 16777216 % 256) (b / 16777216 % 256) 256 (by omega)
    generalize laneR 51 (a % 256) (b % 256) 256 = s0 at *
    generalize laneR 51 (a / 256 % 256) (b / 256 % 256) 256 = s1 at *
    generalize laneR 51 (a / 65536 % 256) (b / 65536 % 256) 256 = s2 at *
    generalize laneR 51 (a / 16777216 % 256) (b / 16777216 % 256) 256 = s3 at *
    have t0 : W4 s0 s1 s2 s3 % 256 = s0 := by unfold W4; omega
    have t1 : W4 s0 s1 s2 s3 / 256 % 256 = s1 := by unfold W4; omega
    have t2 : W4 s0 s1 s2 s3 / 65536 % 256 = s2 := by unfold W4; omega
    have t3 : W4 s0 s1 s2 s3 / 16777216 % 256 = s3 := by unfold W4; omega
    rw [t0, t1, t2, t3, u0, u1, u2, u3]
    unfold W4; omega
  · rw [by1 52 _ b hc hb, by1 51 a b ha hb]
    have r0 := laneR_bd 51 (a % 65536) (b % 65536) 65536 (by decide)
    have r1 := laneR_bd 51 (a / 65536 % 65536) (b / 65536 % 65536) 65536 (by decide)
    have u0 := lane_undo (a % 65536) (b % 65536) 65536 (by omega)
    have u1 := lane_undo (a / 65536 % 65536) (b / 65536 % 65536) 65536 (by omega)
    generalize laneR 51 (a % 65536) (b % 65536) 65536 = s0 at *
    generalize laneR 51 (a / 65536 % 65536) (b / 65536 % 65536) 65536 = s1 at *
    have t0 : (s0 + s1 * 65536) % 65536 = s0 := by omega
    have t1 : (s0 + s1 * 65536) / 65536 % 65536 = s1 := by omega
    rw [t0, t1, u0, u1]
    omega
  · rw [by2 52 _ b hc hb, by2 51 a b ha hb]
    exact lane_undo a b 4294967296 ha
theorem lanes_same (d a : Int) (hd : d = 0 ∨ d = 1 ∨ d = 2) (ha : 0 ≤ a ∧ a < 4294967296) : byLanesF 53 d a a = 4294967295 := by
  rcases hd with rfl | rfl | rfl
  · rw [by0 53 a a ha ha, lane_same, lane_same, lane_same, lane_same]; rfl
  · rw [by1 53 a a ha ha, lane_same, lane_same]; rfl
  · rw [by2 53 a a ha ha, lane_same]; rfl
theorem lanes_add (a b : Int) (ha : 0 ≤ a ∧ a < 4294967296) (hb : 0 ≤ b ∧ b < 4294967296) : byLanesF 51 2 a b = sumR a b 0 := by
  rw [by2 51 a b ha hb]
  show (a + b) % 4294967296 = (a + b + 0) % 4294967296
  rw [Int.add_zero]
theorem lanes_sub (a b : Int) (ha : 0 ≤ a ∧ a < 4294967296) (hb : 0 ≤ b ∧ b < 4294967296) : byLanesF 52 2 a b = difR a b 0 := by
  rw [by2 52 a b ha hb]
  show (a - b) % 4294967296 = (a - b - 0) % 4294967296
  rw [Int.sub_zero]
end Go.Proofs.Ytpooghnemlnopaa
