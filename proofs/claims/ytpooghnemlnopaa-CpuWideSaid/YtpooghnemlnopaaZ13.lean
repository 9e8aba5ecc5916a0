/- Parts of the proof: CLanes4, SxCpu, SxCpuOk, SxCpuXt, LWideT, PlainWide, LShiftsT. -/
import Derived.Test.YtpooghnemlnopaaZ12
import Derived.Test.YtpooghnemlnopaaZ9
import Derived.Test.YtpooghnemlnopaaZ10
import Derived.Test.YtpooghnemlnopaaZ11
import Derived.Shelf.Spec.BitsCarry
/- The contract of cpu.Lanes, the rest. Written by genLanes3.py. -/
namespace Go.Proofs.Ytpooghnemlnopaa
open Go Go.RowKit Go.Cd
set_option linter.unusedVariables false
attribute [local go_sem ↓] exVs exVl Go.wp_at_zero Go.wp_at_succ
set_option maxRecDepth 100000 in
set_option maxHeartbeats 1000000 in
theorem lanes_wide (op d : Int) (a b : Vc) (w : World) (hop : op = 51 ∨ op = 52 ∨ op = 53) (hd : d < 0 ∨ 2 < d) :
    Calls Try.prog 12 #[.int .i64 op, .int .i64 d, vecV a, vecV b] w (LanesPost (lanesV op d a b) w) := by
  have e : lanesV op d a b = (zeroV, false) := by
    unfold lanesV
    rw [if_pos hop, if_pos hd]
  rw [e]
  clear e
  unfold vecV
  rcases hop with rfl | rfl | rfl <;> rcases hd with hd | hd
  all_goals
    go_enter Try.func12, Try.ntmps12
    go_upto_region 4 with (fail)
    obtain ⟨x0, x1, x2, x3, hN⟩ := laid4 w (.cells (vecA a) 32) (.cells (vecA b) 32) (.cells #[.int .u32 0, .int .u32 0, .int .u32 0, .int .u32 0] 32) (.cells #[.int .u32 0, .int .u32 0, .int .u32 0, .int .u32 0] 32)
    generalize (((w.alloc (.cells (vecA a) 32)).alloc (.cells (vecA b) 32)).alloc (.cells #[.int .u32 0, .int .u32 0, .int .u32 0, .int .u32 0] 32)).alloc (.cells #[.int .u32 0, .int .u32 0, .int .u32 0, .int .u32 0] 32) = W at *
    have Y2 := Lib.hid x2
    have Y3 := Lib.hid (show W.heap[w.heap.size + 1 + 1 + 1]? = some (.cells (vecA zeroV) 32) from x3)
    have HN := Lib.hid hN
    clear x0 x1 x2 x3 hN
    go_wp2_with fail
    rw [load_all (P := Try.prog) 32 (w.heap.size + 1 + 1 + 1) (vecA zeroV) 32 _ W Y3.out Try.underlying32 rfl (vec_size.trans rfl)]
    go_wp2_with fail
    obtain ⟨w8, hst, h8, ho8⟩ := store_all (P := Try.prog) 32 (w.heap.size + 1 + 1) _ (vecA zeroV) _ W Y2.out rfl (vec_size.trans rfl) (by simp [vecA, Value.oneCell'])
    rw [hst]
    clear hst
    have N8 := Lib.hid (new_only HN.out ho8 (by omega))
    have X8 := Lib.hid h8
    clear h8 ho8
    go_wp2_with fail
    refine ⟨rfl, _, results_cell_slot Try.results12 _ _ _ _ rfl (load_row 32 (w.heap.size + 1 + 1) (vecA zeroV) 32 _ w8 X8.out Try.underlying32 rfl (vec_size.trans rfl)), ?_⟩
    exact ⟨rfl, N8.out⟩
set_option maxRecDepth 100000 in
set_option maxHeartbeats 1000000 in
theorem lanes_else (op d : Int) (a b : Vc) (w : World) (h : op < 51 ∨ 57 < op) :
    Calls Try.prog 12 #[.int .i64 op, .int .i64 d, vecV a, vecV b] w (LanesPost (lanesV op d a b) w) := by
  have e : lanesV op d a b = (zeroV, false) := by
    unfold lanesV
    rw [if_neg (by omega), if_neg (by omega), if_neg (by omega), if_neg (by omega), if_neg (by omega)]
  rw [e]
  clear e
  have n1 : (op == 51) = false := by simp; omega
  have n2 : (op == 52) = false := by simp; omega
  have n3 : (op == 53) = false := by simp; omega
  have n4 : (op == 54) = false := by simp; omega
  have n5 : (op == 55) = false := by simp; omega
  have n6 : (op == 56) = false := by simp; omega
  have n7 : (op == 57) = false := by simp; omega
  clear h
  unfold vecV
  iterate 1
    go_enter Try.func12, Try.ntmps12
    go_upto_region 4 with (fail)
    obtain ⟨x0, x1, x2, x3, hN⟩ := laid4 w (.cells (vecA a) 32) (.cells (vecA b) 32) (.cells #[.int .u32 0, .int .u32 0, .int .u32 0, .int .u32 0] 32) (.cells #[.int .u32 0, .int .u32 0, .int .u32 0, .int .u32 0] 32)
    generalize (((w.alloc (.cells (vecA a) 32)).alloc (.cells (vecA b) 32)).alloc (.cells #[.int .u32 0, .int .u32 0, .int .u32 0, .int .u32 0] 32)).alloc (.cells #[.int .u32 0, .int .u32 0, .int .u32 0, .int .u32 0] 32) = W at *
    have Y2 := Lib.hid x2
    have Y3 := Lib.hid (show W.heap[w.heap.size + 1 + 1 + 1]? = some (.cells (vecA zeroV) 32) from x3)
    have HN := Lib.hid hN
    clear x0 x1 x2 x3 hN
    go_wp2_with fail
    rw [load_all (P := Try.prog) 32 (w.heap.size + 1 + 1 + 1) (vecA zeroV) 32 _ W Y3.out Try.underlying32 rfl (vec_size.trans rfl)]
    go_wp2_with fail
    obtain ⟨w8, hst, h8, ho8⟩ := store_all (P := Try.prog) 32 (w.heap.size + 1 + 1) _ (vecA zeroV) _ W Y2.out rfl (vec_size.trans rfl) (by simp [vecA, Value.oneCell'])
    rw [hst]
    clear hst
    have N8 := Lib.hid (new_only HN.out ho8 (by omega))
    have X8 := Lib.hid h8
    clear h8 ho8
    go_wp2_with fail
    refine ⟨rfl, _, results_cell_slot Try.results12 _ _ _ _ rfl (load_row 32 (w.heap.size + 1 + 1) (vecA zeroV) 32 _ w8 X8.out Try.underlying32 rfl (vec_size.trans rfl)), ?_⟩
    exact ⟨rfl, N8.out⟩
/-- cpu.Lanes. -/
theorem lanesc_c (op d : Int) (a b : Vc) (w : World) (ha : VcOk a) (hb : VcOk b) :
    Calls Try.prog 12 #[.int .i64 op, .int .i64 d, vecV a, vecV b] w (LanesPost (lanesV op d a b) w) := by
  by_cases h : op < 51 ∨ 57 < op
  · exact lanes_else op d a b w h
  · have h' : op = 51 ∨ op = 52 ∨ op = 53 ∨ op = 54 ∨ op = 55 ∨ op = 56 ∨ op = 57 := by omega
    have hb3 : (op = 51 ∨ op = 52 ∨ op = 53) → Calls Try.prog 12 #[.int .i64 op, .int .i64 d, vecV a, vecV b] w (LanesPost (lanesV op d a b) w) := fun h3 => by
      by_cases hd : d < 0 ∨ 2 < d
      · exact lanes_wide op d a b w h3 hd
      · exact lanes_by op d a b w h3 (by omega) ha hb
    rcases h' with h | h | h | h | h | h | h
    · exact hb3 (.inl h)
    · exact hb3 (.inr (.inl h))
    · exact hb3 (.inr (.inr h))
    · subst h; exact lanes_54 d a b w
    · subst h; exact lanes_55 d a b w
    · subst h; exact lanes_56 d a b w
    · subst h; exact lanes_57 d a b w ha hb
end Go.Proofs.Ytpooghnemlnopaa
/- The contracts of cpu, and of its specification, for runs. -/
namespace Go.Proofs.Ytpooghnemlnopaa
open Go Go.Sx Go.RowKit Go.Cd Go.MapKept
set_option linter.unusedVariables false

def tms : List SI → Tms
  | [] => .nil
  | a :: l => .cons a.tm (tms l)
theorem tms_v [Val] : ∀ l : List SI, (tms l).v = l.map SI.v
  | [] => by simp [tms, Tms.v]
  | a :: l => by simp [tms, Tms.v, tms_v l]
def fnI (k : IntKind) (f : Nat) (l : List SI) : SI := .sym (.fn k f (tms l))
def fnB (f : Nat) (l : List SI) : SB := .sym (.fn f (tms l))
/-- The plain functions by their numbers. -/
def cpuFi : Nat → List Int → Int
  | 0, [op, a, b, k] => (aluT op a b k).1
  | 1, [op, a, b, k] => (aluT op a b k).2.1
  | 2, [d, a] => (extT d a).1
  | 3, [a, b, c, d] => maskTo (fun k => [a, b, c, d].getD k 0) 16
  | 10, [op, d, a0, a1, a2, a3, b0, b1, b2, b3] => (lanesV op d (fun k => [a0, a1, a2, a3].getD k 0) (fun k => [b0, b1, b2, b3].getD k 0)).1 0
  | 11, [op, d, a0, a1, a2, a3, b0, b1, b2, b3] => (lanesV op d (fun k => [a0, a1, a2, a3].getD k 0) (fun k => [b0, b1, b2, b3].getD k 0)).1 1
  | 12, [op, d, a0, a1, a2, a3, b0, b1, b2, b3] => (lanesV op d (fun k => [a0, a1, a2, a3].getD k 0) (fun k => [b0, b1, b2, b3].getD k 0)).1 2
  | 13, [op, d, a0, a1, a2, a3, b0, b1, b2, b3] => (lanesV op d (fun k => [a0, a1, a2, a3].getD k 0) (fun k => [b0, b1, b2, b3].getD k 0)).1 3
  | _, _ => 0
def cpuFb : Nat → List Int → Bool
  | 0, [op, a, b, k] => (aluT op a b k).2.2
  | 1, [cd, f] => holdsF cd f
  | 2, [d, a] => (extT d a).2
  | 3, [op, d, a0, a1, a2, a3, b0, b1, b2, b3] => (lanesV op d (fun k => [a0, a1, a2, a3].getD k 0) (fun k => [b0, b1, b2, b3].getD k 0)).2
  | _, _ => false
@[reducible] def cpuVal (ints : Nat → Int) (bools : Nat → Bool) : Val := ⟨ints, bools, cpuFi, cpuFb⟩
/-- Has an operation of words a result? -/
def aluIs (op a b k : SI) : SB :=
  match op with
  | .lit (.ofNat n) => match Nat.ble 3 n with
    | true => match Nat.ble n 12 with
      | true => .lit true
      | false => match Nat.ble n 15 with
        | true => SI.cmp .ne b (.lit 0)
        | false => match Nat.ble n 17 with
          | true => .lit true
          | false => fnB 0 [op, a, b, k]
    | false => fnB 0 [op, a, b, k]
  | _ => fnB 0 [op, a, b, k]
def word (a : SI) : Bool := a.within 0 4294967295
theorem word_ok [Val] {a : SI} (h : word a = true) : 0 ≤ a.v ∧ a.v < 4294967296 := by
  have := SI.within_ok h
  omega
def aluS : List SV → Option SV
  | [.int .i64 op, .int .u32 a, .int .u32 b, .int .i64 k] => match word a, word b with
    | true, true => some (.tup [.int .u32 (fnI .u32 0 [op, a, b, k]), .int .i64 (fnI .i64 1 [op, a, b, k]), .bool (aluIs op a b k)])
    | _, _ => none
  | _ => none
def holdsS : List SV → Option SV
  | [.int .i64 cd, .int .i64 f] => some (.bool (fnB 1 [cd, f]))
  | _ => none
def extS : List SV → Option SV
  | [.int .i64 d, .int .u32 a] => match word a with
    | true => some (.tup [.int .u32 (fnI .u32 2 [d, a]), .bool (fnB 2 [d, a])])
    | false => none
  | _ => none
def vec4 : SV → Option (List SI)
  | .agg [.int .u32 a, .int .u32 b, .int .u32 c, .int .u32 d] => match word a, word b, word c, word d with
    | true, true, true, true => some [a, b, c, d]
    | _, _, _, _ => none
  | _ => none
def maskS : List SV → Option SV
  | [x] => match vec4 x with
    | some l => some (.int .u32 (fnI .u32 3 l))
    | none => none
  | _ => none
def lanesS : List SV → Option SV
  | [.int .i64 op, .int .i64 d, x, y] => match vec4 x, vec4 y with
    | some a, some b => match op :: d :: (a ++ b) with
      | l => some (.tup [.agg [.int .u32 (fnI .u32 10 l), .int .u32 (fnI .u32 11 l), .int .u32 (fnI .u32 12 l), .int .u32 (fnI .u32 13 l)], .bool (fnB 3 l)])
    | _, _ => none
  | _ => none
def cpuPure : Pure := fun f args =>
  match f with
  | 9 => match args with
    | [] => some (.bool (.lit true))
    | _ => none
  | 10 => aluS args
  | 13 => aluS args
  | 11 => holdsS args
  | 16 => holdsS args
  | 17 => extS args
  | 18 => extS args
  | 19 => maskS args
  | 20 => maskS args
  | 12 => lanesS args
  | _ => none
theorem flagNum_bd (z n c v : Bool) : 0 ≤ flagNum z n c v ∧ flagNum z n c v ≤ 15 := by cases z <;> cases n <;> cases c <;> cases v <;> decide
def AluBd (t : Int × Int × Bool) : Prop := (0 ≤ t.1 ∧ t.1 < 4294967296) ∧ (0 ≤ t.2.1 ∧ t.2.1 ≤ 15)
theorem AluBd.ite {c : Prop} [Decidable c] {x y : Int × Int × Bool} (hx : c → AluBd x) (hy : ¬ c → AluBd y) : AluBd (if c then x else y) := by
  by_cases h : c
  · rw [if_pos h]; exact hx h
  · rw [if_neg h]; exact hy h
theorem aluT_bd (op a b k : Int) (ha : 0 ≤ a ∧ a < 4294967296) (hb : 0 ≤ b ∧ b < 4294967296) : AluBd (aluT op a b k) := by
  have hm : 0 ≤ a * b := Int.mul_nonneg ha.1 hb.1
  have hm2 : a * b < 4294967296 * 4294967296 := by
    have h1 : a * b ≤ a * 4294967296 := Int.mul_le_mul_of_nonneg_left (by omega) ha.1
    have h2 : a * 4294967296 < 4294967296 * 4294967296 := by omega
    omega
  unfold aluT
  repeat' (apply AluBd.ite <;> intro)
  all_goals unfold AluBd
  all_goals refine ⟨?_, ?_⟩
  all_goals (try dsimp only)
  all_goals first
    | exact flagNum_bd _ _ _ _
    | exact ⟨bits_nonneg _ _ _, bits_lt _ _ _⟩
    | exact shlR_bd _ _
    | exact shrR_bd _ _ ha
    | (simp only [sumR, difR, sarR, divS]; exact ⟨Int.emod_nonneg _ (by decide), Int.emod_lt_of_pos _ (by decide)⟩)
    | omega
    | exact ⟨Int.ediv_nonneg ha.1 hb.1, Int.lt_of_le_of_lt (Int.ediv_le_self _ ha.1) ha.2⟩
    | exact ⟨Int.emod_nonneg _ (by omega), Int.lt_trans (Int.emod_lt_of_pos _ (by omega)) hb.2⟩
theorem extT_bd (d a : Int) : 0 ≤ (extT d a).1 ∧ (extT d a).1 < 4294967296 := by
  unfold extT
  repeat' split
  all_goals (try dsimp only)
  all_goals omega
theorem u32_wrap {n : Int} (h : 0 ≤ n ∧ n < 4294967296) : IntKind.u32.wrap n = n := wrap_same _ h.1 (by have := h.2; show n ≤ 4294967295; omega)
theorem i64_wrap {n : Int} (h : 0 ≤ n ∧ n ≤ 15) : IntKind.i64.wrap n = n := wrap_same _ (by have := h.1; show (-9223372036854775808 : Int) ≤ n; omega) (by have := h.2; show n ≤ 9223372036854775807; omega)
section
variable (ints : Nat → Int) (bools : Nat → Bool)
theorem alu_pure : letI := cpuVal ints bools; ∀ f, f = 10 ∨ f = 13 → ∀ args v, aluS args = some v → ∀ (ρ : Env) (vs : List Value) (w : World), SV.DenL ρ args vs → Calls Try.prog f vs.toArray w fun e w' => ∃ x, e = .returned x ∧ v.Den ρ x ∧ New w w' := by
  letI := cpuVal ints bools
  intro f hf args v h ρ vs w hd
  unfold aluS at h
  split at h <;> try (cases h; done)
  rename_i op a b k
  split at h <;> cases h
  rename_i ha hb
  have ha := word_ok ha
  have hb := word_ok hb
  obtain ⟨x0, _, rfl, h0, r0⟩ := denL_cons.1 hd
  obtain ⟨x1, _, rfl, h1, r1⟩ := denL_cons.1 r0
  obtain ⟨x2, _, rfl, h2, r2⟩ := denL_cons.1 r1
  obtain ⟨x3, _, rfl, h3, r3⟩ := denL_cons.1 r2
  rw [denL_nil] at r3
  simp only [SV.Den] at h0 h1 h2 h3
  subst h0 h1 h2 h3 r3
  have hbd := aluT_bd op.v a.v b.v k.v ha hb
  have key : ∀ e w', AluPost (aluT op.v a.v b.v k.v) w e w' → ∃ x, e = .returned x ∧ (SV.tup [.int .u32 (fnI .u32 0 [op, a, b, k]), .int .i64 (fnI .i64 1 [op, a, b, k]), .bool (aluIs op a b k)]).Den ρ x ∧ New w w' := by
    rintro e w' ⟨rfl, hn⟩
    refine ⟨_, rfl, ?_, hn⟩
    simp only [SV.Den]
    refine ⟨[_, _, _], denL_cons'.2 ⟨?_, denL_cons'.2 ⟨?_, denL_cons'.2 ⟨?_, by simp⟩⟩⟩, rfl⟩
    · simp only [SV.Den, fnI, SI.sym_v, Tm.v, tms_v, List.map]
      show Value.int .u32 _ = .int .u32 (IntKind.u32.wrap (aluT op.v a.v b.v k.v).1)
      rw [u32_wrap hbd.1]
    · simp only [SV.Den, fnI, SI.sym_v, Tm.v, tms_v, List.map]
      show Value.int .i64 _ = .int .i64 (IntKind.i64.wrap (aluT op.v a.v b.v k.v).2.1)
      rw [i64_wrap hbd.2]
    · simp only [SV.Den]
      have hfn : (aluT op.v a.v b.v k.v).2.2 = (fnB 0 [op, a, b, k]).v := by
        simp only [fnB, SB.sym_v, Bm.v, tms_v, List.map]
        rfl
      unfold aluIs
      split
      · rename_i n
        split
        · rename_i q1
          have q1 := Nat.le_of_ble_eq_true q1
          split
          · rename_i q2
            have q2 := Nat.le_of_ble_eq_true q2
            have hn : n = 3 ∨ n = 4 ∨ n = 5 ∨ n = 6 ∨ n = 7 ∨ n = 8 ∨ n = 9 ∨ n = 10 ∨ n = 11 ∨ n = 12 := by omega
            simp only [SI.lit_v, SB.lit_v]
            rcases hn with rfl | rfl | rfl | rfl | rfl | rfl | rfl | rfl | rfl | rfl <;> rfl
          · rename_i q2
            have q2 : ¬ n ≤ 12 := fun h => by rw [Nat.ble_eq_true_of_le h] at q2; cases q2
            split
            · rename_i q3
              have q3 := Nat.le_of_ble_eq_true q3
              have hn : n = 13 ∨ n = 14 ∨ n = 15 := by omega
              rw [SI.cmp_v]
              simp only [SI.lit_v, COp.f]
              have hz : (b.v != 0) = !decide (b.v = 0) := by rw [Bool.eq_iff_iff]; simp
              rw [hz]
              rcases hn with rfl | rfl | rfl
              · show Value.bool (aluT 13 a.v b.v k.v).2.2 = _
                by_cases h0 : b.v = 0
                · simp [aluT, h0]
                · simp [aluT, h0]
              · show Value.bool (aluT 14 a.v b.v k.v).2.2 = _
                by_cases h0 : b.v = 0
                · simp [aluT, h0]
                · simp [aluT, h0]
              · show Value.bool (aluT 15 a.v b.v k.v).2.2 = _
                by_cases h0 : b.v = 0
                · simp [aluT, h0]
                · simp [aluT, h0]
            · rename_i q3
              have q3 : ¬ n ≤ 15 := fun h => by rw [Nat.ble_eq_true_of_le h] at q3; cases q3
              split
              · rename_i q4
                have q4 := Nat.le_of_ble_eq_true q4
                have hn : n = 16 ∨ n = 17 := by omega
                simp only [SI.lit_v, SB.lit_v]
                rcases hn with rfl | rfl <;> rfl
              · rw [hfn]
        · rw [hfn]
      · rw [hfn]
  rcases hf with rfl | rfl
  · exact (alu_c _ _ _ _ w ha hb).mono key
  · exact (ralu_c _ _ _ _ w ha hb).mono key
theorem holds_pure : letI := cpuVal ints bools; ∀ f, f = 11 ∨ f = 16 → ∀ args v, holdsS args = some v → ∀ (ρ : Env) (vs : List Value) (w : World), SV.DenL ρ args vs → Calls Try.prog f vs.toArray w fun e w' => ∃ x, e = .returned x ∧ v.Den ρ x ∧ New w w' := by
  letI := cpuVal ints bools
  intro f hf args v h ρ vs w hd
  unfold holdsS at h
  split at h <;> cases h
  rename_i cd fl
  obtain ⟨x0, _, rfl, h0, r0⟩ := denL_cons.1 hd
  obtain ⟨x1, _, rfl, h1, r1⟩ := denL_cons.1 r0
  rw [denL_nil] at r1
  simp only [SV.Den] at h0 h1
  subst h0 h1 r1
  have key : ∀ e w', (e = Ending.returned (.bool (holdsF cd.v fl.v)) ∧ New w w') → ∃ x, e = .returned x ∧ (SV.bool (fnB 1 [cd, fl])).Den ρ x ∧ New w w' := by
    rintro e w' ⟨rfl, hn⟩
    refine ⟨_, rfl, ?_, hn⟩
    simp only [SV.Den, fnB, SB.sym_v, Bm.v, tms_v, List.map]
    rfl
  rcases hf with rfl | rfl
  · exact (holds_c _ _ w).mono key
  · exact (rholds7_c _ _ w).mono key
theorem ext_pure : letI := cpuVal ints bools; ∀ f, f = 17 ∨ f = 18 → ∀ args v, extS args = some v → ∀ (ρ : Env) (vs : List Value) (w : World), SV.DenL ρ args vs → Calls Try.prog f vs.toArray w fun e w' => ∃ x, e = .returned x ∧ v.Den ρ x ∧ New w w' := by
  letI := cpuVal ints bools
  intro f hf args v h ρ vs w hd
  unfold extS at h
  split at h <;> try (cases h; done)
  rename_i d a
  split at h <;> cases h
  rename_i ha
  have ha := word_ok ha
  obtain ⟨x0, _, rfl, h0, r0⟩ := denL_cons.1 hd
  obtain ⟨x1, _, rfl, h1, r1⟩ := denL_cons.1 r0
  rw [denL_nil] at r1
  simp only [SV.Den] at h0 h1
  subst h0 h1 r1
  have hbd := extT_bd d.v a.v
  have key : ∀ e w', ExtPost (extT d.v a.v) w e w' → ∃ x, e = .returned x ∧ (SV.tup [.int .u32 (fnI .u32 2 [d, a]), .bool (fnB 2 [d, a])]).Den ρ x ∧ New w w' := by
    rintro e w' ⟨rfl, rfl⟩
    refine ⟨_, rfl, ?_, New.refl _⟩
    simp only [SV.Den]
    refine ⟨[_, _], denL_cons'.2 ⟨?_, denL_cons'.2 ⟨?_, by simp⟩⟩, rfl⟩
    · simp only [SV.Den, fnI, SI.sym_v, Tm.v, tms_v, List.map]
      show Value.int .u32 _ = .int .u32 (IntKind.u32.wrap (extT d.v a.v).1)
      rw [u32_wrap hbd]
    · simp only [SV.Den, fnB, SB.sym_v, Bm.v, tms_v, List.map]
      rfl
  rcases hf with rfl | rfl
  · exact (ext_c _ _ w ha).mono key
  · exact (rext_c _ _ w ha).mono key
end
end Go.Proofs.Ytpooghnemlnopaa
/- The contracts of cpu for runs: all of them together. -/
namespace Go.Proofs.Ytpooghnemlnopaa
open Go Go.Sx Go.RowKit Go.Cd Go.MapKept
set_option linter.unusedVariables false
section
variable (ints : Nat → Int) (bools : Nat → Bool)
theorem vec4_ok [Val] {x : SV} {l : List SI} {ρ : Env} {v : Value} (h : vec4 x = some l) (hx : x.Den ρ v) : ∃ a b c d, l = [a, b, c, d] ∧ v = vecV (fun k => [a.v, b.v, c.v, d.v].getD k 0) ∧ VcOk (fun k => [a.v, b.v, c.v, d.v].getD k 0) := by
  unfold vec4 at h
  split at h <;> try (cases h; done)
  rename_i a b c d
  split at h <;> cases h
  rename_i ha hb hc hd
  have ha := word_ok ha
  have hb := word_ok hb
  have hc := word_ok hc
  have hd := word_ok hd
  simp only [SV.Den] at hx
  obtain ⟨vs, hvs, rfl⟩ := hx
  obtain ⟨x0, _, rfl, h0, r0⟩ := denL_cons.1 hvs
  obtain ⟨x1, _, rfl, h1, r1⟩ := denL_cons.1 r0
  obtain ⟨x2, _, rfl, h2, r2⟩ := denL_cons.1 r1
  obtain ⟨x3, _, rfl, h3, r3⟩ := denL_cons.1 r2
  rw [denL_nil] at r3
  simp only [SV.Den] at h0 h1 h2 h3
  subst h0 h1 h2 h3 r3
  refine ⟨a, b, c, d, rfl, rfl, fun k hk => ?_⟩
  match k, hk with
  | 0, _ => exact ha
  | 1, _ => exact hb
  | 2, _ => exact hc
  | 3, _ => exact hd
theorem mask_pure : letI := cpuVal ints bools; ∀ f, f = 19 ∨ f = 20 → ∀ args v, maskS args = some v → ∀ (ρ : Env) (vs : List Value) (w : World), SV.DenL ρ args vs → Calls Try.prog f vs.toArray w fun e w' => ∃ x, e = .returned x ∧ v.Den ρ x ∧ New w w' := by
  letI := cpuVal ints bools
  intro f hf args v h ρ vs w hd
  unfold maskS at h
  split at h <;> try (cases h; done)
  rename_i x
  split at h <;> cases h
  rename_i l hl
  obtain ⟨x0, _, rfl, h0, r0⟩ := denL_cons.1 hd
  rw [denL_nil] at r0; subst r0
  obtain ⟨a, b, c, d, rfl, rfl, hok⟩ := vec4_ok hl h0
  have hbd := maskTo_bd (fun k => [a.v, b.v, c.v, d.v].getD k 0) 16
  have key : ∀ e w', (e = Ending.returned (.int .u32 (maskTo (fun k => [a.v, b.v, c.v, d.v].getD k 0) 16)) ∧ New w w') → ∃ x, e = .returned x ∧ (SV.int .u32 (fnI .u32 3 [a, b, c, d])).Den ρ x ∧ New w w' := by
    rintro e w' ⟨rfl, hn⟩
    refine ⟨_, rfl, ?_, hn⟩
    simp only [SV.Den, fnI, SI.sym_v, Tm.v, tms_v, List.map]
    show Value.int .u32 _ = .int .u32 (IntKind.u32.wrap (maskTo (fun k => [a.v, b.v, c.v, d.v].getD k 0) 16))
    rw [u32_wrap hbd]
  rcases hf with rfl | rfl
  · exact (mask_c _ w hok).mono key
  · exact (rmask_c _ w hok).mono key
end
def VBd (t : Vc × Bool) : Prop := ∀ k, k < 4 → 0 ≤ t.1 k ∧ t.1 k < 4294967296
theorem VBd.ite {c : Prop} [Decidable c] {x y : Vc × Bool} (hx : c → VBd x) (hy : ¬ c → VBd y) : VBd (if c then x else y) := by
  by_cases h : c
  · rw [if_pos h]; exact hx h
  · rw [if_neg h]; exact hy h
theorem or_bd (x y : Int) : 0 ≤ bits .or .u32 x y ∧ bits .or .u32 x y < 4294967296 := ⟨bits_nonneg _ _ _, bits_lt _ _ _⟩
theorem zero_bd : (0 : Int) ≤ 0 ∧ (0 : Int) < 4294967296 := by decide
theorem byLanes_bd (op d a b : Int) : 0 ≤ byLanesF op d a b ∧ byLanesF op d a b < 4294967296 := by
  have key : ∀ (l : List (Int × Int)) (o : Int), 0 ≤ o ∧ o < 4294967296 → 0 ≤ l.foldl (laneSt op a b) o ∧ l.foldl (laneSt op a b) o < 4294967296 := fun l => by
    induction l with
    | nil => exact fun o h => h
    | cons p l ih => exact fun o h => ih _ (or_bd _ _)
  exact key _ 0 zero_bd
theorem shuf_bd (a b : Vc) : ∀ n k, 0 ≤ shufTo a b n k ∧ shufTo a b n k < 4294967296
  | 0, k => zero_bd
  | n + 1, k => by
    unfold shufTo setV
    split
    · exact or_bd _ _
    · exact shuf_bd a b n k
theorem VBd.of {v : Vc} {t : Bool} (h : ∀ k, k < 4 → 0 ≤ v k ∧ v k < 4294967296) : VBd (v, t) := h
theorem lanesTo_bd (op d : Int) (a b : Vc) (k : Nat) (hk : k < 4) : 0 ≤ lanesTo op d a b 4 k ∧ lanesTo op d a b 4 k < 4294967296 := by
  unfold lanesTo; rw [if_pos hk]; exact byLanes_bd _ _ _ _
theorem lanesV_bd (op d : Int) (a b : Vc) : VBd (lanesV op d a b) := by
  unfold lanesV
  refine VBd.ite (fun _ => VBd.ite (fun _ => VBd.of fun k hk => zero_bd) fun _ => VBd.of fun k hk => lanesTo_bd op d a b k hk) fun _ => ?_
  refine VBd.ite (fun _ => VBd.of fun k hk => ⟨bits_nonneg _ _ _, bits_lt _ _ _⟩) fun _ => ?_
  refine VBd.ite (fun _ => VBd.of fun k hk => ⟨bits_nonneg _ _ _, bits_lt _ _ _⟩) fun _ => ?_
  refine VBd.ite (fun _ => VBd.of fun k hk => ⟨bits_nonneg _ _ _, bits_lt _ _ _⟩) fun _ => ?_
  exact VBd.ite (fun _ => VBd.of fun k hk => shuf_bd a b 16 k) fun _ => VBd.of fun k hk => zero_bd
section
variable (ints : Nat → Int) (bools : Nat → Bool)
theorem lanes_pure : letI := cpuVal ints bools; ∀ args v, lanesS args = some v → ∀ (ρ : Env) (vs : List Value) (w : World), SV.DenL ρ args vs → Calls Try.prog 12 vs.toArray w fun e w' => ∃ x, e = .returned x ∧ v.Den ρ x ∧ New w w' := by
  letI := cpuVal ints bools
  intro args v h ρ vs w hd
  unfold lanesS at h
  split at h <;> try (cases h; done)
  rename_i op d x y
  split at h <;> try (cases h; done)
  rename_i la lb hla hlb
  obtain ⟨x0, _, rfl, h0, r0⟩ := denL_cons.1 hd
  obtain ⟨x1, _, rfl, h1, r1⟩ := denL_cons.1 r0
  obtain ⟨x2, _, rfl, h2, r2⟩ := denL_cons.1 r1
  obtain ⟨x3, _, rfl, h3, r3⟩ := denL_cons.1 r2
  rw [denL_nil] at r3; subst r3
  simp only [SV.Den] at h0 h1
  subst h0 h1
  obtain ⟨a0, a1, a2, a3, rfl, rfl, hoka⟩ := vec4_ok hla h2
  obtain ⟨b0, b1, b2, b3, rfl, rfl, hokb⟩ := vec4_ok hlb h3
  cases h
  have hbd := lanesV_bd op.v d.v (fun k => [a0.v, a1.v, a2.v, a3.v].getD k 0) (fun k => [b0.v, b1.v, b2.v, b3.v].getD k 0)
  refine (lanesc_c op.v d.v _ _ w hoka hokb).mono ?_
  rintro e w' ⟨rfl, hn⟩
  refine ⟨_, rfl, ?_, hn⟩
  simp only [SV.Den]
  refine ⟨[_, _], denL_cons'.2 ⟨?_, denL_cons'.2 ⟨?_, by simp⟩⟩, rfl⟩
  · simp only [SV.Den]
    refine ⟨[_, _, _, _], denL_cons'.2 ⟨?_, denL_cons'.2 ⟨?_, denL_cons'.2 ⟨?_, denL_cons'.2 ⟨?_, by simp⟩⟩⟩⟩, rfl⟩
    · simp only [SV.Den, fnI, SI.sym_v, Tm.v, tms_v, List.map, List.cons_append, List.nil_append]
      exact congrArg (Value.int .u32) (u32_wrap (hbd 0 (by decide))).symm
    · simp only [SV.Den, fnI, SI.sym_v, Tm.v, tms_v, List.map, List.cons_append, List.nil_append]
      exact congrArg (Value.int .u32) (u32_wrap (hbd 1 (by decide))).symm
    · simp only [SV.Den, fnI, SI.sym_v, Tm.v, tms_v, List.map, List.cons_append, List.nil_append]
      exact congrArg (Value.int .u32) (u32_wrap (hbd 2 (by decide))).symm
    · simp only [SV.Den, fnI, SI.sym_v, Tm.v, tms_v, List.map, List.cons_append, List.nil_append]
      exact congrArg (Value.int .u32) (u32_wrap (hbd 3 (by decide))).symm
  · simp only [SV.Den, fnB, SB.sym_v, Bm.v, tms_v, List.map, List.cons_append, List.nil_append]
    rfl
end
theorem cpuPure_ok (ints : Nat → Int) (bools : Nat → Bool) : letI := cpuVal ints bools; PureOk Try.prog cpuPure := by
  letI := cpuVal ints bools
  intro f args v h ρ vs w hd
  unfold cpuPure at h
  split at h
  · split at h <;> cases h
    rw [denL_nil] at hd; subst hd
    refine (sane_c w).mono ?_
    rintro e w' ⟨rfl, hn⟩
    exact ⟨_, rfl, by simp only [SV.Den, SB.lit_v], hn⟩
  · exact alu_pure ints bools _ (.inl rfl) args v h ρ vs w hd
  · exact alu_pure ints bools _ (.inr rfl) args v h ρ vs w hd
  · exact holds_pure ints bools _ (.inl rfl) args v h ρ vs w hd
  · exact holds_pure ints bools _ (.inr rfl) args v h ρ vs w hd
  · exact ext_pure ints bools _ (.inl rfl) args v h ρ vs w hd
  · exact ext_pure ints bools _ (.inr rfl) args v h ρ vs w hd
  · exact mask_pure ints bools _ (.inl rfl) args v h ρ vs w hd
  · exact mask_pure ints bools _ (.inr rfl) args v h ρ vs w hd
  · exact lanes_pure ints bools args v h ρ vs w hd
  · cases h
end Go.Proofs.Ytpooghnemlnopaa
/- math/bits.Add64 and Sub64, which the model answers by itself. -/
namespace Go.Proofs.Ytpooghnemlnopaa
open Go Go.Sx Go.RowKit Go.Cd Go.MapKept
set_option linter.unusedVariables false
def word64 (a : SI) : Bool := a.within 0 18446744073709551615
def cpuXt : FuncId → List SV → Option SV := fun f args =>
  match f, args with
  | 22, [.int .u64 x, .int .u64 y, .int .u64 (.lit 0)] => match word64 x, word64 y with
    | true, true => some (.tup [.int .u64 (SI.op (.add .u64) x y), .int .u64 (.sym (.ite (.cmp .lt (SI.op (.add .u64) x y).tm x.tm) (.lit 1) (.lit 0)))])
    | _, _ => none
  | 23, [.int .u64 x, .int .u64 y, .int .u64 (.lit 0)] => match word64 x, word64 y with
    | true, true => some (.tup [.int .u64 (SI.op (.sub .u64) x y), .int .u64 (.sym (.ite (.cmp .lt x.tm y.tm) (.lit 1) (.lit 0)))])
    | _, _ => none
  | _, _ => none
theorem wrap_u64 (n : Int) : IntKind.u64.wrap n = n % 18446744073709551616 := by
  simp only [IntKind.wrap, IntKind.bits, IntKind.signed]
  simp
theorem call_add64 (x y : Int) (hx : 0 ≤ x ∧ x ≤ 18446744073709551615) (hy : 0 ≤ y ∧ y ≤ 18446744073709551615) (w : World) :
    (callFunc 22 #[.int .u64 x, .int .u64 y, .int .u64 0]).run Try.prog w = .ok (.value (.tuple #[.int .u64 (IntKind.u64.wrap (x + y)), .int .u64 (if IntKind.u64.wrap (x + y) < x then 1 else 0)])) w := by
  rw [run_callFunc_extern Try.func22 (by kernel_rfl) (by kernel_rfl) (by kernel_rfl) (e := add64Entry) (by kernel_rfl), run_add64 x y 0 hx.1 hy.1 (by decide) (by decide)]
  have e1 : (x + y + 0) % 18446744073709551616 = IntKind.u64.wrap (x + y) := by rw [wrap_u64, Int.add_zero]
  have e2 : (x + y + 0) / 18446744073709551616 = if IntKind.u64.wrap (x + y) < x then 1 else 0 := by
    rw [wrap_u64]
    split <;> omega
  rw [e1, e2]
  rfl
theorem call_sub64 (x y : Int) (hx : 0 ≤ x ∧ x ≤ 18446744073709551615) (hy : 0 ≤ y ∧ y ≤ 18446744073709551615) (w : World) :
    (callFunc 23 #[.int .u64 x, .int .u64 y, .int .u64 0]).run Try.prog w = .ok (.value (.tuple #[.int .u64 (IntKind.u64.wrap (x - y)), .int .u64 (if x < y then 1 else 0)])) w := by
  obtain ⟨x, rfl⟩ := Int.eq_ofNat_of_zero_le hx.1
  obtain ⟨y, rfl⟩ := Int.eq_ofNat_of_zero_le hy.1
  rw [run_callFunc_extern Try.func23 (by kernel_rfl) (by kernel_rfl) (by kernel_rfl) (e := sub64Entry) (by kernel_rfl)]
  have h := run_sub64 (P := Try.prog) x y 0 (by decide) w
  have h' : (sub64Entry #[.int .u64 x, .int .u64 y, .int .u64 0]).run Try.prog w = _ := h
  rw [h']
  have e1 : (((x + 18446744073709551616 - y - 0) % 18446744073709551616 : Nat) : Int) = IntKind.u64.wrap ((x : Int) - y) := by
    rw [wrap_u64]; omega
  have e2 : ((if x < y + 0 then 1 else 0 : Nat) : Int) = if (x : Int) < y then 1 else 0 := by
    split <;> split <;> first | rfl | omega
  rw [e1, e2]
  rfl
theorem cpuXt_ok [Val] : XtOk Try.prog cpuXt := by
  intro f args v h ρ vs w hd
  unfold cpuXt at h
  split at h <;> try (cases h; done)
  · rename_i x y
    split at h <;> cases h
    rename_i hx hy
    have hx := SI.within_ok hx
    have hy := SI.within_ok hy
    obtain ⟨x0, _, rfl, h0, r0⟩ := denL_cons.1 hd
    obtain ⟨x1, _, rfl, h1, r1⟩ := denL_cons.1 r0
    obtain ⟨x2, _, rfl, h2, r2⟩ := denL_cons.1 r1
    rw [denL_nil] at r2
    simp only [SV.Den, SI.lit_v] at h0 h1 h2
    subst h0 h1 h2 r2
    refine ⟨_, call_add64 x.v y.v hx hy w, ?_⟩
    simp only [SV.Den]
    refine ⟨[_, _], denL_cons'.2 ⟨?_, denL_cons'.2 ⟨?_, by simp⟩⟩, rfl⟩
    · simp only [SV.Den, SI.op_v, IOp.f]
    · simp only [SV.Den, SI.sym_v, Tm.v, Bm.v, SI.tm_v, SI.op_v, IOp.f, COp.f, decide_eq_true_eq]
  · rename_i x y
    split at h <;> cases h
    rename_i hx hy
    have hx := SI.within_ok hx
    have hy := SI.within_ok hy
    obtain ⟨x0, _, rfl, h0, r0⟩ := denL_cons.1 hd
    obtain ⟨x1, _, rfl, h1, r1⟩ := denL_cons.1 r0
    obtain ⟨x2, _, rfl, h2, r2⟩ := denL_cons.1 r1
    rw [denL_nil] at r2
    simp only [SV.Den, SI.lit_v] at h0 h1 h2
    subst h0 h1 h2 r2
    refine ⟨_, call_sub64 x.v y.v hx hy w, ?_⟩
    simp only [SV.Den]
    refine ⟨[_, _], denL_cons'.2 ⟨?_, denL_cons'.2 ⟨?_, by simp⟩⟩, rfl⟩
    · simp only [SV.Den, SI.op_v, IOp.f]
    · simp only [SV.Den, SI.sym_v, Tm.v, Bm.v, SI.tm_v, COp.f, decide_eq_true_eq]
end Go.Proofs.Ytpooghnemlnopaa
/- CpuWide, run: what is left to be shown. -/
namespace Go.Proofs.Ytpooghnemlnopaa
open Go Go.Sx Go.RowKit Go.Cd Go.MapKept
set_option linter.unusedVariables false
def widet0 : Tm := .fn .i64 1 (.cons (.lit 3) (.cons (.un (.wrap .u32) (.var .u64 0)) (.cons (.un (.wrap .u32) (.var .u64 1)) (.cons (.lit 0) .nil))))
def widet1 : Tm := .fn .u32 0 (.cons (.lit 16) (.cons (.op (.shr .u64) (.var .u64 0) (.lit 32)) (.cons (.op (.shr .u64) (.var .u64 1) (.lit 32)) (.cons (.op (.shr .i64) widet0 (.lit 2)) .nil))))
def widet2 : Tm := .fn .u32 0 (.cons (.lit 3) (.cons (.un (.wrap .u32) (.var .u64 0)) (.cons (.un (.wrap .u32) (.var .u64 1)) (.cons (.lit 0) .nil))))
def widet3 : Tm := .fn .i64 1 (.cons (.lit 16) (.cons (.op (.shr .u64) (.var .u64 0) (.lit 32)) (.cons (.op (.shr .u64) (.var .u64 1) (.lit 32)) (.cons (.op (.shr .i64) widet0 (.lit 2)) .nil))))
def widet4 : Tm := .fn .i64 1 (.cons (.lit 4) (.cons (.un (.wrap .u32) (.var .u64 0)) (.cons (.un (.wrap .u32) (.var .u64 1)) (.cons (.lit 0) .nil))))
def widet5 : Tm := .fn .u32 0 (.cons (.lit 17) (.cons (.op (.shr .u64) (.var .u64 0) (.lit 32)) (.cons (.op (.shr .u64) (.var .u64 1) (.lit 32)) (.cons (.op (.shr .i64) widet4 (.lit 2)) .nil))))
def widet6 : Tm := .fn .u32 0 (.cons (.lit 4) (.cons (.un (.wrap .u32) (.var .u64 0)) (.cons (.un (.wrap .u32) (.var .u64 1)) (.cons (.lit 0) .nil))))
def widet7 : Tm := .fn .i64 1 (.cons (.lit 17) (.cons (.op (.shr .u64) (.var .u64 0) (.lit 32)) (.cons (.op (.shr .u64) (.var .u64 1) (.lit 32)) (.cons (.op (.shr .i64) widet4 (.lit 2)) .nil))))
def widet8 : Tm := .fn .u32 0 (.cons (.lit 12) (.cons (.un (.wrap .u32) (.var .u64 0)) (.cons (.un (.wrap .u32) (.var .u64 1)) (.cons (.lit 0) .nil))))
def widet9 : Tm := .fn .u32 0 (.cons (.lit 11) (.cons (.un (.wrap .u32) (.var .u64 0)) (.cons (.un (.wrap .u32) (.var .u64 1)) (.cons (.lit 0) .nil))))
def widet10 : Tm := .fn .u32 0 (.cons (.lit 13) (.cons (.un (.wrap .u32) (.var .u64 0)) (.cons (.un (.wrap .u32) (.var .u64 1)) (.cons (.lit 0) .nil))))
def widet11 : Tm := .fn .u32 0 (.cons (.lit 14) (.cons (.un (.wrap .u32) (.var .u64 0)) (.cons (.un (.wrap .u32) (.var .u64 1)) (.cons (.lit 0) .nil))))
def widet12 : Tm := .fn .u32 0 (.cons (.lit 15) (.cons (.un (.wrap .u32) (.var .u64 0)) (.cons (.un (.wrap .u32) (.var .u64 1)) (.cons (.lit 0) .nil))))
def wideb0 : Bm := .cmp .eq (.op (.or .u64) (.op (.shl .u64) widet1 (.lit 32)) widet2) (.op (.add .u64) (.var .u64 0) (.var .u64 1))
def wideb1 : Bm := .cmp .eq (.op (.and .i64) widet3 (.lit 4)) (.lit 0)
def wideb2 : Bm := .cmp .eq (.ite (.cmp .lt (.op (.add .u64) (.var .u64 0) (.var .u64 1)) (.var .u64 0)) (.lit 1) (.lit 0)) (.lit 1)
def wideb3 : Bm := .cmp .eq (.op (.and .i64) widet3 (.lit 8)) (.lit 0)
def wideb4 : Bm := .cmp .eq (.op (.shr .u64) (.op (.and .u64) (.op (.xor .u64) (.var .u64 0) (.op (.add .u64) (.var .u64 0) (.var .u64 1))) (.op (.xor .u64) (.var .u64 1) (.op (.add .u64) (.var .u64 0) (.var .u64 1)))) (.lit 63)) (.lit 1)
def wideb5 : Bm := .cmp .eq (.op (.or .u64) (.op (.shl .u64) widet5 (.lit 32)) widet6) (.op (.sub .u64) (.var .u64 0) (.var .u64 1))
def wideb6 : Bm := .cmp .eq (.op (.and .i64) widet7 (.lit 4)) (.lit 0)
def wideb7 : Bm := .cmp .eq (.ite (.cmp .lt (.var .u64 0) (.var .u64 1)) (.lit 1) (.lit 0)) (.lit 1)
def wideb8 : Bm := .cmp .eq (.op (.and .i64) widet7 (.lit 8)) (.lit 0)
def wideb9 : Bm := .cmp .eq (.op (.shr .u64) (.op (.and .u64) (.op (.xor .u64) (.var .u64 0) (.var .u64 1)) (.op (.xor .u64) (.var .u64 0) (.op (.sub .u64) (.var .u64 0) (.var .u64 1)))) (.lit 63)) (.lit 1)
def wideb10 : Bm := .cmp .eq (.op (.or .u64) (.op (.shl .u64) widet8 (.lit 32)) widet9) (.op (.mul .u64) (.un (.wrap .u32) (.var .u64 0)) (.un (.wrap .u32) (.var .u64 1)))
def wideb11 : Bm := .cmp .eq (.un (.wrap .u32) (.var .u64 1)) (.lit 0)
def wideb12 : Bm := .cmp .eq (.un (.wrap .u32) (.var .u64 0)) (.lit 2147483648)
def wideb13 : Bm := .cmp .eq (.un (.wrap .u32) (.var .u64 1)) (.lit 4294967295)
def wideb14 : Bm := .cmp .eq (.op (.add .u64) (.op (.mul .u64) widet10 (.un (.wrap .u32) (.var .u64 1))) widet11) (.un (.wrap .u32) (.var .u64 0))
def wideb15 : Bm := .cmp .lt widet11 (.un (.wrap .u32) (.var .u64 1))
def wideb16 : Bm := .cmp .lt (.lit 0) (.ite (.cmp .gt (.un (.neg .i64) (.un (.wrap .i32) (.un (.wrap .u32) (.var .u64 1)))) (.un (.wrap .i32) (.un (.wrap .u32) (.var .u64 1)))) (.un (.neg .i64) (.un (.wrap .i32) (.un (.wrap .u32) (.var .u64 1)))) (.un (.wrap .i32) (.un (.wrap .u32) (.var .u64 1))))
def wideb17 : Bm := .cmp .lt (.ite (.cmp .gt (.un (.neg .i64) (.op (.sub .i64) (.un (.wrap .i32) (.un (.wrap .u32) (.var .u64 0))) (.op (.mul .i64) (.un (.wrap .i32) widet12) (.un (.wrap .i32) (.un (.wrap .u32) (.var .u64 1)))))) (.op (.sub .i64) (.un (.wrap .i32) (.un (.wrap .u32) (.var .u64 0))) (.op (.mul .i64) (.un (.wrap .i32) widet12) (.un (.wrap .i32) (.un (.wrap .u32) (.var .u64 1)))))) (.un (.neg .i64) (.op (.sub .i64) (.un (.wrap .i32) (.un (.wrap .u32) (.var .u64 0))) (.op (.mul .i64) (.un (.wrap .i32) widet12) (.un (.wrap .i32) (.un (.wrap .u32) (.var .u64 1)))))) (.op (.sub .i64) (.un (.wrap .i32) (.un (.wrap .u32) (.var .u64 0))) (.op (.mul .i64) (.un (.wrap .i32) widet12) (.un (.wrap .i32) (.un (.wrap .u32) (.var .u64 1)))))) (.ite (.cmp .gt (.un (.neg .i64) (.un (.wrap .i32) (.un (.wrap .u32) (.var .u64 1)))) (.un (.wrap .i32) (.un (.wrap .u32) (.var .u64 1)))) (.un (.neg .i64) (.un (.wrap .i32) (.un (.wrap .u32) (.var .u64 1)))) (.un (.wrap .i32) (.un (.wrap .u32) (.var .u64 1))))
def wideb18 : Bm := .cmp .eq (.op (.sub .i64) (.un (.wrap .i32) (.un (.wrap .u32) (.var .u64 0))) (.op (.mul .i64) (.un (.wrap .i32) widet12) (.un (.wrap .i32) (.un (.wrap .u32) (.var .u64 1))))) (.lit 0)
def wideb19 : Bm := .cmp .lt (.op (.sub .i64) (.un (.wrap .i32) (.un (.wrap .u32) (.var .u64 0))) (.op (.mul .i64) (.un (.wrap .i32) widet12) (.un (.wrap .i32) (.un (.wrap .u32) (.var .u64 1))))) (.lit 0)
def wideb20 : Bm := .cmp .lt (.un (.wrap .i32) (.un (.wrap .u32) (.var .u64 0))) (.lit 0)
def wideT : Tree SB := .split (.not wideb0) (.leaf (.lit false)) (.split (.lop .or (.not wideb0) (.not (.lop .eq (.not wideb1) wideb2))) (.leaf (.lit false)) (.split (.lop .or (.lop .or (.not wideb0) (.not (.lop .eq (.not wideb1) wideb2))) (.not (.lop .eq (.not wideb3) wideb4))) (.leaf (.lit false)) (.split (.not wideb5) (.leaf (.lit false)) (.split (.lop .or (.not wideb5) (.not (.lop .eq (.not wideb6) wideb7))) (.leaf (.lit false)) (.split (.lop .or (.lop .or (.not wideb5) (.not (.lop .eq (.not wideb6) wideb7))) (.not (.lop .eq (.not wideb8) wideb9))) (.leaf (.lit false)) (.split (.not wideb10) (.leaf (.lit false)) (.split wideb11 (.leaf (.sym (.lop .and (.lop .and wideb11 wideb11) wideb11))) (.split wideb12 (.split (.lop .and wideb12 wideb13) (.split (.lop .and (.lop .and (.lop .and (.not wideb11) (.not wideb11)) (.not wideb11)) wideb14) (.split (.lop .and (.lop .and (.lop .and (.lop .and (.not wideb11) (.not wideb11)) (.not wideb11)) wideb14) wideb15) (.split (.lop .and (.lop .and (.lop .and (.lop .and (.lop .and (.not wideb11) (.not wideb11)) (.not wideb11)) wideb14) wideb15) wideb16) (.leaf (.sym (.lop .and (.lop .and (.lop .and (.lop .and (.lop .and (.not wideb11) (.not wideb11)) (.not wideb11)) wideb14) wideb15) wideb16))) (.leaf (.lit false))) (.leaf (.lit false))) (.leaf (.lit false))) (.split (.lop .and (.lop .and (.lop .and (.not wideb11) (.not wideb11)) (.not wideb11)) wideb14) (.split (.lop .and (.lop .and (.lop .and (.lop .and (.not wideb11) (.not wideb11)) (.not wideb11)) wideb14) wideb15) (.split (.lop .and (.lop .and (.lop .and (.lop .and (.lop .and (.not wideb11) (.not wideb11)) (.not wideb11)) wideb14) wideb15) wideb17) (.split wideb18 (.leaf (.sym (.lop .and (.lop .and (.lop .and (.lop .and (.lop .and (.not wideb11) (.not wideb11)) (.not wideb11)) wideb14) wideb15) wideb17))) (.leaf (.sym (.lop .and (.lop .and (.lop .and (.lop .and (.lop .and (.lop .and (.not wideb11) (.not wideb11)) (.not wideb11)) wideb14) wideb15) wideb17) (.lop .or wideb18 (.lop .eq wideb19 wideb20)))))) (.leaf (.lit false))) (.leaf (.lit false))) (.leaf (.lit false)))) (.split (.lop .and (.lop .and (.lop .and (.not wideb11) (.not wideb11)) (.not wideb11)) wideb14) (.split (.lop .and (.lop .and (.lop .and (.lop .and (.not wideb11) (.not wideb11)) (.not wideb11)) wideb14) wideb15) (.split (.lop .and (.lop .and (.lop .and (.lop .and (.lop .and (.not wideb11) (.not wideb11)) (.not wideb11)) wideb14) wideb15) wideb17) (.split wideb18 (.leaf (.sym (.lop .and (.lop .and (.lop .and (.lop .and (.lop .and (.not wideb11) (.not wideb11)) (.not wideb11)) wideb14) wideb15) wideb17))) (.leaf (.sym (.lop .and (.lop .and (.lop .and (.lop .and (.lop .and (.lop .and (.not wideb11) (.not wideb11)) (.not wideb11)) wideb14) wideb15) wideb17) (.lop .or wideb18 (.lop .eq wideb19 wideb20)))))) (.leaf (.lit false))) (.leaf (.lit false))) (.leaf (.lit false)))))))))))
theorem wide_tree : lawTree Try.prog cpuPure cpuXt 7 [.int .u64 (.sym (.var .u64 0)), .int .u64 (.sym (.var .u64 1))] 1500 = wideT := by kernel_rfl
end Go.Proofs.Ytpooghnemlnopaa
/- The plain law of 64 bits. -/
namespace Go.Proofs.Ytpooghnemlnopaa
open Go Go.Sx Go.RowKit Go.Cd Go.MapKept
set_option linter.unusedVariables false
theorem bit64 (n : Nat) (h : n < 18446744073709551616) : n / 9223372036854775808 = if n.testBit 63 then 1 else 0 := by
  rw [Nat.testBit_eq_decide_div_mod_eq]
  have : n / 2 ^ 63 = n / 9223372036854775808 := rfl
  rw [this]
  split <;> rename_i h1 <;> simp at h1 <;> omega
theorem ofInt64 (x : Int) (h0 : 0 ≤ x) (h1 : x < 18446744073709551616) : (BitVec.ofInt 64 x).toNat = x.toNat := by
  rw [BitVec.toNat_ofInt, Int.emod_eq_of_lt (by omega) (by omega)]
theorem u64_nat (n : Nat) (h : n < 18446744073709551616) : IntKind.u64.wrap (n : Int) = n := by rw [wrap_u64]; omega
theorem or64 (x y : Int) (hx : 0 ≤ x) (hx' : x < 18446744073709551616) (hy : 0 ≤ y) (hy' : y < 18446744073709551616) : bits .or .u64 x y = ((x.toNat ||| y.toNat : Nat) : Int) := by
  show IntKind.u64.wrap (((BitVec.ofInt 64 x ||| BitVec.ofInt 64 y).toNat : Nat) : Int) = _
  rw [BitVec.toNat_or, ofInt64 x hx hx', ofInt64 y hy hy']
  exact u64_nat _ (Nat.or_lt_two_pow (n := 64) (by omega) (by omega))
theorem and64 (x y : Int) (hx : 0 ≤ x) (hx' : x < 18446744073709551616) (hy : 0 ≤ y) (hy' : y < 18446744073709551616) : bits .and .u64 x y = ((x.toNat &&& y.toNat : Nat) : Int) := by
  show IntKind.u64.wrap (((BitVec.ofInt 64 x &&& BitVec.ofInt 64 y).toNat : Nat) : Int) = _
  rw [BitVec.toNat_and, ofInt64 x hx hx', ofInt64 y hy hy']
  exact u64_nat _ (Nat.and_lt_two_pow _ (n := 64) (by omega))
theorem xor64 (x y : Int) (hx : 0 ≤ x) (hx' : x < 18446744073709551616) (hy : 0 ≤ y) (hy' : y < 18446744073709551616) : bits .xor .u64 x y = ((x.toNat ^^^ y.toNat : Nat) : Int) := by
  show IntKind.u64.wrap (((BitVec.ofInt 64 x ^^^ BitVec.ofInt 64 y).toNat : Nat) : Int) = _
  rw [BitVec.toNat_xor, ofInt64 x hx hx', ofInt64 y hy hy']
  exact u64_nat _ (Nat.xor_lt_two_pow (n := 64) (by omega) (by omega))
/-- The top bit of a word of 64 bits. -/
def top64 (x : Int) : Bool := decide (9223372036854775808 ≤ x)
theorem top64_bit (n : Nat) (h : n < 18446744073709551616) : top64 (n : Int) = n.testBit 63 := by
  have := bit64 n h
  unfold top64
  cases hb : n.testBit 63 <;> rw [hb] at this <;> simp at this ⊢ <;> omega
/-- Where both differ from the third at the top. -/
theorem tops_xor (a b s t : Int) (ha : 0 ≤ a ∧ a < 18446744073709551616) (hb : 0 ≤ b ∧ b < 18446744073709551616) (hs : 0 ≤ s ∧ s < 18446744073709551616) (ht : 0 ≤ t ∧ t < 18446744073709551616) :
    (bits .and .u64 (bits .xor .u64 a s) (bits .xor .u64 b t) / 9223372036854775808 == 1) = ((top64 a != top64 s) && (top64 b != top64 t)) := by
  obtain ⟨a, rfl⟩ := Int.eq_ofNat_of_zero_le ha.1
  obtain ⟨b, rfl⟩ := Int.eq_ofNat_of_zero_le hb.1
  obtain ⟨s, rfl⟩ := Int.eq_ofNat_of_zero_le hs.1
  obtain ⟨t, rfl⟩ := Int.eq_ofNat_of_zero_le ht.1
  have ha : a < 2 ^ 64 := by omega
  have hb : b < 2 ^ 64 := by omega
  have hs : s < 2 ^ 64 := by omega
  have ht : t < 2 ^ 64 := by omega
  have h1 : a ^^^ s < 2 ^ 64 := Nat.xor_lt_two_pow ha hs
  have h2 : b ^^^ t < 2 ^ 64 := Nat.xor_lt_two_pow hb ht
  have h3 : (a ^^^ s) &&& (b ^^^ t) < 2 ^ 64 := Nat.and_lt_two_pow _ h2
  rw [xor64 (a : Int) s (by omega) (by omega) (by omega) (by omega), xor64 (b : Int) t (by omega) (by omega) (by omega) (by omega)]
  simp only [Int.toNat_natCast]
  rw [and64 _ _ (by omega) (by omega) (by omega) (by omega)]
  simp only [Int.toNat_natCast]
  rw [top64_bit a (by omega), top64_bit b (by omega), top64_bit s (by omega), top64_bit t (by omega)]
  have e := bit64 ((a ^^^ s) &&& (b ^^^ t)) (by omega)
  rw [Nat.testBit_and, Nat.testBit_xor, Nat.testBit_xor] at e
  have e2 : ((((a ^^^ s) &&& (b ^^^ t) : Nat) : Int) / 9223372036854775808) = (((a ^^^ s) &&& (b ^^^ t)) / 9223372036854775808 : Nat) := by omega
  rw [e2, e]
  cases a.testBit 63 <;> cases s.testBit 63 <;> cases b.testBit 63 <;> cases t.testBit 63 <;> rfl
theorem or_add64 (H L : Int) (hH : 0 ≤ H ∧ H < 4294967296) (hL : 0 ≤ L ∧ L < 4294967296) : bits .or .u64 (IntKind.u64.wrap (H * 2 ^ 32)) L = H * 4294967296 + L := by
  have p : (2 : Int) ^ 32 = 4294967296 := rfl
  rw [p, wrap_u64, Int.emod_eq_of_lt (by omega) (by omega)]
  obtain ⟨h, rfl⟩ := Int.eq_ofNat_of_zero_le hH.1
  obtain ⟨l, rfl⟩ := Int.eq_ofNat_of_zero_le hL.1
  rw [or64 _ _ (by omega) (by omega) (by omega) (by omega)]
  have hor : h * 2 ^ 32 + l = h * 2 ^ 32 ||| l := by
    have := Nat.shiftLeft_add_eq_or_of_lt (show l < 2 ^ 32 by omega) h
    rwa [Nat.shiftLeft_eq] at this
  have e : ((h : Int) * 4294967296).toNat = h * 2 ^ 32 := by omega
  rw [e, Int.toNat_natCast, ← hor]
  omega
theorem flag_c (z n c v : Bool) : flagNum z n c v / 4 % 2 = if c then 1 else 0 := by cases z <;> cases n <;> cases c <;> cases v <;> rfl
theorem flag_4 (z n c v : Bool) : (bits .and .i64 (flagNum z n c v) 4 == 0) = !c := by cases z <;> cases n <;> cases c <;> cases v <;> decide
theorem flag_8 (z n c v : Bool) : (bits .and .i64 (flagNum z n c v) 8 == 0) = !v := by cases z <;> cases n <;> cases c <;> cases v <;> decide
/-- The signed sum of the upper words goes over where the tops say so. -/
theorem over_add (ah bh c r : Int) (ha : 0 ≤ ah ∧ ah < 4294967296) (hb : 0 ≤ bh ∧ bh < 4294967296) (hc : 0 ≤ c ∧ c ≤ 1) (hr : r = (ah + bh + c) % 4294967296) :
    sumV ah bh c = ((decide (2147483648 ≤ ah) != decide (2147483648 ≤ r)) && (decide (2147483648 ≤ bh) != decide (2147483648 ≤ r))) := by
  unfold sumV sg
  rw [← hr]
  rw [Bool.eq_iff_iff]
  simp only [decide_eq_true_eq, Bool.and_eq_true, bne_iff_ne, ne_eq, decide_eq_decide]
  by_cases h1 : 2147483648 ≤ ah <;> by_cases h2 : 2147483648 ≤ bh <;> by_cases h3 : 2147483648 ≤ r <;> simp only [h1, h2, h3, if_true, if_false] <;> simp <;> omega
theorem over_sub (ah bh c r : Int) (ha : 0 ≤ ah ∧ ah < 4294967296) (hb : 0 ≤ bh ∧ bh < 4294967296) (hc : 0 ≤ c ∧ c ≤ 1) (hr : r = (ah - bh - c) % 4294967296) :
    difV ah bh c = ((decide (2147483648 ≤ ah) != decide (2147483648 ≤ bh)) && (decide (2147483648 ≤ ah) != decide (2147483648 ≤ r))) := by
  unfold difV sg
  rw [← hr]
  rw [Bool.eq_iff_iff]
  simp only [decide_eq_true_eq, Bool.and_eq_true, bne_iff_ne, ne_eq, decide_eq_decide]
  by_cases h1 : 2147483648 ≤ ah <;> by_cases h2 : 2147483648 ≤ bh <;> by_cases h3 : 2147483648 ≤ r <;> simp only [h1, h2, h3, if_true, if_false] <;> simp <;> omega
end Go.Proofs.Ytpooghnemlnopaa
/- CpuShifts, run; and the plain law of shifts. -/
namespace Go.Proofs.Ytpooghnemlnopaa
open Go Go.Sx Go.RowKit Go.Cd Go.MapKept
set_option linter.unusedVariables false
def shiftst0 : Tm := .fn .u32 0 (.cons (.lit 8) (.cons (.var .u32 0) (.cons (.var .u32 1) (.cons (.lit 0) .nil))))
def shiftst1 : Tm := .fn .u32 0 (.cons (.lit 11) (.cons (.var .u32 0) (.cons (.op (.shl .u32) (.lit 1) (.op .rem (.var .u32 1) (.lit 32))) (.cons (.lit 0) .nil))))
def shiftst2 : Tm := .fn .u32 0 (.cons (.lit 9) (.cons (.var .u32 0) (.cons (.var .u32 1) (.cons (.lit 0) .nil))))
def shiftst3 : Tm := .fn .u32 0 (.cons (.lit 13) (.cons (.var .u32 0) (.cons (.op (.shl .u32) (.lit 1) (.op .rem (.var .u32 1) (.lit 32))) (.cons (.lit 0) .nil))))
def shiftst4 : Tm := .fn .u32 0 (.cons (.lit 9) (.cons shiftst0 (.cons (.var .u32 1) (.cons (.lit 0) .nil))))
def shiftst5 : Tm := .fn .u32 0 (.cons (.lit 10) (.cons (.var .u32 0) (.cons (.var .u32 1) (.cons (.lit 0) .nil))))
def shiftsb0 : Bm := .cmp .lt (.op .rem (.un (.wrap .i32) (.var .u32 0)) (.op (.shl .i64) (.lit 1) (.op .rem (.var .u32 1) (.lit 32)))) (.lit 0)
def shiftsb1 : Bm := .cmp .eq shiftst0 shiftst1
def shiftsb2 : Bm := .cmp .eq shiftst2 shiftst3
def shiftsb3 : Bm := .cmp .eq shiftst4 (.op (.and .u32) (.var .u32 0) (.op (.sub .u64) (.op (.shl .u64) (.lit 1) (.op (.sub .u32) (.lit 32) (.op .rem (.var .u32 1) (.lit 32)))) (.lit 1)))
def shiftsb4 : Bm := .cmp .eq (.un (.wrap .i32) shiftst5) (.op (.sub .i64) (.op (.quo .i64) (.un (.wrap .i32) (.var .u32 0)) (.op (.shl .i64) (.lit 1) (.op .rem (.var .u32 1) (.lit 32)))) (.lit 1))
def shiftsb5 : Bm := .cmp .eq (.un (.wrap .i32) shiftst5) (.op (.quo .i64) (.un (.wrap .i32) (.var .u32 0)) (.op (.shl .i64) (.lit 1) (.op .rem (.var .u32 1) (.lit 32))))
def shiftsT : Tree SB := .split shiftsb0 (.split shiftsb1 (.split (.lop .and shiftsb1 shiftsb2) (.split (.lop .and (.lop .and shiftsb1 shiftsb2) shiftsb3) (.leaf (.sym (.lop .and (.lop .and (.lop .and shiftsb1 shiftsb2) shiftsb3) shiftsb4))) (.leaf (.lit false))) (.leaf (.lit false))) (.leaf (.lit false))) (.split shiftsb1 (.split (.lop .and shiftsb1 shiftsb2) (.split (.lop .and (.lop .and shiftsb1 shiftsb2) shiftsb3) (.leaf (.sym (.lop .and (.lop .and (.lop .and shiftsb1 shiftsb2) shiftsb3) shiftsb5))) (.leaf (.lit false))) (.leaf (.lit false))) (.leaf (.lit false)))
theorem shifts_tree : lawTree Try.prog cpuPure noXt 4 [.int .u32 (.sym (.var .u32 0)), .int .u32 (.sym (.var .u32 1))] 400 = shiftsT := by kernel_rfl
end Go.Proofs.Ytpooghnemlnopaa
