/- Parts of the proof: CLanes4, SxCpu, SxCpuOk, SxCpu2, SxCpuXt, KitLaw, KitArr, KitCpu, LNumbersT, Sx23b. -/
import Derived.Test.YtpooghnemlnopaaZ12
import Derived.Test.YtpooghnemlnopaaZ9
import Derived.Test.YtpooghnemlnopaaZ10
import Derived.Test.YtpooghnemlnopaaZ11
import Derived.Shelf.Spec.BitsCarry
import Derived.Test.YtpooghnemlnopaaRows
import Derived.Carry
import Derived.WalkKit
import Derived.ProofKit
import Derived.OpenShut
import Derived.Lib.SmallJoins
import Derived.Laws.IdiomArrays
/- The contract of cpu.Lanes, the rest. Written by genLanes3.py. -/
namespace Go.Proofs.Ytpooghnemlnopaa
open Go Go.RowKit Go.Cd
set_option linter.unusedVariables false
attribute [local go_sem ↓] exVs exVl Go.wp_at_zero Go.wp_at_succ
set_option maxRecDepth 100000 in
set_option maxHeartbeats 1000000 in
theorem lanes_wide (op d : Int) (a b : Vc) (w : World) (hop : op = 51 ∨ op = 52 ∨ op = 53) (hd : d < 0 ∨ 2 < d) :
    Calls Try.prog 12 #[.int .i64 op, .int .i64 d, vecV a, vecV b] w (LanesPost (lanesV op d a b) w) := by
  have e : lanesV op d a b = (zeroV, false) := by
    unfold lanesV
    rw [if_pos hop, if_pos hd]
  rw [e]
  clear e
  unfold vecV
  rcases hop with rfl | rfl | rfl <;> rcases hd with hd | hd
  all_goals
    go_enter Try.func12, Try.ntmps12
    go_upto_region 4 with (fail)
    obtain ⟨x0, x1, x2, x3, hN⟩ := laid4 w (.cells (vecA a) 32) (.cells (vecA b) 32) (.cells #[.int .u32 0, .int .u32 0, .int .u32 0, .int .u32 0] 32) (.cells #[.int .u32 0, .int .u32 0, .int .u32 0, .int .u32 0] 32)
    generalize (((w.alloc (.cells (vecA a) 32)).alloc (.cells (vecA b) 32)).alloc (.cells #[.int .u32 0, .int .u32 0, .int .u32 0, .int .u32 0] 32)).alloc (.cells #[.int .u32 0, .int .u32 0, .int .u32 0, .int .u32 0] 32) = W at *
    have Y2 := Lib.hid x2
    have Y3 := Lib.hid (show W.heap[w.heap.size + 1 + 1 + 1]? = some (.cells (vecA zeroV) 32) from x3)
    have HN := Lib.hid hN
    clear x0 x1 x2 x3 hN
    go_wp2_with fail
    rw [load_all (P := Try.prog) 32 (w.heap.size + 1 + 1 + 1) (vecA zeroV) 32 _ W Y3.out Try.underlying32 rfl (vec_size.trans rfl)]
    go_wp2_with fail
    obtain ⟨w8, hst, h8, ho8⟩ := store_all (P := Try.prog) 32 (w.heap.size + 1 + 1) _ (vecA zeroV) _ W Y2.out rfl (vec_size.trans rfl) (by simp [vecA, Value.oneCell'])
    rw [hst]
    clear hst
    have N8 := Lib.hid (new_only HN.out ho8 (by omega))
    have X8 := Lib.hid h8
    clear h8 ho8
    go_wp2_with fail
    refine ⟨rfl, _, results_cell_slot Try.results12 _ _ _ _ rfl (load_row 32 (w.heap.size + 1 + 1) (vecA zeroV) 32 _ w8 X8.out Try.underlying32 rfl (vec_size.trans rfl)), ?_⟩
    exact ⟨rfl, N8.out⟩
set_option maxRecDepth 100000 in
set_option maxHeartbeats 1000000 in
theorem lanes_else (op d : Int) (a b : Vc) (w : World) (h : op < 51 ∨ 57 < op) :
    Calls Try.prog 12 #[.int .i64 op, .int .i64 d, vecV a, vecV b] w (LanesPost (lanesV op d a b) w) := by
  have e : lanesV op d a b = (zeroV, false) := by
    unfold lanesV
    rw [if_neg (by omega), if_neg (by omega), if_neg (by omega), if_neg (by omega), if_neg (by omega)]
  rw [e]
  clear e
  have n1 : (op == 51) = false := by simp; omega
  have n2 : (op == 52) = false := by simp; omega
  have n3 : (op == 53) = false := by simp; omega
  have n4 : (op == 54) = false := by simp; omega
  have n5 : (op == 55) = false := by simp; omega
  have n6 : (op == 56) = false := by simp; omega
  have n7 : (op == 57) = false := by simp; omega
  clear h
  unfold vecV
  iterate 1
    go_enter Try.func12, Try.ntmps12
    go_upto_region 4 with (fail)
    obtain ⟨x0, x1, x2, x3, hN⟩ := laid4 w (.cells (vecA a) 32) (.cells (vecA b) 32) (.cells #[.int .u32 0, .int .u32 0, .int .u32 0, .int .u32 0] 32) (.cells #[.int .u32 0, .int .u32 0, .int .u32 0, .int .u32 0] 32)
    generalize (((w.alloc (.cells (vecA a) 32)).alloc (.cells (vecA b) 32)).alloc (.cells #[.int .u32 0, .int .u32 0, .int .u32 0, .int .u32 0] 32)).alloc (.cells #[.int .u32 0, .int .u32 0, .int .u32 0, .int .u32 0] 32) = W at *
    have Y2 := Lib.hid x2
    have Y3 := Lib.hid (show W.heap[w.heap.size + 1 + 1 + 1]? = some (.cells (vecA zeroV) 32) from x3)
    have HN := Lib.hid hN
    clear x0 x1 x2 x3 hN
    go_wp2_with fail
    rw [load_all (P := Try.prog) 32 (w.heap.size + 1 + 1 + 1) (vecA zeroV) 32 _ W Y3.out Try.underlying32 rfl (vec_size.trans rfl)]
    go_wp2_with fail
    obtain ⟨w8, hst, h8, ho8⟩ := store_all (P := Try.prog) 32 (w.heap.size + 1 + 1) _ (vecA zeroV) _ W Y2.out rfl (vec_size.trans rfl) (by simp [vecA, Value.oneCell'])
    rw [hst]
    clear hst
    have N8 := Lib.hid (new_only HN.out ho8 (by omega))
    have X8 := Lib.hid h8
    clear h8 ho8
    go_wp2_with fail
    refine ⟨rfl, _, results_cell_slot Try.results12 _ _ _ _ rfl (load_row 32 (w.heap.size + 1 + 1) (vecA zeroV) 32 _ w8 X8.out Try.underlying32 rfl (vec_size.trans rfl)), ?_⟩
    exact ⟨rfl, N8.out⟩
/-- cpu.Lanes. -/
theorem lanesc_c (op d : Int) (a b : Vc) (w : World) (ha : VcOk a) (hb : VcOk b) :
    Calls Try.prog 12 #[.int .i64 op, .int .i64 d, vecV a, vecV b] w (LanesPost (lanesV op d a b) w) := by
  by_cases h : op < 51 ∨ 57 < op
  · exact lanes_else op d a b w h
  · have h' : op = 51 ∨ op = 52 ∨ op = 53 ∨ op = 54 ∨ op = 55 ∨ op = 56 ∨ op = 57 := by omega
    have hb3 : (op = 51 ∨ op = 52 ∨ op = 53) → Calls Try.prog 12 #[.int .i64 op, .int .i64 d, vecV a, vecV b] w (LanesPost (lanesV op d a b) w) := fun h3 => by
      by_cases hd : d < 0 ∨ 2 < d
      · exact lanes_wide op d a b w h3 hd
      · exact lanes_by op d a b w h3 (by omega) ha hb
    rcases h' with h | h | h | h | h | h | h
    · exact hb3 (.inl h)
    · exact hb3 (.inr (.inl h))
    · exact hb3 (.inr (.inr h))
    · subst h; exact lanes_54 d a b w
    · subst h; exact lanes_55 d a b w
    · subst h; exact lanes_56 d a b w
    · subst h; exact lanes_57 d a b w ha hb
end Go.Proofs.Ytpooghnemlnopaa
/- The contracts of cpu, and of its specification, for runs. -/
namespace Go.Proofs.Ytpooghnemlnopaa
open Go Go.Sx Go.RowKit Go.Cd Go.MapKept
set_option linter.unusedVariables false

def tms : List SI → Tms
  | [] => .nil
  | a :: l => .cons a.tm (tms l)
theorem tms_v [Val] : ∀ l : List SI, (tms l).v = l.map SI.v
  | [] => by simp [tms, Tms.v]
  | a :: l => by simp [tms, Tms.v, tms_v l]
def fnI (k : IntKind) (f : Nat) (l : List SI) : SI := .sym (.fn k f (tms l))
def fnB (f : Nat) (l : List SI) : SB := .sym (.fn f (tms l))
/-- The plain functions by their numbers. -/
def cpuFi : Nat → List Int → Int
  | 0, [op, a, b, k] => (aluT op a b k).1
  | 1, [op, a, b, k] => (aluT op a b k).2.1
  | 2, [d, a] => (extT d a).1
  | 3, [a, b, c, d] => maskTo (fun k => [a, b, c, d].getD k 0) 16
  | 10, [op, d, a0, a1, a2, a3, b0, b1, b2, b3] => (lanesV op d (fun k => [a0, a1, a2, a3].getD k 0) (fun k => [b0, b1, b2, b3].getD k 0)).1 0
  | 11, [op, d, a0, a1, a2, a3, b0, b1, b2, b3] => (lanesV op d (fun k => [a0, a1, a2, a3].getD k 0) (fun k => [b0, b1, b2, b3].getD k 0)).1 1
  | 12, [op, d, a0, a1, a2, a3, b0, b1, b2, b3] => (lanesV op d (fun k => [a0, a1, a2, a3].getD k 0) (fun k => [b0, b1, b2, b3].getD k 0)).1 2
  | 13, [op, d, a0, a1, a2, a3, b0, b1, b2, b3] => (lanesV op d (fun k => [a0, a1, a2, a3].getD k 0) (fun k => [b0, b1, b2, b3].getD k 0)).1 3
  | _, _ => 0
def cpuFb : Nat → List Int → Bool
  | 0, [op, a, b, k] => (aluT op a b k).2.2
  | 1, [cd, f] => holdsF cd f
  | 2, [d, a] => (extT d a).2
  | 3, [op, d, a0, a1, a2, a3, b0, b1, b2, b3] => (lanesV op d (fun k => [a0, a1, a2, a3].getD k 0) (fun k => [b0, b1, b2, b3].getD k 0)).2
  | _, _ => false
@[reducible] def cpuVal (ints : Nat → Int) (bools : Nat → Bool) : Val := ⟨ints, bools, cpuFi, cpuFb⟩
/-- Has an operation of words a result? -/
def aluIs (op a b k : SI) : SB :=
  match op with
  | .lit (.ofNat n) => match Nat.ble 3 n with
    | true => match Nat.ble n 12 with
      | true => .lit true
      | false => match Nat.ble n 15 with
        | true => SI.cmp .ne b (.lit 0)
        | false => match Nat.ble n 17 with
          | true => .lit true
          | false => fnB 0 [op, a, b, k]
    | false => fnB 0 [op, a, b, k]
  | _ => fnB 0 [op, a, b, k]
def word (a : SI) : Bool := a.within 0 4294967295
theorem word_ok [Val] {a : SI} (h : word a = true) : 0 ≤ a.v ∧ a.v < 4294967296 := by
  have := SI.within_ok h
  omega
def aluS : List SV → Option SV
  | [.int .i64 op, .int .u32 a, .int .u32 b, .int .i64 k] => match word a, word b with
    | true, true => some (.tup [.int .u32 (fnI .u32 0 [op, a, b, k]), .int .i64 (fnI .i64 1 [op, a, b, k]), .bool (aluIs op a b k)])
    | _, _ => none
  | _ => none
def holdsS : List SV → Option SV
  | [.int .i64 cd, .int .i64 f] => some (.bool (fnB 1 [cd, f]))
  | _ => none
def extS : List SV → Option SV
  | [.int .i64 d, .int .u32 a] => match word a with
    | true => some (.tup [.int .u32 (fnI .u32 2 [d, a]), .bool (fnB 2 [d, a])])
    | false => none
  | _ => none
def vec4 : SV → Option (List SI)
  | .agg [.int .u32 a, .int .u32 b, .int .u32 c, .int .u32 d] => match word a, word b, word c, word d with
    | true, true, true, true => some [a, b, c, d]
    | _, _, _, _ => none
  | _ => none
def maskS : List SV → Option SV
  | [x] => match vec4 x with
    | some l => some (.int .u32 (fnI .u32 3 l))
    | none => none
  | _ => none
def lanesS : List SV → Option SV
  | [.int .i64 op, .int .i64 d, x, y] => match vec4 x, vec4 y with
    | some a, some b => match op :: d :: (a ++ b) with
      | l => some (.tup [.agg [.int .u32 (fnI .u32 10 l), .int .u32 (fnI .u32 11 l), .int .u32 (fnI .u32 12 l), .int .u32 (fnI .u32 13 l)], .bool (fnB 3 l)])
    | _, _ => none
  | _ => none
def cpuPure : Pure := fun f args =>
  match f with
  | 9 => match args with
    | [] => some (.bool (.lit true))
    | _ => none
  | 10 => aluS args
  | 13 => aluS args
  | 11 => holdsS args
  | 16 => holdsS args
  | 17 => extS args
  | 18 => extS args
  | 19 => maskS args
  | 20 => maskS args
  | 12 => lanesS args
  | _ => none
theorem flagNum_bd (z n c v : Bool) : 0 ≤ flagNum z n c v ∧ flagNum z n c v ≤ 15 := by cases z <;> cases n <;> cases c <;> cases v <;> decide
def AluBd (t : Int × Int × Bool) : Prop := (0 ≤ t.1 ∧ t.1 < 4294967296) ∧ (0 ≤ t.2.1 ∧ t.2.1 ≤ 15)
theorem AluBd.ite {c : Prop} [Decidable c] {x y : Int × Int × Bool} (hx : c → AluBd x) (hy : ¬ c → AluBd y) : AluBd (if c then x else y) := by
  by_cases h : c
  · rw [if_pos h]; exact hx h
  · rw [if_neg h]; exact hy h
theorem aluT_bd (op a b k : Int) (ha : 0 ≤ a ∧ a < 4294967296) (hb : 0 ≤ b ∧ b < 4294967296) : AluBd (aluT op a b k) := by
  have hm : 0 ≤ a * b := Int.mul_nonneg ha.1 hb.1
  have hm2 : a * b < 4294967296 * 4294967296 := by
    have h1 : a * b ≤ a * 4294967296 := Int.mul_le_mul_of_nonneg_left (by omega) ha.1
    have h2 : a * 4294967296 < 4294967296 * 4294967296 := by omega
    omega
  unfold aluT
  repeat' (apply AluBd.ite <;> intro)
  all_goals unfold AluBd
  all_goals refine ⟨?_, ?_⟩
  all_goals (try dsimp only)
  all_goals first
    | exact flagNum_bd _ _ _ _
    | exact ⟨bits_nonneg _ _ _, bits_lt _ _ _⟩
    | exact shlR_bd _ _
    | exact shrR_bd _ _ ha
    | (simp only [sumR, difR, sarR, divS]; exact ⟨Int.emod_nonneg _ (by decide), Int.emod_lt_of_pos _ (by decide)⟩)
    | omega
    | exact ⟨Int.ediv_nonneg ha.1 hb.1, Int.lt_of_le_of_lt (Int.ediv_le_self _ ha.1) ha.2⟩
    | exact ⟨Int.emod_nonneg _ (by omega), Int.lt_trans (Int.emod_lt_of_pos _ (by omega)) hb.2⟩
theorem extT_bd (d a : Int) : 0 ≤ (extT d a).1 ∧ (extT d a).1 < 4294967296 := by
  unfold extT
  repeat' split
  all_goals (try dsimp only)
  all_goals omega
theorem u32_wrap {n : Int} (h : 0 ≤ n ∧ n < 4294967296) : IntKind.u32.wrap n = n := wrap_same _ h.1 (by have := h.2; show n ≤ 4294967295; omega)
theorem i64_wrap {n : Int} (h : 0 ≤ n ∧ n ≤ 15) : IntKind.i64.wrap n = n := wrap_same _ (by have := h.1; show (-9223372036854775808 : Int) ≤ n; omega) (by have := h.2; show n ≤ 9223372036854775807; omega)
section
variable (ints : Nat → Int) (bools : Nat → Bool)
theorem alu_pure : letI := cpuVal ints bools; ∀ f, f = 10 ∨ f = 13 → ∀ args v, aluS args = some v → ∀ (ρ : Env) (vs : List Value) (w : World), SV.DenL ρ args vs → Calls Try.prog f vs.toArray w fun e w' => ∃ x, e = .returned x ∧ v.Den ρ x ∧ New w w' := by
  letI := cpuVal ints bools
  intro f hf args v h ρ vs w hd
  unfold aluS at h
  split at h <;> try (cases h; done)
  rename_i op a b k
  split at h <;> cases h
  rename_i ha hb
  have ha := word_ok ha
  have hb := word_ok hb
  obtain ⟨x0, _, rfl, h0, r0⟩ := denL_cons.1 hd
  obtain ⟨x1, _, rfl, h1, r1⟩ := denL_cons.1 r0
  obtain ⟨x2, _, rfl, h2, r2⟩ := denL_cons.1 r1
  obtain ⟨x3, _, rfl, h3, r3⟩ := denL_cons.1 r2
  rw [denL_nil] at r3
  simp only [SV.Den] at h0 h1 h2 h3
  subst h0 h1 h2 h3 r3
  have hbd := aluT_bd op.v a.v b.v k.v ha hb
  have key : ∀ e w', AluPost (aluT op.v a.v b.v k.v) w e w' → ∃ x, e = .returned x ∧ (SV.tup [.int .u32 (fnI .u32 0 [op, a, b, k]), .int .i64 (fnI .i64 1 [op, a, b, k]), .bool (aluIs op a b k)]).Den ρ x ∧ New w w' := by
    rintro e w' ⟨rfl, hn⟩
    refine ⟨_, rfl, ?_, hn⟩
    simp only [SV.Den]
    refine ⟨[_, _, _], denL_cons'.2 ⟨?_, denL_cons'.2 ⟨?_, denL_cons'.2 ⟨?_, by simp⟩⟩⟩, rfl⟩
    · simp only [SV.Den, fnI, SI.sym_v, Tm.v, tms_v, List.map]
      show Value.int .u32 _ = .int .u32 (IntKind.u32.wrap (aluT op.v a.v b.v k.v).1)
      rw [u32_wrap hbd.1]
    · simp only [SV.Den, fnI, SI.sym_v, Tm.v, tms_v, List.map]
      show Value.int .i64 _ = .int .i64 (IntKind.i64.wrap (aluT op.v a.v b.v k.v).2.1)
      rw [i64_wrap hbd.2]
    · simp only [SV.Den]
      have hfn : (aluT op.v a.v b.v k.v).2.2 = (fnB 0 [op, a, b, k]).v := by
        simp only [fnB, SB.sym_v, Bm.v, tms_v, List.map]
        rfl
      unfold aluIs
      split
      · rename_i n
        split
        · rename_i q1
          have q1 := Nat.le_of_ble_eq_true q1
          split
          · rename_i q2
            have q2 := Nat.le_of_ble_eq_true q2
            have hn : n = 3 ∨ n = 4 ∨ n = 5 ∨ n = 6 ∨ n = 7 ∨ n = 8 ∨ n = 9 ∨ n = 10 ∨ n = 11 ∨ n = 12 := by omega
            simp only [SI.lit_v, SB.lit_v]
            rcases hn with rfl | rfl | rfl | rfl | rfl | rfl | rfl | rfl | rfl | rfl <;> rfl
          · rename_i q2
            have q2 : ¬ n ≤ 12 := fun h => by rw [Nat.ble_eq_true_of_le h] at q2; cases q2
            split
            · rename_i q3
              have q3 := Nat.le_of_ble_eq_true q3
              have hn : n = 13 ∨ n = 14 ∨ n = 15 := by omega
              rw [SI.cmp_v]
              simp only [SI.lit_v, COp.f]
              have hz : (b.v != 0) = !decide (b.v = 0) := by rw [Bool.eq_iff_iff]; simp
              rw [hz]
              rcases hn with rfl | rfl | rfl
              · show Value.bool (aluT 13 a.v b.v k.v).2.2 = _
                by_cases h0 : b.v = 0
                · simp [aluT, h0]
                · simp [aluT, h0]
              · show Value.bool (aluT 14 a.v b.v k.v).2.2 = _
                by_cases h0 : b.v = 0
                · simp [aluT, h0]
                · simp [aluT, h0]
              · show Value.bool (aluT 15 a.v b.v k.v).2.2 = _
                by_cases h0 : b.v = 0
                · simp [aluT, h0]
                · simp [aluT, h0]
            · rename_i q3
              have q3 : ¬ n ≤ 15 := fun h => by rw [Nat.ble_eq_true_of_le h] at q3; cases q3
              split
              · rename_i q4
                have q4 := Nat.le_of_ble_eq_true q4
                have hn : n = 16 ∨ n = 17 := by omega
                simp only [SI.lit_v, SB.lit_v]
                rcases hn with rfl | rfl <;> rfl
              · rw [hfn]
        · rw [hfn]
      · rw [hfn]
  rcases hf with rfl | rfl
  · exact (alu_c _ _ _ _ w ha hb).mono key
  · exact (ralu_c _ _ _ _ w ha hb).mono key
theorem holds_pure : letI := cpuVal ints bools; ∀ f, f = 11 ∨ f = 16 → ∀ args v, holdsS args = some v → ∀ (ρ : Env) (vs : List Value) (w : World), SV.DenL ρ args vs → Calls Try.prog f vs.toArray w fun e w' => ∃ x, e = .returned x ∧ v.Den ρ x ∧ New w w' := by
  letI := cpuVal ints bools
  intro f hf args v h ρ vs w hd
  unfold holdsS at h
  split at h <;> cases h
  rename_i cd fl
  obtain ⟨x0, _, rfl, h0, r0⟩ := denL_cons.1 hd
  obtain ⟨x1, _, rfl, h1, r1⟩ := denL_cons.1 r0
  rw [denL_nil] at r1
  simp only [SV.Den] at h0 h1
  subst h0 h1 r1
  have key : ∀ e w', (e = Ending.returned (.bool (holdsF cd.v fl.v)) ∧ New w w') → ∃ x, e = .returned x ∧ (SV.bool (fnB 1 [cd, fl])).Den ρ x ∧ New w w' := by
    rintro e w' ⟨rfl, hn⟩
    refine ⟨_, rfl, ?_, hn⟩
    simp only [SV.Den, fnB, SB.sym_v, Bm.v, tms_v, List.map]
    rfl
  rcases hf with rfl | rfl
  · exact (holds_c _ _ w).mono key
  · exact (rholds7_c _ _ w).mono key
theorem ext_pure : letI := cpuVal ints bools; ∀ f, f = 17 ∨ f = 18 → ∀ args v, extS args = some v → ∀ (ρ : Env) (vs : List Value) (w : World), SV.DenL ρ args vs → Calls Try.prog f vs.toArray w fun e w' => ∃ x, e = .returned x ∧ v.Den ρ x ∧ New w w' := by
  letI := cpuVal ints bools
  intro f hf args v h ρ vs w hd
  unfold extS at h
  split at h <;> try (cases h; done)
  rename_i d a
  split at h <;> cases h
  rename_i ha
  have ha := word_ok ha
  obtain ⟨x0, _, rfl, h0, r0⟩ := denL_cons.1 hd
  obtain ⟨x1, _, rfl, h1, r1⟩ := denL_cons.1 r0
  rw [denL_nil] at r1
  simp only [SV.Den] at h0 h1
  subst h0 h1 r1
  have hbd := extT_bd d.v a.v
  have key : ∀ e w', ExtPost (extT d.v a.v) w e w' → ∃ x, e = .returned x ∧ (SV.tup [.int .u32 (fnI .u32 2 [d, a]), .bool (fnB 2 [d, a])]).Den ρ x ∧ New w w' := by
    rintro e w' ⟨rfl, rfl⟩
    refine ⟨_, rfl, ?_, New.refl _⟩
    simp only [SV.Den]
    refine ⟨[_, _], denL_cons'.2 ⟨?_, denL_cons'.2 ⟨?_, by simp⟩⟩, rfl⟩
    · simp only [SV.Den, fnI, SI.sym_v, Tm.v, tms_v, List.map]
      show Value.int .u32 _ = .int .u32 (IntKind.u32.wrap (extT d.v a.v).1)
      rw [u32_wrap hbd]
    · simp only [SV.Den, fnB, SB.sym_v, Bm.v, tms_v, List.map]
      rfl
  rcases hf with rfl | rfl
  · exact (ext_c _ _ w ha).mono key
  · exact (rext_c _ _ w ha).mono key
end
end Go.Proofs.Ytpooghnemlnopaa
/- The contracts of cpu for runs: all of them together. -/
namespace Go.Proofs.Ytpooghnemlnopaa
open Go Go.Sx Go.RowKit Go.Cd Go.MapKept
set_option linter.unusedVariables false
section
variable (ints : Nat → Int) (bools : Nat → Bool)
theorem vec4_ok [Val] {x : SV} {l : List SI} {ρ : Env} {v : Value} (h : vec4 x = some l) (hx : x.Den ρ v) : ∃ a b c d, l = [a, b, c, d] ∧ v = vecV (fun k => [a.v, b.v, c.v, d.v].getD k 0) ∧ VcOk (fun k => [a.v, b.v, c.v, d.v].getD k 0) := by
  unfold vec4 at h
  split at h <;> try (cases h; done)
  rename_i a b c d
  split at h <;> cases h
  rename_i ha hb hc hd
  have ha := word_ok ha
  have hb := word_ok hb
  have hc := word_ok hc
  have hd := word_ok hd
  simp only [SV.Den] at hx
  obtain ⟨vs, hvs, rfl⟩ := hx
  obtain ⟨x0, _, rfl, h0, r0⟩ := denL_cons.1 hvs
  obtain ⟨x1, _, rfl, h1, r1⟩ := denL_cons.1 r0
  obtain ⟨x2, _, rfl, h2, r2⟩ := denL_cons.1 r1
  obtain ⟨x3, _, rfl, h3, r3⟩ := denL_cons.1 r2
  rw [denL_nil] at r3
  simp only [SV.Den] at h0 h1 h2 h3
  subst h0 h1 h2 h3 r3
  refine ⟨a, b, c, d, rfl, rfl, fun k hk => ?_⟩
  match k, hk with
  | 0, _ => exact ha
  | 1, _ => exact hb
  | 2, _ => exact hc
  | 3, _ => exact hd
theorem mask_pure : letI := cpuVal ints bools; ∀ f, f = 19 ∨ f = 20 → ∀ args v, maskS args = some v → ∀ (ρ : Env) (vs : List Value) (w : World), SV.DenL ρ args vs → Calls Try.prog f vs.toArray w fun e w' => ∃ x, e = .returned x ∧ v.Den ρ x ∧ New w w' := by
  letI := cpuVal ints bools
  intro f hf args v h ρ vs w hd
  unfold maskS at h
  split at h <;> try (cases h; done)
  rename_i x
  split at h <;> cases h
  rename_i l hl
  obtain ⟨x0, _, rfl, h0, r0⟩ := denL_cons.1 hd
  rw [denL_nil] at r0; subst r0
  obtain ⟨a, b, c, d, rfl, rfl, hok⟩ := vec4_ok hl h0
  have hbd := maskTo_bd (fun k => [a.v, b.v, c.v, d.v].getD k 0) 16
  have key : ∀ e w', (e = Ending.returned (.int .u32 (maskTo (fun k => [a.v, b.v, c.v, d.v].getD k 0) 16)) ∧ New w w') → ∃ x, e = .returned x ∧ (SV.int .u32 (fnI .u32 3 [a, b, c, d])).Den ρ x ∧ New w w' := by
    rintro e w' ⟨rfl, hn⟩
    refine ⟨_, rfl, ?_, hn⟩
    simp only [SV.Den, fnI, SI.sym_v, Tm.v, tms_v, List.map]
    show Value.int .u32 _ = .int .u32 (IntKind.u32.wrap (maskTo (fun k => [a.v, b.v, c.v, d.v].getD k 0) 16))
    rw [u32_wrap hbd]
  rcases hf with rfl | rfl
  · exact (mask_c _ w hok).mono key
  · exact (rmask_c _ w hok).mono key
end
def VBd (t : Vc × Bool) : Prop := ∀ k, k < 4 → 0 ≤ t.1 k ∧ t.1 k < 4294967296
theorem VBd.ite {c : Prop} [Decidable c] {x y : Vc × Bool} (hx : c → VBd x) (hy : ¬ c → VBd y) : VBd (if c then x else y) := by
  by_cases h : c
  · rw [if_pos h]; exact hx h
  · rw [if_neg h]; exact hy h
theorem or_bd (x y : Int) : 0 ≤ bits .or .u32 x y ∧ bits .or .u32 x y < 4294967296 := ⟨bits_nonneg _ _ _, bits_lt _ _ _⟩
theorem zero_bd : (0 : Int) ≤ 0 ∧ (0 : Int) < 4294967296 := by decide
theorem byLanes_bd (op d a b : Int) : 0 ≤ byLanesF op d a b ∧ byLanesF op d a b < 4294967296 := by
  have key : ∀ (l : List (Int × Int)) (o : Int), 0 ≤ o ∧ o < 4294967296 → 0 ≤ l.foldl (laneSt op a b) o ∧ l.foldl (laneSt op a b) o < 4294967296 := fun l => by
    induction l with
    | nil => exact fun o h => h
    | cons p l ih => exact fun o h => ih _ (or_bd _ _)
  exact key _ 0 zero_bd
theorem shuf_bd (a b : Vc) : ∀ n k, 0 ≤ shufTo a b n k ∧ shufTo a b n k < 4294967296
  | 0, k => zero_bd
  | n + 1, k => by
    unfold shufTo setV
    split
    · exact or_bd _ _
    · exact shuf_bd a b n k
theorem VBd.of {v : Vc} {t : Bool} (h : ∀ k, k < 4 → 0 ≤ v k ∧ v k < 4294967296) : VBd (v, t) := h
theorem lanesTo_bd (op d : Int) (a b : Vc) (k : Nat) (hk : k < 4) : 0 ≤ lanesTo op d a b 4 k ∧ lanesTo op d a b 4 k < 4294967296 := by
  unfold lanesTo; rw [if_pos hk]; exact byLanes_bd _ _ _ _
theorem lanesV_bd (op d : Int) (a b : Vc) : VBd (lanesV op d a b) := by
  unfold lanesV
  refine VBd.ite (fun _ => VBd.ite (fun _ => VBd.of fun k hk => zero_bd) fun _ => VBd.of fun k hk => lanesTo_bd op d a b k hk) fun _ => ?_
  refine VBd.ite (fun _ => VBd.of fun k hk => ⟨bits_nonneg _ _ _, bits_lt _ _ _⟩) fun _ => ?_
  refine VBd.ite (fun _ => VBd.of fun k hk => ⟨bits_nonneg _ _ _, bits_lt _ _ _⟩) fun _ => ?_
  refine VBd.ite (fun _ => VBd.of fun k hk => ⟨bits_nonneg _ _ _, bits_lt _ _ _⟩) fun _ => ?_
  exact VBd.ite (fun _ => VBd.of fun k hk => shuf_bd a b 16 k) fun _ => VBd.of fun k hk => zero_bd
section
variable (ints : Nat → Int) (bools : Nat → Bool)
theorem lanes_pure : letI := cpuVal ints bools; ∀ args v, lanesS args = some v → ∀ (ρ : Env) (vs : List Value) (w : World), SV.DenL ρ args vs → Calls Try.prog 12 vs.toArray w fun e w' => ∃ x, e = .returned x ∧ v.Den ρ x ∧ New w w' := by
  letI := cpuVal ints bools
  intro args v h ρ vs w hd
  unfold lanesS at h
  split at h <;> try (cases h; done)
  rename_i op d x y
  split at h <;> try (cases h; done)
  rename_i la lb hla hlb
  obtain ⟨x0, _, rfl, h0, r0⟩ := denL_cons.1 hd
  obtain ⟨x1, _, rfl, h1, r1⟩ := denL_cons.1 r0
  obtain ⟨x2, _, rfl, h2, r2⟩ := denL_cons.1 r1
  obtain ⟨x3, _, rfl, h3, r3⟩ := denL_cons.1 r2
  rw [denL_nil] at r3; subst r3
  simp only [SV.Den] at h0 h1
  subst h0 h1
  obtain ⟨a0, a1, a2, a3, rfl, rfl, hoka⟩ := vec4_ok hla h2
  obtain ⟨b0, b1, b2, b3, rfl, rfl, hokb⟩ := vec4_ok hlb h3
  cases h
  have hbd := lanesV_bd op.v d.v (fun k => [a0.v, a1.v, a2.v, a3.v].getD k 0) (fun k => [b0.v, b1.v, b2.v, b3.v].getD k 0)
  refine (lanesc_c op.v d.v _ _ w hoka hokb).mono ?_
  rintro e w' ⟨rfl, hn⟩
  refine ⟨_, rfl, ?_, hn⟩
  simp only [SV.Den]
  refine ⟨[_, _], denL_cons'.2 ⟨?_, denL_cons'.2 ⟨?_, by simp⟩⟩, rfl⟩
  · simp only [SV.Den]
    refine ⟨[_, _, _, _], denL_cons'.2 ⟨?_, denL_cons'.2 ⟨?_, denL_cons'.2 ⟨?_, denL_cons'.2 ⟨?_, by simp⟩⟩⟩⟩, rfl⟩
    · simp only [SV.Den, fnI, SI.sym_v, Tm.v, tms_v, List.map, List.cons_append, List.nil_append]
      exact congrArg (Value.int .u32) (u32_wrap (hbd 0 (by decide))).symm
    · simp only [SV.Den, fnI, SI.sym_v, Tm.v, tms_v, List.map, List.cons_append, List.nil_append]
      exact congrArg (Value.int .u32) (u32_wrap (hbd 1 (by decide))).symm
    · simp only [SV.Den, fnI, SI.sym_v, Tm.v, tms_v, List.map, List.cons_append, List.nil_append]
      exact congrArg (Value.int .u32) (u32_wrap (hbd 2 (by decide))).symm
    · simp only [SV.Den, fnI, SI.sym_v, Tm.v, tms_v, List.map, List.cons_append, List.nil_append]
      exact congrArg (Value.int .u32) (u32_wrap (hbd 3 (by decide))).symm
  · simp only [SV.Den, fnB, SB.sym_v, Bm.v, tms_v, List.map, List.cons_append, List.nil_append]
    rfl
end
theorem cpuPure_ok (ints : Nat → Int) (bools : Nat → Bool) : letI := cpuVal ints bools; PureOk Try.prog cpuPure := by
  letI := cpuVal ints bools
  intro f args v h ρ vs w hd
  unfold cpuPure at h
  split at h
  · split at h <;> cases h
    rw [denL_nil] at hd; subst hd
    refine (sane_c w).mono ?_
    rintro e w' ⟨rfl, hn⟩
    exact ⟨_, rfl, by simp only [SV.Den, SB.lit_v], hn⟩
  · exact alu_pure ints bools _ (.inl rfl) args v h ρ vs w hd
  · exact alu_pure ints bools _ (.inr rfl) args v h ρ vs w hd
  · exact holds_pure ints bools _ (.inl rfl) args v h ρ vs w hd
  · exact holds_pure ints bools _ (.inr rfl) args v h ρ vs w hd
  · exact ext_pure ints bools _ (.inl rfl) args v h ρ vs w hd
  · exact ext_pure ints bools _ (.inr rfl) args v h ρ vs w hd
  · exact mask_pure ints bools _ (.inl rfl) args v h ρ vs w hd
  · exact mask_pure ints bools _ (.inr rfl) args v h ρ vs w hd
  · exact lanes_pure ints bools args v h ρ vs w hd
  · cases h
end Go.Proofs.Ytpooghnemlnopaa
/- The contracts of Check, of cpu and of its specification, for runs. -/
namespace Go.Proofs.Ytpooghnemlnopaa
open Go Go.Sx Go.RowKit Go.Cd Go.MapKept
set_option linter.unusedVariables false
/-- The kind of a cell of a CPU. -/
def cpuKind (j : Nat) : IntKind := match Nat.beq j 17 with
  | true => .i64
  | false => .u32
def cpuCells : Nat → List SV → Option (List SI)
  | _, [] => some []
  | j, .int k n :: l => match decide (k = cpuKind j) with
    | true => match cpuCells (j + 1) l with
      | some r => some (n :: r)
      | none => none
    | false => none
  | _, _ => none
theorem cpuCells_den [Val] {ρ : Env} : ∀ {l : List SV} {j : Nat} {ns : List SI} {vs : List Value}, cpuCells j l = some ns → SV.DenL ρ l vs → vs.length = ns.length ∧ ∀ i, i < ns.length → vs[i]? = some (.int (cpuKind (j + i)) ((ns.map SI.v).getD i 0))
  | [], j, ns, vs, h, hd => by
    simp only [cpuCells, Option.some.injEq] at h; subst h
    rw [denL_nil] at hd; subst hd
    exact ⟨rfl, fun i hi => by simp at hi⟩
  | x :: l, j, ns, vs, h, hd => by
    unfold cpuCells at h
    split at h <;> try (cases h; done)
    · rename_i heq; cases heq
    · rename_i k n l' heq
      injection heq with e1 e2
      subst e1 e2
      split at h <;> try (cases h; done)
      rename_i hk
      have hk := of_decide_eq_true hk; subst hk
      split at h <;> cases h
      rename_i r hr
      obtain ⟨v, vs', rfl, h1, h2⟩ := denL_cons.1 hd
      simp only [SV.Den] at h1; subst h1
      obtain ⟨g1, g2⟩ := cpuCells_den hr h2
      refine ⟨by simp [g1], fun i hi => ?_⟩
      cases i with
      | zero => simp
      | succ i =>
        have := g2 i (by simpa using hi)
        have e : ∀ q : Nat, q + 1 + i = q + (i + 1) := fun q => by omega
        rw [e] at this
        simpa using this
def checkS : List SV → Option SV
  | [.agg l] => match cpuCells 0 l with
    | some ns => match Nat.beq ns.length 50, nth l 17 with
      | true, some (.int _ f) => some (.int .i64 (.sym (.ite (.lop .and (.not (.cmp .lt f.tm (.lit 0))) (.not (.cmp .lt (.lit 15) f.tm))) (.lit 0) (.lit 4))))
      | _, _ => none
    | none => none
  | _ => none
theorem check_pure [Val] : ∀ f, f = 14 ∨ f = 15 → ∀ args v, checkS args = some v → ∀ (ρ : Env) (vs : List Value) (w : World), SV.DenL ρ args vs → Calls Try.prog f vs.toArray w fun e w' => ∃ x, e = .returned x ∧ v.Den ρ x ∧ New w w' := by
  intro f hf args v h ρ vs w hd
  unfold checkS at h
  split at h <;> try (cases h; done)
  rename_i l
  split at h <;> try (cases h; done)
  rename_i ns hns
  split at h <;> cases h
  rename_i k17 f17 hlen h17
  have hlen := Nat.eq_of_beq_eq_true hlen
  obtain ⟨x0, _, rfl, h0, r0⟩ := denL_cons.1 hd
  rw [denL_nil] at r0; subst r0
  simp only [SV.Den] at h0
  obtain ⟨cs, hcs, rfl⟩ := h0
  obtain ⟨g1, g2⟩ := cpuCells_den hns hcs
  let c : Regs := fun i => (ns.map SI.v).getD i 0
  have hc : cs = cpuL c := by
    apply List.ext_getElem?
    intro i
    by_cases hi : i < 50
    · rw [g2 i (by omega)]
      simp only [cpuL, List.getElem?_map, List.getElem?_range, hi, Option.map_some, cpuCell, cpuKind, Nat.zero_add, c]
      by_cases e : i = 17
      · subst e; simp
      · have : Nat.beq i 17 = false := by
          cases hb : Nat.beq i 17 with
          | true => exact absurd (Nat.eq_of_beq_eq_true hb) e
          | false => rfl
        simp [e, this]
    · rw [List.getElem?_eq_none (by omega), List.getElem?_eq_none (by simp [cpuL]; omega)]
  have h17' : f17.v = c 17 := by
    rw [nth_eq] at h17
    obtain ⟨u, u1, u2⟩ := denL_get hcs h17
    have := g2 17 (by omega)
    rw [u1] at this
    simp only [SV.Den] at u2
    injection this with this
    rw [u2] at this
    injection this
  subst hc
  have key : ∀ e w', (e = Ending.returned (.int .i64 (checkF c)) ∧ New w w') → ∃ x, e = .returned x ∧ (SV.int .i64 (.sym (.ite (.lop .and (.not (.cmp .lt f17.tm (.lit 0))) (.not (.cmp .lt (.lit 15) f17.tm))) (.lit 0) (.lit 4)))).Den ρ x ∧ New w w' := by
    rintro e w' ⟨rfl, hn⟩
    refine ⟨_, rfl, ?_, hn⟩
    simp only [SV.Den, SI.sym_v, Tm.v, Bm.v, LOp.f, COp.f, SI.tm_v, h17']
    unfold checkF
    by_cases c1 : c 17 < 0
    · rw [if_neg (by omega)]; simp [c1]
    · by_cases c2 : 15 < c 17
      · rw [if_neg (by omega)]; simp [c2]
      · rw [if_pos (by omega)]; simp [c1, c2]
  rcases hf with rfl | rfl
  · exact (check_c c w).mono key
  · exact (rcheck_c c w).mono key
end Go.Proofs.Ytpooghnemlnopaa
/- math/bits.Add64 and Sub64, which the model answers by itself. -/
namespace Go.Proofs.Ytpooghnemlnopaa
open Go Go.Sx Go.RowKit Go.Cd Go.MapKept
set_option linter.unusedVariables false
def word64 (a : SI) : Bool := a.within 0 18446744073709551615
def cpuXt : FuncId → List SV → Option SV := fun f args =>
  match f, args with
  | 22, [.int .u64 x, .int .u64 y, .int .u64 (.lit 0)] => match word64 x, word64 y with
    | true, true => some (.tup [.int .u64 (SI.op (.add .u64) x y), .int .u64 (.sym (.ite (.cmp .lt (SI.op (.add .u64) x y).tm x.tm) (.lit 1) (.lit 0)))])
    | _, _ => none
  | 23, [.int .u64 x, .int .u64 y, .int .u64 (.lit 0)] => match word64 x, word64 y with
    | true, true => some (.tup [.int .u64 (SI.op (.sub .u64) x y), .int .u64 (.sym (.ite (.cmp .lt x.tm y.tm) (.lit 1) (.lit 0)))])
    | _, _ => none
  | _, _ => none
theorem wrap_u64 (n : Int) : IntKind.u64.wrap n = n % 18446744073709551616 := by
  simp only [IntKind.wrap, IntKind.bits, IntKind.signed]
  simp
theorem call_add64 (x y : Int) (hx : 0 ≤ x ∧ x ≤ 18446744073709551615) (hy : 0 ≤ y ∧ y ≤ 18446744073709551615) (w : World) :
    (callFunc 22 #[.int .u64 x, .int .u64 y, .int .u64 0]).run Try.prog w = .ok (.value (.tuple #[.int .u64 (IntKind.u64.wrap (x + y)), .int .u64 (if IntKind.u64.wrap (x + y) < x then 1 else 0)])) w := by
  rw [run_callFunc_extern Try.func22 (by kernel_rfl) (by kernel_rfl) (by kernel_rfl) (e := add64Entry) (by kernel_rfl), run_add64 x y 0 hx.1 hy.1 (by decide) (by decide)]
  have e1 : (x + y + 0) % 18446744073709551616 = IntKind.u64.wrap (x + y) := by rw [wrap_u64, Int.add_zero]
  have e2 : (x + y + 0) / 18446744073709551616 = if IntKind.u64.wrap (x + y) < x then 1 else 0 := by
    rw [wrap_u64]
    split <;> omega
  rw [e1, e2]
  rfl
theorem call_sub64 (x y : Int) (hx : 0 ≤ x ∧ x ≤ 18446744073709551615) (hy : 0 ≤ y ∧ y ≤ 18446744073709551615) (w : World) :
    (callFunc 23 #[.int .u64 x, .int .u64 y, .int .u64 0]).run Try.prog w = .ok (.value (.tuple #[.int .u64 (IntKind.u64.wrap (x - y)), .int .u64 (if x < y then 1 else 0)])) w := by
  obtain ⟨x, rfl⟩ := Int.eq_ofNat_of_zero_le hx.1
  obtain ⟨y, rfl⟩ := Int.eq_ofNat_of_zero_le hy.1
  rw [run_callFunc_extern Try.func23 (by kernel_rfl) (by kernel_rfl) (by kernel_rfl) (e := sub64Entry) (by kernel_rfl)]
  have h := run_sub64 (P := Try.prog) x y 0 (by decide) w
  have h' : (sub64Entry #[.int .u64 x, .int .u64 y, .int .u64 0]).run Try.prog w = _ := h
  rw [h']
  have e1 : (((x + 18446744073709551616 - y - 0) % 18446744073709551616 : Nat) : Int) = IntKind.u64.wrap ((x : Int) - y) := by
    rw [wrap_u64]; omega
  have e2 : ((if x < y + 0 then 1 else 0 : Nat) : Int) = if (x : Int) < y then 1 else 0 := by
    split <;> split <;> first | rfl | omega
  rw [e1, e2]
  rfl
theorem cpuXt_ok [Val] : XtOk Try.prog cpuXt := by
  intro f args v h ρ vs w hd
  unfold cpuXt at h
  split at h <;> try (cases h; done)
  · rename_i x y
    split at h <;> cases h
    rename_i hx hy
    have hx := SI.within_ok hx
    have hy := SI.within_ok hy
    obtain ⟨x0, _, rfl, h0, r0⟩ := denL_cons.1 hd
    obtain ⟨x1, _, rfl, h1, r1⟩ := denL_cons.1 r0
    obtain ⟨x2, _, rfl, h2, r2⟩ := denL_cons.1 r1
    rw [denL_nil] at r2
    simp only [SV.Den, SI.lit_v] at h0 h1 h2
    subst h0 h1 h2 r2
    refine ⟨_, call_add64 x.v y.v hx hy w, ?_⟩
    simp only [SV.Den]
    refine ⟨[_, _], denL_cons'.2 ⟨?_, denL_cons'.2 ⟨?_, by simp⟩⟩, rfl⟩
    · simp only [SV.Den, SI.op_v, IOp.f]
    · simp only [SV.Den, SI.sym_v, Tm.v, Bm.v, SI.tm_v, SI.op_v, IOp.f, COp.f, decide_eq_true_eq]
  · rename_i x y
    split at h <;> cases h
    rename_i hx hy
    have hx := SI.within_ok hx
    have hy := SI.within_ok hy
    obtain ⟨x0, _, rfl, h0, r0⟩ := denL_cons.1 hd
    obtain ⟨x1, _, rfl, h1, r1⟩ := denL_cons.1 r0
    obtain ⟨x2, _, rfl, h2, r2⟩ := denL_cons.1 r1
    rw [denL_nil] at r2
    simp only [SV.Den, SI.lit_v] at h0 h1 h2
    subst h0 h1 h2 r2
    refine ⟨_, call_sub64 x.v y.v hx hy w, ?_⟩
    simp only [SV.Den]
    refine ⟨[_, _], denL_cons'.2 ⟨?_, denL_cons'.2 ⟨?_, by simp⟩⟩, rfl⟩
    · simp only [SV.Den, SI.op_v, IOp.f]
    · simp only [SV.Den, SI.sym_v, Tm.v, Bm.v, SI.tm_v, COp.f, decide_eq_true_eq]
end Go.Proofs.Ytpooghnemlnopaa
/- What a law's row asks behind the call, where the call has made new blocks alone: one theorem for all laws. -/
namespace Go.Cd
open Go Go.ChangeShapes Go.WideShapes Go.ChangeAt Go.RowKit
section
variable {H : Type} {enc : TypeId × Value → H} {P : Program}
theorem trodAll_keep (hl : laidOutB P = true) {W W' : World} (hb : Below W.heap.size W W') : ∀ {ts : List TypeId} {vs : List Value} {ds : List (DataW H)} {ps : List MemPlace},
    (∀ t ∈ ts, P.readableRec t = true ∧ t < P.types.size) → DataW.TrodAll enc P W 0 (fun _ => true) true ts vs ds ps → (∀ x ∈ ps, x.block < W.heap.size) → DataW.TrodAll enc P W' 0 (fun b => decide (b < W.heap.size)) true ts vs ds ps
  | [], _, _, _, _, h, _ => by
    obtain ⟨rfl, rfl, rfl⟩ := trodAll_nil h
    rfl
  | t :: ts, _, _, _, hr, h, hlt => by
    obtain ⟨v, vs', d, ds', p, q, rfl, rfl, rfl, h1, h2⟩ := trodAll_cons h
    refine ⟨p, q, Below.trod hl (hr t (by simp)).1 (hr t (by simp)).2 h1 hb (fun x hx => hlt x (by simp [hx])), trodAll_keep hl hb (fun t' ht => hr t' (by simp [ht])) h2 (fun x hx => hlt x (by simp [hx])), rfl⟩
/-- A law that answered true and made new blocks alone. -/
theorem law_post {f : Func} {s : ChangeSpec} {W W' : World} {args : Array Value} {ds gs : List (DataW H)} {before : List MemPlace} {tb : TypeId} (hl : laidOutB P = true) (hr : ∀ t ∈ f.params.toList, P.readableRec t = true ∧ t < P.types.size)
    (hrt : f.resultTypes = #[tb]) (hub : P.underlying tb = some .bool) (hv : s.vars = [])
    (hW : DataW.Whole enc P f.params.toList s.vars false W args.toList ds gs before)
    (hfn : s.fn H ds = { results := [.lit (.bool true)], args := ds }) (hb : Below W.heap.size W W') :
    s.post enc P f false true false false W args (.bool true) W' := by
  have hlt : ∀ p ∈ before, p.block < W.heap.size := fun p hp => hW.lt p hp
  have hW' := hW
  obtain ⟨p, q, hA, hV, rfl, hfz, hnd⟩ := hW'
  rw [hv] at hV
  obtain ⟨rfl, rfl⟩ := trodVars_none hV
  refine ⟨ds, [], p ++ [], [], p, [], hW, ?_, ?_, ?_, World.keptBut_mono (fun x hx => ⟨hx, Or.inr (Or.inl (by simpa using hx))⟩) (hb.frame (· ∈ p ++ [])), fun h => by cases h⟩
  · rw [hrt, List.append_nil, hfn]
    exact trodAll_cons_mk (shut_bool hub _) trodAll_mk0
  · rw [List.append_nil, hfn]
    exact trodAll_keep hl hb hr hA (fun x hx => hlt x (by simp [hx]))
  · rw [List.append_nil, hfn, hv]
    rfl
end
theorem wf_u32 {a : Int} (h : (Lit.int .u32 a).wf = true) : 0 ≤ a ∧ a < 4294967296 := by
  have h1 : IntKind.u32.min ≤ a ∧ a ≤ IntKind.u32.max := by simpa [Lit.wf] using h
  have e1 : IntKind.u32.min = 0 := by decide
  have e2 : IntKind.u32.max = 4294967295 := by decide
  omega
theorem wf_i64 {a : Int} (h : (Lit.int .i64 a).wf = true) : -9223372036854775808 ≤ a ∧ a < 9223372036854775808 := by
  have h1 : IntKind.i64.min ≤ a ∧ a ≤ IntKind.i64.max := by simpa [Lit.wf] using h
  have e1 : IntKind.i64.min = -9223372036854775808 := by decide
  have e2 : IntKind.i64.max = 9223372036854775807 := by decide
  omega
end Go.Cd
/- Arrays of whole numbers that came in by value. -/
namespace Go.Cd
open Go Go.ChangeShapes Go.WideShapes Go.ChangeAt Go.RowKit
section
variable {H : Type} {enc : TypeId × Value → H} {P : Program} {w : World} {base : Nat} {spare : Nat → Bool} {held : Bool}
theorem okWide_array {r : Reach} {b0 n : Nat} {t e : TypeId} {v : Value} (ht : P.underlying t = some (.array n e)) (h : Value.okWide P w r b0 t v) : ∃ cs, v = .agg cs ∧ cs.size = P.cellsOf t := by
  unfold Value.okWide at h
  rw [ht] at h
  obtain ⟨cs, h1, h2, _⟩ := h
  exact ⟨cs, h1, h2⟩
/-- The cells of an array of whole numbers. -/
theorem trod_ints_arr {n fuel : Nat} {t e : TypeId} {k : IntKind} {cs : List Value} {x : DataW H × List MemPlace} (ht : P.underlying t = some (.array n e)) (he : P.underlying e = some (.int k)) (hce : P.cellsOf e = 1) (hct : P.cellsOf t = n)
    (h : DataW.trod enc P w base spare held fuel t cs = some x) : ∃ l : List Int, cs = l.map (Value.int k) ∧ l.length = n ∧ ∀ z ∈ l, (Lit.int k z).wf = true := by
  obtain ⟨xs, m, _, _, hlen, hxl, hf⟩ := DataW.trod_array ht h
  rw [hct] at hlen
  have key : ∀ i, i < n → ∃ z : Int, cs[i]? = some (.int k z) ∧ (Lit.int k z).wf = true := fun i hi => by
    have h1 := hf i hi
    rw [List.getElem?_eq_getElem (by omega), hce, Nat.mul_one] at h1
    obtain ⟨z, hz, _, hw⟩ := DataW.trod_int he h1
    refine ⟨z, ?_, hw⟩
    have h2 : ((cs.drop i).take 1)[0]? = some (.int k z) := by rw [hz]; rfl
    rw [List.getElem?_take_of_lt (by decide), List.getElem?_drop] at h2
    simpa using h2
  have all : ∀ v ∈ cs, v = .int k (intOf v) ∧ (Lit.int k (intOf v)).wf = true := fun v hv => by
    obtain ⟨i, hi⟩ := List.mem_iff_getElem?.1 hv
    have hi' : i < n := by have := (List.getElem?_eq_some_iff.1 hi).1; omega
    obtain ⟨z, h1, h2⟩ := key i hi'
    rw [hi] at h1
    rw [Option.some.inj h1]
    exact ⟨rfl, h2⟩
  refine ⟨cs.map intOf, ?_, by simpa using hlen, fun z hz => ?_⟩
  · rw [List.map_map]
    conv => lhs; rw [← List.map_id cs]
    exact List.map_congr_left fun v hv => (all v hv).1
  · obtain ⟨v, hv, rfl⟩ := List.mem_map.1 hz
    exact (all v hv).2
theorem open_ints_arr {r : Reach} {b0 n : Nat} {t e : TypeId} {k : IntKind} {v : Value} {d : DataW H} {p : List MemPlace} (ht : P.underlying t = some (.array n e)) (he : P.underlying e = some (.int k)) (hce : P.cellsOf e = 1) (hct : P.cellsOf t = n)
    (hv : Value.okWide P w r b0 t v) (h : DataW.Trod enc P w base spare held t v d p) : ∃ l : List Int, v = .agg (l.map (Value.int k)).toArray ∧ l.length = n ∧ ∀ z ∈ l, (Lit.int k z).wf = true := by
  obtain ⟨cs, rfl, hsz⟩ := okWide_array ht hv
  obtain ⟨fuel, hf⟩ := h
  obtain ⟨l, h1, h2, h3⟩ := trod_ints_arr ht he hce hct hf
  refine ⟨l, ?_, h2, h3⟩
  have : cs.toList = l.map (Value.int k) := by simpa [Value.cells] using h1
  rw [← this]
end
end Go.Cd
/- A CPU that came in by value. -/
namespace Go.Proofs.Ytpooghnemlnopaa
open Go Go.Cd Go.ChangeShapes Go.WideShapes Go.ChangeAt Go.RowKit
/-- The numbers of a CPU are of their kinds. -/
def CpuOk (c : Regs) : Prop := (∀ j, j < 50 → j ≠ 17 → 0 ≤ c j ∧ c j < 4294967296) ∧ -9223372036854775808 ≤ c 17 ∧ c 17 < 9223372036854775808
section
variable {H : Type} {enc : TypeId × Value → H} {w : World} {base : Nat} {spare : Nat → Bool} {held : Bool}
set_option maxRecDepth 100000 in
theorem open_cpu {r : Reach} {b0 : Nat} {v : Value} {d : DataW H} {p : List MemPlace} (hv : Value.okWide Try.prog w r b0 39 v) (h : DataW.Trod enc Try.prog w base spare held 39 v d p) : ∃ c : Regs, v = cpuV c ∧ CpuOk c := by
  obtain ⟨cs, rfl, hsz⟩ := okWide_struct Try.underlying39 hv
  have hsz : cs.size = 50 := hsz.trans (by kernel_rfl)
  obtain ⟨fuel, hf⟩ := h
  obtain ⟨y0, y1, y2, y3, n, hx, _, h0, h1, h2, h3⟩ := Joins.trod_struct4 Try.underlying39 hf
  have hcells : (Value.agg cs).cells.toList = cs.toList := rfl
  rw [hcells] at h0 h1 h2 h3
  have k0 : Try.prog.cellsOf 36 = 16 := by kernel_rfl
  have k1 : Try.prog.cellsOf 22 = 1 := by kernel_rfl
  have k2 : Try.prog.cellsOf 3 = 1 := by kernel_rfl
  have k3 : Try.prog.cellsOf 37 = 32 := by kernel_rfl
  have k4 : Try.prog.cellsOf 32 = 4 := by kernel_rfl
  simp only [k0, k1, k2, k3] at h0 h1 h2 h3
  obtain ⟨l0, e0, n0, w0⟩ := trod_ints_arr Try.underlying36 Try.underlying22 k1 k0 h0
  obtain ⟨z1, e1, _, w1⟩ := DataW.trod_int Try.underlying22 h1
  obtain ⟨z2, e2, _, w2⟩ := DataW.trod_int Try.underlying3 h2
  obtain ⟨xs, m, _, _, _, hxl, hf3⟩ := DataW.trod_array Try.underlying37 h3
  have key : ∀ j, j < 50 → ∃ z : Int, cs.toList[j]? = some (if j = 17 then .int .i64 z else .int .u32 z) ∧ if j = 17 then -9223372036854775808 ≤ z ∧ z < 9223372036854775808 else 0 ≤ z ∧ z < 4294967296 := by
    intro j hj
    have hlen : cs.toList.length = 50 := by simpa using hsz
    rcases (show j < 16 ∨ j = 16 ∨ j = 17 ∨ 18 ≤ j by omega) with c | c | c | c
    · have h5 : ((cs.toList.drop 0).take 16)[j]? = (l0.map (Value.int .u32))[j]? := by rw [e0]
      rw [List.getElem?_take_of_lt c, List.drop_zero, List.getElem?_map, List.getElem?_eq_getElem (l := l0) (i := j) (by omega)] at h5
      refine ⟨l0[j], ?_, ?_⟩
      · rw [if_neg (by omega)]; simpa using h5
      · rw [if_neg (by omega)]; exact wf_u32 (w0 _ (List.getElem_mem _))
    · subst c
      refine ⟨z1, ?_, ?_⟩
      · have h5 : ((cs.toList.drop 16).take 1)[0]? = some (.int .u32 z1) := by rw [e1]; rfl
        rw [List.getElem?_take_of_lt (by decide), List.getElem?_drop] at h5
        simpa using h5
      · exact wf_u32 w1
    · subst c
      refine ⟨z2, ?_, ?_⟩
      · have h5 : ((cs.toList.drop 17).take 1)[0]? = some (.int .i64 z2) := by rw [e2]; rfl
        rw [List.getElem?_take_of_lt (by decide), List.getElem?_drop] at h5
        simpa using h5
      · exact wf_i64 w2
    · have hq : (j - 18) / 4 < 8 := by omega
      have h6 := hf3 ((j - 18) / 4) hq
      rw [List.getElem?_eq_getElem (by omega), k4] at h6
      obtain ⟨l6, e6, n6, w6⟩ := trod_ints_arr Try.underlying32 Try.underlying22 k1 k4 h6
      have hr : (j - 18) % 4 < l6.length := by omega
      have h7 : (((((cs.toList.drop 18).take 32).drop ((j - 18) / 4 * 4)).take 4)[(j - 18) % 4]?) = (l6.map (Value.int .u32))[(j - 18) % 4]? := by rw [e6]
      rw [List.getElem?_take_of_lt (by omega), List.getElem?_drop, List.getElem?_take_of_lt (by omega), List.getElem?_drop, List.getElem?_map, List.getElem?_eq_getElem hr] at h7
      rw [show 18 + ((j - 18) / 4 * 4 + (j - 18) % 4) = j by omega] at h7
      refine ⟨l6[(j - 18) % 4], ?_, ?_⟩
      · rw [if_neg (by omega)]; simpa using h7
      · rw [if_neg (by omega)]; exact wf_u32 (w6 _ (List.getElem_mem _))
  let c : Regs := fun j => intOf (cs.toList.getD j (.int .u32 0))
  have hc : ∀ j, j < 50 → cs.toList[j]? = some (cpuCell c j) ∧ if j = 17 then -9223372036854775808 ≤ c j ∧ c j < 9223372036854775808 else 0 ≤ c j ∧ c j < 4294967296 := by
    intro j hj
    obtain ⟨z, z1, z2⟩ := key j hj
    have e : c j = z := by
      show intOf (cs.toList.getD j (.int .u32 0)) = z
      rw [List.getD_eq_getElem?_getD, z1]
      by_cases q : j = 17 <;> simp [q, intOf]
    refine ⟨?_, by rw [e]; exact z2⟩
    rw [z1]; unfold cpuCell; rw [e]
    first | done | (split <;> rfl)
  refine ⟨c, ?_, fun j hj hne => ?_, ?_⟩
  · unfold cpuV cpuA
    congr 1
    apply Array.ext'
    rw [List.toList_toArray]
    apply List.ext_getElem?
    intro j
    by_cases hj : j < 50
    · rw [(hc j hj).1]; simp [cpuL, hj]
    · rw [List.getElem?_eq_none (by simp; omega), List.getElem?_eq_none (by simp [cpuL]; omega)]
  · have := (hc j hj).2
    rwa [if_neg hne] at this
  · have := (hc 17 (by decide)).2
    rwa [if_pos rfl] at this
end
end Go.Proofs.Ytpooghnemlnopaa
/- CpuNumbers, run: at known operations of lanes, and at all others. -/
namespace Go.Proofs.Ytpooghnemlnopaa
open Go Go.Sx Go.RowKit Go.Cd Go.MapKept
set_option linter.unusedVariables false
def numPure : Pure := fun f args =>
  match f with
  | 14 => checkS args
  | 15 => checkS args
  | 12 => none
  | f => cpuPure f args
theorem numPure_ok (ints : Nat → Int) (bools : Nat → Bool) : letI := cpuVal ints bools; PureOk Try.prog numPure := by
  letI := cpuVal ints bools
  intro f args v h
  unfold numPure at h
  split at h
  · exact check_pure _ (.inl rfl) args v h
  · exact check_pure _ (.inr rfl) args v h
  · cases h
  · exact cpuPure_ok ints bools _ args v h
/-- A CPU of letters. -/
def cpuS (n : Nat) : SV := .agg ((List.range 50).map fun j => .int (cpuKind j) (.sym (.var (cpuKind j) (n + j))))
theorem cpuKind_17 : cpuKind 17 = .i64 := rfl
theorem cpuKind_w {j : Nat} (h : j ≠ 17) : cpuKind j = .u32 := by
  unfold cpuKind
  split
  · rename_i e; exact absurd (Nat.eq_of_beq_eq_true e) h
  · rfl
theorem cpuS_den [V : Val] {ρ : Env} {n : Nat} {c : Regs} (hc : CpuOk c) (h : ∀ j, j < 50 → V.ints (n + j) = c j) : (cpuS n).Den ρ (cpuV c) := by
  unfold cpuS cpuV cpuA cpuL
  simp only [SV.Den]
  refine ⟨_, denL_map _ (cpuCell c) _ fun j hj => ?_, rfl⟩
  have hj : j < 50 := by simpa using hj
  simp only [SV.Den, SI.sym_v, Tm.v, h j hj]
  by_cases e : j = 17
  · subst e
    rw [cpuKind_17, cpuCell_f, wrap_same .i64 (by have := hc.2.1; show (-9223372036854775808 : Int) ≤ c 17; omega) (by have := hc.2.2; show c 17 ≤ 9223372036854775807; omega)]
  · rw [cpuKind_w e, cpuCell_u32 c j e, u32_wrap (hc.1 j hj e)]
def vecS' (i : Nat) : SV := .agg [.int .u32 (.sym (.var .u32 i)), .int .u32 (.sym (.var .u32 (i + 1))), .int .u32 (.sym (.var .u32 (i + 2))), .int .u32 (.sym (.var .u32 (i + 3)))]
theorem vecS'_den [V : Val] {ρ : Env} {i : Nat} {l : List Int} (hl : l.length = 4) (hw : ∀ z ∈ l, 0 ≤ z ∧ z < 4294967296) (h : ∀ j, j < 4 → V.ints (i + j) = l.getD j 0) : (vecS' i).Den ρ (.agg (l.map (Value.int .u32)).toArray) := by
  match l, hl with
  | [a, b, c, d], _ =>
    have h0 := h 0 (by decide)
    have h1 := h 1 (by decide)
    have h2 := h 2 (by decide)
    have h3 := h 3 (by decide)
    simp at h0 h1 h2 h3
    unfold vecS'
    simp only [SV.Den]
    refine ⟨[_, _, _, _], denL_cons'.2 ⟨?_, denL_cons'.2 ⟨?_, denL_cons'.2 ⟨?_, denL_cons'.2 ⟨?_, by simp⟩⟩⟩⟩, rfl⟩
    · simp only [SV.Den, SI.sym_v, Tm.v]; rw [h0, u32_wrap (hw a (by simp))]
    · simp only [SV.Den, SI.sym_v, Tm.v]; rw [h1, u32_wrap (hw b (by simp))]
    · simp only [SV.Den, SI.sym_v, Tm.v]; rw [h2, u32_wrap (hw c (by simp))]
    · simp only [SV.Den, SI.sym_v, Tm.v]; rw [h3, u32_wrap (hw d (by simp))]
def numI (op d k a b : Int) (v w : List Int) (c : Regs) : Nat → Int := fun i =>
  if i < 5 then [op, d, k, a, b].getD i 0 else if i < 9 then v.getD (i - 5) 0 else if i < 13 then w.getD (i - 9) 0 else c (i - 13)
def numArgs (op d : SI) : List SV := [cpuS 13, .int .i64 op, .int .i64 d, .int .i64 (.sym (.var .i64 2)), .int .u32 (.sym (.var .u32 3)), .int .u32 (.sym (.var .u32 4)), vecS' 5, vecS' 9]
def numT (P : Program) (fs : Facts) (op d : SI) : Tree SB := lawTreeF P numPure cpuXt fs 6 (numArgs op d) 10000
def opT : Tm := .var .i64 0
def dT : Tm := .var .i64 1
def fsA : Facts := [(.cmp .eq opT (.lit 51), false), (.cmp .eq opT (.lit 52), false), (.cmp .eq opT (.lit 53), false)]
def fsB : Facts := [(.cmp .lt dT (.lit 0), true)]
def fsC : Facts := [(.cmp .lt dT (.lit 0), false), (.cmp .lt (.lit 2) dT, true)]
theorem num_A : (numT Try.prog fsA (.sym opT) (.sym dT)).allTrue = true := by kernel_rfl
theorem num_51B : (numT Try.prog fsB (.lit 51) (.sym dT)).allTrue = true := by kernel_rfl
theorem num_52B : (numT Try.prog fsB (.lit 52) (.sym dT)).allTrue = true := by kernel_rfl
theorem num_53B : (numT Try.prog fsB (.lit 53) (.sym dT)).allTrue = true := by kernel_rfl
theorem num_51C : (numT Try.prog fsC (.lit 51) (.sym dT)).allTrue = true := by kernel_rfl
theorem num_52C : (numT Try.prog fsC (.lit 52) (.sym dT)).allTrue = true := by kernel_rfl
theorem num_53C : (numT Try.prog fsC (.lit 53) (.sym dT)).allTrue = true := by kernel_rfl
theorem num_51_0 : (numT Try.prog [] (.lit 51) (.lit 0)).allTrue = true := by kernel_rfl
theorem num_51_1 : (numT Try.prog [] (.lit 51) (.lit 1)).allTrue = true := by kernel_rfl
theorem num_51_2 : (numT Try.prog [] (.lit 51) (.lit 2)).allTrue = true := by kernel_rfl
theorem num_52_0 : (numT Try.prog [] (.lit 52) (.lit 0)).allTrue = true := by kernel_rfl
theorem num_52_1 : (numT Try.prog [] (.lit 52) (.lit 1)).allTrue = true := by kernel_rfl
theorem num_52_2 : (numT Try.prog [] (.lit 52) (.lit 2)).allTrue = true := by kernel_rfl
theorem num_53_0 : (numT Try.prog [] (.lit 53) (.lit 0)).allTrue = true := by kernel_rfl
theorem num_53_1 : (numT Try.prog [] (.lit 53) (.lit 1)).allTrue = true := by kernel_rfl
theorem num_53_2 : (numT Try.prog [] (.lit 53) (.lit 2)).allTrue = true := by kernel_rfl
end Go.Proofs.Ytpooghnemlnopaa
/- A law's call, run, all of whose ends are true. -/
namespace Go.Sx
open Go Go.RowKit Go.Cd Go.MapKept
theorem law_callsT [Val] {P : Program} (hok : FnOk P) (hm : P.follows .mixedOrders = true) {g : Pure} (hg : PureOk P g) {xt : FuncId → List SV → Option SV} (hxt : XtOk P xt) {fs : Facts} (hfs : FactsOk fs) {f : FuncId} {args : List SV} {n : Nat} (h : (lawTreeF P g xt fs f args n).allTrue = true) {vs : List Value} (hv : SV.DenL (fun _ => none) args vs) (w : World) :
    Calls P f vs.toArray w fun e w' => e = .returned (.bool true) ∧ New w w' := law_callsF hok hm hg hxt hfs (Tree.sat_allTrue h) hv w
end Go.Sx
