/- The contract of cpu.Alu. Written by genAlu.py. -/
import Derived.Test.YtpooghnemlnopaaCNum2
import Derived.Test.YtpooghnemlnopaaNum2
namespace Go.Proofs.Ytpooghnemlnopaa
open Go Go.RowKit Go.Cd
set_option linter.unusedVariables false

attribute [local go_sem ↓] ex80 Go.wp_at_zero Go.wp_at_succ
def aluT (op a b k : Int) : Int × Int × Bool :=
  if op = 3 then (sumR a b 0, sumFl a b 0, true) else if op = 4 then (difR a b 0, difFl a b 0, true)
  else if op = 5 then (bits .and .u32 a b, logFl (bits .and .u32 a b), true) else if op = 6 then (bits .or .u32 a b, logFl (bits .or .u32 a b), true) else if op = 7 then (bits .xor .u32 a b, logFl (bits .xor .u32 a b), true)
  else if op = 8 then (shlR a (b % 32), shFl (shlR a (b % 32)) a (b % 32) true, true) else if op = 9 then (shrR a (b % 32), shFl (shrR a (b % 32)) a (b % 32) false, true) else if op = 10 then (sarR a (b % 32), shFl (sarR a (b % 32)) a (b % 32) false, true)
  else if op = 11 then (a * b % 4294967296, 0, true) else if op = 12 then (a * b / 4294967296, 0, true)
  else if op = 16 then (sumR a b (k % 2), sumFl a b (k % 2), true) else if op = 17 then (difR a b (k % 2), difFl a b (k % 2), true)
  else if b = 0 then (0, 0, false)
  else if op = 13 then (a / b, 0, true) else if op = 14 then (a % b, 0, true) else if op = 15 then (divS a b, 0, true) else (0, 0, false)
def AluPost (t : Int × Int × Bool) (w : World) (e : Ending) (w' : World) : Prop := e = .returned (.tuple #[.int .u32 t.1, .int .i64 t.2.1, .bool t.2.2]) ∧ New w w'
set_option maxRecDepth 100000 in
set_option maxHeartbeats 1000000 in
theorem alu_3 (a b k : Int) (w : World) (ha : 0 ≤ a ∧ a < 4294967296) (hb : 0 ≤ b ∧ b < 4294967296) (z : Bool) (e0 : (b == 0) = z) :
    Calls Try.prog 10 #[.int .i64 3, .int .u32 a, .int .u32 b, .int .i64 k] w (AluPost (aluT 3 a b k) w) := by
  have hm := and1_i64 k
  cases z
  all_goals
    go_enter Try.func10, Try.ntmps10
    go_wp2_with (go_at_call 34; refine (operations_c _).mono ?_; rintro e w1 ⟨b0, b1, b2, b3, b4, rfl, hb1, hoa⟩; have N1 := Lib.hid hb1; have OA := Lib.hid hoa; clear hb1 hoa)
    have hbx := heap_alloc_at w1 (.cells #[.nilFunc, .nilFunc, .nilFunc, .nilFunc, .nilFunc, .nilFunc, .nilFunc, .nilFunc, .nilFunc, .nilFunc, .nilFunc, .nilFunc, .nilFunc, .nilFunc] 80) _ rfl
    have N2 := Lib.hid ((New.refl w1).alloc (Nat.le_refl _) (.cells #[.nilFunc, .nilFunc, .nilFunc, .nilFunc, .nilFunc, .nilFunc, .nilFunc, .nilFunc, .nilFunc, .nilFunc, .nilFunc, .nilFunc, .nilFunc, .nilFunc] 80))
    have OA2 := Lib.hid (OA.out.new N2.out)
    generalize w1.alloc (.cells #[.nilFunc, .nilFunc, .nilFunc, .nilFunc, .nilFunc, .nilFunc, .nilFunc, .nilFunc, .nilFunc, .nilFunc, .nilFunc, .nilFunc, .nilFunc, .nilFunc] 80) = w2 at *
    obtain ⟨w3, hst, h3, ho3⟩ := store_all (P := Try.prog) 80 w1.heap.size _ (opsV b0 b1 b2 b3 b4) _ w2 hbx rfl (size14.trans rfl) (by unfold opsV; simp [Value.oneCell'])
    rw [hst]
    clear hst hbx
    have N3 := Lib.hid (new_only N2.out ho3 (Nat.le_refl _))
    have OA3 := Lib.hid (OA.out.new N3.out)
    have hc : w3.cell? ⟨w1.heap.size, 0, none⟩ = some (.func (.func 52) #[] #[]) := cell_of_heap h3 rfl
    clear h3 ho3
    go_wp2_with (go_at_call 52; refine (op1_c _ _ _ _ ha hb).mono ?_; rintro e w4 ⟨rfl, hb4⟩; have N4 := Lib.hid hb4; clear hb4)
    go_ret3
    exact ⟨rfl, N1.out.trans ((N3.out.trans (N4.out.mono N3.out.size)).mono N1.out.size)⟩
set_option maxRecDepth 100000 in
set_option maxHeartbeats 1000000 in
theorem alu_4 (a b k : Int) (w : World) (ha : 0 ≤ a ∧ a < 4294967296) (hb : 0 ≤ b ∧ b < 4294967296) (z : Bool) (e0 : (b == 0) = z) :
    Calls Try.prog 10 #[.int .i64 4, .int .u32 a, .int .u32 b, .int .i64 k] w (AluPost (aluT 4 a b k) w) := by
  have hm := and1_i64 k
  cases z
  all_goals
    go_enter Try.func10, Try.ntmps10
    go_wp2_with (go_at_call 34; refine (operations_c _).mono ?_; rintro e w1 ⟨b0, b1, b2, b3, b4, rfl, hb1, hoa⟩; have N1 := Lib.hid hb1; have OA := Lib.hid hoa; clear hb1 hoa)
    have hbx := heap_alloc_at w1 (.cells #[.nilFunc, .nilFunc, .nilFunc, .nilFunc, .nilFunc, .nilFunc, .nilFunc, .nilFunc, .nilFunc, .nilFunc, .nilFunc, .nilFunc, .nilFunc, .nilFunc] 80) _ rfl
    have N2 := Lib.hid ((New.refl w1).alloc (Nat.le_refl _) (.cells #[.nilFunc, .nilFunc, .nilFunc, .nilFunc, .nilFunc, .nilFunc, .nilFunc, .nilFunc, .nilFunc, .nilFunc, .nilFunc, .nilFunc, .nilFunc, .nilFunc] 80))
    have OA2 := Lib.hid (OA.out.new N2.out)
    generalize w1.alloc (.cells #[.nilFunc, .nilFunc, .nilFunc, .nilFunc, .nilFunc, .nilFunc, .nilFunc, .nilFunc, .nilFunc, .nilFunc, .nilFunc, .nilFunc, .nilFunc, .nilFunc] 80) = w2 at *
    obtain ⟨w3, hst, h3, ho3⟩ := store_all (P := Try.prog) 80 w1.heap.size _ (opsV b0 b1 b2 b3 b4) _ w2 hbx rfl (size14.trans rfl) (by unfold opsV; simp [Value.oneCell'])
    rw [hst]
    clear hst hbx
    have N3 := Lib.hid (new_only N2.out ho3 (Nat.le_refl _))
    have OA3 := Lib.hid (OA.out.new N3.out)
    have hc : w3.cell? ⟨w1.heap.size, 1, none⟩ = some (.func (.func 54) #[] #[]) := cell_of_heap h3 rfl
    clear h3 ho3
    go_wp2_with (go_at_call 54; refine (op2_c _ _ _ _ ha hb).mono ?_; rintro e w4 ⟨rfl, hb4⟩; have N4 := Lib.hid hb4; clear hb4)
    go_ret3
    exact ⟨rfl, N1.out.trans ((N3.out.trans (N4.out.mono N3.out.size)).mono N1.out.size)⟩
set_option maxRecDepth 100000 in
set_option maxHeartbeats 1000000 in
theorem alu_5 (a b k : Int) (w : World) (ha : 0 ≤ a ∧ a < 4294967296) (hb : 0 ≤ b ∧ b < 4294967296) (z : Bool) (e0 : (b == 0) = z) :
    Calls Try.prog 10 #[.int .i64 5, .int .u32 a, .int .u32 b, .int .i64 k] w (AluPost (aluT 5 a b k) w) := by
  have hm := and1_i64 k
  cases z
  all_goals
    go_enter Try.func10, Try.ntmps10
    go_wp2_with (go_at_call 34; refine (operations_c _).mono ?_; rintro e w1 ⟨b0, b1, b2, b3, b4, rfl, hb1, hoa⟩; have N1 := Lib.hid hb1; have OA := Lib.hid hoa; clear hb1 hoa)
    have hbx := heap_alloc_at w1 (.cells #[.nilFunc, .nilFunc, .nilFunc, .nilFunc, .nilFunc, .nilFunc, .nilFunc, .nilFunc, .nilFunc, .nilFunc, .nilFunc, .nilFunc, .nilFunc, .nilFunc] 80) _ rfl
    have N2 := Lib.hid ((New.refl w1).alloc (Nat.le_refl _) (.cells #[.nilFunc, .nilFunc, .nilFunc, .nilFunc, .nilFunc, .nilFunc, .nilFunc, .nilFunc, .nilFunc, .nilFunc, .nilFunc, .nilFunc, .nilFunc, .nilFunc] 80))
    have OA2 := Lib.hid (OA.out.new N2.out)
    generalize w1.alloc (.cells #[.nilFunc, .nilFunc, .nilFunc, .nilFunc, .nilFunc, .nilFunc, .nilFunc, .nilFunc, .nilFunc, .nilFunc, .nilFunc, .nilFunc, .nilFunc, .nilFunc] 80) = w2 at *
    obtain ⟨w3, hst, h3, ho3⟩ := store_all (P := Try.prog) 80 w1.heap.size _ (opsV b0 b1 b2 b3 b4) _ w2 hbx rfl (size14.trans rfl) (by unfold opsV; simp [Value.oneCell'])
    rw [hst]
    clear hst hbx
    have N3 := Lib.hid (new_only N2.out ho3 (Nat.le_refl _))
    have OA3 := Lib.hid (OA.out.new N3.out)
    have hc : w3.cell? ⟨w1.heap.size, 2, none⟩ = some (.func (.func 55) #[] #[]) := cell_of_heap h3 rfl
    clear h3 ho3
    go_wp2_with (go_at_call 55; refine (op3_c _ _ _ _).mono ?_; rintro e w4 ⟨rfl, hb4⟩; have N4 := Lib.hid hb4; clear hb4)
    go_ret3
    exact ⟨rfl, N1.out.trans ((N3.out.trans (N4.out.mono N3.out.size)).mono N1.out.size)⟩
set_option maxRecDepth 100000 in
set_option maxHeartbeats 1000000 in
theorem alu_6 (a b k : Int) (w : World) (ha : 0 ≤ a ∧ a < 4294967296) (hb : 0 ≤ b ∧ b < 4294967296) (z : Bool) (e0 : (b == 0) = z) :
    Calls Try.prog 10 #[.int .i64 6, .int .u32 a, .int .u32 b, .int .i64 k] w (AluPost (aluT 6 a b k) w) := by
  have hm := and1_i64 k
  cases z
  all_goals
    go_enter Try.func10, Try.ntmps10
    go_wp2_with (go_at_call 34; refine (operations_c _).mono ?_; rintro e w1 ⟨b0, b1, b2, b3, b4, rfl, hb1, hoa⟩; have N1 := Lib.hid hb1; have OA := Lib.hid hoa; clear hb1 hoa)
    have hbx := heap_alloc_at w1 (.cells #[.nilFunc, .nilFunc, .nilFunc, .nilFunc, .nilFunc, .nilFunc, .nilFunc, .nilFunc, .nilFunc, .nilFunc, .nilFunc, .nilFunc, .nilFunc, .nilFunc] 80) _ rfl
    have N2 := Lib.hid ((New.refl w1).alloc (Nat.le_refl _) (.cells #[.nilFunc, .nilFunc, .nilFunc, .nilFunc, .nilFunc, .nilFunc, .nilFunc, .nilFunc, .nilFunc, .nilFunc, .nilFunc, .nilFunc, .nilFunc, .nilFunc] 80))
    have OA2 := Lib.hid (OA.out.new N2.out)
    generalize w1.alloc (.cells #[.nilFunc, .nilFunc, .nilFunc, .nilFunc, .nilFunc, .nilFunc, .nilFunc, .nilFunc, .nilFunc, .nilFunc, .nilFunc, .nilFunc, .nilFunc, .nilFunc] 80) = w2 at *
    obtain ⟨w3, hst, h3, ho3⟩ := store_all (P := Try.prog) 80 w1.heap.size _ (opsV b0 b1 b2 b3 b4) _ w2 hbx rfl (size14.trans rfl) (by unfold opsV; simp [Value.oneCell'])
    rw [hst]
    clear hst hbx
    have N3 := Lib.hid (new_only N2.out ho3 (Nat.le_refl _))
    have OA3 := Lib.hid (OA.out.new N3.out)
    have hc : w3.cell? ⟨w1.heap.size, 3, none⟩ = some (.func (.func 57) #[] #[]) := cell_of_heap h3 rfl
    clear h3 ho3
    go_wp2_with (go_at_call 57; refine (op4_c _ _ _ _).mono ?_; rintro e w4 ⟨rfl, hb4⟩; have N4 := Lib.hid hb4; clear hb4)
    go_ret3
    exact ⟨rfl, N1.out.trans ((N3.out.trans (N4.out.mono N3.out.size)).mono N1.out.size)⟩
set_option maxRecDepth 100000 in
set_option maxHeartbeats 1000000 in
theorem alu_7 (a b k : Int) (w : World) (ha : 0 ≤ a ∧ a < 4294967296) (hb : 0 ≤ b ∧ b < 4294967296) (z : Bool) (e0 : (b == 0) = z) :
    Calls Try.prog 10 #[.int .i64 7, .int .u32 a, .int .u32 b, .int .i64 k] w (AluPost (aluT 7 a b k) w) := by
  have hm := and1_i64 k
  cases z
  all_goals
    go_enter Try.func10, Try.ntmps10
    go_wp2_with (go_at_call 34; refine (operations_c _).mono ?_; rintro e w1 ⟨b0, b1, b2, b3, b4, rfl, hb1, hoa⟩; have N1 := Lib.hid hb1; have OA := Lib.hid hoa; clear hb1 hoa)
    have hbx := heap_alloc_at w1 (.cells #[.nilFunc, .nilFunc, .nilFunc, .nilFunc, .nilFunc, .nilFunc, .nilFunc, .nilFunc, .nilFunc, .nilFunc, .nilFunc, .nilFunc, .nilFunc, .nilFunc] 80) _ rfl
    have N2 := Lib.hid ((New.refl w1).alloc (Nat.le_refl _) (.cells #[.nilFunc, .nilFunc, .nilFunc, .nilFunc, .nilFunc, .nilFunc, .nilFunc, .nilFunc, .nilFunc, .nilFunc, .nilFunc, .nilFunc, .nilFunc, .nilFunc] 80))
    have OA2 := Lib.hid (OA.out.new N2.out)
    generalize w1.alloc (.cells #[.nilFunc, .nilFunc, .nilFunc, .nilFunc, .nilFunc, .nilFunc, .nilFunc, .nilFunc, .nilFunc, .nilFunc, .nilFunc, .nilFunc, .nilFunc, .nilFunc] 80) = w2 at *
    obtain ⟨w3, hst, h3, ho3⟩ := store_all (P := Try.prog) 80 w1.heap.size _ (opsV b0 b1 b2 b3 b4) _ w2 hbx rfl (size14.trans rfl) (by unfold opsV; simp [Value.oneCell'])
    rw [hst]
    clear hst hbx
    have N3 := Lib.hid (new_only N2.out ho3 (Nat.le_refl _))
    have OA3 := Lib.hid (OA.out.new N3.out)
    have hc : w3.cell? ⟨w1.heap.size, 4, none⟩ = some (.func (.func 58) #[] #[]) := cell_of_heap h3 rfl
    clear h3 ho3
    go_wp2_with (go_at_call 58; refine (op5_c _ _ _ _).mono ?_; rintro e w4 ⟨rfl, hb4⟩; have N4 := Lib.hid hb4; clear hb4)
    go_ret3
    exact ⟨rfl, N1.out.trans ((N3.out.trans (N4.out.mono N3.out.size)).mono N1.out.size)⟩
set_option maxRecDepth 100000 in
set_option maxHeartbeats 1000000 in
theorem alu_8 (a b k : Int) (w : World) (ha : 0 ≤ a ∧ a < 4294967296) (hb : 0 ≤ b ∧ b < 4294967296) (z : Bool) (e0 : (b == 0) = z) :
    Calls Try.prog 10 #[.int .i64 8, .int .u32 a, .int .u32 b, .int .i64 k] w (AluPost (aluT 8 a b k) w) := by
  have hm := and1_i64 k
  cases z
  all_goals
    go_enter Try.func10, Try.ntmps10
    go_wp2_with (go_at_call 34; refine (operations_c _).mono ?_; rintro e w1 ⟨b0, b1, b2, b3, b4, rfl, hb1, hoa⟩; have N1 := Lib.hid hb1; have OA := Lib.hid hoa; clear hb1 hoa)
    have hbx := heap_alloc_at w1 (.cells #[.nilFunc, .nilFunc, .nilFunc, .nilFunc, .nilFunc, .nilFunc, .nilFunc, .nilFunc, .nilFunc, .nilFunc, .nilFunc, .nilFunc, .nilFunc, .nilFunc] 80) _ rfl
    have N2 := Lib.hid ((New.refl w1).alloc (Nat.le_refl _) (.cells #[.nilFunc, .nilFunc, .nilFunc, .nilFunc, .nilFunc, .nilFunc, .nilFunc, .nilFunc, .nilFunc, .nilFunc, .nilFunc, .nilFunc, .nilFunc, .nilFunc] 80))
    have OA2 := Lib.hid (OA.out.new N2.out)
    generalize w1.alloc (.cells #[.nilFunc, .nilFunc, .nilFunc, .nilFunc, .nilFunc, .nilFunc, .nilFunc, .nilFunc, .nilFunc, .nilFunc, .nilFunc, .nilFunc, .nilFunc, .nilFunc] 80) = w2 at *
    obtain ⟨w3, hst, h3, ho3⟩ := store_all (P := Try.prog) 80 w1.heap.size _ (opsV b0 b1 b2 b3 b4) _ w2 hbx rfl (size14.trans rfl) (by unfold opsV; simp [Value.oneCell'])
    rw [hst]
    clear hst hbx
    have N3 := Lib.hid (new_only N2.out ho3 (Nat.le_refl _))
    have OA3 := Lib.hid (OA.out.new N3.out)
    have hc : w3.cell? ⟨w1.heap.size, 5, none⟩ = some (.func (.func 59) #[] #[]) := cell_of_heap h3 rfl
    clear h3 ho3
    go_wp2_with (go_at_call 59; refine (op6_c _ _ _ _ ha hb).mono ?_; rintro e w4 ⟨rfl, hb4⟩; have N4 := Lib.hid hb4; clear hb4)
    go_ret3
    exact ⟨rfl, N1.out.trans ((N3.out.trans (N4.out.mono N3.out.size)).mono N1.out.size)⟩
set_option maxRecDepth 100000 in
set_option maxHeartbeats 1000000 in
theorem alu_9 (a b k : Int) (w : World) (ha : 0 ≤ a ∧ a < 4294967296) (hb : 0 ≤ b ∧ b < 4294967296) (z : Bool) (e0 : (b == 0) = z) :
    Calls Try.prog 10 #[.int .i64 9, .int .u32 a, .int .u32 b, .int .i64 k] w (AluPost (aluT 9 a b k) w) := by
  have hm := and1_i64 k
  cases z
  all_goals
    go_enter Try.func10, Try.ntmps10
    go_wp2_with (go_at_call 34; refine (operations_c _).mono ?_; rintro e w1 ⟨b0, b1, b2, b3, b4, rfl, hb1, hoa⟩; have N1 := Lib.hid hb1; have OA := Lib.hid hoa; clear hb1 hoa)
    have hbx := heap_alloc_at w1 (.cells #[.nilFunc, .nilFunc, .nilFunc, .nilFunc, .nilFunc, .nilFunc, .nilFunc, .nilFunc, .nilFunc, .nilFunc, .nilFunc, .nilFunc, .nilFunc, .nilFunc] 80) _ rfl
    have N2 := Lib.hid ((New.refl w1).alloc (Nat.le_refl _) (.cells #[.nilFunc, .nilFunc, .nilFunc, .nilFunc, .nilFunc, .nilFunc, .nilFunc, .nilFunc, .nilFunc, .nilFunc, .nilFunc, .nilFunc, .nilFunc, .nilFunc] 80))
    have OA2 := Lib.hid (OA.out.new N2.out)
    generalize w1.alloc (.cells #[.nilFunc, .nilFunc, .nilFunc, .nilFunc, .nilFunc, .nilFunc, .nilFunc, .nilFunc, .nilFunc, .nilFunc, .nilFunc, .nilFunc, .nilFunc, .nilFunc] 80) = w2 at *
    obtain ⟨w3, hst, h3, ho3⟩ := store_all (P := Try.prog) 80 w1.heap.size _ (opsV b0 b1 b2 b3 b4) _ w2 hbx rfl (size14.trans rfl) (by unfold opsV; simp [Value.oneCell'])
    rw [hst]
    clear hst hbx
    have N3 := Lib.hid (new_only N2.out ho3 (Nat.le_refl _))
    have OA3 := Lib.hid (OA.out.new N3.out)
    have hc : w3.cell? ⟨w1.heap.size, 6, none⟩ = some (.func (.func 61) #[] #[]) := cell_of_heap h3 rfl
    clear h3 ho3
    go_wp2_with (go_at_call 61; refine (op7_c _ _ _ _ ha hb).mono ?_; rintro e w4 ⟨rfl, hb4⟩; have N4 := Lib.hid hb4; clear hb4)
    go_ret3
    exact ⟨rfl, N1.out.trans ((N3.out.trans (N4.out.mono N3.out.size)).mono N1.out.size)⟩
set_option maxRecDepth 100000 in
set_option maxHeartbeats 1000000 in
theorem alu_10 (a b k : Int) (w : World) (ha : 0 ≤ a ∧ a < 4294967296) (hb : 0 ≤ b ∧ b < 4294967296) (z : Bool) (e0 : (b == 0) = z) :
    Calls Try.prog 10 #[.int .i64 10, .int .u32 a, .int .u32 b, .int .i64 k] w (AluPost (aluT 10 a b k) w) := by
  have hm := and1_i64 k
  cases z
  all_goals
    go_enter Try.func10, Try.ntmps10
    go_wp2_with (go_at_call 34; refine (operations_c _).mono ?_; rintro e w1 ⟨b0, b1, b2, b3, b4, rfl, hb1, hoa⟩; have N1 := Lib.hid hb1; have OA := Lib.hid hoa; clear hb1 hoa)
    have hbx := heap_alloc_at w1 (.cells #[.nilFunc, .nilFunc, .nilFunc, .nilFunc, .nilFunc, .nilFunc, .nilFunc, .nilFunc, .nilFunc, .nilFunc, .nilFunc, .nilFunc, .nilFunc, .nilFunc] 80) _ rfl
    have N2 := Lib.hid ((New.refl w1).alloc (Nat.le_refl _) (.cells #[.nilFunc, .nilFunc, .nilFunc, .nilFunc, .nilFunc, .nilFunc, .nilFunc, .nilFunc, .nilFunc, .nilFunc, .nilFunc, .nilFunc, .nilFunc, .nilFunc] 80))
    have OA2 := Lib.hid (OA.out.new N2.out)
    generalize w1.alloc (.cells #[.nilFunc, .nilFunc, .nilFunc, .nilFunc, .nilFunc, .nilFunc, .nilFunc, .nilFunc, .nilFunc, .nilFunc, .nilFunc, .nilFunc, .nilFunc, .nilFunc] 80) = w2 at *
    obtain ⟨w3, hst, h3, ho3⟩ := store_all (P := Try.prog) 80 w1.heap.size _ (opsV b0 b1 b2 b3 b4) _ w2 hbx rfl (size14.trans rfl) (by unfold opsV; simp [Value.oneCell'])
    rw [hst]
    clear hst hbx
    have N3 := Lib.hid (new_only N2.out ho3 (Nat.le_refl _))
    have OA3 := Lib.hid (OA.out.new N3.out)
    have hc : w3.cell? ⟨w1.heap.size, 7, none⟩ = some (.func (.func 62) #[] #[]) := cell_of_heap h3 rfl
    clear h3 ho3
    go_wp2_with (go_at_call 62; refine (op8_c _ _ _ _ ha hb).mono ?_; rintro e w4 ⟨rfl, hb4⟩; have N4 := Lib.hid hb4; clear hb4)
    go_ret3
    exact ⟨rfl, N1.out.trans ((N3.out.trans (N4.out.mono N3.out.size)).mono N1.out.size)⟩
set_option maxRecDepth 100000 in
set_option maxHeartbeats 1000000 in
theorem alu_11 (a b k : Int) (w : World) (ha : 0 ≤ a ∧ a < 4294967296) (hb : 0 ≤ b ∧ b < 4294967296) (z : Bool) (e0 : (b == 0) = z) :
    Calls Try.prog 10 #[.int .i64 11, .int .u32 a, .int .u32 b, .int .i64 k] w (AluPost (aluT 11 a b k) w) := by
  have hm := and1_i64 k
  cases z
  all_goals
    go_enter Try.func10, Try.ntmps10
    go_wp2_with (go_at_call 34; refine (operations_c _).mono ?_; rintro e w1 ⟨b0, b1, b2, b3, b4, rfl, hb1, hoa⟩; have N1 := Lib.hid hb1; have OA := Lib.hid hoa; clear hb1 hoa)
    have hbx := heap_alloc_at w1 (.cells #[.nilFunc, .nilFunc, .nilFunc, .nilFunc, .nilFunc, .nilFunc, .nilFunc, .nilFunc, .nilFunc, .nilFunc, .nilFunc, .nilFunc, .nilFunc, .nilFunc] 80) _ rfl
    have N2 := Lib.hid ((New.refl w1).alloc (Nat.le_refl _) (.cells #[.nilFunc, .nilFunc, .nilFunc, .nilFunc, .nilFunc, .nilFunc, .nilFunc, .nilFunc, .nilFunc, .nilFunc, .nilFunc, .nilFunc, .nilFunc, .nilFunc] 80))
    have OA2 := Lib.hid (OA.out.new N2.out)
    generalize w1.alloc (.cells #[.nilFunc, .nilFunc, .nilFunc, .nilFunc, .nilFunc, .nilFunc, .nilFunc, .nilFunc, .nilFunc, .nilFunc, .nilFunc, .nilFunc, .nilFunc, .nilFunc] 80) = w2 at *
    obtain ⟨w3, hst, h3, ho3⟩ := store_all (P := Try.prog) 80 w1.heap.size _ (opsV b0 b1 b2 b3 b4) _ w2 hbx rfl (size14.trans rfl) (by unfold opsV; simp [Value.oneCell'])
    rw [hst]
    clear hst hbx
    have N3 := Lib.hid (new_only N2.out ho3 (Nat.le_refl _))
    have OA3 := Lib.hid (OA.out.new N3.out)
    have hc : w3.cell? ⟨w1.heap.size, 8, none⟩ = some (.func (.func 83) #[] #[.pointer (some ⟨b0, 0, none⟩)]) := cell_of_heap h3 rfl
    clear h3 ho3
    go_wp2_with (go_at_call 83; refine (plain1m_c _ _ _ _ _ OA3.out.c0).mono ?_; rintro e w4 ⟨rfl, hb4⟩; have N4 := Lib.hid hb4; clear hb4)
    go_ret3
    exact ⟨rfl, N1.out.trans ((N3.out.trans (N4.out.mono N3.out.size)).mono N1.out.size)⟩
set_option maxRecDepth 100000 in
set_option maxHeartbeats 1000000 in
theorem alu_12 (a b k : Int) (w : World) (ha : 0 ≤ a ∧ a < 4294967296) (hb : 0 ≤ b ∧ b < 4294967296) (z : Bool) (e0 : (b == 0) = z) :
    Calls Try.prog 10 #[.int .i64 12, .int .u32 a, .int .u32 b, .int .i64 k] w (AluPost (aluT 12 a b k) w) := by
  have hm := and1_i64 k
  cases z
  all_goals
    go_enter Try.func10, Try.ntmps10
    go_wp2_with (go_at_call 34; refine (operations_c _).mono ?_; rintro e w1 ⟨b0, b1, b2, b3, b4, rfl, hb1, hoa⟩; have N1 := Lib.hid hb1; have OA := Lib.hid hoa; clear hb1 hoa)
    have hbx := heap_alloc_at w1 (.cells #[.nilFunc, .nilFunc, .nilFunc, .nilFunc, .nilFunc, .nilFunc, .nilFunc, .nilFunc, .nilFunc, .nilFunc, .nilFunc, .nilFunc, .nilFunc, .nilFunc] 80) _ rfl
    have N2 := Lib.hid ((New.refl w1).alloc (Nat.le_refl _) (.cells #[.nilFunc, .nilFunc, .nilFunc, .nilFunc, .nilFunc, .nilFunc, .nilFunc, .nilFunc, .nilFunc, .nilFunc, .nilFunc, .nilFunc, .nilFunc, .nilFunc] 80))
    have OA2 := Lib.hid (OA.out.new N2.out)
    generalize w1.alloc (.cells #[.nilFunc, .nilFunc, .nilFunc, .nilFunc, .nilFunc, .nilFunc, .nilFunc, .nilFunc, .nilFunc, .nilFunc, .nilFunc, .nilFunc, .nilFunc, .nilFunc] 80) = w2 at *
    obtain ⟨w3, hst, h3, ho3⟩ := store_all (P := Try.prog) 80 w1.heap.size _ (opsV b0 b1 b2 b3 b4) _ w2 hbx rfl (size14.trans rfl) (by unfold opsV; simp [Value.oneCell'])
    rw [hst]
    clear hst hbx
    have N3 := Lib.hid (new_only N2.out ho3 (Nat.le_refl _))
    have OA3 := Lib.hid (OA.out.new N3.out)
    have hc : w3.cell? ⟨w1.heap.size, 9, none⟩ = some (.func (.func 83) #[] #[.pointer (some ⟨b1, 0, none⟩)]) := cell_of_heap h3 rfl
    clear h3 ho3
    go_wp2_with (go_at_call 83; refine (plain1mh_c _ _ _ _ _ OA3.out.c1 ha hb).mono ?_; rintro e w4 ⟨rfl, hb4⟩; have N4 := Lib.hid hb4; clear hb4)
    go_ret3
    exact ⟨rfl, N1.out.trans ((N3.out.trans (N4.out.mono N3.out.size)).mono N1.out.size)⟩
set_option maxRecDepth 100000 in
set_option maxHeartbeats 1000000 in
theorem alu_13 (a b k : Int) (w : World) (ha : 0 ≤ a ∧ a < 4294967296) (hb : 0 ≤ b ∧ b < 4294967296) (hz : b ≠ 0) :
    Calls Try.prog 10 #[.int .i64 13, .int .u32 a, .int .u32 b, .int .i64 k] w (AluPost (aluT 13 a b k) w) := by
  have hm := and1_i64 k
  have e0 : (b == 0) = false := by simp [hz]
  rw [show aluT 13 a b k = (a / b, 0, true) from by unfold aluT; simp [hz]]
  go_enter Try.func10, Try.ntmps10
  go_wp2_with (go_at_call 34; refine (operations_c _).mono ?_; rintro e w1 ⟨b0, b1, b2, b3, b4, rfl, hb1, hoa⟩; have N1 := Lib.hid hb1; have OA := Lib.hid hoa; clear hb1 hoa)
  have hbx := heap_alloc_at w1 (.cells #[.nilFunc, .nilFunc, .nilFunc, .nilFunc, .nilFunc, .nilFunc, .nilFunc, .nilFunc, .nilFunc, .nilFunc, .nilFunc, .nilFunc, .nilFunc, .nilFunc] 80) _ rfl
  have N2 := Lib.hid ((New.refl w1).alloc (Nat.le_refl _) (.cells #[.nilFunc, .nilFunc, .nilFunc, .nilFunc, .nilFunc, .nilFunc, .nilFunc, .nilFunc, .nilFunc, .nilFunc, .nilFunc, .nilFunc, .nilFunc, .nilFunc] 80))
  have OA2 := Lib.hid (OA.out.new N2.out)
  generalize w1.alloc (.cells #[.nilFunc, .nilFunc, .nilFunc, .nilFunc, .nilFunc, .nilFunc, .nilFunc, .nilFunc, .nilFunc, .nilFunc, .nilFunc, .nilFunc, .nilFunc, .nilFunc] 80) = w2 at *
  obtain ⟨w3, hst, h3, ho3⟩ := store_all (P := Try.prog) 80 w1.heap.size _ (opsV b0 b1 b2 b3 b4) _ w2 hbx rfl (size14.trans rfl) (by unfold opsV; simp [Value.oneCell'])
  rw [hst]
  clear hst hbx
  have N3 := Lib.hid (new_only N2.out ho3 (Nat.le_refl _))
  have OA3 := Lib.hid (OA.out.new N3.out)
  have hc : w3.cell? ⟨w1.heap.size, 10, none⟩ = some (.func (.func 83) #[] #[.pointer (some ⟨b2, 0, none⟩)]) := cell_of_heap h3 rfl
  clear h3 ho3
  go_wp2_with (go_at_call 83; refine (plain1d_c _ _ _ _ _ OA3.out.c2 ha ⟨by omega, hb.2⟩).mono ?_; rintro e w4 ⟨rfl, hb4⟩; have N4 := Lib.hid hb4; clear hb4)
  go_ret3
  exact ⟨rfl, N1.out.trans ((N3.out.trans (N4.out.mono N3.out.size)).mono N1.out.size)⟩
set_option maxRecDepth 100000 in
set_option maxHeartbeats 1000000 in
theorem alu_14 (a b k : Int) (w : World) (ha : 0 ≤ a ∧ a < 4294967296) (hb : 0 ≤ b ∧ b < 4294967296) (hz : b ≠ 0) :
    Calls Try.prog 10 #[.int .i64 14, .int .u32 a, .int .u32 b, .int .i64 k] w (AluPost (aluT 14 a b k) w) := by
  have hm := and1_i64 k
  have e0 : (b == 0) = false := by simp [hz]
  rw [show aluT 14 a b k = (a % b, 0, true) from by unfold aluT; simp [hz]]
  go_enter Try.func10, Try.ntmps10
  go_wp2_with (go_at_call 34; refine (operations_c _).mono ?_; rintro e w1 ⟨b0, b1, b2, b3, b4, rfl, hb1, hoa⟩; have N1 := Lib.hid hb1; have OA := Lib.hid hoa; clear hb1 hoa)
  have hbx := heap_alloc_at w1 (.cells #[.nilFunc, .nilFunc, .nilFunc, .nilFunc, .nilFunc, .nilFunc, .nilFunc, .nilFunc, .nilFunc, .nilFunc, .nilFunc, .nilFunc, .nilFunc, .nilFunc] 80) _ rfl
  have N2 := Lib.hid ((New.refl w1).alloc (Nat.le_refl _) (.cells #[.nilFunc, .nilFunc, .nilFunc, .nilFunc, .nilFunc, .nilFunc, .nilFunc, .nilFunc, .nilFunc, .nilFunc, .nilFunc, .nilFunc, .nilFunc, .nilFunc] 80))
  have OA2 := Lib.hid (OA.out.new N2.out)
  generalize w1.alloc (.cells #[.nilFunc, .nilFunc, .nilFunc, .nilFunc, .nilFunc, .nilFunc, .nilFunc, .nilFunc, .nilFunc, .nilFunc, .nilFunc, .nilFunc, .nilFunc, .nilFunc] 80) = w2 at *
  obtain ⟨w3, hst, h3, ho3⟩ := store_all (P := Try.prog) 80 w1.heap.size _ (opsV b0 b1 b2 b3 b4) _ w2 hbx rfl (size14.trans rfl) (by unfold opsV; simp [Value.oneCell'])
  rw [hst]
  clear hst hbx
  have N3 := Lib.hid (new_only N2.out ho3 (Nat.le_refl _))
  have OA3 := Lib.hid (OA.out.new N3.out)
  have hc : w3.cell? ⟨w1.heap.size, 11, none⟩ = some (.func (.func 83) #[] #[.pointer (some ⟨b3, 0, none⟩)]) := cell_of_heap h3 rfl
  clear h3 ho3
  go_wp2_with (go_at_call 83; refine (plain1r_c _ _ _ _ _ OA3.out.c3 ha ⟨by omega, hb.2⟩).mono ?_; rintro e w4 ⟨rfl, hb4⟩; have N4 := Lib.hid hb4; clear hb4)
  go_ret3
  exact ⟨rfl, N1.out.trans ((N3.out.trans (N4.out.mono N3.out.size)).mono N1.out.size)⟩
set_option maxRecDepth 100000 in
set_option maxHeartbeats 1000000 in
theorem alu_15 (a b k : Int) (w : World) (ha : 0 ≤ a ∧ a < 4294967296) (hb : 0 ≤ b ∧ b < 4294967296) (hz : b ≠ 0) :
    Calls Try.prog 10 #[.int .i64 15, .int .u32 a, .int .u32 b, .int .i64 k] w (AluPost (aluT 15 a b k) w) := by
  have hm := and1_i64 k
  have e0 : (b == 0) = false := by simp [hz]
  rw [show aluT 15 a b k = (divS a b, 0, true) from by unfold aluT; simp [hz]]
  go_enter Try.func10, Try.ntmps10
  go_wp2_with (go_at_call 34; refine (operations_c _).mono ?_; rintro e w1 ⟨b0, b1, b2, b3, b4, rfl, hb1, hoa⟩; have N1 := Lib.hid hb1; have OA := Lib.hid hoa; clear hb1 hoa)
  have hbx := heap_alloc_at w1 (.cells #[.nilFunc, .nilFunc, .nilFunc, .nilFunc, .nilFunc, .nilFunc, .nilFunc, .nilFunc, .nilFunc, .nilFunc, .nilFunc, .nilFunc, .nilFunc, .nilFunc] 80) _ rfl
  have N2 := Lib.hid ((New.refl w1).alloc (Nat.le_refl _) (.cells #[.nilFunc, .nilFunc, .nilFunc, .nilFunc, .nilFunc, .nilFunc, .nilFunc, .nilFunc, .nilFunc, .nilFunc, .nilFunc, .nilFunc, .nilFunc, .nilFunc] 80))
  have OA2 := Lib.hid (OA.out.new N2.out)
  generalize w1.alloc (.cells #[.nilFunc, .nilFunc, .nilFunc, .nilFunc, .nilFunc, .nilFunc, .nilFunc, .nilFunc, .nilFunc, .nilFunc, .nilFunc, .nilFunc, .nilFunc, .nilFunc] 80) = w2 at *
  obtain ⟨w3, hst, h3, ho3⟩ := store_all (P := Try.prog) 80 w1.heap.size _ (opsV b0 b1 b2 b3 b4) _ w2 hbx rfl (size14.trans rfl) (by unfold opsV; simp [Value.oneCell'])
  rw [hst]
  clear hst hbx
  have N3 := Lib.hid (new_only N2.out ho3 (Nat.le_refl _))
  have OA3 := Lib.hid (OA.out.new N3.out)
  have hc : w3.cell? ⟨w1.heap.size, 12, none⟩ = some (.func (.func 83) #[] #[.pointer (some ⟨b4, 0, none⟩)]) := cell_of_heap h3 rfl
  clear h3 ho3
  go_wp2_with (go_at_call 83; refine (plain1q_c _ _ _ _ _ OA3.out.c4 ha ⟨by omega, hb.2⟩).mono ?_; rintro e w4 ⟨rfl, hb4⟩; have N4 := Lib.hid hb4; clear hb4)
  go_ret3
  exact ⟨rfl, N1.out.trans ((N3.out.trans (N4.out.mono N3.out.size)).mono N1.out.size)⟩
set_option maxRecDepth 100000 in
set_option maxHeartbeats 1000000 in
theorem alu_16 (a b k : Int) (w : World) (ha : 0 ≤ a ∧ a < 4294967296) (hb : 0 ≤ b ∧ b < 4294967296) (z : Bool) (e0 : (b == 0) = z) :
    Calls Try.prog 10 #[.int .i64 16, .int .u32 a, .int .u32 b, .int .i64 k] w (AluPost (aluT 16 a b k) w) := by
  have hm := and1_i64 k
  cases z
  all_goals
    go_enter Try.func10, Try.ntmps10
    go_wp2_with (go_at_call 34; refine (operations_c _).mono ?_; rintro e w1 ⟨b0, b1, b2, b3, b4, rfl, hb1, hoa⟩; have N1 := Lib.hid hb1; have OA := Lib.hid hoa; clear hb1 hoa)
    have hbx := heap_alloc_at w1 (.cells #[.nilFunc, .nilFunc, .nilFunc, .nilFunc, .nilFunc, .nilFunc, .nilFunc, .nilFunc, .nilFunc, .nilFunc, .nilFunc, .nilFunc, .nilFunc, .nilFunc] 80) _ rfl
    have N2 := Lib.hid ((New.refl w1).alloc (Nat.le_refl _) (.cells #[.nilFunc, .nilFunc, .nilFunc, .nilFunc, .nilFunc, .nilFunc, .nilFunc, .nilFunc, .nilFunc, .nilFunc, .nilFunc, .nilFunc, .nilFunc, .nilFunc] 80))
    have OA2 := Lib.hid (OA.out.new N2.out)
    generalize w1.alloc (.cells #[.nilFunc, .nilFunc, .nilFunc, .nilFunc, .nilFunc, .nilFunc, .nilFunc, .nilFunc, .nilFunc, .nilFunc, .nilFunc, .nilFunc, .nilFunc, .nilFunc] 80) = w2 at *
    obtain ⟨w3, hst, h3, ho3⟩ := store_all (P := Try.prog) 80 w1.heap.size _ (opsV b0 b1 b2 b3 b4) _ w2 hbx rfl (size14.trans rfl) (by unfold opsV; simp [Value.oneCell'])
    rw [hst]
    clear hst hbx
    have N3 := Lib.hid (new_only N2.out ho3 (Nat.le_refl _))
    have OA3 := Lib.hid (OA.out.new N3.out)
    have hc : w3.cell? ⟨w1.heap.size, 13, none⟩ = some (.func (.func 53) #[] #[]) := cell_of_heap h3 rfl
    clear h3 ho3
    go_wp2_with (go_at_call 53; refine (csum_c _ _ _ _ ha.1 ha.2 hb.1 hb.2 (by omega) (by omega)).mono ?_; rintro e w4 ⟨rfl, hb4⟩; have N4 := Lib.hid hb4; clear hb4)
    go_ret3
    exact ⟨rfl, N1.out.trans ((N3.out.trans (N4.out.mono N3.out.size)).mono N1.out.size)⟩
set_option maxRecDepth 100000 in
set_option maxHeartbeats 1000000 in
theorem alu_17 (a b k : Int) (w : World) (ha : 0 ≤ a ∧ a < 4294967296) (hb : 0 ≤ b ∧ b < 4294967296) (z : Bool) (e0 : (b == 0) = z) :
    Calls Try.prog 10 #[.int .i64 17, .int .u32 a, .int .u32 b, .int .i64 k] w (AluPost (aluT 17 a b k) w) := by
  have hm := and1_i64 k
  cases z
  all_goals
    go_enter Try.func10, Try.ntmps10
    go_wp2_with (go_at_call 33; refine (cdif_c _ _ _ _ ha.1 ha.2 hb.1 hb.2 (by omega) (by omega)).mono ?_; rintro e w1 ⟨rfl, hb1⟩; have N1 := Lib.hid hb1; clear hb1)
    go_ret3
    exact ⟨rfl, N1.out⟩
set_option maxRecDepth 100000 in
set_option maxHeartbeats 1000000 in
theorem alu_div0 (op a k : Int) (w : World) (h : op = 13 ∨ op = 14 ∨ op = 15) :
    Calls Try.prog 10 #[.int .i64 op, .int .u32 a, .int .u32 0, .int .i64 k] w (AluPost (aluT op a 0 k) w) := by
  have hm := and1_i64 k
  rcases h with rfl | rfl | rfl
  all_goals
    go_enter Try.func10, Try.ntmps10
    go_wp2
    go_ret3
    exact ⟨rfl, New.refl _⟩
set_option maxRecDepth 100000 in
set_option maxHeartbeats 1000000 in
theorem alu_out (op a b k : Int) (w : World) (z : Bool) (e0 : (b == 0) = z) (h : op < 3 ∨ 17 < op) :
    Calls Try.prog 10 #[.int .i64 op, .int .u32 a, .int .u32 b, .int .i64 k] w (AluPost (aluT op a b k) w) := by
  have hm := and1_i64 k
  have ht : aluT op a b k = (0, 0, false) := by
    unfold aluT
    repeat rw [if_neg (by omega)]
    split
    · rfl
    · repeat rw [if_neg (by omega)]
  rw [ht]
  clear ht
  rcases h with h | h
  · cases z
    all_goals
      go_enter Try.func10, Try.ntmps10
      go_wp2
      go_ret3
      exact ⟨rfl, New.refl _⟩
  · have h' : ¬ op < 3 := by omega
    cases z
    all_goals
      go_enter Try.func10, Try.ntmps10
      go_wp2
      go_ret3
      exact ⟨rfl, New.refl _⟩
theorem alu_c (op a b k : Int) (w : World) (ha : 0 ≤ a ∧ a < 4294967296) (hb : 0 ≤ b ∧ b < 4294967296) :
    Calls Try.prog 10 #[.int .i64 op, .int .u32 a, .int .u32 b, .int .i64 k] w (AluPost (aluT op a b k) w) := by
  by_cases ho : op < 3 ∨ 17 < op
  · exact alu_out op a b k w _ rfl ho
  · have hc : op = 3 ∨ op = 4 ∨ op = 5 ∨ op = 6 ∨ op = 7 ∨ op = 8 ∨ op = 9 ∨ op = 10 ∨ op = 11 ∨ op = 12 ∨ op = 13 ∨ op = 14 ∨ op = 15 ∨ op = 16 ∨ op = 17 := by omega
    by_cases hz : b = 0
    · rcases hc with rfl | rfl | rfl | rfl | rfl | rfl | rfl | rfl | rfl | rfl | rfl | rfl | rfl | rfl | rfl
      · exact alu_3 a b k w ha hb _ rfl
      · exact alu_4 a b k w ha hb _ rfl
      · exact alu_5 a b k w ha hb _ rfl
      · exact alu_6 a b k w ha hb _ rfl
      · exact alu_7 a b k w ha hb _ rfl
      · exact alu_8 a b k w ha hb _ rfl
      · exact alu_9 a b k w ha hb _ rfl
      · exact alu_10 a b k w ha hb _ rfl
      · exact alu_11 a b k w ha hb _ rfl
      · exact alu_12 a b k w ha hb _ rfl
      · rw [hz]; exact alu_div0 13 a k w (by omega)
      · rw [hz]; exact alu_div0 14 a k w (by omega)
      · rw [hz]; exact alu_div0 15 a k w (by omega)
      · exact alu_16 a b k w ha hb _ rfl
      · exact alu_17 a b k w ha hb _ rfl
    · rcases hc with rfl | rfl | rfl | rfl | rfl | rfl | rfl | rfl | rfl | rfl | rfl | rfl | rfl | rfl | rfl
      · exact alu_3 a b k w ha hb _ rfl
      · exact alu_4 a b k w ha hb _ rfl
      · exact alu_5 a b k w ha hb _ rfl
      · exact alu_6 a b k w ha hb _ rfl
      · exact alu_7 a b k w ha hb _ rfl
      · exact alu_8 a b k w ha hb _ rfl
      · exact alu_9 a b k w ha hb _ rfl
      · exact alu_10 a b k w ha hb _ rfl
      · exact alu_11 a b k w ha hb _ rfl
      · exact alu_12 a b k w ha hb _ rfl
      · exact alu_13 a b k w ha hb hz
      · exact alu_14 a b k w ha hb hz
      · exact alu_15 a b k w ha hb hz
      · exact alu_16 a b k w ha hb _ rfl
      · exact alu_17 a b k w ha hb _ rfl
end Go.Proofs.Ytpooghnemlnopaa
