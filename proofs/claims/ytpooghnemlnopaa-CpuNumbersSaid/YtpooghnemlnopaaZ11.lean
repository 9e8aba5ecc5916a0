/- Parts of the proof: CRalu, CHolds, CNum3, KitIter, CLanes1. -/
import Derived.Test.YtpooghnemlnopaaZ10
import Derived.Test.YtpooghnemlnopaaRows
import Derived.Test.YtpooghnemlnopaaZ0
import Derived.Test.YtpooghnemlnopaaZ9
import Derived.RangeFuncNested
import Derived.RangeFuncBound
import Derived.RangeFuncCalls
import Derived.RangeFuncLeaves
import Derived.WalkKit
import Derived.OwnWalkIn
import Derived.TacticsInMore
import Derived.LoopNIn
import Derived.LoopIn
import Derived.Test.YtpooghnemlnopaaZ1
/- The contract of the specification's Alu. Written by genRalu.py. -/
namespace Go.Proofs.Ytpooghnemlnopaa
open Go Go.RowKit Go.Cd
set_option linter.unusedVariables false

theorem signed_c (a : Int) (w : World) (h : 0 ≤ a) (h' : a < 4294967296) : Calls Try.prog 40 #[.int .u32 a] w fun e w' => e = .returned (.int .i64 (sg a)) ∧ New w w' := by
  go_enter Try.func40, Try.ntmps40
  go_wp2
  go_ret
  refine ⟨ret_int ?_, New.refl _⟩
  rw [wrap_sg a h h']
  refine IntWalk.wrap64_in _ ?_
  unfold sg
  split <;> omega
def wideB (n : Int) : Bool := decide (n < -2147483648) || decide (2147483647 < n)
theorem wide_c (n : Int) (w : World) : Calls Try.prog 39 #[.int .i64 n] w fun e w' => e = .returned (.bool (wideB n)) ∧ New w w' := by
  by_cases h : n < -2147483648
  · go_enter Try.func39, Try.ntmps39
    go_wp2
    go_ret
    exact ⟨ret_bool (by unfold wideB; simp [h]), New.refl _⟩
  · go_enter Try.func39, Try.ntmps39
    go_wp2
    all_goals go_ret
    all_goals exact ⟨ret_bool (by unfold wideB; simp; omega), New.refl _⟩
set_option maxHeartbeats 1000000 in
theorem flagsOf_c (r : Int) (c v : Bool) (w : World) (h : 0 ≤ r) (h' : r < 4294967296) :
    Calls Try.prog 38 #[.int .u32 r, .bool c, .bool v] w fun e w' => e = .returned (.int .i64 (flagNum (r == 0) (r / 2147483648 == 1) c v)) ∧ New w w' := by
  have hsg : (r / 2147483648 == 1) = decide (sg r < 0) := by
    rw [Bool.eq_iff_iff, beq_iff_eq, decide_eq_true_iff]
    unfold sg
    split <;> omega
  obtain ⟨z, hz⟩ : ∃ z, (r == 0) = z := ⟨_, rfl⟩
  obtain ⟨n, hn⟩ : ∃ n, decide (sg r < 0) = n := ⟨_, rfl⟩
  rw [hsg, hz, hn]
  clear hsg
  cases z <;> cases n <;> cases c <;> cases v
  all_goals
    go_enter Try.func38, Try.ntmps38
    go_wp2_with (go_at_call 40; refine (signed_c _ _ h h').mono ?_; rintro e w1 ⟨rfl, hb1⟩)
    go_ret
    exact ⟨rfl, hb1⟩
theorem ret_alu {r r' f f' : Int} {b : Bool} (h : r = r') (h' : f = f') : Ending.returned (.tuple #[.int .u32 r, .int .i64 f, .bool b]) = Ending.returned (.tuple #[.int .u32 r', .int .i64 f', .bool b]) := by rw [h, h']
theorem wide_ne (n m : Int) (h : m = (n + 2147483648) % 4294967296 - 2147483648) : wideB n = decide (n ≠ m) := by
  unfold wideB
  rw [Bool.eq_iff_iff]
  simp
  omega
theorem sg_mod (n : Int) : sg (n % 4294967296) = (n + 2147483648) % 4294967296 - 2147483648 := by
  unfold sg
  split <;> omega
theorem sg_sum (a b c : Int) : (sg a + sg b + c + 2147483648) % 4294967296 = (a + b + c + 2147483648) % 4294967296 := by
  unfold sg
  repeat' split
  all_goals omega
theorem sg_dif (a b c : Int) : (sg a - sg b - c + 2147483648) % 4294967296 = (a - b - c + 2147483648) % 4294967296 := by
  unfold sg
  repeat' split
  all_goals omega
theorem wide_sum (a b c : Int) : wideB (sg a + sg b + c) = sumV a b c := by
  unfold sumV
  refine wide_ne _ _ ?_
  rw [sg_mod, sg_sum]
theorem wide_dif (a b c : Int) : wideB (sg a - sg b - c) = difV a b c := by
  unfold difV
  refine wide_ne _ _ ?_
  rw [sg_mod, sg_dif]
theorem sg_bd (a : Int) (h : 0 ≤ a ∧ a < 4294967296) : -2147483648 ≤ sg a ∧ sg a < 2147483648 := by
  unfold sg
  split <;> omega
theorem carry_le (a b c : Int) (ha : 0 ≤ a ∧ a < 4294967296) (hb : 0 ≤ b ∧ b < 4294967296) (hc : 0 ≤ c ∧ c ≤ 1) : decide (4294967296 ≤ a + b + c) = sumC a b c := by
  unfold sumC
  rw [Bool.eq_iff_iff, decide_eq_true_iff, beq_iff_eq]
  omega
theorem fl_sum (a b c : Int) (ha : 0 ≤ a ∧ a < 4294967296) (hb : 0 ≤ b ∧ b < 4294967296) (hc : 0 ≤ c ∧ c ≤ 1) :
    flagNum ((a + b + c) % 4294967296 == 0) ((a + b + c) % 4294967296 / 2147483648 == 1) (decide (4294967296 ≤ a + b + c)) (wideB (sg a + sg b + c)) = sumFl a b c := by
  rw [wide_sum, carry_le a b c ha hb hc]
  rfl
theorem fl_sum0 (a b : Int) (ha : 0 ≤ a ∧ a < 4294967296) (hb : 0 ≤ b ∧ b < 4294967296) :
    flagNum ((a + b) % 4294967296 == 0) ((a + b) % 4294967296 / 2147483648 == 1) (decide (4294967296 ≤ a + b)) (wideB (sg a + sg b)) = sumFl a b 0 := by
  have h := fl_sum a b 0 ha hb (by omega)
  simpa only [Int.add_zero] using h
theorem fl_dif (a b c : Int) : flagNum ((a - b - c) % 4294967296 == 0) ((a - b - c) % 4294967296 / 2147483648 == 1) (decide (a < b + c)) (wideB (sg a - sg b - c)) = difFl a b c := by
  rw [wide_dif]
  rfl
theorem fl_dif0 (a b : Int) : flagNum ((a - b) % 4294967296 == 0) ((a - b) % 4294967296 / 2147483648 == 1) (decide (a < b)) (wideB (sg a - sg b)) = difFl a b 0 := by
  have h := fl_dif a b 0
  simpa only [Int.add_zero, Int.sub_zero] using h
set_option maxRecDepth 100000 in
set_option maxHeartbeats 1000000 in
theorem ralu_3 (a b k : Int) (w : World) (ha : 0 ≤ a ∧ a < 4294967296) (hb : 0 ≤ b ∧ b < 4294967296) :
    Calls Try.prog 13 #[.int .i64 3, .int .u32 a, .int .u32 b, .int .i64 k] w (AluPost (aluT 3 a b k) w) := by
  have hm := and1_i64 k
  have HW := Lib.hid (New.refl w)
  have sa := sg_bd a ha
  have sb := sg_bd b hb
  go_enter Try.func13, Try.ntmps13
  go_wp2_with (first
    | (go_at_call 40; refine (signed_c _ _ (by omega) (by omega)).mono ?_; rintro e w1 ⟨rfl, hb⟩; have HW := Lib.hid (HW.out.trans (hb.mono HW.out.size)); clear hb)
    | (go_at_call 39; refine (wide_c _ _).mono ?_; rintro e w1 ⟨rfl, hb⟩; have HW := Lib.hid (HW.out.trans (hb.mono HW.out.size)); clear hb)
    | (go_at_call 38; refine (flagsOf_c _ _ _ _ (by omega) (by omega)).mono ?_; rintro e w1 ⟨rfl, hb⟩; have HW := Lib.hid (HW.out.trans (hb.mono HW.out.size)); clear hb))
  go_ret3
  refine ⟨ret_alu ?_ ?_, HW.out⟩
  · show _ = sumR a b 0
    unfold sumR
    rw [Int.add_zero]
  · exact fl_sum0 a b ha hb
set_option maxRecDepth 100000 in
set_option maxHeartbeats 1000000 in
theorem ralu_4 (a b k : Int) (w : World) (ha : 0 ≤ a ∧ a < 4294967296) (hb : 0 ≤ b ∧ b < 4294967296) :
    Calls Try.prog 13 #[.int .i64 4, .int .u32 a, .int .u32 b, .int .i64 k] w (AluPost (aluT 4 a b k) w) := by
  have hm := and1_i64 k
  have HW := Lib.hid (New.refl w)
  have sa := sg_bd a ha
  have sb := sg_bd b hb
  go_enter Try.func13, Try.ntmps13
  go_wp2_with (first
    | (go_at_call 40; refine (signed_c _ _ (by omega) (by omega)).mono ?_; rintro e w1 ⟨rfl, hb⟩; have HW := Lib.hid (HW.out.trans (hb.mono HW.out.size)); clear hb)
    | (go_at_call 39; refine (wide_c _ _).mono ?_; rintro e w1 ⟨rfl, hb⟩; have HW := Lib.hid (HW.out.trans (hb.mono HW.out.size)); clear hb)
    | (go_at_call 38; refine (flagsOf_c _ _ _ _ (by omega) (by omega)).mono ?_; rintro e w1 ⟨rfl, hb⟩; have HW := Lib.hid (HW.out.trans (hb.mono HW.out.size)); clear hb))
  go_ret3
  refine ⟨ret_alu ?_ ?_, HW.out⟩
  · show _ = difR a b 0
    unfold difR
    rw [Int.sub_zero]
  · exact fl_dif0 a b
set_option maxRecDepth 100000 in
set_option maxHeartbeats 1000000 in
theorem ralu_16 (a b k : Int) (w : World) (ha : 0 ≤ a ∧ a < 4294967296) (hb : 0 ≤ b ∧ b < 4294967296) :
    Calls Try.prog 13 #[.int .i64 16, .int .u32 a, .int .u32 b, .int .i64 k] w (AluPost (aluT 16 a b k) w) := by
  have hm := and1_i64 k
  have HW := Lib.hid (New.refl w)
  have sa := sg_bd a ha
  have sb := sg_bd b hb
  have k0 : 0 ≤ k % 2 := by omega
  have k1 : k % 2 ≤ 1 := by omega
  go_enter Try.func13, Try.ntmps13
  go_wp2_with (first
    | (go_at_call 40; refine (signed_c _ _ (by omega) (by omega)).mono ?_; rintro e w1 ⟨rfl, hb⟩; have HW := Lib.hid (HW.out.trans (hb.mono HW.out.size)); clear hb)
    | (go_at_call 39; refine (wide_c _ _).mono ?_; rintro e w1 ⟨rfl, hb⟩; have HW := Lib.hid (HW.out.trans (hb.mono HW.out.size)); clear hb)
    | (go_at_call 38; refine (flagsOf_c _ _ _ _ (by omega) (by omega)).mono ?_; rintro e w1 ⟨rfl, hb⟩; have HW := Lib.hid (HW.out.trans (hb.mono HW.out.size)); clear hb))
  go_ret3
  refine ⟨ret_alu ?_ ?_, HW.out⟩
  · show _ = sumR a b (k % 2)
    unfold sumR
    first | rfl | omega
  · exact fl_sum a b (k % 2) ha hb (by omega)
set_option maxRecDepth 100000 in
set_option maxHeartbeats 1000000 in
theorem ralu_17 (a b k : Int) (w : World) (ha : 0 ≤ a ∧ a < 4294967296) (hb : 0 ≤ b ∧ b < 4294967296) :
    Calls Try.prog 13 #[.int .i64 17, .int .u32 a, .int .u32 b, .int .i64 k] w (AluPost (aluT 17 a b k) w) := by
  have hm := and1_i64 k
  have HW := Lib.hid (New.refl w)
  have sa := sg_bd a ha
  have sb := sg_bd b hb
  have k0 : 0 ≤ k % 2 := by omega
  have k1 : k % 2 ≤ 1 := by omega
  go_enter Try.func13, Try.ntmps13
  go_wp2_with (first
    | (go_at_call 40; refine (signed_c _ _ (by omega) (by omega)).mono ?_; rintro e w1 ⟨rfl, hb⟩; have HW := Lib.hid (HW.out.trans (hb.mono HW.out.size)); clear hb)
    | (go_at_call 39; refine (wide_c _ _).mono ?_; rintro e w1 ⟨rfl, hb⟩; have HW := Lib.hid (HW.out.trans (hb.mono HW.out.size)); clear hb)
    | (go_at_call 38; refine (flagsOf_c _ _ _ _ (by omega) (by omega)).mono ?_; rintro e w1 ⟨rfl, hb⟩; have HW := Lib.hid (HW.out.trans (hb.mono HW.out.size)); clear hb))
  go_ret3
  refine ⟨ret_alu ?_ ?_, HW.out⟩
  · show _ = difR a b (k % 2)
    unfold difR
    first | rfl | omega
  · exact fl_dif a b (k % 2)
set_option maxRecDepth 100000 in
set_option maxHeartbeats 1000000 in
theorem ralu_5 (a b k : Int) (w : World) (ha : 0 ≤ a ∧ a < 4294967296) (hb : 0 ≤ b ∧ b < 4294967296) :
    Calls Try.prog 13 #[.int .i64 5, .int .u32 a, .int .u32 b, .int .i64 k] w (AluPost (aluT 5 a b k) w) := by
  have hm := and1_i64 k
  have HW := Lib.hid (New.refl w)
  have sa := sg_bd a ha
  have sb := sg_bd b hb
  go_enter Try.func13, Try.ntmps13
  go_wp2_with (go_at_call 38; refine (flagsOf_c _ _ _ _ (bits_nonneg _ _ _) (bits_lt _ _ _)).mono ?_; rintro e w1 ⟨rfl, hb⟩; have HW := Lib.hid (HW.out.trans (hb.mono HW.out.size)); clear hb)
  go_ret3
  exact ⟨rfl, HW.out⟩
set_option maxRecDepth 100000 in
set_option maxHeartbeats 1000000 in
theorem ralu_6 (a b k : Int) (w : World) (ha : 0 ≤ a ∧ a < 4294967296) (hb : 0 ≤ b ∧ b < 4294967296) :
    Calls Try.prog 13 #[.int .i64 6, .int .u32 a, .int .u32 b, .int .i64 k] w (AluPost (aluT 6 a b k) w) := by
  have hm := and1_i64 k
  have HW := Lib.hid (New.refl w)
  have sa := sg_bd a ha
  have sb := sg_bd b hb
  go_enter Try.func13, Try.ntmps13
  go_wp2_with (go_at_call 38; refine (flagsOf_c _ _ _ _ (bits_nonneg _ _ _) (bits_lt _ _ _)).mono ?_; rintro e w1 ⟨rfl, hb⟩; have HW := Lib.hid (HW.out.trans (hb.mono HW.out.size)); clear hb)
  go_ret3
  exact ⟨rfl, HW.out⟩
set_option maxRecDepth 100000 in
set_option maxHeartbeats 1000000 in
theorem ralu_7 (a b k : Int) (w : World) (ha : 0 ≤ a ∧ a < 4294967296) (hb : 0 ≤ b ∧ b < 4294967296) :
    Calls Try.prog 13 #[.int .i64 7, .int .u32 a, .int .u32 b, .int .i64 k] w (AluPost (aluT 7 a b k) w) := by
  have hm := and1_i64 k
  have HW := Lib.hid (New.refl w)
  have sa := sg_bd a ha
  have sb := sg_bd b hb
  go_enter Try.func13, Try.ntmps13
  go_wp2_with (go_at_call 38; refine (flagsOf_c _ _ _ _ (bits_nonneg _ _ _) (bits_lt _ _ _)).mono ?_; rintro e w1 ⟨rfl, hb⟩; have HW := Lib.hid (HW.out.trans (hb.mono HW.out.size)); clear hb)
  go_ret3
  exact ⟨rfl, HW.out⟩
set_option maxRecDepth 100000 in
set_option maxHeartbeats 1000000 in
theorem ralu_11 (a b k : Int) (w : World) (ha : 0 ≤ a ∧ a < 4294967296) (hb : 0 ≤ b ∧ b < 4294967296) :
    Calls Try.prog 13 #[.int .i64 11, .int .u32 a, .int .u32 b, .int .i64 k] w (AluPost (aluT 11 a b k) w) := by
  have hm := and1_i64 k
  have HW := Lib.hid (New.refl w)
  have sa := sg_bd a ha
  have sb := sg_bd b hb
  go_enter Try.func13, Try.ntmps13
  go_wp2_with (first
    | (go_at_call 40; refine (signed_c _ _ (by omega) (by omega)).mono ?_; rintro e w1 ⟨rfl, hb⟩; have HW := Lib.hid (HW.out.trans (hb.mono HW.out.size)); clear hb)
    | (go_at_call 39; refine (wide_c _ _).mono ?_; rintro e w1 ⟨rfl, hb⟩; have HW := Lib.hid (HW.out.trans (hb.mono HW.out.size)); clear hb)
    | (go_at_call 38; refine (flagsOf_c _ _ _ _ (by omega) (by omega)).mono ?_; rintro e w1 ⟨rfl, hb⟩; have HW := Lib.hid (HW.out.trans (hb.mono HW.out.size)); clear hb))
  go_ret3
  exact ⟨rfl, HW.out⟩
set_option maxRecDepth 100000 in
set_option maxHeartbeats 1000000 in
theorem ralu_12 (a b k : Int) (w : World) (ha : 0 ≤ a ∧ a < 4294967296) (hb : 0 ≤ b ∧ b < 4294967296) :
    Calls Try.prog 13 #[.int .i64 12, .int .u32 a, .int .u32 b, .int .i64 k] w (AluPost (aluT 12 a b k) w) := by
  have hm := and1_i64 k
  have HW := Lib.hid (New.refl w)
  have sa := sg_bd a ha
  have sb := sg_bd b hb
  have h1 : 0 ≤ a * b := Int.mul_nonneg ha.1 hb.1
  have h2 : a * b ≤ 4294967295 * 4294967295 := Int.mul_le_mul (by omega) (by omega) hb.1 (by omega)
  go_enter Try.func13, Try.ntmps13
  go_wp2_with (first
    | (go_at_call 40; refine (signed_c _ _ (by omega) (by omega)).mono ?_; rintro e w1 ⟨rfl, hb⟩; have HW := Lib.hid (HW.out.trans (hb.mono HW.out.size)); clear hb)
    | (go_at_call 39; refine (wide_c _ _).mono ?_; rintro e w1 ⟨rfl, hb⟩; have HW := Lib.hid (HW.out.trans (hb.mono HW.out.size)); clear hb)
    | (go_at_call 38; refine (flagsOf_c _ _ _ _ (by omega) (by omega)).mono ?_; rintro e w1 ⟨rfl, hb⟩; have HW := Lib.hid (HW.out.trans (hb.mono HW.out.size)); clear hb))
  go_ret3
  refine ⟨ret_alu ?_ rfl, HW.out⟩
  show _ = a * b / 4294967296
  first | rfl | (rw [IntWalk.u64_in _ (by omega)]; omega)
set_option maxRecDepth 100000 in
set_option maxHeartbeats 1000000 in
theorem ralu_8 (a b k : Int) (w : World) (ha : 0 ≤ a ∧ a < 4294967296) (hb : 0 ≤ b ∧ b < 4294967296) (hz : ¬ b % 32 = 0) :
    Calls Try.prog 13 #[.int .i64 8, .int .u32 a, .int .u32 b, .int .i64 k] w (AluPost (aluT 8 a b k) w) := by
  have hm := and1_i64 k
  have HW := Lib.hid (New.refl w)
  have sa := sg_bd a ha
  have sb := sg_bd b hb
  have HS := Lib.hid (shlR_bd a (b % 32))
  have b0 : 0 ≤ b := hb.1
  have a0 : 0 ≤ a := ha.1
  have c0 : 0 ≤ b % 32 := by omega
  have c1 : b % 32 < 32 := by omega
  have hd : 0 < b % 32 := by omega
  have hq := and_1_div a ha.1 ha.2 (32 - b % 32).toNat
  go_enter Try.func13, Try.ntmps13
  go_wp2_with (go_at_call 38; refine (flagsOf_c _ _ _ _ HS.out.1 HS.out.2).mono ?_; rintro e w1 ⟨rfl, hb⟩; have HW := Lib.hid (HW.out.trans (hb.mono HW.out.size)); clear hb)
  go_ret3
  refine ⟨ret_alu rfl ?_, HW.out⟩
  show _ = shFl (shlR a (b % 32)) a (b % 32) true
  unfold shFl outS
  rw [if_neg hz, if_pos rfl]
set_option maxRecDepth 100000 in
set_option maxHeartbeats 1000000 in
theorem ralu_8z (a b k : Int) (w : World) (ha : 0 ≤ a ∧ a < 4294967296) (hb : 0 ≤ b ∧ b < 4294967296) (hz : b % 32 = 0) :
    Calls Try.prog 13 #[.int .i64 8, .int .u32 a, .int .u32 b, .int .i64 k] w (AluPost (aluT 8 a b k) w) := by
  have hm := and1_i64 k
  have HW := Lib.hid (New.refl w)
  have sa := sg_bd a ha
  have sb := sg_bd b hb
  have HS := Lib.hid (shlR_bd a (b % 32))
  have b0 : 0 ≤ b := hb.1
  have a0 : 0 ≤ a := ha.1
  have c0 : 0 ≤ b % 32 := by omega
  have c1 : b % 32 < 32 := by omega
  have hd : ¬ 0 < b % 32 := by omega
  have HZ := Lib.hid hz
  clear hz
  go_enter Try.func13, Try.ntmps13
  go_wp2_with (go_at_call 38; refine (flagsOf_c _ _ _ _ HS.out.1 HS.out.2).mono ?_; rintro e w1 ⟨rfl, hb⟩; have HW := Lib.hid (HW.out.trans (hb.mono HW.out.size)); clear hb)
  go_ret3
  refine ⟨ret_alu rfl ?_, HW.out⟩
  show _ = shFl (shlR a (b % 32)) a (b % 32) true
  unfold shFl outS
  rw [if_pos HZ.out]
set_option maxRecDepth 100000 in
set_option maxHeartbeats 1000000 in
theorem ralu_9 (a b k : Int) (w : World) (ha : 0 ≤ a ∧ a < 4294967296) (hb : 0 ≤ b ∧ b < 4294967296) (hz : ¬ b % 32 = 0) :
    Calls Try.prog 13 #[.int .i64 9, .int .u32 a, .int .u32 b, .int .i64 k] w (AluPost (aluT 9 a b k) w) := by
  have hm := and1_i64 k
  have HW := Lib.hid (New.refl w)
  have sa := sg_bd a ha
  have sb := sg_bd b hb
  have HS := Lib.hid (shrR_bd a (b % 32) ha)
  have b0 : 0 ≤ b := hb.1
  have a0 : 0 ≤ a := ha.1
  have c0 : 0 ≤ b % 32 := by omega
  have c1 : b % 32 < 32 := by omega
  have hd : 0 < b % 32 := by omega
  have hq := and_1_div a ha.1 ha.2 (b % 32 - 1).toNat
  go_enter Try.func13, Try.ntmps13
  go_wp2_with (go_at_call 38; refine (flagsOf_c _ _ _ _ HS.out.1 HS.out.2).mono ?_; rintro e w1 ⟨rfl, hb⟩; have HW := Lib.hid (HW.out.trans (hb.mono HW.out.size)); clear hb)
  go_ret3
  refine ⟨ret_alu rfl ?_, HW.out⟩
  show _ = shFl (shrR a (b % 32)) a (b % 32) false
  unfold shFl outS
  rw [if_neg hz, if_neg (by decide), and_1_div a ha.1 ha.2, show (b % 32).toNat - 1 = (b % 32 - 1).toNat by omega]
set_option maxRecDepth 100000 in
set_option maxHeartbeats 1000000 in
theorem ralu_9z (a b k : Int) (w : World) (ha : 0 ≤ a ∧ a < 4294967296) (hb : 0 ≤ b ∧ b < 4294967296) (hz : b % 32 = 0) :
    Calls Try.prog 13 #[.int .i64 9, .int .u32 a, .int .u32 b, .int .i64 k] w (AluPost (aluT 9 a b k) w) := by
  have hm := and1_i64 k
  have HW := Lib.hid (New.refl w)
  have sa := sg_bd a ha
  have sb := sg_bd b hb
  have HS := Lib.hid (shrR_bd a (b % 32) ha)
  have b0 : 0 ≤ b := hb.1
  have a0 : 0 ≤ a := ha.1
  have c0 : 0 ≤ b % 32 := by omega
  have c1 : b % 32 < 32 := by omega
  have hd : ¬ 0 < b % 32 := by omega
  have HZ := Lib.hid hz
  clear hz
  go_enter Try.func13, Try.ntmps13
  go_wp2_with (go_at_call 38; refine (flagsOf_c _ _ _ _ HS.out.1 HS.out.2).mono ?_; rintro e w1 ⟨rfl, hb⟩; have HW := Lib.hid (HW.out.trans (hb.mono HW.out.size)); clear hb)
  go_ret3
  refine ⟨ret_alu rfl ?_, HW.out⟩
  show _ = shFl (shrR a (b % 32)) a (b % 32) false
  unfold shFl outS
  rw [if_pos HZ.out]
set_option maxRecDepth 100000 in
set_option maxHeartbeats 1000000 in
theorem ralu_10 (a b k : Int) (w : World) (ha : 0 ≤ a ∧ a < 4294967296) (hb : 0 ≤ b ∧ b < 4294967296) (hz : ¬ b % 32 = 0) :
    Calls Try.prog 13 #[.int .i64 10, .int .u32 a, .int .u32 b, .int .i64 k] w (AluPost (aluT 10 a b k) w) := by
  have hm := and1_i64 k
  have HW := Lib.hid (New.refl w)
  have sa := sg_bd a ha
  have sb := sg_bd b hb
  have HS := Lib.hid (sarR_bd a (b % 32))
  have b0 : 0 ≤ b := hb.1
  have a0 : 0 ≤ a := ha.1
  have c0 : 0 ≤ b % 32 := by omega
  have c1 : b % 32 < 32 := by omega
  have hd : 0 < b % 32 := by omega
  have hq := and_1_div a ha.1 ha.2 (b % 32 - 1).toNat
  go_enter Try.func13, Try.ntmps13
  go_wp2_with (go_at_call 38; refine (flagsOf_c _ _ _ _ HS.out.1 HS.out.2).mono ?_; rintro e w1 ⟨rfl, hb⟩; have HW := Lib.hid (HW.out.trans (hb.mono HW.out.size)); clear hb)
  go_ret3
  refine ⟨ret_alu rfl ?_, HW.out⟩
  show _ = shFl (sarR a (b % 32)) a (b % 32) false
  unfold shFl outS
  rw [if_neg hz, if_neg (by decide), and_1_div a ha.1 ha.2, show (b % 32).toNat - 1 = (b % 32 - 1).toNat by omega]
set_option maxRecDepth 100000 in
set_option maxHeartbeats 1000000 in
theorem ralu_10z (a b k : Int) (w : World) (ha : 0 ≤ a ∧ a < 4294967296) (hb : 0 ≤ b ∧ b < 4294967296) (hz : b % 32 = 0) :
    Calls Try.prog 13 #[.int .i64 10, .int .u32 a, .int .u32 b, .int .i64 k] w (AluPost (aluT 10 a b k) w) := by
  have hm := and1_i64 k
  have HW := Lib.hid (New.refl w)
  have sa := sg_bd a ha
  have sb := sg_bd b hb
  have HS := Lib.hid (sarR_bd a (b % 32))
  have b0 : 0 ≤ b := hb.1
  have a0 : 0 ≤ a := ha.1
  have c0 : 0 ≤ b % 32 := by omega
  have c1 : b % 32 < 32 := by omega
  have hd : ¬ 0 < b % 32 := by omega
  have HZ := Lib.hid hz
  clear hz
  go_enter Try.func13, Try.ntmps13
  go_wp2_with (go_at_call 38; refine (flagsOf_c _ _ _ _ HS.out.1 HS.out.2).mono ?_; rintro e w1 ⟨rfl, hb⟩; have HW := Lib.hid (HW.out.trans (hb.mono HW.out.size)); clear hb)
  go_ret3
  refine ⟨ret_alu rfl ?_, HW.out⟩
  show _ = shFl (sarR a (b % 32)) a (b % 32) false
  unfold shFl outS
  rw [if_pos HZ.out]
set_option maxRecDepth 100000 in
set_option maxHeartbeats 1000000 in
theorem ralu_13 (a b k : Int) (w : World) (ha : 0 ≤ a ∧ a < 4294967296) (hb : 0 ≤ b ∧ b < 4294967296) (hz : ¬ b = 0) :
    Calls Try.prog 13 #[.int .i64 13, .int .u32 a, .int .u32 b, .int .i64 k] w (AluPost (aluT 13 a b k) w) := by
  have hm := and1_i64 k
  have HW := Lib.hid (New.refl w)
  have sa := sg_bd a ha
  have sb := sg_bd b hb
  rw [show aluT 13 a b k = (a / b, 0, true) from by unfold aluT; simp [hz]]
  have e0 : (b == 0) = false := by simp [hz]
  have h1 : ¬ b = 0 := hz
  have hs : ¬ sg b = 0 := sg_ne b (by omega) hb.2
  clear hz
  go_enter Try.func13, Try.ntmps13
  go_wp2_with (first
    | (go_at_call 40; refine (signed_c _ _ (by omega) (by omega)).mono ?_; rintro e w1 ⟨rfl, hb⟩; have HW := Lib.hid (HW.out.trans (hb.mono HW.out.size)); clear hb)
    | (go_at_call 39; refine (wide_c _ _).mono ?_; rintro e w1 ⟨rfl, hb⟩; have HW := Lib.hid (HW.out.trans (hb.mono HW.out.size)); clear hb)
    | (go_at_call 38; refine (flagsOf_c _ _ _ _ (by omega) (by omega)).mono ?_; rintro e w1 ⟨rfl, hb⟩; have HW := Lib.hid (HW.out.trans (hb.mono HW.out.size)); clear hb))
  go_ret3
  refine ⟨ret_alu ?_ rfl, HW.out⟩
  first | rfl | (show _ = divS a b; unfold divS; unfold wrap64; omega)
set_option maxRecDepth 100000 in
set_option maxHeartbeats 1000000 in
theorem ralu_14 (a b k : Int) (w : World) (ha : 0 ≤ a ∧ a < 4294967296) (hb : 0 ≤ b ∧ b < 4294967296) (hz : ¬ b = 0) :
    Calls Try.prog 13 #[.int .i64 14, .int .u32 a, .int .u32 b, .int .i64 k] w (AluPost (aluT 14 a b k) w) := by
  have hm := and1_i64 k
  have HW := Lib.hid (New.refl w)
  have sa := sg_bd a ha
  have sb := sg_bd b hb
  rw [show aluT 14 a b k = (a % b, 0, true) from by unfold aluT; simp [hz]]
  have e0 : (b == 0) = false := by simp [hz]
  have h1 : ¬ b = 0 := hz
  have hs : ¬ sg b = 0 := sg_ne b (by omega) hb.2
  clear hz
  go_enter Try.func13, Try.ntmps13
  go_wp2_with (first
    | (go_at_call 40; refine (signed_c _ _ (by omega) (by omega)).mono ?_; rintro e w1 ⟨rfl, hb⟩; have HW := Lib.hid (HW.out.trans (hb.mono HW.out.size)); clear hb)
    | (go_at_call 39; refine (wide_c _ _).mono ?_; rintro e w1 ⟨rfl, hb⟩; have HW := Lib.hid (HW.out.trans (hb.mono HW.out.size)); clear hb)
    | (go_at_call 38; refine (flagsOf_c _ _ _ _ (by omega) (by omega)).mono ?_; rintro e w1 ⟨rfl, hb⟩; have HW := Lib.hid (HW.out.trans (hb.mono HW.out.size)); clear hb))
  go_ret3
  refine ⟨ret_alu ?_ rfl, HW.out⟩
  first | rfl | (show _ = divS a b; unfold divS; unfold wrap64; omega)
set_option maxRecDepth 100000 in
set_option maxHeartbeats 1000000 in
theorem ralu_15 (a b k : Int) (w : World) (ha : 0 ≤ a ∧ a < 4294967296) (hb : 0 ≤ b ∧ b < 4294967296) (hz : ¬ b = 0) :
    Calls Try.prog 13 #[.int .i64 15, .int .u32 a, .int .u32 b, .int .i64 k] w (AluPost (aluT 15 a b k) w) := by
  have hm := and1_i64 k
  have HW := Lib.hid (New.refl w)
  have sa := sg_bd a ha
  have sb := sg_bd b hb
  rw [show aluT 15 a b k = (divS a b, 0, true) from by unfold aluT; simp [hz]]
  have e0 : (b == 0) = false := by simp [hz]
  have h1 : ¬ b = 0 := hz
  have hs : ¬ sg b = 0 := sg_ne b (by omega) hb.2
  clear hz
  go_enter Try.func13, Try.ntmps13
  go_wp2_with (first
    | (go_at_call 40; refine (signed_c _ _ (by omega) (by omega)).mono ?_; rintro e w1 ⟨rfl, hb⟩; have HW := Lib.hid (HW.out.trans (hb.mono HW.out.size)); clear hb)
    | (go_at_call 39; refine (wide_c _ _).mono ?_; rintro e w1 ⟨rfl, hb⟩; have HW := Lib.hid (HW.out.trans (hb.mono HW.out.size)); clear hb)
    | (go_at_call 38; refine (flagsOf_c _ _ _ _ (by omega) (by omega)).mono ?_; rintro e w1 ⟨rfl, hb⟩; have HW := Lib.hid (HW.out.trans (hb.mono HW.out.size)); clear hb))
  go_ret3
  refine ⟨ret_alu ?_ rfl, HW.out⟩
  first | rfl | (show _ = divS a b; unfold divS; unfold wrap64; omega)
set_option maxRecDepth 100000 in
set_option maxHeartbeats 1000000 in
theorem ralu_div0 (op a k : Int) (w : World) (h : op = 13 ∨ op = 14 ∨ op = 15) :
    Calls Try.prog 13 #[.int .i64 op, .int .u32 a, .int .u32 0, .int .i64 k] w (AluPost (aluT op a 0 k) w) := by
  have hm := and1_i64 k
  rcases h with rfl | rfl | rfl
  all_goals
    go_enter Try.func13, Try.ntmps13
    go_wp2
    go_ret3
    exact ⟨rfl, New.refl _⟩
set_option maxRecDepth 100000 in
set_option maxHeartbeats 1000000 in
theorem ralu_out (op a b k : Int) (w : World) (z : Bool) (e0 : (b == 0) = z) (hb : 0 ≤ b) (h : op < 3 ∨ 17 < op) :
    Calls Try.prog 13 #[.int .i64 op, .int .u32 a, .int .u32 b, .int .i64 k] w (AluPost (aluT op a b k) w) := by
  have hm := and1_i64 k
  have ht : aluT op a b k = (0, 0, false) := by
    unfold aluT
    repeat rw [if_neg (by omega)]
    split
    · rfl
    · repeat rw [if_neg (by omega)]
  rw [ht]
  clear ht
  have n3 : (op == 3) = false := by simp; omega
  have n4 : (op == 4) = false := by simp; omega
  have n5 : (op == 5) = false := by simp; omega
  have n6 : (op == 6) = false := by simp; omega
  have n7 : (op == 7) = false := by simp; omega
  have n8 : (op == 8) = false := by simp; omega
  have n9 : (op == 9) = false := by simp; omega
  have n10 : (op == 10) = false := by simp; omega
  have n11 : (op == 11) = false := by simp; omega
  have n12 : (op == 12) = false := by simp; omega
  have n13 : (op == 13) = false := by simp; omega
  have n14 : (op == 14) = false := by simp; omega
  have n15 : (op == 15) = false := by simp; omega
  have n16 : (op == 16) = false := by simp; omega
  have n17 : (op == 17) = false := by simp; omega
  clear h
  cases z
  all_goals
    go_enter Try.func13, Try.ntmps13
    go_wp2
    go_ret3
    exact ⟨rfl, New.refl _⟩
theorem ralu_c (op a b k : Int) (w : World) (ha : 0 ≤ a ∧ a < 4294967296) (hb : 0 ≤ b ∧ b < 4294967296) :
    Calls Try.prog 13 #[.int .i64 op, .int .u32 a, .int .u32 b, .int .i64 k] w (AluPost (aluT op a b k) w) := by
  by_cases ho : op < 3 ∨ 17 < op
  · exact ralu_out op a b k w _ rfl hb.1 ho
  · have hc : op = 3 ∨ op = 4 ∨ op = 5 ∨ op = 6 ∨ op = 7 ∨ op = 8 ∨ op = 9 ∨ op = 10 ∨ op = 11 ∨ op = 12 ∨ op = 13 ∨ op = 14 ∨ op = 15 ∨ op = 16 ∨ op = 17 := by omega
    rcases hc with rfl | rfl | rfl | rfl | rfl | rfl | rfl | rfl | rfl | rfl | rfl | rfl | rfl | rfl | rfl
    · exact ralu_3 a b k w ha hb
    · exact ralu_4 a b k w ha hb
    · exact ralu_5 a b k w ha hb
    · exact ralu_6 a b k w ha hb
    · exact ralu_7 a b k w ha hb
    · by_cases hz : b % 32 = 0
      · exact ralu_8z a b k w ha hb hz
      · exact ralu_8 a b k w ha hb hz
    · by_cases hz : b % 32 = 0
      · exact ralu_9z a b k w ha hb hz
      · exact ralu_9 a b k w ha hb hz
    · by_cases hz : b % 32 = 0
      · exact ralu_10z a b k w ha hb hz
      · exact ralu_10 a b k w ha hb hz
    · exact ralu_11 a b k w ha hb
    · exact ralu_12 a b k w ha hb
    · by_cases hz : b = 0
      · rw [hz]; exact ralu_div0 13 a k w (by omega)
      · exact ralu_13 a b k w ha hb hz
    · by_cases hz : b = 0
      · rw [hz]; exact ralu_div0 14 a k w (by omega)
      · exact ralu_14 a b k w ha hb hz
    · by_cases hz : b = 0
      · rw [hz]; exact ralu_div0 15 a k w (by omega)
      · exact ralu_15 a b k w ha hb hz
    · exact ralu_16 a b k w ha hb
    · exact ralu_17 a b k w ha hb
end Go.Proofs.Ytpooghnemlnopaa
/- The contract of cpu.Holds. -/
namespace Go.Proofs.Ytpooghnemlnopaa
open Go Go.RowKit Go.Cd
set_option linter.unusedVariables false

/-- Is a flag set? -/
def hasB (flags f : Int) : Bool := bits .and .i64 flags f != 0
/-- What the even condition of number 2 i says. -/
def isAt (z n c v : Bool) (i : Int) : Bool :=
  if i = 0 then z else if i = 1 then c else if i = 2 then n else if i = 3 then v else if i = 4 then (c || z) else if i = 5 then (n != v) else if i = 6 then ((n != v) || z) else true
def holdsZ (cd : Int) (z n c v : Bool) : Bool := isAt z n c v (cd / 2) == (cd % 2 == 0)
def holdsF (cd flags : Int) : Bool :=
  if cd < 0 ∨ 15 < cd then false else holdsZ cd (hasB flags 1) (hasB flags 2) (hasB flags 4) (hasB flags 8)

def sel8 (b0 b1 b2 b3 b4 b5 b6 b7 : Bool) (i : Int) : Bool :=
  if i = 0 then b0 else if i = 1 then b1 else if i = 2 then b2 else if i = 3 then b3 else if i = 4 then b4 else if i = 5 then b5 else if i = 6 then b6 else b7
theorem holds1_c (f x : Int) (a : Addr) (w : World) (h : w.cell? a = some (.int .i64 x)) :
    Calls Try.prog 35 #[.int .i64 f, .pointer (some a)] w fun e w' => e = .returned (.bool (hasB x f)) ∧ w = w' := by
  go_enter Try.func35, Try.ntmps35
  go_wp2
  go_ret
  exact ⟨rfl, rfl⟩
theorem holds_out (cd flags : Int) (w : World) (h : cd < 0 ∨ 15 < cd) :
    Calls Try.prog 11 #[.int .i64 cd, .int .i64 flags] w fun e w' => e = .returned (.bool false) ∧ New w w' := by
  rcases h with h | h
  · go_enter Try.func11, Try.ntmps11
    go_wp2
    go_ret
    exact ⟨rfl, by go_grown⟩
  · have h' : ¬ cd < 0 := by omega
    go_enter Try.func11, Try.ntmps11
    go_wp2
    go_ret
    exact ⟨rfl, by go_grown⟩
set_option maxHeartbeats 1000000 in
theorem holds_in (cd flags : Int) (z n c v : Bool) (w : World) (hz : hasB flags 1 = z) (hn : hasB flags 2 = n) (hc : hasB flags 4 = c) (hv : hasB flags 8 = v) (h1 : ¬ cd < 0) (h2 : ¬ 15 < cd) (h0 : 0 ≤ cd) (h3 : cd ≤ 15) :
    Calls Try.prog 11 #[.int .i64 cd, .int .i64 flags] w fun e w' => e = .returned (.bool (holdsZ cd z n c v)) ∧ New w w' := by
  have HC : (w.alloc (.cells #[.int .i64 flags] 3)).cell? ⟨w.heap.size, 0, none⟩ = some (.int .i64 flags) := by simp
  obtain ⟨i, hi⟩ : ∃ i, cd / 2 = i := ⟨_, rfl⟩
  have hi0 : 0 ≤ i := by omega
  have hi1 : i < 8 := by omega
  have hL : ∀ b0 b1 b2 b3 b4 b5 b6 b7 (h : i.toNat < [Value.bool b0, .bool b1, .bool b2, .bool b3, .bool b4, .bool b5, .bool b6, .bool b7].length), [Value.bool b0, .bool b1, .bool b2, .bool b3, .bool b4, .bool b5, .bool b6, .bool b7][i.toNat]'h = Value.bool (sel8 b0 b1 b2 b3 b4 b5 b6 b7 i) := by
    intro b0 b1 b2 b3 b4 b5 b6 b7 h
    clear h1 h2
    have : i = 0 ∨ i = 1 ∨ i = 2 ∨ i = 3 ∨ i = 4 ∨ i = 5 ∨ i = 6 ∨ i = 7 := by omega
    rcases this with rfl | rfl | rfl | rfl | rfl | rfl | rfl | rfl <;> rfl
  go_enter Try.func11, Try.ntmps11
  go_wp2_with (go_at_call 35; refine (holds1_c _ _ _ _ HC).mono ?_; (first | rw [hz] | rw [hn] | rw [hc] | rw [hv]); rintro e w1 ⟨rfl, rfl⟩)
  all_goals go_ret
  all_goals refine ⟨ret_bool ?_, by clear hL; go_grown⟩
  all_goals unfold holdsZ
  all_goals rw [hi]
  all_goals congr 1
  all_goals clear hL HC hi hz hn hc hv
  all_goals unfold sel8 isAt
  all_goals cases c <;> cases n <;> cases v <;> simp_all
theorem holds_c (cd flags : Int) (w : World) :
    Calls Try.prog 11 #[.int .i64 cd, .int .i64 flags] w fun e w' => e = .returned (.bool (holdsF cd flags)) ∧ New w w' := by
  by_cases h : cd < 0 ∨ 15 < cd
  · have e : holdsF cd flags = false := by unfold holdsF; rw [if_pos h]
    rw [e]; exact holds_out cd flags w h
  · have e : holdsF cd flags = holdsZ cd (hasB flags 1) (hasB flags 2) (hasB flags 4) (hasB flags 8) := by unfold holdsF; rw [if_neg h]
    rw [e]; exact holds_in cd flags _ _ _ _ w rfl rfl rfl rfl (by omega) (by omega) (by omega) (by omega)
end Go.Proofs.Ytpooghnemlnopaa
/- Contracts of the specification's Holds, and of Extend and Check. -/
namespace Go.Proofs.Ytpooghnemlnopaa
open Go Go.RowKit Go.Cd
set_option linter.unusedVariables false

theorem rholds_out (cd flags : Int) (w : World) (h : cd < 0 ∨ 15 < cd) :
    Calls Try.prog 16 #[.int .i64 cd, .int .i64 flags] w fun e w' => e = .returned (.bool false) ∧ New w w' := by
  rcases h with h | h
  · go_enter Try.func16, Try.ntmps16
    go_wp2
    go_ret
    exact ⟨rfl, by go_grown⟩
  · have h' : ¬ cd < 0 := by omega
    go_enter Try.func16, Try.ntmps16
    go_wp2
    go_ret
    exact ⟨rfl, by go_grown⟩
set_option maxHeartbeats 1000000 in
theorem rholds_in (cd flags : Int) (z n c v : Bool) (w : World) (hz : (bits .and .i64 flags 1 != 0) = z) (hn : (bits .and .i64 flags 2 != 0) = n) (hc : (bits .and .i64 flags 4 != 0) = c) (hv : (bits .and .i64 flags 8 != 0) = v) (h0 : 0 ≤ cd) (h3 : cd ≤ 15) :
    Calls Try.prog 16 #[.int .i64 cd, .int .i64 flags] w fun e w' => e = .returned (.bool (holdsZ cd z n c v)) ∧ New w w' := by
  have hcd : cd = 0 ∨ cd = 1 ∨ cd = 2 ∨ cd = 3 ∨ cd = 4 ∨ cd = 5 ∨ cd = 6 ∨ cd = 7 ∨ cd = 8 ∨ cd = 9 ∨ cd = 10 ∨ cd = 11 ∨ cd = 12 ∨ cd = 13 ∨ cd = 14 ∨ cd = 15 := by omega
  clear h0 h3
  rcases hcd with rfl | rfl | rfl | rfl | rfl | rfl | rfl | rfl | rfl | rfl | rfl | rfl | rfl | rfl | rfl | rfl
  case inr.inr.inr.inr.inr.inr.inr.inr.inl => cases c <;> (go_enter Try.func16, Try.ntmps16; go_wp2; go_ret; exact ⟨ret_bool (by cases z <;> rfl), by go_grown⟩)
  case inr.inr.inr.inr.inr.inr.inr.inr.inr.inl => cases c <;> (go_enter Try.func16, Try.ntmps16; go_wp2; go_ret; exact ⟨ret_bool (by cases z <;> rfl), by go_grown⟩)
  case inr.inr.inr.inr.inr.inr.inr.inr.inr.inr.inr.inr.inl => cases z <;> (go_enter Try.func16, Try.ntmps16; go_wp2; go_ret; exact ⟨ret_bool (by cases n <;> cases v <;> rfl), by go_grown⟩)
  case inr.inr.inr.inr.inr.inr.inr.inr.inr.inr.inr.inr.inr.inl => cases z <;> (go_enter Try.func16, Try.ntmps16; go_wp2; go_ret; exact ⟨ret_bool (by cases n <;> cases v <;> rfl), by go_grown⟩)
  all_goals
    go_enter Try.func16, Try.ntmps16
    go_wp2
    go_ret
    exact ⟨ret_bool (by cases z <;> cases n <;> cases c <;> cases v <;> rfl), by go_grown⟩
theorem rholds7_c (cd flags : Int) (w : World) :
    Calls Try.prog 16 #[.int .i64 cd, .int .i64 flags] w fun e w' => e = .returned (.bool (holdsF cd flags)) ∧ New w w' := by
  by_cases h : cd < 0 ∨ 15 < cd
  · have e : holdsF cd flags = false := by unfold holdsF; rw [if_pos h]
    rw [e]; exact rholds_out cd flags w h
  · have e : holdsF cd flags = holdsZ cd (hasB flags 1) (hasB flags 2) (hasB flags 4) (hasB flags 8) := by unfold holdsF; rw [if_neg h]
    rw [e]; exact rholds_in cd flags _ _ _ _ w rfl rfl rfl rfl (by omega) (by omega)
/-- A word extended from its lower bits. -/
def extT (d a : Int) : Int × Bool :=
  if d = 0 then (a % 256, true) else if d = 1 then (((a + 128) % 256 - 128) % 4294967296, true) else if d = 2 then (a % 65536, true) else if d = 3 then (((a + 32768) % 65536 - 32768) % 4294967296, true) else (0, false)
def ExtPost (t : Int × Bool) (w : World) (e : Ending) (w' : World) : Prop := e = .returned (.tuple #[.int .u32 t.1, .bool t.2]) ∧ w = w'
theorem ret_ext {r r' : Int} {b : Bool} (h : r = r') : Ending.returned (.tuple #[.int .u32 r, .bool b]) = Ending.returned (.tuple #[.int .u32 r', .bool b]) := by rw [h]
theorem wrap_i8 (n : Int) : IntKind.i8.wrap n = (n + 128) % 256 - 128 := by
  simp only [IntKind.wrap, IntKind.bits, IntKind.signed]
  simp
  split <;> omega
theorem wrap_i16 (n : Int) : IntKind.i16.wrap n = (n + 32768) % 65536 - 32768 := by
  simp only [IntKind.wrap, IntKind.bits, IntKind.signed]
  simp
  split <;> omega
theorem ext1_eq (a : Int) : wrap32 (IntKind.i8.wrap a) % 4294967296 = (extT 1 a).1 := by
  rw [wrap_mod, wrap_i8]; rfl
theorem ext2_eq (a : Int) : IntKind.u16.wrap a % 4294967296 = (extT 2 a).1 := by
  rw [IntKind.wrap_u16]
  show _ = a % 65536
  omega
theorem ext3_eq (a : Int) : wrap32 (IntKind.i16.wrap a) % 4294967296 = (extT 3 a).1 := by
  rw [wrap_mod, wrap_i16]; rfl
theorem ext2_and (a : Int) (h : 0 ≤ a ∧ a < 4294967296) : bits .and .u32 a 65535 = (extT 2 a).1 := and_mask a h.1 h.2 16 (by decide)
theorem ext_c (d a : Int) (w : World) (ha : 0 ≤ a ∧ a < 4294967296) : Calls Try.prog 17 #[.int .i64 d, .int .u32 a] w (ExtPost (extT d a) w) := by
  by_cases h : d = 0 ∨ d = 1 ∨ d = 2 ∨ d = 3
  · rcases h with rfl | rfl | rfl | rfl
    all_goals
      go_enter Try.func17, Try.ntmps17
      go_wp2
      go_ret2
      refine ⟨ret_ext ?_, rfl⟩
      first | rfl | exact ext1_eq a | exact ext2_eq a | exact ext3_eq a
  · have e : extT d a = (0, false) := by
      unfold extT
      repeat rw [if_neg (by omega)]
    rw [e]
    have n0 : (d == 0) = false := by simp; omega
    have n1 : (d == 1) = false := by simp; omega
    have n2 : (d == 2) = false := by simp; omega
    have n3 : (d == 3) = false := by simp; omega
    clear h e
    go_enter Try.func17, Try.ntmps17
    go_wp2
    go_ret2
    exact ⟨rfl, rfl⟩
theorem rext_c (d a : Int) (w : World) (ha : 0 ≤ a ∧ a < 4294967296) : Calls Try.prog 18 #[.int .i64 d, .int .u32 a] w (ExtPost (extT d a) w) := by
  by_cases h : d = 0 ∨ d = 1 ∨ d = 2 ∨ d = 3
  · rcases h with rfl | rfl | rfl | rfl
    all_goals
      go_enter Try.func18, Try.ntmps18
      go_wp2
      go_ret2
      refine ⟨ret_ext ?_, rfl⟩
      first | exact and_255 a ha.1 ha.2 | exact ext1_eq a | exact ext2_and a ha | exact ext3_eq a
  · have e : extT d a = (0, false) := by
      unfold extT
      repeat rw [if_neg (by omega)]
    rw [e]
    have n0 : (d == 0) = false := by simp; omega
    have n1 : (d == 1) = false := by simp; omega
    have n2 : (d == 2) = false := by simp; omega
    have n3 : (d == 3) = false := by simp; omega
    clear h e
    go_enter Try.func18, Try.ntmps18
    go_wp2
    go_ret2
    exact ⟨rfl, rfl⟩
end Go.Proofs.Ytpooghnemlnopaa
/- Ranges over a function whose iterator keeps state of its own in cells, and whose body may write maps: a law and a contract. -/
namespace Go.Cd
open Go Go.RowKit
variable {P : Program}

/-- Blocks of a kind lie as they lay. -/
def KeepsOn (own : Nat → Prop) (W W' : World) : Prop := ∀ k, own k → W'.heap[k]? = W.heap[k]?
/-- What abides new blocks, and a turn of a block of a kind. -/
def AbidesW {β : Type} (own : Nat → Prop) (J : β → World → Prop) : Prop :=
  ∀ s W W' row, J s W → W.grownBy W' row → (∀ r, row = some r → own r) → J s W'
theorem AbidesW.alloc {β : Type} {own : Nat → Prop} {I : β → World → Prop} (h : AbidesW own I) {s : β} {W : World} (o : Obj) (hs : I s W) : I s (W.alloc o) :=
  h s W _ none hs (World.grownBy_alloc W o none) (fun r e => by cases e)
theorem AbidesW.putObj {β : Type} {own : Nat → Prop} {I : β → World → Prop} (h : AbidesW own I) {s : β} {W : World} {l : Nat} (o : Obj) (hs : I s W) (hl : own l) : I s (W.putObj l o) :=
  h s W _ (some l) hs (grownBy_putObj' W l o) (fun r e => by cases e; exact hl)
theorem AbidesW.mono {β : Type} {own own' : Nat → Prop} {I : β → World → Prop} (h : AbidesW own I) (ho : ∀ r, own' r → own r) : AbidesW own' I :=
  fun s W W' row hs hg hr => h s W W' row hs hg (fun r e => ho r (hr r e))

/-- An iterator that gives xs, and keeps its state in the blocks 'own'. -/
def SeqW {α : Type} (F : Fence) (n : Nat) (P : Program) (g : Nat) (lb : Array Value) (encs : α → Array Value) (xs : List α) (own : Nat → Prop) (w : World) : Prop :=
  ∀ (l : Nat) (J Jx : List α → World → Prop) (W : World), Below w.heap.size w W → AbidesW own J → AbidesW own Jx →
    (∀ pre x rest W1, xs = pre ++ x :: rest → J pre W1 → YieldAt F (n - 1) P l (encs x) W1 fun e W' =>
      (e = .returned (.bool true) ∧ J (pre ++ [x]) W' ∧ KeepsOn own W1 W') ∨ (e = .returned (.bool false) ∧ Jx (pre ++ [x]) W')) →
    J [] W →
    CallsIn F n P g (#[.func (.yield l) #[] #[]] ++ lb) W fun e W' => (∃ v, e = .returned v) ∧ (J xs W' ∨ ∃ pre, Jx pre W')

/-- How the body of a round may be left. -/
def postW {α : Type} (own : Nat → Prop) (I : List α → World → Prop) (Ix : Code → List α → World → Prop) (xs : List α) (W : World) : Exit → Act → World → Prop
  | .normal, _, W' => KeepsOn own W W' ∧ I xs W'
  | .ret, _, W' => KeepsOn own W W' ∧ Ix .ret xs W'
  | .exit id, _, W' => KeepsOn own W W' ∧ Ix (.exit id) xs W'
  | .goto t, _, W' => KeepsOn own W W' ∧ Ix (.goto t) xs W'
  | .panic _, _, _ => False
  | .outgrown, _, _ => False

variable {F : Fence} {n : Nat}
theorem wpIn_rangeFunc_w {α : Type} {g : Operand} {ps : Array Tmp} {assign body : Code} {Q : Exit → Act → World → Prop} {a : Act} {w : World}
    (hro : F.round = none) (h1 : 1 ≤ n) {gf : Nat} {lb : Array Value} (hg : a.eval g = .func (.func gf) #[] lb) (hFg : F.fn gf) (eg : ∀ args w, (callFunc gf args).run P w = .ok (.enter gf args) w)
    {encs : α → Array Value} {xs : List α} {own : Nat → Prop} {w0 : World} (hseq : SeqW F (n - 1) P gf lb encs xs own w0) (hown : ∀ k, own k → k < w.heap.size) (hb0 : Below w0.heap.size w0 w) (hps : ∀ x, (encs x).size = ps.size)
    (I : List α → World → Prop) (Ix : Code → List α → World → Prop) (IA : List α → α → Act → World → Prop)
    (hI : AbidesW (fun r => own r ∨ r = w.heap.size ∨ r = w.heap.size + 1) I) (hIx : ∀ c, AbidesW (fun r => own r ∨ r = w.heap.size ∨ r = w.heap.size + 1) (Ix c)) (hIA : ∀ pre x a', AbidesW (fun r => own r ∨ r = w.heap.size ∨ r = w.heap.size + 1) (fun (_ : Unit) W => IA pre x a' W)) (h0 : I [] w)
    (hassign : ∀ (l : Nat) (pre : List α) (x : α) (rest : List α) (W : World) (K : Act → World → Prop), xs = pre ++ x :: rest → I pre W → w.heap.size + 1 < W.heap.size → (∀ a' W', KeepsOn (fun r => own r ∨ r = w.heap.size ∨ r = w.heap.size + 1) W W' → IA pre x a' W' → K a' W') →
      assign.wpIn (F.inRound l) (n - 1 - 1) P (Exit.then K (fun _ _ _ => False)) { tmps := (ps.zip (encs x)).foldl (fun t (p, v) => t.setIfInBounds p v) a.tmps, defers := [] } W)
    (hbody : ∀ (l : Nat) (pre : List α) (x : α) (rest : List α) (a' : Act) (W : World), xs = pre ++ x :: rest → IA pre x a' W → w.heap.size + 1 < W.heap.size → body.wpIn (F.inRound l) (n - 1 - 1) P (postW (fun r => own r ∨ r = w.heap.size ∨ r = w.heap.size + 1) I Ix (pre ++ [x]) W) a' W)
    (hdone : ∀ (W : World), I xs W → W.heap[w.heap.size]? = some (.deferred (some [])) → Q .normal { a with defers := { target := .collected w.heap.size, args := #[] } :: a.defers } W)
    (hstop : ∀ (c : Code) (pre : List α) (W : World), Ix c pre W → W.heap[w.heap.size]? = some (.deferred (some [])) → c.wpIn F n P Q { a with defers := { target := .collected w.heap.size, args := #[] } :: a.defers } W) :
    (Code.rangeFunc g ps assign body).wpIn F n P Q a w := by
  refine wpIn_rangeFunc ?_
  intro fn hfn
  rw [hro]
  obtain ⟨rec, hrec⟩ : ∃ rec : LoopState → Option Code → Loop, rec = fun st pe => { state := st, pending := pe, fn, tmps := a.tmps, params := ps, assign, body, defers := w.heap.size } := ⟨_, rfl⟩
  obtain ⟨W1, hW1⟩ : ∃ W1, (w.alloc (.deferred (some []))).alloc (.loop (rec .ready none)) = W1 := ⟨_, rfl⟩
  have hL1 : W1.heap[w.heap.size + 1]? = some (.loop (rec .ready none)) := by
    rw [← hW1]; have := World.alloc_heap_new (w.alloc (.deferred (some []))) (.loop (rec .ready none)); rwa [World.size_alloc] at this
  have hK1 : W1.heap[w.heap.size]? = some (.deferred (some [])) := by
    rw [← hW1]; exact (Below.heap_alloc _ _ _ (by simp)).trans (World.alloc_heap_new w _)
  have hI1 : I [] W1 := by rw [← hW1]; exact hI.alloc _ (hI.alloc _ h0)
  have hb1 : Below w0.heap.size w0 W1 := by
    rw [← hW1]; exact hb0.trans ((((Below.refl _ w).alloc (Nat.le_refl _) _).alloc (by simp) _).mono hb0.size)
  refine ⟨w.heap.size + 1, [{ target := .collected w.heap.size, args := #[] }], W1, { target := .fn (.func gf) lb, args := #[.func (.yield (w.heap.size + 1)) #[] #[]] }, W1, gf,
    #[.func (.yield (w.heap.size + 1)) #[] #[]] ++ lb, W1, ?_, ?_, ?_, ?_, fun _ => h1, ?_⟩
  · rw [← hW1, hrec]; exact run_enterLoop_outer _ _ _ _ _
  · simp only [resolve, hg]
    simp [go_sem]
  · intro f' hf'; simp [Target.leads] at hf'; subst hf'; exact hFg
  · simp [invoke, go_sem, eg]
  · have hkeep : ∀ {A B : World} {row : Option Nat} {k : Nat} {o : Obj}, A.grownBy B row → (∀ r, row = some r → own r) → w.heap.size ≤ k → A.heap[k]? = some o → B.heap[k]? = some o := fun hg' hr hk ho => by
      refine (hg'.block _ (Array.getElem?_eq_some_iff.1 ho).1 (fun e => ?_)).trans ho
      have := hown _ (hr _ e.symm)
      omega
    refine (hseq (w.heap.size + 1)
      (fun pre W => I pre W ∧ W.heap[w.heap.size + 1]? = some (.loop (rec .ready none)) ∧ W.heap[w.heap.size]? = some (.deferred (some [])))
      (fun pre W => ∃ c, Ix c pre W ∧ W.heap[w.heap.size + 1]? = some (.loop (rec .done (some c))) ∧ W.heap[w.heap.size]? = some (.deferred (some [])))
      W1 hb1
      (fun s A B row hs hg' hr => ⟨hI s A B row hs.1 hg' (fun r e => .inl (hr r e)), hkeep hg' hr (by omega) hs.2.1, hkeep hg' hr (Nat.le_refl _) hs.2.2⟩)
      (fun s A B row hs hg' hr => by
        obtain ⟨c, hc, hl, hk⟩ := hs
        exact ⟨c, hIx c s A B row hc hg' (fun r e => .inl (hr r e)), hkeep hg' hr (by omega) hl, hkeep hg' hr (Nat.le_refl _) hk⟩)
      ?_ ⟨hI1, hL1, hK1⟩).mono ?_
    · -- one round
      rintro pre x rest W hxs ⟨hi, hl, hk⟩
      have hlt : w.heap.size + 1 < W.heap.size := (Array.getElem?_eq_some_iff.1 hl).1
      have hy := run_yield (P := P) (args := encs x) hl (by rw [hrec]; exact hps x)
      rw [hrec] at hy
      refine ⟨fn, _, assign, body, hy, roundIn_of_wpIn hfn (hassign _ pre x rest W _ hxs hi hlt ?_)⟩
      clear hy
      intro a' Wa hka hia
      have hl1 := (hka _ (.inr (.inr rfl))).trans hl
      have hk1 := (hka _ (.inr (.inl rfl))).trans hk
      have hlta : w.heap.size + 1 < Wa.heap.size := (Array.getElem?_eq_some_iff.1 hl1).1
      refine ⟨_, run_beginRound hl1 (by rw [hrec]), ?_⟩
      have hl2 : (Wa.putObj (w.heap.size + 1) (.loop { rec .ready none with state := .busy })).heap[w.heap.size + 1]? = some (.loop { rec .ready none with state := .busy }) := World.putObj_heap_same hlta
      have hk2 : (Wa.putObj (w.heap.size + 1) (.loop { rec .ready none with state := .busy })).heap[w.heap.size]? = some (.deferred (some [])) := (World.putObj_heap_other (by omega)).trans hk1
      have ho2 : KeepsOn own Wa (Wa.putObj (w.heap.size + 1) (.loop { rec .ready none with state := .busy })) := fun k hk' => World.putObj_heap_other (by have := hown k hk'; omega)
      refine wpIn_mono (hbody _ pre x rest a' _ hxs ((hIA pre x a').putObj (s := ()) _ hia (.inr (.inr rfl))) (by simpa using hlta)) ?_
      have fin : ∀ (jump : Option Code) (W3 : World), KeepsOn (fun r => own r ∨ r = w.heap.size ∨ r = w.heap.size + 1) (Wa.putObj (w.heap.size + 1) (.loop { rec .ready none with state := .busy })) W3 →
          (Instr.endRound (w.heap.size + 1) jump).run P W3 = .ok (.bool jump.isNone) (W3.putObj (w.heap.size + 1) (.loop (rec (if jump.isNone then .ready else .done) jump))) ∧
          (W3.putObj (w.heap.size + 1) (.loop (rec (if jump.isNone then .ready else .done) jump))).heap[w.heap.size + 1]? = some (.loop (rec (if jump.isNone then .ready else .done) jump)) ∧
          (W3.putObj (w.heap.size + 1) (.loop (rec (if jump.isNone then .ready else .done) jump))).heap[w.heap.size]? = some (.deferred (some [])) := fun jump W3 hk3 => by
        have hl3 := (hk3 _ (.inr (.inr rfl))).trans hl2
        have := run_endRound (P := P) jump hl3
        rw [hrec] at this ⊢
        exact ⟨this, World.putObj_heap_same (Array.getElem?_eq_some_iff.1 hl3).1, (World.putObj_heap_other (by omega)).trans ((hk3 _ (.inr (.inl rfl))).trans hk2)⟩
      rintro e a3 W3 hp
      cases e with
      | normal =>
        obtain ⟨hk3, hi3⟩ := hp
        obtain ⟨hr, hl4, hk4⟩ := fin none W3 hk3
        refine ⟨_, _, hr, .inl ⟨rfl, ⟨hI.putObj _ hi3 (.inr (.inr rfl)), hl4, hk4⟩, fun k hk' => ?_⟩⟩
        have hne : k ≠ w.heap.size + 1 := by have := hown k hk'; omega
        rw [World.putObj_heap_other hne, hk3 k (.inl hk'), ho2 k hk', hka k (.inl hk')]
      | ret =>
        obtain ⟨hk3, hi3⟩ := hp
        obtain ⟨hr, hl4, hk4⟩ := fin (some .ret) W3 hk3
        exact ⟨_, _, hr, .inr ⟨rfl, .ret, (hIx _).putObj _ hi3 (.inr (.inr rfl)), hl4, hk4⟩⟩
      | exit id =>
        obtain ⟨hk3, hi3⟩ := hp
        obtain ⟨hr, hl4, hk4⟩ := fin (some (.exit id)) W3 hk3
        exact ⟨_, _, hr, .inr ⟨rfl, .exit id, (hIx _).putObj _ hi3 (.inr (.inr rfl)), hl4, hk4⟩⟩
      | goto t =>
        obtain ⟨hk3, hi3⟩ := hp
        obtain ⟨hr, hl4, hk4⟩ := fin (some (.goto t)) W3 hk3
        exact ⟨_, _, hr, .inr ⟨rfl, .goto t, (hIx _).putObj _ hi3 (.inr (.inr rfl)), hl4, hk4⟩⟩
      | panic ch => exact hp.elim
      | outgrown => exact hp.elim
    · -- behind the iterator
      rintro e W2 ⟨⟨v, rfl⟩, (⟨hi, hl, hk⟩ | ⟨pre, c, hi, hl, hk⟩)⟩
      · exact ⟨none, _, by have := run_endLoop (P := P) hl (by rw [hrec]; simp); rw [hrec] at this; exact this, hdone _ (hI.putObj _ hi (.inr (.inr rfl))) ((World.putObj_heap_other (by omega)).trans hk)⟩
      · exact ⟨some c, _, by have := run_endLoop (P := P) hl (by rw [hrec]; simp); rw [hrec] at this; exact this, hstop c pre _ ((hIx c).putObj _ hi (.inr (.inr rfl))) ((World.putObj_heap_other (by omega)).trans hk)⟩
end Go.Cd
namespace Go.Cd
open Go Go.RowKit
theorem abidesW_heap {β : Type} {own : Nat → Prop} {k : Nat} {o : β → Obj} (h : ∀ r, own r → r ≠ k) : AbidesW own (fun s W => W.heap[k]? = some (o s)) := fun _ _ _ _ hs hg hr =>
  (hg.block k (Array.getElem?_eq_some_iff.1 hs).1 (fun e => h k (hr k e.symm) rfl)).trans hs
theorem abidesW_below {β : Type} {own : Nat → Prop} {B : Nat} {w : World} (hw : B ≤ w.heap.size) (h : ∀ r, own r → B ≤ r) : AbidesW own (fun (_ : β) W => Below B w W) := fun _ _ _ _ hs hg hr =>
  hs.grown hg (Nat.le_trans hw hs.size) (fun k e => h k (hr k e))
theorem abidesW_and {β : Type} {own : Nat → Prop} {I I' : β → World → Prop} (h : AbidesW own I) (h' : AbidesW own I') : AbidesW own (fun s W => I s W ∧ I' s W) := fun s W W' row hs hg hr => ⟨h s W W' row hs.1 hg hr, h' s W W' row hs.2 hg hr⟩
theorem abidesW_pure {β : Type} {own : Nat → Prop} {p : β → Prop} : AbidesW own (fun s _ => p s) := fun _ _ _ _ hs _ _ => hs
end Go.Cd
/- The iterator over the lanes of a word. Written by genLanes.py. -/
namespace Go.Proofs.Ytpooghnemlnopaa
open Go Go.RowKit Go.Cd
set_option linter.unusedVariables false
attribute [local go_sem] Oper.semAt_some

def laneE (x : Int × Int) : Array Value := #[.int .i64 x.1, .int .u32 x.2]
def lanesL (wd m : Int) (c : Nat) : List (Int × Int) := (List.range c).map fun k : Nat => (wd * (k : Int), m)
theorem lanesL_get (wd m : Int) (c k : Nat) (h : k < c) : lanesL wd m c = lanesL wd m k ++ (wd * k, m) :: (lanesL wd m c).drop (k + 1) := by
  have h1 : (lanesL wd m c).take k = lanesL wd m k := by
    unfold lanesL
    rw [← List.map_take, List.take_range, Nat.min_eq_left (by omega)]
  have h2 : (lanesL wd m c)[k]? = some (wd * k, m) := by unfold lanesL; simp [h]
  conv => lhs; rw [← List.take_append_drop k (lanesL wd m c), h1]
  rw [List.drop_eq_getElem_cons (by unfold lanesL; simp [h])]
  congr 1
  have := (List.getElem?_eq_some_iff.1 h2).2
  rw [this]
theorem lanesL_snoc (wd m : Int) (k : Nat) : lanesL wd m (k + 1) = lanesL wd m k ++ [(wd * k, m)] := by
  unfold lanesL
  rw [List.range_succ, List.map_append]
  rfl
set_option maxHeartbeats 1000000 in
theorem lanes1_0 (n : Nat) (bd : Nat) (w : World) (hbd : bd < w.heap.size) (hd : w.cell? ⟨bd, 0, none⟩ = some (.int .i64 0)) :
    SeqW Fence.wide n Try.prog 84 #[.pointer (some ⟨bd, 0, none⟩)] laneE (lanesL 8 255 4) (fun _ => False) w := by
  intro l J Jx W hW hJ hJx hY h0
  have hcd := (hW.cell (p := ⟨bd, 0, none⟩) hbd).trans hd
  refine callsIn_of_wp Try.func84 rfl trivial ?_ rfl
  simp only [Try.ntmps84, List.size_toArray, List.length_cons, List.length_nil, Nat.reduceAdd, Nat.reduceSub, Array.replicate_succ, Array.replicate_zero, List.push_toArray, List.append_toArray, List.nil_append, List.cons_append]
  have HY := Lib.hid hY
  have HJ := Lib.hid hJ
  clear hY hJ hJx
  gi_wp2_with fail
  clear hcd
  gi_loopw [4] (fun i wr => ∃ k : Nat, k ≤ 4 ∧ i = .int .i64 (8 * k) ∧ J (lanesL 8 255 k) wr) (fun i _ => 33 - (intOf i).toNat)
  case atStart => exact ⟨0, Nat.zero_le _, rfl, h0⟩
  case round =>
    obtain ⟨k, hk, rfl, hJs⟩ := hrel
    have HJS := Lib.hid hJs
    clear hJs h0
    by_cases hlt : k < 4
    · obtain ⟨fn, tmps, assign, body, hy, hR⟩ := HY.out (lanesL 8 255 k) (8 * k, 255) _ wr (lanesL_get 8 255 4 k hlt) HJS.out
      unfold laneE at hy
      dsimp only at hy
      have HR := Lib.hid hR
      clear hR
      gi_wp2
      refine ⟨fun h => (by simp [Fence.wide] at h), ?_⟩
      refine HR.out.mono ?_
      rintro e W' (⟨rfl, hJ', hk'⟩ | ⟨rfl, hJx'⟩)
      · rw [← lanesL_snoc] at hJ'
        have HJ' := Lib.hid hJ'
        clear hJ' hk'
        gi_wp2
        go_roundw
        case rel => exact ⟨k + 1, by omega, by rw [show ((k + 1 : Nat) : Int) = k + 1 by omega]; simp; omega, HJ'.out⟩
        case measure => simp [intOf]; omega
      · have HJ' := Lib.hid hJx'
        clear hJx'
        gi_wp2
        refine bodyPost_ret (results_none rfl _ _ _) rfl ?_
        exact ⟨⟨_, rfl⟩, .inr ⟨_, HJ'.out⟩⟩
    · obtain rfl : k = 4 := by omega
      gi_wp2
      first | go_end0 | refine bodyPost_ret (results_none rfl _ _ _) rfl ?_
      exact ⟨⟨_, rfl⟩, .inl HJS.out⟩
set_option maxHeartbeats 1000000 in
theorem lanes1_1 (n : Nat) (bd : Nat) (w : World) (hbd : bd < w.heap.size) (hd : w.cell? ⟨bd, 0, none⟩ = some (.int .i64 1)) :
    SeqW Fence.wide n Try.prog 84 #[.pointer (some ⟨bd, 0, none⟩)] laneE (lanesL 16 65535 2) (fun _ => False) w := by
  intro l J Jx W hW hJ hJx hY h0
  have hcd := (hW.cell (p := ⟨bd, 0, none⟩) hbd).trans hd
  refine callsIn_of_wp Try.func84 rfl trivial ?_ rfl
  simp only [Try.ntmps84, List.size_toArray, List.length_cons, List.length_nil, Nat.reduceAdd, Nat.reduceSub, Array.replicate_succ, Array.replicate_zero, List.push_toArray, List.append_toArray, List.nil_append, List.cons_append]
  have HY := Lib.hid hY
  have HJ := Lib.hid hJ
  clear hY hJ hJx
  gi_wp2_with fail
  clear hcd
  gi_loopw [4] (fun i wr => ∃ k : Nat, k ≤ 2 ∧ i = .int .i64 (16 * k) ∧ J (lanesL 16 65535 k) wr) (fun i _ => 33 - (intOf i).toNat)
  case atStart => exact ⟨0, Nat.zero_le _, rfl, h0⟩
  case round =>
    obtain ⟨k, hk, rfl, hJs⟩ := hrel
    have HJS := Lib.hid hJs
    clear hJs h0
    by_cases hlt : k < 2
    · obtain ⟨fn, tmps, assign, body, hy, hR⟩ := HY.out (lanesL 16 65535 k) (16 * k, 65535) _ wr (lanesL_get 16 65535 2 k hlt) HJS.out
      unfold laneE at hy
      dsimp only at hy
      have HR := Lib.hid hR
      clear hR
      gi_wp2
      refine ⟨fun h => (by simp [Fence.wide] at h), ?_⟩
      refine HR.out.mono ?_
      rintro e W' (⟨rfl, hJ', hk'⟩ | ⟨rfl, hJx'⟩)
      · rw [← lanesL_snoc] at hJ'
        have HJ' := Lib.hid hJ'
        clear hJ' hk'
        gi_wp2
        go_roundw
        case rel => exact ⟨k + 1, by omega, by rw [show ((k + 1 : Nat) : Int) = k + 1 by omega]; simp; omega, HJ'.out⟩
        case measure => simp [intOf]; omega
      · have HJ' := Lib.hid hJx'
        clear hJx'
        gi_wp2
        refine bodyPost_ret (results_none rfl _ _ _) rfl ?_
        exact ⟨⟨_, rfl⟩, .inr ⟨_, HJ'.out⟩⟩
    · obtain rfl : k = 2 := by omega
      gi_wp2
      first | go_end0 | refine bodyPost_ret (results_none rfl _ _ _) rfl ?_
      exact ⟨⟨_, rfl⟩, .inl HJS.out⟩
set_option maxHeartbeats 1000000 in
theorem lanes1_2 (n : Nat) (bd : Nat) (w : World) (hbd : bd < w.heap.size) (hd : w.cell? ⟨bd, 0, none⟩ = some (.int .i64 2)) :
    SeqW Fence.wide n Try.prog 84 #[.pointer (some ⟨bd, 0, none⟩)] laneE (lanesL 32 4294967295 1) (fun _ => False) w := by
  intro l J Jx W hW hJ hJx hY h0
  have hcd := (hW.cell (p := ⟨bd, 0, none⟩) hbd).trans hd
  refine callsIn_of_wp Try.func84 rfl trivial ?_ rfl
  simp only [Try.ntmps84, List.size_toArray, List.length_cons, List.length_nil, Nat.reduceAdd, Nat.reduceSub, Array.replicate_succ, Array.replicate_zero, List.push_toArray, List.append_toArray, List.nil_append, List.cons_append]
  have HY := Lib.hid hY
  have HJ := Lib.hid hJ
  clear hY hJ hJx
  gi_wp2_with fail
  clear hcd
  gi_loopw [4] (fun i wr => ∃ k : Nat, k ≤ 1 ∧ i = .int .i64 (32 * k) ∧ J (lanesL 32 4294967295 k) wr) (fun i _ => 33 - (intOf i).toNat)
  case atStart => exact ⟨0, Nat.zero_le _, rfl, h0⟩
  case round =>
    obtain ⟨k, hk, rfl, hJs⟩ := hrel
    have HJS := Lib.hid hJs
    clear hJs h0
    by_cases hlt : k < 1
    · obtain ⟨fn, tmps, assign, body, hy, hR⟩ := HY.out (lanesL 32 4294967295 k) (32 * k, 4294967295) _ wr (lanesL_get 32 4294967295 1 k hlt) HJS.out
      unfold laneE at hy
      dsimp only at hy
      have HR := Lib.hid hR
      clear hR
      gi_wp2
      refine ⟨fun h => (by simp [Fence.wide] at h), ?_⟩
      refine HR.out.mono ?_
      rintro e W' (⟨rfl, hJ', hk'⟩ | ⟨rfl, hJx'⟩)
      · rw [← lanesL_snoc] at hJ'
        have HJ' := Lib.hid hJ'
        clear hJ' hk'
        gi_wp2
        go_roundw
        case rel => exact ⟨k + 1, by omega, by rw [show ((k + 1 : Nat) : Int) = k + 1 by omega]; simp; omega, HJ'.out⟩
        case measure => simp [intOf]; omega
      · have HJ' := Lib.hid hJx'
        clear hJx'
        gi_wp2
        refine bodyPost_ret (results_none rfl _ _ _) rfl ?_
        exact ⟨⟨_, rfl⟩, .inr ⟨_, HJ'.out⟩⟩
    · obtain rfl : k = 1 := by omega
      gi_wp2
      first | go_end0 | refine bodyPost_ret (results_none rfl _ _ _) rfl ?_
      exact ⟨⟨_, rfl⟩, .inl HJS.out⟩
end Go.Proofs.Ytpooghnemlnopaa
