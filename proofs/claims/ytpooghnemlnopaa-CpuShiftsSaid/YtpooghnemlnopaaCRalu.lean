/- The contract of the specification's Alu. Written by genRalu.py. -/
import Derived.Test.YtpooghnemlnopaaCAlu
namespace Go.Proofs.Ytpooghnemlnopaa
open Go Go.RowKit Go.Cd
set_option linter.unusedVariables false

theorem signed_c (a : Int) (w : World) (h : 0 ≤ a) (h' : a < 4294967296) : Calls Try.prog 40 #[.int .u32 a] w fun e w' => e = .returned (.int .i64 (sg a)) ∧ New w w' := by
  go_enter Try.func40, Try.ntmps40
  go_wp2
  go_ret
  refine ⟨ret_int ?_, New.refl _⟩
  rw [wrap_sg a h h']
  refine IntWalk.wrap64_in _ ?_
  unfold sg
  split <;> omega
def wideB (n : Int) : Bool := decide (n < -2147483648) || decide (2147483647 < n)
theorem wide_c (n : Int) (w : World) : Calls Try.prog 39 #[.int .i64 n] w fun e w' => e = .returned (.bool (wideB n)) ∧ New w w' := by
  by_cases h : n < -2147483648
  · go_enter Try.func39, Try.ntmps39
    go_wp2
    go_ret
    exact ⟨ret_bool (by unfold wideB; simp [h]), New.refl _⟩
  · go_enter Try.func39, Try.ntmps39
    go_wp2
    all_goals go_ret
    all_goals exact ⟨ret_bool (by unfold wideB; simp; omega), New.refl _⟩
set_option maxHeartbeats 1000000 in
theorem flagsOf_c (r : Int) (c v : Bool) (w : World) (h : 0 ≤ r) (h' : r < 4294967296) :
    Calls Try.prog 38 #[.int .u32 r, .bool c, .bool v] w fun e w' => e = .returned (.int .i64 (flagNum (r == 0) (r / 2147483648 == 1) c v)) ∧ New w w' := by
  have hsg : (r / 2147483648 == 1) = decide (sg r < 0) := by
    rw [Bool.eq_iff_iff, beq_iff_eq, decide_eq_true_iff]
    unfold sg
    split <;> omega
  obtain ⟨z, hz⟩ : ∃ z, (r == 0) = z := ⟨_, rfl⟩
  obtain ⟨n, hn⟩ : ∃ n, decide (sg r < 0) = n := ⟨_, rfl⟩
  rw [hsg, hz, hn]
  clear hsg
  cases z <;> cases n <;> cases c <;> cases v
  all_goals
    go_enter Try.func38, Try.ntmps38
    go_wp2_with (go_at_call 40; refine (signed_c _ _ h h').mono ?_; rintro e w1 ⟨rfl, hb1⟩)
    go_ret
    exact ⟨rfl, hb1⟩
theorem ret_alu {r r' f f' : Int} {b : Bool} (h : r = r') (h' : f = f') : Ending.returned (.tuple #[.int .u32 r, .int .i64 f, .bool b]) = Ending.returned (.tuple #[.int .u32 r', .int .i64 f', .bool b]) := by rw [h, h']
theorem wide_ne (n m : Int) (h : m = (n + 2147483648) % 4294967296 - 2147483648) : wideB n = decide (n ≠ m) := by
  unfold wideB
  rw [Bool.eq_iff_iff]
  simp
  omega
theorem sg_mod (n : Int) : sg (n % 4294967296) = (n + 2147483648) % 4294967296 - 2147483648 := by
  unfold sg
  split <;> omega
theorem sg_sum (a b c : Int) : (sg a + sg b + c + 2147483648) % 4294967296 = (a + b + c + 2147483648) % 4294967296 := by
  unfold sg
  repeat' split
  all_goals omega
theorem sg_dif (a b c : Int) : (sg a - sg b - c + 2147483648) % 4294967296 = (a - b - c + 2147483648) % 4294967296 := by
  unfold sg
  repeat' split
  all_goals omega
theorem wide_sum (a b c : Int) : wideB (sg a + sg b + c) = sumV a b c := by
  unfold sumV
  refine wide_ne _ _ ?_
  rw [sg_mod, sg_sum]
theorem wide_dif (a b c : Int) : wideB (sg a - sg b - c) = difV a b c := by
  unfold difV
  refine wide_ne _ _ ?_
  rw [sg_mod, sg_dif]
theorem sg_bd (a : Int) (h : 0 ≤ a ∧ a < 4294967296) : -2147483648 ≤ sg a ∧ sg a < 2147483648 := by
  unfold sg
  split <;> omega
theorem carry_le (a b c : Int) (ha : 0 ≤ a ∧ a < 4294967296) (hb : 0 ≤ b ∧ b < 4294967296) (hc : 0 ≤ c ∧ c ≤ 1) : decide (4294967296 ≤ a + b + c) = sumC a b c := by
  unfold sumC
  rw [Bool.eq_iff_iff, decide_eq_true_iff, beq_iff_eq]
  omega
theorem fl_sum (a b c : Int) (ha : 0 ≤ a ∧ a < 4294967296) (hb : 0 ≤ b ∧ b < 4294967296) (hc : 0 ≤ c ∧ c ≤ 1) :
    flagNum ((a + b + c) % 4294967296 == 0) ((a + b + c) % 4294967296 / 2147483648 == 1) (decide (4294967296 ≤ a + b + c)) (wideB (sg a + sg b + c)) = sumFl a b c := by
  rw [wide_sum, carry_le a b c ha hb hc]
  rfl
theorem fl_sum0 (a b : Int) (ha : 0 ≤ a ∧ a < 4294967296) (hb : 0 ≤ b ∧ b < 4294967296) :
    flagNum ((a + b) % 4294967296 == 0) ((a + b) % 4294967296 / 2147483648 == 1) (decide (4294967296 ≤ a + b)) (wideB (sg a + sg b)) = sumFl a b 0 := by
  have h := fl_sum a b 0 ha hb (by omega)
  simpa only [Int.add_zero] using h
theorem fl_dif (a b c : Int) : flagNum ((a - b - c) % 4294967296 == 0) ((a - b - c) % 4294967296 / 2147483648 == 1) (decide (a < b + c)) (wideB (sg a - sg b - c)) = difFl a b c := by
  rw [wide_dif]
  rfl
theorem fl_dif0 (a b : Int) : flagNum ((a - b) % 4294967296 == 0) ((a - b) % 4294967296 / 2147483648 == 1) (decide (a < b)) (wideB (sg a - sg b)) = difFl a b 0 := by
  have h := fl_dif a b 0
  simpa only [Int.add_zero, Int.sub_zero] using h
set_option maxRecDepth 100000 in
set_option maxHeartbeats 1000000 in
theorem ralu_3 (a b k : Int) (w : World) (ha : 0 ≤ a ∧ a < 4294967296) (hb : 0 ≤ b ∧ b < 4294967296) :
    Calls Try.prog 13 #[.int .i64 3, .int .u32 a, .int .u32 b, .int .i64 k] w (AluPost (aluT 3 a b k) w) := by
  have hm := and1_i64 k
  have HW := Lib.hid (New.refl w)
  have sa := sg_bd a ha
  have sb := sg_bd b hb
  go_enter Try.func13, Try.ntmps13
  go_wp2_with (first
    | (go_at_call 40; refine (signed_c _ _ (by omega) (by omega)).mono ?_; rintro e w1 ⟨rfl, hb⟩; have HW := Lib.hid (HW.out.trans (hb.mono HW.out.size)); clear hb)
    | (go_at_call 39; refine (wide_c _ _).mono ?_; rintro e w1 ⟨rfl, hb⟩; have HW := Lib.hid (HW.out.trans (hb.mono HW.out.size)); clear hb)
    | (go_at_call 38; refine (flagsOf_c _ _ _ _ (by omega) (by omega)).mono ?_; rintro e w1 ⟨rfl, hb⟩; have HW := Lib.hid (HW.out.trans (hb.mono HW.out.size)); clear hb))
  go_ret3
  refine ⟨ret_alu ?_ ?_, HW.out⟩
  · show _ = sumR a b 0
    unfold sumR
    rw [Int.add_zero]
  · exact fl_sum0 a b ha hb
set_option maxRecDepth 100000 in
set_option maxHeartbeats 1000000 in
theorem ralu_4 (a b k : Int) (w : World) (ha : 0 ≤ a ∧ a < 4294967296) (hb : 0 ≤ b ∧ b < 4294967296) :
    Calls Try.prog 13 #[.int .i64 4, .int .u32 a, .int .u32 b, .int .i64 k] w (AluPost (aluT 4 a b k) w) := by
  have hm := and1_i64 k
  have HW := Lib.hid (New.refl w)
  have sa := sg_bd a ha
  have sb := sg_bd b hb
  go_enter Try.func13, Try.ntmps13
  go_wp2_with (first
    | (go_at_call 40; refine (signed_c _ _ (by omega) (by omega)).mono ?_; rintro e w1 ⟨rfl, hb⟩; have HW := Lib.hid (HW.out.trans (hb.mono HW.out.size)); clear hb)
    | (go_at_call 39; refine (wide_c _ _).mono ?_; rintro e w1 ⟨rfl, hb⟩; have HW := Lib.hid (HW.out.trans (hb.mono HW.out.size)); clear hb)
    | (go_at_call 38; refine (flagsOf_c _ _ _ _ (by omega) (by omega)).mono ?_; rintro e w1 ⟨rfl, hb⟩; have HW := Lib.hid (HW.out.trans (hb.mono HW.out.size)); clear hb))
  go_ret3
  refine ⟨ret_alu ?_ ?_, HW.out⟩
  · show _ = difR a b 0
    unfold difR
    rw [Int.sub_zero]
  · exact fl_dif0 a b
set_option maxRecDepth 100000 in
set_option maxHeartbeats 1000000 in
theorem ralu_16 (a b k : Int) (w : World) (ha : 0 ≤ a ∧ a < 4294967296) (hb : 0 ≤ b ∧ b < 4294967296) :
    Calls Try.prog 13 #[.int .i64 16, .int .u32 a, .int .u32 b, .int .i64 k] w (AluPost (aluT 16 a b k) w) := by
  have hm := and1_i64 k
  have HW := Lib.hid (New.refl w)
  have sa := sg_bd a ha
  have sb := sg_bd b hb
  have k0 : 0 ≤ k % 2 := by omega
  have k1 : k % 2 ≤ 1 := by omega
  go_enter Try.func13, Try.ntmps13
  go_wp2_with (first
    | (go_at_call 40; refine (signed_c _ _ (by omega) (by omega)).mono ?_; rintro e w1 ⟨rfl, hb⟩; have HW := Lib.hid (HW.out.trans (hb.mono HW.out.size)); clear hb)
    | (go_at_call 39; refine (wide_c _ _).mono ?_; rintro e w1 ⟨rfl, hb⟩; have HW := Lib.hid (HW.out.trans (hb.mono HW.out.size)); clear hb)
    | (go_at_call 38; refine (flagsOf_c _ _ _ _ (by omega) (by omega)).mono ?_; rintro e w1 ⟨rfl, hb⟩; have HW := Lib.hid (HW.out.trans (hb.mono HW.out.size)); clear hb))
  go_ret3
  refine ⟨ret_alu ?_ ?_, HW.out⟩
  · show _ = sumR a b (k % 2)
    unfold sumR
    first | rfl | omega
  · exact fl_sum a b (k % 2) ha hb (by omega)
set_option maxRecDepth 100000 in
set_option maxHeartbeats 1000000 in
theorem ralu_17 (a b k : Int) (w : World) (ha : 0 ≤ a ∧ a < 4294967296) (hb : 0 ≤ b ∧ b < 4294967296) :
    Calls Try.prog 13 #[.int .i64 17, .int .u32 a, .int .u32 b, .int .i64 k] w (AluPost (aluT 17 a b k) w) := by
  have hm := and1_i64 k
  have HW := Lib.hid (New.refl w)
  have sa := sg_bd a ha
  have sb := sg_bd b hb
  have k0 : 0 ≤ k % 2 := by omega
  have k1 : k % 2 ≤ 1 := by omega
  go_enter Try.func13, Try.ntmps13
  go_wp2_with (first
    | (go_at_call 40; refine (signed_c _ _ (by omega) (by omega)).mono ?_; rintro e w1 ⟨rfl, hb⟩; have HW := Lib.hid (HW.out.trans (hb.mono HW.out.size)); clear hb)
    | (go_at_call 39; refine (wide_c _ _).mono ?_; rintro e w1 ⟨rfl, hb⟩; have HW := Lib.hid (HW.out.trans (hb.mono HW.out.size)); clear hb)
    | (go_at_call 38; refine (flagsOf_c _ _ _ _ (by omega) (by omega)).mono ?_; rintro e w1 ⟨rfl, hb⟩; have HW := Lib.hid (HW.out.trans (hb.mono HW.out.size)); clear hb))
  go_ret3
  refine ⟨ret_alu ?_ ?_, HW.out⟩
  · show _ = difR a b (k % 2)
    unfold difR
    first | rfl | omega
  · exact fl_dif a b (k % 2)
set_option maxRecDepth 100000 in
set_option maxHeartbeats 1000000 in
theorem ralu_5 (a b k : Int) (w : World) (ha : 0 ≤ a ∧ a < 4294967296) (hb : 0 ≤ b ∧ b < 4294967296) :
    Calls Try.prog 13 #[.int .i64 5, .int .u32 a, .int .u32 b, .int .i64 k] w (AluPost (aluT 5 a b k) w) := by
  have hm := and1_i64 k
  have HW := Lib.hid (New.refl w)
  have sa := sg_bd a ha
  have sb := sg_bd b hb
  go_enter Try.func13, Try.ntmps13
  go_wp2_with (go_at_call 38; refine (flagsOf_c _ _ _ _ (bits_nonneg _ _ _) (bits_lt _ _ _)).mono ?_; rintro e w1 ⟨rfl, hb⟩; have HW := Lib.hid (HW.out.trans (hb.mono HW.out.size)); clear hb)
  go_ret3
  exact ⟨rfl, HW.out⟩
set_option maxRecDepth 100000 in
set_option maxHeartbeats 1000000 in
theorem ralu_6 (a b k : Int) (w : World) (ha : 0 ≤ a ∧ a < 4294967296) (hb : 0 ≤ b ∧ b < 4294967296) :
    Calls Try.prog 13 #[.int .i64 6, .int .u32 a, .int .u32 b, .int .i64 k] w (AluPost (aluT 6 a b k) w) := by
  have hm := and1_i64 k
  have HW := Lib.hid (New.refl w)
  have sa := sg_bd a ha
  have sb := sg_bd b hb
  go_enter Try.func13, Try.ntmps13
  go_wp2_with (go_at_call 38; refine (flagsOf_c _ _ _ _ (bits_nonneg _ _ _) (bits_lt _ _ _)).mono ?_; rintro e w1 ⟨rfl, hb⟩; have HW := Lib.hid (HW.out.trans (hb.mono HW.out.size)); clear hb)
  go_ret3
  exact ⟨rfl, HW.out⟩
set_option maxRecDepth 100000 in
set_option maxHeartbeats 1000000 in
theorem ralu_7 (a b k : Int) (w : World) (ha : 0 ≤ a ∧ a < 4294967296) (hb : 0 ≤ b ∧ b < 4294967296) :
    Calls Try.prog 13 #[.int .i64 7, .int .u32 a, .int .u32 b, .int .i64 k] w (AluPost (aluT 7 a b k) w) := by
  have hm := and1_i64 k
  have HW := Lib.hid (New.refl w)
  have sa := sg_bd a ha
  have sb := sg_bd b hb
  go_enter Try.func13, Try.ntmps13
  go_wp2_with (go_at_call 38; refine (flagsOf_c _ _ _ _ (bits_nonneg _ _ _) (bits_lt _ _ _)).mono ?_; rintro e w1 ⟨rfl, hb⟩; have HW := Lib.hid (HW.out.trans (hb.mono HW.out.size)); clear hb)
  go_ret3
  exact ⟨rfl, HW.out⟩
set_option maxRecDepth 100000 in
set_option maxHeartbeats 1000000 in
theorem ralu_11 (a b k : Int) (w : World) (ha : 0 ≤ a ∧ a < 4294967296) (hb : 0 ≤ b ∧ b < 4294967296) :
    Calls Try.prog 13 #[.int .i64 11, .int .u32 a, .int .u32 b, .int .i64 k] w (AluPost (aluT 11 a b k) w) := by
  have hm := and1_i64 k
  have HW := Lib.hid (New.refl w)
  have sa := sg_bd a ha
  have sb := sg_bd b hb
  go_enter Try.func13, Try.ntmps13
  go_wp2_with (first
    | (go_at_call 40; refine (signed_c _ _ (by omega) (by omega)).mono ?_; rintro e w1 ⟨rfl, hb⟩; have HW := Lib.hid (HW.out.trans (hb.mono HW.out.size)); clear hb)
    | (go_at_call 39; refine (wide_c _ _).mono ?_; rintro e w1 ⟨rfl, hb⟩; have HW := Lib.hid (HW.out.trans (hb.mono HW.out.size)); clear hb)
    | (go_at_call 38; refine (flagsOf_c _ _ _ _ (by omega) (by omega)).mono ?_; rintro e w1 ⟨rfl, hb⟩; have HW := Lib.hid (HW.out.trans (hb.mono HW.out.size)); clear hb))
  go_ret3
  exact ⟨rfl, HW.out⟩
set_option maxRecDepth 100000 in
set_option maxHeartbeats 1000000 in
theorem ralu_12 (a b k : Int) (w : World) (ha : 0 ≤ a ∧ a < 4294967296) (hb : 0 ≤ b ∧ b < 4294967296) :
    Calls Try.prog 13 #[.int .i64 12, .int .u32 a, .int .u32 b, .int .i64 k] w (AluPost (aluT 12 a b k) w) := by
  have hm := and1_i64 k
  have HW := Lib.hid (New.refl w)
  have sa := sg_bd a ha
  have sb := sg_bd b hb
  have h1 : 0 ≤ a * b := Int.mul_nonneg ha.1 hb.1
  have h2 : a * b ≤ 4294967295 * 4294967295 := Int.mul_le_mul (by omega) (by omega) hb.1 (by omega)
  go_enter Try.func13, Try.ntmps13
  go_wp2_with (first
    | (go_at_call 40; refine (signed_c _ _ (by omega) (by omega)).mono ?_; rintro e w1 ⟨rfl, hb⟩; have HW := Lib.hid (HW.out.trans (hb.mono HW.out.size)); clear hb)
    | (go_at_call 39; refine (wide_c _ _).mono ?_; rintro e w1 ⟨rfl, hb⟩; have HW := Lib.hid (HW.out.trans (hb.mono HW.out.size)); clear hb)
    | (go_at_call 38; refine (flagsOf_c _ _ _ _ (by omega) (by omega)).mono ?_; rintro e w1 ⟨rfl, hb⟩; have HW := Lib.hid (HW.out.trans (hb.mono HW.out.size)); clear hb))
  go_ret3
  refine ⟨ret_alu ?_ rfl, HW.out⟩
  show _ = a * b / 4294967296
  first | rfl | (rw [IntWalk.u64_in _ (by omega)]; omega)
set_option maxRecDepth 100000 in
set_option maxHeartbeats 1000000 in
theorem ralu_8 (a b k : Int) (w : World) (ha : 0 ≤ a ∧ a < 4294967296) (hb : 0 ≤ b ∧ b < 4294967296) (hz : ¬ b % 32 = 0) :
    Calls Try.prog 13 #[.int .i64 8, .int .u32 a, .int .u32 b, .int .i64 k] w (AluPost (aluT 8 a b k) w) := by
  have hm := and1_i64 k
  have HW := Lib.hid (New.refl w)
  have sa := sg_bd a ha
  have sb := sg_bd b hb
  have HS := Lib.hid (shlR_bd a (b % 32))
  have b0 : 0 ≤ b := hb.1
  have a0 : 0 ≤ a := ha.1
  have c0 : 0 ≤ b % 32 := by omega
  have c1 : b % 32 < 32 := by omega
  have hd : 0 < b % 32 := by omega
  have hq := and_1_div a ha.1 ha.2 (32 - b % 32).toNat
  go_enter Try.func13, Try.ntmps13
  go_wp2_with (go_at_call 38; refine (flagsOf_c _ _ _ _ HS.out.1 HS.out.2).mono ?_; rintro e w1 ⟨rfl, hb⟩; have HW := Lib.hid (HW.out.trans (hb.mono HW.out.size)); clear hb)
  go_ret3
  refine ⟨ret_alu rfl ?_, HW.out⟩
  show _ = shFl (shlR a (b % 32)) a (b % 32) true
  unfold shFl outS
  rw [if_neg hz, if_pos rfl]
set_option maxRecDepth 100000 in
set_option maxHeartbeats 1000000 in
theorem ralu_8z (a b k : Int) (w : World) (ha : 0 ≤ a ∧ a < 4294967296) (hb : 0 ≤ b ∧ b < 4294967296) (hz : b % 32 = 0) :
    Calls Try.prog 13 #[.int .i64 8, .int .u32 a, .int .u32 b, .int .i64 k] w (AluPost (aluT 8 a b k) w) := by
  have hm := and1_i64 k
  have HW := Lib.hid (New.refl w)
  have sa := sg_bd a ha
  have sb := sg_bd b hb
  have HS := Lib.hid (shlR_bd a (b % 32))
  have b0 : 0 ≤ b := hb.1
  have a0 : 0 ≤ a := ha.1
  have c0 : 0 ≤ b % 32 := by omega
  have c1 : b % 32 < 32 := by omega
  have hd : ¬ 0 < b % 32 := by omega
  have HZ := Lib.hid hz
  clear hz
  go_enter Try.func13, Try.ntmps13
  go_wp2_with (go_at_call 38; refine (flagsOf_c _ _ _ _ HS.out.1 HS.out.2).mono ?_; rintro e w1 ⟨rfl, hb⟩; have HW := Lib.hid (HW.out.trans (hb.mono HW.out.size)); clear hb)
  go_ret3
  refine ⟨ret_alu rfl ?_, HW.out⟩
  show _ = shFl (shlR a (b % 32)) a (b % 32) true
  unfold shFl outS
  rw [if_pos HZ.out]
set_option maxRecDepth 100000 in
set_option maxHeartbeats 1000000 in
theorem ralu_9 (a b k : Int) (w : World) (ha : 0 ≤ a ∧ a < 4294967296) (hb : 0 ≤ b ∧ b < 4294967296) (hz : ¬ b % 32 = 0) :
    Calls Try.prog 13 #[.int .i64 9, .int .u32 a, .int .u32 b, .int .i64 k] w (AluPost (aluT 9 a b k) w) := by
  have hm := and1_i64 k
  have HW := Lib.hid (New.refl w)
  have sa := sg_bd a ha
  have sb := sg_bd b hb
  have HS := Lib.hid (shrR_bd a (b % 32) ha)
  have b0 : 0 ≤ b := hb.1
  have a0 : 0 ≤ a := ha.1
  have c0 : 0 ≤ b % 32 := by omega
  have c1 : b % 32 < 32 := by omega
  have hd : 0 < b % 32 := by omega
  have hq := and_1_div a ha.1 ha.2 (b % 32 - 1).toNat
  go_enter Try.func13, Try.ntmps13
  go_wp2_with (go_at_call 38; refine (flagsOf_c _ _ _ _ HS.out.1 HS.out.2).mono ?_; rintro e w1 ⟨rfl, hb⟩; have HW := Lib.hid (HW.out.trans (hb.mono HW.out.size)); clear hb)
  go_ret3
  refine ⟨ret_alu rfl ?_, HW.out⟩
  show _ = shFl (shrR a (b % 32)) a (b % 32) false
  unfold shFl outS
  rw [if_neg hz, if_neg (by decide), and_1_div a ha.1 ha.2, show (b % 32).toNat - 1 = (b % 32 - 1).toNat by omega]
set_option maxRecDepth 100000 in
set_option maxHeartbeats 1000000 in
theorem ralu_9z (a b k : Int) (w : World) (ha : 0 ≤ a ∧ a < 4294967296) (hb : 0 ≤ b ∧ b < 4294967296) (hz : b % 32 = 0) :
    Calls Try.prog 13 #[.int .i64 9, .int .u32 a, .int .u32 b, .int .i64 k] w (AluPost (aluT 9 a b k) w) := by
  have hm := and1_i64 k
  have HW := Lib.hid (New.refl w)
  have sa := sg_bd a ha
  have sb := sg_bd b hb
  have HS := Lib.hid (shrR_bd a (b % 32) ha)
  have b0 : 0 ≤ b := hb.1
  have a0 : 0 ≤ a := ha.1
  have c0 : 0 ≤ b % 32 := by omega
  have c1 : b % 32 < 32 := by omega
  have hd : ¬ 0 < b % 32 := by omega
  have HZ := Lib.hid hz
  clear hz
  go_enter Try.func13, Try.ntmps13
  go_wp2_with (go_at_call 38; refine (flagsOf_c _ _ _ _ HS.out.1 HS.out.2).mono ?_; rintro e w1 ⟨rfl, hb⟩; have HW := Lib.hid (HW.out.trans (hb.mono HW.out.size)); clear hb)
  go_ret3
  refine ⟨ret_alu rfl ?_, HW.out⟩
  show _ = shFl (shrR a (b % 32)) a (b % 32) false
  unfold shFl outS
  rw [if_pos HZ.out]
set_option maxRecDepth 100000 in
set_option maxHeartbeats 1000000 in
theorem ralu_10 (a b k : Int) (w : World) (ha : 0 ≤ a ∧ a < 4294967296) (hb : 0 ≤ b ∧ b < 4294967296) (hz : ¬ b % 32 = 0) :
    Calls Try.prog 13 #[.int .i64 10, .int .u32 a, .int .u32 b, .int .i64 k] w (AluPost (aluT 10 a b k) w) := by
  have hm := and1_i64 k
  have HW := Lib.hid (New.refl w)
  have sa := sg_bd a ha
  have sb := sg_bd b hb
  have HS := Lib.hid (sarR_bd a (b % 32))
  have b0 : 0 ≤ b := hb.1
  have a0 : 0 ≤ a := ha.1
  have c0 : 0 ≤ b % 32 := by omega
  have c1 : b % 32 < 32 := by omega
  have hd : 0 < b % 32 := by omega
  have hq := and_1_div a ha.1 ha.2 (b % 32 - 1).toNat
  go_enter Try.func13, Try.ntmps13
  go_wp2_with (go_at_call 38; refine (flagsOf_c _ _ _ _ HS.out.1 HS.out.2).mono ?_; rintro e w1 ⟨rfl, hb⟩; have HW := Lib.hid (HW.out.trans (hb.mono HW.out.size)); clear hb)
  go_ret3
  refine ⟨ret_alu rfl ?_, HW.out⟩
  show _ = shFl (sarR a (b % 32)) a (b % 32) false
  unfold shFl outS
  rw [if_neg hz, if_neg (by decide), and_1_div a ha.1 ha.2, show (b % 32).toNat - 1 = (b % 32 - 1).toNat by omega]
set_option maxRecDepth 100000 in
set_option maxHeartbeats 1000000 in
theorem ralu_10z (a b k : Int) (w : World) (ha : 0 ≤ a ∧ a < 4294967296) (hb : 0 ≤ b ∧ b < 4294967296) (hz : b % 32 = 0) :
    Calls Try.prog 13 #[.int .i64 10, .int .u32 a, .int .u32 b, .int .i64 k] w (AluPost (aluT 10 a b k) w) := by
  have hm := and1_i64 k
  have HW := Lib.hid (New.refl w)
  have sa := sg_bd a ha
  have sb := sg_bd b hb
  have HS := Lib.hid (sarR_bd a (b % 32))
  have b0 : 0 ≤ b := hb.1
  have a0 : 0 ≤ a := ha.1
  have c0 : 0 ≤ b % 32 := by omega
  have c1 : b % 32 < 32 := by omega
  have hd : ¬ 0 < b % 32 := by omega
  have HZ := Lib.hid hz
  clear hz
  go_enter Try.func13, Try.ntmps13
  go_wp2_with (go_at_call 38; refine (flagsOf_c _ _ _ _ HS.out.1 HS.out.2).mono ?_; rintro e w1 ⟨rfl, hb⟩; have HW := Lib.hid (HW.out.trans (hb.mono HW.out.size)); clear hb)
  go_ret3
  refine ⟨ret_alu rfl ?_, HW.out⟩
  show _ = shFl (sarR a (b % 32)) a (b % 32) false
  unfold shFl outS
  rw [if_pos HZ.out]
set_option maxRecDepth 100000 in
set_option maxHeartbeats 1000000 in
theorem ralu_13 (a b k : Int) (w : World) (ha : 0 ≤ a ∧ a < 4294967296) (hb : 0 ≤ b ∧ b < 4294967296) (hz : ¬ b = 0) :
    Calls Try.prog 13 #[.int .i64 13, .int .u32 a, .int .u32 b, .int .i64 k] w (AluPost (aluT 13 a b k) w) := by
  have hm := and1_i64 k
  have HW := Lib.hid (New.refl w)
  have sa := sg_bd a ha
  have sb := sg_bd b hb
  rw [show aluT 13 a b k = (a / b, 0, true) from by unfold aluT; simp [hz]]
  have e0 : (b == 0) = false := by simp [hz]
  have h1 : ¬ b = 0 := hz
  have hs : ¬ sg b = 0 := sg_ne b (by omega) hb.2
  clear hz
  go_enter Try.func13, Try.ntmps13
  go_wp2_with (first
    | (go_at_call 40; refine (signed_c _ _ (by omega) (by omega)).mono ?_; rintro e w1 ⟨rfl, hb⟩; have HW := Lib.hid (HW.out.trans (hb.mono HW.out.size)); clear hb)
    | (go_at_call 39; refine (wide_c _ _).mono ?_; rintro e w1 ⟨rfl, hb⟩; have HW := Lib.hid (HW.out.trans (hb.mono HW.out.size)); clear hb)
    | (go_at_call 38; refine (flagsOf_c _ _ _ _ (by omega) (by omega)).mono ?_; rintro e w1 ⟨rfl, hb⟩; have HW := Lib.hid (HW.out.trans (hb.mono HW.out.size)); clear hb))
  go_ret3
  refine ⟨ret_alu ?_ rfl, HW.out⟩
  first | rfl | (show _ = divS a b; unfold divS; unfold wrap64; omega)
set_option maxRecDepth 100000 in
set_option maxHeartbeats 1000000 in
theorem ralu_14 (a b k : Int) (w : World) (ha : 0 ≤ a ∧ a < 4294967296) (hb : 0 ≤ b ∧ b < 4294967296) (hz : ¬ b = 0) :
    Calls Try.prog 13 #[.int .i64 14, .int .u32 a, .int .u32 b, .int .i64 k] w (AluPost (aluT 14 a b k) w) := by
  have hm := and1_i64 k
  have HW := Lib.hid (New.refl w)
  have sa := sg_bd a ha
  have sb := sg_bd b hb
  rw [show aluT 14 a b k = (a % b, 0, true) from by unfold aluT; simp [hz]]
  have e0 : (b == 0) = false := by simp [hz]
  have h1 : ¬ b = 0 := hz
  have hs : ¬ sg b = 0 := sg_ne b (by omega) hb.2
  clear hz
  go_enter Try.func13, Try.ntmps13
  go_wp2_with (first
    | (go_at_call 40; refine (signed_c _ _ (by omega) (by omega)).mono ?_; rintro e w1 ⟨rfl, hb⟩; have HW := Lib.hid (HW.out.trans (hb.mono HW.out.size)); clear hb)
    | (go_at_call 39; refine (wide_c _ _).mono ?_; rintro e w1 ⟨rfl, hb⟩; have HW := Lib.hid (HW.out.trans (hb.mono HW.out.size)); clear hb)
    | (go_at_call 38; refine (flagsOf_c _ _ _ _ (by omega) (by omega)).mono ?_; rintro e w1 ⟨rfl, hb⟩; have HW := Lib.hid (HW.out.trans (hb.mono HW.out.size)); clear hb))
  go_ret3
  refine ⟨ret_alu ?_ rfl, HW.out⟩
  first | rfl | (show _ = divS a b; unfold divS; unfold wrap64; omega)
set_option maxRecDepth 100000 in
set_option maxHeartbeats 1000000 in
theorem ralu_15 (a b k : Int) (w : World) (ha : 0 ≤ a ∧ a < 4294967296) (hb : 0 ≤ b ∧ b < 4294967296) (hz : ¬ b = 0) :
    Calls Try.prog 13 #[.int .i64 15, .int .u32 a, .int .u32 b, .int .i64 k] w (AluPost (aluT 15 a b k) w) := by
  have hm := and1_i64 k
  have HW := Lib.hid (New.refl w)
  have sa := sg_bd a ha
  have sb := sg_bd b hb
  rw [show aluT 15 a b k = (divS a b, 0, true) from by unfold aluT; simp [hz]]
  have e0 : (b == 0) = false := by simp [hz]
  have h1 : ¬ b = 0 := hz
  have hs : ¬ sg b = 0 := sg_ne b (by omega) hb.2
  clear hz
  go_enter Try.func13, Try.ntmps13
  go_wp2_with (first
    | (go_at_call 40; refine (signed_c _ _ (by omega) (by omega)).mono ?_; rintro e w1 ⟨rfl, hb⟩; have HW := Lib.hid (HW.out.trans (hb.mono HW.out.size)); clear hb)
    | (go_at_call 39; refine (wide_c _ _).mono ?_; rintro e w1 ⟨rfl, hb⟩; have HW := Lib.hid (HW.out.trans (hb.mono HW.out.size)); clear hb)
    | (go_at_call 38; refine (flagsOf_c _ _ _ _ (by omega) (by omega)).mono ?_; rintro e w1 ⟨rfl, hb⟩; have HW := Lib.hid (HW.out.trans (hb.mono HW.out.size)); clear hb))
  go_ret3
  refine ⟨ret_alu ?_ rfl, HW.out⟩
  first | rfl | (show _ = divS a b; unfold divS; unfold wrap64; omega)
set_option maxRecDepth 100000 in
set_option maxHeartbeats 1000000 in
theorem ralu_div0 (op a k : Int) (w : World) (h : op = 13 ∨ op = 14 ∨ op = 15) :
    Calls Try.prog 13 #[.int .i64 op, .int .u32 a, .int .u32 0, .int .i64 k] w (AluPost (aluT op a 0 k) w) := by
  have hm := and1_i64 k
  rcases h with rfl | rfl | rfl
  all_goals
    go_enter Try.func13, Try.ntmps13
    go_wp2
    go_ret3
    exact ⟨rfl, New.refl _⟩
set_option maxRecDepth 100000 in
set_option maxHeartbeats 1000000 in
theorem ralu_out (op a b k : Int) (w : World) (z : Bool) (e0 : (b == 0) = z) (hb : 0 ≤ b) (h : op < 3 ∨ 17 < op) :
    Calls Try.prog 13 #[.int .i64 op, .int .u32 a, .int .u32 b, .int .i64 k] w (AluPost (aluT op a b k) w) := by
  have hm := and1_i64 k
  have ht : aluT op a b k = (0, 0, false) := by
    unfold aluT
    repeat rw [if_neg (by omega)]
    split
    · rfl
    · repeat rw [if_neg (by omega)]
  rw [ht]
  clear ht
  have n3 : (op == 3) = false := by simp; omega
  have n4 : (op == 4) = false := by simp; omega
  have n5 : (op == 5) = false := by simp; omega
  have n6 : (op == 6) = false := by simp; omega
  have n7 : (op == 7) = false := by simp; omega
  have n8 : (op == 8) = false := by simp; omega
  have n9 : (op == 9) = false := by simp; omega
  have n10 : (op == 10) = false := by simp; omega
  have n11 : (op == 11) = false := by simp; omega
  have n12 : (op == 12) = false := by simp; omega
  have n13 : (op == 13) = false := by simp; omega
  have n14 : (op == 14) = false := by simp; omega
  have n15 : (op == 15) = false := by simp; omega
  have n16 : (op == 16) = false := by simp; omega
  have n17 : (op == 17) = false := by simp; omega
  clear h
  cases z
  all_goals
    go_enter Try.func13, Try.ntmps13
    go_wp2
    go_ret3
    exact ⟨rfl, New.refl _⟩
theorem ralu_c (op a b k : Int) (w : World) (ha : 0 ≤ a ∧ a < 4294967296) (hb : 0 ≤ b ∧ b < 4294967296) :
    Calls Try.prog 13 #[.int .i64 op, .int .u32 a, .int .u32 b, .int .i64 k] w (AluPost (aluT op a b k) w) := by
  by_cases ho : op < 3 ∨ 17 < op
  · exact ralu_out op a b k w _ rfl hb.1 ho
  · have hc : op = 3 ∨ op = 4 ∨ op = 5 ∨ op = 6 ∨ op = 7 ∨ op = 8 ∨ op = 9 ∨ op = 10 ∨ op = 11 ∨ op = 12 ∨ op = 13 ∨ op = 14 ∨ op = 15 ∨ op = 16 ∨ op = 17 := by omega
    rcases hc with rfl | rfl | rfl | rfl | rfl | rfl | rfl | rfl | rfl | rfl | rfl | rfl | rfl | rfl | rfl
    · exact ralu_3 a b k w ha hb
    · exact ralu_4 a b k w ha hb
    · exact ralu_5 a b k w ha hb
    · exact ralu_6 a b k w ha hb
    · exact ralu_7 a b k w ha hb
    · by_cases hz : b % 32 = 0
      · exact ralu_8z a b k w ha hb hz
      · exact ralu_8 a b k w ha hb hz
    · by_cases hz : b % 32 = 0
      · exact ralu_9z a b k w ha hb hz
      · exact ralu_9 a b k w ha hb hz
    · by_cases hz : b % 32 = 0
      · exact ralu_10z a b k w ha hb hz
      · exact ralu_10 a b k w ha hb hz
    · exact ralu_11 a b k w ha hb
    · exact ralu_12 a b k w ha hb
    · by_cases hz : b = 0
      · rw [hz]; exact ralu_div0 13 a k w (by omega)
      · exact ralu_13 a b k w ha hb hz
    · by_cases hz : b = 0
      · rw [hz]; exact ralu_div0 14 a k w (by omega)
      · exact ralu_14 a b k w ha hb hz
    · by_cases hz : b = 0
      · rw [hz]; exact ralu_div0 15 a k w (by omega)
      · exact ralu_15 a b k w ha hb hz
    · exact ralu_16 a b k w ha hb
    · exact ralu_17 a b k w ha hb
end Go.Proofs.Ytpooghnemlnopaa
