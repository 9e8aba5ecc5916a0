/- Parts of the proof: PlainFlags, WRefB, WNormal, WRefC, WSane2, KitSlice. -/
import Derived.Test.YtmkjgkldbonpnaaZ2
import Derived.Test.YtmkjgkldbonpnaaRows
import Derived.Test.YtmkjgkldbonpnaaZ0
import Derived.ChangeSlices
import Derived.RowKit3
import Derived.Laws.IdiomElems
import Derived.Laws.IdiomAt
import Derived.RowKit2
/- Plain laws: what the specification's Flags computes is what thunk.Flags computes. -/
namespace Go.Proofs.Ytmkjgkldbonpnaa
open Go Go.RowKit Go.Cd
set_option linter.unusedVariables false

theorem sg_bd (a : Int) (h : 0 ≤ a) (h' : a < 4294967296) : -2147483648 ≤ sg a ∧ sg a ≤ 2147483647 := by unfold sg; split <;> omega
theorem pf_add (d1 d2 c : Int) (h1 : 0 ≤ d1) (h1' : d1 < 4294967296) (h2 : 0 ≤ d2) (h2' : d2 < 4294967296) (hc : 0 ≤ c) (hc' : c ≤ 1) :
    flagNum ((d1 + d2 + c) % 4294967296 == 0) ((d1 + d2 + c) % 4294967296 / 2147483648 == 1) (decide (4294967296 ≤ d1 + d2 + c)) (sg d1 + sg d2 + c != sg ((d1 + d2 + c) % 4294967296)) =
      flagNum (sumR d1 d2 c == 0) (sumR d1 d2 c / 2147483648 == 1) (sumC d1 d2 c) (sumV d1 d2 c) := by
  have e : decide (4294967296 ≤ d1 + d2 + c) = sumC d1 d2 c := by
    unfold sumC; rw [Bool.eq_iff_iff, beq_iff_eq, decide_eq_true_iff]; omega
  have e' : (sg d1 + sg d2 + c != sg ((d1 + d2 + c) % 4294967296)) = sumV d1 d2 c := by
    unfold sumV; rw [Bool.eq_iff_iff, bne_iff_ne, decide_eq_true_iff]
  rw [e, e']; rfl
theorem pf_sub (d1 d2 c : Int) (h1 : 0 ≤ d1) (h1' : d1 < 4294967296) (h2 : 0 ≤ d2) (h2' : d2 < 4294967296) (hc : 0 ≤ c) (hc' : c ≤ 1) :
    flagNum ((d1 - d2 - c) % 4294967296 == 0) ((d1 - d2 - c) % 4294967296 / 2147483648 == 1) (decide (d1 < d2 + c)) (sg d1 - sg d2 - c != sg ((d1 - d2 - c) % 4294967296)) =
      flagNum (difR d1 d2 c == 0) (difR d1 d2 c / 2147483648 == 1) (difC d1 d2 c) (difV d1 d2 c) := by
  have e' : (sg d1 - sg d2 - c != sg ((d1 - d2 - c) % 4294967296)) = difV d1 d2 c := by
    unfold difV; rw [Bool.eq_iff_iff, bne_iff_ne, decide_eq_true_iff]
  rw [e']; rfl
theorem pf_1 (d1 d2 d3 : Int) (h1 : 0 ≤ d1) (h1' : d1 < 4294967296) (h2 : 0 ≤ d2) (h2' : d2 < 4294967296) :
    flagNum ((d1 + d2) % 4294967296 == 0) ((d1 + d2) % 4294967296 / 2147483648 == 1) (decide (4294967296 ≤ d1 + d2)) (sg d1 + sg d2 != sg ((d1 + d2) % 4294967296)) = flagsF 1 d1 d2 d3 := by
  have h := pf_add d1 d2 0 h1 h1' h2 h2' (by decide) (by decide)
  simp only [Int.add_zero] at h
  exact h
theorem pf_2 (d1 d2 d3 : Int) (h1 : 0 ≤ d1) (h1' : d1 < 4294967296) (h2 : 0 ≤ d2) (h2' : d2 < 4294967296) :
    flagNum ((d1 - d2) % 4294967296 == 0) ((d1 - d2) % 4294967296 / 2147483648 == 1) (decide (d1 < d2)) (sg d1 - sg d2 != sg ((d1 - d2) % 4294967296)) = flagsF 2 d1 d2 d3 := by
  have h := pf_sub d1 d2 0 h1 h1' h2 h2' (by decide) (by decide)
  simp only [Int.sub_zero, Int.add_zero] at h
  exact h
theorem pf_3 (d1 d2 d3 : Int) : flagNum (d1 == 0) (d1 / 2147483648 == 1) false false = flagsF 3 d1 d2 d3 := rfl
theorem pf_7 (d1 d2 d3 : Int) (h1 : 0 ≤ d1) (h1' : d1 < 4294967296) (h2 : 0 ≤ d2) (h2' : d2 < 4294967296) :
    flagNum ((d1 + d2 + d3 % 2) % 4294967296 == 0) ((d1 + d2 + d3 % 2) % 4294967296 / 2147483648 == 1) (decide (4294967296 ≤ d1 + d2 + d3 % 2)) (sg d1 + sg d2 + d3 % 2 != sg ((d1 + d2 + d3 % 2) % 4294967296)) = flagsF 7 d1 d2 d3 :=
  pf_add d1 d2 (d3 % 2) h1 h1' h2 h2' (by omega) (by omega)
theorem pf_8 (d1 d2 d3 : Int) (h1 : 0 ≤ d1) (h1' : d1 < 4294967296) (h2 : 0 ≤ d2) (h2' : d2 < 4294967296) :
    flagNum ((d1 - d2 - d3 % 2) % 4294967296 == 0) ((d1 - d2 - d3 % 2) % 4294967296 / 2147483648 == 1) (decide (d1 < d2 + d3 % 2)) (sg d1 - sg d2 - d3 % 2 != sg ((d1 - d2 - d3 % 2) % 4294967296)) = flagsF 8 d1 d2 d3 :=
  pf_sub d1 d2 (d3 % 2) h1 h1' h2 h2' (by omega) (by omega)
theorem pf_4a (d1 d2 d3 : Int) (h : 0 < d2 % 32) :
    flagNum (d1 * 2 ^ (d2 % 32).toNat % 4294967296 == 0) (d1 * 2 ^ (d2 % 32).toNat % 4294967296 / 2147483648 == 1) (d1 / 2 ^ (-(d2 % 32) % 32).toNat % 2 == 1) false = flagsF 4 d1 d2 d3 := by
  have e : (d1 / 2 ^ (-(d2 % 32) % 32).toNat % 2 == 1) = outB d1 (d2 % 32) (32 - d2 % 32) := by
    unfold outB
    rw [show (32 - d2 % 32) % 32 = -(d2 % 32) % 32 by omega, decide_eq_true h, Bool.true_and]
  rw [e]; rfl
theorem pf_4b (d1 d2 d3 : Int) (h : ¬ 0 < d2 % 32) :
    flagNum (d1 * 2 ^ (d2 % 32).toNat % 4294967296 == 0) (d1 * 2 ^ (d2 % 32).toNat % 4294967296 / 2147483648 == 1) false false = flagsF 4 d1 d2 d3 := by
  have e : false = outB d1 (d2 % 32) (32 - d2 % 32) := by
    unfold outB
    rw [decide_eq_false h, Bool.false_and]
  conv => lhs; arg 3; rw [e]
  rfl
theorem pf_5a (d1 d2 d3 : Int) (h : 0 < d2 % 32) :
    flagNum (d1 / 2 ^ (d2 % 32).toNat == 0) (d1 / 2 ^ (d2 % 32).toNat / 2147483648 == 1) (d1 / 2 ^ ((d2 + 31) % 32).toNat % 2 == 1) false = flagsF 5 d1 d2 d3 := by
  have e : (d1 / 2 ^ ((d2 + 31) % 32).toNat % 2 == 1) = outB d1 (d2 % 32) ((d2 % 32 - 1) % 4294967296) := by
    unfold outB
    rw [show (d2 % 32 - 1) % 4294967296 % 32 = (d2 + 31) % 32 by omega, decide_eq_true h, Bool.true_and]
  rw [e]; rfl
theorem pf_5b (d1 d2 d3 : Int) (h : ¬ 0 < d2 % 32) :
    flagNum (d1 / 2 ^ (d2 % 32).toNat == 0) (d1 / 2 ^ (d2 % 32).toNat / 2147483648 == 1) false false = flagsF 5 d1 d2 d3 := by
  have e : false = outB d1 (d2 % 32) ((d2 % 32 - 1) % 4294967296) := by
    unfold outB
    rw [decide_eq_false h, Bool.false_and]
  conv => lhs; arg 3; rw [e]
  rfl
/-- The arithmetic shift, as the specification writes it. -/
theorem sar_or (d : Int) (k : Nat) (h0 : 2147483648 ≤ d) (h1 : d < 4294967296) (hk : 1 ≤ k) (hk' : k ≤ 31) :
    bits .or .u32 (d / 2 ^ k) (4294967295 * 2 ^ (32 - k) % 4294967296) = wrap32 d / 2 ^ k % 4294967296 := by
  obtain ⟨j, rfl⟩ : ∃ j, k = j := ⟨k, rfl⟩
  obtain ⟨n, rfl⟩ := Int.eq_ofNat_of_zero_le (show 0 ≤ d by omega)
  have hw : wrap32 (n : Int) = (n : Int) - 4294967296 := by unfold wrap32; omega
  rw [hw]
  have hp : (2 : Int) ^ k = ((2 ^ k : Nat) : Int) := by simp
  have hq : (2 : Int) ^ (32 - k) = ((2 ^ (32 - k) : Nat) : Int) := by simp
  have hpq : 2 ^ k * 2 ^ (32 - k) = 4294967296 := by
    rw [← Nat.pow_add, show k + (32 - k) = 32 by omega]
  have hp0 : 0 < 2 ^ k := Nat.two_pow_pos k
  have hp1 : 2 ≤ 2 ^ k := by
    have := Nat.pow_le_pow_right (n := 2) (by decide) hk
    simpa using this
  have hq0 : 0 < 2 ^ (32 - k) := Nat.two_pow_pos _
  have hq1 : 2 ≤ 2 ^ (32 - k) := by
    have := Nat.pow_le_pow_right (n := 2) (by decide) (show 1 ≤ 32 - k by omega)
    simpa using this
  rw [hp, hq]
  generalize hP : 2 ^ k = p at *
  generalize hQ : 2 ^ (32 - k) = q at *
  have hlt : n / p < q := by
    rw [Nat.div_lt_iff_lt_mul hp0, Nat.mul_comm, hpq]; omega
  have hqlt : q < 4294967296 := by
    have : q * 2 ≤ q * p := Nat.mul_le_mul_left _ hp1
    rw [Nat.mul_comm q p, hpq] at this; omega
  have e1 : (4294967295 * (q : Int)) % 4294967296 = ((4294967296 - q : Nat) : Int) := by omega
  have e2 : 4294967296 - q = q * (p - 1) := by
    rw [Nat.mul_sub, Nat.mul_comm q p, hpq, Nat.mul_one]
  have e3 : ((n : Int) / (p : Int)) = ((n / p : Nat) : Int) := by simp
  obtain ⟨m, hm⟩ : ∃ m, n / p = m := ⟨_, rfl⟩
  rw [hm] at e3 hlt
  rw [e1, e3, or32 _ _ (by omega) (by omega) (by omega) (by omega), Int.toNat_natCast, Int.toNat_natCast, e2, Nat.or_comm]
  have e4 : q * (p - 1) + m = q * (p - 1) ||| m := by
    rw [← hQ] at hlt ⊢
    exact Nat.two_pow_add_eq_or_of_lt hlt _
  rw [← e4]
  have e5 : ((n : Int) - 4294967296) / (p : Int) = (m : Int) - q := by
    have : ((n : Int) - 4294967296) = (n : Int) + (-(q : Int)) * (p : Int) := by
      have : (q : Int) * (p : Int) = 4294967296 := by
        have := congrArg (fun x : Nat => (x : Int)) hpq
        simpa [Int.mul_comm] using this
      rw [Int.neg_mul, this]; omega
    rw [this, Int.add_mul_ediv_right _ _ (by omega), e3]; omega
  rw [e5, ← e2]
  omega
theorem sar_plain (d : Int) (k : Nat) (h0 : 0 ≤ d) (h1 : d < 2147483648) : d / 2 ^ k = wrap32 d / 2 ^ k % 4294967296 := by
  have hw : wrap32 d = d := by unfold wrap32; omega
  rw [hw]
  have hp : (0 : Int) < 2 ^ k := Int.pow_pos (by decide)
  have a := Int.ediv_nonneg h0 (Int.le_of_lt hp)
  have b := Int.lt_of_le_of_lt (Int.ediv_le_self (2 ^ k) h0) h1
  omega
theorem sar_zero (d : Int) (h0 : 0 ≤ d) (h1 : d < 4294967296) : d / 2 ^ (0 : Int).toNat = wrap32 d / 2 ^ (0 : Int).toNat % 4294967296 := by
  unfold wrap32; simp; omega
theorem out_6 (d1 d2 : Int) (h : 0 < d2 % 32) : (d1 / 2 ^ ((d2 + 31) % 32).toNat % 2 == 1) = outB d1 (d2 % 32) ((d2 % 32 - 1) % 4294967296) := by
  unfold outB
  rw [show (d2 % 32 - 1) % 4294967296 % 32 = (d2 + 31) % 32 by omega, decide_eq_true h, Bool.true_and]
theorem pf_6a (d1 d2 d3 : Int) (h1 : 0 ≤ d1) (h1' : d1 < 4294967296) (ht : d1 / 2147483648 % 2 = 1) (h : 0 < d2 % 32) :
    flagNum (bits .or .u32 (d1 / 2 ^ (d2 % 32).toNat) (4294967295 * 2 ^ (32 - d2 % 32).toNat % 4294967296) == 0) (bits .or .u32 (d1 / 2 ^ (d2 % 32).toNat) (4294967295 * 2 ^ (32 - d2 % 32).toNat % 4294967296) / 2147483648 == 1) (d1 / 2 ^ ((d2 + 31) % 32).toNat % 2 == 1) false = flagsF 6 d1 d2 d3 := by
  have e : bits .or .u32 (d1 / 2 ^ (d2 % 32).toNat) (4294967295 * 2 ^ (32 - d2 % 32).toNat % 4294967296) = sarR d1 (d2 % 32) := by
    have := sar_or d1 (d2 % 32).toNat (by omega) h1' (by omega) (by omega)
    rw [show (32 - d2 % 32).toNat = 32 - (d2 % 32).toNat by omega, this]; rfl
  rw [out_6 d1 d2 h, e]; rfl
theorem pf_6b (d1 d2 d3 : Int) (h1 : 0 ≤ d1) (ht : d1 < 2147483648) (h : 0 < d2 % 32) :
    flagNum (d1 / 2 ^ (d2 % 32).toNat == 0) (d1 / 2 ^ (d2 % 32).toNat / 2147483648 == 1) (d1 / 2 ^ ((d2 + 31) % 32).toNat % 2 == 1) false = flagsF 6 d1 d2 d3 := by
  have e : d1 / 2 ^ (d2 % 32).toNat = sarR d1 (d2 % 32) := sar_plain d1 _ h1 ht
  rw [out_6 d1 d2 h, e]; rfl
theorem pf_6c (d1 d2 d3 : Int) (h1 : 0 ≤ d1) (h1' : d1 < 4294967296) (h : d2 % 32 = 0) :
    flagNum (d1 / 2 ^ (d2 % 32).toNat == 0) (d1 / 2 ^ (d2 % 32).toNat / 2147483648 == 1) false false = flagsF 6 d1 d2 d3 := by
  have e : d1 / 2 ^ (d2 % 32).toNat = sarR d1 (d2 % 32) := by
    have := sar_zero d1 h1 h1'
    unfold sarR; rw [h]; exact this
  have e' : false = outB d1 (d2 % 32) ((d2 % 32 - 1) % 4294967296) := by
    unfold outB
    rw [h]; rfl
  rw [e]
  conv => lhs; arg 3; rw [e']
  rfl
end Go.Proofs.Ytmkjgkldbonpnaa
/- Contracts of the specification's Flags. -/
namespace Go.Proofs.Ytmkjgkldbonpnaa
open Go Go.RowKit Go.Cd
set_option linter.unusedVariables false

set_option maxHeartbeats 1000000 in
theorem rflags_1 (d1 d2 d3 : Int) (w : World) (h1 : 0 ≤ d1) (h1' : d1 < 4294967296) (h2 : 0 ≤ d2) (h2' : d2 < 4294967296) (h3 : 0 ≤ d3) (h3' : d3 < 4294967296) :
    Calls Try.prog 25 #[.int .u32 1, .int .u32 d1, .int .u32 d2, .int .u32 d3] w fun e w' => e = .returned (.int .i64 (flagsF 1 d1 d2 d3)) ∧ w = w' := by
  have sb1 := sg_bd d1 h1 h1'
  have sb2 := sg_bd d2 h2 h2'
  go_enter Try.func25, Try.ntmps25
  go_wp2_with (first | (go_at_call 52; refine (rsigned_c _ _ (by omega) (by omega)).mono ?_; rintro e w1 ⟨rfl, rfl⟩) | (go_at_call 53; refine (rbit_c _ _ _ (by omega) (by omega) (by omega) (by omega)).mono ?_; rintro e w1 ⟨rfl, rfl⟩) | (go_at_call 51; refine (rresult_c _ _ _ _ ?_ ?_).mono ?_; (first | omega | exact bits_nonneg _ _ _); (first | omega | exact bits_lt _ _ _); rintro e w1 ⟨rfl, rfl⟩))
  all_goals go_ret
  all_goals refine ⟨ret_int ?_, rfl⟩
  all_goals exact pf_1 d1 d2 d3 h1 h1' h2 h2'
set_option maxHeartbeats 1000000 in
theorem rflags_2 (d1 d2 d3 : Int) (w : World) (h1 : 0 ≤ d1) (h1' : d1 < 4294967296) (h2 : 0 ≤ d2) (h2' : d2 < 4294967296) (h3 : 0 ≤ d3) (h3' : d3 < 4294967296) :
    Calls Try.prog 25 #[.int .u32 2, .int .u32 d1, .int .u32 d2, .int .u32 d3] w fun e w' => e = .returned (.int .i64 (flagsF 2 d1 d2 d3)) ∧ w = w' := by
  have sb1 := sg_bd d1 h1 h1'
  have sb2 := sg_bd d2 h2 h2'
  go_enter Try.func25, Try.ntmps25
  go_wp2_with (first | (go_at_call 52; refine (rsigned_c _ _ (by omega) (by omega)).mono ?_; rintro e w1 ⟨rfl, rfl⟩) | (go_at_call 53; refine (rbit_c _ _ _ (by omega) (by omega) (by omega) (by omega)).mono ?_; rintro e w1 ⟨rfl, rfl⟩) | (go_at_call 51; refine (rresult_c _ _ _ _ ?_ ?_).mono ?_; (first | omega | exact bits_nonneg _ _ _); (first | omega | exact bits_lt _ _ _); rintro e w1 ⟨rfl, rfl⟩))
  all_goals go_ret
  all_goals refine ⟨ret_int ?_, rfl⟩
  all_goals exact pf_2 d1 d2 d3 h1 h1' h2 h2'
set_option maxHeartbeats 1000000 in
theorem rflags_3 (d1 d2 d3 : Int) (w : World) (h1 : 0 ≤ d1) (h1' : d1 < 4294967296) (h2 : 0 ≤ d2) (h2' : d2 < 4294967296) (h3 : 0 ≤ d3) (h3' : d3 < 4294967296) :
    Calls Try.prog 25 #[.int .u32 3, .int .u32 d1, .int .u32 d2, .int .u32 d3] w fun e w' => e = .returned (.int .i64 (flagsF 3 d1 d2 d3)) ∧ w = w' := by
  go_enter Try.func25, Try.ntmps25
  go_wp2_with (first | (go_at_call 52; refine (rsigned_c _ _ (by omega) (by omega)).mono ?_; rintro e w1 ⟨rfl, rfl⟩) | (go_at_call 53; refine (rbit_c _ _ _ (by omega) (by omega) (by omega) (by omega)).mono ?_; rintro e w1 ⟨rfl, rfl⟩) | (go_at_call 51; refine (rresult_c _ _ _ _ ?_ ?_).mono ?_; (first | omega | exact bits_nonneg _ _ _); (first | omega | exact bits_lt _ _ _); rintro e w1 ⟨rfl, rfl⟩))
  all_goals go_ret
  all_goals refine ⟨ret_int ?_, rfl⟩
  all_goals exact pf_3 d1 d2 d3
set_option maxHeartbeats 1000000 in
theorem rflags_4 (d1 d2 d3 : Int) (w : World) (h1 : 0 ≤ d1) (h1' : d1 < 4294967296) (h2 : 0 ≤ d2) (h2' : d2 < 4294967296) (h3 : 0 ≤ d3) (h3' : d3 < 4294967296) :
    Calls Try.prog 25 #[.int .u32 4, .int .u32 d1, .int .u32 d2, .int .u32 d3] w fun e w' => e = .returned (.int .i64 (flagsF 4 d1 d2 d3)) ∧ w = w' := by
  go_enter Try.func25, Try.ntmps25
  go_wp2_with (first | (go_at_call 52; refine (rsigned_c _ _ (by omega) (by omega)).mono ?_; rintro e w1 ⟨rfl, rfl⟩) | (go_at_call 53; refine (rbit_c _ _ _ (by omega) (by omega) (by omega) (by omega)).mono ?_; rintro e w1 ⟨rfl, rfl⟩) | (go_at_call 51; refine (rresult_c _ _ _ _ ?_ ?_).mono ?_; (first | omega | exact bits_nonneg _ _ _); (first | omega | exact bits_lt _ _ _); rintro e w1 ⟨rfl, rfl⟩))
  all_goals go_ret
  all_goals refine ⟨ret_int ?_, rfl⟩
  all_goals first | exact pf_4a d1 d2 d3 (by assumption) | exact pf_4b d1 d2 d3 (by omega)
set_option maxHeartbeats 1000000 in
theorem rflags_5 (d1 d2 d3 : Int) (w : World) (h1 : 0 ≤ d1) (h1' : d1 < 4294967296) (h2 : 0 ≤ d2) (h2' : d2 < 4294967296) (h3 : 0 ≤ d3) (h3' : d3 < 4294967296) :
    Calls Try.prog 25 #[.int .u32 5, .int .u32 d1, .int .u32 d2, .int .u32 d3] w fun e w' => e = .returned (.int .i64 (flagsF 5 d1 d2 d3)) ∧ w = w' := by
  have hs0 : 0 ≤ d1 / 2 ^ (d2 % 32).toNat := Int.ediv_nonneg h1 (Int.le_of_lt (pow_pos' _))
  have hs1 : d1 / 2 ^ (d2 % 32).toNat < 4294967296 := Int.lt_of_le_of_lt (Int.ediv_le_self _ h1) h1'
  go_enter Try.func25, Try.ntmps25
  go_wp2_with (first | (go_at_call 52; refine (rsigned_c _ _ (by omega) (by omega)).mono ?_; rintro e w1 ⟨rfl, rfl⟩) | (go_at_call 53; refine (rbit_c _ _ _ (by omega) (by omega) (by omega) (by omega)).mono ?_; rintro e w1 ⟨rfl, rfl⟩) | (go_at_call 51; refine (rresult_c _ _ _ _ ?_ ?_).mono ?_; (first | omega | exact bits_nonneg _ _ _); (first | omega | exact bits_lt _ _ _); rintro e w1 ⟨rfl, rfl⟩))
  all_goals go_ret
  all_goals refine ⟨ret_int ?_, rfl⟩
  all_goals first | exact pf_5a d1 d2 d3 (by assumption) | exact pf_5b d1 d2 d3 (by omega)
set_option maxHeartbeats 1000000 in
theorem rflags_6 (d1 d2 d3 : Int) (w : World) (h1 : 0 ≤ d1) (h1' : d1 < 4294967296) (h2 : 0 ≤ d2) (h2' : d2 < 4294967296) (h3 : 0 ≤ d3) (h3' : d3 < 4294967296) :
    Calls Try.prog 25 #[.int .u32 6, .int .u32 d1, .int .u32 d2, .int .u32 d3] w fun e w' => e = .returned (.int .i64 (flagsF 6 d1 d2 d3)) ∧ w = w' := by
  have hs0 : 0 ≤ d1 / 2 ^ (d2 % 32).toNat := Int.ediv_nonneg h1 (Int.le_of_lt (pow_pos' _))
  have hs1 : d1 / 2 ^ (d2 % 32).toNat < 4294967296 := Int.lt_of_le_of_lt (Int.ediv_le_self _ h1) h1'
  go_enter Try.func25, Try.ntmps25
  go_wp2_with (first | (go_at_call 52; refine (rsigned_c _ _ (by omega) (by omega)).mono ?_; rintro e w1 ⟨rfl, rfl⟩) | (go_at_call 53; refine (rbit_c _ _ _ (by omega) (by omega) (by omega) (by omega)).mono ?_; rintro e w1 ⟨rfl, rfl⟩) | (go_at_call 51; refine (rresult_c _ _ _ _ ?_ ?_).mono ?_; (first | omega | exact bits_nonneg _ _ _); (first | omega | exact bits_lt _ _ _); rintro e w1 ⟨rfl, rfl⟩))
  all_goals go_ret
  all_goals refine ⟨ret_int ?_, rfl⟩
  all_goals first | exact pf_6a d1 d2 d3 h1 h1' (by assumption) (by assumption) | exact pf_6b d1 d2 d3 h1 (by omega) (by assumption) | exact pf_6c d1 d2 d3 h1 h1' (by omega)
set_option maxHeartbeats 1000000 in
theorem rflags_7 (d1 d2 d3 : Int) (w : World) (h1 : 0 ≤ d1) (h1' : d1 < 4294967296) (h2 : 0 ≤ d2) (h2' : d2 < 4294967296) (h3 : 0 ≤ d3) (h3' : d3 < 4294967296) :
    Calls Try.prog 25 #[.int .u32 7, .int .u32 d1, .int .u32 d2, .int .u32 d3] w fun e w' => e = .returned (.int .i64 (flagsF 7 d1 d2 d3)) ∧ w = w' := by
  have sb1 := sg_bd d1 h1 h1'
  have sb2 := sg_bd d2 h2 h2'
  go_enter Try.func25, Try.ntmps25
  go_wp2_with (first | (go_at_call 52; refine (rsigned_c _ _ (by omega) (by omega)).mono ?_; rintro e w1 ⟨rfl, rfl⟩) | (go_at_call 53; refine (rbit_c _ _ _ (by omega) (by omega) (by omega) (by omega)).mono ?_; rintro e w1 ⟨rfl, rfl⟩) | (go_at_call 51; refine (rresult_c _ _ _ _ ?_ ?_).mono ?_; (first | omega | exact bits_nonneg _ _ _); (first | omega | exact bits_lt _ _ _); rintro e w1 ⟨rfl, rfl⟩))
  all_goals go_ret
  all_goals refine ⟨ret_int ?_, rfl⟩
  all_goals exact pf_7 d1 d2 d3 h1 h1' h2 h2'
set_option maxHeartbeats 1000000 in
theorem rflags_8 (d1 d2 d3 : Int) (w : World) (h1 : 0 ≤ d1) (h1' : d1 < 4294967296) (h2 : 0 ≤ d2) (h2' : d2 < 4294967296) (h3 : 0 ≤ d3) (h3' : d3 < 4294967296) :
    Calls Try.prog 25 #[.int .u32 8, .int .u32 d1, .int .u32 d2, .int .u32 d3] w fun e w' => e = .returned (.int .i64 (flagsF 8 d1 d2 d3)) ∧ w = w' := by
  have sb1 := sg_bd d1 h1 h1'
  have sb2 := sg_bd d2 h2 h2'
  go_enter Try.func25, Try.ntmps25
  go_wp2_with (first | (go_at_call 52; refine (rsigned_c _ _ (by omega) (by omega)).mono ?_; rintro e w1 ⟨rfl, rfl⟩) | (go_at_call 53; refine (rbit_c _ _ _ (by omega) (by omega) (by omega) (by omega)).mono ?_; rintro e w1 ⟨rfl, rfl⟩) | (go_at_call 51; refine (rresult_c _ _ _ _ ?_ ?_).mono ?_; (first | omega | exact bits_nonneg _ _ _); (first | omega | exact bits_lt _ _ _); rintro e w1 ⟨rfl, rfl⟩))
  all_goals go_ret
  all_goals refine ⟨ret_int ?_, rfl⟩
  all_goals exact pf_8 d1 d2 d3 h1 h1' h2 h2'
theorem rflags_0 (d1 d2 d3 : Int) (w : World) (h1 : 0 ≤ d1) (h1' : d1 < 4294967296) (h2 : 0 ≤ d2) (h2' : d2 < 4294967296) :
    Calls Try.prog 25 #[.int .u32 0, .int .u32 d1, .int .u32 d2, .int .u32 d3] w fun e w' => e = .returned (.int .i64 (flagsF 0 d1 d2 d3)) ∧ w = w' := by
  go_enter Try.func25, Try.ntmps25
  go_wp2
  go_ret
  exact ⟨rfl, rfl⟩
theorem rflags_9 (op d1 d2 d3 : Int) (w : World) (h2 : 0 ≤ d2) (h2' : d2 < 4294967296) (ho : 8 < op) :
    Calls Try.prog 25 #[.int .u32 op, .int .u32 d1, .int .u32 d2, .int .u32 d3] w fun e w' => e = .returned (.int .i64 0) ∧ w = w' := by
  go_enter Try.func25, Try.ntmps25
  go_wp2
  all_goals first | (exfalso; omega) | (go_ret; exact ⟨rfl, rfl⟩)
theorem rflags_c (op d1 d2 d3 : Int) (w : World) (ho : 0 ≤ op) (ho' : op < 4294967296) (h1 : 0 ≤ d1) (h1' : d1 < 4294967296) (h2 : 0 ≤ d2) (h2' : d2 < 4294967296) (h3 : 0 ≤ d3) (h3' : d3 < 4294967296) :
    Calls Try.prog 25 #[.int .u32 op, .int .u32 d1, .int .u32 d2, .int .u32 d3] w fun e w' => e = .returned (.int .i64 (flagsF op d1 d2 d3)) ∧ w = w' := by
  by_cases h8 : 8 < op
  · have e : flagsF op d1 d2 d3 = 0 := by unfold flagsF; rw [if_pos h8]
    rw [e]; exact rflags_9 op d1 d2 d3 w h2 h2' h8
  · have hcase : op = 0 ∨ op = 1 ∨ op = 2 ∨ op = 3 ∨ op = 4 ∨ op = 5 ∨ op = 6 ∨ op = 7 ∨ op = 8 := by omega
    rcases hcase with rfl | rfl | rfl | rfl | rfl | rfl | rfl | rfl | rfl
    · exact rflags_0 d1 d2 d3 w h1 h1' h2 h2'
    · exact rflags_1 d1 d2 d3 w h1 h1' h2 h2' h3 h3'
    · exact rflags_2 d1 d2 d3 w h1 h1' h2 h2' h3 h3'
    · exact rflags_3 d1 d2 d3 w h1 h1' h2 h2' h3 h3'
    · exact rflags_4 d1 d2 d3 w h1 h1' h2 h2' h3 h3'
    · exact rflags_5 d1 d2 d3 w h1 h1' h2 h2' h3 h3'
    · exact rflags_6 d1 d2 d3 w h1 h1' h2 h2' h3 h3'
    · exact rflags_7 d1 d2 d3 w h1 h1' h2 h2' h3 h3'
    · exact rflags_8 d1 d2 d3 w h1 h1' h2 h2' h3 h3'
theorem rcond_c (cd op d1 d2 d3 : Int) (w : World) (ho : 0 ≤ op) (ho' : op < 4294967296) (h1 : 0 ≤ d1) (h1' : d1 < 4294967296) (h2 : 0 ≤ d2) (h2' : d2 < 4294967296) (h3 : 0 ≤ d3) (h3' : d3 < 4294967296) :
    Calls Try.prog 28 #[.int .i64 cd, .int .u32 op, .int .u32 d1, .int .u32 d2, .int .u32 d3] w fun e w' => e = .returned (.bool (condF cd op d1 d2 d3)) ∧ w = w' := by
  go_enter Try.func28, Try.ntmps28
  go_wp2_with (first | (go_at_call 25; refine (rflags_c _ _ _ _ _ ho ho' h1 h1' h2 h2' h3 h3').mono ?_; rintro e w1 ⟨rfl, rfl⟩) | (go_at_call 27; refine (rholds_c _ _ _).mono ?_; rintro e w2 ⟨rfl, rfl⟩))
  go_ret
  exact ⟨rfl, rfl⟩
end Go.Proofs.Ytmkjgkldbonpnaa
/- Contracts of thunk.Normal and thunk.Merge. -/
namespace Go.Proofs.Ytmkjgkldbonpnaa
open Go Go.RowKit Go.Cd
set_option linter.unusedVariables false

abbrev Four := Int × Int × Int × Int
def four (t : Four) : Value := .agg #[.int .u32 t.1, .int .u32 t.2.1, .int .u32 t.2.2.1, .int .u32 t.2.2.2]
def norm2 (op d1 d2 : Int) : Four := if d2 = 0 then (3, d1, 0, 0) else if op = 1 ∧ d1 = 0 then (3, d2, 0, 0) else (op, d1, d2, 0)
def normF (op d1 d2 d3 : Int) : Four :=
  if op = 0 then (0, d1 % 16, 0, 0)
  else if op = 7 then (if d3 % 2 = 1 then (7, d1, d2, 1) else norm2 1 d1 d2)
  else if op = 8 then (if d3 % 2 = 1 then (8, d1, d2, 1) else norm2 2 d1 d2)
  else if op = 4 ∨ op = 5 ∨ op = 6 then (if d2 % 32 = 0 then (3, d1, 0, 0) else (op, d1, d2 % 32, 0))
  else if op = 1 ∨ op = 2 then norm2 op d1 d2
  else if op = 3 then (3, d1, 0, 0) else (0, 0, 0, 0)

theorem logic_c (r : Int) (w : World) : Calls Try.prog 86 #[.int .u32 r] w fun e w' => e = .returned (.agg #[.int .u32 3, .int .u32 r, .int .u32 0, .int .u32 0]) ∧ New w w' := by
  go_enter Try.func86, Try.ntmps86
  go_wp2
  go_returns
  exact ⟨rfl, by go_grown⟩
theorem normal_0 (d1 d2 d3 : Int) (w : World) (h1 : 0 ≤ d1) (h1' : d1 < 4294967296) :
    Calls Try.prog 66 #[.agg #[.int .u32 0, .int .u32 d1, .int .u32 d2, .int .u32 d3]] w fun e w' => e = .returned (four (0, d1 % 16, 0, 0)) ∧ New w w' := by
  have hm := and_15 d1 h1 h1'
  go_enter Try.func66, Try.ntmps66
  go_wp2
  go_returns
  exact ⟨rfl, by go_grown⟩
theorem normal_3 (d1 d2 d3 : Int) (w : World) :
    Calls Try.prog 66 #[.agg #[.int .u32 3, .int .u32 d1, .int .u32 d2, .int .u32 d3]] w fun e w' => e = .returned (four (3, d1, 0, 0)) ∧ New w w' := by
  go_enter Try.func66, Try.ntmps66
  go_wp2_with (go_at_call 86; refine (logic_c _ _).mono ?_; rintro e w1 ⟨rfl, hb1⟩; obtain ⟨hc1, hf1, hz1⟩ := bcell3 hb1; try simp only [World.size_alloc] at hc1 hf1 hz1)
  refine bodyPost_ret (v := four (3, d1, 0, 0)) ?_ rfl ⟨rfl, ?_⟩
  · simp [results, Try.results66, go_sem, hc1, four]
  · have hn : New w w1 := Below.trans (by go_grown) (hb1.mono (by simp; omega))
    clear hc1 hf1
    go_grown

theorem normal_7a (d1 d2 d3 : Int) (w : World) (h3 : 0 ≤ d3) (h3' : d3 < 4294967296) (h : (d3 % 2 == 1) = true) :
    Calls Try.prog 66 #[.agg #[.int .u32 7, .int .u32 d1, .int .u32 d2, .int .u32 d3]] w fun e w' => e = .returned (four (7, d1, d2, 1)) ∧ New w w' := by
  have hm := and_1 d3 h3 h3'
  go_enter Try.func66, Try.ntmps66
  go_wp2
  refine bodyPost_ret (v := four (7, d1, d2, 1)) (by simp [results, Try.results66, go_sem, four]) rfl ⟨rfl, by go_grown⟩
theorem normal_8a (d1 d2 d3 : Int) (w : World) (h3 : 0 ≤ d3) (h3' : d3 < 4294967296) (h : (d3 % 2 == 1) = true) :
    Calls Try.prog 66 #[.agg #[.int .u32 8, .int .u32 d1, .int .u32 d2, .int .u32 d3]] w fun e w' => e = .returned (four (8, d1, d2, 1)) ∧ New w w' := by
  have hm := and_1 d3 h3 h3'
  go_enter Try.func66, Try.ntmps66
  go_wp2
  refine bodyPost_ret (v := four (8, d1, d2, 1)) (by simp [results, Try.results66, go_sem, four]) rfl ⟨rfl, by go_grown⟩
theorem normal_4a (d1 d2 d3 : Int) (w : World) (h0 : 0 ≤ d2) (h : (d2 % 32 == 0) = true) :
    Calls Try.prog 66 #[.agg #[.int .u32 4, .int .u32 d1, .int .u32 d2, .int .u32 d3]] w fun e w' => e = .returned (four (3, d1, 0, 0)) ∧ New w w' := by
  go_enter Try.func66, Try.ntmps66
  go_wp2_with (go_at_call 86; refine (logic_c _ _).mono ?_; rintro e w1 ⟨rfl, hb1⟩; obtain ⟨hc1, hf1, hz1⟩ := bcell3 hb1; try simp only [World.size_alloc] at hc1 hf1 hz1)
  refine bodyPost_ret (v := four (3, d1, 0, 0)) ?_ rfl ⟨rfl, ?_⟩
  · simp [results, Try.results66, go_sem, hc1, four]
  · have hn : New w w1 := Below.trans (by go_grown) (hb1.mono (by simp; omega))
    clear hc1 hf1
    go_grown
theorem normal_4b (d1 d2 d3 : Int) (w : World) (h0 : 0 ≤ d2) (h : (d2 % 32 == 0) = false) :
    Calls Try.prog 66 #[.agg #[.int .u32 4, .int .u32 d1, .int .u32 d2, .int .u32 d3]] w fun e w' => e = .returned (four (4, d1, d2 % 32, 0)) ∧ New w w' := by
  go_enter Try.func66, Try.ntmps66
  go_wp2
  exact bodyPost_ret (v := four (4, d1, d2 % 32, 0)) (by simp [results, Try.results66, go_sem, four]) rfl ⟨rfl, by go_grown⟩
theorem normal_5a (d1 d2 d3 : Int) (w : World) (h0 : 0 ≤ d2) (h : (d2 % 32 == 0) = true) :
    Calls Try.prog 66 #[.agg #[.int .u32 5, .int .u32 d1, .int .u32 d2, .int .u32 d3]] w fun e w' => e = .returned (four (3, d1, 0, 0)) ∧ New w w' := by
  go_enter Try.func66, Try.ntmps66
  go_wp2_with (go_at_call 86; refine (logic_c _ _).mono ?_; rintro e w1 ⟨rfl, hb1⟩; obtain ⟨hc1, hf1, hz1⟩ := bcell3 hb1; try simp only [World.size_alloc] at hc1 hf1 hz1)
  refine bodyPost_ret (v := four (3, d1, 0, 0)) ?_ rfl ⟨rfl, ?_⟩
  · simp [results, Try.results66, go_sem, hc1, four]
  · have hn : New w w1 := Below.trans (by go_grown) (hb1.mono (by simp; omega))
    clear hc1 hf1
    go_grown
theorem normal_5b (d1 d2 d3 : Int) (w : World) (h0 : 0 ≤ d2) (h : (d2 % 32 == 0) = false) :
    Calls Try.prog 66 #[.agg #[.int .u32 5, .int .u32 d1, .int .u32 d2, .int .u32 d3]] w fun e w' => e = .returned (four (5, d1, d2 % 32, 0)) ∧ New w w' := by
  go_enter Try.func66, Try.ntmps66
  go_wp2
  exact bodyPost_ret (v := four (5, d1, d2 % 32, 0)) (by simp [results, Try.results66, go_sem, four]) rfl ⟨rfl, by go_grown⟩
theorem normal_6a (d1 d2 d3 : Int) (w : World) (h0 : 0 ≤ d2) (h : (d2 % 32 == 0) = true) :
    Calls Try.prog 66 #[.agg #[.int .u32 6, .int .u32 d1, .int .u32 d2, .int .u32 d3]] w fun e w' => e = .returned (four (3, d1, 0, 0)) ∧ New w w' := by
  go_enter Try.func66, Try.ntmps66
  go_wp2_with (go_at_call 86; refine (logic_c _ _).mono ?_; rintro e w1 ⟨rfl, hb1⟩; obtain ⟨hc1, hf1, hz1⟩ := bcell3 hb1; try simp only [World.size_alloc] at hc1 hf1 hz1)
  refine bodyPost_ret (v := four (3, d1, 0, 0)) ?_ rfl ⟨rfl, ?_⟩
  · simp [results, Try.results66, go_sem, hc1, four]
  · have hn : New w w1 := Below.trans (by go_grown) (hb1.mono (by simp; omega))
    clear hc1 hf1
    go_grown
theorem normal_6b (d1 d2 d3 : Int) (w : World) (h0 : 0 ≤ d2) (h : (d2 % 32 == 0) = false) :
    Calls Try.prog 66 #[.agg #[.int .u32 6, .int .u32 d1, .int .u32 d2, .int .u32 d3]] w fun e w' => e = .returned (four (6, d1, d2 % 32, 0)) ∧ New w w' := by
  go_enter Try.func66, Try.ntmps66
  go_wp2
  exact bodyPost_ret (v := four (6, d1, d2 % 32, 0)) (by simp [results, Try.results66, go_sem, four]) rfl ⟨rfl, by go_grown⟩
theorem normal_1a (d1 d3 : Int) (w : World) :
    Calls Try.prog 66 #[.agg #[.int .u32 1, .int .u32 d1, .int .u32 0, .int .u32 d3]] w fun e w' => e = .returned (four (3, d1, 0, 0)) ∧ New w w' := by
  go_enter Try.func66, Try.ntmps66
  go_wp2_with (go_at_call 86; refine (logic_c _ _).mono ?_; rintro e w1 ⟨rfl, hb1⟩; obtain ⟨hc1, hf1, hz1⟩ := bcell3 hb1; try simp only [World.size_alloc] at hc1 hf1 hz1)
  refine bodyPost_ret (v := four (3, d1, 0, 0)) ?_ rfl ⟨rfl, ?_⟩
  · simp [results, Try.results66, go_sem, hc1, four]
  · have hn : New w w1 := Below.trans (by go_grown) (hb1.mono (by simp; omega))
    clear hc1 hf1
    go_grown
theorem normal_2a (d1 d3 : Int) (w : World) :
    Calls Try.prog 66 #[.agg #[.int .u32 2, .int .u32 d1, .int .u32 0, .int .u32 d3]] w fun e w' => e = .returned (four (3, d1, 0, 0)) ∧ New w w' := by
  go_enter Try.func66, Try.ntmps66
  go_wp2_with (go_at_call 86; refine (logic_c _ _).mono ?_; rintro e w1 ⟨rfl, hb1⟩; obtain ⟨hc1, hf1, hz1⟩ := bcell3 hb1; try simp only [World.size_alloc] at hc1 hf1 hz1)
  refine bodyPost_ret (v := four (3, d1, 0, 0)) ?_ rfl ⟨rfl, ?_⟩
  · simp [results, Try.results66, go_sem, hc1, four]
  · have hn : New w w1 := Below.trans (by go_grown) (hb1.mono (by simp; omega))
    clear hc1 hf1
    go_grown
theorem normal_1b (d2 d3 : Int) (w : World) (h : (d2 == 0) = false) :
    Calls Try.prog 66 #[.agg #[.int .u32 1, .int .u32 0, .int .u32 d2, .int .u32 d3]] w fun e w' => e = .returned (four (3, d2, 0, 0)) ∧ New w w' := by
  go_enter Try.func66, Try.ntmps66
  go_wp2_with (go_at_call 86; refine (logic_c _ _).mono ?_; rintro e w1 ⟨rfl, hb1⟩; obtain ⟨hc1, hf1, hz1⟩ := bcell3 hb1; try simp only [World.size_alloc] at hc1 hf1 hz1)
  refine bodyPost_ret (v := four (3, d2, 0, 0)) ?_ rfl ⟨rfl, ?_⟩
  · simp [results, Try.results66, go_sem, hc1, four]
  · have hn : New w w1 := Below.trans (by go_grown) (hb1.mono (by simp; omega))
    clear hc1 hf1
    go_grown
theorem normal_1c (d1 d2 d3 : Int) (w : World) (h : (d2 == 0) = false) (h' : (d1 == 0) = false) :
    Calls Try.prog 66 #[.agg #[.int .u32 1, .int .u32 d1, .int .u32 d2, .int .u32 d3]] w fun e w' => e = .returned (four (1, d1, d2, 0)) ∧ New w w' := by
  go_enter Try.func66, Try.ntmps66
  go_wp2
  exact bodyPost_ret (v := four (1, d1, d2, 0)) (by simp [results, Try.results66, go_sem, four]) rfl ⟨rfl, by go_grown⟩
theorem normal_2b (d1 d2 d3 : Int) (w : World) (h : (d2 == 0) = false) :
    Calls Try.prog 66 #[.agg #[.int .u32 2, .int .u32 d1, .int .u32 d2, .int .u32 d3]] w fun e w' => e = .returned (four (2, d1, d2, 0)) ∧ New w w' := by
  go_enter Try.func66, Try.ntmps66
  go_wp2
  exact bodyPost_ret (v := four (2, d1, d2, 0)) (by simp [results, Try.results66, go_sem, four]) rfl ⟨rfl, by go_grown⟩
theorem normal_big (op d1 d2 d3 : Int) (w : World) (h0 : (op == 0) = false) (h1 : (op == 1) = false) (h2 : (op == 2) = false) (h3 : (op == 3) = false) (h4 : (op == 4) = false) (h5 : (op == 5) = false) (h6 : (op == 6) = false) (h7 : (op == 7) = false) (h8 : (op == 8) = false) :
    Calls Try.prog 66 #[.agg #[.int .u32 op, .int .u32 d1, .int .u32 d2, .int .u32 d3]] w fun e w' => e = .returned (four (0, 0, 0, 0)) ∧ New w w' := by
  go_enter Try.func66, Try.ntmps66
  go_wp2
  exact bodyPost_ret (v := four (0, 0, 0, 0)) (by simp [results, Try.results66, go_sem, four]) rfl ⟨rfl, by go_grown⟩
theorem normal_12 (op d1 d2 d3 : Int) (w : World) (hop : op = 1 ∨ op = 2) :
    Calls Try.prog 66 #[.agg #[.int .u32 op, .int .u32 d1, .int .u32 d2, .int .u32 d3]] w fun e w' => e = .returned (four (norm2 op d1 d2)) ∧ New w w' := by
  unfold norm2
  by_cases h : d2 = 0
  · rw [if_pos h]; subst h
    rcases hop with rfl | rfl
    · exact normal_1a d1 d3 w
    · exact normal_2a d1 d3 w
  · rw [if_neg h]
    have h' : (d2 == 0) = false := beq_eq_false_iff_ne.2 h
    rcases hop with rfl | rfl
    · by_cases hd : d1 = 0
      · rw [if_pos ⟨rfl, hd⟩]; subst hd
        exact normal_1b d2 d3 w h'
      · rw [if_neg (fun q => hd q.2)]
        exact normal_1c d1 d2 d3 w h' (beq_eq_false_iff_ne.2 hd)
    · rw [if_neg (fun q => absurd q.1 (by decide))]
      exact normal_2b d1 d2 d3 w h'
set_option maxHeartbeats 400000 in
theorem normal_7b (d1 d2 d3 : Int) (w : World) (h3 : 0 ≤ d3) (h3' : d3 < 4294967296) (h : (d3 % 2 == 1) = false) :
    Calls Try.prog 66 #[.agg #[.int .u32 7, .int .u32 d1, .int .u32 d2, .int .u32 d3]] w fun e w' => e = .returned (four (norm2 1 d1 d2)) ∧ New w w' := by
  have hm := and_1 d3 h3 h3'
  have hmm := @run_makeMap Try.prog
  have m1 := fun (w : World) r hr => run_mapInsert (P := Try.prog) (T := 130) Try.underlying130 Try.underlying29 #[] 0 7 (.int .u32 1) w r hr rfl
  have m2 := fun (w : World) r hr => run_mapInsert (P := Try.prog) (T := 130) Try.underlying130 Try.underlying29 #[{ key := .int .u32 7, val := .int .u32 1, born := 0 }] 1 8 (.int .u32 2) w r hr rfl
  have m3 := fun (w : World) r hr => run_mapGet_at (P := Try.prog) (T := 130) Try.underlying130 Try.underlying29 #[{ key := .int .u32 7, val := .int .u32 1, born := 0 }, { key := .int .u32 8, val := .int .u32 2, born := 1 }] 2 7 0 (.int .u32 1) w r hr rfl false
  go_enter Try.func66, Try.ntmps66
  go_wp2_with fail
  refine (normal_12 1 d1 d2 0 _ (by decide)).mono ?_
  rintro e w1 ⟨rfl, hb1⟩
  obtain ⟨hc1, hf1, hz1⟩ := bcell3 hb1
  try simp only [World.size_alloc] at hc1 hf1 hz1
  have hn : New w w1 := Below.trans (by go_grown) (hb1.mono (by simp; omega))
  clear m1 m2 m3 hmm hb1
  obtain ⟨⟨t0, t1, t2, t3⟩, ht⟩ : ∃ t : Four, norm2 1 d1 d2 = t := ⟨_, rfl⟩
  rw [ht]
  unfold four
  go_wp2
  refine bodyPost_ret (v := four (t0, t1, t2, t3)) ?_ rfl ⟨by rw [ht], ?_⟩
  · simp [results, Try.results66, go_sem, hc1, four]
  · clear hc1 hf1
    go_grown
set_option maxHeartbeats 400000 in
theorem normal_8b (d1 d2 d3 : Int) (w : World) (h3 : 0 ≤ d3) (h3' : d3 < 4294967296) (h : (d3 % 2 == 1) = false) :
    Calls Try.prog 66 #[.agg #[.int .u32 8, .int .u32 d1, .int .u32 d2, .int .u32 d3]] w fun e w' => e = .returned (four (norm2 2 d1 d2)) ∧ New w w' := by
  have hm := and_1 d3 h3 h3'
  have hmm := @run_makeMap Try.prog
  have m1 := fun (w : World) r hr => run_mapInsert (P := Try.prog) (T := 130) Try.underlying130 Try.underlying29 #[] 0 7 (.int .u32 1) w r hr rfl
  have m2 := fun (w : World) r hr => run_mapInsert (P := Try.prog) (T := 130) Try.underlying130 Try.underlying29 #[{ key := .int .u32 7, val := .int .u32 1, born := 0 }] 1 8 (.int .u32 2) w r hr rfl
  have m3 := fun (w : World) r hr => run_mapGet_at (P := Try.prog) (T := 130) Try.underlying130 Try.underlying29 #[{ key := .int .u32 7, val := .int .u32 1, born := 0 }, { key := .int .u32 8, val := .int .u32 2, born := 1 }] 2 8 1 (.int .u32 2) w r hr rfl false
  go_enter Try.func66, Try.ntmps66
  go_wp2_with fail
  refine (normal_12 2 d1 d2 0 _ (by decide)).mono ?_
  rintro e w1 ⟨rfl, hb1⟩
  obtain ⟨hc1, hf1, hz1⟩ := bcell3 hb1
  try simp only [World.size_alloc] at hc1 hf1 hz1
  have hn : New w w1 := Below.trans (by go_grown) (hb1.mono (by simp; omega))
  clear m1 m2 m3 hmm hb1
  obtain ⟨⟨t0, t1, t2, t3⟩, ht⟩ : ∃ t : Four, norm2 2 d1 d2 = t := ⟨_, rfl⟩
  rw [ht]
  unfold four
  go_wp2
  refine bodyPost_ret (v := four (t0, t1, t2, t3)) ?_ rfl ⟨by rw [ht], ?_⟩
  · simp [results, Try.results66, go_sem, hc1, four]
  · clear hc1 hf1
    go_grown
theorem normal_c (op d1 d2 d3 : Int) (w : World) (h1 : 0 ≤ d1) (h1' : d1 < 4294967296) (h2 : 0 ≤ d2) (h2' : d2 < 4294967296) (h3 : 0 ≤ d3) (h3' : d3 < 4294967296) :
    Calls Try.prog 66 #[.agg #[.int .u32 op, .int .u32 d1, .int .u32 d2, .int .u32 d3]] w fun e w' => e = .returned (four (normF op d1 d2 d3)) ∧ New w w' := by
  by_cases e0 : op = 0
  · subst e0; exact normal_0 d1 d2 d3 w h1 h1'
  by_cases e7 : op = 7
  · subst e7
    by_cases h : d3 % 2 = 1
    · have e : normF 7 d1 d2 d3 = (7, d1, d2, 1) := by simp [normF, h]
      rw [e]; exact normal_7a d1 d2 d3 w h3 h3' (beq_iff_eq.2 h)
    · have e : normF 7 d1 d2 d3 = norm2 1 d1 d2 := by simp [normF, h]
      rw [e]; exact normal_7b d1 d2 d3 w h3 h3' (beq_eq_false_iff_ne.2 h)
  by_cases e8 : op = 8
  · subst e8
    by_cases h : d3 % 2 = 1
    · have e : normF 8 d1 d2 d3 = (8, d1, d2, 1) := by simp [normF, h]
      rw [e]; exact normal_8a d1 d2 d3 w h3 h3' (beq_iff_eq.2 h)
    · have e : normF 8 d1 d2 d3 = norm2 2 d1 d2 := by simp [normF, h]
      rw [e]; exact normal_8b d1 d2 d3 w h3 h3' (beq_eq_false_iff_ne.2 h)
  by_cases e456 : op = 4 ∨ op = 5 ∨ op = 6
  · by_cases h : d2 % 32 = 0
    · have e : normF op d1 d2 d3 = (3, d1, 0, 0) := by simp only [normF, if_neg e0, if_neg e7, if_neg e8, if_pos e456, if_pos h]
      rw [e]
      rcases e456 with rfl | rfl | rfl
      · exact normal_4a d1 d2 d3 w h2 (beq_iff_eq.2 h)
      · exact normal_5a d1 d2 d3 w h2 (beq_iff_eq.2 h)
      · exact normal_6a d1 d2 d3 w h2 (beq_iff_eq.2 h)
    · have e : normF op d1 d2 d3 = (op, d1, d2 % 32, 0) := by simp only [normF, if_neg e0, if_neg e7, if_neg e8, if_pos e456, if_neg h]
      rw [e]
      rcases e456 with rfl | rfl | rfl
      · exact normal_4b d1 d2 d3 w h2 (beq_eq_false_iff_ne.2 h)
      · exact normal_5b d1 d2 d3 w h2 (beq_eq_false_iff_ne.2 h)
      · exact normal_6b d1 d2 d3 w h2 (beq_eq_false_iff_ne.2 h)
  by_cases e12 : op = 1 ∨ op = 2
  · have e : normF op d1 d2 d3 = norm2 op d1 d2 := by simp only [normF, if_neg e0, if_neg e7, if_neg e8, if_neg e456, if_pos e12]
    rw [e]; exact normal_12 op d1 d2 d3 w e12
  by_cases e3 : op = 3
  · subst e3; exact normal_3 d1 d2 d3 w
  · have e : normF op d1 d2 d3 = (0, 0, 0, 0) := by simp only [normF, if_neg e0, if_neg e7, if_neg e8, if_neg e456, if_neg e12, if_neg e3]
    rw [e]
    exact normal_big op d1 d2 d3 w (beq_eq_false_iff_ne.2 e0) (beq_eq_false_iff_ne.2 (by omega)) (beq_eq_false_iff_ne.2 (by omega)) (beq_eq_false_iff_ne.2 e3) (beq_eq_false_iff_ne.2 (by omega)) (beq_eq_false_iff_ne.2 (by omega)) (beq_eq_false_iff_ne.2 (by omega)) (beq_eq_false_iff_ne.2 e7) (beq_eq_false_iff_ne.2 e8)
end Go.Proofs.Ytmkjgkldbonpnaa
/- Contracts: the specification's Normal, Of, Merge; thunk.Normal, thunk.Merge; the law's normal, merged, of. -/
namespace Go.Proofs.Ytmkjgkldbonpnaa
open Go Go.RowKit Go.Cd
set_option linter.unusedVariables false

theorem rof_c (op d1 d2 d3 : Int) (w : World) (ho : 0 ≤ op) (ho' : op < 4294967296) (h1 : 0 ≤ d1) (h1' : d1 < 4294967296) (h2 : 0 ≤ d2) (h2' : d2 < 4294967296) (h3 : 0 ≤ d3) (h3' : d3 < 4294967296) :
    Calls Try.prog 50 #[four (op, d1, d2, d3)] w fun e w' => e = .returned (.int .i64 (flagsF op d1 d2 d3)) ∧ New w w' := by
  unfold four
  go_enter Try.func50, Try.ntmps50
  go_wp2_with (go_at_call 25; refine (rflags_c _ _ _ _ _ ho ho' h1 h1' h2 h2' h3 h3').mono ?_; rintro e w1 ⟨rfl, rfl⟩)
  go_ret
  exact ⟨rfl, by go_grown⟩
theorem tof_c (op d1 d2 d3 : Int) (w : World) (ho : 0 ≤ op) (ho' : op < 4294967296) (h1 : 0 ≤ d1) (h1' : d1 < 4294967296) (h2 : 0 ≤ d2) (h2' : d2 < 4294967296) (h3 : 0 ≤ d3) (h3' : d3 < 4294967296) :
    Calls Try.prog 18 #[four (op, d1, d2, d3)] w fun e w' => e = .returned (.int .i64 (flagsF op d1 d2 d3)) ∧ New w w' := by
  unfold four
  go_enter Try.func18, Try.ntmps18
  go_wp2_with (go_at_call 19; refine (tflags_c _ _ _ _ _ ho ho' h1 h1' h2 h2' h3 h3').mono ?_; rintro e w1 ⟨rfl, hb1⟩)
  go_ret
  exact ⟨rfl, Below.trans (by go_grown) (hb1.mono (by simp))⟩
theorem parts_c (t : Four) (w : World) :
    Calls Try.prog 67 #[four t] w fun e w' => e = .returned (.tuple #[.int .u32 t.1, .int .u32 t.2.1, .int .u32 t.2.2.1, .int .u32 t.2.2.2]) ∧ New w w' := by
  obtain ⟨a, b, c, d⟩ := t
  unfold four
  go_enter Try.func67, Try.ntmps67
  go_wp2
  go_quiet (fail)
  go_wp2
  refine bodyPost_ret (v := .tuple #[.int .u32 a, .int .u32 b, .int .u32 c, .int .u32 d]) (by simp [results, Try.results67, go_sem]) rfl ⟨rfl, ?_⟩
  exact below_drewN (by go_grown) _

/-- The flags of a thunk, some of them replaced, as a word. -/
def mergeX (f m fl : Int) : Int := bits .or .i64 (bits .andNot .i64 f m) (bits .and .i64 fl m) % 4294967296
def mergeF (op d1 d2 d3 mask fl : Int) : Four :=
  if bits .and .i64 mask 15 = 0 then normF op d1 d2 d3 else (0, mergeX (flagsF op d1 d2 d3) (bits .and .i64 mask 15) fl, 0, 0)
set_option maxHeartbeats 400000 in
theorem tnormal_c (op d1 d2 d3 : Int) (w : World) (h1 : 0 ≤ d1) (h1' : d1 < 4294967296) (h2 : 0 ≤ d2) (h2' : d2 < 4294967296) (h3 : 0 ≤ d3) (h3' : d3 < 4294967296) :
    Calls Try.prog 36 #[.int .u32 op, .int .u32 d1, .int .u32 d2, .int .u32 d3] w fun e w' => e = .returned (.tuple #[.int .u32 (normF op d1 d2 d3).1, .int .u32 (normF op d1 d2 d3).2.1, .int .u32 (normF op d1 d2 d3).2.2.1, .int .u32 (normF op d1 d2 d3).2.2.2]) ∧ New w w' := by
  go_enter Try.func36, Try.ntmps36
  go_wp2_with (first | (go_at_call 66; refine (normal_c _ _ _ _ _ h1 h1' h2 h2' h3 h3').mono ?_; rintro e w1 ⟨rfl, hb1⟩) | (go_at_call 67; refine (parts_c _ _).mono ?_; rintro e w2 ⟨rfl, hb2⟩))
  exact bodyPost_ret (v := .tuple #[.int .u32 (normF op d1 d2 d3).1, .int .u32 (normF op d1 d2 d3).2.1, .int .u32 (normF op d1 d2 d3).2.2.1, .int .u32 (normF op d1 d2 d3).2.2.2]) (by simp [results, Try.results36, go_sem]) rfl ⟨rfl, hb1.trans (hb2.mono hb1.size)⟩
set_option maxHeartbeats 400000 in
theorem tmerge_c (op d1 d2 d3 mask fl : Int) (w : World) (ho : 0 ≤ op) (ho' : op < 4294967296) (h1 : 0 ≤ d1) (h1' : d1 < 4294967296) (h2 : 0 ≤ d2) (h2' : d2 < 4294967296) (h3 : 0 ≤ d3) (h3' : d3 < 4294967296) :
    Calls Try.prog 49 #[.int .u32 op, .int .u32 d1, .int .u32 d2, .int .u32 d3, .int .i64 mask, .int .i64 fl] w fun e w' => e = .returned (.tuple #[.int .u32 (mergeF op d1 d2 d3 mask fl).1, .int .u32 (mergeF op d1 d2 d3 mask fl).2.1, .int .u32 (mergeF op d1 d2 d3 mask fl).2.2.1, .int .u32 (mergeF op d1 d2 d3 mask fl).2.2.2]) ∧ New w w' := by
  by_cases h : bits .and .i64 mask 15 = 0
  · have e : mergeF op d1 d2 d3 mask fl = normF op d1 d2 d3 := by unfold mergeF; rw [if_pos h]
    rw [e]
    go_enter Try.func49, Try.ntmps49
    go_wp2_with (first | (go_at_call 66; refine (normal_c _ _ _ _ _ h1 h1' h2 h2' h3 h3').mono ?_; rintro e w1 ⟨rfl, hb1⟩) | (go_at_call 67; refine (parts_c _ _).mono ?_; rintro e w2 ⟨rfl, hb2⟩))
    have hn : New w w1 := Below.trans (by go_grown) (hb1.mono (by simp))
    exact bodyPost_ret (v := .tuple #[.int .u32 (normF op d1 d2 d3).1, .int .u32 (normF op d1 d2 d3).2.1, .int .u32 (normF op d1 d2 d3).2.2.1, .int .u32 (normF op d1 d2 d3).2.2.2]) (by simp [results, Try.results49, go_sem]) rfl ⟨rfl, hn.trans (hb2.mono hn.size)⟩
  · have e : mergeF op d1 d2 d3 mask fl = (0, mergeX (flagsF op d1 d2 d3) (bits .and .i64 mask 15) fl, 0, 0) := by unfold mergeF; rw [if_neg h]
    rw [e]
    have h' : (bits .and .i64 mask 15 == 0) = false := beq_eq_false_iff_ne.2 h
    go_enter Try.func49, Try.ntmps49
    go_wp2_with (first | (go_at_call 48; refine (flags_c _ _ _ _ _ ho ho' h1 h1' h2 h2' h3 h3').mono ?_; rintro e w1 ⟨rfl, hb1⟩) | (go_at_call 67; refine (parts_c (0, mergeX (flagsF op d1 d2 d3) (bits .and .i64 mask 15) fl, 0, 0) _).mono ?_; rintro e w2 ⟨rfl, hb2⟩))
    have hn : New w w1 := Below.trans (by go_grown) (hb1.mono (by simp))
    exact bodyPost_ret (v := .tuple #[.int .u32 0, .int .u32 (mergeX (flagsF op d1 d2 d3) (bits .and .i64 mask 15) fl), .int .u32 0, .int .u32 0]) (by simp [results, Try.results49, go_sem]) rfl ⟨rfl, hn.trans (hb2.mono hn.size)⟩
/-- The law's normal and merged: the same, as a struct. -/
theorem lnormal_c (op d1 d2 d3 : Int) (w : World) (h1 : 0 ≤ d1) (h1' : d1 < 4294967296) (h2 : 0 ≤ d2) (h2' : d2 < 4294967296) (h3 : 0 ≤ d3) (h3' : d3 < 4294967296) :
    Calls Try.prog 17 #[four (op, d1, d2, d3)] w fun e w' => e = .returned (four (normF op d1 d2 d3)) ∧ New w w' := by
  unfold four
  go_enter Try.func17, Try.ntmps17
  go_wp2_with (go_at_call 36; refine (tnormal_c _ _ _ _ _ h1 h1' h2 h2' h3 h3').mono ?_; rintro e w1 ⟨rfl, hb1⟩; obtain ⟨hc1, hf1, hz1⟩ := bcell3 hb1; try simp only [World.size_alloc] at hc1 hf1 hz1)
  have hn : New w w1 := Below.trans (by clear hc1 hf1; go_grown) (hb1.mono (by simp; omega))
  refine bodyPost_ret (v := four (normF op d1 d2 d3)) ?_ rfl ⟨rfl, ?_⟩
  · simp [results, Try.results17, go_sem, hc1, four]
  · clear hc1 hf1
    go_grown
theorem lmerged_c (op d1 d2 d3 mask fl : Int) (w : World) (ho : 0 ≤ op) (ho' : op < 4294967296) (h1 : 0 ≤ d1) (h1' : d1 < 4294967296) (h2 : 0 ≤ d2) (h2' : d2 < 4294967296) (h3 : 0 ≤ d3) (h3' : d3 < 4294967296) :
    Calls Try.prog 21 #[four (op, d1, d2, d3), .int .i64 mask, .int .i64 fl] w fun e w' => e = .returned (four (mergeF op d1 d2 d3 mask fl)) ∧ New w w' := by
  unfold four
  go_enter Try.func21, Try.ntmps21
  go_wp2_with (go_at_call 49; refine (tmerge_c _ _ _ _ _ _ _ ho ho' h1 h1' h2 h2' h3 h3').mono ?_; rintro e w1 ⟨rfl, hb1⟩; obtain ⟨hc1, hf1, hz1⟩ := bcell3 hb1; try simp only [World.size_alloc] at hc1 hf1 hz1)
  have hn : New w w1 := Below.trans (by clear hc1 hf1; go_grown) (hb1.mono (by simp; omega))
  refine bodyPost_ret (v := four (mergeF op d1 d2 d3 mask fl)) ?_ rfl ⟨rfl, ?_⟩
  · simp [results, Try.results21, go_sem, hc1, four]
  · clear hc1 hf1
    go_grown
end Go.Proofs.Ytmkjgkldbonpnaa
/- The law's sane: the chapter's examples. -/
namespace Go.Proofs.Ytmkjgkldbonpnaa
open Go Go.RowKit Go.Cd
set_option linter.unusedVariables false

def saneT : List (Int × Int × Int × Int × Int) := [(1, 4294967295, 1, 0, 5), (1, 2147483647, 1, 0, 10), (2, 3, 5, 0, 6), (2, 5, 5, 0, 1), (2, 2147483648, 1, 0, 8), (4, 2147483649, 1, 0, 4), (6, 2147483649, 33, 0, 6), (5, 7, 0, 0, 0), (7, 4294967295, 0, 1, 5), (8, 0, 4294967295, 1, 5)]
def fiveC (e : Int × Int × Int × Int × Int) : List Value := [.int .u32 e.1, .int .u32 e.2.1, .int .u32 e.2.2.1, .int .u32 e.2.2.2.1, .int .i64 e.2.2.2.2]
theorem saneT_ok : ∀ e ∈ saneT, (0 ≤ e.1 ∧ e.1 < 4294967296) ∧ (0 ≤ e.2.1 ∧ e.2.1 < 4294967296) ∧ (0 ≤ e.2.2.1 ∧ e.2.2.1 < 4294967296) ∧ (0 ≤ e.2.2.2.1 ∧ e.2.2.2.1 < 4294967296) ∧ flagsF e.1 e.2.1 e.2.2.1 e.2.2.2.1 = e.2.2.2.2 := of_decide_eq_true (by kernel_rfl)
theorem five_get : ∀ (l : List (Int × Int × Int × Int × Int)) (k : Nat) (a : Int × Int × Int × Int × Int) (j : Nat) (u : Value), l[k]? = some a → (fiveC a)[j]? = some u → (l.flatMap fiveC)[k * 5 + j]? = some u
  | [], _, _, _, _, h, _ => by simp at h
  | x :: l, 0, a, j, u, h, hu => by
    have : x = a := by simpa using h
    subst this
    have hj : j < (fiveC x).length := (List.getElem?_eq_some_iff.1 hu).1
    rw [List.flatMap_cons, Nat.zero_mul, Nat.zero_add, List.getElem?_append_left hj]
    exact hu
  | x :: l, k + 1, a, j, u, h, hu => by
    rw [List.flatMap_cons, List.getElem?_append_right (by simp [fiveC]; omega), show (k + 1) * 5 + j - (fiveC x).length = k * 5 + j by simp [fiveC]; omega]
    exact five_get l k a j u (by simpa using h) hu
theorem five_cell {w : World} {b : Nat} {t : TypeId} (h : w.heap[b]? = some (.cells (saneT.flatMap fiveC).toArray t)) {k : Nat} {a : Int × Int × Int × Int × Int} (hk : saneT[k]? = some a) (j : Nat) (u : Value) (hu : (fiveC a)[j]? = some u) : w.cell? ⟨b, k * 5 + j, none⟩ = some u := by
  rw [cell_of_row w b _ _ _ _ h]
  simpa using five_get saneT k a j u hk hu
theorem eat_of {w : World} {g : Nat} {cs : Array Value} {t : TypeId} {i bl : Nat} {e : IExpr} (h : w.heap[g]? = some (.cells cs t)) (hb : w.heap[bl]? = some (.cells (atomsC e.l) 59))
    (h0 : cs[i * 5]? = some (.int .i64 e.kind)) (h1 : cs[i * 5 + 1]? = some (.int .i64 e.ty)) (h2 : cs[i * 5 + 2]? = some (.int .i64 e.op)) (h3 : cs[i * 5 + 3]? = some (.int .i64 e.off)) (h4 : cs[i * 5 + 4]? = some (.slice (some ⟨bl, 0, none⟩) e.l.length e.l.length)) : EAt w g i e bl := by
  refine ⟨fun j u hu => ?_, lt_of_heap h, hb⟩
  rw [cell_of_row w g _ _ _ _ h]
  match j, hu with
  | 0, hu => exact h0.trans hu
  | 1, hu => exact h1.trans hu
  | 2, hu => exact h2.trans hu
  | 3, hu => exact h3.trans hu
  | 4, hu => exact h4.trans hu
  | j + 5, hu => simp [exprC] at hu
attribute [local go_sem ↓] Go.wp_at_zero Go.wp_at_succ
set_option maxRecDepth 100000 in
set_option maxHeartbeats 4000000 in
theorem sane_c (w : World) : Calls Try.prog 12 #[] w fun e w' => e = .returned (.bool true) ∧ New w w' := by
  go_enter Try.func12, Try.ntmps12
  go_wp2_with fail
  have B0 := Lib.hid (heap_alloc_at w (.cells #[.int .u32 1, .int .u32 4294967295, .int .u32 1, .int .u32 0, .int .i64 5, .int .u32 1, .int .u32 2147483647, .int .u32 1, .int .u32 0, .int .i64 10, .int .u32 2, .int .u32 3, .int .u32 5, .int .u32 0, .int .i64 6, .int .u32 2, .int .u32 5, .int .u32 5, .int .u32 0, .int .i64 1, .int .u32 2, .int .u32 2147483648, .int .u32 1, .int .u32 0, .int .i64 8, .int .u32 4, .int .u32 2147483649, .int .u32 1, .int .u32 0, .int .i64 4, .int .u32 6, .int .u32 2147483649, .int .u32 33, .int .u32 0, .int .i64 6, .int .u32 5, .int .u32 7, .int .u32 0, .int .u32 0, .int .i64 0, .int .u32 7, .int .u32 4294967295, .int .u32 0, .int .u32 1, .int .i64 5, .int .u32 8, .int .u32 0, .int .u32 4294967295, .int .u32 1, .int .i64 5] 68) _ rfl)
  have N0 := Lib.hid ((New.refl w).alloc (Nat.le_refl _) (.cells #[.int .u32 1, .int .u32 4294967295, .int .u32 1, .int .u32 0, .int .i64 5, .int .u32 1, .int .u32 2147483647, .int .u32 1, .int .u32 0, .int .i64 10, .int .u32 2, .int .u32 3, .int .u32 5, .int .u32 0, .int .i64 6, .int .u32 2, .int .u32 5, .int .u32 5, .int .u32 0, .int .i64 1, .int .u32 2, .int .u32 2147483648, .int .u32 1, .int .u32 0, .int .i64 8, .int .u32 4, .int .u32 2147483649, .int .u32 1, .int .u32 0, .int .i64 4, .int .u32 6, .int .u32 2147483649, .int .u32 33, .int .u32 0, .int .i64 6, .int .u32 5, .int .u32 7, .int .u32 0, .int .u32 0, .int .i64 0, .int .u32 7, .int .u32 4294967295, .int .u32 0, .int .u32 1, .int .i64 5, .int .u32 8, .int .u32 0, .int .u32 4294967295, .int .u32 1, .int .i64 5] 68))
  generalize w.alloc (.cells #[.int .u32 1, .int .u32 4294967295, .int .u32 1, .int .u32 0, .int .i64 5, .int .u32 1, .int .u32 2147483647, .int .u32 1, .int .u32 0, .int .i64 10, .int .u32 2, .int .u32 3, .int .u32 5, .int .u32 0, .int .i64 6, .int .u32 2, .int .u32 5, .int .u32 5, .int .u32 0, .int .i64 1, .int .u32 2, .int .u32 2147483648, .int .u32 1, .int .u32 0, .int .i64 8, .int .u32 4, .int .u32 2147483649, .int .u32 1, .int .u32 0, .int .i64 4, .int .u32 6, .int .u32 2147483649, .int .u32 33, .int .u32 0, .int .i64 6, .int .u32 5, .int .u32 7, .int .u32 0, .int .u32 0, .int .i64 0, .int .u32 7, .int .u32 4294967295, .int .u32 0, .int .u32 1, .int .i64 5, .int .u32 8, .int .u32 0, .int .u32 4294967295, .int .u32 1, .int .i64 5] 68) = w0 at *
  go_loopw [23] (fun v w' => ∃ i : Nat, v = .int .i64 i ∧ i ≤ 10 ∧ New w0 w') (fun v w' => 10 - (intOf v).toNat)
  · exact ⟨0, rfl, by omega, New.refl _⟩
  · obtain ⟨i, rfl, hi, hw⟩ := hrel
    have hz := hw.size
    have hB := (hw.block _ (lt_of_heap B0.out)).trans B0.out
    have hlt := lt_of_heap hB
    by_cases hin : i < 10
    · obtain ⟨e, he⟩ : ∃ e, saneT[i]? = some e := ⟨_, List.getElem?_eq_getElem (show i < saneT.length from hin)⟩
      obtain ⟨⟨o1, o2⟩, ⟨a1, a2⟩, ⟨b1, b2⟩, ⟨c1, c2⟩, hf⟩ := saneT_ok e (List.mem_of_getElem? he)
      obtain ⟨op, d1, d2, d3, want⟩ := e
      dsimp only at o1 o2 a1 a2 b1 b2 c1 c2 hf
      have x0 : wr.cell? ⟨w.heap.size, i * 5, none⟩ = some (.int .u32 op) := five_cell hB he 0 _ rfl
      have x1 : wr.cell? ⟨w.heap.size, i * 5 + 1, none⟩ = some (.int .u32 d1) := five_cell hB he 1 _ rfl
      have x2 : wr.cell? ⟨w.heap.size, i * 5 + 2, none⟩ = some (.int .u32 d2) := five_cell hB he 2 _ rfl
      have x3 : wr.cell? ⟨w.heap.size, i * 5 + 3, none⟩ = some (.int .u32 d3) := five_cell hB he 3 _ rfl
      have x4 : wr.cell? ⟨w.heap.size, i * 5 + 4, none⟩ = some (.int .i64 want) := five_cell hB he 4 _ rfl
      go_wp2_with fail
      go_region_held3 (fun w' => w'.cell? ⟨wr.heap.size, 0, none⟩ = some (.int .u32 op) ∧ w'.cell? ⟨wr.heap.size, 1, none⟩ = some (.int .u32 d1) ∧ w'.cell? ⟨wr.heap.size, 2, none⟩ = some (.int .u32 d2) ∧ w'.cell? ⟨wr.heap.size, 3, none⟩ = some (.int .u32 d3) ∧ w'.cell? ⟨wr.heap.size, 4, none⟩ = some (.int .i64 want) ∧ wr.heap.size < w'.heap.size ∧ New wr w') (((try dsimp only); (repeat' apply And.intro) <;> (first | go_keep | omega | go_grown)))
        (first | (go_at_call 19; refine (tflags_c op d1 d2 d3 _ o1 o2 a1 a2 b1 b2 c1 c2).mono ?_; rintro e w1 ⟨rfl, hb1⟩; obtain ⟨hc1, hf1, hz1⟩ := bcell3 hb1; (try simp only [World.size_alloc, World.size_drew] at hz1); have hn1 : New wr w1 := Below.trans (by go_grown) (hb1.mono (by simp))))
      have hn : New wr w1 := by assumption
      rw [hf] at *
      clear hc1 hf1
      go_wp2
      go_roundw
      case rel => exact ⟨i + 1, by simp, by omega, hw.trans (hn.mono hz)⟩
      case measure => simp [intOf]; omega
    · have NW := Lib.hid (N0.out.trans (hw.mono N0.out.size))
      clear hw hz hB hlt
      go_wp2_with fail
      refine (cond_c 12 2 4294967295 1 0 _ (by decide) (by decide) (by decide) (by decide) (by decide) (by decide) (by decide) (by decide)).mono ?_
      rw [show condF 12 2 4294967295 1 0 = true from by kernel_rfl]
      rintro e w1 ⟨rfl, hb1⟩
      have N1 := Lib.hid (NW.out.trans (hb1.mono NW.out.size))
      clear hb1
      go_wp2_with fail
      refine (cond_c 8 2 4294967295 1 0 _ (by decide) (by decide) (by decide) (by decide) (by decide) (by decide) (by decide) (by decide)).mono ?_
      rw [show condF 8 2 4294967295 1 0 = false from by kernel_rfl]
      rintro e w2 ⟨rfl, hb2⟩
      have N2 := Lib.hid (N1.out.trans (hb2.mono N1.out.size))
      clear hb2
      go_wp2_with fail
      refine (inverse_c 2 _).mono ?_
      rw [show invF 2 = 3 from by kernel_rfl]
      rintro e _ ⟨rfl, rfl⟩
      go_wp2_with fail
      refine (inverse_c 16 _).mono ?_
      rw [show invF 16 = -1 from by kernel_rfl]
      rintro e _ ⟨rfl, rfl⟩
      go_wp2_with fail
      refine (uses_c 12 _).mono ?_
      rw [show usesF 12 = 11 from by kernel_rfl]
      rintro e w3 ⟨rfl, hb3⟩
      have N3 := Lib.hid (N2.out.trans (hb3.mono N2.out.size))
      clear hb3
      go_wp2_with fail
      refine (uses_c 14 _).mono ?_
      rw [show usesF 14 = 0 from by kernel_rfl]
      rintro e w4 ⟨rfl, hb4⟩
      have N4 := Lib.hid (N3.out.trans (hb4.mono N3.out.size))
      clear hb4
      go_wp2_with fail
      refine (tnormal_c 8 7 0 2 _ (by decide) (by decide) (by decide) (by decide) (by decide) (by decide)).mono ?_
      rw [show normF 8 7 0 2 = (3, 7, 0, 0) from by kernel_rfl]
      rintro e w5 ⟨rfl, hb5⟩
      have N5 := Lib.hid (N4.out.trans (hb5.mono N4.out.size))
      clear hb5
      go_wp2_with fail
      refine (lword_c 10 _).mono ?_
      rintro e w6 ⟨rfl, hb6⟩
      have N6 := Lib.hid (N5.out.trans (hb6.mono N5.out.size))
      clear hb6
      unfold wordA Atom.val
      dsimp only
      go_wp2_with fail
      refine (lword_c 2 _).mono ?_
      rintro e w7 ⟨rfl, hb7⟩
      have N7 := Lib.hid (N6.out.trans (hb7.mono N6.out.size))
      clear hb7
      unfold wordA Atom.val
      dsimp only
      go_wp2_with fail
      refine (lword_c 0 _).mono ?_
      rintro e w8 ⟨rfl, hb8⟩
      have N8 := Lib.hid (N7.out.trans (hb8.mono N7.out.size))
      clear hb8
      unfold wordA Atom.val
      dsimp only
      go_wp2_with fail
      refine (simplify_sane w8.heap.size _ (heap_alloc_at _ _ _ rfl)).mono ?_
      rintro e w9 ⟨v, rfl, hx, hb9⟩
      have N9 := Lib.hid ((N8.out.alloc N8.out.size _).trans (hb9.mono (N8.out.alloc N8.out.size _).size))
      obtain ⟨a, ca, rfl, ra⟩ := hx.rows
      have R9 := Lib.hid ra
      clear hb9 hx ra
      go_wp2_with fail
      refine (same_r a (some ⟨w9.heap.size + 1 + 1 + 1 + 1, 0, none⟩) ca 2 (cmpE 17 false (tmpA 5) (tmpA 6) 9 0) _ (R9.out.new (by go_grown)) ?_ (by decide) (by decide)).mono ?_
      · intro i e hi
        match i, hi with
        | 0, hi =>
          have he : (⟨4, 1, 17, 0, [tmpA 5, tmpA 6]⟩ : IExpr) = e := Option.some.inj hi
          subst he
          exact ⟨_, w9.heap.size, rfl, eat_of (heap_alloc_at _ _ _ (by simp only [World.size_alloc])) (heap_keep (heap_keep (heap_keep (heap_keep (heap_alloc_at _ _ _ rfl))))) rfl rfl rfl rfl rfl⟩
        | 1, hi =>
          have he : (⟨3, 32, 2, 0, [tmpA 9]⟩ : IExpr) = e := Option.some.inj hi
          subst he
          exact ⟨_, w9.heap.size + 1 + 1, rfl, eat_of (heap_alloc_at _ _ _ (by simp only [World.size_alloc])) (heap_keep (heap_keep (heap_alloc_at _ _ _ (by simp only [World.size_alloc])))) rfl rfl rfl rfl rfl⟩
        | i + 2, hi => cases hi
      · rintro e w10 ⟨rfl, hb10⟩
        have N10 := Lib.hid (N9.out.trans ((show New w9 w10 from Below.trans (by go_grown) (hb10.mono (by simp only [World.size_alloc]; omega))).mono N9.out.size))
        clear hb10
        go_wp2
        go_ret
        exact ⟨rfl, N10.out⟩
end Go.Proofs.Ytmkjgkldbonpnaa
/- Slices of whole numbers that came in: what a walk wants to know of them. -/
namespace Go.Cd
open Go Go.RowKit Go.ChangeShapes Go.WideShapes Go.ChangeAt

/-- Numbers of one kind lie in a block from a place on. -/
def ICells (k : IntKind) (w : World) (b off : Nat) (xs : List Int) : Prop := ∀ i, i < xs.length → w.cell? ⟨b, off + i, none⟩ = some (.int k (xs.getD i 0)) ∧ (Lit.int k (xs.getD i 0)).wf = true
theorem ICells.new {k : IntKind} {w w' : World} {b off : Nat} {xs : List Int} (h : ICells k w b off xs) (hb : b < w.heap.size) (hn : New w w') : ICells k w' b off xs := fun i hi =>
  ⟨(hn.cell (p := ⟨b, off + i, none⟩) hb).trans (h i hi).1, (h i hi).2⟩
theorem lt_of_cell {w : World} {a : Addr} {v : Value} (h : w.cell? a = some v) : a.block < w.heap.size := by
  rcases Nat.lt_or_ge a.block w.heap.size with h' | h'
  · exact h'
  · have e : w.heap[a.block]? = none := Array.getElem?_eq_none h'
    simp [World.cell?, e] at h
section
variable {H : Type} {enc : TypeId × Value → H} {P : Program} {W : World}
theorem open_nums {t e : TypeId} {k : IntKind} (ht : P.underlying t = some (.slice e)) (he : P.underlying e = some (.int k)) (hc : P.cellsOf e = 1) {r : Reach} {b0 : Nat} {v : Value} {d : DataW H} {ps : List MemPlace}
    (hval : Value.okWide P W r b0 t v) (hd : DataW.Trod enc P W 0 (fun _ => true) true t v d ps) :
    ∃ (p : Option Addr) (len cap : Nat) (zs : List Int), v = .slice p len cap ∧ len ≤ 9223372036854775807 ∧ zs.length = len ∧ (len = 0 ∨ ∃ b off, p = some ⟨b, off, none⟩ ∧ b < W.heap.size ∧ ICells k W b off zs) := by
  obtain ⟨a0, len, cap, rfl⟩ := okWide_slice ht hval
  obtain ⟨fuel, hf⟩ := hd
  rcases open_ints ht he hc hf with ⟨hcs, hx⟩ | ⟨a, len', cap', zs, hcs, _, hl, hm, hz, hx, hcell, hwz⟩
  · simp [Value.cells] at hcs
    obtain ⟨rfl, rfl, rfl⟩ := hcs
    exact ⟨none, 0, 0, [], rfl, by omega, rfl, .inl rfl⟩
  · simp [Value.cells] at hcs
    obtain ⟨rfl, rfl, rfl⟩ := hcs
    simp only [if_true] at hz
    refine ⟨some a, len, cap, zs.take len, rfl, by unfold maxLen at hm; omega, by simp; omega, ?_⟩
    by_cases h0 : len = 0
    · exact .inl h0
    · right
      obtain ⟨b, off, spot⟩ := a
      have hspot : spot = none := by simpa [Addr.add] using World.cell?_spot (hcell 0 (by omega))
      subst hspot
      refine ⟨b, off, rfl, ?_, fun i hi => ?_⟩
      · have := lt_of_cell (hcell 0 (by omega))
        rwa [block_add] at this
      · have hi' : i < len := by simp at hi; omega
        have hz' : i < zs.length := by omega
        have e : (zs.take len).getD i 0 = zs.getD i 0 := by simp [hi']
        rw [e, ← add_plain]
        refine ⟨hcell i hz', hwz _ ?_⟩
        rw [List.getD_eq_getElem?_getD, List.getElem?_eq_getElem hz']
        exact List.getElem_mem hz'
end
end Go.Cd
