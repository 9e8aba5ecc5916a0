/- Plain laws: what the specification's Flags computes is what thunk.Flags computes. -/
import Derived.Test.YtmkjgkldbonpnaaWFlags4
namespace Go.Proofs.Ytmkjgkldbonpnaa
open Go Go.RowKit Go.Cd
set_option linter.unusedVariables false

theorem sg_bd (a : Int) (h : 0 ≤ a) (h' : a < 4294967296) : -2147483648 ≤ sg a ∧ sg a ≤ 2147483647 := by unfold sg; split <;> omega
theorem pf_add (d1 d2 c : Int) (h1 : 0 ≤ d1) (h1' : d1 < 4294967296) (h2 : 0 ≤ d2) (h2' : d2 < 4294967296) (hc : 0 ≤ c) (hc' : c ≤ 1) :
    flagNum ((d1 + d2 + c) % 4294967296 == 0) ((d1 + d2 + c) % 4294967296 / 2147483648 == 1) (decide (4294967296 ≤ d1 + d2 + c)) (sg d1 + sg d2 + c != sg ((d1 + d2 + c) % 4294967296)) =
      flagNum (sumR d1 d2 c == 0) (sumR d1 d2 c / 2147483648 == 1) (sumC d1 d2 c) (sumV d1 d2 c) := by
  have e : decide (4294967296 ≤ d1 + d2 + c) = sumC d1 d2 c := by
    unfold sumC; rw [Bool.eq_iff_iff, beq_iff_eq, decide_eq_true_iff]; omega
  have e' : (sg d1 + sg d2 + c != sg ((d1 + d2 + c) % 4294967296)) = sumV d1 d2 c := by
    unfold sumV; rw [Bool.eq_iff_iff, bne_iff_ne, decide_eq_true_iff]
  rw [e, e']; rfl
theorem pf_sub (d1 d2 c : Int) (h1 : 0 ≤ d1) (h1' : d1 < 4294967296) (h2 : 0 ≤ d2) (h2' : d2 < 4294967296) (hc : 0 ≤ c) (hc' : c ≤ 1) :
    flagNum ((d1 - d2 - c) % 4294967296 == 0) ((d1 - d2 - c) % 4294967296 / 2147483648 == 1) (decide (d1 < d2 + c)) (sg d1 - sg d2 - c != sg ((d1 - d2 - c) % 4294967296)) =
      flagNum (difR d1 d2 c == 0) (difR d1 d2 c / 2147483648 == 1) (difC d1 d2 c) (difV d1 d2 c) := by
  have e' : (sg d1 - sg d2 - c != sg ((d1 - d2 - c) % 4294967296)) = difV d1 d2 c := by
    unfold difV; rw [Bool.eq_iff_iff, bne_iff_ne, decide_eq_true_iff]
  rw [e']; rfl
theorem pf_1 (d1 d2 d3 : Int) (h1 : 0 ≤ d1) (h1' : d1 < 4294967296) (h2 : 0 ≤ d2) (h2' : d2 < 4294967296) :
    flagNum ((d1 + d2) % 4294967296 == 0) ((d1 + d2) % 4294967296 / 2147483648 == 1) (decide (4294967296 ≤ d1 + d2)) (sg d1 + sg d2 != sg ((d1 + d2) % 4294967296)) = flagsF 1 d1 d2 d3 := by
  have h := pf_add d1 d2 0 h1 h1' h2 h2' (by decide) (by decide)
  simp only [Int.add_zero] at h
  exact h
theorem pf_2 (d1 d2 d3 : Int) (h1 : 0 ≤ d1) (h1' : d1 < 4294967296) (h2 : 0 ≤ d2) (h2' : d2 < 4294967296) :
    flagNum ((d1 - d2) % 4294967296 == 0) ((d1 - d2) % 4294967296 / 2147483648 == 1) (decide (d1 < d2)) (sg d1 - sg d2 != sg ((d1 - d2) % 4294967296)) = flagsF 2 d1 d2 d3 := by
  have h := pf_sub d1 d2 0 h1 h1' h2 h2' (by decide) (by decide)
  simp only [Int.sub_zero, Int.add_zero] at h
  exact h
theorem pf_3 (d1 d2 d3 : Int) : flagNum (d1 == 0) (d1 / 2147483648 == 1) false false = flagsF 3 d1 d2 d3 := rfl
theorem pf_7 (d1 d2 d3 : Int) (h1 : 0 ≤ d1) (h1' : d1 < 4294967296) (h2 : 0 ≤ d2) (h2' : d2 < 4294967296) :
    flagNum ((d1 + d2 + d3 % 2) % 4294967296 == 0) ((d1 + d2 + d3 % 2) % 4294967296 / 2147483648 == 1) (decide (4294967296 ≤ d1 + d2 + d3 % 2)) (sg d1 + sg d2 + d3 % 2 != sg ((d1 + d2 + d3 % 2) % 4294967296)) = flagsF 7 d1 d2 d3 :=
  pf_add d1 d2 (d3 % 2) h1 h1' h2 h2' (by omega) (by omega)
theorem pf_8 (d1 d2 d3 : Int) (h1 : 0 ≤ d1) (h1' : d1 < 4294967296) (h2 : 0 ≤ d2) (h2' : d2 < 4294967296) :
    flagNum ((d1 - d2 - d3 % 2) % 4294967296 == 0) ((d1 - d2 - d3 % 2) % 4294967296 / 2147483648 == 1) (decide (d1 < d2 + d3 % 2)) (sg d1 - sg d2 - d3 % 2 != sg ((d1 - d2 - d3 % 2) % 4294967296)) = flagsF 8 d1 d2 d3 :=
  pf_sub d1 d2 (d3 % 2) h1 h1' h2 h2' (by omega) (by omega)
theorem pf_4a (d1 d2 d3 : Int) (h : 0 < d2 % 32) :
    flagNum (d1 * 2 ^ (d2 % 32).toNat % 4294967296 == 0) (d1 * 2 ^ (d2 % 32).toNat % 4294967296 / 2147483648 == 1) (d1 / 2 ^ (-(d2 % 32) % 32).toNat % 2 == 1) false = flagsF 4 d1 d2 d3 := by
  have e : (d1 / 2 ^ (-(d2 % 32) % 32).toNat % 2 == 1) = outB d1 (d2 % 32) (32 - d2 % 32) := by
    unfold outB
    rw [show (32 - d2 % 32) % 32 = -(d2 % 32) % 32 by omega, decide_eq_true h, Bool.true_and]
  rw [e]; rfl
theorem pf_4b (d1 d2 d3 : Int) (h : ¬ 0 < d2 % 32) :
    flagNum (d1 * 2 ^ (d2 % 32).toNat % 4294967296 == 0) (d1 * 2 ^ (d2 % 32).toNat % 4294967296 / 2147483648 == 1) false false = flagsF 4 d1 d2 d3 := by
  have e : false = outB d1 (d2 % 32) (32 - d2 % 32) := by
    unfold outB
    rw [decide_eq_false h, Bool.false_and]
  conv => lhs; arg 3; rw [e]
  rfl
theorem pf_5a (d1 d2 d3 : Int) (h : 0 < d2 % 32) :
    flagNum (d1 / 2 ^ (d2 % 32).toNat == 0) (d1 / 2 ^ (d2 % 32).toNat / 2147483648 == 1) (d1 / 2 ^ ((d2 + 31) % 32).toNat % 2 == 1) false = flagsF 5 d1 d2 d3 := by
  have e : (d1 / 2 ^ ((d2 + 31) % 32).toNat % 2 == 1) = outB d1 (d2 % 32) ((d2 % 32 - 1) % 4294967296) := by
    unfold outB
    rw [show (d2 % 32 - 1) % 4294967296 % 32 = (d2 + 31) % 32 by omega, decide_eq_true h, Bool.true_and]
  rw [e]; rfl
theorem pf_5b (d1 d2 d3 : Int) (h : ¬ 0 < d2 % 32) :
    flagNum (d1 / 2 ^ (d2 % 32).toNat == 0) (d1 / 2 ^ (d2 % 32).toNat / 2147483648 == 1) false false = flagsF 5 d1 d2 d3 := by
  have e : false = outB d1 (d2 % 32) ((d2 % 32 - 1) % 4294967296) := by
    unfold outB
    rw [decide_eq_false h, Bool.false_and]
  conv => lhs; arg 3; rw [e]
  rfl
/-- The arithmetic shift, as the specification writes it. -/
theorem sar_or (d : Int) (k : Nat) (h0 : 2147483648 ≤ d) (h1 : d < 4294967296) (hk : 1 ≤ k) (hk' : k ≤ 31) :
    bits .or .u32 (d / 2 ^ k) (4294967295 * 2 ^ (32 - k) % 4294967296) = wrap32 d / 2 ^ k % 4294967296 := by
  obtain ⟨j, rfl⟩ : ∃ j, k = j := ⟨k, rfl⟩
  obtain ⟨n, rfl⟩ := Int.eq_ofNat_of_zero_le (show 0 ≤ d by omega)
  have hw : wrap32 (n : Int) = (n : Int) - 4294967296 := by unfold wrap32; omega
  rw [hw]
  have hp : (2 : Int) ^ k = ((2 ^ k : Nat) : Int) := by simp
  have hq : (2 : Int) ^ (32 - k) = ((2 ^ (32 - k) : Nat) : Int) := by simp
  have hpq : 2 ^ k * 2 ^ (32 - k) = 4294967296 := by
    rw [← Nat.pow_add, show k + (32 - k) = 32 by omega]
  have hp0 : 0 < 2 ^ k := Nat.two_pow_pos k
  have hp1 : 2 ≤ 2 ^ k := by
    have := Nat.pow_le_pow_right (n := 2) (by decide) hk
    simpa using this
  have hq0 : 0 < 2 ^ (32 - k) := Nat.two_pow_pos _
  have hq1 : 2 ≤ 2 ^ (32 - k) := by
    have := Nat.pow_le_pow_right (n := 2) (by decide) (show 1 ≤ 32 - k by omega)
    simpa using this
  rw [hp, hq]
  generalize hP : 2 ^ k = p at *
  generalize hQ : 2 ^ (32 - k) = q at *
  have hlt : n / p < q := by
    rw [Nat.div_lt_iff_lt_mul hp0, Nat.mul_comm, hpq]; omega
  have hqlt : q < 4294967296 := by
    have : q * 2 ≤ q * p := Nat.mul_le_mul_left _ hp1
    rw [Nat.mul_comm q p, hpq] at this; omega
  have e1 : (4294967295 * (q : Int)) % 4294967296 = ((4294967296 - q : Nat) : Int) := by omega
  have e2 : 4294967296 - q = q * (p - 1) := by
    rw [Nat.mul_sub, Nat.mul_comm q p, hpq, Nat.mul_one]
  have e3 : ((n : Int) / (p : Int)) = ((n / p : Nat) : Int) := by simp
  obtain ⟨m, hm⟩ : ∃ m, n / p = m := ⟨_, rfl⟩
  rw [hm] at e3 hlt
  rw [e1, e3, or32 _ _ (by omega) (by omega) (by omega) (by omega), Int.toNat_natCast, Int.toNat_natCast, e2, Nat.or_comm]
  have e4 : q * (p - 1) + m = q * (p - 1) ||| m := by
    rw [← hQ] at hlt ⊢
    exact Nat.two_pow_add_eq_or_of_lt hlt _
  rw [← e4]
  have e5 : ((n : Int) - 4294967296) / (p : Int) = (m : Int) - q := by
    have : ((n : Int) - 4294967296) = (n : Int) + (-(q : Int)) * (p : Int) := by
      have : (q : Int) * (p : Int) = 4294967296 := by
        have := congrArg (fun x : Nat => (x : Int)) hpq
        simpa [Int.mul_comm] using this
      rw [Int.neg_mul, this]; omega
    rw [this, Int.add_mul_ediv_right _ _ (by omega), e3]; omega
  rw [e5, ← e2]
  omega
theorem sar_plain (d : Int) (k : Nat) (h0 : 0 ≤ d) (h1 : d < 2147483648) : d / 2 ^ k = wrap32 d / 2 ^ k % 4294967296 := by
  have hw : wrap32 d = d := by unfold wrap32; omega
  rw [hw]
  have hp : (0 : Int) < 2 ^ k := Int.pow_pos (by decide)
  have a := Int.ediv_nonneg h0 (Int.le_of_lt hp)
  have b := Int.lt_of_le_of_lt (Int.ediv_le_self (2 ^ k) h0) h1
  omega
theorem sar_zero (d : Int) (h0 : 0 ≤ d) (h1 : d < 4294967296) : d / 2 ^ (0 : Int).toNat = wrap32 d / 2 ^ (0 : Int).toNat % 4294967296 := by
  unfold wrap32; simp; omega
theorem out_6 (d1 d2 : Int) (h : 0 < d2 % 32) : (d1 / 2 ^ ((d2 + 31) % 32).toNat % 2 == 1) = outB d1 (d2 % 32) ((d2 % 32 - 1) % 4294967296) := by
  unfold outB
  rw [show (d2 % 32 - 1) % 4294967296 % 32 = (d2 + 31) % 32 by omega, decide_eq_true h, Bool.true_and]
theorem pf_6a (d1 d2 d3 : Int) (h1 : 0 ≤ d1) (h1' : d1 < 4294967296) (ht : d1 / 2147483648 % 2 = 1) (h : 0 < d2 % 32) :
    flagNum (bits .or .u32 (d1 / 2 ^ (d2 % 32).toNat) (4294967295 * 2 ^ (32 - d2 % 32).toNat % 4294967296) == 0) (bits .or .u32 (d1 / 2 ^ (d2 % 32).toNat) (4294967295 * 2 ^ (32 - d2 % 32).toNat % 4294967296) / 2147483648 == 1) (d1 / 2 ^ ((d2 + 31) % 32).toNat % 2 == 1) false = flagsF 6 d1 d2 d3 := by
  have e : bits .or .u32 (d1 / 2 ^ (d2 % 32).toNat) (4294967295 * 2 ^ (32 - d2 % 32).toNat % 4294967296) = sarR d1 (d2 % 32) := by
    have := sar_or d1 (d2 % 32).toNat (by omega) h1' (by omega) (by omega)
    rw [show (32 - d2 % 32).toNat = 32 - (d2 % 32).toNat by omega, this]; rfl
  rw [out_6 d1 d2 h, e]; rfl
theorem pf_6b (d1 d2 d3 : Int) (h1 : 0 ≤ d1) (ht : d1 < 2147483648) (h : 0 < d2 % 32) :
    flagNum (d1 / 2 ^ (d2 % 32).toNat == 0) (d1 / 2 ^ (d2 % 32).toNat / 2147483648 == 1) (d1 / 2 ^ ((d2 + 31) % 32).toNat % 2 == 1) false = flagsF 6 d1 d2 d3 := by
  have e : d1 / 2 ^ (d2 % 32).toNat = sarR d1 (d2 % 32) := sar_plain d1 _ h1 ht
  rw [out_6 d1 d2 h, e]; rfl
theorem pf_6c (d1 d2 d3 : Int) (h1 : 0 ≤ d1) (h1' : d1 < 4294967296) (h : d2 % 32 = 0) :
    flagNum (d1 / 2 ^ (d2 % 32).toNat == 0) (d1 / 2 ^ (d2 % 32).toNat / 2147483648 == 1) false false = flagsF 6 d1 d2 d3 := by
  have e : d1 / 2 ^ (d2 % 32).toNat = sarR d1 (d2 % 32) := by
    have := sar_zero d1 h1 h1'
    unfold sarR; rw [h]; exact this
  have e' : false = outB d1 (d2 % 32) ((d2 % 32 - 1) % 4294967296) := by
    unfold outB
    rw [h]; rfl
  rw [e]
  conv => lhs; arg 3; rw [e']
  rfl
end Go.Proofs.Ytmkjgkldbonpnaa
