/- Plain lemmas on whole numbers of 64 bits: masks. -/
import Derived.Test.YtpooghnemlnopaaNum
import Derived.IntWalk
namespace Go.Cd
open Go
theorem and_mask64 (x : Int) (i : Nat) (hi : i ≤ 62) : bits .and .i64 x ((2 : Int) ^ i - 1) = x % (2 : Int) ^ i := by
  have hp : (2 : Int) ^ i = ((2 ^ i : Nat) : Int) := by simp
  have hp0 : 0 < 2 ^ i := Nat.two_pow_pos i
  have hp1 : 2 ^ i ≤ 2 ^ 62 := Nat.pow_le_pow_right (by decide) hi
  have e : bits .and .i64 x ((2 : Int) ^ i - 1) = IntKind.i64.wrap (((BitVec.ofInt 64 x &&& BitVec.ofInt 64 ((2 : Int) ^ i - 1)).toNat : Nat) : Int) := by simp only [bits]; rfl
  have h1 : (BitVec.ofInt 64 ((2 : Int) ^ i - 1)).toNat = 2 ^ i - 1 := by
    rw [BitVec.toNat_ofInt, hp, Int.emod_eq_of_lt (by omega) (by omega)]
    omega
  rw [e, BitVec.toNat_and, h1, Nat.and_two_pow_sub_one_eq_mod, BitVec.toNat_ofInt]
  have hd : ((2 ^ i : Nat) : Int) ∣ ((2 ^ 64 : Nat) : Int) := Int.natCast_dvd_natCast.2 (Nat.pow_dvd_pow 2 (by omega))
  have h2 : (((x % ((2 ^ 64 : Nat) : Int)).toNat % 2 ^ i : Nat) : Int) = x % ((2 ^ i : Nat) : Int) := by
    rw [Int.natCast_emod, Int.toNat_of_nonneg (Int.emod_nonneg _ (by decide)), Int.emod_emod_of_dvd _ hd]
  rw [h2, hp]
  have h3 := Int.emod_nonneg x (show ((2 ^ i : Nat) : Int) ≠ 0 by omega)
  have h4 := Int.emod_lt_of_pos x (show 0 < ((2 ^ i : Nat) : Int) by omega)
  exact IntWalk.i64_in _ (by omega)
theorem and1_i64 (k : Int) : bits .and .i64 k 1 = k % 2 := and_mask64 k 1 (by decide)
theorem and15_i64 (k : Int) : bits .and .i64 k 15 = k % 16 := and_mask64 k 4 (by decide)
end Go.Cd
