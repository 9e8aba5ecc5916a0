/- Plain lemmas on words: the bits of 32-bit numbers, as whole numbers. No Go, no memory. -/
import Derived.Laws.BitsLemmas
import Derived.Laws.BitsAllLaws
namespace Go.Cd
open Go

/-- A word as a signed number. -/
def sg (a : Int) : Int := if 2147483648 ≤ a then a - 4294967296 else a

theorem ofInt_toNat (x : Int) (h0 : 0 ≤ x) (h1 : x < 4294967296) : (BitVec.ofInt 32 x).toNat = x.toNat := by
  rw [BitVec.toNat_ofInt]
  congr 1
  exact Int.emod_eq_of_lt h0 (by omega)

theorem and32 (x y : Int) (hx : 0 ≤ x) (hx' : x < 4294967296) (hy : 0 ≤ y) (hy' : y < 4294967296) : bits .and .u32 x y = ((x.toNat &&& y.toNat : Nat) : Int) := by
  have hlt : x.toNat &&& y.toNat < 2 ^ 32 := Nat.and_lt_two_pow _ (by omega)
  have e : bits .and .u32 x y = (((BitVec.ofInt 32 x &&& BitVec.ofInt 32 y).toNat : Nat) : Int) % 4294967296 := by simp only [bits, IntKind.wrap_u32]; rfl
  rw [e, BitVec.toNat_and, ofInt_toNat x hx hx', ofInt_toNat y hy hy']
  omega
theorem or32 (x y : Int) (hx : 0 ≤ x) (hx' : x < 4294967296) (hy : 0 ≤ y) (hy' : y < 4294967296) : bits .or .u32 x y = ((x.toNat ||| y.toNat : Nat) : Int) := by
  have hlt : x.toNat ||| y.toNat < 2 ^ 32 := Nat.or_lt_two_pow (by omega) (by omega)
  have e : bits .or .u32 x y = (((BitVec.ofInt 32 x ||| BitVec.ofInt 32 y).toNat : Nat) : Int) % 4294967296 := by simp only [bits, IntKind.wrap_u32]; rfl
  rw [e, BitVec.toNat_or, ofInt_toNat x hx hx', ofInt_toNat y hy hy']
  omega
theorem xor32 (x y : Int) (hx : 0 ≤ x) (hx' : x < 4294967296) (hy : 0 ≤ y) (hy' : y < 4294967296) : bits .xor .u32 x y = ((x.toNat ^^^ y.toNat : Nat) : Int) := by
  have hlt : x.toNat ^^^ y.toNat < 2 ^ 32 := Nat.xor_lt_two_pow (by omega) (by omega)
  have e : bits .xor .u32 x y = (((BitVec.ofInt 32 x ^^^ BitVec.ofInt 32 y).toNat : Nat) : Int) % 4294967296 := by simp only [bits, IntKind.wrap_u32]; rfl
  rw [e, BitVec.toNat_xor, ofInt_toNat x hx hx', ofInt_toNat y hy hy']
  omega

theorem bits_nonneg (op : BinOp) (x y : Int) : 0 ≤ bits op .u32 x y := by
  cases op <;> simp only [bits, IntKind.wrap_u32] <;> omega
theorem bits_lt (op : BinOp) (x y : Int) : bits op .u32 x y < 4294967296 := by
  cases op <;> simp only [bits, IntKind.wrap_u32] <;> omega

/-- The top bit. -/
theorem div_top (n : Nat) (h : n < 4294967296) : n / 2147483648 = if n.testBit 31 then 1 else 0 := by
  rw [Nat.testBit_eq_decide_div_mod_eq]
  by_cases h' : n / 2 ^ 31 % 2 = 1
  · rw [decide_eq_true h', if_pos rfl]; omega
  · rw [decide_eq_false h', if_neg (by simp)]; omega
theorem top_int (x : Int) (h0 : 0 ≤ x) (h1 : x < 4294967296) : x / 2147483648 = if x.toNat.testBit 31 then 1 else 0 := by
  have h := div_top x.toNat (by omega)
  by_cases ht : x.toNat.testBit 31 = true
  · rw [if_pos ht] at h ⊢; omega
  · rw [if_neg ht] at h ⊢; omega
theorem and_top (x y : Int) (hx : 0 ≤ x) (hx' : x < 4294967296) (hy : 0 ≤ y) (hy' : y < 4294967296) :
    bits .and .u32 x y / 2147483648 = if x / 2147483648 = 1 ∧ y / 2147483648 = 1 then 1 else 0 := by
  rw [top_int _ (bits_nonneg _ _ _) (bits_lt _ _ _), top_int x hx hx', top_int y hy hy', and32 x y hx hx' hy hy', Int.toNat_natCast, Nat.testBit_and]
  cases x.toNat.testBit 31 <;> cases y.toNat.testBit 31 <;> simp
theorem or_top (x y : Int) (hx : 0 ≤ x) (hx' : x < 4294967296) (hy : 0 ≤ y) (hy' : y < 4294967296) :
    bits .or .u32 x y / 2147483648 = if x / 2147483648 = 1 ∨ y / 2147483648 = 1 then 1 else 0 := by
  rw [top_int _ (bits_nonneg _ _ _) (bits_lt _ _ _), top_int x hx hx', top_int y hy hy', or32 x y hx hx' hy hy', Int.toNat_natCast, Nat.testBit_or]
  cases x.toNat.testBit 31 <;> cases y.toNat.testBit 31 <;> simp
theorem xor_top (x y : Int) (hx : 0 ≤ x) (hx' : x < 4294967296) (hy : 0 ≤ y) (hy' : y < 4294967296) :
    bits .xor .u32 x y / 2147483648 = if x / 2147483648 = y / 2147483648 then 0 else 1 := by
  rw [top_int _ (bits_nonneg _ _ _) (bits_lt _ _ _), top_int x hx hx', top_int y hy hy', xor32 x y hx hx' hy hy', Int.toNat_natCast, Nat.testBit_xor]
  cases x.toNat.testBit 31 <;> cases y.toNat.testBit 31 <;> simp

/-- 'x & (2^i - 1)' of a word. -/
theorem and_mask (x : Int) (hx : 0 ≤ x) (hx' : x < 4294967296) (i : Nat) (hi : i ≤ 32) : bits .and .u32 x ((2 : Int) ^ i - 1) = x % (2 : Int) ^ i := by
  have hp : (2 : Int) ^ i = ((2 ^ i : Nat) : Int) := by simp
  have hp0 : 0 < 2 ^ i := Nat.two_pow_pos i
  have hp1 : 2 ^ i ≤ 2 ^ 32 := Nat.pow_le_pow_right (by decide) hi
  rw [hp, and32 x _ hx hx' (by omega) (by omega)]
  have e : (((2 ^ i : Nat) : Int) - 1).toNat = 2 ^ i - 1 := by omega
  rw [e, Nat.and_two_pow_sub_one_eq_mod]
  obtain ⟨n, rfl⟩ := Int.eq_ofNat_of_zero_le hx
  rw [Int.toNat_natCast]
  omega
theorem and_1 (x : Int) (hx : 0 ≤ x) (hx' : x < 4294967296) : bits .and .u32 x 1 = x % 2 := and_mask x hx hx' 1 (by decide)
theorem and_15 (x : Int) (hx : 0 ≤ x) (hx' : x < 4294967296) : bits .and .u32 x 15 = x % 16 := and_mask x hx hx' 4 (by decide)
theorem and_31 (x : Int) (hx : 0 ≤ x) (hx' : x < 4294967296) : bits .and .u32 x 31 = x % 32 := and_mask x hx hx' 5 (by decide)
theorem and_255 (x : Int) (hx : 0 ≤ x) (hx' : x < 4294967296) : bits .and .u32 x 255 = x % 256 := and_mask x hx hx' 8 (by decide)

/-- math/bits.Sub32's borrow. -/
theorem borrow_bits (x y c : Int) (hx : 0 ≤ x) (hx' : x < 4294967296) (hy : 0 ≤ y) (hy' : y < 4294967296) (hc : 0 ≤ c) (hc' : c ≤ 1) :
    bits .or .u32 (bits .and .u32 (bits .xor .u32 4294967295 x) y) (bits .and .u32 (bits .xor .u32 4294967295 (bits .xor .u32 x y)) ((x - y - c) % 4294967296)) / 2147483648 = if x < y + c then 1 else 0 := by
  have n1 := bits_nonneg .xor 4294967295 x; have n1' := bits_lt .xor 4294967295 x
  have n2 := bits_nonneg .and (bits .xor .u32 4294967295 x) y; have n2' := bits_lt .and (bits .xor .u32 4294967295 x) y
  have n3 := bits_nonneg .xor x y; have n3' := bits_lt .xor x y
  have n4 := bits_nonneg .xor 4294967295 (bits .xor .u32 x y); have n4' := bits_lt .xor 4294967295 (bits .xor .u32 x y)
  have n5 := bits_nonneg .and (bits .xor .u32 4294967295 (bits .xor .u32 x y)) ((x - y - c) % 4294967296)
  have n5' := bits_lt .and (bits .xor .u32 4294967295 (bits .xor .u32 x y)) ((x - y - c) % 4294967296)
  rw [or_top _ _ n2 n2' n5 n5', and_top _ _ n1 n1' hy hy', and_top _ _ n4 n4' (by omega) (by omega), xor_top _ _ (by decide) (by decide) hx hx', xor_top _ _ (by decide) (by decide) n3 n3', xor_top _ _ hx hx' hy hy']
  generalize hr : (x - y - c) % 4294967296 = r
  clear n1 n1' n2 n2' n3 n3' n4 n4' n5 n5'
  by_cases a : x / 2147483648 = 1 <;> by_cases b : y / 2147483648 = 1 <;> by_cases d : r / 2147483648 = 1 <;> simp [a, b, d] <;> omega

/-- The overflow of a sum, and of a difference. -/
theorem over_sum (a b c : Int) (ha : 0 ≤ a) (ha' : a < 4294967296) (hb : 0 ≤ b) (hb' : b < 4294967296) (hc : 0 ≤ c) (hc' : c ≤ 1) :
    (bits .and .u32 (bits .xor .u32 a ((a + b + c) % 4294967296)) (bits .xor .u32 b ((a + b + c) % 4294967296)) / 2147483648 == 1) = decide (sg a + sg b + c ≠ sg ((a + b + c) % 4294967296)) := by
  generalize hr : (a + b + c) % 4294967296 = r
  rw [and_top _ _ (bits_nonneg _ _ _) (bits_lt _ _ _) (bits_nonneg _ _ _) (bits_lt _ _ _), xor_top a r ha ha' (by omega) (by omega), xor_top b r hb hb' (by omega) (by omega)]
  unfold sg
  rw [Bool.eq_iff_iff, beq_iff_eq, decide_eq_true_iff]
  repeat' split
  all_goals omega
theorem over_diff (a b c : Int) (ha : 0 ≤ a) (ha' : a < 4294967296) (hb : 0 ≤ b) (hb' : b < 4294967296) (hc : 0 ≤ c) (hc' : c ≤ 1) :
    (bits .and .u32 (bits .xor .u32 a b) (bits .xor .u32 a ((a - b - c) % 4294967296)) / 2147483648 == 1) = decide (sg a - sg b - c ≠ sg ((a - b - c) % 4294967296)) := by
  generalize hr : (a - b - c) % 4294967296 = r
  rw [and_top _ _ (bits_nonneg _ _ _) (bits_lt _ _ _) (bits_nonneg _ _ _) (bits_lt _ _ _), xor_top a b ha ha' hb hb', xor_top a r ha ha' (by omega) (by omega)]
  unfold sg
  rw [Bool.eq_iff_iff, beq_iff_eq, decide_eq_true_iff]
  repeat' split
  all_goals omega
end Go.Cd
