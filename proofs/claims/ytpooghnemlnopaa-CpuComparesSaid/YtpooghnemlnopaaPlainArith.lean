/- Plain: sums, differences, shifts of words, their carries, and flags. -/
import Derived.Test.YtpooghnemlnopaaKit
import Derived.Test.YtpooghnemlnopaaNum
namespace Go.Proofs.Ytpooghnemlnopaa
open Go Go.RowKit Go.Cd
set_option linter.unusedVariables false

def sumR (a b c : Int) : Int := (a + b + c) % 4294967296
def sumC (a b c : Int) : Bool := (a + b + c) / 4294967296 == 1
def sumV (a b c : Int) : Bool := decide (sg a + sg b + c ≠ sg ((a + b + c) % 4294967296))
def difR (a b c : Int) : Int := (a - b - c) % 4294967296
def difC (a b c : Int) : Bool := decide (a < b + c)
def difV (a b c : Int) : Bool := decide (sg a - sg b - c ≠ sg ((a - b - c) % 4294967296))
def shlR (a n : Int) : Int := a * 2 ^ n.toNat % 4294967296
def shrR (a n : Int) : Int := a / 2 ^ n.toNat
def sarR (a n : Int) : Int := wrap32 a / 2 ^ n.toNat % 4294967296
/-- The bit that goes out. -/
def outB (a n last : Int) : Bool := decide (0 < n) && (a / 2 ^ (last % 32).toNat % 2 == 1)
theorem and_1_div (a : Int) (ha : 0 ≤ a) (ha' : a < 4294967296) (k : Nat) : bits .and .u32 (a / 2 ^ k) 1 = a / 2 ^ k % 2 := by
  have hp : (0 : Int) < 2 ^ k := Int.pow_pos (by decide)
  refine and_1 _ (Int.ediv_nonneg ha (by omega)) ?_
  exact Int.lt_of_le_of_lt (Int.ediv_le_self _ ha) ha'
/-- Four flags as a number. -/
def flagNum (z n c v : Bool) : Int := (if z then 1 else 0) + (if n then 2 else 0) + (if c then 4 else 0) + (if v then 8 else 0)
theorem pow_pos' (k : Nat) : (0 : Int) < 2 ^ k := Int.pow_pos (by decide)
end Go.Proofs.Ytpooghnemlnopaa
