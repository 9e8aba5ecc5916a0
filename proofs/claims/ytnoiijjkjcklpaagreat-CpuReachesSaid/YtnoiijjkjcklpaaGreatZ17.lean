/- Parts of the proof: Num, PlainArith, WArith, CNum1, CIsa1, CIsa2, CIsa3. -/
import Derived.Laws.BitsLemmas
import Derived.Laws.BitsAllLaws
import Derived.Test.YtnoiijjkjcklpaaGreatZ1
import Derived.Test.YtnoiijjkjcklpaaGreatRows
import Derived.Lib.OthersKept
/- Plain lemmas on words: the bits of 32-bit numbers, as whole numbers. No Go, no memory. -/
namespace Go.Cd
open Go

def sg (a : Int) : Int := if 2147483648 ≤ a then a - 4294967296 else a

theorem ofInt_toNat (x : Int) (h0 : 0 ≤ x) (h1 : x < 4294967296) : (BitVec.ofInt 32 x).toNat = x.toNat := by
  rw [BitVec.toNat_ofInt]
  congr 1
  exact Int.emod_eq_of_lt h0 (by omega)

theorem and32 (x y : Int) (hx : 0 ≤ x) (hx' : x < 4294967296) (hy : 0 ≤ y) (hy' : y < 4294967296) : bits .and .u32 x y = ((x.toNat &&& y.toNat : Nat) : Int) := by
  have hlt : x.toNat &&& y.toNat < 2 ^ 32 := Nat.and_lt_two_pow _ (by omega)
  have e : bits .and .u32 x y = (((BitVec.ofInt 32 x &&& BitVec.ofInt 32 y).toNat : Nat) : Int) % 4294967296 := by simp only [bits, IntKind.wrap_u32]; rfl
  rw [e, BitVec.toNat_and, ofInt_toNat x hx hx', ofInt_toNat y hy hy']
  omega
theorem or32 (x y : Int) (hx : 0 ≤ x) (hx' : x < 4294967296) (hy : 0 ≤ y) (hy' : y < 4294967296) : bits .or .u32 x y = ((x.toNat ||| y.toNat : Nat) : Int) := by
  have hlt : x.toNat ||| y.toNat < 2 ^ 32 := Nat.or_lt_two_pow (by omega) (by omega)
  have e : bits .or .u32 x y = (((BitVec.ofInt 32 x ||| BitVec.ofInt 32 y).toNat : Nat) : Int) % 4294967296 := by simp only [bits, IntKind.wrap_u32]; rfl
  rw [e, BitVec.toNat_or, ofInt_toNat x hx hx', ofInt_toNat y hy hy']
  omega
theorem xor32 (x y : Int) (hx : 0 ≤ x) (hx' : x < 4294967296) (hy : 0 ≤ y) (hy' : y < 4294967296) : bits .xor .u32 x y = ((x.toNat ^^^ y.toNat : Nat) : Int) := by
  have hlt : x.toNat ^^^ y.toNat < 2 ^ 32 := Nat.xor_lt_two_pow (by omega) (by omega)
  have e : bits .xor .u32 x y = (((BitVec.ofInt 32 x ^^^ BitVec.ofInt 32 y).toNat : Nat) : Int) % 4294967296 := by simp only [bits, IntKind.wrap_u32]; rfl
  rw [e, BitVec.toNat_xor, ofInt_toNat x hx hx', ofInt_toNat y hy hy']
  omega

theorem bits_nonneg (op : BinOp) (x y : Int) : 0 ≤ bits op .u32 x y := by
  cases op <;> simp only [bits, IntKind.wrap_u32] <;> omega
theorem bits_lt (op : BinOp) (x y : Int) : bits op .u32 x y < 4294967296 := by
  cases op <;> simp only [bits, IntKind.wrap_u32] <;> omega

theorem div_top (n : Nat) (h : n < 4294967296) : n / 2147483648 = if n.testBit 31 then 1 else 0 := by
  rw [Nat.testBit_eq_decide_div_mod_eq]
  by_cases h' : n / 2 ^ 31 % 2 = 1
  · rw [decide_eq_true h', if_pos rfl]; omega
  · rw [decide_eq_false h', if_neg (by simp)]; omega
theorem top_int (x : Int) (h0 : 0 ≤ x) (h1 : x < 4294967296) : x / 2147483648 = if x.toNat.testBit 31 then 1 else 0 := by
  have h := div_top x.toNat (by omega)
  by_cases ht : x.toNat.testBit 31 = true
  · rw [if_pos ht] at h ⊢; omega
  · rw [if_neg ht] at h ⊢; omega
theorem and_top (x y : Int) (hx : 0 ≤ x) (hx' : x < 4294967296) (hy : 0 ≤ y) (hy' : y < 4294967296) :
    bits .and .u32 x y / 2147483648 = if x / 2147483648 = 1 ∧ y / 2147483648 = 1 then 1 else 0 := by
  rw [top_int _ (bits_nonneg _ _ _) (bits_lt _ _ _), top_int x hx hx', top_int y hy hy', and32 x y hx hx' hy hy', Int.toNat_natCast, Nat.testBit_and]
  cases x.toNat.testBit 31 <;> cases y.toNat.testBit 31 <;> simp
theorem or_top (x y : Int) (hx : 0 ≤ x) (hx' : x < 4294967296) (hy : 0 ≤ y) (hy' : y < 4294967296) :
    bits .or .u32 x y / 2147483648 = if x / 2147483648 = 1 ∨ y / 2147483648 = 1 then 1 else 0 := by
  rw [top_int _ (bits_nonneg _ _ _) (bits_lt _ _ _), top_int x hx hx', top_int y hy hy', or32 x y hx hx' hy hy', Int.toNat_natCast, Nat.testBit_or]
  cases x.toNat.testBit 31 <;> cases y.toNat.testBit 31 <;> simp
theorem xor_top (x y : Int) (hx : 0 ≤ x) (hx' : x < 4294967296) (hy : 0 ≤ y) (hy' : y < 4294967296) :
    bits .xor .u32 x y / 2147483648 = if x / 2147483648 = y / 2147483648 then 0 else 1 := by
  rw [top_int _ (bits_nonneg _ _ _) (bits_lt _ _ _), top_int x hx hx', top_int y hy hy', xor32 x y hx hx' hy hy', Int.toNat_natCast, Nat.testBit_xor]
  cases x.toNat.testBit 31 <;> cases y.toNat.testBit 31 <;> simp

theorem and_mask (x : Int) (hx : 0 ≤ x) (hx' : x < 4294967296) (i : Nat) (hi : i ≤ 32) : bits .and .u32 x ((2 : Int) ^ i - 1) = x % (2 : Int) ^ i := by
  have hp : (2 : Int) ^ i = ((2 ^ i : Nat) : Int) := by simp
  have hp0 : 0 < 2 ^ i := Nat.two_pow_pos i
  have hp1 : 2 ^ i ≤ 2 ^ 32 := Nat.pow_le_pow_right (by decide) hi
  rw [hp, and32 x _ hx hx' (by omega) (by omega)]
  have e : (((2 ^ i : Nat) : Int) - 1).toNat = 2 ^ i - 1 := by omega
  rw [e, Nat.and_two_pow_sub_one_eq_mod]
  obtain ⟨n, rfl⟩ := Int.eq_ofNat_of_zero_le hx
  rw [Int.toNat_natCast]
  omega
theorem and_1 (x : Int) (hx : 0 ≤ x) (hx' : x < 4294967296) : bits .and .u32 x 1 = x % 2 := and_mask x hx hx' 1 (by decide)
theorem and_15 (x : Int) (hx : 0 ≤ x) (hx' : x < 4294967296) : bits .and .u32 x 15 = x % 16 := and_mask x hx hx' 4 (by decide)
theorem and_31 (x : Int) (hx : 0 ≤ x) (hx' : x < 4294967296) : bits .and .u32 x 31 = x % 32 := and_mask x hx hx' 5 (by decide)
theorem and_255 (x : Int) (hx : 0 ≤ x) (hx' : x < 4294967296) : bits .and .u32 x 255 = x % 256 := and_mask x hx hx' 8 (by decide)

theorem borrow_bits (x y c : Int) (hx : 0 ≤ x) (hx' : x < 4294967296) (hy : 0 ≤ y) (hy' : y < 4294967296) (hc : 0 ≤ c) (hc' : c ≤ 1) :
    bits .or .u32 (bits .and .u32 (bits .xor .u32 4294967295 x) y) (bits .and .u32 (bits .xor .u32 4294967295 (bits .xor .u32 x y)) ((x - y - c) % 4294967296)) / 2147483648 = if x < y + c then 1 else 0 := by
  have n1 := bits_nonneg .xor 4294967295 x; have n1' := bits_lt .xor 4294967295 x
  have n2 := bits_nonneg .and (bits .xor .u32 4294967295 x) y; have n2' := bits_lt .and (bits .xor .u32 4294967295 x) y
  have n3 := bits_nonneg .xor x y; have n3' := bits_lt .xor x y
  have n4 := bits_nonneg .xor 4294967295 (bits .xor .u32 x y); have n4' := bits_lt .xor 4294967295 (bits .xor .u32 x y)
  have n5 := bits_nonneg .and (bits .xor .u32 4294967295 (bits .xor .u32 x y)) ((x - y - c) % 4294967296)
  have n5' := bits_lt .and (bits .xor .u32 4294967295 (bits .xor .u32 x y)) ((x - y - c) % 4294967296)
  rw [or_top _ _ n2 n2' n5 n5', and_top _ _ n1 n1' hy hy', and_top _ _ n4 n4' (by omega) (by omega), xor_top _ _ (by decide) (by decide) hx hx', xor_top _ _ (by decide) (by decide) n3 n3', xor_top _ _ hx hx' hy hy']
  generalize hr : (x - y - c) % 4294967296 = r
  clear n1 n1' n2 n2' n3 n3' n4 n4' n5 n5'
  by_cases a : x / 2147483648 = 1 <;> by_cases b : y / 2147483648 = 1 <;> by_cases d : r / 2147483648 = 1 <;> simp [a, b, d] <;> omega

theorem over_sum (a b c : Int) (ha : 0 ≤ a) (ha' : a < 4294967296) (hb : 0 ≤ b) (hb' : b < 4294967296) (hc : 0 ≤ c) (hc' : c ≤ 1) :
    (bits .and .u32 (bits .xor .u32 a ((a + b + c) % 4294967296)) (bits .xor .u32 b ((a + b + c) % 4294967296)) / 2147483648 == 1) = decide (sg a + sg b + c ≠ sg ((a + b + c) % 4294967296)) := by
  generalize hr : (a + b + c) % 4294967296 = r
  rw [and_top _ _ (bits_nonneg _ _ _) (bits_lt _ _ _) (bits_nonneg _ _ _) (bits_lt _ _ _), xor_top a r ha ha' (by omega) (by omega), xor_top b r hb hb' (by omega) (by omega)]
  unfold sg
  rw [Bool.eq_iff_iff, beq_iff_eq, decide_eq_true_iff]
  repeat' split
  all_goals omega
theorem over_diff (a b c : Int) (ha : 0 ≤ a) (ha' : a < 4294967296) (hb : 0 ≤ b) (hb' : b < 4294967296) (hc : 0 ≤ c) (hc' : c ≤ 1) :
    (bits .and .u32 (bits .xor .u32 a b) (bits .xor .u32 a ((a - b - c) % 4294967296)) / 2147483648 == 1) = decide (sg a - sg b - c ≠ sg ((a - b - c) % 4294967296)) := by
  generalize hr : (a - b - c) % 4294967296 = r
  rw [and_top _ _ (bits_nonneg _ _ _) (bits_lt _ _ _) (bits_nonneg _ _ _) (bits_lt _ _ _), xor_top a b ha ha' hb hb', xor_top a r ha ha' (by omega) (by omega)]
  unfold sg
  rw [Bool.eq_iff_iff, beq_iff_eq, decide_eq_true_iff]
  repeat' split
  all_goals omega
end Go.Cd
/- Plain: sums, differences, shifts of words, their carries, and flags. -/
namespace Go.Proofs.YtnoiijjkjcklpaaGreat
open Go Go.RowKit Go.Cd
set_option linter.unusedVariables false

def sumR (a b c : Int) : Int := (a + b + c) % 4294967296
def sumC (a b c : Int) : Bool := (a + b + c) / 4294967296 == 1
def sumV (a b c : Int) : Bool := decide (sg a + sg b + c ≠ sg ((a + b + c) % 4294967296))
def difR (a b c : Int) : Int := (a - b - c) % 4294967296
def difC (a b c : Int) : Bool := decide (a < b + c)
def difV (a b c : Int) : Bool := decide (sg a - sg b - c ≠ sg ((a - b - c) % 4294967296))
def shlR (a n : Int) : Int := a * 2 ^ n.toNat % 4294967296
def shrR (a n : Int) : Int := a / 2 ^ n.toNat
def sarR (a n : Int) : Int := wrap32 a / 2 ^ n.toNat % 4294967296
def outB (a n last : Int) : Bool := decide (0 < n) && (a / 2 ^ (last % 32).toNat % 2 == 1)
theorem and_1_div (a : Int) (ha : 0 ≤ a) (ha' : a < 4294967296) (k : Nat) : bits .and .u32 (a / 2 ^ k) 1 = a / 2 ^ k % 2 := by
  have hp : (0 : Int) < 2 ^ k := Int.pow_pos (by decide)
  refine and_1 _ (Int.ediv_nonneg ha (by omega)) ?_
  exact Int.lt_of_le_of_lt (Int.ediv_le_self _ ha) ha'
def flagNum (z n c v : Bool) : Int := (if z then 1 else 0) + (if n then 2 else 0) + (if c then 4 else 0) + (if v then 8 else 0)
theorem pow_pos' (k : Nat) : (0 : Int) < 2 ^ k := Int.pow_pos (by decide)
end Go.Proofs.YtnoiijjkjcklpaaGreat
/- Contracts of math/bits.Add32 and Sub32. -/
namespace Go.Proofs.YtnoiijjkjcklpaaGreat
open Go Go.RowKit Go.Cd

theorem add32_c (x y c : Int) (w : World) (hx : 0 ≤ x) (hx' : x < 4294967296) (hy : 0 ≤ y) (hy' : y < 4294967296) (hc : 0 ≤ c) (hc' : c ≤ 1) :
    Calls Tryz.prog 159 #[.int .u32 x, .int .u32 y, .int .u32 c] w fun e w' => e = .returned (.tuple #[.int .u32 ((x + y + c) % 4294967296), .int .u32 ((x + y + c) / 4294967296)]) ∧ w = w' := by
  go_enter Tryz.func159, Tryz.ntmps159
  go_wp2
  go_ret2
  exact ⟨rfl, rfl⟩
theorem sub32_c (x y c : Int) (w : World) (hx : 0 ≤ x) (hx' : x < 4294967296) (hy : 0 ≤ y) (hy' : y < 4294967296) (hc : 0 ≤ c) (hc' : c ≤ 1) :
    Calls Tryz.prog 101 #[.int .u32 x, .int .u32 y, .int .u32 c] w fun e w' => e = .returned (.tuple #[.int .u32 ((x - y - c) % 4294967296), .int .u32 (((difC x y c).toNat : Nat) : Int)]) ∧ w = w' := by
  have hb := Lib.hid (borrow_bits x y c hx hx' hy hy' hc hc')
  go_enter Tryz.func101, Tryz.ntmps101
  go_wp2
  go_ret2
  refine ⟨?_, rfl⟩
  simp only [Array.getD_eq_getD_getElem?, List.getElem?_toArray, List.getElem?_cons_succ, List.getElem?_cons_zero, Option.getD_some]
  rw [show IntKind.u32.max = 4294967295 from rfl, hb.out]
  unfold difC
  by_cases h : x < y + c <;> simp [h]
end Go.Proofs.YtnoiijjkjcklpaaGreat
/- Contracts of cpu.flagged, sum, difference, logic, shifted, quotient. -/
namespace Go.Proofs.YtnoiijjkjcklpaaGreat
open Go Go.RowKit Go.Cd
set_option linter.unusedVariables false

theorem set_t (f x : Int) (a : Addr) (w : World) (h : w.cell? a = some (.int .i64 x)) (h' : w.frozen? a = false) :
    Calls Tryz.prog 158 #[.int .i64 f, .bool true, .pointer (some a)] w fun e w' => e = .returned (.tuple #[]) ∧ w' = w.setCell a (.int .i64 (bits .or .i64 x f)) := by
  go_enter Tryz.func158, Tryz.ntmps158
  go_wp2
  go_end0
  exact ⟨rfl, rfl⟩
theorem set_f (f : Int) (a : Addr) (w : World) :
    Calls Tryz.prog 158 #[.int .i64 f, .bool false, .pointer (some a)] w fun e w' => e = .returned (.tuple #[]) ∧ w' = w := by
  go_enter Tryz.func158, Tryz.ntmps158
  go_wp2
  go_end0
  exact ⟨rfl, rfl⟩
set_option maxHeartbeats 1000000 in
theorem flagged_c (r : Int) (c v : Bool) (w : World) (h : 0 ≤ r) (h' : r < 4294967296) :
    Calls Tryz.prog 102 #[.int .u32 r, .bool c, .bool v] w fun e w' => e = .returned (.int .i64 (flagNum (r == 0) (r / 2147483648 == 1) c v)) ∧ New w w' := by
  obtain ⟨z, hz⟩ : ∃ z, (r == 0) = z := ⟨_, rfl⟩
  obtain ⟨n, hn⟩ : ∃ n, (r / 2147483648 == 1) = n := ⟨_, rfl⟩
  rw [hz, hn]
  cases z <;> cases n <;> cases c <;> cases v
  all_goals
    go_enter Tryz.func102, Tryz.ntmps102
    go_wp2_with (go_at_call 158; (first | ((with_reducible refine (set_f _ _ _).mono ?_); rintro e w' ⟨rfl, rfl⟩) | (refine (set_t _ _ _ _ (cell_of_heap (heap_alloc_at _ _ _ rfl) rfl) (by simp)).mono ?_; rintro e w' ⟨rfl, rfl⟩)))
    go_ret
    exact ⟨rfl, by go_grown⟩
def sumFl (a b c : Int) : Int := flagNum (sumR a b c == 0) (sumR a b c / 2147483648 == 1) (sumC a b c) (sumV a b c)
def difFl (a b c : Int) : Int := flagNum (difR a b c == 0) (difR a b c / 2147483648 == 1) (difC a b c) (difV a b c)
def logFl (r : Int) : Int := flagNum (r == 0) (r / 2147483648 == 1) false false
theorem csum_c (x y c : Int) (w : World) (hx : 0 ≤ x) (hx' : x < 4294967296) (hy : 0 ≤ y) (hy' : y < 4294967296) (hc : 0 ≤ c) (hc' : c ≤ 1) :
    Calls Tryz.prog 104 #[.int .u32 x, .int .u32 y, .int .u32 c] w fun e w' => e = .returned (.tuple #[.int .u32 (sumR x y c), .int .i64 (sumFl x y c)]) ∧ New w w' := by
  have hb := Lib.hid (over_sum x y c hx hx' hy hy' hc hc')
  go_enter Tryz.func104, Tryz.ntmps104
  go_wp2_with (first
    | (go_at_call 159; refine (add32_c _ _ _ _ (by omega) (by omega) (by omega) (by omega) (by omega) (by omega)).mono ?_; rintro e w' ⟨rfl, rfl⟩)
    | (go_at_call 102; refine (flagged_c _ _ _ _ (by omega) (by omega)).mono ?_; rintro e w1 ⟨rfl, hb1⟩))
  go_ret2
  refine ⟨?_, hb1⟩
  simp only [Array.getD_eq_getD_getElem?, List.getElem?_toArray, List.getElem?_cons_succ, List.getElem?_cons_zero, Option.getD_some]
  rw [hb.out]
  rfl
theorem cdif_c (x y c : Int) (w : World) (hx : 0 ≤ x) (hx' : x < 4294967296) (hy : 0 ≤ y) (hy' : y < 4294967296) (hc : 0 ≤ c) (hc' : c ≤ 1) :
    Calls Tryz.prog 70 #[.int .u32 x, .int .u32 y, .int .u32 c] w fun e w' => e = .returned (.tuple #[.int .u32 (difR x y c), .int .i64 (difFl x y c)]) ∧ New w w' := by
  have hb := Lib.hid (over_diff x y c hx hx' hy hy' hc hc')
  go_enter Tryz.func70, Tryz.ntmps70
  go_wp2_with (first
    | (go_at_call 101; refine (sub32_c _ _ _ _ (by omega) (by omega) (by omega) (by omega) (by omega) (by omega)).mono ?_; rintro e w' ⟨rfl, rfl⟩)
    | (go_at_call 102; refine (flagged_c _ _ _ _ (by omega) (by omega)).mono ?_; rintro e w1 ⟨rfl, hb1⟩))
  go_ret2
  refine ⟨?_, hb1⟩
  simp only [Array.getD_eq_getD_getElem?, List.getElem?_toArray, List.getElem?_cons_succ, List.getElem?_cons_zero, Option.getD_some]
  rw [hb.out]
  unfold difFl difR difV
  cases difC x y c <;> rfl
theorem clogic_c (r : Int) (w : World) (h : 0 ≤ r) (h' : r < 4294967296) :
    Calls Tryz.prog 107 #[.int .u32 r] w fun e w' => e = .returned (.tuple #[.int .u32 r, .int .i64 (logFl r)]) ∧ New w w' := by
  go_enter Tryz.func107, Tryz.ntmps107
  go_wp2_with (go_at_call 102; refine (flagged_c _ _ _ _ (by omega) (by omega)).mono ?_; rintro e w1 ⟨rfl, hb1⟩)
  go_ret2
  exact ⟨rfl, hb1⟩
def outS (a n : Int) (left : Bool) : Bool := if n = 0 then false else a / 2 ^ (if left = true then 32 - n else n - 1).toNat % 2 == 1
def shFl (r a n : Int) (left : Bool) : Int := flagNum (r == 0) (r / 2147483648 == 1) (outS a n left) false
theorem cshifted_c (r a n : Int) (left : Bool) (w : World) (h : 0 ≤ r) (h' : r < 4294967296) (ha : 0 ≤ a) (ha' : a < 4294967296) (hn : 0 ≤ n) (hn' : n < 32) :
    Calls Tryz.prog 111 #[.int .u32 r, .int .u32 a, .int .u32 n, .bool left] w fun e w' => e = .returned (.tuple #[.int .u32 r, .int .i64 (shFl r a n left)]) ∧ New w w' := by
  by_cases h0 : n = 0
  · subst h0
    go_enter Tryz.func111, Tryz.ntmps111
    go_wp2_with (go_at_call 102; refine (flagged_c _ _ _ _ (by omega) (by omega)).mono ?_; rintro e w1 ⟨rfl, hb1⟩)
    go_ret2
    exact ⟨rfl, hb1⟩
  · cases left
    · have hm := Lib.hid (and_1_div a ha ha' (n.toNat - 1))
      have e0 : (n == 0) = false := by simp [h0]
      have h1 : 1 ≤ n := by omega
      go_enter Tryz.func111, Tryz.ntmps111
      go_wp2_with (go_at_call 102; refine (flagged_c _ _ _ _ (by omega) (by omega)).mono ?_; rintro e w1 ⟨rfl, hb1⟩)
      go_ret2
      refine ⟨?_, hb1⟩
      simp only [Array.getD_eq_getD_getElem?, List.getElem?_toArray, List.getElem?_cons_succ, List.getElem?_cons_zero, Option.getD_some]
      rw [hm.out]
      unfold shFl outS
      rw [if_neg h0, show n.toNat - 1 = (n - 1).toNat by omega]
      rfl
    · have hm := Lib.hid (and_1_div a ha ha' (32 - n).toNat)
      have e0 : (n == 0) = false := by simp [h0]
      have h1 : 1 ≤ n := by omega
      go_enter Tryz.func111, Tryz.ntmps111
      go_wp2_with (go_at_call 102; refine (flagged_c _ _ _ _ (by omega) (by omega)).mono ?_; rintro e w1 ⟨rfl, hb1⟩)
      go_ret2
      refine ⟨?_, hb1⟩
      simp only [Array.getD_eq_getD_getElem?, List.getElem?_toArray, List.getElem?_cons_succ, List.getElem?_cons_zero, Option.getD_some]
      rw [hm.out]
      unfold shFl outS
      rw [if_neg h0]
      rfl
def divS (a b : Int) : Int := (sg a).tdiv (sg b) % 4294967296
theorem wrap_sg (a : Int) (h : 0 ≤ a) (h' : a < 4294967296) : wrap32 a = sg a := by
  unfold wrap32 sg
  split <;> omega
theorem wrap_mod (a : Int) : wrap32 a % 4294967296 = a % 4294967296 := by
  unfold wrap32
  omega
theorem sg_ne (b : Int) (h : 0 < b) (h' : b < 4294967296) : sg b ≠ 0 := by
  unfold sg
  split <;> omega
theorem cquot_c (a b : Int) (w : World) (ha : 0 ≤ a) (ha' : a < 4294967296) (hb : 0 < b) (hb' : b < 4294967296) :
    Calls Tryz.prog 119 #[.int .u32 a, .int .u32 b] w fun e w' => e = .returned (.int .u32 (divS a b)) ∧ New w w' := by
  by_cases h1 : b = 4294967295
  · subst h1
    go_enter Tryz.func119, Tryz.ntmps119
    go_wp2
    go_ret
    refine ⟨ret_int ?_, New.refl _⟩
    unfold divS
    rw [show sg 4294967295 = -1 from rfl, Int.tdiv_neg, Int.tdiv_one]
    unfold sg
    split <;> omega
  · have e0 : (b == 4294967295) = false := by simp [h1]
    have hnz : ¬ wrap32 b = 0 := by rw [wrap_sg b (by omega) hb']; exact sg_ne b hb hb'
    go_enter Tryz.func119, Tryz.ntmps119
    go_wp2
    go_ret
    refine ⟨ret_int ?_, New.refl _⟩
    unfold divS
    rw [wrap_mod, wrap_sg a ha ha', wrap_sg b (by omega) hb']
end Go.Proofs.YtnoiijjkjcklpaaGreat
/- The operands of an operation. Written by genIsa1.py. -/
namespace Go.Proofs.YtnoiijjkjcklpaaGreat
open Go Go.RowKit Go.Cd
set_option linter.unusedVariables false

def opTab : List (Int × Array UInt8) := [(1, #[]), (2, #[97, 98]), (3, #[97, 98, 99]), (4, #[97, 98, 99]), (5, #[97, 98, 99]), (6, #[97, 98, 99]), (7, #[97, 98, 99]), (8, #[97, 98, 99]), (9, #[97, 98, 99]), (10, #[97, 98, 99]), (11, #[97, 98, 99]), (12, #[97, 98, 99]), (13, #[97, 98, 99]), (14, #[97, 98, 99]), (15, #[97, 98, 99]), (16, #[97, 98, 99]), (17, #[97, 98, 99]), (18, #[97, 98, 107]), (19, #[97, 98]), (20, #[97, 98]), (21, #[97, 98, 101]), (22, #[98, 99]), (23, #[98, 99]), (24, #[98, 107]), (25, #[97, 98, 99, 100]), (26, #[97, 100]), (27, #[97, 109]), (28, #[97, 109]), (29, #[97, 109]), (30, #[97, 109]), (31, #[97, 109]), (32, #[97, 109]), (33, #[97, 109]), (34, #[97]), (35, #[97]), (36, #[97, 109]), (37, #[97, 99, 109]), (38, #[97, 109]), (39, #[]), (40, #[98]), (41, #[98]), (42, #[]), (43, #[]), (44, #[]), (45, #[]), (46, #[97]), (47, #[98]), (48, #[65, 109]), (49, #[65, 109]), (50, #[65, 66]), (51, #[65, 66, 67, 108]), (52, #[65, 66, 67, 108]), (53, #[65, 66, 67, 108]), (54, #[65, 66, 67]), (55, #[65, 66, 67]), (56, #[65, 66, 67]), (57, #[65, 66, 67]), (58, #[65, 98, 119]), (59, #[97, 66, 119]), (60, #[65, 98]), (61, #[97, 66]), (64, #[97, 105]), (65, #[97, 98, 105]), (66, #[105]), (67, #[100, 105]), (68, #[105]), (69, #[97, 110]), (70, #[97, 110]), (71, #[97, 98, 99, 115, 105]), (72, #[98, 105])]
def opL (op : Int) : Option (Array UInt8) := opTab.lookup op
def opStr (t : Option (Array UInt8)) : Value := .tuple #[.string ⟨t.getD #[]⟩, .bool t.isSome]
theorem opL_out (op : Int) (h : ∀ k ∈ opTab.map (·.1), op ≠ k) : opL op = none := by
  unfold opL
  have g : ∀ l : List (Int × Array UInt8), (∀ k ∈ l.map (·.1), op ≠ k) → l.lookup op = none := by
    intro l
    induction l with
    | nil => intro _; rfl
    | cons p l ih =>
      intro h
      have h1 : (op == p.1) = false := by simpa using h p.1 (by simp)
      rw [List.lookup_cons, h1]
      exact ih fun k hk => h k (by simp at hk ⊢; exact .inr hk)
  exact g _ h
set_option maxRecDepth 100000 in
set_option maxHeartbeats 4000000 in
theorem vectors_c (op : Int) (w : World) (h : ∀ k ∈ ([1, 2, 3, 4, 5, 6, 7, 8, 9, 10, 11, 12, 13, 14, 15, 16, 17, 18, 19, 20, 21, 22, 23, 24, 25, 26, 27, 28, 29, 30, 31, 32, 33, 34, 35, 36, 37, 38, 39, 40, 41, 42, 43, 44, 45, 46, 47, 64, 65, 66, 67, 68, 69, 70, 71, 72] : List Int), op ≠ k) : Calls Tryz.prog 99 #[.int .i64 op] w fun e w' => e = .returned (opStr (opL op)) ∧ w' = w := by
  have H := Lib.hid h
  clear h
  go_enter Tryz.func99, Tryz.ntmps99
  go_wp2
  all_goals go_ret2
  all_goals refine ⟨?_, rfl⟩
  all_goals
    first
    | (obtain rfl := eq_of_beq (by assumption : (op == _) = true); rfl)
    | (rw [opL_out op ?_]; rfl)
  have H' := H.out
  simp only [beq_eq_false_iff_ne] at *
  intro k hk
  simp only [List.forall_mem_cons] at H'
  simp only [opTab, List.map_cons, List.map_nil, List.mem_cons, List.not_mem_nil, or_false] at hk
  omega
theorem opL_abc (op : Int) (h1 : 3 ≤ op) (h2 : op ≤ 17) : opL op = some #[97, 98, 99] := by
  have hr : op = 3 ∨ op = 4 ∨ op = 5 ∨ op = 6 ∨ op = 7 ∨ op = 8 ∨ op = 9 ∨ op = 10 ∨ op = 11 ∨ op = 12 ∨ op = 13 ∨ op = 14 ∨ op = 15 ∨ op = 16 ∨ op = 17 := by omega
  rcases hr with rfl | rfl | rfl | rfl | rfl | rfl | rfl | rfl | rfl | rfl | rfl | rfl | rfl | rfl | rfl <;> rfl
theorem opL_am (op : Int) (h : (27 ≤ op ∧ op ≤ 33) ∨ op = 36 ∨ op = 38) : opL op = some #[97, 109] := by
  have hr : op = 27 ∨ op = 28 ∨ op = 29 ∨ op = 30 ∨ op = 31 ∨ op = 32 ∨ op = 33 ∨ op = 36 ∨ op = 38 := by omega
  rcases hr with rfl | rfl | rfl | rfl | rfl | rfl | rfl | rfl | rfl <;> rfl
set_option maxRecDepth 100000 in
set_option maxHeartbeats 8000000 in
theorem operands_c (op : Int) (w : World) : Calls Tryz.prog 68 #[.int .i64 op] w fun e w' => e = .returned (opStr (opL op)) ∧ w' = w := by
  have C := Lib.hid fun w h => vectors_c op w h
  unfold opStr at C
  go_enter Tryz.func68, Tryz.ntmps68
  go_wp2_with (go_at_call 99; refine (C.out _ ?_).mono ?_; (simp only [beq_eq_false_iff_ne] at *; intro k hk; simp only [List.mem_cons, List.not_mem_nil, or_false] at hk; omega); rintro e w1 ⟨rfl, rfl⟩)
  all_goals go_ret2
  all_goals refine ⟨?_, rfl⟩
  all_goals
    first
    | (obtain rfl := eq_of_beq (by assumption : (op == _) = true); rfl)
    | rfl
    | exact (congrArg (fun t => Ending.returned (opStr t)) (opL_abc op (by (try simp only [beq_eq_false_iff_ne, beq_iff_eq] at *); omega) (by (try simp only [beq_eq_false_iff_ne, beq_iff_eq] at *); omega))).symm
    | exact (congrArg (fun t => Ending.returned (opStr t)) (opL_am op (by (try simp only [beq_eq_false_iff_ne, beq_iff_eq] at *); omega))).symm
end Go.Proofs.YtnoiijjkjcklpaaGreat
/- The contract of isa.fields. Written by genIsa2.py. -/
namespace Go.Proofs.YtnoiijjkjcklpaaGreat
open Go Go.RowKit Go.Cd Go.Lib
set_option linter.unusedVariables false

structure Room where
  a : Int
  b : Int
  c : Int
  d : Int
  k : Bool
  i : Bool
def roomA (r : Room) : Array Value := #[.int .i64 r.a, .int .i64 r.b, .int .i64 r.c, .int .i64 r.d, .bool r.k, .bool r.i]
def roomStep (r : Room) (x : Int) : Room :=
  if (x == 97) = true then { r with a := 15 } else if (x == 65) = true then { r with a := 7 }
  else if (x == 98) = true then { r with b := 15 } else if (x == 66) = true then { r with b := 7 }
  else if (x == 99) = true then { r with c := 15 } else if (x == 67) = true then { r with c := 7 }
  else if (x == 100) = true then { r with d := 15 } else if (x == 101) = true then { r with d := 3 } else if (x == 119) = true then { r with d := 3 } else if (x == 115) = true then { r with d := 3 }
  else if (x == 108) = true then { r with d := 2 } else if (x == 107) = true then { r with k := true } else if (x == 105) = true then { r with i := true }
  else if (x == 109) = true then { r with b := 15, k := true } else if (x == 110) = true then { r with b := 15, i := true } else r
def roomOf (l : List UInt8) : Room := l.foldl (fun r x => roomStep r x.toNat) ⟨0, 0, 0, 0, false, false⟩
def fieldsF (op : Int) : Room × Bool := (roomOf ((opL op).getD #[]).toList, (opL op).isSome)
theorem roomOf_succ (l : List UInt8) (k : Nat) (h : k < l.length) : roomOf (l.take (k + 1)) = roomStep (roomOf (l.take k)) (l[k]).toNat := by
  unfold roomOf
  rw [List.take_succ_eq_append_getElem h, List.foldl_append]
  rfl
theorem opTab_small : ∀ p ∈ opTab, p.2.size ≤ 5 ∧ ∀ x ∈ p.2.toList, x.toNat < 128 := by decide +kernel
theorem opL_small (op : Int) : ((opL op).getD #[]).size ≤ 5 ∧ ∀ x ∈ ((opL op).getD #[]).toList, x.toNat < 128 := by
  have g : ∀ l : List (Int × Array UInt8), (∀ p ∈ l, p.2.size ≤ 5 ∧ ∀ x ∈ p.2.toList, x.toNat < 128) → ((l.lookup op).getD #[]).size ≤ 5 ∧ ∀ x ∈ ((l.lookup op).getD #[]).toList, x.toNat < 128 := by
    intro l
    induction l with
    | nil => intro _; exact ⟨Nat.zero_le _, by simp⟩
    | cons p l ih =>
      intro h
      rw [List.lookup_cons]
      cases op == p.1
      · exact ih fun q hq => h q (List.mem_cons_of_mem _ hq)
      · exact h p (List.mem_cons_self ..)
  exact g opTab opTab_small
theorem room_size : (Tryz.prog.info? 181).map (·.size) = some 6 := by kernel_rfl
theorem exRs (a : Act) (dst : Option Tmp) (x y : Operand) (ty : TypeId) (pos : String) (after : Array Edge) (guard : Option (Nat × Bool)) :
    execOp a.eval { dst, op := .store 181 x y, type := ty, pos, after, guard } = storeRow 181 (a.eval x) (a.eval y) := rfl
theorem exRl (a : Act) (dst : Option Tmp) (x : Operand) (ty : TypeId) (pos : String) (after : Array Edge) (guard : Option (Nat × Bool)) :
    execOp a.eval { dst, op := .load 181 x, type := ty, pos, after, guard } = loadRow 181 (a.eval x) := rfl
attribute [local go_sem ↓] exRs exRl Go.wp_at_zero Go.wp_at_succ
theorem laid3 (w : World) (o0 o1 o2 : Obj) : let W := ((w.alloc o0).alloc o1).alloc o2
    W.heap[w.heap.size]? = some o0 ∧ W.heap[w.heap.size + 1]? = some o1 ∧ W.heap[w.heap.size + 1 + 1]? = some o2 ∧ New w W := by
  refine ⟨?_, ?_, ?_, by go_grown⟩
  · exact heap_keep (heap_keep (heap_alloc_at w o0 _ rfl))
  · exact heap_keep (heap_alloc_at (w.alloc o0) o1 _ (by simp))
  · exact heap_alloc_at ((w.alloc o0).alloc o1) o2 _ (by simp)
def RoomPre (w : World) (l : Array UInt8) (wr : World) (k : Nat) (r : Room) : Prop :=
  wr.heap[w.heap.size]? = some (.cells #[.int .i64 0, .int .i64 0, .int .i64 0, .int .i64 0, .bool false, .bool false] 181) ∧ wr.heap[w.heap.size + 1]? = some (.cells (roomA r) 181) ∧ wr.heap[w.heap.size + 1 + 1]? = some (.stringIter ⟨l⟩ k) ∧ New w wr
theorem roomPre_set {w wr : World} {l : Array UInt8} {k : Nat} {r r' : Room} (h : RoomPre w l wr k r) (j : Nat) (v : Value) (hr : (roomA r).setIfInBounds j v = roomA r') : RoomPre w l (wr.setCell ⟨w.heap.size + 1, j, none⟩ v) k r' := by
  obtain ⟨h0, h1, h2, h3⟩ := h
  have ho := only_setCell wr (w.heap.size + 1) j v
  refine ⟨(ho.block _ (by omega)).trans h0, ?_, (ho.block _ (by omega)).trans h2, new_only h3 ho (by omega)⟩
  rw [← hr]
  exact setCell_at h1 v
theorem roomPre_pos {w wr : World} {l : Array UInt8} {k : Nat} {r : Room} (h : RoomPre w l wr k r) : wr.iterPos (w.heap.size + 1 + 1) = k := by
  simp [World.iterPos, h.2.2.1]
theorem only_iterAt (w : World) (k : Nat) (s : ByteArray) (pos : Nat) : Only k w (w.iterAt k s pos) := only_putObj w k (.stringIter s pos)
set_option maxRecDepth 100000 in
set_option maxHeartbeats 4000000 in
theorem fields_c (op : Int) (w : World) : Calls Tryz.prog 97 #[.int .i64 op] w fun e w' => e = .returned (.tuple #[.agg (roomA (fieldsF op).1), .bool (fieldsF op).2]) ∧ New w w' := by
  have C := Lib.hid (operands_c op)
  unfold opStr at C
  have hsm := opL_small op
  obtain ⟨l, hl⟩ : ∃ l, l = (opL op).getD #[] := ⟨_, rfl⟩
  obtain ⟨z, hz⟩ : ∃ z, z = (opL op).isSome := ⟨_, rfl⟩
  have e : fieldsF op = (roomOf l.toList, z) := by unfold fieldsF; rw [hl, hz]
  rw [← hl, ← hz] at C
  rw [← hl] at hsm
  rw [e]
  clear e hl hz
  have HSM := Lib.hid hsm
  clear hsm
  go_enter Tryz.func97, Tryz.ntmps97
  go_wp2_with (go_at_call 68; refine (C.out _).mono ?_; rintro e w1 ⟨rfl, rfl⟩)
  obtain ⟨x0, x1, x2, hN⟩ := laid3 w (.cells #[.int .i64 0, .int .i64 0, .int .i64 0, .int .i64 0, .bool false, .bool false] 181) (.cells #[.int .i64 0, .int .i64 0, .int .i64 0, .int .i64 0, .bool false, .bool false] 181) (.stringIter ⟨l⟩ 0)
  have X0 := Lib.hid x0
  have X1 := Lib.hid x1
  have X2 := Lib.hid x2
  have HN := Lib.hid hN
  clear x0 x1 x2 hN
  go_loopw [8] (fun _ wr => ∃ k : Nat, k ≤ l.size ∧ wr.heap[w.heap.size]? = some (.cells #[.int .i64 0, .int .i64 0, .int .i64 0, .int .i64 0, .bool false, .bool false] 181) ∧ wr.heap[w.heap.size + 1]? = some (.cells (roomA (roomOf (l.toList.take k))) 181) ∧ wr.heap[w.heap.size + 1 + 1]? = some (.stringIter ⟨l⟩ k) ∧ New w wr) (fun _ wr => l.size - wr.iterPos (w.heap.size + 1 + 1))
  case atStart => exact ⟨0, Nat.zero_le _, X0.out, X1.out, X2.out, HN.out⟩
  case round =>
    clear X0 X1 X2 HN
    obtain ⟨k, hk, x0, x1, x2, hN⟩ := hrel
    have X0 := Lib.hid x0
    have X1 := Lib.hid x1
    have X2 := Lib.hid x2
    have HN := Lib.hid hN
    clear x0 x1 x2 hN
    have hpos : Hid (wr.iterPos (w.heap.size + 1 + 1) = k) := by show _ = _; simp [World.iterPos, X2.out]
    by_cases hlt : k < l.size
    · have hnx := fun ty => run_next_ascii_at (P := Tryz.prog) wr (w.heap.size + 1 + 1) ⟨l⟩ k ty X2.out hlt (HSM.out.2 (l[k]'hlt) (by simp))
      have hi1 : Hid ((wr.iterAt (w.heap.size + 1 + 1) ⟨l⟩ (k + 1)).heap[w.heap.size + 1 + 1]? = some (.stringIter ⟨l⟩ (k + 1))) := iterAt_heap wr _ _ _ _ X2.out
      have hon : Hid (Only (w.heap.size + 1 + 1) wr (wr.iterAt (w.heap.size + 1 + 1) ⟨l⟩ (k + 1))) := only_iterAt ..
      have Y0 := Lib.hid ((hon.out.block _ (by omega)).trans X0.out)
      have Y1 := Lib.hid ((hon.out.block _ (by omega)).trans X1.out)
      have YN := Lib.hid (new_only HN.out hon.out (by omega))
      obtain ⟨ch, hch⟩ : ∃ ch : Int, ch = ((l[k]'hlt).toNat : Int) := ⟨_, rfl⟩
      have hr : Hid (roomOf (l.toList.take (k + 1)) = roomStep (roomOf (l.toList.take k)) ch) := by
        show _ = _
        rw [roomOf_succ _ _ (by simpa using hlt), hch]
        rfl
      have hnx' : ∀ ty, (Instr.next (.pointer (some ⟨w.heap.size + 1 + 1, 0, none⟩)) true ty).run Tryz.prog wr = .ok (.tuple #[.bool true, .int .i64 k, .int .i32 ch]) (wr.iterAt (w.heap.size + 1 + 1) ⟨l⟩ (k + 1)) := fun ty => by rw [hch]; exact hnx ty
      clear hnx hch hon
      generalize wr.iterAt (w.heap.size + 1 + 1) ⟨l⟩ (k + 1) = w2 at *
      obtain ⟨r, hre⟩ : ∃ r, r = roomOf (l.toList.take k) := ⟨_, rfl⟩
      rw [← hre] at hr Y1
      clear hre X0 X1 X2 HN
      have c0 := cell_of_heap (i := 0) Y1.out rfl
      have c1 := cell_of_heap (i := 1) Y1.out rfl
      have c2 := cell_of_heap (i := 2) Y1.out rfl
      have c3 := cell_of_heap (i := 3) Y1.out rfl
      have c4 := cell_of_heap (i := 4) Y1.out rfl
      have c5 := cell_of_heap (i := 5) Y1.out rfl
      have f0 : w2.frozen? ⟨w.heap.size + 1, 0, none⟩ = false := frozen_of_heap Y1.out
      have f1 : w2.frozen? ⟨w.heap.size + 1, 1, none⟩ = false := frozen_of_heap Y1.out
      have f2 : w2.frozen? ⟨w.heap.size + 1, 2, none⟩ = false := frozen_of_heap Y1.out
      have f3 : w2.frozen? ⟨w.heap.size + 1, 3, none⟩ = false := frozen_of_heap Y1.out
      have f4 : w2.frozen? ⟨w.heap.size + 1, 4, none⟩ = false := frozen_of_heap Y1.out
      have f5 : w2.frozen? ⟨w.heap.size + 1, 5, none⟩ = false := frozen_of_heap Y1.out
      have P0 : Hid (RoomPre w l w2 (k + 1) r) := ⟨Y0.out, Y1.out, hi1.out, YN.out⟩
      clear Y0 Y1 hi1 YN
      go_wp2_with fail
      all_goals
        suffices h : RoomPre w l _ (k + 1) (roomStep r ch) from ⟨⟨k + 1, by omega, by rw [hr.out]; exact h⟩, by rw [roomPre_pos h, hpos.out]; omega⟩
        iterate 1
          simp only [roomStep, *, if_true, if_false, Bool.false_eq_true]
          first
          | exact roomPre_set P0.out 0 (.int .i64 15) rfl
          | exact roomPre_set P0.out 0 (.int .i64 7) rfl
          | exact roomPre_set P0.out 1 (.int .i64 15) rfl
          | exact roomPre_set P0.out 1 (.int .i64 7) rfl
          | exact roomPre_set P0.out 2 (.int .i64 15) rfl
          | exact roomPre_set P0.out 2 (.int .i64 7) rfl
          | exact roomPre_set P0.out 3 (.int .i64 15) rfl
          | exact roomPre_set P0.out 3 (.int .i64 3) rfl
          | exact roomPre_set P0.out 3 (.int .i64 2) rfl
          | exact roomPre_set P0.out 4 (.bool true) rfl
          | exact roomPre_set P0.out 5 (.bool true) rfl
          | exact roomPre_set (roomPre_set (r' := { r with b := 15 }) P0.out 1 (.int .i64 15) rfl) 4 (.bool true) rfl
          | exact roomPre_set (roomPre_set (r' := { r with b := 15 }) P0.out 1 (.int .i64 15) rfl) 5 (.bool true) rfl
          | exact P0.out
    · obtain rfl : k = l.size := by omega
      have hnx := fun ty => run_next_end_at (P := Tryz.prog) wr (w.heap.size + 1 + 1) ⟨l⟩ l.size ty X2.out (by simp [ByteArray.size])
      have hr : Hid (roomOf (l.toList.take l.size) = roomOf l.toList) := by
        show _ = _
        rw [List.take_of_length_le (by simp)]
      rw [hr.out] at X1
      go_wp2_with fail
      rw [load_all (P := Tryz.prog) 181 (w.heap.size + 1) (roomA (roomOf l.toList)) 181 _ wr X1.out Tryz.underlying181 rfl (room_size.trans rfl)]
      go_wp2_with fail
      obtain ⟨w8, hst, h8, ho8⟩ := store_all (P := Tryz.prog) 181 w.heap.size _ (roomA (roomOf l.toList)) _ wr X0.out rfl (room_size.trans rfl) (by simp [roomA, Value.oneCell'])
      rw [hst]
      clear hst
      have N8 := Lib.hid (new_only HN.out ho8 (by omega))
      have X8 := Lib.hid h8
      clear h8 ho8
      go_wp2_with fail
      refine ⟨rfl, _, results_cell_slot Tryz.results97 _ _ _ _ rfl (load_row 181 w.heap.size (roomA (roomOf l.toList)) 181 _ w8 X8.out Tryz.underlying181 rfl (room_size.trans rfl)), ?_⟩
      exact ⟨rfl, N8.out⟩
end Go.Proofs.YtnoiijjkjcklpaaGreat
/- The contracts of room.has and isa.valid. -/
namespace Go.Proofs.YtnoiijjkjcklpaaGreat
open Go Go.RowKit Go.Cd
set_option linter.unusedVariables false

structure Insn where
  op : Int
  a : Int
  b : Int
  c : Int
  d : Int
  k : Int
  i : Int
def insnA (x : Insn) : Array Value := #[.int .i64 x.op, .int .i64 x.a, .int .i64 x.b, .int .i64 x.c, .int .i64 x.d, .int .i64 x.k, .int .u32 x.i]
def insnV (x : Insn) : Value := .agg (insnA x)
def wthn (n m : Int) : Bool := decide (n ≥ 0) && decide (n ≤ m)
theorem has1_c (n m : Int) (w : World) : Calls Tryz.prog 156 #[.int .i64 n, .int .i64 m] w fun e w' => e = .returned (.bool (wthn n m)) ∧ w' = w := by
  unfold wthn
  by_cases h0 : n ≥ 0
  · go_enter Tryz.func156, Tryz.ntmps156
    go_wp2
    go_ret
    refine ⟨?_, rfl⟩
    simp [h0]
  · go_enter Tryz.func156, Tryz.ntmps156
    go_wp2
    go_ret
    refine ⟨?_, rfl⟩
    rw [decide_eq_false (by omega : ¬ n ≥ 0)]
    rfl
def hasF (r : Room) (x : Insn) : Bool := wthn x.a r.a && wthn x.b r.b && wthn x.c r.c && wthn x.d r.d && (x.k == 0 || r.k && wthn (IntKind.i64.wrap (x.k + 128)) 255) && (x.i == 0 || r.i)
set_option maxRecDepth 100000 in
set_option maxHeartbeats 4000000 in
theorem has_c (r : Room) (x : Insn) (w : World) : Calls Tryz.prog 98 #[.agg (roomA r), insnV x] w fun e w' => e = .returned (.bool (hasF r x)) ∧ New w w' := by
  unfold hasF insnV insnA roomA
  obtain ⟨ra, rb, rc, rd, rk, ri⟩ := r
  obtain ⟨op, a, b, c, d, k, i⟩ := x
  dsimp only
  have e5 : (if IntKind.i64.wrap (k + 128) = IntKind.i64.wrap (k + 128) then True else False) := by simp
  obtain ⟨z1, q1⟩ : ∃ z, wthn a ra = z := ⟨_, rfl⟩
  obtain ⟨z2, q2⟩ : ∃ z, wthn b rb = z := ⟨_, rfl⟩
  obtain ⟨z3, q3⟩ : ∃ z, wthn c rc = z := ⟨_, rfl⟩
  obtain ⟨z4, q4⟩ : ∃ z, wthn d rd = z := ⟨_, rfl⟩
  obtain ⟨z5, q5⟩ : ∃ z, wthn (IntKind.i64.wrap (k + 128)) 255 = z := ⟨_, rfl⟩
  have C1 := Lib.hid (has1_c a ra)
  have C2 := Lib.hid (has1_c b rb)
  have C3 := Lib.hid (has1_c c rc)
  have C4 := Lib.hid (has1_c d rd)
  have C5 := Lib.hid (has1_c (IntKind.i64.wrap (k + 128)) 255)
  rw [q1] at C1
  rw [q2] at C2
  rw [q3] at C3
  rw [q4] at C4
  rw [q5] at C5
  rw [q1, q2, q3, q4, q5]
  clear q1 q2 q3 q4 q5 e5
  obtain ⟨k5, q5⟩ : ∃ z, IntKind.i64.wrap (k + 128) = z := ⟨_, rfl⟩
  rw [q5] at C5
  obtain ⟨k0, q6⟩ : ∃ z, (k == 0) = z := ⟨_, rfl⟩
  obtain ⟨i0, q7⟩ : ∃ z, (i == 0) = z := ⟨_, rfl⟩
  rw [q6, q7]
  cases z1
  · (go_enter Tryz.func98, Tryz.ntmps98; go_wp2_with (first | (go_at_call 156; (with_reducible refine (C1.out _).mono ?_); rintro e w1 ⟨rfl, rfl⟩) | (go_at_call 156; (with_reducible refine (C2.out _).mono ?_); rintro e w1 ⟨rfl, rfl⟩) | (go_at_call 156; (with_reducible refine (C3.out _).mono ?_); rintro e w1 ⟨rfl, rfl⟩) | (go_at_call 156; (with_reducible refine (C4.out _).mono ?_); rintro e w1 ⟨rfl, rfl⟩) | (go_at_call 156; (with_reducible refine (C5.out _).mono ?_); rintro e w1 ⟨rfl, rfl⟩)); go_ret; exact ⟨by simp, by go_grown⟩)
  · skip
    cases z2
    · (go_enter Tryz.func98, Tryz.ntmps98; go_wp2_with (first | (go_at_call 156; (with_reducible refine (C1.out _).mono ?_); rintro e w1 ⟨rfl, rfl⟩) | (go_at_call 156; (with_reducible refine (C2.out _).mono ?_); rintro e w1 ⟨rfl, rfl⟩) | (go_at_call 156; (with_reducible refine (C3.out _).mono ?_); rintro e w1 ⟨rfl, rfl⟩) | (go_at_call 156; (with_reducible refine (C4.out _).mono ?_); rintro e w1 ⟨rfl, rfl⟩) | (go_at_call 156; (with_reducible refine (C5.out _).mono ?_); rintro e w1 ⟨rfl, rfl⟩)); go_ret; exact ⟨by simp, by go_grown⟩)
    · skip
      cases z3
      · (go_enter Tryz.func98, Tryz.ntmps98; go_wp2_with (first | (go_at_call 156; (with_reducible refine (C1.out _).mono ?_); rintro e w1 ⟨rfl, rfl⟩) | (go_at_call 156; (with_reducible refine (C2.out _).mono ?_); rintro e w1 ⟨rfl, rfl⟩) | (go_at_call 156; (with_reducible refine (C3.out _).mono ?_); rintro e w1 ⟨rfl, rfl⟩) | (go_at_call 156; (with_reducible refine (C4.out _).mono ?_); rintro e w1 ⟨rfl, rfl⟩) | (go_at_call 156; (with_reducible refine (C5.out _).mono ?_); rintro e w1 ⟨rfl, rfl⟩)); go_ret; exact ⟨by simp, by go_grown⟩)
      · skip
        cases z4
        · (go_enter Tryz.func98, Tryz.ntmps98; go_wp2_with (first | (go_at_call 156; (with_reducible refine (C1.out _).mono ?_); rintro e w1 ⟨rfl, rfl⟩) | (go_at_call 156; (with_reducible refine (C2.out _).mono ?_); rintro e w1 ⟨rfl, rfl⟩) | (go_at_call 156; (with_reducible refine (C3.out _).mono ?_); rintro e w1 ⟨rfl, rfl⟩) | (go_at_call 156; (with_reducible refine (C4.out _).mono ?_); rintro e w1 ⟨rfl, rfl⟩) | (go_at_call 156; (with_reducible refine (C5.out _).mono ?_); rintro e w1 ⟨rfl, rfl⟩)); go_ret; exact ⟨by simp, by go_grown⟩)
        · skip
          cases k0
          · cases rk
            · (go_enter Tryz.func98, Tryz.ntmps98; go_wp2_with (first | (go_at_call 156; (with_reducible refine (C1.out _).mono ?_); rintro e w1 ⟨rfl, rfl⟩) | (go_at_call 156; (with_reducible refine (C2.out _).mono ?_); rintro e w1 ⟨rfl, rfl⟩) | (go_at_call 156; (with_reducible refine (C3.out _).mono ?_); rintro e w1 ⟨rfl, rfl⟩) | (go_at_call 156; (with_reducible refine (C4.out _).mono ?_); rintro e w1 ⟨rfl, rfl⟩) | (go_at_call 156; (with_reducible refine (C5.out _).mono ?_); rintro e w1 ⟨rfl, rfl⟩)); go_ret; exact ⟨by simp, by go_grown⟩)
            · cases z5
              · (go_enter Tryz.func98, Tryz.ntmps98; go_wp2_with (first | (go_at_call 156; (with_reducible refine (C1.out _).mono ?_); rintro e w1 ⟨rfl, rfl⟩) | (go_at_call 156; (with_reducible refine (C2.out _).mono ?_); rintro e w1 ⟨rfl, rfl⟩) | (go_at_call 156; (with_reducible refine (C3.out _).mono ?_); rintro e w1 ⟨rfl, rfl⟩) | (go_at_call 156; (with_reducible refine (C4.out _).mono ?_); rintro e w1 ⟨rfl, rfl⟩) | (go_at_call 156; (with_reducible refine (C5.out _).mono ?_); rintro e w1 ⟨rfl, rfl⟩)); go_ret; exact ⟨by simp, by go_grown⟩)
              · cases i0 <;> cases ri <;> (go_enter Tryz.func98, Tryz.ntmps98; go_wp2_with (first | (go_at_call 156; (with_reducible refine (C1.out _).mono ?_); rintro e w1 ⟨rfl, rfl⟩) | (go_at_call 156; (with_reducible refine (C2.out _).mono ?_); rintro e w1 ⟨rfl, rfl⟩) | (go_at_call 156; (with_reducible refine (C3.out _).mono ?_); rintro e w1 ⟨rfl, rfl⟩) | (go_at_call 156; (with_reducible refine (C4.out _).mono ?_); rintro e w1 ⟨rfl, rfl⟩) | (go_at_call 156; (with_reducible refine (C5.out _).mono ?_); rintro e w1 ⟨rfl, rfl⟩)); go_ret; exact ⟨by simp, by go_grown⟩)
          · cases i0 <;> cases ri <;> (go_enter Tryz.func98, Tryz.ntmps98; go_wp2_with (first | (go_at_call 156; (with_reducible refine (C1.out _).mono ?_); rintro e w1 ⟨rfl, rfl⟩) | (go_at_call 156; (with_reducible refine (C2.out _).mono ?_); rintro e w1 ⟨rfl, rfl⟩) | (go_at_call 156; (with_reducible refine (C3.out _).mono ?_); rintro e w1 ⟨rfl, rfl⟩) | (go_at_call 156; (with_reducible refine (C4.out _).mono ?_); rintro e w1 ⟨rfl, rfl⟩) | (go_at_call 156; (with_reducible refine (C5.out _).mono ?_); rintro e w1 ⟨rfl, rfl⟩)); go_ret; exact ⟨by simp, by go_grown⟩)
attribute [local go_sem ↓] exRs exRl Go.wp_at_zero Go.wp_at_succ
def validF (x : Insn) : Bool := (fieldsF x.op).2 && hasF (fieldsF x.op).1 x
set_option maxRecDepth 100000 in
set_option maxHeartbeats 4000000 in
theorem valid_c (x : Insn) (w : World) : Calls Tryz.prog 66 #[insnV x] w fun e w' => e = .returned (.bool (validF x)) ∧ New w w' := by
  have C := Lib.hid (fields_c x.op)
  have D := Lib.hid (has_c (fieldsF x.op).1 x)
  have e : validF x = ((fieldsF x.op).2 && hasF (fieldsF x.op).1 x) := rfl
  rw [e]
  clear e
  obtain ⟨z, hz⟩ : ∃ z, (fieldsF x.op).2 = z := ⟨_, rfl⟩
  obtain ⟨r, hr⟩ : ∃ r, (fieldsF x.op).1 = r := ⟨_, rfl⟩
  rw [hz, hr] at C
  rw [hr] at D
  rw [hz, hr]
  clear hz hr
  unfold insnV insnA at *
  go_enter Tryz.func66, Tryz.ntmps66
  have hb1 := heap_alloc_at w (.cells #[.int .i64 x.op, .int .i64 x.a, .int .i64 x.b, .int .i64 x.c, .int .i64 x.d, .int .i64 x.k, .int .u32 x.i] 54) _ rfl
  have B1 := Lib.hid hb1
  have hn1 := (New.refl w).alloc (Nat.le_refl _) (.cells #[.int .i64 x.op, .int .i64 x.a, .int .i64 x.b, .int .i64 x.c, .int .i64 x.d, .int .i64 x.k, .int .u32 x.i] 54)
  have N1 := Lib.hid hn1
  clear hb1 hn1
  go_wp2_with (go_at_call 97; refine (C.out _).mono ?_; rintro e w2 ⟨rfl, hb⟩; have N2 := Lib.hid hb; clear hb)
  have B2 := Lib.hid ((N2.out.block _ (lt_of_heap B1.out)).trans B1.out)
  have N12 := Lib.hid (N1.out.trans (N2.out.mono N1.out.size))
  clear B1 N1 N2
  have hb3 := heap_alloc_at w2 (.cells #[.int .i64 0, .int .i64 0, .int .i64 0, .int .i64 0, .bool false, .bool false] 181) _ rfl
  have N3 := Lib.hid ((New.refl w2).alloc (Nat.le_refl _) (.cells #[.int .i64 0, .int .i64 0, .int .i64 0, .int .i64 0, .bool false, .bool false] 181))
  generalize w2.alloc (.cells #[.int .i64 0, .int .i64 0, .int .i64 0, .int .i64 0, .bool false, .bool false] 181) = w3 at *
  obtain ⟨w4, hst, h4, ho4⟩ := store_all (P := Tryz.prog) 181 w2.heap.size _ (roomA r) _ w3 hb3 rfl (room_size.trans rfl) (by simp [roomA, Value.oneCell'])
  rw [hst]
  clear hst
  have N4 := Lib.hid (new_only N3.out ho4 (Nat.le_refl _))
  have X4 := Lib.hid h4
  have B4 := Lib.hid ((N4.out.block _ (lt_of_heap B2.out)).trans B2.out)
  clear N3 hb3 h4 ho4 B2
  have N14 := Lib.hid (N12.out.trans (N4.out.mono N12.out.size))
  have c0 := cell_of_heap (i := 0) B4.out rfl
  have c1 := cell_of_heap (i := 1) B4.out rfl
  have c2 := cell_of_heap (i := 2) B4.out rfl
  have c3 := cell_of_heap (i := 3) B4.out rfl
  have c4 := cell_of_heap (i := 4) B4.out rfl
  have c5 := cell_of_heap (i := 5) B4.out rfl
  have c6 := cell_of_heap (i := 6) B4.out rfl
  cases z
  · go_wp2_with fail
    go_ret
    exact ⟨rfl, N14.out⟩
  · go_wp2_with fail
    rw [load_all (P := Tryz.prog) 181 w2.heap.size (roomA r) 181 _ w4 X4.out Tryz.underlying181 rfl (room_size.trans rfl)]
    go_wp2_with (go_at_call 98; refine (D.out _).mono ?_; rintro e w5 ⟨rfl, hb⟩; have N5 := Lib.hid hb; clear hb)
    go_ret
    exact ⟨rfl, N14.out.trans (N5.out.mono N14.out.size)⟩
end Go.Proofs.YtnoiijjkjcklpaaGreat
