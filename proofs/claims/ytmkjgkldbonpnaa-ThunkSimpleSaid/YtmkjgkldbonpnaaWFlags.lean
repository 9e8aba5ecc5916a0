/- Contracts of the functions that thunk.Flags goes through. -/
import Derived.Test.YtmkjgkldbonpnaaRows
import Derived.Test.YtmkjgkldbonpnaaKit
import Derived.Test.YtmkjgkldbonpnaaNum
namespace Go.Proofs.Ytmkjgkldbonpnaa
open Go Go.RowKit Go.Cd

def sumR (a b c : Int) : Int := (a + b + c) % 4294967296
def sumC (a b c : Int) : Bool := (a + b + c) / 4294967296 == 1
def sumV (a b c : Int) : Bool := decide (sg a + sg b + c ≠ sg ((a + b + c) % 4294967296))
def difR (a b c : Int) : Int := (a - b - c) % 4294967296
def difC (a b c : Int) : Bool := decide (a < b + c)
def difV (a b c : Int) : Bool := decide (sg a - sg b - c ≠ sg ((a - b - c) % 4294967296))

theorem add32_c (x y c : Int) (w : World) (hx : 0 ≤ x) (hx' : x < 4294967296) (hy : 0 ≤ y) (hy' : y < 4294967296) (hc : 0 ≤ c) (hc' : c ≤ 1) :
    Calls Try.prog 101 #[.int .u32 x, .int .u32 y, .int .u32 c] w fun e w' => e = .returned (.tuple #[.int .u32 ((x + y + c) % 4294967296), .int .u32 ((x + y + c) / 4294967296)]) ∧ w = w' := by
  go_enter Try.func101, Try.ntmps101
  go_wp2
  go_ret2
  exact ⟨rfl, rfl⟩
theorem sub32_c (x y c : Int) (w : World) (hx : 0 ≤ x) (hx' : x < 4294967296) (hy : 0 ≤ y) (hy' : y < 4294967296) (hc : 0 ≤ c) (hc' : c ≤ 1) :
    Calls Try.prog 102 #[.int .u32 x, .int .u32 y, .int .u32 c] w fun e w' => e = .returned (.tuple #[.int .u32 ((x - y - c) % 4294967296), .int .u32 (((difC x y c).toNat : Nat) : Int)]) ∧ w = w' := by
  have hb := Lib.hid (borrow_bits x y c hx hx' hy hy' hc hc')
  go_enter Try.func102, Try.ntmps102
  go_wp2
  go_ret2
  refine ⟨?_, rfl⟩
  simp only [Array.getD_eq_getD_getElem?, List.getElem?_toArray, List.getElem?_cons_succ, List.getElem?_cons_zero, Option.getD_some]
  rw [show IntKind.u32.max = 4294967295 from rfl, hb.out]
  unfold difC
  by_cases h : x < y + c <;> simp [h]
theorem sum_c (x y c : Int) (w : World) (hx : 0 ≤ x) (hx' : x < 4294967296) (hy : 0 ≤ y) (hy' : y < 4294967296) (hc : 0 ≤ c) (hc' : c ≤ 1) :
    Calls Try.prog 88 #[.int .u32 x, .int .u32 y, .int .u32 c] w fun e w' => e = .returned (.tuple #[.int .u32 (sumR x y c), .bool (sumC x y c), .bool (sumV x y c)]) ∧ w = w' := by
  have hb := Lib.hid (over_sum x y c hx hx' hy hy' hc hc')
  go_enter Try.func88, Try.ntmps88
  go_wp2_with (go_at_call 101; refine (add32_c _ _ _ _ (by omega) (by omega) (by omega) (by omega) (by omega) (by omega)).mono ?_; rintro e w' ⟨rfl, rfl⟩)
  go_ret3
  refine ⟨?_, rfl⟩
  simp only [Array.getD_eq_getD_getElem?, List.getElem?_toArray, List.getElem?_cons_succ, List.getElem?_cons_zero, Option.getD_some]
  rw [hb.out]
  rfl
theorem dif_c (x y c : Int) (w : World) (hx : 0 ≤ x) (hx' : x < 4294967296) (hy : 0 ≤ y) (hy' : y < 4294967296) (hc : 0 ≤ c) (hc' : c ≤ 1) :
    Calls Try.prog 90 #[.int .u32 x, .int .u32 y, .int .u32 c] w fun e w' => e = .returned (.tuple #[.int .u32 (difR x y c), .bool (difC x y c), .bool (difV x y c)]) ∧ w = w' := by
  have hb := Lib.hid (over_diff x y c hx hx' hy hy' hc hc')
  go_enter Try.func90, Try.ntmps90
  go_wp2_with (go_at_call 102; refine (sub32_c _ _ _ _ (by omega) (by omega) (by omega) (by omega) (by omega) (by omega)).mono ?_; rintro e w' ⟨rfl, rfl⟩)
  go_ret3
  refine ⟨?_, rfl⟩
  simp only [Array.getD_eq_getD_getElem?, List.getElem?_toArray, List.getElem?_cons_succ, List.getElem?_cons_zero, Option.getD_some]
  rw [hb.out]
  unfold difR difV
  cases difC x y c <;> rfl
theorem results_c (w : World)  :
    Calls Try.prog 78 #[] w fun e w' => e = .returned (.agg #[.nilFunc, .func (.func 87) #[] #[], .func (.func 89) #[] #[], .func (.func 91) #[] #[], .func (.func 92) #[] #[], .func (.func 95) #[] #[], .func (.func 97) #[] #[], .func (.func 99) #[] #[], .func (.func 100) #[] #[]]) ∧ New w w' := by
  go_enter Try.func78, Try.ntmps78
  go_wp2
  go_returns
  refine ⟨rfl, ?_⟩
  go_grown
end Go.Proofs.Ytmkjgkldbonpnaa
