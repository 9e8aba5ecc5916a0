/- Contracts of math/bits.Add32 and Sub32. -/
import Derived.Test.YtpooghnemlnopaaRows
import Derived.Test.YtpooghnemlnopaaPlainArith
namespace Go.Proofs.Ytpooghnemlnopaa
open Go Go.RowKit Go.Cd

theorem add32_c (x y c : Int) (w : World) (hx : 0 ≤ x) (hx' : x < 4294967296) (hy : 0 ≤ y) (hy' : y < 4294967296) (hc : 0 ≤ c) (hc' : c ≤ 1) :
    Calls Try.prog 82 #[.int .u32 x, .int .u32 y, .int .u32 c] w fun e w' => e = .returned (.tuple #[.int .u32 ((x + y + c) % 4294967296), .int .u32 ((x + y + c) / 4294967296)]) ∧ w = w' := by
  go_enter Try.func82, Try.ntmps82
  go_wp2
  go_ret2
  exact ⟨rfl, rfl⟩
theorem sub32_c (x y c : Int) (w : World) (hx : 0 ≤ x) (hx' : x < 4294967296) (hy : 0 ≤ y) (hy' : y < 4294967296) (hc : 0 ≤ c) (hc' : c ≤ 1) :
    Calls Try.prog 50 #[.int .u32 x, .int .u32 y, .int .u32 c] w fun e w' => e = .returned (.tuple #[.int .u32 ((x - y - c) % 4294967296), .int .u32 (((difC x y c).toNat : Nat) : Int)]) ∧ w = w' := by
  have hb := Lib.hid (borrow_bits x y c hx hx' hy hy' hc hc')
  go_enter Try.func50, Try.ntmps50
  go_wp2
  go_ret2
  refine ⟨?_, rfl⟩
  simp only [Array.getD_eq_getD_getElem?, List.getElem?_toArray, List.getElem?_cons_succ, List.getElem?_cons_zero, Option.getD_some]
  rw [show IntKind.u32.max = 4294967295 from rfl, hb.out]
  unfold difC
  by_cases h : x < y + c <;> simp [h]
end Go.Proofs.Ytpooghnemlnopaa
