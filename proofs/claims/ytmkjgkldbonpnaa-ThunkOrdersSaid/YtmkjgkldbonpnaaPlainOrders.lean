/- Plain laws: conditions behind a subtraction compare its operands. -/
import Derived.Test.YtmkjgkldbonpnaaPlainNorm
import Derived.Test.YtmkjgkldbonpnaaWThunk
namespace Go.Proofs.Ytmkjgkldbonpnaa
open Go Go.RowKit Go.Cd
set_option linter.unusedVariables false

theorem has_num (z n c v : Bool) : hasB (flagNum z n c v) 1 = z ∧ hasB (flagNum z n c v) 2 = n ∧ hasB (flagNum z n c v) 4 = c ∧ hasB (flagNum z n c v) 8 = v := by
  cases z <;> cases n <;> cases c <;> cases v <;> exact ⟨by kernel_rfl, by kernel_rfl, by kernel_rfl, by kernel_rfl⟩
theorem sub_z (a b : Int) (ha : 0 ≤ a ∧ a < 4294967296) (hb : 0 ≤ b ∧ b < 4294967296) : (difR a b 0 == 0) = decide (a = b) := by
  unfold difR
  rw [Bool.eq_iff_iff, beq_iff_eq, decide_eq_true_iff]; omega
theorem sub_c (a b : Int) : difC a b 0 = decide (a < b) := by
  unfold difC
  rw [Int.add_zero]
theorem sub_l (a b : Int) (ha : 0 ≤ a ∧ a < 4294967296) (hb : 0 ≤ b ∧ b < 4294967296) : ((difR a b 0 / 2147483648 == 1) != difV a b 0) = decide (sg a < sg b) := by
  unfold difR difV
  have h1 : ((a - b - 0) % 4294967296 / 2147483648 == 1) = decide (sg ((a - b - 0) % 4294967296) < 0) := by
    rw [Bool.eq_iff_iff, beq_iff_eq, decide_eq_true_iff]
    unfold sg
    split <;> omega
  rw [h1]
  generalize hr : (a - b - 0) % 4294967296 = r
  have hr1 : r = a - b ∨ r = a - b + 4294967296 := by omega
  have hr2 : 0 ≤ r ∧ r < 4294967296 := by omega
  have key : (sg r < 0 ∧ sg a - sg b - 0 = sg r) ∨ (¬ sg r < 0 ∧ sg a - sg b - 0 ≠ sg r) ↔ sg a < sg b := by
    clear h1 hr
    unfold sg
    split <;> split <;> split <;> omega
  rw [Bool.eq_iff_iff, bne_iff_ne, decide_eq_true_iff, ← key]
  clear key h1 hr hr1 hr2
  generalize sg a - sg b - 0 = u
  by_cases h2 : sg r < 0 <;> by_cases h3 : u = sg r <;> simp [h2, h3] <;> omega
/-- A condition behind a subtraction, in the words of its operands. -/
theorem cond_sub (cd a b c : Int) (ha : 0 ≤ a ∧ a < 4294967296) (hb : 0 ≤ b ∧ b < 4294967296) (h0 : 0 ≤ cd) (h1 : cd ≤ 15) :
    condF cd 2 a b c = ((if cd / 2 = 0 then decide (a = b) else if cd / 2 = 1 then decide (a < b) else if cd / 2 = 2 then difR a b 0 / 2147483648 == 1 else if cd / 2 = 3 then difV a b 0 else if cd / 2 = 4 then (decide (a < b) || decide (a = b)) else if cd / 2 = 5 then decide (sg a < sg b) else if cd / 2 = 6 then (decide (sg a < sg b) || decide (a = b)) else true) == (cd % 2 == 0)) := by
  unfold condF holdsF
  rw [if_neg (by omega), fl2]
  obtain ⟨e1, e2, e3, e4⟩ := has_num (difR a b 0 == 0) (difR a b 0 / 2147483648 == 1) (difC a b 0) (difV a b 0)
  rw [e1, e2, e3, e4]
  unfold holdsZ isAt
  rw [sub_l a b ha hb, sub_z a b ha hb, sub_c a b]
theorem sg_wrap (a : Int) (h : 0 ≤ a ∧ a < 4294967296) : wrap32 a = sg a := by
  unfold sg wrap32; split <;> omega
theorem sg_eq (a b : Int) (ha : 0 ≤ a ∧ a < 4294967296) (hb : 0 ≤ b ∧ b < 4294967296) : sg a = sg b ↔ a = b := by
  unfold sg; split <;> split <;> omega
end Go.Proofs.Ytmkjgkldbonpnaa
