/- Plain laws: carries of chains. -/
import Derived.Test.YtmkjgkldbonpnaaPlainNorm
import Derived.Test.YtmkjgkldbonpnaaWThunk
import Derived.Test.YtmkjgkldbonpnaaWFourEq
namespace Go.Proofs.Ytmkjgkldbonpnaa
open Go Go.RowKit Go.Cd
set_option linter.unusedVariables false
theorem one_if (p : Prop) [Decidable p] : ((if p then (1 : Int) else 0) == 1) = decide p := by
  by_cases h : p
  · rw [if_pos h, decide_eq_true h]; rfl
  · rw [if_neg h, decide_eq_false h]; rfl
theorem dec_if (p : Prop) [Decidable p] : (if p then (1 : Int) else 0) = if decide p = true then 1 else 0 := by
  by_cases h : p
  · rw [if_pos h, decide_eq_true h]; rfl
  · rw [if_neg h, decide_eq_false h]; rfl
/-- The carry, as the law reads it off the flags. -/
def carryOf (f : Int) : Int := bits .and .u32 (f % 4294967296 / 4) 1
theorem carry_num (z n c v : Bool) : carryOf (flagNum z n c v) = if c then 1 else 0 := by
  cases z <;> cases n <;> cases c <;> cases v <;> kernel_rfl
theorem carry_add0 (a b c : Int) (h0 : 0 ≤ a ∧ a < 4294967296) (h1 : 0 ≤ b ∧ b < 4294967296) : carryOf (flagsF 1 a b c) = (a + b) / 4294967296 := by
  rw [fl1, carry_num]; unfold sumC; simp; split <;> omega
theorem carry_adc (a b c : Int) (h0 : 0 ≤ a ∧ a < 4294967296) (h1 : 0 ≤ b ∧ b < 4294967296) (h2 : 0 ≤ c) (h3 : c ≤ 1) : carryOf (flagsF 7 a b c) = (a + b + c) / 4294967296 := by
  rw [fl7, carry_num, show c % 2 = c by omega]; unfold sumC; simp; split <;> omega
theorem carry_sub0 (a b c : Int) : carryOf (flagsF 2 a b c) = if a < b then 1 else 0 := by
  rw [fl2, carry_num]; unfold difC; simp
theorem carry_sbb (a b c : Int) (h0 : 0 ≤ c) (h1 : c ≤ 1) : carryOf (flagsF 8 a b c) = if a < b + c then 1 else 0 := by
  rw [fl8, carry_num, show c % 2 = c by omega]; unfold difC; simp
end Go.Proofs.Ytmkjgkldbonpnaa
