/- The processor's registers as a value. -/
import Derived.Test.YtpooghnemlnopaaRows
import Derived.Test.YtpooghnemlnopaaKitRow2
import Derived.Test.YtpooghnemlnopaaNum2
namespace Go.Proofs.Ytpooghnemlnopaa
open Go Go.RowKit Go.Cd
set_option linter.unusedVariables false

/-- The cells of a CPU: R in 0 to 15, PC 16, F 17, V from 18 on. -/
abbrev Regs := Nat → Int
def cpuCell (c : Regs) (j : Nat) : Value := if j = 17 then .int .i64 (c j) else .int .u32 (c j)
def cpuL (c : Regs) : List Value := (List.range 50).map (cpuCell c)
def cpuA (c : Regs) : Array Value := (cpuL c).toArray
def cpuV (c : Regs) : Value := .agg (cpuA c)
theorem cpuA_size (c : Regs) : (cpuA c).size = 50 := by simp [cpuA, cpuL]
theorem cpuA_get (c : Regs) (j : Nat) (h : j < 50) : (cpuA c)[j]? = some (cpuCell c j) := by simp [cpuA, cpuL, h]
theorem cpuCell_u32 (c : Regs) (j : Nat) (h : j ≠ 17) : cpuCell c j = .int .u32 (c j) := by unfold cpuCell; rw [if_neg h]
theorem cpuCell_f (c : Regs) : cpuCell c 17 = .int .i64 (c 17) := rfl
theorem cpuA_17 (c : Regs) : (cpuA c)[17]? = some (.int .i64 (c 17)) := (cpuA_get c 17 (by decide)).trans rfl
theorem cpuA_w (c : Regs) (j : Nat) (h : j < 50) (h' : j ≠ 17) : (cpuA c)[j]? = some (.int .u32 (c j)) := by rw [cpuA_get c j h, cpuCell_u32 c j h']
attribute [local go_sem] cpuA_17
def checkF (c : Regs) : Int := if 0 ≤ c 17 ∧ c 17 ≤ 15 then 0 else 4
theorem check_c (c : Regs) (w : World) : Calls Try.prog 14 #[cpuV c] w fun e w' => e = .returned (.int .i64 (checkF c)) ∧ New w w' := by
  unfold cpuV
  by_cases h : c 17 < 0
  · go_enter Try.func14, Try.ntmps14
    go_wp2
    go_ret
    exact ⟨ret_int (by unfold checkF; rw [if_neg (by omega)]), by go_grown⟩
  · by_cases h' : 15 < c 17
    · go_enter Try.func14, Try.ntmps14
      go_wp2
      go_ret
      exact ⟨ret_int (by unfold checkF; rw [if_neg (by omega)]), by go_grown⟩
    · go_enter Try.func14, Try.ntmps14
      go_wp2
      go_ret
      exact ⟨ret_int (by unfold checkF; rw [if_pos (by omega)]), by go_grown⟩
theorem rcheck_c (c : Regs) (w : World) : Calls Try.prog 15 #[cpuV c] w fun e w' => e = .returned (.int .i64 (checkF c)) ∧ New w w' := by
  unfold cpuV
  by_cases h : c 17 < 0
  · go_enter Try.func15, Try.ntmps15
    go_wp2
    go_ret
    exact ⟨ret_int (by unfold checkF; rw [if_neg (by omega)]), by go_grown⟩
  · by_cases h' : 15 < c 17
    · go_enter Try.func15, Try.ntmps15
      go_wp2
      go_ret
      exact ⟨ret_int (by unfold checkF; rw [if_neg (by omega)]), by go_grown⟩
    · go_enter Try.func15, Try.ntmps15
      go_wp2
      go_ret
      exact ⟨ret_int (by unfold checkF; rw [if_pos (by omega)]), by go_grown⟩
end Go.Proofs.Ytpooghnemlnopaa
