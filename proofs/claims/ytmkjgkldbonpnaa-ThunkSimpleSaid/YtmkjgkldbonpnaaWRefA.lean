/- Contracts of the specification's functions: result, signed, bit, Holds, Inverse, Uses, Fixed. -/
import Derived.Test.YtmkjgkldbonpnaaWThunk
namespace Go.Proofs.Ytmkjgkldbonpnaa
open Go Go.RowKit Go.Cd
set_option linter.unusedVariables false

theorem rbit_c (x n : Int) (w : World) (h0 : 0 ≤ x) (h1 : x < 4294967296) (hn : 0 ≤ n) (hn' : n < 32) :
    Calls Try.prog 53 #[.int .u32 x, .int .u32 n] w fun e w' => e = .returned (.bool (x / 2 ^ n.toNat % 2 == 1)) ∧ w = w' := by
  have h1 := and_1_div x h0 h1
  go_enter Try.func53, Try.ntmps53
  go_wp2
  go_ret
  exact ⟨rfl, rfl⟩
theorem rsigned_c (x : Int) (w : World) (h0 : 0 ≤ x) (h1 : x < 4294967296) :
    Calls Try.prog 52 #[.int .u32 x] w fun e w' => e = .returned (.int .i64 (sg x)) ∧ w = w' := by
  go_enter Try.func52, Try.ntmps52
  go_wp2
  all_goals go_ret
  all_goals exact ⟨ret_int (by unfold sg; split <;> omega), rfl⟩
set_option maxHeartbeats 1000000 in
theorem rresult_c (r : Int) (c v : Bool) (w : World) (h0 : 0 ≤ r) (h1 : r < 4294967296) :
    Calls Try.prog 51 #[.int .u32 r, .bool c, .bool v] w fun e w' => e = .returned (.int .i64 (flagNum (r == 0) (r / 2147483648 == 1) c v)) ∧ w = w' := by
  by_cases hz : r = 0
  · subst hz
    cases c <;> cases v
    all_goals
      go_enter Try.func51, Try.ntmps51
      go_wp2
      go_ret
      exact ⟨ret_int (by decide), rfl⟩
  · have hz' : (r == 0) = false := beq_eq_false_iff_ne.2 hz
    by_cases hn : 2147483648 ≤ r
    · have hn' : (r / 2147483648 == 1) = true := beq_iff_eq.2 (by omega)
      rw [hn', hz']
      cases c <;> cases v
      all_goals
        go_enter Try.func51, Try.ntmps51
        go_wp2
        go_ret
        exact ⟨ret_int (by decide), rfl⟩
    · have hn' : (r / 2147483648 == 1) = false := beq_eq_false_iff_ne.2 (by omega)
      rw [hn', hz']
      cases c <;> cases v
      all_goals
        go_enter Try.func51, Try.ntmps51
        go_wp2
        go_ret
        exact ⟨ret_int (by decide), rfl⟩
set_option maxHeartbeats 1000000 in
theorem rholds_c (cd flags : Int) (w : World) :
    Calls Try.prog 27 #[.int .i64 cd, .int .i64 flags] w fun e w' => e = .returned (.bool (holdsF cd flags)) ∧ w = w' := by
  go_enter Try.func27, Try.ntmps27
  go_wp2
  all_goals go_ret
  all_goals refine ⟨ret_bool ?_, rfl⟩
  all_goals simp only [beq_iff_eq, beq_eq_false_iff_ne] at *
  all_goals first
    | (subst_vars; simp_all [holdsF, holdsZ, isAt, hasB]; done)
    | (by_cases h14 : cd = 14
       · subst h14; simp [holdsF, holdsZ, isAt]
       · by_cases h15 : cd = 15
         · subst h15; simp [holdsF, holdsZ, isAt]
         · have ho : cd < 0 ∨ 15 < cd := by omega
           unfold holdsF; rw [if_pos ho]; simpa using h14)
    | (subst_vars; cases q2 : (bits .and .i64 flags 2 != 0) <;> cases q8 : (bits .and .i64 flags 8 != 0) <;> simp_all [holdsF, holdsZ, isAt, hasB] <;> (rw [Bool.eq_iff_iff]; simp_all); done)
theorem rinverse_c (cd : Int) (w : World) :
    Calls Try.prog 30 #[.int .i64 cd] w fun e w' => e = .returned (.int .i64 (invF cd)) ∧ w = w' := by
  by_cases h : cd < 0 ∨ 15 < cd
  · have e : invF cd = -1 := by unfold invF; rw [if_pos h]
    rw [e]
    go_enter Try.func30, Try.ntmps30
    go_wp2
    all_goals first | (exfalso; omega) | (go_ret; exact ⟨rfl, rfl⟩)
  · have h1 : ¬ cd < 0 := by omega
    have h2 : ¬ 15 < cd := by omega
    have h3 : 0 ≤ cd := by omega
    by_cases hm : cd % 2 = 0
    · have e : invF cd = cd + 1 := by unfold invF; rw [if_neg h, if_pos hm]
      rw [e]
      have hm' : (cd % 2 == 0) = true := beq_iff_eq.2 hm
      go_enter Try.func30, Try.ntmps30
      go_wp2
      go_ret
      exact ⟨rfl, rfl⟩
    · have e : invF cd = cd - 1 := by unfold invF; rw [if_neg h, if_neg hm]
      rw [e]
      have hm' : (cd % 2 == 0) = false := beq_eq_false_iff_ne.2 hm
      go_enter Try.func30, Try.ntmps30
      go_wp2
      go_ret
      exact ⟨rfl, rfl⟩
set_option maxHeartbeats 1000000 in
theorem ruses_c (cd : Int) (w : World) :
    Calls Try.prog 32 #[.int .i64 cd] w fun e w' => e = .returned (.int .i64 (usesF cd)) ∧ w = w' := by
  go_enter Try.func32, Try.ntmps32
  go_wp2
  all_goals go_ret
  all_goals refine ⟨ret_int ?_, rfl⟩
  all_goals simp only [beq_iff_eq, beq_eq_false_iff_ne] at *
  all_goals unfold usesF usesI
  all_goals repeat' split
  all_goals omega
set_option maxHeartbeats 1000000 in
theorem rfixed_c (op : Int) (w : World) :
    Calls Try.prog 24 #[.int .u32 op] w fun e w' => e = .returned (.tuple #[.int .i64 (fixedF op), .int .i64 0]) ∧ w = w' := by
  go_enter Try.func24, Try.ntmps24
  go_wp2
  all_goals go_ret2
  all_goals refine ⟨congrArg (fun b => Ending.returned (.tuple #[.int .i64 b, .int .i64 0])) (?_ : _ = fixedF op), rfl⟩
  all_goals simp only [beq_iff_eq, beq_eq_false_iff_ne] at *
  all_goals unfold fixedF
  all_goals repeat' split
  all_goals omega
end Go.Proofs.Ytmkjgkldbonpnaa
