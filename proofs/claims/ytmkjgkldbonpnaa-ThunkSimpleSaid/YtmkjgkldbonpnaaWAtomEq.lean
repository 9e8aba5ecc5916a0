/- '==' of vectors and atoms. -/
import Derived.Test.YtmkjgkldbonpnaaRows
import Derived.Test.YtmkjgkldbonpnaaKitEq
import Derived.KernelRfl
namespace Go.Proofs.Ytmkjgkldbonpnaa
open Go Go.Cd
set_option linter.unusedVariables false

theorem infoU32 : ∃ i, Try.prog.info? 29 = some i := by
  cases h : Try.prog.info? 29 with
  | some i => exact ⟨i, rfl⟩
  | none => exact absurd (show (Try.prog.info? 29).isSome = true by kernel_rfl) (by simp [h])
theorem cellsU32 : Try.prog.cellsOf 29 = 1 := by kernel_rfl
theorem eq_vec (d : Nat) (a0 a1 a2 a3 b0 b1 b2 b3 : Int) (w : World) :
    (Op.equalIn (d + 2) 57 (.agg #[.int .u32 a0, .int .u32 a1, .int .u32 a2, .int .u32 a3]) (.agg #[.int .u32 b0, .int .u32 b1, .int .u32 b2, .int .u32 b3])).run Try.prog w = .ok (a0 == b0 && (a1 == b1 && (a2 == b2 && (a3 == b3 && true)))) w := by
  obtain ⟨i, hi⟩ := infoU32
  rw [run_equalIn_array w (d + 1) _ _ Try.underlying57 hi, cellsU32]
  refine eqI_cons (i := 0) (a := .int .u32 a0) (b := .int .u32 b0) (by kernel_rfl) (by kernel_rfl) (run_equalIn_int w d _ _ _ _ _ Try.underlying29) ?_
  refine eqI_cons (i := 1) (a := .int .u32 a1) (b := .int .u32 b1) (by kernel_rfl) (by kernel_rfl) (run_equalIn_int w d _ _ _ _ _ Try.underlying29) ?_
  refine eqI_cons (i := 2) (a := .int .u32 a2) (b := .int .u32 b2) (by kernel_rfl) (by kernel_rfl) (run_equalIn_int w d _ _ _ _ _ Try.underlying29) ?_
  refine eqI_cons (i := 3) (a := .int .u32 a3) (b := .int .u32 b3) (by kernel_rfl) (by kernel_rfl) (run_equalIn_int w d _ _ _ _ _ Try.underlying29) ?_
  exact eqI_nil
theorem eq_atom (d : Nat) (a0 a1 a2 a3 a4 a5 b0 b1 b2 b3 b4 b5 : Int) (w : World) :
    (Op.equalIn (d + 3) 59 (.agg #[.int .i64 a0, .int .i64 a1, .int .u32 a2, .int .u32 a3, .int .u32 a4, .int .u32 a5]) (.agg #[.int .i64 b0, .int .i64 b1, .int .u32 b2, .int .u32 b3, .int .u32 b4, .int .u32 b5])).run Try.prog w
     = .ok (a0 == b0 && (a1 == b1 && ((a2 == b2 && (a3 == b3 && (a4 == b4 && (a5 == b5 && true)))) && true))) w := by
  refine eq_struct Try.underlying59 (by kernel_rfl) ?_
  refine eqF_cons (a := .int .i64 a0) (b := .int .i64 b0) (by decide) (by kernel_rfl) (by kernel_rfl) (run_equalIn_int w (d + 1) _ _ _ _ _ Try.underlying3) ?_
  refine eqF_cons (a := .int .i64 a1) (b := .int .i64 b1) (by decide) (by kernel_rfl) (by kernel_rfl) (run_equalIn_int w (d + 1) _ _ _ _ _ Try.underlying3) ?_
  refine eqF_cons (a := .agg #[.int .u32 a2, .int .u32 a3, .int .u32 a4, .int .u32 a5]) (b := .agg #[.int .u32 b2, .int .u32 b3, .int .u32 b4, .int .u32 b5]) (by decide) (by kernel_rfl) (by kernel_rfl) (eq_vec d _ _ _ _ _ _ _ _ w) ?_
  exact eqF_nil
/-- The same, for the walk: '==' and '!=' at once. -/
theorem eql_atom (a0 a1 a2 a3 a4 a5 b0 b1 b2 b3 b4 b5 : Int) (w : World) :
    (binOp .eql 59 (.agg #[.int .i64 a0, .int .i64 a1, .int .u32 a2, .int .u32 a3, .int .u32 a4, .int .u32 a5]) (.agg #[.int .i64 b0, .int .i64 b1, .int .u32 b2, .int .u32 b3, .int .u32 b4, .int .u32 b5])).run Try.prog w
     = .ok (.bool (a0 == b0 && (a1 == b1 && ((a2 == b2 && (a3 == b3 && (a4 == b4 && (a5 == b5 && true)))) && true)))) w := by
  rw [run_eql_struct, eq_atom 9997]; rfl
theorem neq_atom (a0 a1 a2 a3 a4 a5 b0 b1 b2 b3 b4 b5 : Int) (w : World) :
    (binOp .neq 59 (.agg #[.int .i64 a0, .int .i64 a1, .int .u32 a2, .int .u32 a3, .int .u32 a4, .int .u32 a5]) (.agg #[.int .i64 b0, .int .i64 b1, .int .u32 b2, .int .u32 b3, .int .u32 b4, .int .u32 b5])).run Try.prog w
     = .ok (.bool (!(a0 == b0 && (a1 == b1 && ((a2 == b2 && (a3 == b3 && (a4 == b4 && (a5 == b5 && true)))) && true))))) w := by
  rw [run_neq_struct, eq_atom 9997]; rfl
theorem eql_vec (a2 a3 a4 a5 b2 b3 b4 b5 : Int) (w : World) :
    (binOp .eql 57 (.agg #[.int .u32 a2, .int .u32 a3, .int .u32 a4, .int .u32 a5]) (.agg #[.int .u32 b2, .int .u32 b3, .int .u32 b4, .int .u32 b5])).run Try.prog w
     = .ok (.bool (a2 == b2 && (a3 == b3 && (a4 == b4 && (a5 == b5 && true))))) w := by
  rw [run_eql_struct, eq_vec 9998]; rfl
end Go.Proofs.Ytmkjgkldbonpnaa
