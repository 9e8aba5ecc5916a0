/- Parts of the proof: LTsT2. -/
import Derived.Test.YtkfocpgcdndpnaaGreatZ15
/- ThunkStep, run (known operations). Written by genTs.py. -/
namespace Go.Proofs.YtkfocpgcdndpnaaGreat
open Go Go.Sx Go.RowKit Go.Cd Go.MapKept
theorem ts_op3 : (tsT Tryz.prog (tsOp 3 (.lit 0)) (.lit 3) (tr 1) (tr 2) (tr 3) (tr 4) tK (.lit 0) (tr 117)).trueF (tsOp 3 (.lit 0)) = true := by kernel_rfl
theorem ts_op4 : (tsT Tryz.prog (tsOp 4 (.lit 0)) (.lit 4) (tr 1) (tr 2) (tr 3) (tr 4) tK (.lit 0) (tr 117)).trueF (tsOp 4 (.lit 0)) = true := by kernel_rfl
theorem ts_op5 : (tsT Tryz.prog (tsOp 5 (.lit 0)) (.lit 5) (tr 1) (tr 2) (tr 3) (tr 4) tK (.lit 0) (tr 117)).trueF (tsOp 5 (.lit 0)) = true := by kernel_rfl
theorem ts_op6 : (tsT Tryz.prog (tsOp 6 (.lit 0)) (.lit 6) (tr 1) (tr 2) (tr 3) (tr 4) tK (.lit 0) (tr 117)).trueF (tsOp 6 (.lit 0)) = true := by kernel_rfl
end Go.Proofs.YtkfocpgcdndpnaaGreat
