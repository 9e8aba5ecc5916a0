/- Parts of the proof: LTsT4. -/
import Derived.Test.YtkfocpgcdndpnaaGreatZ15
/- ThunkStep, run (known operations). Written by genTs.py. -/
namespace Go.Proofs.YtkfocpgcdndpnaaGreat
open Go Go.Sx Go.RowKit Go.Cd Go.MapKept
theorem ts_op16 : (tsT Tryz.prog (tsOp 16 (.lit 0)) (.lit 16) (tr 1) (tr 2) (tr 3) (tr 4) tK (.lit 0) (tr 117)).trueF (tsOp 16 (.lit 0)) = true := by kernel_rfl
theorem ts_op17 : (tsT Tryz.prog (tsOp 17 (.lit 0)) (.lit 17) (tr 1) (tr 2) (tr 3) (tr 4) tK (.lit 0) (tr 117)).trueF (tsOp 17 (.lit 0)) = true := by kernel_rfl
theorem ts_op18 : (tsT Tryz.prog (tsOp 18 (.lit 0)) (.lit 18) (tr 1) (tr 2) (tr 3) (tr 4) tK (.lit 0) (tr 117)).trueF (tsOp 18 (.lit 0)) = true := by kernel_rfl
theorem ts_op19 : (tsT Tryz.prog (tsOp 19 (.lit 0)) (.lit 19) (tr 1) (tr 2) (tr 3) (tr 4) tK (.lit 0) (tr 117)).trueF (tsOp 19 (.lit 0)) = true := by kernel_rfl
theorem ts_op22 : (tsT Tryz.prog (tsOp 22 (.lit 0)) (.lit 22) (tr 1) (tr 2) (tr 3) (tr 4) tK (.lit 0) (tr 117)).trueF (tsOp 22 (.lit 0)) = true := by kernel_rfl
end Go.Proofs.YtkfocpgcdndpnaaGreat
