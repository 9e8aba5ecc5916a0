/- Parts of the proof: LTsT3. -/
import Derived.Test.YtkfocpgcdndpnaaGreatZ15
/- ThunkStep, run (known operations). Written by genTs.py. -/
namespace Go.Proofs.YtkfocpgcdndpnaaGreat
open Go Go.Sx Go.RowKit Go.Cd Go.MapKept
theorem ts_op7 : (tsT Tryz.prog (tsOp 7 (.lit 0)) (.lit 7) (tr 1) (tr 2) (tr 3) (tr 4) tK (.lit 0) (tr 117)).trueF (tsOp 7 (.lit 0)) = true := by kernel_rfl
theorem ts_op8 : (tsT Tryz.prog (tsOp 8 (.lit 0)) (.lit 8) (tr 1) (tr 2) (tr 3) (tr 4) tK (.lit 0) (tr 117)).trueF (tsOp 8 (.lit 0)) = true := by kernel_rfl
theorem ts_op9 : (tsT Tryz.prog (tsOp 9 (.lit 0)) (.lit 9) (tr 1) (tr 2) (tr 3) (tr 4) tK (.lit 0) (tr 117)).trueF (tsOp 9 (.lit 0)) = true := by kernel_rfl
theorem ts_op10 : (tsT Tryz.prog (tsOp 10 (.lit 0)) (.lit 10) (tr 1) (tr 2) (tr 3) (tr 4) tK (.lit 0) (tr 117)).trueF (tsOp 10 (.lit 0)) = true := by kernel_rfl
end Go.Proofs.YtkfocpgcdndpnaaGreat
