/- Parts of the proof: LTsT5. -/
import Derived.Test.YtkfocpgcdndpnaaGreatZ15
/- ThunkStep, run (known operations). Written by genTs.py. -/
namespace Go.Proofs.YtkfocpgcdndpnaaGreat
open Go Go.Sx Go.RowKit Go.Cd Go.MapKept
theorem ts_op23 : (tsT Tryz.prog (tsOp 23 (.lit 0)) (.lit 23) (tr 1) (tr 2) (tr 3) (tr 4) tK (.lit 0) (tr 117)).trueF (tsOp 23 (.lit 0)) = true := by kernel_rfl
theorem ts_op24 : (tsT Tryz.prog (tsOp 24 (.lit 0)) (.lit 24) (tr 1) (tr 2) (tr 3) (tr 4) tK (.lit 0) (tr 117)).trueF (tsOp 24 (.lit 0)) = true := by kernel_rfl
theorem ts_op47 : (tsT Tryz.prog (tsOp 47 (.lit 0)) (.lit 47) (tr 1) (tr 2) (tr 3) (tr 4) tK (.lit 0) (tr 117)).trueF (tsOp 47 (.lit 0)) = true := by kernel_rfl
theorem ts_op65 : (tsT Tryz.prog (tsOp 65 tI) (.lit 65) (tr 1) (tr 2) (tr 3) (tr 4) tK tI (tr 117)).trueF (tsOp 65 tI) = true := by kernel_rfl
theorem ts_op72 : (tsT Tryz.prog (tsOp 72 tI) (.lit 72) (tr 1) (tr 2) (tr 3) (tr 4) tK tI (tr 117)).trueF (tsOp 72 tI) = true := by kernel_rfl
end Go.Proofs.YtkfocpgcdndpnaaGreat
