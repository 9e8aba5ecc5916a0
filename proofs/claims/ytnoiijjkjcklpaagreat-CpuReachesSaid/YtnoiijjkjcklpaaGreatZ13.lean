/- Parts of the proof: SxRIs1. -/
import Derived.Test.YtnoiijjkjcklpaaGreatZ11
/- R1.Is says what isa.valid says: runs, by the operation. -/
namespace Go.Proofs.YtnoiijjkjcklpaaGreat
open Go Go.Sx
theorem is_pair4 : (isTree Tryz.prog [opLt 28 true, opLt 25 false]).okT = true := by kernel_rfl
theorem is_pair5 : (isTree Tryz.prog [opLt 31 true, opLt 28 false]).okT = true := by kernel_rfl
theorem is_pair6 : (isTree Tryz.prog [opLt 34 true, opLt 31 false]).okT = true := by kernel_rfl
theorem is_pair7 : (isTree Tryz.prog [opLt 37 true, opLt 34 false]).okT = true := by kernel_rfl
end Go.Proofs.YtnoiijjkjcklpaaGreat
