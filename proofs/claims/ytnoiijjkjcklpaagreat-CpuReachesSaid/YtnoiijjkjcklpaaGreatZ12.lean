/- Parts of the proof: SxRIs0. -/
import Derived.Test.YtnoiijjkjcklpaaGreatZ11
/- R1.Is says what isa.valid says: runs, by the operation. -/
namespace Go.Proofs.YtnoiijjkjcklpaaGreat
open Go Go.Sx
theorem is_pair0 : (isTree Tryz.prog [opLt 15 true]).okT = true := by kernel_rfl
theorem is_pair1 : (isTree Tryz.prog [opLt 19 true, opLt 15 false]).okT = true := by kernel_rfl
theorem is_pair2 : (isTree Tryz.prog [opLt 22 true, opLt 19 false]).okT = true := by kernel_rfl
theorem is_pair3 : (isTree Tryz.prog [opLt 25 true, opLt 22 false]).okT = true := by kernel_rfl
end Go.Proofs.YtnoiijjkjcklpaaGreat
