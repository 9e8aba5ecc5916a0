/- Parts of the proof: SxRIs4. -/
import Derived.Test.YtnoiijjkjcklpaaGreatZ11
/- R1.Is says what isa.valid says: runs, by the operation. -/
namespace Go.Proofs.YtnoiijjkjcklpaaGreat
open Go Go.Sx
theorem is_pair16 : (isTree Tryz.prog [opLt 64 true, opLt 61 false]).okT = true := by kernel_rfl
theorem is_pair17 : (isTree Tryz.prog [opLt 67 true, opLt 64 false]).okT = true := by kernel_rfl
theorem is_pair18 : (isTree Tryz.prog [opLt 70 true, opLt 67 false]).okT = true := by kernel_rfl
theorem is_pair19 : (isTree Tryz.prog [opLt 70 false]).okT = true := by kernel_rfl
end Go.Proofs.YtnoiijjkjcklpaaGreat
