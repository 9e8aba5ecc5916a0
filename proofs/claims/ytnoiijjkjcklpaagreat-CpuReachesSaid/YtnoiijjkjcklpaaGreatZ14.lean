/- Parts of the proof: SxRIs2. -/
import Derived.Test.YtnoiijjkjcklpaaGreatZ11
/- R1.Is says what isa.valid says: runs, by the operation. -/
namespace Go.Proofs.YtnoiijjkjcklpaaGreat
open Go Go.Sx
theorem is_pair8 : (isTree Tryz.prog [opLt 40 true, opLt 37 false]).okT = true := by kernel_rfl
theorem is_pair9 : (isTree Tryz.prog [opLt 43 true, opLt 40 false]).okT = true := by kernel_rfl
theorem is_pair10 : (isTree Tryz.prog [opLt 46 true, opLt 43 false]).okT = true := by kernel_rfl
theorem is_pair11 : (isTree Tryz.prog [opLt 49 true, opLt 46 false]).okT = true := by kernel_rfl
end Go.Proofs.YtnoiijjkjcklpaaGreat
