/- Parts of the proof: SxRIs3. -/
import Derived.Test.YtnoiijjkjcklpaaGreatZ11
/- R1.Is says what isa.valid says: runs, by the operation. -/
namespace Go.Proofs.YtnoiijjkjcklpaaGreat
open Go Go.Sx
theorem is_pair12 : (isTree Tryz.prog [opLt 52 true, opLt 49 false]).okT = true := by kernel_rfl
theorem is_pair13 : (isTree Tryz.prog [opLt 55 true, opLt 52 false]).okT = true := by kernel_rfl
theorem is_pair14 : (isTree Tryz.prog [opLt 58 true, opLt 55 false]).okT = true := by kernel_rfl
theorem is_pair15 : (isTree Tryz.prog [opLt 61 true, opLt 58 false]).okT = true := by kernel_rfl
end Go.Proofs.YtnoiijjkjcklpaaGreat
