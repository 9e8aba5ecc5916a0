/- Parts of the proof: SxSaneR. -/
import Derived.Test.YtnoiijjkjcklpaaGreatZ11
/- The seat's sane, run. -/
namespace Go.Proofs.YtnoiijjkjcklpaaGreat
open Go Go.Sx Go.RowKit Go.Cd Go.MapKept
theorem mixed_ok : Tryz.prog.follows .mixedOrders = true := by kernel_rfl
theorem sane_runs : lawTree Tryz.prog noPure noXt 10 [] 20000 = .leaf (.lit true) := by kernel_rfl
end Go.Proofs.YtnoiijjkjcklpaaGreat
