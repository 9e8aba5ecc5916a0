/- The seat's sane, run. -/
import Derived.Test.YtpooghnemlnopaaSx23
namespace Go.Proofs.Ytpooghnemlnopaa
open Go Go.Sx Go.RowKit Go.Cd Go.MapKept
theorem mixed_ok : Try.prog.follows .mixedOrders = true := by kernel_rfl
theorem sane_runs : lawTree Try.prog noPure noXt 9 [] 20000 = .leaf (.lit true) := by kernel_rfl
end Go.Proofs.Ytpooghnemlnopaa
