/- The program at hand: what the symbolic runs ask of it. -/
import Derived.Test.YtpooghnemlnopaaSx16
import Derived.Test.YtpooghnemlnopaaProg
import Derived.Test.YtpooghnemlnopaaKit
namespace Go.Proofs.Ytpooghnemlnopaa
open Go Go.Sx
theorem fnOkB : (Try.prog.funcs.toList.all fun F => !F.body.isSome || !(F.name == "runtime.NumGoroutine")) = true := by kernel_rfl
theorem fnOk : FnOk Try.prog := fun f F hF hb => by
  have h := List.all_eq_true.1 fnOkB F (by
    rw [Array.mem_toList_iff]
    exact Array.mem_of_getElem? hF)
  rw [hb] at h
  simpa using h
end Go.Proofs.Ytpooghnemlnopaa
