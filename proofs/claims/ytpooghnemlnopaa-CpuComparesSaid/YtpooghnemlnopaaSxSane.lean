/- The seat's sane. -/
import Derived.Test.YtpooghnemlnopaaSxSaneR
namespace Go.Proofs.Ytpooghnemlnopaa
open Go Go.Sx Go.RowKit Go.Cd Go.MapKept
theorem sane_c (w : World) : Calls Try.prog 9 #[] w fun e w' => e = .returned (.bool true) ∧ New w w' := by
  letI := noVal
  have hv : SV.DenL (fun _ => none) [] [] := by simp
  exact law_calls fnOk mixed_ok (noPure_ok _) (noXt_ok _) (by rw [sane_runs]; rfl) hv w
end Go.Proofs.Ytpooghnemlnopaa
