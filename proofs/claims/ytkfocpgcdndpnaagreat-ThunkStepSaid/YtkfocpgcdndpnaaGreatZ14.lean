/- Parts of the proof: LTsS. -/
import Derived.Test.YtkfocpgcdndpnaaGreatZ10
import Derived.Test.YtkfocpgcdndpnaaGreatZ13
/- ThunkStep's sane, run; letters for its runs. -/
namespace Go.Proofs.YtkfocpgcdndpnaaGreat
open Go Go.Sx Go.RowKit Go.Cd Go.MapKept
set_option linter.unusedVariables false
theorem mixed_ok : Tryz.prog.follows .mixedOrders = true := by kernel_rfl
theorem Tree.sat_true [Val] {t : Tree SB} (h : t.allTrue = true) : t.sat fun b => b.v = true := Tree.sat_allTrue h
theorem ts_sane_runs : (lawTreeG Tryz.prog (pureCon noPure) noXt noAx [] 4 [] [] 0 20000).allTrue = true := by kernel_rfl
set_option maxRecDepth 100000 in
theorem ts_sane_c (w : World) : Calls Tryz.prog 4 #[] w fun e w' => e = .returned (.bool true) ∧ New w w' := by
  letI := noVal
  have hv : SV.DenL (fun _ => none) [] [] := by simp
  exact law_callsG (ρ := fun _ => none) (ents := []) (next := 0) fnOk mixed_ok (pureCon_ok (noPure_ok _)) (pureCon_log _) (noXt_ok _) (noAx_ok _) noAx_safe (fun p hp => absurd hp (by simp)) (Tree.sat_true ts_sane_runs) hv
    ((DenH.start w fun _ => False).fresh_mono fun _ _ => trivial) (Nat.zero_le _)
end Go.Proofs.YtkfocpgcdndpnaaGreat
