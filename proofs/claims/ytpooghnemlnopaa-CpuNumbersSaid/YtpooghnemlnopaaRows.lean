/-
  No cell of these rows narrows 'for every input' (looked for: loops, veiled, ifaces, maps, wideKeys, modest, calm, conditions, laid).
  DERIVED. THE GIVEN ROWS OF THIS SEAT. 6 by the template 'for every input the law returns true; each argument reads behind the call as it read before'; 0 by the template 'total and deterministic' (their statements: YtpooghnemlnopaaTotals.lean).
  GIVEN WITH THE SEED: the statements are not yours to turn. If you find one false, say at which input.
  Laid BY PROGRAM, IN A SANDBOX (cutbox-rows.mjs): the forced cells as the released guide's own fill.sh prints them over the translation 3199597e680c3dbb… (all of the seat's roots in one cut). By AI agents, Wed Nov 11 2026. No macro, syntax, notation, axiom, sorry.
-/
import Derived.Test.YtpooghnemlnopaaChecked
import GoSem.Claim
import GoSem.ClaimJoined
import GoSem.ClaimMapViews
import Derived.JoinedTies
import Derived.KernelRfl
namespace Go.Proofs.Ytpooghnemlnopaa
/- THE CELL 'sum', in the pinned program and in every row, IS THE sha256 OF THE DUMP (.gsa) THAT YtpooghnemlnopaaProg.lean LOADS. Nothing in Lean hashes anything: it is a label: what it is worth is what the hold of that sum in a sandbox is worth. -/
noncomputable def Try.pinned : Pinned := { name := "ytpooghnemlnopaa", sum := "3199597e680c3dbb950aa4f44fdf2b70671d6d04fb8bfad419910e8e5c846706", checked := Try.checked }
namespace Rows
def none {H : Type} : Left H := { results := [], args := [] }

/-- 'candlinglaw07.CpuCompares': WHATEVER THE INPUT: true; the input reads as it did. -/
def cpuComparesSpec : ChangeSpec := { name := "cpuCompares", fn := fun _ => fun
  | [d1, d2, d3] => { results := [.lit (.bool true)], args := [d1, d2, d3] }
  | _ => none }
def cpuComparesRow : OpenClaim := { program := "ytpooghnemlnopaa", sum := "3199597e680c3dbb950aa4f44fdf2b70671d6d04fb8bfad419910e8e5c846706", func := "candling/candlinglaw07.CpuCompares", spec := "cpuCompares", unfollowed := true, recurses := true, apart := false }
def CpuComparesSaid : Prop := cpuComparesRow.holds Try.pinned (OpenSpec.ofChange cpuComparesSpec)

/-- ITS FALSE NEIGHBOUR: 'it returns false'. Refute it at one input. -/
def cpuComparesWrong : ChangeSpec := { name := "cpuCompares", fn := fun _ => fun
  | [d1, d2, d3] => { results := [.lit (.bool false)], args := [d1, d2, d3] }
  | _ => none }
def CpuComparesWrongFalsely : Prop := cpuComparesRow.holds Try.pinned (OpenSpec.ofChange cpuComparesWrong)

/-- 'candlinglaw07.CpuShifts': WHATEVER THE INPUT: true; the input reads as it did. -/
def cpuShiftsSpec : ChangeSpec := { name := "cpuShifts", fn := fun _ => fun
  | [d1, d2] => { results := [.lit (.bool true)], args := [d1, d2] }
  | _ => none }
def cpuShiftsRow : OpenClaim := { program := "ytpooghnemlnopaa", sum := "3199597e680c3dbb950aa4f44fdf2b70671d6d04fb8bfad419910e8e5c846706", func := "candling/candlinglaw07.CpuShifts", spec := "cpuShifts", unfollowed := true, recurses := true, apart := false }
def CpuShiftsSaid : Prop := cpuShiftsRow.holds Try.pinned (OpenSpec.ofChange cpuShiftsSpec)

/-- ITS FALSE NEIGHBOUR: 'it returns false'. Refute it at one input. -/
def cpuShiftsWrong : ChangeSpec := { name := "cpuShifts", fn := fun _ => fun
  | [d1, d2] => { results := [.lit (.bool false)], args := [d1, d2] }
  | _ => none }
def CpuShiftsWrongFalsely : Prop := cpuShiftsRow.holds Try.pinned (OpenSpec.ofChange cpuShiftsWrong)

/-- 'candlinglaw07.CpuLanes': WHATEVER THE INPUT: true; the input reads as it did. -/
def cpuLanesSpec : ChangeSpec := { name := "cpuLanes", fn := fun _ => fun
  | [d1, d2, d3, d4] => { results := [.lit (.bool true)], args := [d1, d2, d3, d4] }
  | _ => none }
def cpuLanesRow : OpenClaim := { program := "ytpooghnemlnopaa", sum := "3199597e680c3dbb950aa4f44fdf2b70671d6d04fb8bfad419910e8e5c846706", func := "candling/candlinglaw07.CpuLanes", spec := "cpuLanes", unfollowed := true, recurses := true, apart := false }
def CpuLanesSaid : Prop := cpuLanesRow.holds Try.pinned (OpenSpec.ofChange cpuLanesSpec)

/-- ITS FALSE NEIGHBOUR: 'it returns false'. Refute it at one input. -/
def cpuLanesWrong : ChangeSpec := { name := "cpuLanes", fn := fun _ => fun
  | [d1, d2, d3, d4] => { results := [.lit (.bool false)], args := [d1, d2, d3, d4] }
  | _ => none }
def CpuLanesWrongFalsely : Prop := cpuLanesRow.holds Try.pinned (OpenSpec.ofChange cpuLanesWrong)

/-- 'candlinglaw07.CpuNumbers': WHATEVER THE INPUT: true; the input reads as it did. -/
def cpuNumbersSpec : ChangeSpec := { name := "cpuNumbers", fn := fun _ => fun
  | [d1, d2, d3, d4, d5, d6, d7, d8] => { results := [.lit (.bool true)], args := [d1, d2, d3, d4, d5, d6, d7, d8] }
  | _ => none }
def cpuNumbersRow : OpenClaim := { program := "ytpooghnemlnopaa", sum := "3199597e680c3dbb950aa4f44fdf2b70671d6d04fb8bfad419910e8e5c846706", func := "candling/candlinglaw07.CpuNumbers", spec := "cpuNumbers", unfollowed := true, recurses := true, apart := false }
def CpuNumbersSaid : Prop := cpuNumbersRow.holds Try.pinned (OpenSpec.ofChange cpuNumbersSpec)

/-- ITS FALSE NEIGHBOUR: 'it returns false'. Refute it at one input. -/
def cpuNumbersWrong : ChangeSpec := { name := "cpuNumbers", fn := fun _ => fun
  | [d1, d2, d3, d4, d5, d6, d7, d8] => { results := [.lit (.bool false)], args := [d1, d2, d3, d4, d5, d6, d7, d8] }
  | _ => none }
def CpuNumbersWrongFalsely : Prop := cpuNumbersRow.holds Try.pinned (OpenSpec.ofChange cpuNumbersWrong)

/-- 'candlinglaw07.CpuWide': WHATEVER THE INPUT: true; the input reads as it did. -/
def cpuWideSpec : ChangeSpec := { name := "cpuWide", fn := fun _ => fun
  | [d1, d2] => { results := [.lit (.bool true)], args := [d1, d2] }
  | _ => none }
def cpuWideRow : OpenClaim := { program := "ytpooghnemlnopaa", sum := "3199597e680c3dbb950aa4f44fdf2b70671d6d04fb8bfad419910e8e5c846706", func := "candling/candlinglaw07.CpuWide", spec := "cpuWide", inPlace := ["math/bits.Add64", "math/bits.Sub64"], unfollowed := true, recurses := true, apart := false }
def CpuWideSaid : Prop := cpuWideRow.holds Try.pinned (OpenSpec.ofChange cpuWideSpec)

/-- ITS FALSE NEIGHBOUR: 'it returns false'. Refute it at one input. -/
def cpuWideWrong : ChangeSpec := { name := "cpuWide", fn := fun _ => fun
  | [d1, d2] => { results := [.lit (.bool false)], args := [d1, d2] }
  | _ => none }
def CpuWideWrongFalsely : Prop := cpuWideRow.holds Try.pinned (OpenSpec.ofChange cpuWideWrong)

/-- 'candlinglaw07.CpuStack': WHATEVER THE INPUT: true; the input reads as it did. -/
def cpuStackSpec : ChangeSpec := { name := "cpuStack", fn := fun _ => fun
  | [d1, d2, d3] => { results := [.lit (.bool true)], args := [d1, d2, d3] }
  | _ => none }
def cpuStackRow : OpenClaim := { program := "ytpooghnemlnopaa", sum := "3199597e680c3dbb950aa4f44fdf2b70671d6d04fb8bfad419910e8e5c846706", func := "candling/candlinglaw07.CpuStack", spec := "cpuStack", unfollowed := true, recurses := true, apart := false }
def CpuStackSaid : Prop := cpuStackRow.holds Try.pinned (OpenSpec.ofChange cpuStackSpec)

/-- ITS FALSE NEIGHBOUR: 'it returns false'. Refute it at one input. -/
def cpuStackWrong : ChangeSpec := { name := "cpuStack", fn := fun _ => fun
  | [d1, d2, d3] => { results := [.lit (.bool false)], args := [d1, d2, d3] }
  | _ => none }
def CpuStackWrongFalsely : Prop := cpuStackRow.holds Try.pinned (OpenSpec.ofChange cpuStackWrong)

/- THE SECOND FORM. 'bulk': how many values and letters a reading holds, each counted each time it is reached (what is shared counts as often as it is met; a slice's spare places count too). A statement '..UptoSaid' is the law's where the arguments, and the package variables that the reading takes, are together of bulk at most 1048576: NARROWER than '..Said'. Prove '..Said' where nothing that the law and all that it calls make is longer than what came in: it says more and counts as full. Else prove '..UptoSaid'. A law counts once. -/
mutual
def uptoBulk {H : Type} : DataW H → Nat
  | .lit (.string bytes) => bytes.length + 1
  | .lit _ => 1
  | .nil => 1
  | .ptr d => uptoBulk d + 1
  | .slice elems spare => uptoBulkAll elems + uptoBulkAll spare + 1
  | .agg parts => uptoBulkAll parts + 1
  | .iface _ d => uptoBulk d + 1
  | .map entries => uptoBulkEntries entries + 1
  | .held _ => 1
def uptoBulkAll {H : Type} : List (DataW H) → Nat
  | [] => 0
  | d :: r => uptoBulk d + uptoBulkAll r
def uptoBulkEntries {H : Type} : List (Lit × DataW H) → Nat
  | [] => 0
  | x :: r => uptoBulkEntry x + uptoBulkEntries r
def uptoBulkEntry {H : Type} : Lit × DataW H → Nat
  | (.string bytes, d) => bytes.length + uptoBulk d + 1
  | (_, d) => uptoBulk d + 1
 end
def uptoSmall : (H : Type) → List (DataW H) → Bool := fun _ ds => decide (uptoBulkAll ds ≤ 1048576)
def OpenSpec.upto (s : _root_.Go.ChangeSpec) : _root_.Go.OpenSpec := { _root_.Go.OpenSpec.ofChange s with cond := some uptoSmall }

/-- 'candlinglaw07.CpuCompares', WHERE WHAT IT READS IS OF BULK AT MOST 1048576: true; the input reads as it did. -/
def cpuComparesUptoRow : OpenClaim := { program := "ytpooghnemlnopaa", sum := "3199597e680c3dbb950aa4f44fdf2b70671d6d04fb8bfad419910e8e5c846706", func := "candling/candlinglaw07.CpuCompares", spec := "cpuCompares", unfollowed := true, recurses := true, apart := false, narrowed := true }
def CpuComparesUptoSaid : Prop := cpuComparesUptoRow.holds Try.pinned (OpenSpec.upto cpuComparesSpec)

/-- 'candlinglaw07.CpuShifts', WHERE WHAT IT READS IS OF BULK AT MOST 1048576: true; the input reads as it did. -/
def cpuShiftsUptoRow : OpenClaim := { program := "ytpooghnemlnopaa", sum := "3199597e680c3dbb950aa4f44fdf2b70671d6d04fb8bfad419910e8e5c846706", func := "candling/candlinglaw07.CpuShifts", spec := "cpuShifts", unfollowed := true, recurses := true, apart := false, narrowed := true }
def CpuShiftsUptoSaid : Prop := cpuShiftsUptoRow.holds Try.pinned (OpenSpec.upto cpuShiftsSpec)

/-- 'candlinglaw07.CpuLanes', WHERE WHAT IT READS IS OF BULK AT MOST 1048576: true; the input reads as it did. -/
def cpuLanesUptoRow : OpenClaim := { program := "ytpooghnemlnopaa", sum := "3199597e680c3dbb950aa4f44fdf2b70671d6d04fb8bfad419910e8e5c846706", func := "candling/candlinglaw07.CpuLanes", spec := "cpuLanes", unfollowed := true, recurses := true, apart := false, narrowed := true }
def CpuLanesUptoSaid : Prop := cpuLanesUptoRow.holds Try.pinned (OpenSpec.upto cpuLanesSpec)

/-- 'candlinglaw07.CpuNumbers', WHERE WHAT IT READS IS OF BULK AT MOST 1048576: true; the input reads as it did. -/
def cpuNumbersUptoRow : OpenClaim := { program := "ytpooghnemlnopaa", sum := "3199597e680c3dbb950aa4f44fdf2b70671d6d04fb8bfad419910e8e5c846706", func := "candling/candlinglaw07.CpuNumbers", spec := "cpuNumbers", unfollowed := true, recurses := true, apart := false, narrowed := true }
def CpuNumbersUptoSaid : Prop := cpuNumbersUptoRow.holds Try.pinned (OpenSpec.upto cpuNumbersSpec)

/-- 'candlinglaw07.CpuWide', WHERE WHAT IT READS IS OF BULK AT MOST 1048576: true; the input reads as it did. -/
def cpuWideUptoRow : OpenClaim := { program := "ytpooghnemlnopaa", sum := "3199597e680c3dbb950aa4f44fdf2b70671d6d04fb8bfad419910e8e5c846706", func := "candling/candlinglaw07.CpuWide", spec := "cpuWide", inPlace := ["math/bits.Add64", "math/bits.Sub64"], unfollowed := true, recurses := true, apart := false, narrowed := true }
def CpuWideUptoSaid : Prop := cpuWideUptoRow.holds Try.pinned (OpenSpec.upto cpuWideSpec)

/-- 'candlinglaw07.CpuStack', WHERE WHAT IT READS IS OF BULK AT MOST 1048576: true; the input reads as it did. -/
def cpuStackUptoRow : OpenClaim := { program := "ytpooghnemlnopaa", sum := "3199597e680c3dbb950aa4f44fdf2b70671d6d04fb8bfad419910e8e5c846706", func := "candling/candlinglaw07.CpuStack", spec := "cpuStack", unfollowed := true, recurses := true, apart := false, narrowed := true }
def CpuStackUptoSaid : Prop := cpuStackUptoRow.holds Try.pinned (OpenSpec.upto cpuStackSpec)

end Rows
end Go.Proofs.Ytpooghnemlnopaa
