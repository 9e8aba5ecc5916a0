/-
  No cell of these rows narrows 'for every input' (looked for: loops, veiled, ifaces, maps, wideKeys, modest, calm, conditions, laid).
  DERIVED. THE GIVEN ROWS OF THIS SEAT. 7 by the template 'for every input the law returns true; each argument reads behind the call as it read before'; 0 by the template 'total and deterministic' (their statements: YtnoiijjkjcklpaaGreatTotals.lean).
  GIVEN WITH THE SEED: the statements are not yours to turn. If you find one false, say at which input.
  Laid BY PROGRAM, IN A SANDBOX (cutbox-rows.mjs): the forced cells as the released guide's own fill.sh prints them over the translation d79ce15041140a2f… (all of the seat's roots in one cut). By AI agents, Wed Nov 11 2026. No macro, syntax, notation, axiom, sorry.
-/
import Derived.Test.YtnoiijjkjcklpaaGreatChecked
import GoSem.Claim
import GoSem.ClaimJoined
import GoSem.ClaimMapViews
import Derived.JoinedTies
import Derived.KernelRfl
namespace Go.Proofs.YtnoiijjkjcklpaaGreat
/- THE CELL 'sum', in the pinned program and in every row, IS THE sha256 OF THE DUMP (.gsa) THAT YtnoiijjkjcklpaaGreatProg.lean LOADS. Nothing in Lean hashes anything: it is a label: what it is worth is what the hold of that sum in a sandbox is worth. -/
noncomputable def Tryz.pinned : Pinned := { name := "ytnoiijjkjcklpaagreat", sum := "d79ce15041140a2fa3a2c9f59288b8a8148912eb9ae2cc26dbe0176ba36f4b50", checked := Tryz.checked }
namespace Rows
def none {H : Type} : Left H := { results := [], args := [] }

/-- 'candlinglaw07.CpuSteps': WHATEVER THE INPUT: true; the input reads as it did. -/
def cpuStepsSpec : ChangeSpec := { name := "cpuSteps", fn := fun _ => fun
  | [d1, d2] => { results := [.lit (.bool true)], args := [d1, d2] }
  | _ => none }
def cpuStepsRow : OpenClaim := { program := "ytnoiijjkjcklpaagreat", sum := "d79ce15041140a2fa3a2c9f59288b8a8148912eb9ae2cc26dbe0176ba36f4b50", func := "candling/candlinglaw07.CpuSteps", spec := "cpuSteps", unfollowed := true, recurses := true, apart := false }
def CpuStepsSaid : Prop := cpuStepsRow.holds Tryz.pinned (OpenSpec.ofChange cpuStepsSpec)

/-- ITS FALSE NEIGHBOUR: 'it returns false'. Refute it at one input. -/
def cpuStepsWrong : ChangeSpec := { name := "cpuSteps", fn := fun _ => fun
  | [d1, d2] => { results := [.lit (.bool false)], args := [d1, d2] }
  | _ => none }
def CpuStepsWrongFalsely : Prop := cpuStepsRow.holds Tryz.pinned (OpenSpec.ofChange cpuStepsWrong)

/-- 'candlinglaw07.CpuTraps': WHATEVER THE INPUT: true; the input reads as it did. -/
def cpuTrapsSpec : ChangeSpec := { name := "cpuTraps", fn := fun _ => fun
  | [d1, d2] => { results := [.lit (.bool true)], args := [d1, d2] }
  | _ => none }
def cpuTrapsRow : OpenClaim := { program := "ytnoiijjkjcklpaagreat", sum := "d79ce15041140a2fa3a2c9f59288b8a8148912eb9ae2cc26dbe0176ba36f4b50", func := "candling/candlinglaw07.CpuTraps", spec := "cpuTraps", unfollowed := true, recurses := true, apart := false }
def CpuTrapsSaid : Prop := cpuTrapsRow.holds Tryz.pinned (OpenSpec.ofChange cpuTrapsSpec)

/-- ITS FALSE NEIGHBOUR: 'it returns false'. Refute it at one input. -/
def cpuTrapsWrong : ChangeSpec := { name := "cpuTraps", fn := fun _ => fun
  | [d1, d2] => { results := [.lit (.bool false)], args := [d1, d2] }
  | _ => none }
def CpuTrapsWrongFalsely : Prop := cpuTrapsRow.holds Tryz.pinned (OpenSpec.ofChange cpuTrapsWrong)

/-- 'candlinglaw07.CpuRuns': WHATEVER THE INPUT: true; the input reads as it did. -/
def cpuRunsSpec : ChangeSpec := { name := "cpuRuns", fn := fun _ => fun
  | [d1, d2, d3] => { results := [.lit (.bool true)], args := [d1, d2, d3] }
  | _ => none }
def cpuRunsRow : OpenClaim := { program := "ytnoiijjkjcklpaagreat", sum := "d79ce15041140a2fa3a2c9f59288b8a8148912eb9ae2cc26dbe0176ba36f4b50", func := "candling/candlinglaw07.CpuRuns", spec := "cpuRuns", unfollowed := true, recurses := true, apart := false }
def CpuRunsSaid : Prop := cpuRunsRow.holds Tryz.pinned (OpenSpec.ofChange cpuRunsSpec)

/-- ITS FALSE NEIGHBOUR: 'it returns false'. Refute it at one input. -/
def cpuRunsWrong : ChangeSpec := { name := "cpuRuns", fn := fun _ => fun
  | [d1, d2, d3] => { results := [.lit (.bool false)], args := [d1, d2, d3] }
  | _ => none }
def CpuRunsWrongFalsely : Prop := cpuRunsRow.holds Tryz.pinned (OpenSpec.ofChange cpuRunsWrong)

/-- 'candlinglaw07.CpuReaches': WHATEVER THE INPUT: true; the input reads as it did. -/
def cpuReachesSpec : ChangeSpec := { name := "cpuReaches", fn := fun _ => fun
  | [d1, d2, d3] => { results := [.lit (.bool true)], args := [d1, d2, d3] }
  | _ => none }
def cpuReachesRow : OpenClaim := { program := "ytnoiijjkjcklpaagreat", sum := "d79ce15041140a2fa3a2c9f59288b8a8148912eb9ae2cc26dbe0176ba36f4b50", func := "candling/candlinglaw07.CpuReaches", spec := "cpuReaches", unfollowed := true, recurses := true, apart := false }
def CpuReachesSaid : Prop := cpuReachesRow.holds Tryz.pinned (OpenSpec.ofChange cpuReachesSpec)

/-- ITS FALSE NEIGHBOUR: 'it returns false'. Refute it at one input. -/
def cpuReachesWrong : ChangeSpec := { name := "cpuReaches", fn := fun _ => fun
  | [d1, d2, d3] => { results := [.lit (.bool false)], args := [d1, d2, d3] }
  | _ => none }
def CpuReachesWrongFalsely : Prop := cpuReachesRow.holds Tryz.pinned (OpenSpec.ofChange cpuReachesWrong)

/-- 'candlinglaw07.CpuEvents': WHATEVER THE INPUT: true; the input reads as it did. -/
def cpuEventsSpec : ChangeSpec := { name := "cpuEvents", fn := fun _ => fun
  | [d1, d2] => { results := [.lit (.bool true)], args := [d1, d2] }
  | _ => none }
def cpuEventsRow : OpenClaim := { program := "ytnoiijjkjcklpaagreat", sum := "d79ce15041140a2fa3a2c9f59288b8a8148912eb9ae2cc26dbe0176ba36f4b50", func := "candling/candlinglaw07.CpuEvents", spec := "cpuEvents", unfollowed := true, recurses := true, apart := false }
def CpuEventsSaid : Prop := cpuEventsRow.holds Tryz.pinned (OpenSpec.ofChange cpuEventsSpec)

/-- ITS FALSE NEIGHBOUR: 'it returns false'. Refute it at one input. -/
def cpuEventsWrong : ChangeSpec := { name := "cpuEvents", fn := fun _ => fun
  | [d1, d2] => { results := [.lit (.bool false)], args := [d1, d2] }
  | _ => none }
def CpuEventsWrongFalsely : Prop := cpuEventsRow.holds Tryz.pinned (OpenSpec.ofChange cpuEventsWrong)

/-- 'candlinglaw07.CpuSplits': WHATEVER THE INPUT: true; the input reads as it did. -/
def cpuSplitsSpec : ChangeSpec := { name := "cpuSplits", fn := fun _ => fun
  | [d1, d2, d3, d4] => { results := [.lit (.bool true)], args := [d1, d2, d3, d4] }
  | _ => none }
def cpuSplitsRow : OpenClaim := { program := "ytnoiijjkjcklpaagreat", sum := "d79ce15041140a2fa3a2c9f59288b8a8148912eb9ae2cc26dbe0176ba36f4b50", func := "candling/candlinglaw07.CpuSplits", spec := "cpuSplits", inPlace := ["maps.clone"], unfollowed := true, recurses := true, apart := false }
def CpuSplitsSaid : Prop := cpuSplitsRow.holds Tryz.pinned (OpenSpec.ofChange cpuSplitsSpec)

/-- ITS FALSE NEIGHBOUR: 'it returns false'. Refute it at one input. -/
def cpuSplitsWrong : ChangeSpec := { name := "cpuSplits", fn := fun _ => fun
  | [d1, d2, d3, d4] => { results := [.lit (.bool false)], args := [d1, d2, d3, d4] }
  | _ => none }
def CpuSplitsWrongFalsely : Prop := cpuSplitsRow.holds Tryz.pinned (OpenSpec.ofChange cpuSplitsWrong)

/-- 'candlinglaw07.CpuUses': WHATEVER THE INPUT: true; the input reads as it did. -/
def cpuUsesSpec : ChangeSpec := { name := "cpuUses", fn := fun _ => fun
  | [d1, d2, d3] => { results := [.lit (.bool true)], args := [d1, d2, d3] }
  | _ => none }
def cpuUsesRow : OpenClaim := { program := "ytnoiijjkjcklpaagreat", sum := "d79ce15041140a2fa3a2c9f59288b8a8148912eb9ae2cc26dbe0176ba36f4b50", func := "candling/candlinglaw07.CpuUses", spec := "cpuUses", inPlace := ["maps.clone"], unfollowed := true, recurses := true, apart := false }
def CpuUsesSaid : Prop := cpuUsesRow.holds Tryz.pinned (OpenSpec.ofChange cpuUsesSpec)

/-- ITS FALSE NEIGHBOUR: 'it returns false'. Refute it at one input. -/
def cpuUsesWrong : ChangeSpec := { name := "cpuUses", fn := fun _ => fun
  | [d1, d2, d3] => { results := [.lit (.bool false)], args := [d1, d2, d3] }
  | _ => none }
def CpuUsesWrongFalsely : Prop := cpuUsesRow.holds Tryz.pinned (OpenSpec.ofChange cpuUsesWrong)

/- THE SECOND FORM. 'bulk': how many values and letters a reading holds, each counted each time it is reached (what is shared counts as often as it is met; a slice's spare places count too). A statement '..UptoSaid' is the law's where the arguments, and the package variables that the reading takes, are together of bulk at most 1048576: NARROWER than '..Said'. Prove '..Said' where nothing that the law and all that it calls make is longer than what came in: it says more and counts as full. Else prove '..UptoSaid'. A law counts once. -/
mutual
def uptoBulk {H : Type} : DataW H → Nat
  | .lit (.string bytes) => bytes.length + 1
  | .lit _ => 1
  | .nil => 1
  | .ptr d => uptoBulk d + 1
  | .slice elems spare => uptoBulkAll elems + uptoBulkAll spare + 1
  | .agg parts => uptoBulkAll parts + 1
  | .iface _ d => uptoBulk d + 1
  | .map entries => uptoBulkEntries entries + 1
  | .held _ => 1
def uptoBulkAll {H : Type} : List (DataW H) → Nat
  | [] => 0
  | d :: r => uptoBulk d + uptoBulkAll r
def uptoBulkEntries {H : Type} : List (Lit × DataW H) → Nat
  | [] => 0
  | x :: r => uptoBulkEntry x + uptoBulkEntries r
def uptoBulkEntry {H : Type} : Lit × DataW H → Nat
  | (.string bytes, d) => bytes.length + uptoBulk d + 1
  | (_, d) => uptoBulk d + 1
 end
def uptoSmall : (H : Type) → List (DataW H) → Bool := fun _ ds => decide (uptoBulkAll ds ≤ 1048576)
def OpenSpec.upto (s : _root_.Go.ChangeSpec) : _root_.Go.OpenSpec := { _root_.Go.OpenSpec.ofChange s with cond := some uptoSmall }

/-- 'candlinglaw07.CpuSteps', WHERE WHAT IT READS IS OF BULK AT MOST 1048576: true; the input reads as it did. -/
def cpuStepsUptoRow : OpenClaim := { program := "ytnoiijjkjcklpaagreat", sum := "d79ce15041140a2fa3a2c9f59288b8a8148912eb9ae2cc26dbe0176ba36f4b50", func := "candling/candlinglaw07.CpuSteps", spec := "cpuSteps", unfollowed := true, recurses := true, apart := false, narrowed := true }
def CpuStepsUptoSaid : Prop := cpuStepsUptoRow.holds Tryz.pinned (OpenSpec.upto cpuStepsSpec)

/-- 'candlinglaw07.CpuTraps', WHERE WHAT IT READS IS OF BULK AT MOST 1048576: true; the input reads as it did. -/
def cpuTrapsUptoRow : OpenClaim := { program := "ytnoiijjkjcklpaagreat", sum := "d79ce15041140a2fa3a2c9f59288b8a8148912eb9ae2cc26dbe0176ba36f4b50", func := "candling/candlinglaw07.CpuTraps", spec := "cpuTraps", unfollowed := true, recurses := true, apart := false, narrowed := true }
def CpuTrapsUptoSaid : Prop := cpuTrapsUptoRow.holds Tryz.pinned (OpenSpec.upto cpuTrapsSpec)

/-- 'candlinglaw07.CpuRuns', WHERE WHAT IT READS IS OF BULK AT MOST 1048576: true; the input reads as it did. -/
def cpuRunsUptoRow : OpenClaim := { program := "ytnoiijjkjcklpaagreat", sum := "d79ce15041140a2fa3a2c9f59288b8a8148912eb9ae2cc26dbe0176ba36f4b50", func := "candling/candlinglaw07.CpuRuns", spec := "cpuRuns", unfollowed := true, recurses := true, apart := false, narrowed := true }
def CpuRunsUptoSaid : Prop := cpuRunsUptoRow.holds Tryz.pinned (OpenSpec.upto cpuRunsSpec)

/-- 'candlinglaw07.CpuReaches', WHERE WHAT IT READS IS OF BULK AT MOST 1048576: true; the input reads as it did. -/
def cpuReachesUptoRow : OpenClaim := { program := "ytnoiijjkjcklpaagreat", sum := "d79ce15041140a2fa3a2c9f59288b8a8148912eb9ae2cc26dbe0176ba36f4b50", func := "candling/candlinglaw07.CpuReaches", spec := "cpuReaches", unfollowed := true, recurses := true, apart := false, narrowed := true }
def CpuReachesUptoSaid : Prop := cpuReachesUptoRow.holds Tryz.pinned (OpenSpec.upto cpuReachesSpec)

/-- 'candlinglaw07.CpuEvents', WHERE WHAT IT READS IS OF BULK AT MOST 1048576: true; the input reads as it did. -/
def cpuEventsUptoRow : OpenClaim := { program := "ytnoiijjkjcklpaagreat", sum := "d79ce15041140a2fa3a2c9f59288b8a8148912eb9ae2cc26dbe0176ba36f4b50", func := "candling/candlinglaw07.CpuEvents", spec := "cpuEvents", unfollowed := true, recurses := true, apart := false, narrowed := true }
def CpuEventsUptoSaid : Prop := cpuEventsUptoRow.holds Tryz.pinned (OpenSpec.upto cpuEventsSpec)

/-- 'candlinglaw07.CpuSplits', WHERE WHAT IT READS IS OF BULK AT MOST 1048576: true; the input reads as it did. -/
def cpuSplitsUptoRow : OpenClaim := { program := "ytnoiijjkjcklpaagreat", sum := "d79ce15041140a2fa3a2c9f59288b8a8148912eb9ae2cc26dbe0176ba36f4b50", func := "candling/candlinglaw07.CpuSplits", spec := "cpuSplits", inPlace := ["maps.clone"], unfollowed := true, recurses := true, apart := false, narrowed := true }
def CpuSplitsUptoSaid : Prop := cpuSplitsUptoRow.holds Tryz.pinned (OpenSpec.upto cpuSplitsSpec)

/-- 'candlinglaw07.CpuUses', WHERE WHAT IT READS IS OF BULK AT MOST 1048576: true; the input reads as it did. -/
def cpuUsesUptoRow : OpenClaim := { program := "ytnoiijjkjcklpaagreat", sum := "d79ce15041140a2fa3a2c9f59288b8a8148912eb9ae2cc26dbe0176ba36f4b50", func := "candling/candlinglaw07.CpuUses", spec := "cpuUses", inPlace := ["maps.clone"], unfollowed := true, recurses := true, apart := false, narrowed := true }
def CpuUsesUptoSaid : Prop := cpuUsesUptoRow.holds Tryz.pinned (OpenSpec.upto cpuUsesSpec)

end Rows
end Go.Proofs.YtnoiijjkjcklpaaGreat
