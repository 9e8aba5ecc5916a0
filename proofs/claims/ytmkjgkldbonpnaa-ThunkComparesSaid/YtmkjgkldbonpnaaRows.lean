/-
  No cell of these rows narrows 'for every input' (looked for: loops, veiled, ifaces, maps, wideKeys, modest, calm, conditions, laid).
  DERIVED. THE GIVEN ROWS OF THIS SEAT. 9 by the template 'for every input the law returns true; each argument reads behind the call as it read before'; 0 by the template 'total and deterministic' (their statements: YtmkjgkldbonpnaaTotals.lean).
  GIVEN WITH THE SEED: the statements are not yours to turn. If you find one false, say at which input.
  Laid BY PROGRAM, IN A SANDBOX (cutbox-rows.mjs): the forced cells as the released guide's own fill.sh prints them over the translation f626bef2dd13389e… (all of the seat's roots in one cut). By AI agents, Wed Nov 11 2026. No macro, syntax, notation, axiom, sorry.
-/
import Derived.Test.YtmkjgkldbonpnaaChecked
import GoSem.Claim
import GoSem.ClaimJoined
import GoSem.ClaimMapViews
import Derived.JoinedTies
import Derived.KernelRfl
namespace Go.Proofs.Ytmkjgkldbonpnaa
/- THE CELL 'sum', in the pinned program and in every row, IS THE sha256 OF THE DUMP (.gsa) THAT YtmkjgkldbonpnaaProg.lean LOADS. Nothing in Lean hashes anything: it is a label: what it is worth is what the hold of that sum in a sandbox is worth. -/
noncomputable def Try.pinned : Pinned := { name := "ytmkjgkldbonpnaa", sum := "f626bef2dd13389e0b8e0edba397110c4a16c162845fde00950fbbc1dedafb5e", checked := Try.checked }
namespace Rows
def none {H : Type} : Left H := { results := [], args := [] }

/-- 'candlinglaw13.ThunkSimple': WHATEVER THE INPUT: true; the input reads as it did. -/
def thunkSimpleSpec : ChangeSpec := { name := "thunkSimple", fn := fun _ => fun
  | [d1, d2] => { results := [.lit (.bool true)], args := [d1, d2] }
  | _ => none }
def thunkSimpleRow : OpenClaim := { program := "ytmkjgkldbonpnaa", sum := "f626bef2dd13389e0b8e0edba397110c4a16c162845fde00950fbbc1dedafb5e", func := "candling/candlinglaw13.ThunkSimple", spec := "thunkSimple", unfollowed := true, recurses := true, apart := false }
def ThunkSimpleSaid : Prop := thunkSimpleRow.holds Try.pinned (OpenSpec.ofChange thunkSimpleSpec)

/-- ITS FALSE NEIGHBOUR: 'it returns false'. Refute it at one input. -/
def thunkSimpleWrong : ChangeSpec := { name := "thunkSimple", fn := fun _ => fun
  | [d1, d2] => { results := [.lit (.bool false)], args := [d1, d2] }
  | _ => none }
def ThunkSimpleWrongFalsely : Prop := thunkSimpleRow.holds Try.pinned (OpenSpec.ofChange thunkSimpleWrong)

/-- 'candlinglaw13.ThunkOrders': WHATEVER THE INPUT: true; the input reads as it did. -/
def thunkOrdersSpec : ChangeSpec := { name := "thunkOrders", fn := fun _ => fun
  | [d1, d2, d3] => { results := [.lit (.bool true)], args := [d1, d2, d3] }
  | _ => none }
def thunkOrdersRow : OpenClaim := { program := "ytmkjgkldbonpnaa", sum := "f626bef2dd13389e0b8e0edba397110c4a16c162845fde00950fbbc1dedafb5e", func := "candling/candlinglaw13.ThunkOrders", spec := "thunkOrders", unfollowed := true, recurses := true, apart := false }
def ThunkOrdersSaid : Prop := thunkOrdersRow.holds Try.pinned (OpenSpec.ofChange thunkOrdersSpec)

/-- ITS FALSE NEIGHBOUR: 'it returns false'. Refute it at one input. -/
def thunkOrdersWrong : ChangeSpec := { name := "thunkOrders", fn := fun _ => fun
  | [d1, d2, d3] => { results := [.lit (.bool false)], args := [d1, d2, d3] }
  | _ => none }
def ThunkOrdersWrongFalsely : Prop := thunkOrdersRow.holds Try.pinned (OpenSpec.ofChange thunkOrdersWrong)

/-- 'candlinglaw13.ThunkSame': WHATEVER THE INPUT: true; the input reads as it did. -/
def thunkSameSpec : ChangeSpec := { name := "thunkSame", fn := fun _ => fun
  | [d] => { results := [.lit (.bool true)], args := [d] }
  | _ => none }
def thunkSameRow : OpenClaim := { program := "ytmkjgkldbonpnaa", sum := "f626bef2dd13389e0b8e0edba397110c4a16c162845fde00950fbbc1dedafb5e", func := "candling/candlinglaw13.ThunkSame", spec := "thunkSame", unfollowed := true, recurses := true, apart := false }
def ThunkSameSaid : Prop := thunkSameRow.holds Try.pinned (OpenSpec.ofChange thunkSameSpec)

/-- ITS FALSE NEIGHBOUR: 'it returns false'. Refute it at one input. -/
def thunkSameWrong : ChangeSpec := { name := "thunkSame", fn := fun _ => fun
  | [d] => { results := [.lit (.bool false)], args := [d] }
  | _ => none }
def ThunkSameWrongFalsely : Prop := thunkSameRow.holds Try.pinned (OpenSpec.ofChange thunkSameWrong)

/-- 'candlinglaw13.ThunkChains': WHATEVER THE INPUT: true; the input reads as it did. -/
def thunkChainsSpec : ChangeSpec := { name := "thunkChains", fn := fun _ => fun
  | [d1, d2] => { results := [.lit (.bool true)], args := [d1, d2] }
  | _ => none }
def thunkChainsRow : OpenClaim := { program := "ytmkjgkldbonpnaa", sum := "f626bef2dd13389e0b8e0edba397110c4a16c162845fde00950fbbc1dedafb5e", func := "candling/candlinglaw13.ThunkChains", spec := "thunkChains", unfollowed := true, recurses := true, apart := false }
def ThunkChainsSaid : Prop := thunkChainsRow.holds Try.pinned (OpenSpec.ofChange thunkChainsSpec)

/-- ITS FALSE NEIGHBOUR: 'it returns false'. Refute it at one input. -/
def thunkChainsWrong : ChangeSpec := { name := "thunkChains", fn := fun _ => fun
  | [d1, d2] => { results := [.lit (.bool false)], args := [d1, d2] }
  | _ => none }
def ThunkChainsWrongFalsely : Prop := thunkChainsRow.holds Try.pinned (OpenSpec.ofChange thunkChainsWrong)

/-- 'candlinglaw13.ThunkNormals': WHATEVER THE INPUT: true; the input reads as it did. -/
def thunkNormalsSpec : ChangeSpec := { name := "thunkNormals", fn := fun _ => fun
  | [d1, d2, d3] => { results := [.lit (.bool true)], args := [d1, d2, d3] }
  | _ => none }
def thunkNormalsRow : OpenClaim := { program := "ytmkjgkldbonpnaa", sum := "f626bef2dd13389e0b8e0edba397110c4a16c162845fde00950fbbc1dedafb5e", func := "candling/candlinglaw13.ThunkNormals", spec := "thunkNormals", unfollowed := true, recurses := true, apart := false }
def ThunkNormalsSaid : Prop := thunkNormalsRow.holds Try.pinned (OpenSpec.ofChange thunkNormalsSpec)

/-- ITS FALSE NEIGHBOUR: 'it returns false'. Refute it at one input. -/
def thunkNormalsWrong : ChangeSpec := { name := "thunkNormals", fn := fun _ => fun
  | [d1, d2, d3] => { results := [.lit (.bool false)], args := [d1, d2, d3] }
  | _ => none }
def ThunkNormalsWrongFalsely : Prop := thunkNormalsRow.holds Try.pinned (OpenSpec.ofChange thunkNormalsWrong)

/-- 'candlinglaw13.ThunkMerged': WHATEVER THE INPUT: true; the input reads as it did. -/
def thunkMergedSpec : ChangeSpec := { name := "thunkMerged", fn := fun _ => fun
  | [d1, d2, d3, d4] => { results := [.lit (.bool true)], args := [d1, d2, d3, d4] }
  | _ => none }
def thunkMergedRow : OpenClaim := { program := "ytmkjgkldbonpnaa", sum := "f626bef2dd13389e0b8e0edba397110c4a16c162845fde00950fbbc1dedafb5e", func := "candling/candlinglaw13.ThunkMerged", spec := "thunkMerged", unfollowed := true, recurses := true, apart := false }
def ThunkMergedSaid : Prop := thunkMergedRow.holds Try.pinned (OpenSpec.ofChange thunkMergedSpec)

/-- ITS FALSE NEIGHBOUR: 'it returns false'. Refute it at one input. -/
def thunkMergedWrong : ChangeSpec := { name := "thunkMerged", fn := fun _ => fun
  | [d1, d2, d3, d4] => { results := [.lit (.bool false)], args := [d1, d2, d3, d4] }
  | _ => none }
def ThunkMergedWrongFalsely : Prop := thunkMergedRow.holds Try.pinned (OpenSpec.ofChange thunkMergedWrong)

/-- 'candlinglaw13.ThunkFlags': WHATEVER THE INPUT: true; the input reads as it did. -/
def thunkFlagsSpec : ChangeSpec := { name := "thunkFlags", fn := fun _ => fun
  | [d1, d2, d3, d4, d5, d6] => { results := [.lit (.bool true)], args := [d1, d2, d3, d4, d5, d6] }
  | _ => none }
def thunkFlagsRow : OpenClaim := { program := "ytmkjgkldbonpnaa", sum := "f626bef2dd13389e0b8e0edba397110c4a16c162845fde00950fbbc1dedafb5e", func := "candling/candlinglaw13.ThunkFlags", spec := "thunkFlags", unfollowed := true, recurses := true, apart := false }
def ThunkFlagsSaid : Prop := thunkFlagsRow.holds Try.pinned (OpenSpec.ofChange thunkFlagsSpec)

/-- ITS FALSE NEIGHBOUR: 'it returns false'. Refute it at one input. -/
def thunkFlagsWrong : ChangeSpec := { name := "thunkFlags", fn := fun _ => fun
  | [d1, d2, d3, d4, d5, d6] => { results := [.lit (.bool false)], args := [d1, d2, d3, d4, d5, d6] }
  | _ => none }
def ThunkFlagsWrongFalsely : Prop := thunkFlagsRow.holds Try.pinned (OpenSpec.ofChange thunkFlagsWrong)

/-- 'candlinglaw13.ThunkInverse': WHATEVER THE INPUT: true; the input reads as it did. -/
def thunkInverseSpec : ChangeSpec := { name := "thunkInverse", fn := fun _ => fun
  | [d1, d2, d3, d4] => { results := [.lit (.bool true)], args := [d1, d2, d3, d4] }
  | _ => none }
def thunkInverseRow : OpenClaim := { program := "ytmkjgkldbonpnaa", sum := "f626bef2dd13389e0b8e0edba397110c4a16c162845fde00950fbbc1dedafb5e", func := "candling/candlinglaw13.ThunkInverse", spec := "thunkInverse", unfollowed := true, recurses := true, apart := false }
def ThunkInverseSaid : Prop := thunkInverseRow.holds Try.pinned (OpenSpec.ofChange thunkInverseSpec)

/-- ITS FALSE NEIGHBOUR: 'it returns false'. Refute it at one input. -/
def thunkInverseWrong : ChangeSpec := { name := "thunkInverse", fn := fun _ => fun
  | [d1, d2, d3, d4] => { results := [.lit (.bool false)], args := [d1, d2, d3, d4] }
  | _ => none }
def ThunkInverseWrongFalsely : Prop := thunkInverseRow.holds Try.pinned (OpenSpec.ofChange thunkInverseWrong)

/-- 'candlinglaw13.ThunkCompares': WHATEVER THE INPUT: true; the input reads as it did. -/
def thunkComparesSpec : ChangeSpec := { name := "thunkCompares", fn := fun _ => fun
  | [d1, d2, d3] => { results := [.lit (.bool true)], args := [d1, d2, d3] }
  | _ => none }
def thunkComparesRow : OpenClaim := { program := "ytmkjgkldbonpnaa", sum := "f626bef2dd13389e0b8e0edba397110c4a16c162845fde00950fbbc1dedafb5e", func := "candling/candlinglaw13.ThunkCompares", spec := "thunkCompares", unfollowed := true, recurses := true, apart := false }
def ThunkComparesSaid : Prop := thunkComparesRow.holds Try.pinned (OpenSpec.ofChange thunkComparesSpec)

/-- ITS FALSE NEIGHBOUR: 'it returns false'. Refute it at one input. -/
def thunkComparesWrong : ChangeSpec := { name := "thunkCompares", fn := fun _ => fun
  | [d1, d2, d3] => { results := [.lit (.bool false)], args := [d1, d2, d3] }
  | _ => none }
def ThunkComparesWrongFalsely : Prop := thunkComparesRow.holds Try.pinned (OpenSpec.ofChange thunkComparesWrong)

/- THE SECOND FORM. 'bulk': how many values and letters a reading holds, each counted each time it is reached (what is shared counts as often as it is met; a slice's spare places count too). A statement '..UptoSaid' is the law's where the arguments, and the package variables that the reading takes, are together of bulk at most 1048576: NARROWER than '..Said'. Prove '..Said' where nothing that the law and all that it calls make is longer than what came in: it says more and counts as full. Else prove '..UptoSaid'. A law counts once. -/
mutual
def uptoBulk {H : Type} : DataW H → Nat
  | .lit (.string bytes) => bytes.length + 1
  | .lit _ => 1
  | .nil => 1
  | .ptr d => uptoBulk d + 1
  | .slice elems spare => uptoBulkAll elems + uptoBulkAll spare + 1
  | .agg parts => uptoBulkAll parts + 1
  | .iface _ d => uptoBulk d + 1
  | .map entries => uptoBulkEntries entries + 1
  | .held _ => 1
def uptoBulkAll {H : Type} : List (DataW H) → Nat
  | [] => 0
  | d :: r => uptoBulk d + uptoBulkAll r
def uptoBulkEntries {H : Type} : List (Lit × DataW H) → Nat
  | [] => 0
  | x :: r => uptoBulkEntry x + uptoBulkEntries r
def uptoBulkEntry {H : Type} : Lit × DataW H → Nat
  | (.string bytes, d) => bytes.length + uptoBulk d + 1
  | (_, d) => uptoBulk d + 1
 end
def uptoSmall : (H : Type) → List (DataW H) → Bool := fun _ ds => decide (uptoBulkAll ds ≤ 1048576)
def OpenSpec.upto (s : _root_.Go.ChangeSpec) : _root_.Go.OpenSpec := { _root_.Go.OpenSpec.ofChange s with cond := some uptoSmall }

/-- 'candlinglaw13.ThunkSimple', WHERE WHAT IT READS IS OF BULK AT MOST 1048576: true; the input reads as it did. -/
def thunkSimpleUptoRow : OpenClaim := { program := "ytmkjgkldbonpnaa", sum := "f626bef2dd13389e0b8e0edba397110c4a16c162845fde00950fbbc1dedafb5e", func := "candling/candlinglaw13.ThunkSimple", spec := "thunkSimple", unfollowed := true, recurses := true, apart := false, narrowed := true }
def ThunkSimpleUptoSaid : Prop := thunkSimpleUptoRow.holds Try.pinned (OpenSpec.upto thunkSimpleSpec)

/-- 'candlinglaw13.ThunkOrders', WHERE WHAT IT READS IS OF BULK AT MOST 1048576: true; the input reads as it did. -/
def thunkOrdersUptoRow : OpenClaim := { program := "ytmkjgkldbonpnaa", sum := "f626bef2dd13389e0b8e0edba397110c4a16c162845fde00950fbbc1dedafb5e", func := "candling/candlinglaw13.ThunkOrders", spec := "thunkOrders", unfollowed := true, recurses := true, apart := false, narrowed := true }
def ThunkOrdersUptoSaid : Prop := thunkOrdersUptoRow.holds Try.pinned (OpenSpec.upto thunkOrdersSpec)

/-- 'candlinglaw13.ThunkSame', WHERE WHAT IT READS IS OF BULK AT MOST 1048576: true; the input reads as it did. -/
def thunkSameUptoRow : OpenClaim := { program := "ytmkjgkldbonpnaa", sum := "f626bef2dd13389e0b8e0edba397110c4a16c162845fde00950fbbc1dedafb5e", func := "candling/candlinglaw13.ThunkSame", spec := "thunkSame", unfollowed := true, recurses := true, apart := false, narrowed := true }
def ThunkSameUptoSaid : Prop := thunkSameUptoRow.holds Try.pinned (OpenSpec.upto thunkSameSpec)

/-- 'candlinglaw13.ThunkChains', WHERE WHAT IT READS IS OF BULK AT MOST 1048576: true; the input reads as it did. -/
def thunkChainsUptoRow : OpenClaim := { program := "ytmkjgkldbonpnaa", sum := "f626bef2dd13389e0b8e0edba397110c4a16c162845fde00950fbbc1dedafb5e", func := "candling/candlinglaw13.ThunkChains", spec := "thunkChains", unfollowed := true, recurses := true, apart := false, narrowed := true }
def ThunkChainsUptoSaid : Prop := thunkChainsUptoRow.holds Try.pinned (OpenSpec.upto thunkChainsSpec)

/-- 'candlinglaw13.ThunkNormals', WHERE WHAT IT READS IS OF BULK AT MOST 1048576: true; the input reads as it did. -/
def thunkNormalsUptoRow : OpenClaim := { program := "ytmkjgkldbonpnaa", sum := "f626bef2dd13389e0b8e0edba397110c4a16c162845fde00950fbbc1dedafb5e", func := "candling/candlinglaw13.ThunkNormals", spec := "thunkNormals", unfollowed := true, recurses := true, apart := false, narrowed := true }
def ThunkNormalsUptoSaid : Prop := thunkNormalsUptoRow.holds Try.pinned (OpenSpec.upto thunkNormalsSpec)

/-- 'candlinglaw13.ThunkMerged', WHERE WHAT IT READS IS OF BULK AT MOST 1048576: true; the input reads as it did. -/
def thunkMergedUptoRow : OpenClaim := { program := "ytmkjgkldbonpnaa", sum := "f626bef2dd13389e0b8e0edba397110c4a16c162845fde00950fbbc1dedafb5e", func := "candling/candlinglaw13.ThunkMerged", spec := "thunkMerged", unfollowed := true, recurses := true, apart := false, narrowed := true }
def ThunkMergedUptoSaid : Prop := thunkMergedUptoRow.holds Try.pinned (OpenSpec.upto thunkMergedSpec)

/-- 'candlinglaw13.ThunkFlags', WHERE WHAT IT READS IS OF BULK AT MOST 1048576: true; the input reads as it did. -/
def thunkFlagsUptoRow : OpenClaim := { program := "ytmkjgkldbonpnaa", sum := "f626bef2dd13389e0b8e0edba397110c4a16c162845fde00950fbbc1dedafb5e", func := "candling/candlinglaw13.ThunkFlags", spec := "thunkFlags", unfollowed := true, recurses := true, apart := false, narrowed := true }
def ThunkFlagsUptoSaid : Prop := thunkFlagsUptoRow.holds Try.pinned (OpenSpec.upto thunkFlagsSpec)

/-- 'candlinglaw13.ThunkInverse', WHERE WHAT IT READS IS OF BULK AT MOST 1048576: true; the input reads as it did. -/
def thunkInverseUptoRow : OpenClaim := { program := "ytmkjgkldbonpnaa", sum := "f626bef2dd13389e0b8e0edba397110c4a16c162845fde00950fbbc1dedafb5e", func := "candling/candlinglaw13.ThunkInverse", spec := "thunkInverse", unfollowed := true, recurses := true, apart := false, narrowed := true }
def ThunkInverseUptoSaid : Prop := thunkInverseUptoRow.holds Try.pinned (OpenSpec.upto thunkInverseSpec)

/-- 'candlinglaw13.ThunkCompares', WHERE WHAT IT READS IS OF BULK AT MOST 1048576: true; the input reads as it did. -/
def thunkComparesUptoRow : OpenClaim := { program := "ytmkjgkldbonpnaa", sum := "f626bef2dd13389e0b8e0edba397110c4a16c162845fde00950fbbc1dedafb5e", func := "candling/candlinglaw13.ThunkCompares", spec := "thunkCompares", unfollowed := true, recurses := true, apart := false, narrowed := true }
def ThunkComparesUptoSaid : Prop := thunkComparesUptoRow.holds Try.pinned (OpenSpec.upto thunkComparesSpec)

end Rows
end Go.Proofs.Ytmkjgkldbonpnaa
