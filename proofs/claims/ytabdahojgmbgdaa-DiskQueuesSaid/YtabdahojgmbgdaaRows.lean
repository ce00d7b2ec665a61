/-
  No cell of these rows narrows 'for every input' (looked for: loops, veiled, ifaces, maps, wideKeys, modest, calm, conditions, laid).
  DERIVED. THE GIVEN ROWS OF THIS SEAT. 6 by the template 'for every input the law returns true; each argument reads behind the call as it read before'; 0 by the template 'total and deterministic' (their statements: YtabdahojgmbgdaaTotals.lean).
  GIVEN WITH THE SEED: the statements are not yours to turn. If you find one false, say at which input.
  Laid BY PROGRAM, IN A SANDBOX (cutbox-rows.mjs): the forced cells as the released guide's own fill.sh prints them over the translation ab88b681bfc638b4… (all of the seat's roots in one cut). By AI agents, Wed Nov 11 2026. No macro, syntax, notation, axiom, sorry.
-/
import Derived.Test.YtabdahojgmbgdaaChecked
import GoSem.Claim
import GoSem.ClaimJoined
import GoSem.ClaimMapViews
import Derived.JoinedTies
import Derived.KernelRfl
namespace Go.Proofs.Ytabdahojgmbgdaa
/- THE CELL 'sum', in the pinned program and in every row, IS THE sha256 OF THE DUMP (.gsa) THAT YtabdahojgmbgdaaProg.lean LOADS. Nothing in Lean hashes anything: it is a label: what it is worth is what the hold of that sum in a sandbox is worth. -/
noncomputable def Try.pinned : Pinned := { name := "ytabdahojgmbgdaa", sum := "ab88b681bfc638b4229a01b89087b1747f106b336b1e76b0fafccf2efa3f763b", checked := Try.checked }
namespace Rows
def none {H : Type} : Left H := { results := [], args := [] }

/-- 'orpimentlaw28.DiskServed': WHATEVER THE INPUT: true; the input reads as it did. -/
def diskServedSpec : ChangeSpec := { name := "diskServed", fn := fun _ => fun
  | [d1, d2] => { results := [.lit (.bool true)], args := [d1, d2] }
  | _ => none }
def diskServedRow : OpenClaim := { program := "ytabdahojgmbgdaa", sum := "ab88b681bfc638b4229a01b89087b1747f106b336b1e76b0fafccf2efa3f763b", func := "orpiment/orpimentlaw28.DiskServed", spec := "diskServed", unfollowed := true, recurses := true, apart := false }
def DiskServedSaid : Prop := diskServedRow.holds Try.pinned (OpenSpec.ofChange diskServedSpec)

/-- ITS FALSE NEIGHBOUR: 'it returns false'. Refute it at one input. -/
def diskServedWrong : ChangeSpec := { name := "diskServed", fn := fun _ => fun
  | [d1, d2] => { results := [.lit (.bool false)], args := [d1, d2] }
  | _ => none }
def DiskServedWrongFalsely : Prop := diskServedRow.holds Try.pinned (OpenSpec.ofChange diskServedWrong)

/-- 'orpimentlaw28.DiskKept': WHATEVER THE INPUT: true; the input reads as it did. -/
def diskKeptSpec : ChangeSpec := { name := "diskKept", fn := fun _ => fun
  | [d1, d2, d3] => { results := [.lit (.bool true)], args := [d1, d2, d3] }
  | _ => none }
def diskKeptRow : OpenClaim := { program := "ytabdahojgmbgdaa", sum := "ab88b681bfc638b4229a01b89087b1747f106b336b1e76b0fafccf2efa3f763b", func := "orpiment/orpimentlaw28.DiskKept", spec := "diskKept", unfollowed := true, recurses := true, apart := false }
def DiskKeptSaid : Prop := diskKeptRow.holds Try.pinned (OpenSpec.ofChange diskKeptSpec)

/-- ITS FALSE NEIGHBOUR: 'it returns false'. Refute it at one input. -/
def diskKeptWrong : ChangeSpec := { name := "diskKept", fn := fun _ => fun
  | [d1, d2, d3] => { results := [.lit (.bool false)], args := [d1, d2, d3] }
  | _ => none }
def DiskKeptWrongFalsely : Prop := diskKeptRow.holds Try.pinned (OpenSpec.ofChange diskKeptWrong)

/-- 'orpimentlaw28.DiskQueues': WHATEVER THE INPUT: true; the input reads as it did. -/
def diskQueuesSpec : ChangeSpec := { name := "diskQueues", fn := fun _ => fun
  | [d1, d2] => { results := [.lit (.bool true)], args := [d1, d2] }
  | _ => none }
def diskQueuesRow : OpenClaim := { program := "ytabdahojgmbgdaa", sum := "ab88b681bfc638b4229a01b89087b1747f106b336b1e76b0fafccf2efa3f763b", func := "orpiment/orpimentlaw28.DiskQueues", spec := "diskQueues", unfollowed := true, recurses := true, apart := false }
def DiskQueuesSaid : Prop := diskQueuesRow.holds Try.pinned (OpenSpec.ofChange diskQueuesSpec)

/-- ITS FALSE NEIGHBOUR: 'it returns false'. Refute it at one input. -/
def diskQueuesWrong : ChangeSpec := { name := "diskQueues", fn := fun _ => fun
  | [d1, d2] => { results := [.lit (.bool false)], args := [d1, d2] }
  | _ => none }
def DiskQueuesWrongFalsely : Prop := diskQueuesRow.holds Try.pinned (OpenSpec.ofChange diskQueuesWrong)

/-- 'orpimentlaw28.DiskLoads': WHATEVER THE INPUT: true; the input reads as it did. -/
def diskLoadsSpec : ChangeSpec := { name := "diskLoads", fn := fun _ => fun
  | [d] => { results := [.lit (.bool true)], args := [d] }
  | _ => none }
def diskLoadsRow : OpenClaim := { program := "ytabdahojgmbgdaa", sum := "ab88b681bfc638b4229a01b89087b1747f106b336b1e76b0fafccf2efa3f763b", func := "orpiment/orpimentlaw28.DiskLoads", spec := "diskLoads", unfollowed := true, recurses := true, apart := false }
def DiskLoadsSaid : Prop := diskLoadsRow.holds Try.pinned (OpenSpec.ofChange diskLoadsSpec)

/-- ITS FALSE NEIGHBOUR: 'it returns false'. Refute it at one input. -/
def diskLoadsWrong : ChangeSpec := { name := "diskLoads", fn := fun _ => fun
  | [d] => { results := [.lit (.bool false)], args := [d] }
  | _ => none }
def DiskLoadsWrongFalsely : Prop := diskLoadsRow.holds Try.pinned (OpenSpec.ofChange diskLoadsWrong)

/-- 'orpimentlaw28.DiskRuns': WHATEVER THE INPUT: true; the input reads as it did. -/
def diskRunsSpec : ChangeSpec := { name := "diskRuns", fn := fun _ => fun
  | [d1, d2, d3] => { results := [.lit (.bool true)], args := [d1, d2, d3] }
  | _ => none }
def diskRunsRow : OpenClaim := { program := "ytabdahojgmbgdaa", sum := "ab88b681bfc638b4229a01b89087b1747f106b336b1e76b0fafccf2efa3f763b", func := "orpiment/orpimentlaw28.DiskRuns", spec := "diskRuns", unfollowed := true, recurses := true, apart := false }
def DiskRunsSaid : Prop := diskRunsRow.holds Try.pinned (OpenSpec.ofChange diskRunsSpec)

/-- ITS FALSE NEIGHBOUR: 'it returns false'. Refute it at one input. -/
def diskRunsWrong : ChangeSpec := { name := "diskRuns", fn := fun _ => fun
  | [d1, d2, d3] => { results := [.lit (.bool false)], args := [d1, d2, d3] }
  | _ => none }
def DiskRunsWrongFalsely : Prop := diskRunsRow.holds Try.pinned (OpenSpec.ofChange diskRunsWrong)

/-- 'orpimentlaw28.DiskTables': WHATEVER THE INPUT: true; the input reads as it did. -/
def diskTablesSpec : ChangeSpec := { name := "diskTables", fn := fun _ => fun
  | [d] => { results := [.lit (.bool true)], args := [d] }
  | _ => none }
def diskTablesRow : OpenClaim := { program := "ytabdahojgmbgdaa", sum := "ab88b681bfc638b4229a01b89087b1747f106b336b1e76b0fafccf2efa3f763b", func := "orpiment/orpimentlaw28.DiskTables", spec := "diskTables", unfollowed := true, recurses := true, apart := false }
def DiskTablesSaid : Prop := diskTablesRow.holds Try.pinned (OpenSpec.ofChange diskTablesSpec)

/-- ITS FALSE NEIGHBOUR: 'it returns false'. Refute it at one input. -/
def diskTablesWrong : ChangeSpec := { name := "diskTables", fn := fun _ => fun
  | [d] => { results := [.lit (.bool false)], args := [d] }
  | _ => none }
def DiskTablesWrongFalsely : Prop := diskTablesRow.holds Try.pinned (OpenSpec.ofChange diskTablesWrong)

/- THE SECOND FORM. 'bulk': how many values and letters a reading holds, each counted each time it is reached (what is shared counts as often as it is met; a slice's spare places count too). A statement '..UptoSaid' is the law's where the arguments, and the package variables that the reading takes, are together of bulk at most 1048576: NARROWER than '..Said'. Prove '..Said' where nothing that the law and all that it calls make is longer than what came in: it says more and counts as full. Else prove '..UptoSaid'. A law counts once. -/
mutual
def uptoBulk {H : Type} : DataW H → Nat
  | .lit (.string bytes) => bytes.length + 1
  | .lit _ => 1
  | .nil => 1
  | .ptr d => uptoBulk d + 1
  | .slice elems spare => uptoBulkAll elems + uptoBulkAll spare + 1
  | .agg parts => uptoBulkAll parts + 1
  | .iface _ d => uptoBulk d + 1
  | .map entries => uptoBulkEntries entries + 1
  | .held _ => 1
def uptoBulkAll {H : Type} : List (DataW H) → Nat
  | [] => 0
  | d :: r => uptoBulk d + uptoBulkAll r
def uptoBulkEntries {H : Type} : List (Lit × DataW H) → Nat
  | [] => 0
  | x :: r => uptoBulkEntry x + uptoBulkEntries r
def uptoBulkEntry {H : Type} : Lit × DataW H → Nat
  | (.string bytes, d) => bytes.length + uptoBulk d + 1
  | (_, d) => uptoBulk d + 1
 end
def uptoSmall : (H : Type) → List (DataW H) → Bool := fun _ ds => decide (uptoBulkAll ds ≤ 1048576)
def OpenSpec.upto (s : _root_.Go.ChangeSpec) : _root_.Go.OpenSpec := { _root_.Go.OpenSpec.ofChange s with cond := some uptoSmall }

/-- 'orpimentlaw28.DiskServed', WHERE WHAT IT READS IS OF BULK AT MOST 1048576: true; the input reads as it did. -/
def diskServedUptoRow : OpenClaim := { program := "ytabdahojgmbgdaa", sum := "ab88b681bfc638b4229a01b89087b1747f106b336b1e76b0fafccf2efa3f763b", func := "orpiment/orpimentlaw28.DiskServed", spec := "diskServed", unfollowed := true, recurses := true, apart := false, narrowed := true }
def DiskServedUptoSaid : Prop := diskServedUptoRow.holds Try.pinned (OpenSpec.upto diskServedSpec)

/-- 'orpimentlaw28.DiskKept', WHERE WHAT IT READS IS OF BULK AT MOST 1048576: true; the input reads as it did. -/
def diskKeptUptoRow : OpenClaim := { program := "ytabdahojgmbgdaa", sum := "ab88b681bfc638b4229a01b89087b1747f106b336b1e76b0fafccf2efa3f763b", func := "orpiment/orpimentlaw28.DiskKept", spec := "diskKept", unfollowed := true, recurses := true, apart := false, narrowed := true }
def DiskKeptUptoSaid : Prop := diskKeptUptoRow.holds Try.pinned (OpenSpec.upto diskKeptSpec)

/-- 'orpimentlaw28.DiskQueues', WHERE WHAT IT READS IS OF BULK AT MOST 1048576: true; the input reads as it did. -/
def diskQueuesUptoRow : OpenClaim := { program := "ytabdahojgmbgdaa", sum := "ab88b681bfc638b4229a01b89087b1747f106b336b1e76b0fafccf2efa3f763b", func := "orpiment/orpimentlaw28.DiskQueues", spec := "diskQueues", unfollowed := true, recurses := true, apart := false, narrowed := true }
def DiskQueuesUptoSaid : Prop := diskQueuesUptoRow.holds Try.pinned (OpenSpec.upto diskQueuesSpec)

/-- 'orpimentlaw28.DiskLoads', WHERE WHAT IT READS IS OF BULK AT MOST 1048576: true; the input reads as it did. -/
def diskLoadsUptoRow : OpenClaim := { program := "ytabdahojgmbgdaa", sum := "ab88b681bfc638b4229a01b89087b1747f106b336b1e76b0fafccf2efa3f763b", func := "orpiment/orpimentlaw28.DiskLoads", spec := "diskLoads", unfollowed := true, recurses := true, apart := false, narrowed := true }
def DiskLoadsUptoSaid : Prop := diskLoadsUptoRow.holds Try.pinned (OpenSpec.upto diskLoadsSpec)

/-- 'orpimentlaw28.DiskRuns', WHERE WHAT IT READS IS OF BULK AT MOST 1048576: true; the input reads as it did. -/
def diskRunsUptoRow : OpenClaim := { program := "ytabdahojgmbgdaa", sum := "ab88b681bfc638b4229a01b89087b1747f106b336b1e76b0fafccf2efa3f763b", func := "orpiment/orpimentlaw28.DiskRuns", spec := "diskRuns", unfollowed := true, recurses := true, apart := false, narrowed := true }
def DiskRunsUptoSaid : Prop := diskRunsUptoRow.holds Try.pinned (OpenSpec.upto diskRunsSpec)

/-- 'orpimentlaw28.DiskTables', WHERE WHAT IT READS IS OF BULK AT MOST 1048576: true; the input reads as it did. -/
def diskTablesUptoRow : OpenClaim := { program := "ytabdahojgmbgdaa", sum := "ab88b681bfc638b4229a01b89087b1747f106b336b1e76b0fafccf2efa3f763b", func := "orpiment/orpimentlaw28.DiskTables", spec := "diskTables", unfollowed := true, recurses := true, apart := false, narrowed := true }
def DiskTablesUptoSaid : Prop := diskTablesUptoRow.holds Try.pinned (OpenSpec.upto diskTablesSpec)

end Rows
end Go.Proofs.Ytabdahojgmbgdaa
