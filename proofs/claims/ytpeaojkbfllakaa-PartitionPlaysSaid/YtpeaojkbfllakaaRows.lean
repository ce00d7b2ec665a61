/-
  No cell of these rows narrows 'for every input' (looked for: loops, veiled, ifaces, maps, wideKeys, modest, calm, conditions, laid).
  DERIVED. THE GIVEN ROWS OF THIS SEAT. 5 by the template 'for every input the law returns true; each argument reads behind the call as it read before'; 0 by the template 'total and deterministic' (their statements: YtpeaojkbfllakaaTotals.lean).
  GIVEN WITH THE SEED: the statements are not yours to turn. If you find one false, say at which input.
  Laid BY PROGRAM, IN A SANDBOX (cutbox-rows.mjs): the forced cells as the released guide's own fill.sh prints them over the translation 0afb8d0b0f3c1c9f… (all of the seat's roots in one cut). By AI agents, Wed Nov 11 2026. No macro, syntax, notation, axiom, sorry.
-/
import Derived.Test.YtpeaojkbfllakaaChecked
import GoSem.Claim
import GoSem.ClaimJoined
import GoSem.ClaimMapViews
import Derived.JoinedTies
import Derived.KernelRfl
namespace Go.Proofs.Ytpeaojkbfllakaa
/- THE CELL 'sum', in the pinned program and in every row, IS THE sha256 OF THE DUMP (.gsa) THAT YtpeaojkbfllakaaProg.lean LOADS. Nothing in Lean hashes anything: it is a label: what it is worth is what the hold of that sum in a sandbox is worth. -/
noncomputable def Try.pinned : Pinned := { name := "ytpeaojkbfllakaa", sum := "0afb8d0b0f3c1c9f44955c8ed8af2845afe291e5724fd4c82559967205363907", checked := Try.checked }
namespace Rows
def none {H : Type} : Left H := { results := [], args := [] }

/-- 'orpimentlaw04.PartitionForgets': WHATEVER THE INPUT: true; the input reads as it did. -/
def partitionForgetsSpec : ChangeSpec := { name := "partitionForgets", fn := fun _ => fun
  | [d1, d2] => { results := [.lit (.bool true)], args := [d1, d2] }
  | _ => none }
def partitionForgetsRow : OpenClaim := { program := "ytpeaojkbfllakaa", sum := "0afb8d0b0f3c1c9f44955c8ed8af2845afe291e5724fd4c82559967205363907", func := "orpiment/orpimentlaw04.PartitionForgets", spec := "partitionForgets", apart := false }
def PartitionForgetsSaid : Prop := partitionForgetsRow.holds Try.pinned (OpenSpec.ofChange partitionForgetsSpec)

/-- ITS FALSE NEIGHBOUR: 'it returns false'. Refute it at one input. -/
def partitionForgetsWrong : ChangeSpec := { name := "partitionForgets", fn := fun _ => fun
  | [d1, d2] => { results := [.lit (.bool false)], args := [d1, d2] }
  | _ => none }
def PartitionForgetsWrongFalsely : Prop := partitionForgetsRow.holds Try.pinned (OpenSpec.ofChange partitionForgetsWrong)

/-- 'orpimentlaw04.PartitionShares': WHATEVER THE INPUT: true; the input reads as it did. -/
def partitionSharesSpec : ChangeSpec := { name := "partitionShares", fn := fun _ => fun
  | [d1, d2] => { results := [.lit (.bool true)], args := [d1, d2] }
  | _ => none }
def partitionSharesRow : OpenClaim := { program := "ytpeaojkbfllakaa", sum := "0afb8d0b0f3c1c9f44955c8ed8af2845afe291e5724fd4c82559967205363907", func := "orpiment/orpimentlaw04.PartitionShares", spec := "partitionShares", apart := false }
def PartitionSharesSaid : Prop := partitionSharesRow.holds Try.pinned (OpenSpec.ofChange partitionSharesSpec)

/-- ITS FALSE NEIGHBOUR: 'it returns false'. Refute it at one input. -/
def partitionSharesWrong : ChangeSpec := { name := "partitionShares", fn := fun _ => fun
  | [d1, d2] => { results := [.lit (.bool false)], args := [d1, d2] }
  | _ => none }
def PartitionSharesWrongFalsely : Prop := partitionSharesRow.holds Try.pinned (OpenSpec.ofChange partitionSharesWrong)

/-- 'orpimentlaw04.PartitionOrders': WHATEVER THE INPUT: true; the input reads as it did. -/
def partitionOrdersSpec : ChangeSpec := { name := "partitionOrders", fn := fun _ => fun
  | [d1, d2] => { results := [.lit (.bool true)], args := [d1, d2] }
  | _ => none }
def partitionOrdersRow : OpenClaim := { program := "ytpeaojkbfllakaa", sum := "0afb8d0b0f3c1c9f44955c8ed8af2845afe291e5724fd4c82559967205363907", func := "orpiment/orpimentlaw04.PartitionOrders", spec := "partitionOrders", apart := false }
def PartitionOrdersSaid : Prop := partitionOrdersRow.holds Try.pinned (OpenSpec.ofChange partitionOrdersSpec)

/-- ITS FALSE NEIGHBOUR: 'it returns false'. Refute it at one input. -/
def partitionOrdersWrong : ChangeSpec := { name := "partitionOrders", fn := fun _ => fun
  | [d1, d2] => { results := [.lit (.bool false)], args := [d1, d2] }
  | _ => none }
def PartitionOrdersWrongFalsely : Prop := partitionOrdersRow.holds Try.pinned (OpenSpec.ofChange partitionOrdersWrong)

/-- 'orpimentlaw04.PartitionPlays': WHATEVER THE INPUT: true; the input reads as it did. -/
def partitionPlaysSpec : ChangeSpec := { name := "partitionPlays", fn := fun _ => fun
  | [d1, d2] => { results := [.lit (.bool true)], args := [d1, d2] }
  | _ => none }
def partitionPlaysRow : OpenClaim := { program := "ytpeaojkbfllakaa", sum := "0afb8d0b0f3c1c9f44955c8ed8af2845afe291e5724fd4c82559967205363907", func := "orpiment/orpimentlaw04.PartitionPlays", spec := "partitionPlays", apart := false }
def PartitionPlaysSaid : Prop := partitionPlaysRow.holds Try.pinned (OpenSpec.ofChange partitionPlaysSpec)

/-- ITS FALSE NEIGHBOUR: 'it returns false'. Refute it at one input. -/
def partitionPlaysWrong : ChangeSpec := { name := "partitionPlays", fn := fun _ => fun
  | [d1, d2] => { results := [.lit (.bool false)], args := [d1, d2] }
  | _ => none }
def PartitionPlaysWrongFalsely : Prop := partitionPlaysRow.holds Try.pinned (OpenSpec.ofChange partitionPlaysWrong)

/-- 'orpimentlaw04.PartitionNil': WHATEVER THE INPUT: true; the input reads as it did. -/
def partitionNilSpec : ChangeSpec := { name := "partitionNil", fn := fun _ => fun
  | [d] => { results := [.lit (.bool true)], args := [d] }
  | _ => none }
def partitionNilRow : OpenClaim := { program := "ytpeaojkbfllakaa", sum := "0afb8d0b0f3c1c9f44955c8ed8af2845afe291e5724fd4c82559967205363907", func := "orpiment/orpimentlaw04.PartitionNil", spec := "partitionNil", apart := false }
def PartitionNilSaid : Prop := partitionNilRow.holds Try.pinned (OpenSpec.ofChange partitionNilSpec)

/-- ITS FALSE NEIGHBOUR: 'it returns false'. Refute it at one input. -/
def partitionNilWrong : ChangeSpec := { name := "partitionNil", fn := fun _ => fun
  | [d] => { results := [.lit (.bool false)], args := [d] }
  | _ => none }
def PartitionNilWrongFalsely : Prop := partitionNilRow.holds Try.pinned (OpenSpec.ofChange partitionNilWrong)

/- THE SECOND FORM. 'bulk': how many values and letters a reading holds, each counted each time it is reached (what is shared counts as often as it is met; a slice's spare places count too). A statement '..UptoSaid' is the law's where the arguments, and the package variables that the reading takes, are together of bulk at most 1048576: NARROWER than '..Said'. Prove '..Said' where nothing that the law and all that it calls make is longer than what came in: it says more and counts as full. Else prove '..UptoSaid'. A law counts once. -/
mutual
def uptoBulk {H : Type} : DataW H → Nat
  | .lit (.string bytes) => bytes.length + 1
  | .lit _ => 1
  | .nil => 1
  | .ptr d => uptoBulk d + 1
  | .slice elems spare => uptoBulkAll elems + uptoBulkAll spare + 1
  | .agg parts => uptoBulkAll parts + 1
  | .iface _ d => uptoBulk d + 1
  | .map entries => uptoBulkEntries entries + 1
  | .held _ => 1
def uptoBulkAll {H : Type} : List (DataW H) → Nat
  | [] => 0
  | d :: r => uptoBulk d + uptoBulkAll r
def uptoBulkEntries {H : Type} : List (Lit × DataW H) → Nat
  | [] => 0
  | x :: r => uptoBulkEntry x + uptoBulkEntries r
def uptoBulkEntry {H : Type} : Lit × DataW H → Nat
  | (.string bytes, d) => bytes.length + uptoBulk d + 1
  | (_, d) => uptoBulk d + 1
 end
def uptoSmall : (H : Type) → List (DataW H) → Bool := fun _ ds => decide (uptoBulkAll ds ≤ 1048576)
def OpenSpec.upto (s : _root_.Go.ChangeSpec) : _root_.Go.OpenSpec := { _root_.Go.OpenSpec.ofChange s with cond := some uptoSmall }

/-- 'orpimentlaw04.PartitionForgets', WHERE WHAT IT READS IS OF BULK AT MOST 1048576: true; the input reads as it did. -/
def partitionForgetsUptoRow : OpenClaim := { program := "ytpeaojkbfllakaa", sum := "0afb8d0b0f3c1c9f44955c8ed8af2845afe291e5724fd4c82559967205363907", func := "orpiment/orpimentlaw04.PartitionForgets", spec := "partitionForgets", apart := false, narrowed := true }
def PartitionForgetsUptoSaid : Prop := partitionForgetsUptoRow.holds Try.pinned (OpenSpec.upto partitionForgetsSpec)

/-- 'orpimentlaw04.PartitionShares', WHERE WHAT IT READS IS OF BULK AT MOST 1048576: true; the input reads as it did. -/
def partitionSharesUptoRow : OpenClaim := { program := "ytpeaojkbfllakaa", sum := "0afb8d0b0f3c1c9f44955c8ed8af2845afe291e5724fd4c82559967205363907", func := "orpiment/orpimentlaw04.PartitionShares", spec := "partitionShares", apart := false, narrowed := true }
def PartitionSharesUptoSaid : Prop := partitionSharesUptoRow.holds Try.pinned (OpenSpec.upto partitionSharesSpec)

/-- 'orpimentlaw04.PartitionOrders', WHERE WHAT IT READS IS OF BULK AT MOST 1048576: true; the input reads as it did. -/
def partitionOrdersUptoRow : OpenClaim := { program := "ytpeaojkbfllakaa", sum := "0afb8d0b0f3c1c9f44955c8ed8af2845afe291e5724fd4c82559967205363907", func := "orpiment/orpimentlaw04.PartitionOrders", spec := "partitionOrders", apart := false, narrowed := true }
def PartitionOrdersUptoSaid : Prop := partitionOrdersUptoRow.holds Try.pinned (OpenSpec.upto partitionOrdersSpec)

/-- 'orpimentlaw04.PartitionPlays', WHERE WHAT IT READS IS OF BULK AT MOST 1048576: true; the input reads as it did. -/
def partitionPlaysUptoRow : OpenClaim := { program := "ytpeaojkbfllakaa", sum := "0afb8d0b0f3c1c9f44955c8ed8af2845afe291e5724fd4c82559967205363907", func := "orpiment/orpimentlaw04.PartitionPlays", spec := "partitionPlays", apart := false, narrowed := true }
def PartitionPlaysUptoSaid : Prop := partitionPlaysUptoRow.holds Try.pinned (OpenSpec.upto partitionPlaysSpec)

/-- 'orpimentlaw04.PartitionNil', WHERE WHAT IT READS IS OF BULK AT MOST 1048576: true; the input reads as it did. -/
def partitionNilUptoRow : OpenClaim := { program := "ytpeaojkbfllakaa", sum := "0afb8d0b0f3c1c9f44955c8ed8af2845afe291e5724fd4c82559967205363907", func := "orpiment/orpimentlaw04.PartitionNil", spec := "partitionNil", apart := false, narrowed := true }
def PartitionNilUptoSaid : Prop := partitionNilUptoRow.holds Try.pinned (OpenSpec.upto partitionNilSpec)

end Rows
end Go.Proofs.Ytpeaojkbfllakaa
