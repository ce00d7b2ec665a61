/-
  No cell of these rows narrows 'for every input' (looked for: loops, veiled, ifaces, maps, wideKeys, modest, calm, conditions, laid).
  DERIVED. THE GIVEN ROWS OF THIS SEAT. 6 by the template 'for every input the law returns true; each argument reads behind the call as it read before'; 0 by the template 'total and deterministic' (their statements: YtacnmlifmjflfaaTotals.lean).
  GIVEN WITH THE SEED: the statements are not yours to turn. If you find one false, say at which input.
  Laid BY PROGRAM, IN A SANDBOX (cutbox-rows.mjs): the forced cells as the released guide's own fill.sh prints them over the translation a4f95e575d7df3b7… (all of the seat's roots in one cut). By AI agents, Wed Nov 11 2026. No macro, syntax, notation, axiom, sorry.
-/
import Derived.Test.YtacnmlifmjflfaaChecked
import GoSem.Claim
import GoSem.ClaimJoined
import GoSem.ClaimMapViews
import Derived.JoinedTies
import Derived.KernelRfl
namespace Go.Proofs.Ytacnmlifmjflfaa
/- THE CELL 'sum', in the pinned program and in every row, IS THE sha256 OF THE DUMP (.gsa) THAT YtacnmlifmjflfaaProg.lean LOADS. Nothing in Lean hashes anything: it is a label: what it is worth is what the hold of that sum in a sandbox is worth. -/
noncomputable def Try.pinned : Pinned := { name := "ytacnmlifmjflfaa", sum := "a4f95e575d7df3b731d03260a59f5370ade9339e25f61c9b6a6990cc267d79e4", checked := Try.checked }
namespace Rows
def none {H : Type} : Left H := { results := [], args := [] }

/-- 'orpimentlaw22.NotifyOnce': WHATEVER THE INPUT: true; the input reads as it did. -/
def notifyOnceSpec : ChangeSpec := { name := "notifyOnce", fn := fun _ => fun
  | [d1, d2] => { results := [.lit (.bool true)], args := [d1, d2] }
  | _ => none }
def notifyOnceRow : OpenClaim := { program := "ytacnmlifmjflfaa", sum := "a4f95e575d7df3b731d03260a59f5370ade9339e25f61c9b6a6990cc267d79e4", func := "orpiment/orpimentlaw22.NotifyOnce", spec := "notifyOnce", unfollowed := true, recurses := true, apart := false }
def NotifyOnceSaid : Prop := notifyOnceRow.holds Try.pinned (OpenSpec.ofChange notifyOnceSpec)

/-- ITS FALSE NEIGHBOUR: 'it returns false'. Refute it at one input. -/
def notifyOnceWrong : ChangeSpec := { name := "notifyOnce", fn := fun _ => fun
  | [d1, d2] => { results := [.lit (.bool false)], args := [d1, d2] }
  | _ => none }
def NotifyOnceWrongFalsely : Prop := notifyOnceRow.holds Try.pinned (OpenSpec.ofChange notifyOnceWrong)

/-- 'orpimentlaw22.NotifyConditions': WHATEVER THE INPUT: true; the input reads as it did. -/
def notifyConditionsSpec : ChangeSpec := { name := "notifyConditions", fn := fun _ => fun
  | [d1, d2] => { results := [.lit (.bool true)], args := [d1, d2] }
  | _ => none }
def notifyConditionsRow : OpenClaim := { program := "ytacnmlifmjflfaa", sum := "a4f95e575d7df3b731d03260a59f5370ade9339e25f61c9b6a6990cc267d79e4", func := "orpiment/orpimentlaw22.NotifyConditions", spec := "notifyConditions", unfollowed := true, recurses := true, apart := false }
def NotifyConditionsSaid : Prop := notifyConditionsRow.holds Try.pinned (OpenSpec.ofChange notifyConditionsSpec)

/-- ITS FALSE NEIGHBOUR: 'it returns false'. Refute it at one input. -/
def notifyConditionsWrong : ChangeSpec := { name := "notifyConditions", fn := fun _ => fun
  | [d1, d2] => { results := [.lit (.bool false)], args := [d1, d2] }
  | _ => none }
def NotifyConditionsWrongFalsely : Prop := notifyConditionsRow.holds Try.pinned (OpenSpec.ofChange notifyConditionsWrong)

/-- 'orpimentlaw22.NotifyQuiet': WHATEVER THE INPUT: true; the input reads as it did. -/
def notifyQuietSpec : ChangeSpec := { name := "notifyQuiet", fn := fun _ => fun
  | [d1, d2] => { results := [.lit (.bool true)], args := [d1, d2] }
  | _ => none }
def notifyQuietRow : OpenClaim := { program := "ytacnmlifmjflfaa", sum := "a4f95e575d7df3b731d03260a59f5370ade9339e25f61c9b6a6990cc267d79e4", func := "orpiment/orpimentlaw22.NotifyQuiet", spec := "notifyQuiet", unfollowed := true, recurses := true, apart := false }
def NotifyQuietSaid : Prop := notifyQuietRow.holds Try.pinned (OpenSpec.ofChange notifyQuietSpec)

/-- ITS FALSE NEIGHBOUR: 'it returns false'. Refute it at one input. -/
def notifyQuietWrong : ChangeSpec := { name := "notifyQuiet", fn := fun _ => fun
  | [d1, d2] => { results := [.lit (.bool false)], args := [d1, d2] }
  | _ => none }
def NotifyQuietWrongFalsely : Prop := notifyQuietRow.holds Try.pinned (OpenSpec.ofChange notifyQuietWrong)

/-- 'orpimentlaw22.NotifyNil': WHATEVER THE INPUT: true; the input reads as it did. -/
def notifyNilSpec : ChangeSpec := { name := "notifyNil", fn := fun _ => fun
  | [d] => { results := [.lit (.bool true)], args := [d] }
  | _ => none }
def notifyNilRow : OpenClaim := { program := "ytacnmlifmjflfaa", sum := "a4f95e575d7df3b731d03260a59f5370ade9339e25f61c9b6a6990cc267d79e4", func := "orpiment/orpimentlaw22.NotifyNil", spec := "notifyNil", unfollowed := true, recurses := true, apart := false }
def NotifyNilSaid : Prop := notifyNilRow.holds Try.pinned (OpenSpec.ofChange notifyNilSpec)

/-- ITS FALSE NEIGHBOUR: 'it returns false'. Refute it at one input. -/
def notifyNilWrong : ChangeSpec := { name := "notifyNil", fn := fun _ => fun
  | [d] => { results := [.lit (.bool false)], args := [d] }
  | _ => none }
def NotifyNilWrongFalsely : Prop := notifyNilRow.holds Try.pinned (OpenSpec.ofChange notifyNilWrong)

/-- 'orpimentlaw22.NotifyPlays': WHATEVER THE INPUT: true; the input reads as it did. -/
def notifyPlaysSpec : ChangeSpec := { name := "notifyPlays", fn := fun _ => fun
  | [d] => { results := [.lit (.bool true)], args := [d] }
  | _ => none }
def notifyPlaysRow : OpenClaim := { program := "ytacnmlifmjflfaa", sum := "a4f95e575d7df3b731d03260a59f5370ade9339e25f61c9b6a6990cc267d79e4", func := "orpiment/orpimentlaw22.NotifyPlays", spec := "notifyPlays", unfollowed := true, recurses := true, apart := false }
def NotifyPlaysSaid : Prop := notifyPlaysRow.holds Try.pinned (OpenSpec.ofChange notifyPlaysSpec)

/-- ITS FALSE NEIGHBOUR: 'it returns false'. Refute it at one input. -/
def notifyPlaysWrong : ChangeSpec := { name := "notifyPlays", fn := fun _ => fun
  | [d] => { results := [.lit (.bool false)], args := [d] }
  | _ => none }
def NotifyPlaysWrongFalsely : Prop := notifyPlaysRow.holds Try.pinned (OpenSpec.ofChange notifyPlaysWrong)

/-- 'orpimentlaw22.NotifyWakes': WHATEVER THE INPUT: true; the input reads as it did. -/
def notifyWakesSpec : ChangeSpec := { name := "notifyWakes", fn := fun _ => fun
  | [d1, d2, d3] => { results := [.lit (.bool true)], args := [d1, d2, d3] }
  | _ => none }
def notifyWakesRow : OpenClaim := { program := "ytacnmlifmjflfaa", sum := "a4f95e575d7df3b731d03260a59f5370ade9339e25f61c9b6a6990cc267d79e4", func := "orpiment/orpimentlaw22.NotifyWakes", spec := "notifyWakes", unfollowed := true, recurses := true, apart := false }
def NotifyWakesSaid : Prop := notifyWakesRow.holds Try.pinned (OpenSpec.ofChange notifyWakesSpec)

/-- ITS FALSE NEIGHBOUR: 'it returns false'. Refute it at one input. -/
def notifyWakesWrong : ChangeSpec := { name := "notifyWakes", fn := fun _ => fun
  | [d1, d2, d3] => { results := [.lit (.bool false)], args := [d1, d2, d3] }
  | _ => none }
def NotifyWakesWrongFalsely : Prop := notifyWakesRow.holds Try.pinned (OpenSpec.ofChange notifyWakesWrong)

/- THE SECOND FORM. 'bulk': how many values and letters a reading holds, each counted each time it is reached (what is shared counts as often as it is met; a slice's spare places count too). A statement '..UptoSaid' is the law's where the arguments, and the package variables that the reading takes, are together of bulk at most 1048576: NARROWER than '..Said'. Prove '..Said' where nothing that the law and all that it calls make is longer than what came in: it says more and counts as full. Else prove '..UptoSaid'. A law counts once. -/
mutual
def uptoBulk {H : Type} : DataW H → Nat
  | .lit (.string bytes) => bytes.length + 1
  | .lit _ => 1
  | .nil => 1
  | .ptr d => uptoBulk d + 1
  | .slice elems spare => uptoBulkAll elems + uptoBulkAll spare + 1
  | .agg parts => uptoBulkAll parts + 1
  | .iface _ d => uptoBulk d + 1
  | .map entries => uptoBulkEntries entries + 1
  | .held _ => 1
def uptoBulkAll {H : Type} : List (DataW H) → Nat
  | [] => 0
  | d :: r => uptoBulk d + uptoBulkAll r
def uptoBulkEntries {H : Type} : List (Lit × DataW H) → Nat
  | [] => 0
  | x :: r => uptoBulkEntry x + uptoBulkEntries r
def uptoBulkEntry {H : Type} : Lit × DataW H → Nat
  | (.string bytes, d) => bytes.length + uptoBulk d + 1
  | (_, d) => uptoBulk d + 1
 end
def uptoSmall : (H : Type) → List (DataW H) → Bool := fun _ ds => decide (uptoBulkAll ds ≤ 1048576)
def OpenSpec.upto (s : _root_.Go.ChangeSpec) : _root_.Go.OpenSpec := { _root_.Go.OpenSpec.ofChange s with cond := some uptoSmall }

/-- 'orpimentlaw22.NotifyOnce', WHERE WHAT IT READS IS OF BULK AT MOST 1048576: true; the input reads as it did. -/
def notifyOnceUptoRow : OpenClaim := { program := "ytacnmlifmjflfaa", sum := "a4f95e575d7df3b731d03260a59f5370ade9339e25f61c9b6a6990cc267d79e4", func := "orpiment/orpimentlaw22.NotifyOnce", spec := "notifyOnce", unfollowed := true, recurses := true, apart := false, narrowed := true }
def NotifyOnceUptoSaid : Prop := notifyOnceUptoRow.holds Try.pinned (OpenSpec.upto notifyOnceSpec)

/-- 'orpimentlaw22.NotifyConditions', WHERE WHAT IT READS IS OF BULK AT MOST 1048576: true; the input reads as it did. -/
def notifyConditionsUptoRow : OpenClaim := { program := "ytacnmlifmjflfaa", sum := "a4f95e575d7df3b731d03260a59f5370ade9339e25f61c9b6a6990cc267d79e4", func := "orpiment/orpimentlaw22.NotifyConditions", spec := "notifyConditions", unfollowed := true, recurses := true, apart := false, narrowed := true }
def NotifyConditionsUptoSaid : Prop := notifyConditionsUptoRow.holds Try.pinned (OpenSpec.upto notifyConditionsSpec)

/-- 'orpimentlaw22.NotifyQuiet', WHERE WHAT IT READS IS OF BULK AT MOST 1048576: true; the input reads as it did. -/
def notifyQuietUptoRow : OpenClaim := { program := "ytacnmlifmjflfaa", sum := "a4f95e575d7df3b731d03260a59f5370ade9339e25f61c9b6a6990cc267d79e4", func := "orpiment/orpimentlaw22.NotifyQuiet", spec := "notifyQuiet", unfollowed := true, recurses := true, apart := false, narrowed := true }
def NotifyQuietUptoSaid : Prop := notifyQuietUptoRow.holds Try.pinned (OpenSpec.upto notifyQuietSpec)

/-- 'orpimentlaw22.NotifyNil', WHERE WHAT IT READS IS OF BULK AT MOST 1048576: true; the input reads as it did. -/
def notifyNilUptoRow : OpenClaim := { program := "ytacnmlifmjflfaa", sum := "a4f95e575d7df3b731d03260a59f5370ade9339e25f61c9b6a6990cc267d79e4", func := "orpiment/orpimentlaw22.NotifyNil", spec := "notifyNil", unfollowed := true, recurses := true, apart := false, narrowed := true }
def NotifyNilUptoSaid : Prop := notifyNilUptoRow.holds Try.pinned (OpenSpec.upto notifyNilSpec)

/-- 'orpimentlaw22.NotifyPlays', WHERE WHAT IT READS IS OF BULK AT MOST 1048576: true; the input reads as it did. -/
def notifyPlaysUptoRow : OpenClaim := { program := "ytacnmlifmjflfaa", sum := "a4f95e575d7df3b731d03260a59f5370ade9339e25f61c9b6a6990cc267d79e4", func := "orpiment/orpimentlaw22.NotifyPlays", spec := "notifyPlays", unfollowed := true, recurses := true, apart := false, narrowed := true }
def NotifyPlaysUptoSaid : Prop := notifyPlaysUptoRow.holds Try.pinned (OpenSpec.upto notifyPlaysSpec)

/-- 'orpimentlaw22.NotifyWakes', WHERE WHAT IT READS IS OF BULK AT MOST 1048576: true; the input reads as it did. -/
def notifyWakesUptoRow : OpenClaim := { program := "ytacnmlifmjflfaa", sum := "a4f95e575d7df3b731d03260a59f5370ade9339e25f61c9b6a6990cc267d79e4", func := "orpiment/orpimentlaw22.NotifyWakes", spec := "notifyWakes", unfollowed := true, recurses := true, apart := false, narrowed := true }
def NotifyWakesUptoSaid : Prop := notifyWakesUptoRow.holds Try.pinned (OpenSpec.upto notifyWakesSpec)

end Rows
end Go.Proofs.Ytacnmlifmjflfaa
