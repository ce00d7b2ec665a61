/-
  No cell of these rows narrows 'for every input' (looked for: loops, veiled, ifaces, maps, wideKeys, modest, calm, conditions, laid).
  DERIVED. THE GIVEN ROWS OF THIS SEAT. 5 by the template 'for every input the law returns true; each argument reads behind the call as it read before'; 0 by the template 'total and deterministic' (their statements: YtdjkgbkckmjfiaaTotals.lean).
  GIVEN WITH THE SEED: the statements are not yours to turn. If you find one false, say at which input.
  Laid BY PROGRAM, IN A SANDBOX (cutbox-rows.mjs): the forced cells as the released guide's own fill.sh prints them over the translation 54ea7e0cb1f707dc… (all of the seat's roots in one cut). By AI agents, Wed Nov 11 2026. No macro, syntax, notation, axiom, sorry.
-/
import Derived.Test.YtdjkgbkckmjfiaaChecked
import GoSem.Claim
import GoSem.ClaimJoined
import GoSem.ClaimMapViews
import Derived.JoinedTies
import Derived.KernelRfl
namespace Go.Proofs.Ytdjkgbkckmjfiaa
/- THE CELL 'sum', in the pinned program and in every row, IS THE sha256 OF THE DUMP (.gsa) THAT YtdjkgbkckmjfiaaProg.lean LOADS. Nothing in Lean hashes anything: it is a label: what it is worth is what the hold of that sum in a sandbox is worth. -/
noncomputable def Try.pinned : Pinned := { name := "ytdjkgbkckmjfiaa", sum := "54ea7e0cb1f707dcede52245275dd1d3d5efc0451a3c62defd1d484ad7521841", checked := Try.checked }
namespace Rows
def none {H : Type} : Left H := { results := [], args := [] }

/-- 'orpimentlaw03.SporadicBounds': WHATEVER THE INPUT: true; the input reads as it did. -/
def sporadicBoundsSpec : ChangeSpec := { name := "sporadicBounds", fn := fun _ => fun
  | [d1, d2] => { results := [.lit (.bool true)], args := [d1, d2] }
  | _ => none }
def sporadicBoundsRow : OpenClaim := { program := "ytdjkgbkckmjfiaa", sum := "54ea7e0cb1f707dcede52245275dd1d3d5efc0451a3c62defd1d484ad7521841", func := "orpiment/orpimentlaw03.SporadicBounds", spec := "sporadicBounds", unfollowed := true, recurses := true, apart := false }
def SporadicBoundsSaid : Prop := sporadicBoundsRow.holds Try.pinned (OpenSpec.ofChange sporadicBoundsSpec)

/-- ITS FALSE NEIGHBOUR: 'it returns false'. Refute it at one input. -/
def sporadicBoundsWrong : ChangeSpec := { name := "sporadicBounds", fn := fun _ => fun
  | [d1, d2] => { results := [.lit (.bool false)], args := [d1, d2] }
  | _ => none }
def SporadicBoundsWrongFalsely : Prop := sporadicBoundsRow.holds Try.pinned (OpenSpec.ofChange sporadicBoundsWrong)

/-- 'orpimentlaw03.SporadicSums': WHATEVER THE INPUT: true; the input reads as it did. -/
def sporadicSumsSpec : ChangeSpec := { name := "sporadicSums", fn := fun _ => fun
  | [d1, d2] => { results := [.lit (.bool true)], args := [d1, d2] }
  | _ => none }
def sporadicSumsRow : OpenClaim := { program := "ytdjkgbkckmjfiaa", sum := "54ea7e0cb1f707dcede52245275dd1d3d5efc0451a3c62defd1d484ad7521841", func := "orpiment/orpimentlaw03.SporadicSums", spec := "sporadicSums", unfollowed := true, recurses := true, apart := false }
def SporadicSumsSaid : Prop := sporadicSumsRow.holds Try.pinned (OpenSpec.ofChange sporadicSumsSpec)

/-- ITS FALSE NEIGHBOUR: 'it returns false'. Refute it at one input. -/
def sporadicSumsWrong : ChangeSpec := { name := "sporadicSums", fn := fun _ => fun
  | [d1, d2] => { results := [.lit (.bool false)], args := [d1, d2] }
  | _ => none }
def SporadicSumsWrongFalsely : Prop := sporadicSumsRow.holds Try.pinned (OpenSpec.ofChange sporadicSumsWrong)

/-- 'orpimentlaw03.SporadicAsks': WHATEVER THE INPUT: true; the input reads as it did. -/
def sporadicAsksSpec : ChangeSpec := { name := "sporadicAsks", fn := fun _ => fun
  | [d1, d2, d3] => { results := [.lit (.bool true)], args := [d1, d2, d3] }
  | _ => none }
def sporadicAsksRow : OpenClaim := { program := "ytdjkgbkckmjfiaa", sum := "54ea7e0cb1f707dcede52245275dd1d3d5efc0451a3c62defd1d484ad7521841", func := "orpiment/orpimentlaw03.SporadicAsks", spec := "sporadicAsks", unfollowed := true, recurses := true, apart := false }
def SporadicAsksSaid : Prop := sporadicAsksRow.holds Try.pinned (OpenSpec.ofChange sporadicAsksSpec)

/-- ITS FALSE NEIGHBOUR: 'it returns false'. Refute it at one input. -/
def sporadicAsksWrong : ChangeSpec := { name := "sporadicAsks", fn := fun _ => fun
  | [d1, d2, d3] => { results := [.lit (.bool false)], args := [d1, d2, d3] }
  | _ => none }
def SporadicAsksWrongFalsely : Prop := sporadicAsksRow.holds Try.pinned (OpenSpec.ofChange sporadicAsksWrong)

/-- 'orpimentlaw03.SporadicPlays': WHATEVER THE INPUT: true; the input reads as it did. -/
def sporadicPlaysSpec : ChangeSpec := { name := "sporadicPlays", fn := fun _ => fun
  | [d1, d2] => { results := [.lit (.bool true)], args := [d1, d2] }
  | _ => none }
def sporadicPlaysRow : OpenClaim := { program := "ytdjkgbkckmjfiaa", sum := "54ea7e0cb1f707dcede52245275dd1d3d5efc0451a3c62defd1d484ad7521841", func := "orpiment/orpimentlaw03.SporadicPlays", spec := "sporadicPlays", unfollowed := true, recurses := true, apart := false }
def SporadicPlaysSaid : Prop := sporadicPlaysRow.holds Try.pinned (OpenSpec.ofChange sporadicPlaysSpec)

/-- ITS FALSE NEIGHBOUR: 'it returns false'. Refute it at one input. -/
def sporadicPlaysWrong : ChangeSpec := { name := "sporadicPlays", fn := fun _ => fun
  | [d1, d2] => { results := [.lit (.bool false)], args := [d1, d2] }
  | _ => none }
def SporadicPlaysWrongFalsely : Prop := sporadicPlaysRow.holds Try.pinned (OpenSpec.ofChange sporadicPlaysWrong)

/-- 'orpimentlaw03.SporadicNil': WHATEVER THE INPUT: true; the input reads as it did. -/
def sporadicNilSpec : ChangeSpec := { name := "sporadicNil", fn := fun _ => fun
  | [d1, d2] => { results := [.lit (.bool true)], args := [d1, d2] }
  | _ => none }
def sporadicNilRow : OpenClaim := { program := "ytdjkgbkckmjfiaa", sum := "54ea7e0cb1f707dcede52245275dd1d3d5efc0451a3c62defd1d484ad7521841", func := "orpiment/orpimentlaw03.SporadicNil", spec := "sporadicNil", unfollowed := true, recurses := true, apart := false }
def SporadicNilSaid : Prop := sporadicNilRow.holds Try.pinned (OpenSpec.ofChange sporadicNilSpec)

/-- ITS FALSE NEIGHBOUR: 'it returns false'. Refute it at one input. -/
def sporadicNilWrong : ChangeSpec := { name := "sporadicNil", fn := fun _ => fun
  | [d1, d2] => { results := [.lit (.bool false)], args := [d1, d2] }
  | _ => none }
def SporadicNilWrongFalsely : Prop := sporadicNilRow.holds Try.pinned (OpenSpec.ofChange sporadicNilWrong)

/- THE SECOND FORM. 'bulk': how many values and letters a reading holds, each counted each time it is reached (what is shared counts as often as it is met; a slice's spare places count too). A statement '..UptoSaid' is the law's where the arguments, and the package variables that the reading takes, are together of bulk at most 1048576: NARROWER than '..Said'. Prove '..Said' where nothing that the law and all that it calls make is longer than what came in: it says more and counts as full. Else prove '..UptoSaid'. A law counts once. -/
mutual
def uptoBulk {H : Type} : DataW H → Nat
  | .lit (.string bytes) => bytes.length + 1
  | .lit _ => 1
  | .nil => 1
  | .ptr d => uptoBulk d + 1
  | .slice elems spare => uptoBulkAll elems + uptoBulkAll spare + 1
  | .agg parts => uptoBulkAll parts + 1
  | .iface _ d => uptoBulk d + 1
  | .map entries => uptoBulkEntries entries + 1
  | .held _ => 1
def uptoBulkAll {H : Type} : List (DataW H) → Nat
  | [] => 0
  | d :: r => uptoBulk d + uptoBulkAll r
def uptoBulkEntries {H : Type} : List (Lit × DataW H) → Nat
  | [] => 0
  | x :: r => uptoBulkEntry x + uptoBulkEntries r
def uptoBulkEntry {H : Type} : Lit × DataW H → Nat
  | (.string bytes, d) => bytes.length + uptoBulk d + 1
  | (_, d) => uptoBulk d + 1
 end
def uptoSmall : (H : Type) → List (DataW H) → Bool := fun _ ds => decide (uptoBulkAll ds ≤ 1048576)
def OpenSpec.upto (s : _root_.Go.ChangeSpec) : _root_.Go.OpenSpec := { _root_.Go.OpenSpec.ofChange s with cond := some uptoSmall }

/-- 'orpimentlaw03.SporadicBounds', WHERE WHAT IT READS IS OF BULK AT MOST 1048576: true; the input reads as it did. -/
def sporadicBoundsUptoRow : OpenClaim := { program := "ytdjkgbkckmjfiaa", sum := "54ea7e0cb1f707dcede52245275dd1d3d5efc0451a3c62defd1d484ad7521841", func := "orpiment/orpimentlaw03.SporadicBounds", spec := "sporadicBounds", unfollowed := true, recurses := true, apart := false, narrowed := true }
def SporadicBoundsUptoSaid : Prop := sporadicBoundsUptoRow.holds Try.pinned (OpenSpec.upto sporadicBoundsSpec)

/-- 'orpimentlaw03.SporadicSums', WHERE WHAT IT READS IS OF BULK AT MOST 1048576: true; the input reads as it did. -/
def sporadicSumsUptoRow : OpenClaim := { program := "ytdjkgbkckmjfiaa", sum := "54ea7e0cb1f707dcede52245275dd1d3d5efc0451a3c62defd1d484ad7521841", func := "orpiment/orpimentlaw03.SporadicSums", spec := "sporadicSums", unfollowed := true, recurses := true, apart := false, narrowed := true }
def SporadicSumsUptoSaid : Prop := sporadicSumsUptoRow.holds Try.pinned (OpenSpec.upto sporadicSumsSpec)

/-- 'orpimentlaw03.SporadicAsks', WHERE WHAT IT READS IS OF BULK AT MOST 1048576: true; the input reads as it did. -/
def sporadicAsksUptoRow : OpenClaim := { program := "ytdjkgbkckmjfiaa", sum := "54ea7e0cb1f707dcede52245275dd1d3d5efc0451a3c62defd1d484ad7521841", func := "orpiment/orpimentlaw03.SporadicAsks", spec := "sporadicAsks", unfollowed := true, recurses := true, apart := false, narrowed := true }
def SporadicAsksUptoSaid : Prop := sporadicAsksUptoRow.holds Try.pinned (OpenSpec.upto sporadicAsksSpec)

/-- 'orpimentlaw03.SporadicPlays', WHERE WHAT IT READS IS OF BULK AT MOST 1048576: true; the input reads as it did. -/
def sporadicPlaysUptoRow : OpenClaim := { program := "ytdjkgbkckmjfiaa", sum := "54ea7e0cb1f707dcede52245275dd1d3d5efc0451a3c62defd1d484ad7521841", func := "orpiment/orpimentlaw03.SporadicPlays", spec := "sporadicPlays", unfollowed := true, recurses := true, apart := false, narrowed := true }
def SporadicPlaysUptoSaid : Prop := sporadicPlaysUptoRow.holds Try.pinned (OpenSpec.upto sporadicPlaysSpec)

/-- 'orpimentlaw03.SporadicNil', WHERE WHAT IT READS IS OF BULK AT MOST 1048576: true; the input reads as it did. -/
def sporadicNilUptoRow : OpenClaim := { program := "ytdjkgbkckmjfiaa", sum := "54ea7e0cb1f707dcede52245275dd1d3d5efc0451a3c62defd1d484ad7521841", func := "orpiment/orpimentlaw03.SporadicNil", spec := "sporadicNil", unfollowed := true, recurses := true, apart := false, narrowed := true }
def SporadicNilUptoSaid : Prop := sporadicNilUptoRow.holds Try.pinned (OpenSpec.upto sporadicNilSpec)

end Rows
end Go.Proofs.Ytdjkgbkckmjfiaa
