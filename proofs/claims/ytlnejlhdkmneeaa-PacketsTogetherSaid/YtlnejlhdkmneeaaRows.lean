/-
  No cell of these rows narrows 'for every input' (looked for: loops, veiled, ifaces, maps, wideKeys, modest, calm, conditions, laid).
  DERIVED. THE GIVEN ROWS OF THIS SEAT. 11 by the template 'for every input the law returns true; each argument reads behind the call as it read before'; 0 by the template 'total and deterministic' (their statements: YtlnejlhdkmneeaaTotals.lean).
  GIVEN WITH THE SEED: the statements are not yours to turn. If you find one false, say at which input.
  Laid BY PROGRAM, IN A SANDBOX (cutbox-rows.mjs): the forced cells as the released guide's own fill.sh prints them over the translation 8d609f3f46251671… (all of the seat's roots in one cut). By AI agents, Wed Nov 11 2026. No macro, syntax, notation, axiom, sorry.
-/
import Derived.Test.YtlnejlhdkmneeaaChecked
import GoSem.Claim
import GoSem.ClaimJoined
import GoSem.ClaimMapViews
import Derived.JoinedTies
import Derived.KernelRfl
namespace Go.Proofs.Ytlnejlhdkmneeaa
/- THE CELL 'sum', in the pinned program and in every row, IS THE sha256 OF THE DUMP (.gsa) THAT YtlnejlhdkmneeaaProg.lean LOADS. Nothing in Lean hashes anything: it is a label: what it is worth is what the hold of that sum in a sandbox is worth. -/
noncomputable def Try.pinned : Pinned := { name := "ytlnejlhdkmneeaa", sum := "8d609f3f46251671ebacf0b5bbb75355051a2286b3730789750badc715cd4607", checked := Try.checked }
namespace Rows
def none {H : Type} : Left H := { results := [], args := [] }

/-- 'orpimentlaw37.PacketsChecksum': WHATEVER THE INPUT: true; the input reads as it did. -/
def packetsChecksumSpec : ChangeSpec := { name := "packetsChecksum", fn := fun _ => fun
  | [d] => { results := [.lit (.bool true)], args := [d] }
  | _ => none }
def packetsChecksumRow : OpenClaim := { program := "ytlnejlhdkmneeaa", sum := "8d609f3f46251671ebacf0b5bbb75355051a2286b3730789750badc715cd4607", func := "orpiment/orpimentlaw37.PacketsChecksum", spec := "packetsChecksum", unfollowed := true, recurses := true, plainKeys := false, apart := false }
def PacketsChecksumSaid : Prop := packetsChecksumRow.holds Try.pinned (OpenSpec.ofChange packetsChecksumSpec)

/-- ITS FALSE NEIGHBOUR: 'it returns false'. Refute it at one input. -/
def packetsChecksumWrong : ChangeSpec := { name := "packetsChecksum", fn := fun _ => fun
  | [d] => { results := [.lit (.bool false)], args := [d] }
  | _ => none }
def PacketsChecksumWrongFalsely : Prop := packetsChecksumRow.holds Try.pinned (OpenSpec.ofChange packetsChecksumWrong)

/-- 'orpimentlaw37.PacketsChanged': WHATEVER THE INPUT: true; the input reads as it did. -/
def packetsChangedSpec : ChangeSpec := { name := "packetsChanged", fn := fun _ => fun
  | [d1, d2, d3] => { results := [.lit (.bool true)], args := [d1, d2, d3] }
  | _ => none }
def packetsChangedRow : OpenClaim := { program := "ytlnejlhdkmneeaa", sum := "8d609f3f46251671ebacf0b5bbb75355051a2286b3730789750badc715cd4607", func := "orpiment/orpimentlaw37.PacketsChanged", spec := "packetsChanged", unfollowed := true, recurses := true, plainKeys := false, apart := false }
def PacketsChangedSaid : Prop := packetsChangedRow.holds Try.pinned (OpenSpec.ofChange packetsChangedSpec)

/-- ITS FALSE NEIGHBOUR: 'it returns false'. Refute it at one input. -/
def packetsChangedWrong : ChangeSpec := { name := "packetsChanged", fn := fun _ => fun
  | [d1, d2, d3] => { results := [.lit (.bool false)], args := [d1, d2, d3] }
  | _ => none }
def PacketsChangedWrongFalsely : Prop := packetsChangedRow.holds Try.pinned (OpenSpec.ofChange packetsChangedWrong)

/-- 'orpimentlaw37.PacketsFragment': WHATEVER THE INPUT: true; the input reads as it did. -/
def packetsFragmentSpec : ChangeSpec := { name := "packetsFragment", fn := fun _ => fun
  | [d1, d2] => { results := [.lit (.bool true)], args := [d1, d2] }
  | _ => none }
def packetsFragmentRow : OpenClaim := { program := "ytlnejlhdkmneeaa", sum := "8d609f3f46251671ebacf0b5bbb75355051a2286b3730789750badc715cd4607", func := "orpiment/orpimentlaw37.PacketsFragment", spec := "packetsFragment", unfollowed := true, recurses := true, plainKeys := false, apart := false }
def PacketsFragmentSaid : Prop := packetsFragmentRow.holds Try.pinned (OpenSpec.ofChange packetsFragmentSpec)

/-- ITS FALSE NEIGHBOUR: 'it returns false'. Refute it at one input. -/
def packetsFragmentWrong : ChangeSpec := { name := "packetsFragment", fn := fun _ => fun
  | [d1, d2] => { results := [.lit (.bool false)], args := [d1, d2] }
  | _ => none }
def PacketsFragmentWrongFalsely : Prop := packetsFragmentRow.holds Try.pinned (OpenSpec.ofChange packetsFragmentWrong)

/-- 'orpimentlaw37.PacketsEncode': WHATEVER THE INPUT: true; the input reads as it did. -/
def packetsEncodeSpec : ChangeSpec := { name := "packetsEncode", fn := fun _ => fun
  | [d] => { results := [.lit (.bool true)], args := [d] }
  | _ => none }
def packetsEncodeRow : OpenClaim := { program := "ytlnejlhdkmneeaa", sum := "8d609f3f46251671ebacf0b5bbb75355051a2286b3730789750badc715cd4607", func := "orpiment/orpimentlaw37.PacketsEncode", spec := "packetsEncode", unfollowed := true, recurses := true, plainKeys := false, apart := false }
def PacketsEncodeSaid : Prop := packetsEncodeRow.holds Try.pinned (OpenSpec.ofChange packetsEncodeSpec)

/-- ITS FALSE NEIGHBOUR: 'it returns false'. Refute it at one input. -/
def packetsEncodeWrong : ChangeSpec := { name := "packetsEncode", fn := fun _ => fun
  | [d] => { results := [.lit (.bool false)], args := [d] }
  | _ => none }
def PacketsEncodeWrongFalsely : Prop := packetsEncodeRow.holds Try.pinned (OpenSpec.ofChange packetsEncodeWrong)

/-- 'orpimentlaw37.PacketsDecode': WHATEVER THE INPUT: true; the input reads as it did. -/
def packetsDecodeSpec : ChangeSpec := { name := "packetsDecode", fn := fun _ => fun
  | [d] => { results := [.lit (.bool true)], args := [d] }
  | _ => none }
def packetsDecodeRow : OpenClaim := { program := "ytlnejlhdkmneeaa", sum := "8d609f3f46251671ebacf0b5bbb75355051a2286b3730789750badc715cd4607", func := "orpiment/orpimentlaw37.PacketsDecode", spec := "packetsDecode", unfollowed := true, recurses := true, plainKeys := false, apart := false }
def PacketsDecodeSaid : Prop := packetsDecodeRow.holds Try.pinned (OpenSpec.ofChange packetsDecodeSpec)

/-- ITS FALSE NEIGHBOUR: 'it returns false'. Refute it at one input. -/
def packetsDecodeWrong : ChangeSpec := { name := "packetsDecode", fn := fun _ => fun
  | [d] => { results := [.lit (.bool false)], args := [d] }
  | _ => none }
def PacketsDecodeWrongFalsely : Prop := packetsDecodeRow.holds Try.pinned (OpenSpec.ofChange packetsDecodeWrong)

/-- 'orpimentlaw37.PacketsOrder': WHATEVER THE INPUT: true; the input reads as it did. -/
def packetsOrderSpec : ChangeSpec := { name := "packetsOrder", fn := fun _ => fun
  | [d1, d2] => { results := [.lit (.bool true)], args := [d1, d2] }
  | _ => none }
def packetsOrderRow : OpenClaim := { program := "ytlnejlhdkmneeaa", sum := "8d609f3f46251671ebacf0b5bbb75355051a2286b3730789750badc715cd4607", func := "orpiment/orpimentlaw37.PacketsOrder", spec := "packetsOrder", unfollowed := true, recurses := true, plainKeys := false, apart := false }
def PacketsOrderSaid : Prop := packetsOrderRow.holds Try.pinned (OpenSpec.ofChange packetsOrderSpec)

/-- ITS FALSE NEIGHBOUR: 'it returns false'. Refute it at one input. -/
def packetsOrderWrong : ChangeSpec := { name := "packetsOrder", fn := fun _ => fun
  | [d1, d2] => { results := [.lit (.bool false)], args := [d1, d2] }
  | _ => none }
def PacketsOrderWrongFalsely : Prop := packetsOrderRow.holds Try.pinned (OpenSpec.ofChange packetsOrderWrong)

/-- 'orpimentlaw37.PacketsAdds': WHATEVER THE INPUT: true; the input reads as it did. -/
def packetsAddsSpec : ChangeSpec := { name := "packetsAdds", fn := fun _ => fun
  | [d] => { results := [.lit (.bool true)], args := [d] }
  | _ => none }
def packetsAddsRow : OpenClaim := { program := "ytlnejlhdkmneeaa", sum := "8d609f3f46251671ebacf0b5bbb75355051a2286b3730789750badc715cd4607", func := "orpiment/orpimentlaw37.PacketsAdds", spec := "packetsAdds", unfollowed := true, recurses := true, plainKeys := false, apart := false }
def PacketsAddsSaid : Prop := packetsAddsRow.holds Try.pinned (OpenSpec.ofChange packetsAddsSpec)

/-- ITS FALSE NEIGHBOUR: 'it returns false'. Refute it at one input. -/
def packetsAddsWrong : ChangeSpec := { name := "packetsAdds", fn := fun _ => fun
  | [d] => { results := [.lit (.bool false)], args := [d] }
  | _ => none }
def PacketsAddsWrongFalsely : Prop := packetsAddsRow.holds Try.pinned (OpenSpec.ofChange packetsAddsWrong)

/-- 'orpimentlaw37.PacketsTogether': WHATEVER THE INPUT: true; the input reads as it did. -/
def packetsTogetherSpec : ChangeSpec := { name := "packetsTogether", fn := fun _ => fun
  | [d1, d2, d3] => { results := [.lit (.bool true)], args := [d1, d2, d3] }
  | _ => none }
def packetsTogetherRow : OpenClaim := { program := "ytlnejlhdkmneeaa", sum := "8d609f3f46251671ebacf0b5bbb75355051a2286b3730789750badc715cd4607", func := "orpiment/orpimentlaw37.PacketsTogether", spec := "packetsTogether", unfollowed := true, recurses := true, plainKeys := false, apart := false }
def PacketsTogetherSaid : Prop := packetsTogetherRow.holds Try.pinned (OpenSpec.ofChange packetsTogetherSpec)

/-- ITS FALSE NEIGHBOUR: 'it returns false'. Refute it at one input. -/
def packetsTogetherWrong : ChangeSpec := { name := "packetsTogether", fn := fun _ => fun
  | [d1, d2, d3] => { results := [.lit (.bool false)], args := [d1, d2, d3] }
  | _ => none }
def PacketsTogetherWrongFalsely : Prop := packetsTogetherRow.holds Try.pinned (OpenSpec.ofChange packetsTogetherWrong)

/-- 'orpimentlaw37.PacketsMany': WHATEVER THE INPUT: true; the input reads as it did. -/
def packetsManySpec : ChangeSpec := { name := "packetsMany", fn := fun _ => fun
  | [d1, d2] => { results := [.lit (.bool true)], args := [d1, d2] }
  | _ => none }
def packetsManyRow : OpenClaim := { program := "ytlnejlhdkmneeaa", sum := "8d609f3f46251671ebacf0b5bbb75355051a2286b3730789750badc715cd4607", func := "orpiment/orpimentlaw37.PacketsMany", spec := "packetsMany", unfollowed := true, recurses := true, plainKeys := false, apart := false }
def PacketsManySaid : Prop := packetsManyRow.holds Try.pinned (OpenSpec.ofChange packetsManySpec)

/-- ITS FALSE NEIGHBOUR: 'it returns false'. Refute it at one input. -/
def packetsManyWrong : ChangeSpec := { name := "packetsMany", fn := fun _ => fun
  | [d1, d2] => { results := [.lit (.bool false)], args := [d1, d2] }
  | _ => none }
def PacketsManyWrongFalsely : Prop := packetsManyRow.holds Try.pinned (OpenSpec.ofChange packetsManyWrong)

/-- 'orpimentlaw37.PacketsRoutes': WHATEVER THE INPUT: true; the input reads as it did. -/
def packetsRoutesSpec : ChangeSpec := { name := "packetsRoutes", fn := fun _ => fun
  | [d] => { results := [.lit (.bool true)], args := [d] }
  | _ => none }
def packetsRoutesRow : OpenClaim := { program := "ytlnejlhdkmneeaa", sum := "8d609f3f46251671ebacf0b5bbb75355051a2286b3730789750badc715cd4607", func := "orpiment/orpimentlaw37.PacketsRoutes", spec := "packetsRoutes", unfollowed := true, recurses := true, plainKeys := false, apart := false }
def PacketsRoutesSaid : Prop := packetsRoutesRow.holds Try.pinned (OpenSpec.ofChange packetsRoutesSpec)

/-- ITS FALSE NEIGHBOUR: 'it returns false'. Refute it at one input. -/
def packetsRoutesWrong : ChangeSpec := { name := "packetsRoutes", fn := fun _ => fun
  | [d] => { results := [.lit (.bool false)], args := [d] }
  | _ => none }
def PacketsRoutesWrongFalsely : Prop := packetsRoutesRow.holds Try.pinned (OpenSpec.ofChange packetsRoutesWrong)

/-- 'orpimentlaw37.PacketsResolves': WHATEVER THE INPUT: true; the input reads as it did. -/
def packetsResolvesSpec : ChangeSpec := { name := "packetsResolves", fn := fun _ => fun
  | [d1, d2] => { results := [.lit (.bool true)], args := [d1, d2] }
  | _ => none }
def packetsResolvesRow : OpenClaim := { program := "ytlnejlhdkmneeaa", sum := "8d609f3f46251671ebacf0b5bbb75355051a2286b3730789750badc715cd4607", func := "orpiment/orpimentlaw37.PacketsResolves", spec := "packetsResolves", unfollowed := true, recurses := true, plainKeys := false, apart := false }
def PacketsResolvesSaid : Prop := packetsResolvesRow.holds Try.pinned (OpenSpec.ofChange packetsResolvesSpec)

/-- ITS FALSE NEIGHBOUR: 'it returns false'. Refute it at one input. -/
def packetsResolvesWrong : ChangeSpec := { name := "packetsResolves", fn := fun _ => fun
  | [d1, d2] => { results := [.lit (.bool false)], args := [d1, d2] }
  | _ => none }
def PacketsResolvesWrongFalsely : Prop := packetsResolvesRow.holds Try.pinned (OpenSpec.ofChange packetsResolvesWrong)

/- THE SECOND FORM. 'bulk': how many values and letters a reading holds, each counted each time it is reached (what is shared counts as often as it is met; a slice's spare places count too). A statement '..UptoSaid' is the law's where the arguments, and the package variables that the reading takes, are together of bulk at most 1048576: NARROWER than '..Said'. Prove '..Said' where nothing that the law and all that it calls make is longer than what came in: it says more and counts as full. Else prove '..UptoSaid'. A law counts once. -/
mutual
def uptoBulk {H : Type} : DataW H → Nat
  | .lit (.string bytes) => bytes.length + 1
  | .lit _ => 1
  | .nil => 1
  | .ptr d => uptoBulk d + 1
  | .slice elems spare => uptoBulkAll elems + uptoBulkAll spare + 1
  | .agg parts => uptoBulkAll parts + 1
  | .iface _ d => uptoBulk d + 1
  | .map entries => uptoBulkEntries entries + 1
  | .held _ => 1
def uptoBulkAll {H : Type} : List (DataW H) → Nat
  | [] => 0
  | d :: r => uptoBulk d + uptoBulkAll r
def uptoBulkEntries {H : Type} : List (Lit × DataW H) → Nat
  | [] => 0
  | x :: r => uptoBulkEntry x + uptoBulkEntries r
def uptoBulkEntry {H : Type} : Lit × DataW H → Nat
  | (.string bytes, d) => bytes.length + uptoBulk d + 1
  | (_, d) => uptoBulk d + 1
 end
def uptoSmall : (H : Type) → List (DataW H) → Bool := fun _ ds => decide (uptoBulkAll ds ≤ 1048576)
def OpenSpec.upto (s : _root_.Go.ChangeSpec) : _root_.Go.OpenSpec := { _root_.Go.OpenSpec.ofChange s with cond := some uptoSmall }

/-- 'orpimentlaw37.PacketsChecksum', WHERE WHAT IT READS IS OF BULK AT MOST 1048576: true; the input reads as it did. -/
def packetsChecksumUptoRow : OpenClaim := { program := "ytlnejlhdkmneeaa", sum := "8d609f3f46251671ebacf0b5bbb75355051a2286b3730789750badc715cd4607", func := "orpiment/orpimentlaw37.PacketsChecksum", spec := "packetsChecksum", unfollowed := true, recurses := true, plainKeys := false, apart := false, narrowed := true }
def PacketsChecksumUptoSaid : Prop := packetsChecksumUptoRow.holds Try.pinned (OpenSpec.upto packetsChecksumSpec)

/-- 'orpimentlaw37.PacketsChanged', WHERE WHAT IT READS IS OF BULK AT MOST 1048576: true; the input reads as it did. -/
def packetsChangedUptoRow : OpenClaim := { program := "ytlnejlhdkmneeaa", sum := "8d609f3f46251671ebacf0b5bbb75355051a2286b3730789750badc715cd4607", func := "orpiment/orpimentlaw37.PacketsChanged", spec := "packetsChanged", unfollowed := true, recurses := true, plainKeys := false, apart := false, narrowed := true }
def PacketsChangedUptoSaid : Prop := packetsChangedUptoRow.holds Try.pinned (OpenSpec.upto packetsChangedSpec)

/-- 'orpimentlaw37.PacketsFragment', WHERE WHAT IT READS IS OF BULK AT MOST 1048576: true; the input reads as it did. -/
def packetsFragmentUptoRow : OpenClaim := { program := "ytlnejlhdkmneeaa", sum := "8d609f3f46251671ebacf0b5bbb75355051a2286b3730789750badc715cd4607", func := "orpiment/orpimentlaw37.PacketsFragment", spec := "packetsFragment", unfollowed := true, recurses := true, plainKeys := false, apart := false, narrowed := true }
def PacketsFragmentUptoSaid : Prop := packetsFragmentUptoRow.holds Try.pinned (OpenSpec.upto packetsFragmentSpec)

/-- 'orpimentlaw37.PacketsEncode', WHERE WHAT IT READS IS OF BULK AT MOST 1048576: true; the input reads as it did. -/
def packetsEncodeUptoRow : OpenClaim := { program := "ytlnejlhdkmneeaa", sum := "8d609f3f46251671ebacf0b5bbb75355051a2286b3730789750badc715cd4607", func := "orpiment/orpimentlaw37.PacketsEncode", spec := "packetsEncode", unfollowed := true, recurses := true, plainKeys := false, apart := false, narrowed := true }
def PacketsEncodeUptoSaid : Prop := packetsEncodeUptoRow.holds Try.pinned (OpenSpec.upto packetsEncodeSpec)

/-- 'orpimentlaw37.PacketsDecode', WHERE WHAT IT READS IS OF BULK AT MOST 1048576: true; the input reads as it did. -/
def packetsDecodeUptoRow : OpenClaim := { program := "ytlnejlhdkmneeaa", sum := "8d609f3f46251671ebacf0b5bbb75355051a2286b3730789750badc715cd4607", func := "orpiment/orpimentlaw37.PacketsDecode", spec := "packetsDecode", unfollowed := true, recurses := true, plainKeys := false, apart := false, narrowed := true }
def PacketsDecodeUptoSaid : Prop := packetsDecodeUptoRow.holds Try.pinned (OpenSpec.upto packetsDecodeSpec)

/-- 'orpimentlaw37.PacketsOrder', WHERE WHAT IT READS IS OF BULK AT MOST 1048576: true; the input reads as it did. -/
def packetsOrderUptoRow : OpenClaim := { program := "ytlnejlhdkmneeaa", sum := "8d609f3f46251671ebacf0b5bbb75355051a2286b3730789750badc715cd4607", func := "orpiment/orpimentlaw37.PacketsOrder", spec := "packetsOrder", unfollowed := true, recurses := true, plainKeys := false, apart := false, narrowed := true }
def PacketsOrderUptoSaid : Prop := packetsOrderUptoRow.holds Try.pinned (OpenSpec.upto packetsOrderSpec)

/-- 'orpimentlaw37.PacketsAdds', WHERE WHAT IT READS IS OF BULK AT MOST 1048576: true; the input reads as it did. -/
def packetsAddsUptoRow : OpenClaim := { program := "ytlnejlhdkmneeaa", sum := "8d609f3f46251671ebacf0b5bbb75355051a2286b3730789750badc715cd4607", func := "orpiment/orpimentlaw37.PacketsAdds", spec := "packetsAdds", unfollowed := true, recurses := true, plainKeys := false, apart := false, narrowed := true }
def PacketsAddsUptoSaid : Prop := packetsAddsUptoRow.holds Try.pinned (OpenSpec.upto packetsAddsSpec)

/-- 'orpimentlaw37.PacketsTogether', WHERE WHAT IT READS IS OF BULK AT MOST 1048576: true; the input reads as it did. -/
def packetsTogetherUptoRow : OpenClaim := { program := "ytlnejlhdkmneeaa", sum := "8d609f3f46251671ebacf0b5bbb75355051a2286b3730789750badc715cd4607", func := "orpiment/orpimentlaw37.PacketsTogether", spec := "packetsTogether", unfollowed := true, recurses := true, plainKeys := false, apart := false, narrowed := true }
def PacketsTogetherUptoSaid : Prop := packetsTogetherUptoRow.holds Try.pinned (OpenSpec.upto packetsTogetherSpec)

/-- 'orpimentlaw37.PacketsMany', WHERE WHAT IT READS IS OF BULK AT MOST 1048576: true; the input reads as it did. -/
def packetsManyUptoRow : OpenClaim := { program := "ytlnejlhdkmneeaa", sum := "8d609f3f46251671ebacf0b5bbb75355051a2286b3730789750badc715cd4607", func := "orpiment/orpimentlaw37.PacketsMany", spec := "packetsMany", unfollowed := true, recurses := true, plainKeys := false, apart := false, narrowed := true }
def PacketsManyUptoSaid : Prop := packetsManyUptoRow.holds Try.pinned (OpenSpec.upto packetsManySpec)

/-- 'orpimentlaw37.PacketsRoutes', WHERE WHAT IT READS IS OF BULK AT MOST 1048576: true; the input reads as it did. -/
def packetsRoutesUptoRow : OpenClaim := { program := "ytlnejlhdkmneeaa", sum := "8d609f3f46251671ebacf0b5bbb75355051a2286b3730789750badc715cd4607", func := "orpiment/orpimentlaw37.PacketsRoutes", spec := "packetsRoutes", unfollowed := true, recurses := true, plainKeys := false, apart := false, narrowed := true }
def PacketsRoutesUptoSaid : Prop := packetsRoutesUptoRow.holds Try.pinned (OpenSpec.upto packetsRoutesSpec)

/-- 'orpimentlaw37.PacketsResolves', WHERE WHAT IT READS IS OF BULK AT MOST 1048576: true; the input reads as it did. -/
def packetsResolvesUptoRow : OpenClaim := { program := "ytlnejlhdkmneeaa", sum := "8d609f3f46251671ebacf0b5bbb75355051a2286b3730789750badc715cd4607", func := "orpiment/orpimentlaw37.PacketsResolves", spec := "packetsResolves", unfollowed := true, recurses := true, plainKeys := false, apart := false, narrowed := true }
def PacketsResolvesUptoSaid : Prop := packetsResolvesUptoRow.holds Try.pinned (OpenSpec.upto packetsResolvesSpec)

end Rows
end Go.Proofs.Ytlnejlhdkmneeaa
