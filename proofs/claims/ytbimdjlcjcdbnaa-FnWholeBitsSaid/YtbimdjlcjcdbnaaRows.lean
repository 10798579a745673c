/-
  No cell of these rows narrows 'for every input' (looked for: loops, veiled, ifaces, maps, wideKeys, modest, calm, conditions, laid).
  DERIVED. THE GIVEN ROWS OF THIS SEAT. 4 by the template 'for every input the law returns true; each argument reads behind the call as it read before'; 0 by the template 'total and deterministic' (their statements: YtbimdjlcjcdbnaaTotals.lean).
  GIVEN WITH THE SEED: the statements are not yours to turn. If you find one false, say at which input.
  Laid BY PROGRAM, IN A SANDBOX (cutbox-rows.mjs): the forced cells as the released guide's own fill.sh prints them over the translation edde7dc20e5d084a… (all of the seat's roots in one cut). By AI agents, Wed Nov 11 2026. No macro, syntax, notation, axiom, sorry.
-/
import Derived.Test.YtbimdjlcjcdbnaaChecked
import GoSem.Claim
import GoSem.ClaimJoined
import GoSem.ClaimMapViews
import Derived.JoinedTies
import Derived.KernelRfl
namespace Go.Proofs.Ytbimdjlcjcdbnaa
/- THE CELL 'sum', in the pinned program and in every row, IS THE sha256 OF THE DUMP (.gsa) THAT YtbimdjlcjcdbnaaProg.lean LOADS. Nothing in Lean hashes anything: it is a label: what it is worth is what the hold of that sum in a sandbox is worth. -/
noncomputable def Try.pinned : Pinned := { name := "ytbimdjlcjcdbnaa", sum := "edde7dc20e5d084abb6ff1a5b6d7c0a6521ab69458c7c78adbfb831cf5e306b4", checked := Try.checked }
namespace Rows
def none {H : Type} : Left H := { results := [], args := [] }

/-- 'laws.FnDictGain': WHATEVER THE INPUT: true; the input reads as it did. -/
def fnDictGainSpec : ChangeSpec := { name := "fnDictGain", fn := fun _ => fun
  | [d] => { results := [.lit (.bool true)], args := [d] }
  | _ => none }
def fnDictGainRow : OpenClaim := { program := "ytbimdjlcjcdbnaa", sum := "edde7dc20e5d084abb6ff1a5b6d7c0a6521ab69458c7c78adbfb831cf5e306b4", func := "loop.example/soughtstreams/laws.FnDictGain", spec := "fnDictGain", recurses := true, apart := false }
def FnDictGainSaid : Prop := fnDictGainRow.holds Try.pinned (OpenSpec.ofChange fnDictGainSpec)

/-- ITS FALSE NEIGHBOUR: 'it returns false'. Refute it at one input. -/
def fnDictGainWrong : ChangeSpec := { name := "fnDictGain", fn := fun _ => fun
  | [d] => { results := [.lit (.bool false)], args := [d] }
  | _ => none }
def FnDictGainWrongFalsely : Prop := fnDictGainRow.holds Try.pinned (OpenSpec.ofChange fnDictGainWrong)

/-- 'laws.FnRoundTrip': WHATEVER THE INPUT: true; the input reads as it did. -/
def fnRoundTripSpec : ChangeSpec := { name := "fnRoundTrip", fn := fun _ => fun
  | [d] => { results := [.lit (.bool true)], args := [d] }
  | _ => none }
def fnRoundTripRow : OpenClaim := { program := "ytbimdjlcjcdbnaa", sum := "edde7dc20e5d084abb6ff1a5b6d7c0a6521ab69458c7c78adbfb831cf5e306b4", func := "loop.example/soughtstreams/laws.FnRoundTrip", spec := "fnRoundTrip", recurses := true, apart := false }
def FnRoundTripSaid : Prop := fnRoundTripRow.holds Try.pinned (OpenSpec.ofChange fnRoundTripSpec)

/-- ITS FALSE NEIGHBOUR: 'it returns false'. Refute it at one input. -/
def fnRoundTripWrong : ChangeSpec := { name := "fnRoundTrip", fn := fun _ => fun
  | [d] => { results := [.lit (.bool false)], args := [d] }
  | _ => none }
def FnRoundTripWrongFalsely : Prop := fnRoundTripRow.holds Try.pinned (OpenSpec.ofChange fnRoundTripWrong)

/-- 'laws.FnCompressOrders': WHATEVER THE INPUT: true; the input reads as it did. -/
def fnCompressOrdersSpec : ChangeSpec := { name := "fnCompressOrders", fn := fun _ => fun
  | [d] => { results := [.lit (.bool true)], args := [d] }
  | _ => none }
def fnCompressOrdersRow : OpenClaim := { program := "ytbimdjlcjcdbnaa", sum := "edde7dc20e5d084abb6ff1a5b6d7c0a6521ab69458c7c78adbfb831cf5e306b4", func := "loop.example/soughtstreams/laws.FnCompressOrders", spec := "fnCompressOrders", recurses := true, apart := false }
def FnCompressOrdersSaid : Prop := fnCompressOrdersRow.holds Try.pinned (OpenSpec.ofChange fnCompressOrdersSpec)

/-- ITS FALSE NEIGHBOUR: 'it returns false'. Refute it at one input. -/
def fnCompressOrdersWrong : ChangeSpec := { name := "fnCompressOrders", fn := fun _ => fun
  | [d] => { results := [.lit (.bool false)], args := [d] }
  | _ => none }
def FnCompressOrdersWrongFalsely : Prop := fnCompressOrdersRow.holds Try.pinned (OpenSpec.ofChange fnCompressOrdersWrong)

/-- 'laws.FnWholeBits': WHATEVER THE INPUT: true; the input reads as it did. -/
def fnWholeBitsSpec : ChangeSpec := { name := "fnWholeBits", fn := fun _ => fun
  | [d] => { results := [.lit (.bool true)], args := [d] }
  | _ => none }
def fnWholeBitsRow : OpenClaim := { program := "ytbimdjlcjcdbnaa", sum := "edde7dc20e5d084abb6ff1a5b6d7c0a6521ab69458c7c78adbfb831cf5e306b4", func := "loop.example/soughtstreams/laws.FnWholeBits", spec := "fnWholeBits", recurses := true, apart := false }
def FnWholeBitsSaid : Prop := fnWholeBitsRow.holds Try.pinned (OpenSpec.ofChange fnWholeBitsSpec)

/-- ITS FALSE NEIGHBOUR: 'it returns false'. Refute it at one input. -/
def fnWholeBitsWrong : ChangeSpec := { name := "fnWholeBits", fn := fun _ => fun
  | [d] => { results := [.lit (.bool false)], args := [d] }
  | _ => none }
def FnWholeBitsWrongFalsely : Prop := fnWholeBitsRow.holds Try.pinned (OpenSpec.ofChange fnWholeBitsWrong)

/- THE SECOND FORM. 'bulk': how many values and letters a reading holds, each counted each time it is reached (what is shared counts as often as it is met; a slice's spare places count too). A statement '..UptoSaid' is the law's where the arguments, and the package variables that the reading takes, are together of bulk at most 1048576: NARROWER than '..Said'. Prove '..Said' where nothing that the law and all that it calls make is longer than what came in: it says more and counts as full. Else prove '..UptoSaid'. A law counts once. -/
mutual
def uptoBulk {H : Type} : DataW H → Nat
  | .lit (.string bytes) => bytes.length + 1
  | .lit _ => 1
  | .nil => 1
  | .ptr d => uptoBulk d + 1
  | .slice elems spare => uptoBulkAll elems + uptoBulkAll spare + 1
  | .agg parts => uptoBulkAll parts + 1
  | .iface _ d => uptoBulk d + 1
  | .map entries => uptoBulkEntries entries + 1
  | .held _ => 1
def uptoBulkAll {H : Type} : List (DataW H) → Nat
  | [] => 0
  | d :: r => uptoBulk d + uptoBulkAll r
def uptoBulkEntries {H : Type} : List (Lit × DataW H) → Nat
  | [] => 0
  | x :: r => uptoBulkEntry x + uptoBulkEntries r
def uptoBulkEntry {H : Type} : Lit × DataW H → Nat
  | (.string bytes, d) => bytes.length + uptoBulk d + 1
  | (_, d) => uptoBulk d + 1
 end
def uptoSmall : (H : Type) → List (DataW H) → Bool := fun _ ds => decide (uptoBulkAll ds ≤ 1048576)
def OpenSpec.upto (s : _root_.Go.ChangeSpec) : _root_.Go.OpenSpec := { _root_.Go.OpenSpec.ofChange s with cond := some uptoSmall }

/-- 'laws.FnDictGain', WHERE WHAT IT READS IS OF BULK AT MOST 1048576: true; the input reads as it did. -/
def fnDictGainUptoRow : OpenClaim := { program := "ytbimdjlcjcdbnaa", sum := "edde7dc20e5d084abb6ff1a5b6d7c0a6521ab69458c7c78adbfb831cf5e306b4", func := "loop.example/soughtstreams/laws.FnDictGain", spec := "fnDictGain", recurses := true, apart := false, narrowed := true }
def FnDictGainUptoSaid : Prop := fnDictGainUptoRow.holds Try.pinned (OpenSpec.upto fnDictGainSpec)

/-- 'laws.FnRoundTrip', WHERE WHAT IT READS IS OF BULK AT MOST 1048576: true; the input reads as it did. -/
def fnRoundTripUptoRow : OpenClaim := { program := "ytbimdjlcjcdbnaa", sum := "edde7dc20e5d084abb6ff1a5b6d7c0a6521ab69458c7c78adbfb831cf5e306b4", func := "loop.example/soughtstreams/laws.FnRoundTrip", spec := "fnRoundTrip", recurses := true, apart := false, narrowed := true }
def FnRoundTripUptoSaid : Prop := fnRoundTripUptoRow.holds Try.pinned (OpenSpec.upto fnRoundTripSpec)

/-- 'laws.FnCompressOrders', WHERE WHAT IT READS IS OF BULK AT MOST 1048576: true; the input reads as it did. -/
def fnCompressOrdersUptoRow : OpenClaim := { program := "ytbimdjlcjcdbnaa", sum := "edde7dc20e5d084abb6ff1a5b6d7c0a6521ab69458c7c78adbfb831cf5e306b4", func := "loop.example/soughtstreams/laws.FnCompressOrders", spec := "fnCompressOrders", recurses := true, apart := false, narrowed := true }
def FnCompressOrdersUptoSaid : Prop := fnCompressOrdersUptoRow.holds Try.pinned (OpenSpec.upto fnCompressOrdersSpec)

/-- 'laws.FnWholeBits', WHERE WHAT IT READS IS OF BULK AT MOST 1048576: true; the input reads as it did. -/
def fnWholeBitsUptoRow : OpenClaim := { program := "ytbimdjlcjcdbnaa", sum := "edde7dc20e5d084abb6ff1a5b6d7c0a6521ab69458c7c78adbfb831cf5e306b4", func := "loop.example/soughtstreams/laws.FnWholeBits", spec := "fnWholeBits", recurses := true, apart := false, narrowed := true }
def FnWholeBitsUptoSaid : Prop := fnWholeBitsUptoRow.holds Try.pinned (OpenSpec.upto fnWholeBitsSpec)

end Rows
end Go.Proofs.Ytbimdjlcjcdbnaa
