/-
  No cell of these rows narrows 'for every input' (looked for: loops, veiled, ifaces, maps, wideKeys, modest, calm, conditions, laid).
  DERIVED. THE GIVEN ROWS OF THIS SEAT. 4 by the template 'for every input the law returns true; each argument reads behind the call as it read before'; 0 by the template 'total and deterministic' (their statements: YtnbmkoapohjnmaaGreatTotals.lean).
  GIVEN WITH THE SEED: the statements are not yours to turn. If you find one false, say at which input.
  Laid BY PROGRAM, IN A SANDBOX (cutbox-rows.mjs): the forced cells as the released guide's own fill.sh prints them over the translation f30da9b44cf0c23a… (all of the seat's roots in one cut). By AI agents, Wed Nov 11 2026. No macro, syntax, notation, axiom, sorry.
-/
import Derived.Test.YtnbmkoapohjnmaaGreatChecked
import GoSem.Claim
import GoSem.ClaimJoined
import GoSem.ClaimMapViews
import Derived.JoinedTies
import Derived.KernelRfl
namespace Go.Proofs.YtnbmkoapohjnmaaGreat
/- THE CELL 'sum', in the pinned program and in every row, IS THE sha256 OF THE DUMP (.gsa) THAT YtnbmkoapohjnmaaGreatProg.lean LOADS. Nothing in Lean hashes anything: it is a label: what it is worth is what the hold of that sum in a sandbox is worth. -/
noncomputable def Tryz.pinned : Pinned := { name := "ytnbmkoapohjnmaagreat", sum := "f30da9b44cf0c23ae81c1e7d2e0db0192eaa5e5c3688dfcfcc77cfed1e8775dd", checked := Tryz.checked }
namespace Rows
def none {H : Type} : Left H := { results := [], args := [] }

/-- 'laws.FnExactMakeContainer': WHATEVER THE INPUT: true; the input reads as it did. -/
def fnExactMakeContainerSpec : ChangeSpec := { name := "fnExactMakeContainer", fn := fun _ => fun
  | [d1, d2, d3, d4] => { results := [.lit (.bool true)], args := [d1, d2, d3, d4] }
  | _ => none }
def fnExactMakeContainerRow : OpenClaim := { program := "ytnbmkoapohjnmaagreat", sum := "f30da9b44cf0c23ae81c1e7d2e0db0192eaa5e5c3688dfcfcc77cfed1e8775dd", func := "loop.example/soughtstreams/laws.FnExactMakeContainer", spec := "fnExactMakeContainer", inPlace := ["internal/abi.NoEscape"], recurses := true, apart := false }
def FnExactMakeContainerSaid : Prop := fnExactMakeContainerRow.holds Tryz.pinned (OpenSpec.ofChange fnExactMakeContainerSpec)

/-- ITS FALSE NEIGHBOUR: 'it returns false'. Refute it at one input. -/
def fnExactMakeContainerWrong : ChangeSpec := { name := "fnExactMakeContainer", fn := fun _ => fun
  | [d1, d2, d3, d4] => { results := [.lit (.bool false)], args := [d1, d2, d3, d4] }
  | _ => none }
def FnExactMakeContainerWrongFalsely : Prop := fnExactMakeContainerRow.holds Tryz.pinned (OpenSpec.ofChange fnExactMakeContainerWrong)

/-- 'laws.FnExactContainerData': WHATEVER THE INPUT: true; the input reads as it did. -/
def fnExactContainerDataSpec : ChangeSpec := { name := "fnExactContainerData", fn := fun _ => fun
  | [d1, d2, d3] => { results := [.lit (.bool true)], args := [d1, d2, d3] }
  | _ => none }
def fnExactContainerDataRow : OpenClaim := { program := "ytnbmkoapohjnmaagreat", sum := "f30da9b44cf0c23ae81c1e7d2e0db0192eaa5e5c3688dfcfcc77cfed1e8775dd", func := "loop.example/soughtstreams/laws.FnExactContainerData", spec := "fnExactContainerData", inPlace := ["internal/abi.NoEscape"], recurses := true, apart := false }
def FnExactContainerDataSaid : Prop := fnExactContainerDataRow.holds Tryz.pinned (OpenSpec.ofChange fnExactContainerDataSpec)

/-- ITS FALSE NEIGHBOUR: 'it returns false'. Refute it at one input. -/
def fnExactContainerDataWrong : ChangeSpec := { name := "fnExactContainerData", fn := fun _ => fun
  | [d1, d2, d3] => { results := [.lit (.bool false)], args := [d1, d2, d3] }
  | _ => none }
def FnExactContainerDataWrongFalsely : Prop := fnExactContainerDataRow.holds Tryz.pinned (OpenSpec.ofChange fnExactContainerDataWrong)

/-- 'laws.FnExactReadRange': WHATEVER THE INPUT: true; the input reads as it did. -/
def fnExactReadRangeSpec : ChangeSpec := { name := "fnExactReadRange", fn := fun _ => fun
  | [d1, d2, d3, d4, d5] => { results := [.lit (.bool true)], args := [d1, d2, d3, d4, d5] }
  | _ => none }
def fnExactReadRangeRow : OpenClaim := { program := "ytnbmkoapohjnmaagreat", sum := "f30da9b44cf0c23ae81c1e7d2e0db0192eaa5e5c3688dfcfcc77cfed1e8775dd", func := "loop.example/soughtstreams/laws.FnExactReadRange", spec := "fnExactReadRange", inPlace := ["internal/abi.NoEscape"], recurses := true, apart := false }
def FnExactReadRangeSaid : Prop := fnExactReadRangeRow.holds Tryz.pinned (OpenSpec.ofChange fnExactReadRangeSpec)

/-- ITS FALSE NEIGHBOUR: 'it returns false'. Refute it at one input. -/
def fnExactReadRangeWrong : ChangeSpec := { name := "fnExactReadRange", fn := fun _ => fun
  | [d1, d2, d3, d4, d5] => { results := [.lit (.bool false)], args := [d1, d2, d3, d4, d5] }
  | _ => none }
def FnExactReadRangeWrongFalsely : Prop := fnExactReadRangeRow.holds Tryz.pinned (OpenSpec.ofChange fnExactReadRangeWrong)

/-- 'laws.FnExactReadIndexed': WHATEVER THE INPUT: true; the input reads as it did. -/
def fnExactReadIndexedSpec : ChangeSpec := { name := "fnExactReadIndexed", fn := fun _ => fun
  | [d1, d2, d3, d4, d5, d6] => { results := [.lit (.bool true)], args := [d1, d2, d3, d4, d5, d6] }
  | _ => none }
def fnExactReadIndexedRow : OpenClaim := { program := "ytnbmkoapohjnmaagreat", sum := "f30da9b44cf0c23ae81c1e7d2e0db0192eaa5e5c3688dfcfcc77cfed1e8775dd", func := "loop.example/soughtstreams/laws.FnExactReadIndexed", spec := "fnExactReadIndexed", recurses := true, apart := false }
def FnExactReadIndexedSaid : Prop := fnExactReadIndexedRow.holds Tryz.pinned (OpenSpec.ofChange fnExactReadIndexedSpec)

/-- ITS FALSE NEIGHBOUR: 'it returns false'. Refute it at one input. -/
def fnExactReadIndexedWrong : ChangeSpec := { name := "fnExactReadIndexed", fn := fun _ => fun
  | [d1, d2, d3, d4, d5, d6] => { results := [.lit (.bool false)], args := [d1, d2, d3, d4, d5, d6] }
  | _ => none }
def FnExactReadIndexedWrongFalsely : Prop := fnExactReadIndexedRow.holds Tryz.pinned (OpenSpec.ofChange fnExactReadIndexedWrong)

/- THE SECOND FORM. 'bulk': how many values and letters a reading holds, each counted each time it is reached (what is shared counts as often as it is met; a slice's spare places count too). A statement '..UptoSaid' is the law's where the arguments, and the package variables that the reading takes, are together of bulk at most 1048576: NARROWER than '..Said'. Prove '..Said' where nothing that the law and all that it calls make is longer than what came in: it says more and counts as full. Else prove '..UptoSaid'. A law counts once. -/
mutual
def uptoBulk {H : Type} : DataW H → Nat
  | .lit (.string bytes) => bytes.length + 1
  | .lit _ => 1
  | .nil => 1
  | .ptr d => uptoBulk d + 1
  | .slice elems spare => uptoBulkAll elems + uptoBulkAll spare + 1
  | .agg parts => uptoBulkAll parts + 1
  | .iface _ d => uptoBulk d + 1
  | .map entries => uptoBulkEntries entries + 1
  | .held _ => 1
def uptoBulkAll {H : Type} : List (DataW H) → Nat
  | [] => 0
  | d :: r => uptoBulk d + uptoBulkAll r
def uptoBulkEntries {H : Type} : List (Lit × DataW H) → Nat
  | [] => 0
  | x :: r => uptoBulkEntry x + uptoBulkEntries r
def uptoBulkEntry {H : Type} : Lit × DataW H → Nat
  | (.string bytes, d) => bytes.length + uptoBulk d + 1
  | (_, d) => uptoBulk d + 1
 end
def uptoSmall : (H : Type) → List (DataW H) → Bool := fun _ ds => decide (uptoBulkAll ds ≤ 1048576)
def OpenSpec.upto (s : _root_.Go.ChangeSpec) : _root_.Go.OpenSpec := { _root_.Go.OpenSpec.ofChange s with cond := some uptoSmall }

/-- 'laws.FnExactMakeContainer', WHERE WHAT IT READS IS OF BULK AT MOST 1048576: true; the input reads as it did. -/
def fnExactMakeContainerUptoRow : OpenClaim := { program := "ytnbmkoapohjnmaagreat", sum := "f30da9b44cf0c23ae81c1e7d2e0db0192eaa5e5c3688dfcfcc77cfed1e8775dd", func := "loop.example/soughtstreams/laws.FnExactMakeContainer", spec := "fnExactMakeContainer", inPlace := ["internal/abi.NoEscape"], recurses := true, apart := false, narrowed := true }
def FnExactMakeContainerUptoSaid : Prop := fnExactMakeContainerUptoRow.holds Tryz.pinned (OpenSpec.upto fnExactMakeContainerSpec)

/-- 'laws.FnExactContainerData', WHERE WHAT IT READS IS OF BULK AT MOST 1048576: true; the input reads as it did. -/
def fnExactContainerDataUptoRow : OpenClaim := { program := "ytnbmkoapohjnmaagreat", sum := "f30da9b44cf0c23ae81c1e7d2e0db0192eaa5e5c3688dfcfcc77cfed1e8775dd", func := "loop.example/soughtstreams/laws.FnExactContainerData", spec := "fnExactContainerData", inPlace := ["internal/abi.NoEscape"], recurses := true, apart := false, narrowed := true }
def FnExactContainerDataUptoSaid : Prop := fnExactContainerDataUptoRow.holds Tryz.pinned (OpenSpec.upto fnExactContainerDataSpec)

/-- 'laws.FnExactReadRange', WHERE WHAT IT READS IS OF BULK AT MOST 1048576: true; the input reads as it did. -/
def fnExactReadRangeUptoRow : OpenClaim := { program := "ytnbmkoapohjnmaagreat", sum := "f30da9b44cf0c23ae81c1e7d2e0db0192eaa5e5c3688dfcfcc77cfed1e8775dd", func := "loop.example/soughtstreams/laws.FnExactReadRange", spec := "fnExactReadRange", inPlace := ["internal/abi.NoEscape"], recurses := true, apart := false, narrowed := true }
def FnExactReadRangeUptoSaid : Prop := fnExactReadRangeUptoRow.holds Tryz.pinned (OpenSpec.upto fnExactReadRangeSpec)

/-- 'laws.FnExactReadIndexed', WHERE WHAT IT READS IS OF BULK AT MOST 1048576: true; the input reads as it did. -/
def fnExactReadIndexedUptoRow : OpenClaim := { program := "ytnbmkoapohjnmaagreat", sum := "f30da9b44cf0c23ae81c1e7d2e0db0192eaa5e5c3688dfcfcc77cfed1e8775dd", func := "loop.example/soughtstreams/laws.FnExactReadIndexed", spec := "fnExactReadIndexed", recurses := true, apart := false, narrowed := true }
def FnExactReadIndexedUptoSaid : Prop := fnExactReadIndexedUptoRow.holds Tryz.pinned (OpenSpec.upto fnExactReadIndexedSpec)

end Rows
end Go.Proofs.YtnbmkoapohjnmaaGreat
