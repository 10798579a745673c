/-
  No cell of these rows narrows 'for every input' (looked for: loops, veiled, ifaces, maps, wideKeys, modest, calm, conditions, laid).
  DERIVED. THE GIVEN ROWS OF THIS SEAT. 11 by the template 'for every input the law returns true; each argument reads behind the call as it read before'; 0 by the template 'total and deterministic' (their statements: YthemmoecocjpjaaTotals.lean).
  GIVEN WITH THE SEED: the statements are not yours to turn. If you find one false, say at which input.
  Laid BY PROGRAM, IN A SANDBOX (cutbox-rows.mjs): the forced cells as the released guide's own fill.sh prints them over the translation 3e2c0dd6a2864fc4… (all of the seat's roots in one cut). By AI agents, Wed Nov 11 2026. No macro, syntax, notation, axiom, sorry.
-/
import Derived.Test.YthemmoecocjpjaaChecked
import GoSem.Claim
import GoSem.ClaimJoined
import GoSem.ClaimMapViews
import Derived.JoinedTies
import Derived.KernelRfl
namespace Go.Proofs.Ythemmoecocjpjaa
/- THE CELL 'sum', in the pinned program and in every row, IS THE sha256 OF THE DUMP (.gsa) THAT YthemmoecocjpjaaProg.lean LOADS. Nothing in Lean hashes anything: it is a label: what it is worth is what the hold of that sum in a sandbox is worth. -/
noncomputable def Try.pinned : Pinned := { name := "ythemmoecocjpjaa", sum := "3e2c0dd6a2864fc4dcc5c32433d288009c5f31d2f33cac783e0f114c4f510753", checked := Try.checked }
namespace Rows
def none {H : Type} : Left H := { results := [], args := [] }

/-- 'laws.FnBlockChange': WHATEVER THE INPUT: true; the input reads as it did. -/
def fnBlockChangeSpec : ChangeSpec := { name := "fnBlockChange", fn := fun _ => fun
  | [d1, d2] => { results := [.lit (.bool true)], args := [d1, d2] }
  | _ => none }
def fnBlockChangeRow : OpenClaim := { program := "ythemmoecocjpjaa", sum := "3e2c0dd6a2864fc4dcc5c32433d288009c5f31d2f33cac783e0f114c4f510753", func := "loop.example/soughtstreams/laws.FnBlockChange", spec := "fnBlockChange", apart := false }
def FnBlockChangeSaid : Prop := fnBlockChangeRow.holds Try.pinned (OpenSpec.ofChange fnBlockChangeSpec)

/-- ITS FALSE NEIGHBOUR: 'it returns false'. Refute it at one input. -/
def fnBlockChangeWrong : ChangeSpec := { name := "fnBlockChange", fn := fun _ => fun
  | [d1, d2] => { results := [.lit (.bool false)], args := [d1, d2] }
  | _ => none }
def FnBlockChangeWrongFalsely : Prop := fnBlockChangeRow.holds Try.pinned (OpenSpec.ofChange fnBlockChangeWrong)

/-- 'laws.FnBlockText': WHATEVER THE INPUT: true; the input reads as it did. -/
def fnBlockTextSpec : ChangeSpec := { name := "fnBlockText", fn := fun _ => fun
  | [d1, d2] => { results := [.lit (.bool true)], args := [d1, d2] }
  | _ => none }
def fnBlockTextRow : OpenClaim := { program := "ythemmoecocjpjaa", sum := "3e2c0dd6a2864fc4dcc5c32433d288009c5f31d2f33cac783e0f114c4f510753", func := "loop.example/soughtstreams/laws.FnBlockText", spec := "fnBlockText", apart := false }
def FnBlockTextSaid : Prop := fnBlockTextRow.holds Try.pinned (OpenSpec.ofChange fnBlockTextSpec)

/-- ITS FALSE NEIGHBOUR: 'it returns false'. Refute it at one input. -/
def fnBlockTextWrong : ChangeSpec := { name := "fnBlockText", fn := fun _ => fun
  | [d1, d2] => { results := [.lit (.bool false)], args := [d1, d2] }
  | _ => none }
def FnBlockTextWrongFalsely : Prop := fnBlockTextRow.holds Try.pinned (OpenSpec.ofChange fnBlockTextWrong)

/-- 'laws.FnBlockParse': WHATEVER THE INPUT: true; the input reads as it did. -/
def fnBlockParseSpec : ChangeSpec := { name := "fnBlockParse", fn := fun _ => fun
  | [d] => { results := [.lit (.bool true)], args := [d] }
  | _ => none }
def fnBlockParseRow : OpenClaim := { program := "ythemmoecocjpjaa", sum := "3e2c0dd6a2864fc4dcc5c32433d288009c5f31d2f33cac783e0f114c4f510753", func := "loop.example/soughtstreams/laws.FnBlockParse", spec := "fnBlockParse", apart := false }
def FnBlockParseSaid : Prop := fnBlockParseRow.holds Try.pinned (OpenSpec.ofChange fnBlockParseSpec)

/-- ITS FALSE NEIGHBOUR: 'it returns false'. Refute it at one input. -/
def fnBlockParseWrong : ChangeSpec := { name := "fnBlockParse", fn := fun _ => fun
  | [d] => { results := [.lit (.bool false)], args := [d] }
  | _ => none }
def FnBlockParseWrongFalsely : Prop := fnBlockParseRow.holds Try.pinned (OpenSpec.ofChange fnBlockParseWrong)

/-- 'laws.FnContainerBlocks': WHATEVER THE INPUT: true; the input reads as it did. -/
def fnContainerBlocksSpec : ChangeSpec := { name := "fnContainerBlocks", fn := fun _ => fun
  | [d] => { results := [.lit (.bool true)], args := [d] }
  | _ => none }
def fnContainerBlocksRow : OpenClaim := { program := "ythemmoecocjpjaa", sum := "3e2c0dd6a2864fc4dcc5c32433d288009c5f31d2f33cac783e0f114c4f510753", func := "loop.example/soughtstreams/laws.FnContainerBlocks", spec := "fnContainerBlocks", apart := false }
def FnContainerBlocksSaid : Prop := fnContainerBlocksRow.holds Try.pinned (OpenSpec.ofChange fnContainerBlocksSpec)

/-- ITS FALSE NEIGHBOUR: 'it returns false'. Refute it at one input. -/
def fnContainerBlocksWrong : ChangeSpec := { name := "fnContainerBlocks", fn := fun _ => fun
  | [d] => { results := [.lit (.bool false)], args := [d] }
  | _ => none }
def FnContainerBlocksWrongFalsely : Prop := fnContainerBlocksRow.holds Try.pinned (OpenSpec.ofChange fnContainerBlocksWrong)

/-- 'laws.FnIndex': WHATEVER THE INPUT: true; the input reads as it did. -/
def fnIndexSpec : ChangeSpec := { name := "fnIndex", fn := fun _ => fun
  | [d] => { results := [.lit (.bool true)], args := [d] }
  | _ => none }
def fnIndexRow : OpenClaim := { program := "ythemmoecocjpjaa", sum := "3e2c0dd6a2864fc4dcc5c32433d288009c5f31d2f33cac783e0f114c4f510753", func := "loop.example/soughtstreams/laws.FnIndex", spec := "fnIndex", apart := false }
def FnIndexSaid : Prop := fnIndexRow.holds Try.pinned (OpenSpec.ofChange fnIndexSpec)

/-- ITS FALSE NEIGHBOUR: 'it returns false'. Refute it at one input. -/
def fnIndexWrong : ChangeSpec := { name := "fnIndex", fn := fun _ => fun
  | [d] => { results := [.lit (.bool false)], args := [d] }
  | _ => none }
def FnIndexWrongFalsely : Prop := fnIndexRow.holds Try.pinned (OpenSpec.ofChange fnIndexWrong)

/-- 'laws.FnTouched': WHATEVER THE INPUT: true; the input reads as it did. -/
def fnTouchedSpec : ChangeSpec := { name := "fnTouched", fn := fun _ => fun
  | [d] => { results := [.lit (.bool true)], args := [d] }
  | _ => none }
def fnTouchedRow : OpenClaim := { program := "ythemmoecocjpjaa", sum := "3e2c0dd6a2864fc4dcc5c32433d288009c5f31d2f33cac783e0f114c4f510753", func := "loop.example/soughtstreams/laws.FnTouched", spec := "fnTouched", apart := false }
def FnTouchedSaid : Prop := fnTouchedRow.holds Try.pinned (OpenSpec.ofChange fnTouchedSpec)

/-- ITS FALSE NEIGHBOUR: 'it returns false'. Refute it at one input. -/
def fnTouchedWrong : ChangeSpec := { name := "fnTouched", fn := fun _ => fun
  | [d] => { results := [.lit (.bool false)], args := [d] }
  | _ => none }
def FnTouchedWrongFalsely : Prop := fnTouchedRow.holds Try.pinned (OpenSpec.ofChange fnTouchedWrong)

/-- 'laws.FnExactBlockData': WHATEVER THE INPUT: true; the input reads as it did. -/
def fnExactBlockDataSpec : ChangeSpec := { name := "fnExactBlockData", fn := fun _ => fun
  | [d1, d2, d3] => { results := [.lit (.bool true)], args := [d1, d2, d3] }
  | _ => none }
def fnExactBlockDataRow : OpenClaim := { program := "ythemmoecocjpjaa", sum := "3e2c0dd6a2864fc4dcc5c32433d288009c5f31d2f33cac783e0f114c4f510753", func := "loop.example/soughtstreams/laws.FnExactBlockData", spec := "fnExactBlockData", recurses := true, apart := false }
def FnExactBlockDataSaid : Prop := fnExactBlockDataRow.holds Try.pinned (OpenSpec.ofChange fnExactBlockDataSpec)

/-- ITS FALSE NEIGHBOUR: 'it returns false'. Refute it at one input. -/
def fnExactBlockDataWrong : ChangeSpec := { name := "fnExactBlockData", fn := fun _ => fun
  | [d1, d2, d3] => { results := [.lit (.bool false)], args := [d1, d2, d3] }
  | _ => none }
def FnExactBlockDataWrongFalsely : Prop := fnExactBlockDataRow.holds Try.pinned (OpenSpec.ofChange fnExactBlockDataWrong)

/-- 'laws.FnExactSealStream': WHATEVER THE INPUT: true; the input reads as it did. -/
def fnExactSealStreamSpec : ChangeSpec := { name := "fnExactSealStream", fn := fun _ => fun
  | [d1, d2, d3] => { results := [.lit (.bool true)], args := [d1, d2, d3] }
  | _ => none }
def fnExactSealStreamRow : OpenClaim := { program := "ythemmoecocjpjaa", sum := "3e2c0dd6a2864fc4dcc5c32433d288009c5f31d2f33cac783e0f114c4f510753", func := "loop.example/soughtstreams/laws.FnExactSealStream", spec := "fnExactSealStream", recurses := true, apart := false }
def FnExactSealStreamSaid : Prop := fnExactSealStreamRow.holds Try.pinned (OpenSpec.ofChange fnExactSealStreamSpec)

/-- ITS FALSE NEIGHBOUR: 'it returns false'. Refute it at one input. -/
def fnExactSealStreamWrong : ChangeSpec := { name := "fnExactSealStream", fn := fun _ => fun
  | [d1, d2, d3] => { results := [.lit (.bool false)], args := [d1, d2, d3] }
  | _ => none }
def FnExactSealStreamWrongFalsely : Prop := fnExactSealStreamRow.holds Try.pinned (OpenSpec.ofChange fnExactSealStreamWrong)

/-- 'laws.FnExactBlockOf': WHATEVER THE INPUT: true; the input reads as it did. -/
def fnExactBlockOfSpec : ChangeSpec := { name := "fnExactBlockOf", fn := fun _ => fun
  | [d1, d2, d3, d4] => { results := [.lit (.bool true)], args := [d1, d2, d3, d4] }
  | _ => none }
def fnExactBlockOfRow : OpenClaim := { program := "ythemmoecocjpjaa", sum := "3e2c0dd6a2864fc4dcc5c32433d288009c5f31d2f33cac783e0f114c4f510753", func := "loop.example/soughtstreams/laws.FnExactBlockOf", spec := "fnExactBlockOf", recurses := true, apart := false }
def FnExactBlockOfSaid : Prop := fnExactBlockOfRow.holds Try.pinned (OpenSpec.ofChange fnExactBlockOfSpec)

/-- ITS FALSE NEIGHBOUR: 'it returns false'. Refute it at one input. -/
def fnExactBlockOfWrong : ChangeSpec := { name := "fnExactBlockOf", fn := fun _ => fun
  | [d1, d2, d3, d4] => { results := [.lit (.bool false)], args := [d1, d2, d3, d4] }
  | _ => none }
def FnExactBlockOfWrongFalsely : Prop := fnExactBlockOfRow.holds Try.pinned (OpenSpec.ofChange fnExactBlockOfWrong)

/-- 'laws.FnExactOpenStream': WHATEVER THE INPUT: true; the input reads as it did. -/
def fnExactOpenStreamSpec : ChangeSpec := { name := "fnExactOpenStream", fn := fun _ => fun
  | [d1, d2, d3] => { results := [.lit (.bool true)], args := [d1, d2, d3] }
  | _ => none }
def fnExactOpenStreamRow : OpenClaim := { program := "ythemmoecocjpjaa", sum := "3e2c0dd6a2864fc4dcc5c32433d288009c5f31d2f33cac783e0f114c4f510753", func := "loop.example/soughtstreams/laws.FnExactOpenStream", spec := "fnExactOpenStream", recurses := true, apart := false }
def FnExactOpenStreamSaid : Prop := fnExactOpenStreamRow.holds Try.pinned (OpenSpec.ofChange fnExactOpenStreamSpec)

/-- ITS FALSE NEIGHBOUR: 'it returns false'. Refute it at one input. -/
def fnExactOpenStreamWrong : ChangeSpec := { name := "fnExactOpenStream", fn := fun _ => fun
  | [d1, d2, d3] => { results := [.lit (.bool false)], args := [d1, d2, d3] }
  | _ => none }
def FnExactOpenStreamWrongFalsely : Prop := fnExactOpenStreamRow.holds Try.pinned (OpenSpec.ofChange fnExactOpenStreamWrong)

/-- 'laws.FnExactBestDict': WHATEVER THE INPUT: true; the input reads as it did. -/
def fnExactBestDictSpec : ChangeSpec := { name := "fnExactBestDict", fn := fun _ => fun
  | [d1, d2, d3] => { results := [.lit (.bool true)], args := [d1, d2, d3] }
  | _ => none }
def fnExactBestDictRow : OpenClaim := { program := "ythemmoecocjpjaa", sum := "3e2c0dd6a2864fc4dcc5c32433d288009c5f31d2f33cac783e0f114c4f510753", func := "loop.example/soughtstreams/laws.FnExactBestDict", spec := "fnExactBestDict", recurses := true, apart := false }
def FnExactBestDictSaid : Prop := fnExactBestDictRow.holds Try.pinned (OpenSpec.ofChange fnExactBestDictSpec)

/-- ITS FALSE NEIGHBOUR: 'it returns false'. Refute it at one input. -/
def fnExactBestDictWrong : ChangeSpec := { name := "fnExactBestDict", fn := fun _ => fun
  | [d1, d2, d3] => { results := [.lit (.bool false)], args := [d1, d2, d3] }
  | _ => none }
def FnExactBestDictWrongFalsely : Prop := fnExactBestDictRow.holds Try.pinned (OpenSpec.ofChange fnExactBestDictWrong)

/- THE SECOND FORM. 'bulk': how many values and letters a reading holds, each counted each time it is reached (what is shared counts as often as it is met; a slice's spare places count too). A statement '..UptoSaid' is the law's where the arguments, and the package variables that the reading takes, are together of bulk at most 1048576: NARROWER than '..Said'. Prove '..Said' where nothing that the law and all that it calls make is longer than what came in: it says more and counts as full. Else prove '..UptoSaid'. A law counts once. -/
mutual
def uptoBulk {H : Type} : DataW H → Nat
  | .lit (.string bytes) => bytes.length + 1
  | .lit _ => 1
  | .nil => 1
  | .ptr d => uptoBulk d + 1
  | .slice elems spare => uptoBulkAll elems + uptoBulkAll spare + 1
  | .agg parts => uptoBulkAll parts + 1
  | .iface _ d => uptoBulk d + 1
  | .map entries => uptoBulkEntries entries + 1
  | .held _ => 1
def uptoBulkAll {H : Type} : List (DataW H) → Nat
  | [] => 0
  | d :: r => uptoBulk d + uptoBulkAll r
def uptoBulkEntries {H : Type} : List (Lit × DataW H) → Nat
  | [] => 0
  | x :: r => uptoBulkEntry x + uptoBulkEntries r
def uptoBulkEntry {H : Type} : Lit × DataW H → Nat
  | (.string bytes, d) => bytes.length + uptoBulk d + 1
  | (_, d) => uptoBulk d + 1
 end
def uptoSmall : (H : Type) → List (DataW H) → Bool := fun _ ds => decide (uptoBulkAll ds ≤ 1048576)
def OpenSpec.upto (s : _root_.Go.ChangeSpec) : _root_.Go.OpenSpec := { _root_.Go.OpenSpec.ofChange s with cond := some uptoSmall }

/-- 'laws.FnBlockChange', WHERE WHAT IT READS IS OF BULK AT MOST 1048576: true; the input reads as it did. -/
def fnBlockChangeUptoRow : OpenClaim := { program := "ythemmoecocjpjaa", sum := "3e2c0dd6a2864fc4dcc5c32433d288009c5f31d2f33cac783e0f114c4f510753", func := "loop.example/soughtstreams/laws.FnBlockChange", spec := "fnBlockChange", apart := false, narrowed := true }
def FnBlockChangeUptoSaid : Prop := fnBlockChangeUptoRow.holds Try.pinned (OpenSpec.upto fnBlockChangeSpec)

/-- 'laws.FnBlockText', WHERE WHAT IT READS IS OF BULK AT MOST 1048576: true; the input reads as it did. -/
def fnBlockTextUptoRow : OpenClaim := { program := "ythemmoecocjpjaa", sum := "3e2c0dd6a2864fc4dcc5c32433d288009c5f31d2f33cac783e0f114c4f510753", func := "loop.example/soughtstreams/laws.FnBlockText", spec := "fnBlockText", apart := false, narrowed := true }
def FnBlockTextUptoSaid : Prop := fnBlockTextUptoRow.holds Try.pinned (OpenSpec.upto fnBlockTextSpec)

/-- 'laws.FnBlockParse', WHERE WHAT IT READS IS OF BULK AT MOST 1048576: true; the input reads as it did. -/
def fnBlockParseUptoRow : OpenClaim := { program := "ythemmoecocjpjaa", sum := "3e2c0dd6a2864fc4dcc5c32433d288009c5f31d2f33cac783e0f114c4f510753", func := "loop.example/soughtstreams/laws.FnBlockParse", spec := "fnBlockParse", apart := false, narrowed := true }
def FnBlockParseUptoSaid : Prop := fnBlockParseUptoRow.holds Try.pinned (OpenSpec.upto fnBlockParseSpec)

/-- 'laws.FnContainerBlocks', WHERE WHAT IT READS IS OF BULK AT MOST 1048576: true; the input reads as it did. -/
def fnContainerBlocksUptoRow : OpenClaim := { program := "ythemmoecocjpjaa", sum := "3e2c0dd6a2864fc4dcc5c32433d288009c5f31d2f33cac783e0f114c4f510753", func := "loop.example/soughtstreams/laws.FnContainerBlocks", spec := "fnContainerBlocks", apart := false, narrowed := true }
def FnContainerBlocksUptoSaid : Prop := fnContainerBlocksUptoRow.holds Try.pinned (OpenSpec.upto fnContainerBlocksSpec)

/-- 'laws.FnIndex', WHERE WHAT IT READS IS OF BULK AT MOST 1048576: true; the input reads as it did. -/
def fnIndexUptoRow : OpenClaim := { program := "ythemmoecocjpjaa", sum := "3e2c0dd6a2864fc4dcc5c32433d288009c5f31d2f33cac783e0f114c4f510753", func := "loop.example/soughtstreams/laws.FnIndex", spec := "fnIndex", apart := false, narrowed := true }
def FnIndexUptoSaid : Prop := fnIndexUptoRow.holds Try.pinned (OpenSpec.upto fnIndexSpec)

/-- 'laws.FnTouched', WHERE WHAT IT READS IS OF BULK AT MOST 1048576: true; the input reads as it did. -/
def fnTouchedUptoRow : OpenClaim := { program := "ythemmoecocjpjaa", sum := "3e2c0dd6a2864fc4dcc5c32433d288009c5f31d2f33cac783e0f114c4f510753", func := "loop.example/soughtstreams/laws.FnTouched", spec := "fnTouched", apart := false, narrowed := true }
def FnTouchedUptoSaid : Prop := fnTouchedUptoRow.holds Try.pinned (OpenSpec.upto fnTouchedSpec)

/-- 'laws.FnExactBlockData', WHERE WHAT IT READS IS OF BULK AT MOST 1048576: true; the input reads as it did. -/
def fnExactBlockDataUptoRow : OpenClaim := { program := "ythemmoecocjpjaa", sum := "3e2c0dd6a2864fc4dcc5c32433d288009c5f31d2f33cac783e0f114c4f510753", func := "loop.example/soughtstreams/laws.FnExactBlockData", spec := "fnExactBlockData", recurses := true, apart := false, narrowed := true }
def FnExactBlockDataUptoSaid : Prop := fnExactBlockDataUptoRow.holds Try.pinned (OpenSpec.upto fnExactBlockDataSpec)

/-- 'laws.FnExactSealStream', WHERE WHAT IT READS IS OF BULK AT MOST 1048576: true; the input reads as it did. -/
def fnExactSealStreamUptoRow : OpenClaim := { program := "ythemmoecocjpjaa", sum := "3e2c0dd6a2864fc4dcc5c32433d288009c5f31d2f33cac783e0f114c4f510753", func := "loop.example/soughtstreams/laws.FnExactSealStream", spec := "fnExactSealStream", recurses := true, apart := false, narrowed := true }
def FnExactSealStreamUptoSaid : Prop := fnExactSealStreamUptoRow.holds Try.pinned (OpenSpec.upto fnExactSealStreamSpec)

/-- 'laws.FnExactBlockOf', WHERE WHAT IT READS IS OF BULK AT MOST 1048576: true; the input reads as it did. -/
def fnExactBlockOfUptoRow : OpenClaim := { program := "ythemmoecocjpjaa", sum := "3e2c0dd6a2864fc4dcc5c32433d288009c5f31d2f33cac783e0f114c4f510753", func := "loop.example/soughtstreams/laws.FnExactBlockOf", spec := "fnExactBlockOf", recurses := true, apart := false, narrowed := true }
def FnExactBlockOfUptoSaid : Prop := fnExactBlockOfUptoRow.holds Try.pinned (OpenSpec.upto fnExactBlockOfSpec)

/-- 'laws.FnExactOpenStream', WHERE WHAT IT READS IS OF BULK AT MOST 1048576: true; the input reads as it did. -/
def fnExactOpenStreamUptoRow : OpenClaim := { program := "ythemmoecocjpjaa", sum := "3e2c0dd6a2864fc4dcc5c32433d288009c5f31d2f33cac783e0f114c4f510753", func := "loop.example/soughtstreams/laws.FnExactOpenStream", spec := "fnExactOpenStream", recurses := true, apart := false, narrowed := true }
def FnExactOpenStreamUptoSaid : Prop := fnExactOpenStreamUptoRow.holds Try.pinned (OpenSpec.upto fnExactOpenStreamSpec)

/-- 'laws.FnExactBestDict', WHERE WHAT IT READS IS OF BULK AT MOST 1048576: true; the input reads as it did. -/
def fnExactBestDictUptoRow : OpenClaim := { program := "ythemmoecocjpjaa", sum := "3e2c0dd6a2864fc4dcc5c32433d288009c5f31d2f33cac783e0f114c4f510753", func := "loop.example/soughtstreams/laws.FnExactBestDict", spec := "fnExactBestDict", recurses := true, apart := false, narrowed := true }
def FnExactBestDictUptoSaid : Prop := fnExactBestDictUptoRow.holds Try.pinned (OpenSpec.upto fnExactBestDictSpec)

end Rows
end Go.Proofs.Ythemmoecocjpjaa
