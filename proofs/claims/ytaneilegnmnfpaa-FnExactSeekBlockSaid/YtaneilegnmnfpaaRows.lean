/-
  No cell of these rows narrows 'for every input' (looked for: loops, veiled, ifaces, maps, wideKeys, modest, calm, conditions, laid).
  DERIVED. THE GIVEN ROWS OF THIS SEAT. 11 by the template 'for every input the law returns true; each argument reads behind the call as it read before'; 0 by the template 'total and deterministic' (their statements: YtaneilegnmnfpaaTotals.lean).
  GIVEN WITH THE SEED: the statements are not yours to turn. If you find one false, say at which input.
  Laid BY PROGRAM, IN A SANDBOX (cutbox-rows.mjs): the forced cells as the released guide's own fill.sh prints them over the translation f63df4458daa7636… (all of the seat's roots in one cut). By AI agents, Wed Nov 11 2026. No macro, syntax, notation, axiom, sorry.
-/
import Derived.Test.YtaneilegnmnfpaaChecked
import GoSem.Claim
import GoSem.ClaimJoined
import GoSem.ClaimMapViews
import Derived.JoinedTies
import Derived.KernelRfl
namespace Go.Proofs.Ytaneilegnmnfpaa
/- THE CELL 'sum', in the pinned program and in every row, IS THE sha256 OF THE DUMP (.gsa) THAT YtaneilegnmnfpaaProg.lean LOADS. Nothing in Lean hashes anything: it is a label: what it is worth is what the hold of that sum in a sandbox is worth. -/
noncomputable def Try.pinned : Pinned := { name := "ytaneilegnmnfpaa", sum := "f63df4458daa763658490c4975170a6cc58c615808f5cdcf1d9b24c56b6dfcb5", checked := Try.checked }
namespace Rows
def none {H : Type} : Left H := { results := [], args := [] }

/-- 'laws.FnExactFormatBlock': WHATEVER THE INPUT: true; the input reads as it did. -/
def fnExactFormatBlockSpec : ChangeSpec := { name := "fnExactFormatBlock", fn := fun _ => fun
  | [d] => { results := [.lit (.bool true)], args := [d] }
  | _ => none }
def fnExactFormatBlockRow : OpenClaim := { program := "ytaneilegnmnfpaa", sum := "f63df4458daa763658490c4975170a6cc58c615808f5cdcf1d9b24c56b6dfcb5", func := "loop.example/soughtstreams/laws.FnExactFormatBlock", spec := "fnExactFormatBlock", apart := false }
def FnExactFormatBlockSaid : Prop := fnExactFormatBlockRow.holds Try.pinned (OpenSpec.ofChange fnExactFormatBlockSpec)

/-- ITS FALSE NEIGHBOUR: 'it returns false'. Refute it at one input. -/
def fnExactFormatBlockWrong : ChangeSpec := { name := "fnExactFormatBlock", fn := fun _ => fun
  | [d] => { results := [.lit (.bool false)], args := [d] }
  | _ => none }
def FnExactFormatBlockWrongFalsely : Prop := fnExactFormatBlockRow.holds Try.pinned (OpenSpec.ofChange fnExactFormatBlockWrong)

/-- 'laws.FnExactSeekBlock': WHATEVER THE INPUT: true; the input reads as it did. -/
def fnExactSeekBlockSpec : ChangeSpec := { name := "fnExactSeekBlock", fn := fun _ => fun
  | [d1, d2] => { results := [.lit (.bool true)], args := [d1, d2] }
  | _ => none }
def fnExactSeekBlockRow : OpenClaim := { program := "ytaneilegnmnfpaa", sum := "f63df4458daa763658490c4975170a6cc58c615808f5cdcf1d9b24c56b6dfcb5", func := "loop.example/soughtstreams/laws.FnExactSeekBlock", spec := "fnExactSeekBlock", apart := false }
def FnExactSeekBlockSaid : Prop := fnExactSeekBlockRow.holds Try.pinned (OpenSpec.ofChange fnExactSeekBlockSpec)

/-- ITS FALSE NEIGHBOUR: 'it returns false'. Refute it at one input. -/
def fnExactSeekBlockWrong : ChangeSpec := { name := "fnExactSeekBlock", fn := fun _ => fun
  | [d1, d2] => { results := [.lit (.bool false)], args := [d1, d2] }
  | _ => none }
def FnExactSeekBlockWrongFalsely : Prop := fnExactSeekBlockRow.holds Try.pinned (OpenSpec.ofChange fnExactSeekBlockWrong)

/-- 'laws.FnExactParseBlock': WHATEVER THE INPUT: true; the input reads as it did. -/
def fnExactParseBlockSpec : ChangeSpec := { name := "fnExactParseBlock", fn := fun _ => fun
  | [d1, d2] => { results := [.lit (.bool true)], args := [d1, d2] }
  | _ => none }
def fnExactParseBlockRow : OpenClaim := { program := "ytaneilegnmnfpaa", sum := "f63df4458daa763658490c4975170a6cc58c615808f5cdcf1d9b24c56b6dfcb5", func := "loop.example/soughtstreams/laws.FnExactParseBlock", spec := "fnExactParseBlock", apart := false }
def FnExactParseBlockSaid : Prop := fnExactParseBlockRow.holds Try.pinned (OpenSpec.ofChange fnExactParseBlockSpec)

/-- ITS FALSE NEIGHBOUR: 'it returns false'. Refute it at one input. -/
def fnExactParseBlockWrong : ChangeSpec := { name := "fnExactParseBlock", fn := fun _ => fun
  | [d1, d2] => { results := [.lit (.bool false)], args := [d1, d2] }
  | _ => none }
def FnExactParseBlockWrongFalsely : Prop := fnExactParseBlockRow.holds Try.pinned (OpenSpec.ofChange fnExactParseBlockWrong)

/-- 'laws.FnExactContainerSize': WHATEVER THE INPUT: true; the input reads as it did. -/
def fnExactContainerSizeSpec : ChangeSpec := { name := "fnExactContainerSize", fn := fun _ => fun
  | [d] => { results := [.lit (.bool true)], args := [d] }
  | _ => none }
def fnExactContainerSizeRow : OpenClaim := { program := "ytaneilegnmnfpaa", sum := "f63df4458daa763658490c4975170a6cc58c615808f5cdcf1d9b24c56b6dfcb5", func := "loop.example/soughtstreams/laws.FnExactContainerSize", spec := "fnExactContainerSize", apart := false }
def FnExactContainerSizeSaid : Prop := fnExactContainerSizeRow.holds Try.pinned (OpenSpec.ofChange fnExactContainerSizeSpec)

/-- ITS FALSE NEIGHBOUR: 'it returns false'. Refute it at one input. -/
def fnExactContainerSizeWrong : ChangeSpec := { name := "fnExactContainerSize", fn := fun _ => fun
  | [d] => { results := [.lit (.bool false)], args := [d] }
  | _ => none }
def FnExactContainerSizeWrongFalsely : Prop := fnExactContainerSizeRow.holds Try.pinned (OpenSpec.ofChange fnExactContainerSizeWrong)

/-- 'laws.FnExactCountRaw': WHATEVER THE INPUT: true; the input reads as it did. -/
def fnExactCountRawSpec : ChangeSpec := { name := "fnExactCountRaw", fn := fun _ => fun
  | [d] => { results := [.lit (.bool true)], args := [d] }
  | _ => none }
def fnExactCountRawRow : OpenClaim := { program := "ytaneilegnmnfpaa", sum := "f63df4458daa763658490c4975170a6cc58c615808f5cdcf1d9b24c56b6dfcb5", func := "loop.example/soughtstreams/laws.FnExactCountRaw", spec := "fnExactCountRaw", apart := false }
def FnExactCountRawSaid : Prop := fnExactCountRawRow.holds Try.pinned (OpenSpec.ofChange fnExactCountRawSpec)

/-- ITS FALSE NEIGHBOUR: 'it returns false'. Refute it at one input. -/
def fnExactCountRawWrong : ChangeSpec := { name := "fnExactCountRaw", fn := fun _ => fun
  | [d] => { results := [.lit (.bool false)], args := [d] }
  | _ => none }
def FnExactCountRawWrongFalsely : Prop := fnExactCountRawRow.holds Try.pinned (OpenSpec.ofChange fnExactCountRawWrong)

/-- 'laws.FnExactTouchedBlocks': WHATEVER THE INPUT: true; the input reads as it did. -/
def fnExactTouchedBlocksSpec : ChangeSpec := { name := "fnExactTouchedBlocks", fn := fun _ => fun
  | [d1, d2, d3] => { results := [.lit (.bool true)], args := [d1, d2, d3] }
  | _ => none }
def fnExactTouchedBlocksRow : OpenClaim := { program := "ytaneilegnmnfpaa", sum := "f63df4458daa763658490c4975170a6cc58c615808f5cdcf1d9b24c56b6dfcb5", func := "loop.example/soughtstreams/laws.FnExactTouchedBlocks", spec := "fnExactTouchedBlocks", apart := false }
def FnExactTouchedBlocksSaid : Prop := fnExactTouchedBlocksRow.holds Try.pinned (OpenSpec.ofChange fnExactTouchedBlocksSpec)

/-- ITS FALSE NEIGHBOUR: 'it returns false'. Refute it at one input. -/
def fnExactTouchedBlocksWrong : ChangeSpec := { name := "fnExactTouchedBlocks", fn := fun _ => fun
  | [d1, d2, d3] => { results := [.lit (.bool false)], args := [d1, d2, d3] }
  | _ => none }
def FnExactTouchedBlocksWrongFalsely : Prop := fnExactTouchedBlocksRow.holds Try.pinned (OpenSpec.ofChange fnExactTouchedBlocksWrong)

/-- 'laws.FnExactContainerBlocks': WHATEVER THE INPUT: true; the input reads as it did. -/
def fnExactContainerBlocksSpec : ChangeSpec := { name := "fnExactContainerBlocks", fn := fun _ => fun
  | [d] => { results := [.lit (.bool true)], args := [d] }
  | _ => none }
def fnExactContainerBlocksRow : OpenClaim := { program := "ytaneilegnmnfpaa", sum := "f63df4458daa763658490c4975170a6cc58c615808f5cdcf1d9b24c56b6dfcb5", func := "loop.example/soughtstreams/laws.FnExactContainerBlocks", spec := "fnExactContainerBlocks", apart := false }
def FnExactContainerBlocksSaid : Prop := fnExactContainerBlocksRow.holds Try.pinned (OpenSpec.ofChange fnExactContainerBlocksSpec)

/-- ITS FALSE NEIGHBOUR: 'it returns false'. Refute it at one input. -/
def fnExactContainerBlocksWrong : ChangeSpec := { name := "fnExactContainerBlocks", fn := fun _ => fun
  | [d] => { results := [.lit (.bool false)], args := [d] }
  | _ => none }
def FnExactContainerBlocksWrongFalsely : Prop := fnExactContainerBlocksRow.holds Try.pinned (OpenSpec.ofChange fnExactContainerBlocksWrong)

/-- 'laws.FnExactIndexOf': WHATEVER THE INPUT: true; the input reads as it did. -/
def fnExactIndexOfSpec : ChangeSpec := { name := "fnExactIndexOf", fn := fun _ => fun
  | [d] => { results := [.lit (.bool true)], args := [d] }
  | _ => none }
def fnExactIndexOfRow : OpenClaim := { program := "ytaneilegnmnfpaa", sum := "f63df4458daa763658490c4975170a6cc58c615808f5cdcf1d9b24c56b6dfcb5", func := "loop.example/soughtstreams/laws.FnExactIndexOf", spec := "fnExactIndexOf", apart := false }
def FnExactIndexOfSaid : Prop := fnExactIndexOfRow.holds Try.pinned (OpenSpec.ofChange fnExactIndexOfSpec)

/-- ITS FALSE NEIGHBOUR: 'it returns false'. Refute it at one input. -/
def fnExactIndexOfWrong : ChangeSpec := { name := "fnExactIndexOf", fn := fun _ => fun
  | [d] => { results := [.lit (.bool false)], args := [d] }
  | _ => none }
def FnExactIndexOfWrongFalsely : Prop := fnExactIndexOfRow.holds Try.pinned (OpenSpec.ofChange fnExactIndexOfWrong)

/-- 'laws.FnBlockChange': WHATEVER THE INPUT: true; the input reads as it did. -/
def fnBlockChangeSpec : ChangeSpec := { name := "fnBlockChange", fn := fun _ => fun
  | [d1, d2] => { results := [.lit (.bool true)], args := [d1, d2] }
  | _ => none }
def fnBlockChangeRow : OpenClaim := { program := "ytaneilegnmnfpaa", sum := "f63df4458daa763658490c4975170a6cc58c615808f5cdcf1d9b24c56b6dfcb5", func := "loop.example/soughtstreams/laws.FnBlockChange", spec := "fnBlockChange", apart := false }
def FnBlockChangeSaid : Prop := fnBlockChangeRow.holds Try.pinned (OpenSpec.ofChange fnBlockChangeSpec)

/-- ITS FALSE NEIGHBOUR: 'it returns false'. Refute it at one input. -/
def fnBlockChangeWrong : ChangeSpec := { name := "fnBlockChange", fn := fun _ => fun
  | [d1, d2] => { results := [.lit (.bool false)], args := [d1, d2] }
  | _ => none }
def FnBlockChangeWrongFalsely : Prop := fnBlockChangeRow.holds Try.pinned (OpenSpec.ofChange fnBlockChangeWrong)

/-- 'laws.FnBlockText': WHATEVER THE INPUT: true; the input reads as it did. -/
def fnBlockTextSpec : ChangeSpec := { name := "fnBlockText", fn := fun _ => fun
  | [d1, d2] => { results := [.lit (.bool true)], args := [d1, d2] }
  | _ => none }
def fnBlockTextRow : OpenClaim := { program := "ytaneilegnmnfpaa", sum := "f63df4458daa763658490c4975170a6cc58c615808f5cdcf1d9b24c56b6dfcb5", func := "loop.example/soughtstreams/laws.FnBlockText", spec := "fnBlockText", apart := false }
def FnBlockTextSaid : Prop := fnBlockTextRow.holds Try.pinned (OpenSpec.ofChange fnBlockTextSpec)

/-- ITS FALSE NEIGHBOUR: 'it returns false'. Refute it at one input. -/
def fnBlockTextWrong : ChangeSpec := { name := "fnBlockText", fn := fun _ => fun
  | [d1, d2] => { results := [.lit (.bool false)], args := [d1, d2] }
  | _ => none }
def FnBlockTextWrongFalsely : Prop := fnBlockTextRow.holds Try.pinned (OpenSpec.ofChange fnBlockTextWrong)

/-- 'laws.FnBlockParse': WHATEVER THE INPUT: true; the input reads as it did. -/
def fnBlockParseSpec : ChangeSpec := { name := "fnBlockParse", fn := fun _ => fun
  | [d] => { results := [.lit (.bool true)], args := [d] }
  | _ => none }
def fnBlockParseRow : OpenClaim := { program := "ytaneilegnmnfpaa", sum := "f63df4458daa763658490c4975170a6cc58c615808f5cdcf1d9b24c56b6dfcb5", func := "loop.example/soughtstreams/laws.FnBlockParse", spec := "fnBlockParse", apart := false }
def FnBlockParseSaid : Prop := fnBlockParseRow.holds Try.pinned (OpenSpec.ofChange fnBlockParseSpec)

/-- ITS FALSE NEIGHBOUR: 'it returns false'. Refute it at one input. -/
def fnBlockParseWrong : ChangeSpec := { name := "fnBlockParse", fn := fun _ => fun
  | [d] => { results := [.lit (.bool false)], args := [d] }
  | _ => none }
def FnBlockParseWrongFalsely : Prop := fnBlockParseRow.holds Try.pinned (OpenSpec.ofChange fnBlockParseWrong)

/- THE SECOND FORM. 'bulk': how many values and letters a reading holds, each counted each time it is reached (what is shared counts as often as it is met; a slice's spare places count too). A statement '..UptoSaid' is the law's where the arguments, and the package variables that the reading takes, are together of bulk at most 1048576: NARROWER than '..Said'. Prove '..Said' where nothing that the law and all that it calls make is longer than what came in: it says more and counts as full. Else prove '..UptoSaid'. A law counts once. -/
mutual
def uptoBulk {H : Type} : DataW H → Nat
  | .lit (.string bytes) => bytes.length + 1
  | .lit _ => 1
  | .nil => 1
  | .ptr d => uptoBulk d + 1
  | .slice elems spare => uptoBulkAll elems + uptoBulkAll spare + 1
  | .agg parts => uptoBulkAll parts + 1
  | .iface _ d => uptoBulk d + 1
  | .map entries => uptoBulkEntries entries + 1
  | .held _ => 1
def uptoBulkAll {H : Type} : List (DataW H) → Nat
  | [] => 0
  | d :: r => uptoBulk d + uptoBulkAll r
def uptoBulkEntries {H : Type} : List (Lit × DataW H) → Nat
  | [] => 0
  | x :: r => uptoBulkEntry x + uptoBulkEntries r
def uptoBulkEntry {H : Type} : Lit × DataW H → Nat
  | (.string bytes, d) => bytes.length + uptoBulk d + 1
  | (_, d) => uptoBulk d + 1
 end
def uptoSmall : (H : Type) → List (DataW H) → Bool := fun _ ds => decide (uptoBulkAll ds ≤ 1048576)
def OpenSpec.upto (s : _root_.Go.ChangeSpec) : _root_.Go.OpenSpec := { _root_.Go.OpenSpec.ofChange s with cond := some uptoSmall }

/-- 'laws.FnExactFormatBlock', WHERE WHAT IT READS IS OF BULK AT MOST 1048576: true; the input reads as it did. -/
def fnExactFormatBlockUptoRow : OpenClaim := { program := "ytaneilegnmnfpaa", sum := "f63df4458daa763658490c4975170a6cc58c615808f5cdcf1d9b24c56b6dfcb5", func := "loop.example/soughtstreams/laws.FnExactFormatBlock", spec := "fnExactFormatBlock", apart := false, narrowed := true }
def FnExactFormatBlockUptoSaid : Prop := fnExactFormatBlockUptoRow.holds Try.pinned (OpenSpec.upto fnExactFormatBlockSpec)

/-- 'laws.FnExactSeekBlock', WHERE WHAT IT READS IS OF BULK AT MOST 1048576: true; the input reads as it did. -/
def fnExactSeekBlockUptoRow : OpenClaim := { program := "ytaneilegnmnfpaa", sum := "f63df4458daa763658490c4975170a6cc58c615808f5cdcf1d9b24c56b6dfcb5", func := "loop.example/soughtstreams/laws.FnExactSeekBlock", spec := "fnExactSeekBlock", apart := false, narrowed := true }
def FnExactSeekBlockUptoSaid : Prop := fnExactSeekBlockUptoRow.holds Try.pinned (OpenSpec.upto fnExactSeekBlockSpec)

/-- 'laws.FnExactParseBlock', WHERE WHAT IT READS IS OF BULK AT MOST 1048576: true; the input reads as it did. -/
def fnExactParseBlockUptoRow : OpenClaim := { program := "ytaneilegnmnfpaa", sum := "f63df4458daa763658490c4975170a6cc58c615808f5cdcf1d9b24c56b6dfcb5", func := "loop.example/soughtstreams/laws.FnExactParseBlock", spec := "fnExactParseBlock", apart := false, narrowed := true }
def FnExactParseBlockUptoSaid : Prop := fnExactParseBlockUptoRow.holds Try.pinned (OpenSpec.upto fnExactParseBlockSpec)

/-- 'laws.FnExactContainerSize', WHERE WHAT IT READS IS OF BULK AT MOST 1048576: true; the input reads as it did. -/
def fnExactContainerSizeUptoRow : OpenClaim := { program := "ytaneilegnmnfpaa", sum := "f63df4458daa763658490c4975170a6cc58c615808f5cdcf1d9b24c56b6dfcb5", func := "loop.example/soughtstreams/laws.FnExactContainerSize", spec := "fnExactContainerSize", apart := false, narrowed := true }
def FnExactContainerSizeUptoSaid : Prop := fnExactContainerSizeUptoRow.holds Try.pinned (OpenSpec.upto fnExactContainerSizeSpec)

/-- 'laws.FnExactCountRaw', WHERE WHAT IT READS IS OF BULK AT MOST 1048576: true; the input reads as it did. -/
def fnExactCountRawUptoRow : OpenClaim := { program := "ytaneilegnmnfpaa", sum := "f63df4458daa763658490c4975170a6cc58c615808f5cdcf1d9b24c56b6dfcb5", func := "loop.example/soughtstreams/laws.FnExactCountRaw", spec := "fnExactCountRaw", apart := false, narrowed := true }
def FnExactCountRawUptoSaid : Prop := fnExactCountRawUptoRow.holds Try.pinned (OpenSpec.upto fnExactCountRawSpec)

/-- 'laws.FnExactTouchedBlocks', WHERE WHAT IT READS IS OF BULK AT MOST 1048576: true; the input reads as it did. -/
def fnExactTouchedBlocksUptoRow : OpenClaim := { program := "ytaneilegnmnfpaa", sum := "f63df4458daa763658490c4975170a6cc58c615808f5cdcf1d9b24c56b6dfcb5", func := "loop.example/soughtstreams/laws.FnExactTouchedBlocks", spec := "fnExactTouchedBlocks", apart := false, narrowed := true }
def FnExactTouchedBlocksUptoSaid : Prop := fnExactTouchedBlocksUptoRow.holds Try.pinned (OpenSpec.upto fnExactTouchedBlocksSpec)

/-- 'laws.FnExactContainerBlocks', WHERE WHAT IT READS IS OF BULK AT MOST 1048576: true; the input reads as it did. -/
def fnExactContainerBlocksUptoRow : OpenClaim := { program := "ytaneilegnmnfpaa", sum := "f63df4458daa763658490c4975170a6cc58c615808f5cdcf1d9b24c56b6dfcb5", func := "loop.example/soughtstreams/laws.FnExactContainerBlocks", spec := "fnExactContainerBlocks", apart := false, narrowed := true }
def FnExactContainerBlocksUptoSaid : Prop := fnExactContainerBlocksUptoRow.holds Try.pinned (OpenSpec.upto fnExactContainerBlocksSpec)

/-- 'laws.FnExactIndexOf', WHERE WHAT IT READS IS OF BULK AT MOST 1048576: true; the input reads as it did. -/
def fnExactIndexOfUptoRow : OpenClaim := { program := "ytaneilegnmnfpaa", sum := "f63df4458daa763658490c4975170a6cc58c615808f5cdcf1d9b24c56b6dfcb5", func := "loop.example/soughtstreams/laws.FnExactIndexOf", spec := "fnExactIndexOf", apart := false, narrowed := true }
def FnExactIndexOfUptoSaid : Prop := fnExactIndexOfUptoRow.holds Try.pinned (OpenSpec.upto fnExactIndexOfSpec)

/-- 'laws.FnBlockChange', WHERE WHAT IT READS IS OF BULK AT MOST 1048576: true; the input reads as it did. -/
def fnBlockChangeUptoRow : OpenClaim := { program := "ytaneilegnmnfpaa", sum := "f63df4458daa763658490c4975170a6cc58c615808f5cdcf1d9b24c56b6dfcb5", func := "loop.example/soughtstreams/laws.FnBlockChange", spec := "fnBlockChange", apart := false, narrowed := true }
def FnBlockChangeUptoSaid : Prop := fnBlockChangeUptoRow.holds Try.pinned (OpenSpec.upto fnBlockChangeSpec)

/-- 'laws.FnBlockText', WHERE WHAT IT READS IS OF BULK AT MOST 1048576: true; the input reads as it did. -/
def fnBlockTextUptoRow : OpenClaim := { program := "ytaneilegnmnfpaa", sum := "f63df4458daa763658490c4975170a6cc58c615808f5cdcf1d9b24c56b6dfcb5", func := "loop.example/soughtstreams/laws.FnBlockText", spec := "fnBlockText", apart := false, narrowed := true }
def FnBlockTextUptoSaid : Prop := fnBlockTextUptoRow.holds Try.pinned (OpenSpec.upto fnBlockTextSpec)

/-- 'laws.FnBlockParse', WHERE WHAT IT READS IS OF BULK AT MOST 1048576: true; the input reads as it did. -/
def fnBlockParseUptoRow : OpenClaim := { program := "ytaneilegnmnfpaa", sum := "f63df4458daa763658490c4975170a6cc58c615808f5cdcf1d9b24c56b6dfcb5", func := "loop.example/soughtstreams/laws.FnBlockParse", spec := "fnBlockParse", apart := false, narrowed := true }
def FnBlockParseUptoSaid : Prop := fnBlockParseUptoRow.holds Try.pinned (OpenSpec.upto fnBlockParseSpec)

end Rows
end Go.Proofs.Ytaneilegnmnfpaa
