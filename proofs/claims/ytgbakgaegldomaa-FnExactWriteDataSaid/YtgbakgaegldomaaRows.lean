/-
  No cell of these rows narrows 'for every input' (looked for: loops, veiled, ifaces, maps, wideKeys, modest, calm, conditions, laid).
  DERIVED. THE GIVEN ROWS OF THIS SEAT. 4 by the template 'for every input the law returns true; each argument reads behind the call as it read before'; 0 by the template 'total and deterministic' (their statements: YtgbakgaegldomaaTotals.lean).
  GIVEN WITH THE SEED: the statements are not yours to turn. If you find one false, say at which input.
  Laid BY PROGRAM, IN A SANDBOX (cutbox-rows.mjs): the forced cells as the released guide's own fill.sh prints them over the translation 67de9235766e1f62… (all of the seat's roots in one cut). By AI agents, Wed Nov 11 2026. No macro, syntax, notation, axiom, sorry.
-/
import Derived.Test.YtgbakgaegldomaaChecked
import GoSem.Claim
import GoSem.ClaimJoined
import GoSem.ClaimMapViews
import Derived.JoinedTies
import Derived.KernelRfl
namespace Go.Proofs.Ytgbakgaegldomaa
/- THE CELL 'sum', in the pinned program and in every row, IS THE sha256 OF THE DUMP (.gsa) THAT YtgbakgaegldomaaProg.lean LOADS. Nothing in Lean hashes anything: it is a label: what it is worth is what the hold of that sum in a sandbox is worth. -/
noncomputable def Try.pinned : Pinned := { name := "ytgbakgaegldomaa", sum := "67de9235766e1f6296471d82237372e884b6fe687e5b44ecacbc6114b14edc9b", checked := Try.checked }
namespace Rows
def none {H : Type} : Left H := { results := [], args := [] }

/-- 'laws.FnExactWriteData': WHATEVER THE INPUT: true; the input reads as it did. -/
def fnExactWriteDataSpec : ChangeSpec := { name := "fnExactWriteData", fn := fun _ => fun
  | [d1, d2] => { results := [.lit (.bool true)], args := [d1, d2] }
  | _ => none }
def fnExactWriteDataRow : OpenClaim := { program := "ytgbakgaegldomaa", sum := "67de9235766e1f6296471d82237372e884b6fe687e5b44ecacbc6114b14edc9b", func := "loop.example/soughtstreams/laws.FnExactWriteData", spec := "fnExactWriteData", apart := false }
def FnExactWriteDataSaid : Prop := fnExactWriteDataRow.holds Try.pinned (OpenSpec.ofChange fnExactWriteDataSpec)

/-- ITS FALSE NEIGHBOUR: 'it returns false'. Refute it at one input. -/
def fnExactWriteDataWrong : ChangeSpec := { name := "fnExactWriteData", fn := fun _ => fun
  | [d1, d2] => { results := [.lit (.bool false)], args := [d1, d2] }
  | _ => none }
def FnExactWriteDataWrongFalsely : Prop := fnExactWriteDataRow.holds Try.pinned (OpenSpec.ofChange fnExactWriteDataWrong)

/-- 'laws.FnWriteParts': WHATEVER THE INPUT: true; the input reads as it did. -/
def fnWritePartsSpec : ChangeSpec := { name := "fnWriteParts", fn := fun _ => fun
  | [d1, d2] => { results := [.lit (.bool true)], args := [d1, d2] }
  | _ => none }
def fnWritePartsRow : OpenClaim := { program := "ytgbakgaegldomaa", sum := "67de9235766e1f6296471d82237372e884b6fe687e5b44ecacbc6114b14edc9b", func := "loop.example/soughtstreams/laws.FnWriteParts", spec := "fnWriteParts", apart := false }
def FnWritePartsSaid : Prop := fnWritePartsRow.holds Try.pinned (OpenSpec.ofChange fnWritePartsSpec)

/-- ITS FALSE NEIGHBOUR: 'it returns false'. Refute it at one input. -/
def fnWritePartsWrong : ChangeSpec := { name := "fnWriteParts", fn := fun _ => fun
  | [d1, d2] => { results := [.lit (.bool false)], args := [d1, d2] }
  | _ => none }
def FnWritePartsWrongFalsely : Prop := fnWritePartsRow.holds Try.pinned (OpenSpec.ofChange fnWritePartsWrong)

/-- 'laws.FnWriteBits': WHATEVER THE INPUT: true; the input reads as it did. -/
def fnWriteBitsSpec : ChangeSpec := { name := "fnWriteBits", fn := fun _ => fun
  | [d] => { results := [.lit (.bool true)], args := [d] }
  | _ => none }
def fnWriteBitsRow : OpenClaim := { program := "ytgbakgaegldomaa", sum := "67de9235766e1f6296471d82237372e884b6fe687e5b44ecacbc6114b14edc9b", func := "loop.example/soughtstreams/laws.FnWriteBits", spec := "fnWriteBits", apart := false }
def FnWriteBitsSaid : Prop := fnWriteBitsRow.holds Try.pinned (OpenSpec.ofChange fnWriteBitsSpec)

/-- ITS FALSE NEIGHBOUR: 'it returns false'. Refute it at one input. -/
def fnWriteBitsWrong : ChangeSpec := { name := "fnWriteBits", fn := fun _ => fun
  | [d] => { results := [.lit (.bool false)], args := [d] }
  | _ => none }
def FnWriteBitsWrongFalsely : Prop := fnWriteBitsRow.holds Try.pinned (OpenSpec.ofChange fnWriteBitsWrong)

/-- 'laws.FnExactWriteAll': WHATEVER THE INPUT: true; the input reads as it did. -/
def fnExactWriteAllSpec : ChangeSpec := { name := "fnExactWriteAll", fn := fun _ => fun
  | [d1, d2] => { results := [.lit (.bool true)], args := [d1, d2] }
  | _ => none }
def fnExactWriteAllRow : OpenClaim := { program := "ytgbakgaegldomaa", sum := "67de9235766e1f6296471d82237372e884b6fe687e5b44ecacbc6114b14edc9b", func := "loop.example/soughtstreams/laws.FnExactWriteAll", spec := "fnExactWriteAll", inPlace := ["internal/abi.NoEscape"], apart := false }
def FnExactWriteAllSaid : Prop := fnExactWriteAllRow.holds Try.pinned (OpenSpec.ofChange fnExactWriteAllSpec)

/-- ITS FALSE NEIGHBOUR: 'it returns false'. Refute it at one input. -/
def fnExactWriteAllWrong : ChangeSpec := { name := "fnExactWriteAll", fn := fun _ => fun
  | [d1, d2] => { results := [.lit (.bool false)], args := [d1, d2] }
  | _ => none }
def FnExactWriteAllWrongFalsely : Prop := fnExactWriteAllRow.holds Try.pinned (OpenSpec.ofChange fnExactWriteAllWrong)

/- THE SECOND FORM. 'bulk': how many values and letters a reading holds, each counted each time it is reached (what is shared counts as often as it is met; a slice's spare places count too). A statement '..UptoSaid' is the law's where the arguments, and the package variables that the reading takes, are together of bulk at most 1048576: NARROWER than '..Said'. Prove '..Said' where nothing that the law and all that it calls make is longer than what came in: it says more and counts as full. Else prove '..UptoSaid'. A law counts once. -/
mutual
def uptoBulk {H : Type} : DataW H → Nat
  | .lit (.string bytes) => bytes.length + 1
  | .lit _ => 1
  | .nil => 1
  | .ptr d => uptoBulk d + 1
  | .slice elems spare => uptoBulkAll elems + uptoBulkAll spare + 1
  | .agg parts => uptoBulkAll parts + 1
  | .iface _ d => uptoBulk d + 1
  | .map entries => uptoBulkEntries entries + 1
  | .held _ => 1
def uptoBulkAll {H : Type} : List (DataW H) → Nat
  | [] => 0
  | d :: r => uptoBulk d + uptoBulkAll r
def uptoBulkEntries {H : Type} : List (Lit × DataW H) → Nat
  | [] => 0
  | x :: r => uptoBulkEntry x + uptoBulkEntries r
def uptoBulkEntry {H : Type} : Lit × DataW H → Nat
  | (.string bytes, d) => bytes.length + uptoBulk d + 1
  | (_, d) => uptoBulk d + 1
 end
def uptoSmall : (H : Type) → List (DataW H) → Bool := fun _ ds => decide (uptoBulkAll ds ≤ 1048576)
def OpenSpec.upto (s : _root_.Go.ChangeSpec) : _root_.Go.OpenSpec := { _root_.Go.OpenSpec.ofChange s with cond := some uptoSmall }

/-- 'laws.FnExactWriteData', WHERE WHAT IT READS IS OF BULK AT MOST 1048576: true; the input reads as it did. -/
def fnExactWriteDataUptoRow : OpenClaim := { program := "ytgbakgaegldomaa", sum := "67de9235766e1f6296471d82237372e884b6fe687e5b44ecacbc6114b14edc9b", func := "loop.example/soughtstreams/laws.FnExactWriteData", spec := "fnExactWriteData", apart := false, narrowed := true }
def FnExactWriteDataUptoSaid : Prop := fnExactWriteDataUptoRow.holds Try.pinned (OpenSpec.upto fnExactWriteDataSpec)

/-- 'laws.FnWriteParts', WHERE WHAT IT READS IS OF BULK AT MOST 1048576: true; the input reads as it did. -/
def fnWritePartsUptoRow : OpenClaim := { program := "ytgbakgaegldomaa", sum := "67de9235766e1f6296471d82237372e884b6fe687e5b44ecacbc6114b14edc9b", func := "loop.example/soughtstreams/laws.FnWriteParts", spec := "fnWriteParts", apart := false, narrowed := true }
def FnWritePartsUptoSaid : Prop := fnWritePartsUptoRow.holds Try.pinned (OpenSpec.upto fnWritePartsSpec)

/-- 'laws.FnWriteBits', WHERE WHAT IT READS IS OF BULK AT MOST 1048576: true; the input reads as it did. -/
def fnWriteBitsUptoRow : OpenClaim := { program := "ytgbakgaegldomaa", sum := "67de9235766e1f6296471d82237372e884b6fe687e5b44ecacbc6114b14edc9b", func := "loop.example/soughtstreams/laws.FnWriteBits", spec := "fnWriteBits", apart := false, narrowed := true }
def FnWriteBitsUptoSaid : Prop := fnWriteBitsUptoRow.holds Try.pinned (OpenSpec.upto fnWriteBitsSpec)

/-- 'laws.FnExactWriteAll', WHERE WHAT IT READS IS OF BULK AT MOST 1048576: true; the input reads as it did. -/
def fnExactWriteAllUptoRow : OpenClaim := { program := "ytgbakgaegldomaa", sum := "67de9235766e1f6296471d82237372e884b6fe687e5b44ecacbc6114b14edc9b", func := "loop.example/soughtstreams/laws.FnExactWriteAll", spec := "fnExactWriteAll", inPlace := ["internal/abi.NoEscape"], apart := false, narrowed := true }
def FnExactWriteAllUptoSaid : Prop := fnExactWriteAllUptoRow.holds Try.pinned (OpenSpec.upto fnExactWriteAllSpec)

end Rows
end Go.Proofs.Ytgbakgaegldomaa
