/-
  No cell of these rows narrows 'for every input' (looked for: loops, veiled, ifaces, maps, wideKeys, modest, calm, conditions, laid).
  DERIVED. THE GIVEN ROWS OF THIS SEAT. 6 by the template 'for every input the law returns true; each argument reads behind the call as it read before'; 0 by the template 'total and deterministic' (their statements: YtnbmkoapohjnmaaTotals.lean).
  GIVEN WITH THE SEED: the statements are not yours to turn. If you find one false, say at which input.
  Laid BY PROGRAM, IN A SANDBOX (cutbox-rows.mjs): the forced cells as the released guide's own fill.sh prints them over the translation c072a22dac77743f… (all of the seat's roots in one cut). By AI agents, Wed Nov 11 2026. No macro, syntax, notation, axiom, sorry.
-/
import Derived.Test.YtnbmkoapohjnmaaChecked
import GoSem.Claim
import GoSem.ClaimJoined
import GoSem.ClaimMapViews
import Derived.JoinedTies
import Derived.KernelRfl
namespace Go.Proofs.Ytnbmkoapohjnmaa
/- THE CELL 'sum', in the pinned program and in every row, IS THE sha256 OF THE DUMP (.gsa) THAT YtnbmkoapohjnmaaProg.lean LOADS. Nothing in Lean hashes anything: it is a label: what it is worth is what the hold of that sum in a sandbox is worth. -/
noncomputable def Try.pinned : Pinned := { name := "ytnbmkoapohjnmaa", sum := "c072a22dac77743fc95a0c0a4775ffae82bd71ca8430757f13f9aab80f53b875", checked := Try.checked }
namespace Rows
def none {H : Type} : Left H := { results := [], args := [] }

/-- 'laws.FnExactBlockData': WHATEVER THE INPUT: true; the input reads as it did. -/
def fnExactBlockDataSpec : ChangeSpec := { name := "fnExactBlockData", fn := fun _ => fun
  | [d1, d2, d3] => { results := [.lit (.bool true)], args := [d1, d2, d3] }
  | _ => none }
def fnExactBlockDataRow : OpenClaim := { program := "ytnbmkoapohjnmaa", sum := "c072a22dac77743fc95a0c0a4775ffae82bd71ca8430757f13f9aab80f53b875", func := "loop.example/soughtstreams/laws.FnExactBlockData", spec := "fnExactBlockData", recurses := true, apart := false }
def FnExactBlockDataSaid : Prop := fnExactBlockDataRow.holds Try.pinned (OpenSpec.ofChange fnExactBlockDataSpec)

/-- ITS FALSE NEIGHBOUR: 'it returns false'. Refute it at one input. -/
def fnExactBlockDataWrong : ChangeSpec := { name := "fnExactBlockData", fn := fun _ => fun
  | [d1, d2, d3] => { results := [.lit (.bool false)], args := [d1, d2, d3] }
  | _ => none }
def FnExactBlockDataWrongFalsely : Prop := fnExactBlockDataRow.holds Try.pinned (OpenSpec.ofChange fnExactBlockDataWrong)

/-- 'laws.FnExactSealStream': WHATEVER THE INPUT: true; the input reads as it did. -/
def fnExactSealStreamSpec : ChangeSpec := { name := "fnExactSealStream", fn := fun _ => fun
  | [d1, d2, d3] => { results := [.lit (.bool true)], args := [d1, d2, d3] }
  | _ => none }
def fnExactSealStreamRow : OpenClaim := { program := "ytnbmkoapohjnmaa", sum := "c072a22dac77743fc95a0c0a4775ffae82bd71ca8430757f13f9aab80f53b875", func := "loop.example/soughtstreams/laws.FnExactSealStream", spec := "fnExactSealStream", recurses := true, apart := false }
def FnExactSealStreamSaid : Prop := fnExactSealStreamRow.holds Try.pinned (OpenSpec.ofChange fnExactSealStreamSpec)

/-- ITS FALSE NEIGHBOUR: 'it returns false'. Refute it at one input. -/
def fnExactSealStreamWrong : ChangeSpec := { name := "fnExactSealStream", fn := fun _ => fun
  | [d1, d2, d3] => { results := [.lit (.bool false)], args := [d1, d2, d3] }
  | _ => none }
def FnExactSealStreamWrongFalsely : Prop := fnExactSealStreamRow.holds Try.pinned (OpenSpec.ofChange fnExactSealStreamWrong)

/-- 'laws.FnExactBlockOf': WHATEVER THE INPUT: true; the input reads as it did. -/
def fnExactBlockOfSpec : ChangeSpec := { name := "fnExactBlockOf", fn := fun _ => fun
  | [d1, d2, d3, d4] => { results := [.lit (.bool true)], args := [d1, d2, d3, d4] }
  | _ => none }
def fnExactBlockOfRow : OpenClaim := { program := "ytnbmkoapohjnmaa", sum := "c072a22dac77743fc95a0c0a4775ffae82bd71ca8430757f13f9aab80f53b875", func := "loop.example/soughtstreams/laws.FnExactBlockOf", spec := "fnExactBlockOf", recurses := true, apart := false }
def FnExactBlockOfSaid : Prop := fnExactBlockOfRow.holds Try.pinned (OpenSpec.ofChange fnExactBlockOfSpec)

/-- ITS FALSE NEIGHBOUR: 'it returns false'. Refute it at one input. -/
def fnExactBlockOfWrong : ChangeSpec := { name := "fnExactBlockOf", fn := fun _ => fun
  | [d1, d2, d3, d4] => { results := [.lit (.bool false)], args := [d1, d2, d3, d4] }
  | _ => none }
def FnExactBlockOfWrongFalsely : Prop := fnExactBlockOfRow.holds Try.pinned (OpenSpec.ofChange fnExactBlockOfWrong)

/-- 'laws.FnExactOpenStream': WHATEVER THE INPUT: true; the input reads as it did. -/
def fnExactOpenStreamSpec : ChangeSpec := { name := "fnExactOpenStream", fn := fun _ => fun
  | [d1, d2, d3] => { results := [.lit (.bool true)], args := [d1, d2, d3] }
  | _ => none }
def fnExactOpenStreamRow : OpenClaim := { program := "ytnbmkoapohjnmaa", sum := "c072a22dac77743fc95a0c0a4775ffae82bd71ca8430757f13f9aab80f53b875", func := "loop.example/soughtstreams/laws.FnExactOpenStream", spec := "fnExactOpenStream", recurses := true, apart := false }
def FnExactOpenStreamSaid : Prop := fnExactOpenStreamRow.holds Try.pinned (OpenSpec.ofChange fnExactOpenStreamSpec)

/-- ITS FALSE NEIGHBOUR: 'it returns false'. Refute it at one input. -/
def fnExactOpenStreamWrong : ChangeSpec := { name := "fnExactOpenStream", fn := fun _ => fun
  | [d1, d2, d3] => { results := [.lit (.bool false)], args := [d1, d2, d3] }
  | _ => none }
def FnExactOpenStreamWrongFalsely : Prop := fnExactOpenStreamRow.holds Try.pinned (OpenSpec.ofChange fnExactOpenStreamWrong)

/-- 'laws.FnExactBestDict': WHATEVER THE INPUT: true; the input reads as it did. -/
def fnExactBestDictSpec : ChangeSpec := { name := "fnExactBestDict", fn := fun _ => fun
  | [d1, d2, d3] => { results := [.lit (.bool true)], args := [d1, d2, d3] }
  | _ => none }
def fnExactBestDictRow : OpenClaim := { program := "ytnbmkoapohjnmaa", sum := "c072a22dac77743fc95a0c0a4775ffae82bd71ca8430757f13f9aab80f53b875", func := "loop.example/soughtstreams/laws.FnExactBestDict", spec := "fnExactBestDict", recurses := true, apart := false }
def FnExactBestDictSaid : Prop := fnExactBestDictRow.holds Try.pinned (OpenSpec.ofChange fnExactBestDictSpec)

/-- ITS FALSE NEIGHBOUR: 'it returns false'. Refute it at one input. -/
def fnExactBestDictWrong : ChangeSpec := { name := "fnExactBestDict", fn := fun _ => fun
  | [d1, d2, d3] => { results := [.lit (.bool false)], args := [d1, d2, d3] }
  | _ => none }
def FnExactBestDictWrongFalsely : Prop := fnExactBestDictRow.holds Try.pinned (OpenSpec.ofChange fnExactBestDictWrong)

/-- 'laws.FnExactBestSample': WHATEVER THE INPUT: true; the input reads as it did. -/
def fnExactBestSampleSpec : ChangeSpec := { name := "fnExactBestSample", fn := fun _ => fun
  | [d1, d2] => { results := [.lit (.bool true)], args := [d1, d2] }
  | _ => none }
def fnExactBestSampleRow : OpenClaim := { program := "ytnbmkoapohjnmaa", sum := "c072a22dac77743fc95a0c0a4775ffae82bd71ca8430757f13f9aab80f53b875", func := "loop.example/soughtstreams/laws.FnExactBestSample", spec := "fnExactBestSample", recurses := true, apart := false }
def FnExactBestSampleSaid : Prop := fnExactBestSampleRow.holds Try.pinned (OpenSpec.ofChange fnExactBestSampleSpec)

/-- ITS FALSE NEIGHBOUR: 'it returns false'. Refute it at one input. -/
def fnExactBestSampleWrong : ChangeSpec := { name := "fnExactBestSample", fn := fun _ => fun
  | [d1, d2] => { results := [.lit (.bool false)], args := [d1, d2] }
  | _ => none }
def FnExactBestSampleWrongFalsely : Prop := fnExactBestSampleRow.holds Try.pinned (OpenSpec.ofChange fnExactBestSampleWrong)

/- THE SECOND FORM. 'bulk': how many values and letters a reading holds, each counted each time it is reached (what is shared counts as often as it is met; a slice's spare places count too). A statement '..UptoSaid' is the law's where the arguments, and the package variables that the reading takes, are together of bulk at most 1048576: NARROWER than '..Said'. Prove '..Said' where nothing that the law and all that it calls make is longer than what came in: it says more and counts as full. Else prove '..UptoSaid'. A law counts once. -/
mutual
def uptoBulk {H : Type} : DataW H → Nat
  | .lit (.string bytes) => bytes.length + 1
  | .lit _ => 1
  | .nil => 1
  | .ptr d => uptoBulk d + 1
  | .slice elems spare => uptoBulkAll elems + uptoBulkAll spare + 1
  | .agg parts => uptoBulkAll parts + 1
  | .iface _ d => uptoBulk d + 1
  | .map entries => uptoBulkEntries entries + 1
  | .held _ => 1
def uptoBulkAll {H : Type} : List (DataW H) → Nat
  | [] => 0
  | d :: r => uptoBulk d + uptoBulkAll r
def uptoBulkEntries {H : Type} : List (Lit × DataW H) → Nat
  | [] => 0
  | x :: r => uptoBulkEntry x + uptoBulkEntries r
def uptoBulkEntry {H : Type} : Lit × DataW H → Nat
  | (.string bytes, d) => bytes.length + uptoBulk d + 1
  | (_, d) => uptoBulk d + 1
 end
def uptoSmall : (H : Type) → List (DataW H) → Bool := fun _ ds => decide (uptoBulkAll ds ≤ 1048576)
def OpenSpec.upto (s : _root_.Go.ChangeSpec) : _root_.Go.OpenSpec := { _root_.Go.OpenSpec.ofChange s with cond := some uptoSmall }

/-- 'laws.FnExactBlockData', WHERE WHAT IT READS IS OF BULK AT MOST 1048576: true; the input reads as it did. -/
def fnExactBlockDataUptoRow : OpenClaim := { program := "ytnbmkoapohjnmaa", sum := "c072a22dac77743fc95a0c0a4775ffae82bd71ca8430757f13f9aab80f53b875", func := "loop.example/soughtstreams/laws.FnExactBlockData", spec := "fnExactBlockData", recurses := true, apart := false, narrowed := true }
def FnExactBlockDataUptoSaid : Prop := fnExactBlockDataUptoRow.holds Try.pinned (OpenSpec.upto fnExactBlockDataSpec)

/-- 'laws.FnExactSealStream', WHERE WHAT IT READS IS OF BULK AT MOST 1048576: true; the input reads as it did. -/
def fnExactSealStreamUptoRow : OpenClaim := { program := "ytnbmkoapohjnmaa", sum := "c072a22dac77743fc95a0c0a4775ffae82bd71ca8430757f13f9aab80f53b875", func := "loop.example/soughtstreams/laws.FnExactSealStream", spec := "fnExactSealStream", recurses := true, apart := false, narrowed := true }
def FnExactSealStreamUptoSaid : Prop := fnExactSealStreamUptoRow.holds Try.pinned (OpenSpec.upto fnExactSealStreamSpec)

/-- 'laws.FnExactBlockOf', WHERE WHAT IT READS IS OF BULK AT MOST 1048576: true; the input reads as it did. -/
def fnExactBlockOfUptoRow : OpenClaim := { program := "ytnbmkoapohjnmaa", sum := "c072a22dac77743fc95a0c0a4775ffae82bd71ca8430757f13f9aab80f53b875", func := "loop.example/soughtstreams/laws.FnExactBlockOf", spec := "fnExactBlockOf", recurses := true, apart := false, narrowed := true }
def FnExactBlockOfUptoSaid : Prop := fnExactBlockOfUptoRow.holds Try.pinned (OpenSpec.upto fnExactBlockOfSpec)

/-- 'laws.FnExactOpenStream', WHERE WHAT IT READS IS OF BULK AT MOST 1048576: true; the input reads as it did. -/
def fnExactOpenStreamUptoRow : OpenClaim := { program := "ytnbmkoapohjnmaa", sum := "c072a22dac77743fc95a0c0a4775ffae82bd71ca8430757f13f9aab80f53b875", func := "loop.example/soughtstreams/laws.FnExactOpenStream", spec := "fnExactOpenStream", recurses := true, apart := false, narrowed := true }
def FnExactOpenStreamUptoSaid : Prop := fnExactOpenStreamUptoRow.holds Try.pinned (OpenSpec.upto fnExactOpenStreamSpec)

/-- 'laws.FnExactBestDict', WHERE WHAT IT READS IS OF BULK AT MOST 1048576: true; the input reads as it did. -/
def fnExactBestDictUptoRow : OpenClaim := { program := "ytnbmkoapohjnmaa", sum := "c072a22dac77743fc95a0c0a4775ffae82bd71ca8430757f13f9aab80f53b875", func := "loop.example/soughtstreams/laws.FnExactBestDict", spec := "fnExactBestDict", recurses := true, apart := false, narrowed := true }
def FnExactBestDictUptoSaid : Prop := fnExactBestDictUptoRow.holds Try.pinned (OpenSpec.upto fnExactBestDictSpec)

/-- 'laws.FnExactBestSample', WHERE WHAT IT READS IS OF BULK AT MOST 1048576: true; the input reads as it did. -/
def fnExactBestSampleUptoRow : OpenClaim := { program := "ytnbmkoapohjnmaa", sum := "c072a22dac77743fc95a0c0a4775ffae82bd71ca8430757f13f9aab80f53b875", func := "loop.example/soughtstreams/laws.FnExactBestSample", spec := "fnExactBestSample", recurses := true, apart := false, narrowed := true }
def FnExactBestSampleUptoSaid : Prop := fnExactBestSampleUptoRow.holds Try.pinned (OpenSpec.upto fnExactBestSampleSpec)

end Rows
end Go.Proofs.Ytnbmkoapohjnmaa
