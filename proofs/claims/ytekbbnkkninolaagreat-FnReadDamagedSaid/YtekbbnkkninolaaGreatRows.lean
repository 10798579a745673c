/-
  No cell of these rows narrows 'for every input' (looked for: loops, veiled, ifaces, maps, wideKeys, modest, calm, conditions, laid).
  DERIVED. THE GIVEN ROWS OF THIS SEAT. 14 by the template 'for every input the law returns true; each argument reads behind the call as it read before'; 0 by the template 'total and deterministic' (their statements: YtekbbnkkninolaaGreatTotals.lean).
  GIVEN WITH THE SEED: the statements are not yours to turn. If you find one false, say at which input.
  Laid BY PROGRAM, IN A SANDBOX (cutbox-rows.mjs): the forced cells as the released guide's own fill.sh prints them over the translation db8c794203759950… (all of the seat's roots in one cut). By AI agents, Wed Nov 11 2026. No macro, syntax, notation, axiom, sorry.
-/
import Derived.Test.YtekbbnkkninolaaGreatChecked
import GoSem.Claim
import GoSem.ClaimJoined
import GoSem.ClaimMapViews
import Derived.JoinedTies
import Derived.KernelRfl
namespace Go.Proofs.YtekbbnkkninolaaGreat
/- THE CELL 'sum', in the pinned program and in every row, IS THE sha256 OF THE DUMP (.gsa) THAT YtekbbnkkninolaaGreatProg.lean LOADS. Nothing in Lean hashes anything: it is a label: what it is worth is what the hold of that sum in a sandbox is worth. -/
noncomputable def Tryz.pinned : Pinned := { name := "ytekbbnkkninolaagreat", sum := "db8c7942037599506ffed62f78692f5d686ae837a18dfc9eb8fc5aa2c7008ca7", checked := Tryz.checked }
namespace Rows
def none {H : Type} : Left H := { results := [], args := [] }

/-- 'laws.FnExactContainerData': WHATEVER THE INPUT: true; the input reads as it did. -/
def fnExactContainerDataSpec : ChangeSpec := { name := "fnExactContainerData", fn := fun _ => fun
  | [d1, d2, d3] => { results := [.lit (.bool true)], args := [d1, d2, d3] }
  | _ => none }
def fnExactContainerDataRow : OpenClaim := { program := "ytekbbnkkninolaagreat", sum := "db8c7942037599506ffed62f78692f5d686ae837a18dfc9eb8fc5aa2c7008ca7", func := "loop.example/soughtstreams/laws.FnExactContainerData", spec := "fnExactContainerData", inPlace := ["internal/abi.NoEscape"], recurses := true, apart := false }
def FnExactContainerDataSaid : Prop := fnExactContainerDataRow.holds Tryz.pinned (OpenSpec.ofChange fnExactContainerDataSpec)

/-- ITS FALSE NEIGHBOUR: 'it returns false'. Refute it at one input. -/
def fnExactContainerDataWrong : ChangeSpec := { name := "fnExactContainerData", fn := fun _ => fun
  | [d1, d2, d3] => { results := [.lit (.bool false)], args := [d1, d2, d3] }
  | _ => none }
def FnExactContainerDataWrongFalsely : Prop := fnExactContainerDataRow.holds Tryz.pinned (OpenSpec.ofChange fnExactContainerDataWrong)

/-- 'laws.FnExactReadRange': WHATEVER THE INPUT: true; the input reads as it did. -/
def fnExactReadRangeSpec : ChangeSpec := { name := "fnExactReadRange", fn := fun _ => fun
  | [d1, d2, d3, d4, d5] => { results := [.lit (.bool true)], args := [d1, d2, d3, d4, d5] }
  | _ => none }
def fnExactReadRangeRow : OpenClaim := { program := "ytekbbnkkninolaagreat", sum := "db8c7942037599506ffed62f78692f5d686ae837a18dfc9eb8fc5aa2c7008ca7", func := "loop.example/soughtstreams/laws.FnExactReadRange", spec := "fnExactReadRange", inPlace := ["internal/abi.NoEscape"], recurses := true, apart := false }
def FnExactReadRangeSaid : Prop := fnExactReadRangeRow.holds Tryz.pinned (OpenSpec.ofChange fnExactReadRangeSpec)

/-- ITS FALSE NEIGHBOUR: 'it returns false'. Refute it at one input. -/
def fnExactReadRangeWrong : ChangeSpec := { name := "fnExactReadRange", fn := fun _ => fun
  | [d1, d2, d3, d4, d5] => { results := [.lit (.bool false)], args := [d1, d2, d3, d4, d5] }
  | _ => none }
def FnExactReadRangeWrongFalsely : Prop := fnExactReadRangeRow.holds Tryz.pinned (OpenSpec.ofChange fnExactReadRangeWrong)

/-- 'laws.FnExactReadIndexed': WHATEVER THE INPUT: true; the input reads as it did. -/
def fnExactReadIndexedSpec : ChangeSpec := { name := "fnExactReadIndexed", fn := fun _ => fun
  | [d1, d2, d3, d4, d5, d6] => { results := [.lit (.bool true)], args := [d1, d2, d3, d4, d5, d6] }
  | _ => none }
def fnExactReadIndexedRow : OpenClaim := { program := "ytekbbnkkninolaagreat", sum := "db8c7942037599506ffed62f78692f5d686ae837a18dfc9eb8fc5aa2c7008ca7", func := "loop.example/soughtstreams/laws.FnExactReadIndexed", spec := "fnExactReadIndexed", recurses := true, apart := false }
def FnExactReadIndexedSaid : Prop := fnExactReadIndexedRow.holds Tryz.pinned (OpenSpec.ofChange fnExactReadIndexedSpec)

/-- ITS FALSE NEIGHBOUR: 'it returns false'. Refute it at one input. -/
def fnExactReadIndexedWrong : ChangeSpec := { name := "fnExactReadIndexed", fn := fun _ => fun
  | [d1, d2, d3, d4, d5, d6] => { results := [.lit (.bool false)], args := [d1, d2, d3, d4, d5, d6] }
  | _ => none }
def FnExactReadIndexedWrongFalsely : Prop := fnExactReadIndexedRow.holds Tryz.pinned (OpenSpec.ofChange fnExactReadIndexedWrong)

/-- 'laws.FnDictRoundTrip': WHATEVER THE INPUT: true; the input reads as it did. -/
def fnDictRoundTripSpec : ChangeSpec := { name := "fnDictRoundTrip", fn := fun _ => fun
  | [d] => { results := [.lit (.bool true)], args := [d] }
  | _ => none }
def fnDictRoundTripRow : OpenClaim := { program := "ytekbbnkkninolaagreat", sum := "db8c7942037599506ffed62f78692f5d686ae837a18dfc9eb8fc5aa2c7008ca7", func := "loop.example/soughtstreams/laws.FnDictRoundTrip", spec := "fnDictRoundTrip", recurses := true, apart := false }
def FnDictRoundTripSaid : Prop := fnDictRoundTripRow.holds Tryz.pinned (OpenSpec.ofChange fnDictRoundTripSpec)

/-- ITS FALSE NEIGHBOUR: 'it returns false'. Refute it at one input. -/
def fnDictRoundTripWrong : ChangeSpec := { name := "fnDictRoundTrip", fn := fun _ => fun
  | [d] => { results := [.lit (.bool false)], args := [d] }
  | _ => none }
def FnDictRoundTripWrongFalsely : Prop := fnDictRoundTripRow.holds Tryz.pinned (OpenSpec.ofChange fnDictRoundTripWrong)

/-- 'laws.FnBestDict': WHATEVER THE INPUT: true; the input reads as it did. -/
def fnBestDictSpec : ChangeSpec := { name := "fnBestDict", fn := fun _ => fun
  | [d] => { results := [.lit (.bool true)], args := [d] }
  | _ => none }
def fnBestDictRow : OpenClaim := { program := "ytekbbnkkninolaagreat", sum := "db8c7942037599506ffed62f78692f5d686ae837a18dfc9eb8fc5aa2c7008ca7", func := "loop.example/soughtstreams/laws.FnBestDict", spec := "fnBestDict", recurses := true, apart := false }
def FnBestDictSaid : Prop := fnBestDictRow.holds Tryz.pinned (OpenSpec.ofChange fnBestDictSpec)

/-- ITS FALSE NEIGHBOUR: 'it returns false'. Refute it at one input. -/
def fnBestDictWrong : ChangeSpec := { name := "fnBestDict", fn := fun _ => fun
  | [d] => { results := [.lit (.bool false)], args := [d] }
  | _ => none }
def FnBestDictWrongFalsely : Prop := fnBestDictRow.holds Tryz.pinned (OpenSpec.ofChange fnBestDictWrong)

/-- 'laws.FnBestSample': WHATEVER THE INPUT: true; the input reads as it did. -/
def fnBestSampleSpec : ChangeSpec := { name := "fnBestSample", fn := fun _ => fun
  | [d] => { results := [.lit (.bool true)], args := [d] }
  | _ => none }
def fnBestSampleRow : OpenClaim := { program := "ytekbbnkkninolaagreat", sum := "db8c7942037599506ffed62f78692f5d686ae837a18dfc9eb8fc5aa2c7008ca7", func := "loop.example/soughtstreams/laws.FnBestSample", spec := "fnBestSample", recurses := true, apart := false }
def FnBestSampleSaid : Prop := fnBestSampleRow.holds Tryz.pinned (OpenSpec.ofChange fnBestSampleSpec)

/-- ITS FALSE NEIGHBOUR: 'it returns false'. Refute it at one input. -/
def fnBestSampleWrong : ChangeSpec := { name := "fnBestSample", fn := fun _ => fun
  | [d] => { results := [.lit (.bool false)], args := [d] }
  | _ => none }
def FnBestSampleWrongFalsely : Prop := fnBestSampleRow.holds Tryz.pinned (OpenSpec.ofChange fnBestSampleWrong)

/-- 'laws.FnOpenStream': WHATEVER THE INPUT: true; the input reads as it did. -/
def fnOpenStreamSpec : ChangeSpec := { name := "fnOpenStream", fn := fun _ => fun
  | [d] => { results := [.lit (.bool true)], args := [d] }
  | _ => none }
def fnOpenStreamRow : OpenClaim := { program := "ytekbbnkkninolaagreat", sum := "db8c7942037599506ffed62f78692f5d686ae837a18dfc9eb8fc5aa2c7008ca7", func := "loop.example/soughtstreams/laws.FnOpenStream", spec := "fnOpenStream", recurses := true, apart := false }
def FnOpenStreamSaid : Prop := fnOpenStreamRow.holds Tryz.pinned (OpenSpec.ofChange fnOpenStreamSpec)

/-- ITS FALSE NEIGHBOUR: 'it returns false'. Refute it at one input. -/
def fnOpenStreamWrong : ChangeSpec := { name := "fnOpenStream", fn := fun _ => fun
  | [d] => { results := [.lit (.bool false)], args := [d] }
  | _ => none }
def FnOpenStreamWrongFalsely : Prop := fnOpenStreamRow.holds Tryz.pinned (OpenSpec.ofChange fnOpenStreamWrong)

/-- 'laws.FnBlockData': WHATEVER THE INPUT: true; the input reads as it did. -/
def fnBlockDataSpec : ChangeSpec := { name := "fnBlockData", fn := fun _ => fun
  | [d] => { results := [.lit (.bool true)], args := [d] }
  | _ => none }
def fnBlockDataRow : OpenClaim := { program := "ytekbbnkkninolaagreat", sum := "db8c7942037599506ffed62f78692f5d686ae837a18dfc9eb8fc5aa2c7008ca7", func := "loop.example/soughtstreams/laws.FnBlockData", spec := "fnBlockData", recurses := true, apart := false }
def FnBlockDataSaid : Prop := fnBlockDataRow.holds Tryz.pinned (OpenSpec.ofChange fnBlockDataSpec)

/-- ITS FALSE NEIGHBOUR: 'it returns false'. Refute it at one input. -/
def fnBlockDataWrong : ChangeSpec := { name := "fnBlockData", fn := fun _ => fun
  | [d] => { results := [.lit (.bool false)], args := [d] }
  | _ => none }
def FnBlockDataWrongFalsely : Prop := fnBlockDataRow.holds Tryz.pinned (OpenSpec.ofChange fnBlockDataWrong)

/-- 'laws.FnSealOpen': WHATEVER THE INPUT: true; the input reads as it did. -/
def fnSealOpenSpec : ChangeSpec := { name := "fnSealOpen", fn := fun _ => fun
  | [d1, d2] => { results := [.lit (.bool true)], args := [d1, d2] }
  | _ => none }
def fnSealOpenRow : OpenClaim := { program := "ytekbbnkkninolaagreat", sum := "db8c7942037599506ffed62f78692f5d686ae837a18dfc9eb8fc5aa2c7008ca7", func := "loop.example/soughtstreams/laws.FnSealOpen", spec := "fnSealOpen", recurses := true, apart := false }
def FnSealOpenSaid : Prop := fnSealOpenRow.holds Tryz.pinned (OpenSpec.ofChange fnSealOpenSpec)

/-- ITS FALSE NEIGHBOUR: 'it returns false'. Refute it at one input. -/
def fnSealOpenWrong : ChangeSpec := { name := "fnSealOpen", fn := fun _ => fun
  | [d1, d2] => { results := [.lit (.bool false)], args := [d1, d2] }
  | _ => none }
def FnSealOpenWrongFalsely : Prop := fnSealOpenRow.holds Tryz.pinned (OpenSpec.ofChange fnSealOpenWrong)

/-- 'laws.FnContainerData': WHATEVER THE INPUT: true; the input reads as it did. -/
def fnContainerDataSpec : ChangeSpec := { name := "fnContainerData", fn := fun _ => fun
  | [d] => { results := [.lit (.bool true)], args := [d] }
  | _ => none }
def fnContainerDataRow : OpenClaim := { program := "ytekbbnkkninolaagreat", sum := "db8c7942037599506ffed62f78692f5d686ae837a18dfc9eb8fc5aa2c7008ca7", func := "loop.example/soughtstreams/laws.FnContainerData", spec := "fnContainerData", inPlace := ["internal/abi.NoEscape"], recurses := true, apart := false }
def FnContainerDataSaid : Prop := fnContainerDataRow.holds Tryz.pinned (OpenSpec.ofChange fnContainerDataSpec)

/-- ITS FALSE NEIGHBOUR: 'it returns false'. Refute it at one input. -/
def fnContainerDataWrong : ChangeSpec := { name := "fnContainerData", fn := fun _ => fun
  | [d] => { results := [.lit (.bool false)], args := [d] }
  | _ => none }
def FnContainerDataWrongFalsely : Prop := fnContainerDataRow.holds Tryz.pinned (OpenSpec.ofChange fnContainerDataWrong)

/-- 'laws.FnContainerShort': WHATEVER THE INPUT: true; the input reads as it did. -/
def fnContainerShortSpec : ChangeSpec := { name := "fnContainerShort", fn := fun _ => fun
  | [d1, d2] => { results := [.lit (.bool true)], args := [d1, d2] }
  | _ => none }
def fnContainerShortRow : OpenClaim := { program := "ytekbbnkkninolaagreat", sum := "db8c7942037599506ffed62f78692f5d686ae837a18dfc9eb8fc5aa2c7008ca7", func := "loop.example/soughtstreams/laws.FnContainerShort", spec := "fnContainerShort", inPlace := ["internal/abi.NoEscape"], recurses := true, apart := false }
def FnContainerShortSaid : Prop := fnContainerShortRow.holds Tryz.pinned (OpenSpec.ofChange fnContainerShortSpec)

/-- ITS FALSE NEIGHBOUR: 'it returns false'. Refute it at one input. -/
def fnContainerShortWrong : ChangeSpec := { name := "fnContainerShort", fn := fun _ => fun
  | [d1, d2] => { results := [.lit (.bool false)], args := [d1, d2] }
  | _ => none }
def FnContainerShortWrongFalsely : Prop := fnContainerShortRow.holds Tryz.pinned (OpenSpec.ofChange fnContainerShortWrong)

/-- 'laws.FnReadRange': WHATEVER THE INPUT: true; the input reads as it did. -/
def fnReadRangeSpec : ChangeSpec := { name := "fnReadRange", fn := fun _ => fun
  | [d] => { results := [.lit (.bool true)], args := [d] }
  | _ => none }
def fnReadRangeRow : OpenClaim := { program := "ytekbbnkkninolaagreat", sum := "db8c7942037599506ffed62f78692f5d686ae837a18dfc9eb8fc5aa2c7008ca7", func := "loop.example/soughtstreams/laws.FnReadRange", spec := "fnReadRange", inPlace := ["internal/abi.NoEscape"], recurses := true, apart := false }
def FnReadRangeSaid : Prop := fnReadRangeRow.holds Tryz.pinned (OpenSpec.ofChange fnReadRangeSpec)

/-- ITS FALSE NEIGHBOUR: 'it returns false'. Refute it at one input. -/
def fnReadRangeWrong : ChangeSpec := { name := "fnReadRange", fn := fun _ => fun
  | [d] => { results := [.lit (.bool false)], args := [d] }
  | _ => none }
def FnReadRangeWrongFalsely : Prop := fnReadRangeRow.holds Tryz.pinned (OpenSpec.ofChange fnReadRangeWrong)

/-- 'laws.FnReadIndexed': WHATEVER THE INPUT: true; the input reads as it did. -/
def fnReadIndexedSpec : ChangeSpec := { name := "fnReadIndexed", fn := fun _ => fun
  | [d1, d2] => { results := [.lit (.bool true)], args := [d1, d2] }
  | _ => none }
def fnReadIndexedRow : OpenClaim := { program := "ytekbbnkkninolaagreat", sum := "db8c7942037599506ffed62f78692f5d686ae837a18dfc9eb8fc5aa2c7008ca7", func := "loop.example/soughtstreams/laws.FnReadIndexed", spec := "fnReadIndexed", inPlace := ["internal/abi.NoEscape"], recurses := true, apart := false }
def FnReadIndexedSaid : Prop := fnReadIndexedRow.holds Tryz.pinned (OpenSpec.ofChange fnReadIndexedSpec)

/-- ITS FALSE NEIGHBOUR: 'it returns false'. Refute it at one input. -/
def fnReadIndexedWrong : ChangeSpec := { name := "fnReadIndexed", fn := fun _ => fun
  | [d1, d2] => { results := [.lit (.bool false)], args := [d1, d2] }
  | _ => none }
def FnReadIndexedWrongFalsely : Prop := fnReadIndexedRow.holds Tryz.pinned (OpenSpec.ofChange fnReadIndexedWrong)

/-- 'laws.FnReadDamaged': WHATEVER THE INPUT: true; the input reads as it did. -/
def fnReadDamagedSpec : ChangeSpec := { name := "fnReadDamaged", fn := fun _ => fun
  | [d] => { results := [.lit (.bool true)], args := [d] }
  | _ => none }
def fnReadDamagedRow : OpenClaim := { program := "ytekbbnkkninolaagreat", sum := "db8c7942037599506ffed62f78692f5d686ae837a18dfc9eb8fc5aa2c7008ca7", func := "loop.example/soughtstreams/laws.FnReadDamaged", spec := "fnReadDamaged", inPlace := ["internal/abi.NoEscape"], recurses := true, apart := false }
def FnReadDamagedSaid : Prop := fnReadDamagedRow.holds Tryz.pinned (OpenSpec.ofChange fnReadDamagedSpec)

/-- ITS FALSE NEIGHBOUR: 'it returns false'. Refute it at one input. -/
def fnReadDamagedWrong : ChangeSpec := { name := "fnReadDamaged", fn := fun _ => fun
  | [d] => { results := [.lit (.bool false)], args := [d] }
  | _ => none }
def FnReadDamagedWrongFalsely : Prop := fnReadDamagedRow.holds Tryz.pinned (OpenSpec.ofChange fnReadDamagedWrong)

/- THE SECOND FORM. 'bulk': how many values and letters a reading holds, each counted each time it is reached (what is shared counts as often as it is met; a slice's spare places count too). A statement '..UptoSaid' is the law's where the arguments, and the package variables that the reading takes, are together of bulk at most 1048576: NARROWER than '..Said'. Prove '..Said' where nothing that the law and all that it calls make is longer than what came in: it says more and counts as full. Else prove '..UptoSaid'. A law counts once. -/
mutual
def uptoBulk {H : Type} : DataW H → Nat
  | .lit (.string bytes) => bytes.length + 1
  | .lit _ => 1
  | .nil => 1
  | .ptr d => uptoBulk d + 1
  | .slice elems spare => uptoBulkAll elems + uptoBulkAll spare + 1
  | .agg parts => uptoBulkAll parts + 1
  | .iface _ d => uptoBulk d + 1
  | .map entries => uptoBulkEntries entries + 1
  | .held _ => 1
def uptoBulkAll {H : Type} : List (DataW H) → Nat
  | [] => 0
  | d :: r => uptoBulk d + uptoBulkAll r
def uptoBulkEntries {H : Type} : List (Lit × DataW H) → Nat
  | [] => 0
  | x :: r => uptoBulkEntry x + uptoBulkEntries r
def uptoBulkEntry {H : Type} : Lit × DataW H → Nat
  | (.string bytes, d) => bytes.length + uptoBulk d + 1
  | (_, d) => uptoBulk d + 1
 end
def uptoSmall : (H : Type) → List (DataW H) → Bool := fun _ ds => decide (uptoBulkAll ds ≤ 1048576)
def OpenSpec.upto (s : _root_.Go.ChangeSpec) : _root_.Go.OpenSpec := { _root_.Go.OpenSpec.ofChange s with cond := some uptoSmall }

/-- 'laws.FnExactContainerData', WHERE WHAT IT READS IS OF BULK AT MOST 1048576: true; the input reads as it did. -/
def fnExactContainerDataUptoRow : OpenClaim := { program := "ytekbbnkkninolaagreat", sum := "db8c7942037599506ffed62f78692f5d686ae837a18dfc9eb8fc5aa2c7008ca7", func := "loop.example/soughtstreams/laws.FnExactContainerData", spec := "fnExactContainerData", inPlace := ["internal/abi.NoEscape"], recurses := true, apart := false, narrowed := true }
def FnExactContainerDataUptoSaid : Prop := fnExactContainerDataUptoRow.holds Tryz.pinned (OpenSpec.upto fnExactContainerDataSpec)

/-- 'laws.FnExactReadRange', WHERE WHAT IT READS IS OF BULK AT MOST 1048576: true; the input reads as it did. -/
def fnExactReadRangeUptoRow : OpenClaim := { program := "ytekbbnkkninolaagreat", sum := "db8c7942037599506ffed62f78692f5d686ae837a18dfc9eb8fc5aa2c7008ca7", func := "loop.example/soughtstreams/laws.FnExactReadRange", spec := "fnExactReadRange", inPlace := ["internal/abi.NoEscape"], recurses := true, apart := false, narrowed := true }
def FnExactReadRangeUptoSaid : Prop := fnExactReadRangeUptoRow.holds Tryz.pinned (OpenSpec.upto fnExactReadRangeSpec)

/-- 'laws.FnExactReadIndexed', WHERE WHAT IT READS IS OF BULK AT MOST 1048576: true; the input reads as it did. -/
def fnExactReadIndexedUptoRow : OpenClaim := { program := "ytekbbnkkninolaagreat", sum := "db8c7942037599506ffed62f78692f5d686ae837a18dfc9eb8fc5aa2c7008ca7", func := "loop.example/soughtstreams/laws.FnExactReadIndexed", spec := "fnExactReadIndexed", recurses := true, apart := false, narrowed := true }
def FnExactReadIndexedUptoSaid : Prop := fnExactReadIndexedUptoRow.holds Tryz.pinned (OpenSpec.upto fnExactReadIndexedSpec)

/-- 'laws.FnDictRoundTrip', WHERE WHAT IT READS IS OF BULK AT MOST 1048576: true; the input reads as it did. -/
def fnDictRoundTripUptoRow : OpenClaim := { program := "ytekbbnkkninolaagreat", sum := "db8c7942037599506ffed62f78692f5d686ae837a18dfc9eb8fc5aa2c7008ca7", func := "loop.example/soughtstreams/laws.FnDictRoundTrip", spec := "fnDictRoundTrip", recurses := true, apart := false, narrowed := true }
def FnDictRoundTripUptoSaid : Prop := fnDictRoundTripUptoRow.holds Tryz.pinned (OpenSpec.upto fnDictRoundTripSpec)

/-- 'laws.FnBestDict', WHERE WHAT IT READS IS OF BULK AT MOST 1048576: true; the input reads as it did. -/
def fnBestDictUptoRow : OpenClaim := { program := "ytekbbnkkninolaagreat", sum := "db8c7942037599506ffed62f78692f5d686ae837a18dfc9eb8fc5aa2c7008ca7", func := "loop.example/soughtstreams/laws.FnBestDict", spec := "fnBestDict", recurses := true, apart := false, narrowed := true }
def FnBestDictUptoSaid : Prop := fnBestDictUptoRow.holds Tryz.pinned (OpenSpec.upto fnBestDictSpec)

/-- 'laws.FnBestSample', WHERE WHAT IT READS IS OF BULK AT MOST 1048576: true; the input reads as it did. -/
def fnBestSampleUptoRow : OpenClaim := { program := "ytekbbnkkninolaagreat", sum := "db8c7942037599506ffed62f78692f5d686ae837a18dfc9eb8fc5aa2c7008ca7", func := "loop.example/soughtstreams/laws.FnBestSample", spec := "fnBestSample", recurses := true, apart := false, narrowed := true }
def FnBestSampleUptoSaid : Prop := fnBestSampleUptoRow.holds Tryz.pinned (OpenSpec.upto fnBestSampleSpec)

/-- 'laws.FnOpenStream', WHERE WHAT IT READS IS OF BULK AT MOST 1048576: true; the input reads as it did. -/
def fnOpenStreamUptoRow : OpenClaim := { program := "ytekbbnkkninolaagreat", sum := "db8c7942037599506ffed62f78692f5d686ae837a18dfc9eb8fc5aa2c7008ca7", func := "loop.example/soughtstreams/laws.FnOpenStream", spec := "fnOpenStream", recurses := true, apart := false, narrowed := true }
def FnOpenStreamUptoSaid : Prop := fnOpenStreamUptoRow.holds Tryz.pinned (OpenSpec.upto fnOpenStreamSpec)

/-- 'laws.FnBlockData', WHERE WHAT IT READS IS OF BULK AT MOST 1048576: true; the input reads as it did. -/
def fnBlockDataUptoRow : OpenClaim := { program := "ytekbbnkkninolaagreat", sum := "db8c7942037599506ffed62f78692f5d686ae837a18dfc9eb8fc5aa2c7008ca7", func := "loop.example/soughtstreams/laws.FnBlockData", spec := "fnBlockData", recurses := true, apart := false, narrowed := true }
def FnBlockDataUptoSaid : Prop := fnBlockDataUptoRow.holds Tryz.pinned (OpenSpec.upto fnBlockDataSpec)

/-- 'laws.FnSealOpen', WHERE WHAT IT READS IS OF BULK AT MOST 1048576: true; the input reads as it did. -/
def fnSealOpenUptoRow : OpenClaim := { program := "ytekbbnkkninolaagreat", sum := "db8c7942037599506ffed62f78692f5d686ae837a18dfc9eb8fc5aa2c7008ca7", func := "loop.example/soughtstreams/laws.FnSealOpen", spec := "fnSealOpen", recurses := true, apart := false, narrowed := true }
def FnSealOpenUptoSaid : Prop := fnSealOpenUptoRow.holds Tryz.pinned (OpenSpec.upto fnSealOpenSpec)

/-- 'laws.FnContainerData', WHERE WHAT IT READS IS OF BULK AT MOST 1048576: true; the input reads as it did. -/
def fnContainerDataUptoRow : OpenClaim := { program := "ytekbbnkkninolaagreat", sum := "db8c7942037599506ffed62f78692f5d686ae837a18dfc9eb8fc5aa2c7008ca7", func := "loop.example/soughtstreams/laws.FnContainerData", spec := "fnContainerData", inPlace := ["internal/abi.NoEscape"], recurses := true, apart := false, narrowed := true }
def FnContainerDataUptoSaid : Prop := fnContainerDataUptoRow.holds Tryz.pinned (OpenSpec.upto fnContainerDataSpec)

/-- 'laws.FnContainerShort', WHERE WHAT IT READS IS OF BULK AT MOST 1048576: true; the input reads as it did. -/
def fnContainerShortUptoRow : OpenClaim := { program := "ytekbbnkkninolaagreat", sum := "db8c7942037599506ffed62f78692f5d686ae837a18dfc9eb8fc5aa2c7008ca7", func := "loop.example/soughtstreams/laws.FnContainerShort", spec := "fnContainerShort", inPlace := ["internal/abi.NoEscape"], recurses := true, apart := false, narrowed := true }
def FnContainerShortUptoSaid : Prop := fnContainerShortUptoRow.holds Tryz.pinned (OpenSpec.upto fnContainerShortSpec)

/-- 'laws.FnReadRange', WHERE WHAT IT READS IS OF BULK AT MOST 1048576: true; the input reads as it did. -/
def fnReadRangeUptoRow : OpenClaim := { program := "ytekbbnkkninolaagreat", sum := "db8c7942037599506ffed62f78692f5d686ae837a18dfc9eb8fc5aa2c7008ca7", func := "loop.example/soughtstreams/laws.FnReadRange", spec := "fnReadRange", inPlace := ["internal/abi.NoEscape"], recurses := true, apart := false, narrowed := true }
def FnReadRangeUptoSaid : Prop := fnReadRangeUptoRow.holds Tryz.pinned (OpenSpec.upto fnReadRangeSpec)

/-- 'laws.FnReadIndexed', WHERE WHAT IT READS IS OF BULK AT MOST 1048576: true; the input reads as it did. -/
def fnReadIndexedUptoRow : OpenClaim := { program := "ytekbbnkkninolaagreat", sum := "db8c7942037599506ffed62f78692f5d686ae837a18dfc9eb8fc5aa2c7008ca7", func := "loop.example/soughtstreams/laws.FnReadIndexed", spec := "fnReadIndexed", inPlace := ["internal/abi.NoEscape"], recurses := true, apart := false, narrowed := true }
def FnReadIndexedUptoSaid : Prop := fnReadIndexedUptoRow.holds Tryz.pinned (OpenSpec.upto fnReadIndexedSpec)

/-- 'laws.FnReadDamaged', WHERE WHAT IT READS IS OF BULK AT MOST 1048576: true; the input reads as it did. -/
def fnReadDamagedUptoRow : OpenClaim := { program := "ytekbbnkkninolaagreat", sum := "db8c7942037599506ffed62f78692f5d686ae837a18dfc9eb8fc5aa2c7008ca7", func := "loop.example/soughtstreams/laws.FnReadDamaged", spec := "fnReadDamaged", inPlace := ["internal/abi.NoEscape"], recurses := true, apart := false, narrowed := true }
def FnReadDamagedUptoSaid : Prop := fnReadDamagedUptoRow.holds Tryz.pinned (OpenSpec.upto fnReadDamagedSpec)

end Rows
end Go.Proofs.YtekbbnkkninolaaGreat
