/-
  DERIVED. GIVEN WITH THE SEED: THE CARDS: each row of YtekogcjdaolcbaaGreatDoorRows.lean that lists a variable, with what it lists TIED to the program's text (the seventh form; the later family's looks); each row that meets fmt, with fmt's text TOLD by the authors' own Lean function (tested against real Go, not proved from fmt's source: count such statements apart). THE CARD IS WHAT COUNTS. Prove the row's statement (the work); the ties are given (YtekogcjdaolcbaaGreatDoorTie.lean); close each card by the builder's one call (the guide's Derived/Test/ToyasCard.lean, 'card_holds'). Laid BY PROGRAM, IN A SANDBOX (cutbox-door.mjs). By AI agents, Wed Nov 11 2026. No macro, syntax, notation, axiom, sorry.
-/
import Derived.Test.YtekogcjdaolcbaaGreatDoorRows
import GoSem.ClaimSeven
namespace Go.Proofs.YtekogcjdaolcbaaGreatDoor
namespace Rows

/-- THE TIED CARD OF 'laws.FnWriterResume'. -/
def fnWriterResumeCard : Claim7 := { stood := { row := fnWriterResumeRow, standIns := [], harness := (true, "110631b35f1b2f92e2add9ccc051e801461e46c0e14b705fd247b5eb1342369b"), looks := true }, kinds := [], alts := [], laidByText := true, laidKinds := [.data, .data, .data, .data, .sentinel, .sentinel, .pinned], laidTests := true, laidLooks := .later }
def FnWriterResumeCardSaid : Prop := Claim7.holds Tryz.pinned (.plain (OpenSpec.ofChange fnWriterResumeSpec)) fnWriterResumeCard

/-- THE TIED CARD OF 'laws.FnWriterText'. -/
def fnWriterTextCard : Claim7 := { stood := { row := fnWriterTextRow, standIns := [], harness := (true, "110631b35f1b2f92e2add9ccc051e801461e46c0e14b705fd247b5eb1342369b"), looks := true }, kinds := [], alts := [], laidByText := true, laidKinds := [.data, .data, .data, .data, .sentinel, .sentinel, .pinned], laidTests := true, laidLooks := .later }
def FnWriterTextCardSaid : Prop := Claim7.holds Tryz.pinned (.plain (OpenSpec.ofChange fnWriterTextSpec)) fnWriterTextCard

/-- THE TIED CARD OF 'laws.FnTravel'. -/
def fnTravelCard : Claim7 := { stood := { row := fnTravelRow, standIns := [], harness := (true, "110631b35f1b2f92e2add9ccc051e801461e46c0e14b705fd247b5eb1342369b"), looks := true }, kinds := [], alts := [], laidByText := true, laidKinds := [.data, .data, .data, .data, .sentinel, .sentinel, .pinned], laidTests := true, laidLooks := .later }
def FnTravelCardSaid : Prop := Claim7.holds Tryz.pinned (.plain (OpenSpec.ofChange fnTravelSpec)) fnTravelCard

/-- THE SECOND FORM's CARD OF 'laws.FnWriterResume'. -/
def fnWriterResumeUptoCard : Claim7 := { stood := { row := fnWriterResumeUptoRow, standIns := [], harness := (true, "110631b35f1b2f92e2add9ccc051e801461e46c0e14b705fd247b5eb1342369b"), looks := true }, kinds := [], alts := [], laidByText := true, laidKinds := [.data, .data, .data, .data, .sentinel, .sentinel, .pinned], laidTests := true, laidLooks := .later }
def FnWriterResumeUptoCardSaid : Prop := Claim7.holds Tryz.pinned (.plain (OpenSpec.upto fnWriterResumeSpec)) fnWriterResumeUptoCard

/-- THE SECOND FORM's CARD OF 'laws.FnWriterText'. -/
def fnWriterTextUptoCard : Claim7 := { stood := { row := fnWriterTextUptoRow, standIns := [], harness := (true, "110631b35f1b2f92e2add9ccc051e801461e46c0e14b705fd247b5eb1342369b"), looks := true }, kinds := [], alts := [], laidByText := true, laidKinds := [.data, .data, .data, .data, .sentinel, .sentinel, .pinned], laidTests := true, laidLooks := .later }
def FnWriterTextUptoCardSaid : Prop := Claim7.holds Tryz.pinned (.plain (OpenSpec.upto fnWriterTextSpec)) fnWriterTextUptoCard

/-- THE SECOND FORM's CARD OF 'laws.FnTravel'. -/
def fnTravelUptoCard : Claim7 := { stood := { row := fnTravelUptoRow, standIns := [], harness := (true, "110631b35f1b2f92e2add9ccc051e801461e46c0e14b705fd247b5eb1342369b"), looks := true }, kinds := [], alts := [], laidByText := true, laidKinds := [.data, .data, .data, .data, .sentinel, .sentinel, .pinned], laidTests := true, laidLooks := .later }
def FnTravelUptoCardSaid : Prop := Claim7.holds Tryz.pinned (.plain (OpenSpec.upto fnTravelSpec)) fnTravelUptoCard
end Rows
end Go.Proofs.YtekogcjdaolcbaaGreatDoor
