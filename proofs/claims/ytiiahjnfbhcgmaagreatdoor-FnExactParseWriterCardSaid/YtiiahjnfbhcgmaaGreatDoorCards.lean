/-
  DERIVED. GIVEN WITH THE SEED: THE CARDS: each row of YtiiahjnfbhcgmaaGreatDoorRows.lean that lists a variable, with what it lists TIED to the program's text (the seventh form; the later family's looks); each row that meets fmt, with fmt's text TOLD by the authors' own Lean function (tested against real Go, not proved from fmt's source: count such statements apart). THE CARD IS WHAT COUNTS. Prove the row's statement (the work); the ties are given (YtiiahjnfbhcgmaaGreatDoorTie.lean); close each card by the builder's one call (the guide's Derived/Test/ToyasCard.lean, 'card_holds'). Laid BY PROGRAM, IN A SANDBOX (cutbox-door.mjs). By AI agents, Wed Nov 11 2026. No macro, syntax, notation, axiom, sorry.
-/
import Derived.Test.YtiiahjnfbhcgmaaGreatDoorRows
import GoSem.ClaimSeven
namespace Go.Proofs.YtiiahjnfbhcgmaaGreatDoor
namespace Rows

/-- THE TIED CARD OF 'laws.FnWriterResume'. -/
def fnWriterResumeCard : Claim7 := { stood := { row := fnWriterResumeRow, standIns := [], harness := (true, "478920f4a72a524dc4cc4f24a4513b462bc1b1f17c2edef022a66e93fac02896"), looks := true }, kinds := [], alts := [], laidByText := true, laidKinds := [.data, .data, .data, .data, .sentinel, .sentinel, .pinned], laidTests := true, laidLooks := .later }
def FnWriterResumeCardSaid : Prop := Claim7.holds Tryz.pinned (.plain (OpenSpec.ofChange fnWriterResumeSpec)) fnWriterResumeCard

/-- THE TIED CARD OF 'laws.FnWriterText'. -/
def fnWriterTextCard : Claim7 := { stood := { row := fnWriterTextRow, standIns := [], harness := (true, "478920f4a72a524dc4cc4f24a4513b462bc1b1f17c2edef022a66e93fac02896"), looks := true }, kinds := [], alts := [], laidByText := true, laidKinds := [.data, .data, .data, .data, .sentinel, .sentinel, .pinned], laidTests := true, laidLooks := .later }
def FnWriterTextCardSaid : Prop := Claim7.holds Tryz.pinned (.plain (OpenSpec.ofChange fnWriterTextSpec)) fnWriterTextCard

/-- THE TIED CARD OF 'laws.FnTravel'. -/
def fnTravelCard : Claim7 := { stood := { row := fnTravelRow, standIns := [], harness := (true, "478920f4a72a524dc4cc4f24a4513b462bc1b1f17c2edef022a66e93fac02896"), looks := true }, kinds := [], alts := [], laidByText := true, laidKinds := [.data, .data, .data, .data, .sentinel, .sentinel, .pinned], laidTests := true, laidLooks := .later }
def FnTravelCardSaid : Prop := Claim7.holds Tryz.pinned (.plain (OpenSpec.ofChange fnTravelSpec)) fnTravelCard

/-- THE TIED CARD OF 'laws.FnExactParseWriter'. -/
def fnExactParseWriterCard : Claim7 := { stood := { row := fnExactParseWriterRow, standIns := [], harness := (true, "478920f4a72a524dc4cc4f24a4513b462bc1b1f17c2edef022a66e93fac02896"), looks := true }, kinds := [], alts := [], laidByText := true, laidKinds := [.data, .data, .data, .data, .sentinel, .sentinel, .pinned], laidTests := true, laidLooks := .later }
def FnExactParseWriterCardSaid : Prop := Claim7.holds Tryz.pinned (.plain (OpenSpec.ofChange fnExactParseWriterSpec)) fnExactParseWriterCard

/-- THE TIED CARD OF 'laws.FnIndexText'. -/
def fnIndexTextCard : Claim7 := { stood := { row := fnIndexTextRow, standIns := [], harness := (true, "478920f4a72a524dc4cc4f24a4513b462bc1b1f17c2edef022a66e93fac02896"), looks := true }, kinds := [], alts := [], laidByText := true, laidKinds := [.data, .data, .data, .data, .sentinel, .sentinel, .pinned], laidTests := true, laidLooks := .later }
def FnIndexTextCardSaid : Prop := Claim7.holds Tryz.pinned (.plain (OpenSpec.ofChange fnIndexTextSpec)) fnIndexTextCard

/-- THE SECOND FORM's CARD OF 'laws.FnWriterResume'. -/
def fnWriterResumeUptoCard : Claim7 := { stood := { row := fnWriterResumeUptoRow, standIns := [], harness := (true, "478920f4a72a524dc4cc4f24a4513b462bc1b1f17c2edef022a66e93fac02896"), looks := true }, kinds := [], alts := [], laidByText := true, laidKinds := [.data, .data, .data, .data, .sentinel, .sentinel, .pinned], laidTests := true, laidLooks := .later }
def FnWriterResumeUptoCardSaid : Prop := Claim7.holds Tryz.pinned (.plain (OpenSpec.upto fnWriterResumeSpec)) fnWriterResumeUptoCard

/-- THE SECOND FORM's CARD OF 'laws.FnWriterText'. -/
def fnWriterTextUptoCard : Claim7 := { stood := { row := fnWriterTextUptoRow, standIns := [], harness := (true, "478920f4a72a524dc4cc4f24a4513b462bc1b1f17c2edef022a66e93fac02896"), looks := true }, kinds := [], alts := [], laidByText := true, laidKinds := [.data, .data, .data, .data, .sentinel, .sentinel, .pinned], laidTests := true, laidLooks := .later }
def FnWriterTextUptoCardSaid : Prop := Claim7.holds Tryz.pinned (.plain (OpenSpec.upto fnWriterTextSpec)) fnWriterTextUptoCard

/-- THE SECOND FORM's CARD OF 'laws.FnTravel'. -/
def fnTravelUptoCard : Claim7 := { stood := { row := fnTravelUptoRow, standIns := [], harness := (true, "478920f4a72a524dc4cc4f24a4513b462bc1b1f17c2edef022a66e93fac02896"), looks := true }, kinds := [], alts := [], laidByText := true, laidKinds := [.data, .data, .data, .data, .sentinel, .sentinel, .pinned], laidTests := true, laidLooks := .later }
def FnTravelUptoCardSaid : Prop := Claim7.holds Tryz.pinned (.plain (OpenSpec.upto fnTravelSpec)) fnTravelUptoCard

/-- THE SECOND FORM's CARD OF 'laws.FnExactParseWriter'. -/
def fnExactParseWriterUptoCard : Claim7 := { stood := { row := fnExactParseWriterUptoRow, standIns := [], harness := (true, "478920f4a72a524dc4cc4f24a4513b462bc1b1f17c2edef022a66e93fac02896"), looks := true }, kinds := [], alts := [], laidByText := true, laidKinds := [.data, .data, .data, .data, .sentinel, .sentinel, .pinned], laidTests := true, laidLooks := .later }
def FnExactParseWriterUptoCardSaid : Prop := Claim7.holds Tryz.pinned (.plain (OpenSpec.upto fnExactParseWriterSpec)) fnExactParseWriterUptoCard

/-- THE SECOND FORM's CARD OF 'laws.FnIndexText'. -/
def fnIndexTextUptoCard : Claim7 := { stood := { row := fnIndexTextUptoRow, standIns := [], harness := (true, "478920f4a72a524dc4cc4f24a4513b462bc1b1f17c2edef022a66e93fac02896"), looks := true }, kinds := [], alts := [], laidByText := true, laidKinds := [.data, .data, .data, .data, .sentinel, .sentinel, .pinned], laidTests := true, laidLooks := .later }
def FnIndexTextUptoCardSaid : Prop := Claim7.holds Tryz.pinned (.plain (OpenSpec.upto fnIndexTextSpec)) fnIndexTextUptoCard
end Rows
end Go.Proofs.YtiiahjnfbhcgmaaGreatDoor
