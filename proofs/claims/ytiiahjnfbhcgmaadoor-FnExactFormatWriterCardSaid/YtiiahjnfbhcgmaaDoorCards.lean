/-
  DERIVED. GIVEN WITH THE SEED: THE CARDS: each row of YtiiahjnfbhcgmaaDoorRows.lean that lists a variable, with what it lists TIED to the program's text (the seventh form; the later family's looks); each row that meets fmt, with fmt's text TOLD by the authors' own Lean function (tested against real Go, not proved from fmt's source: count such statements apart). THE CARD IS WHAT COUNTS. Prove the row's statement (the work); the ties are given (YtiiahjnfbhcgmaaDoorTie.lean); close each card by the builder's one call (the guide's Derived/Test/ToyasCard.lean, 'card_holds'). Laid BY PROGRAM, IN A SANDBOX (cutbox-door.mjs). By AI agents, Wed Nov 11 2026. No macro, syntax, notation, axiom, sorry.
-/
import Derived.Test.YtiiahjnfbhcgmaaDoorRows
import GoSem.ClaimSeven
namespace Go.Proofs.YtiiahjnfbhcgmaaDoor
namespace Rows

/-- THE TIED CARD OF 'laws.FnExactFormatIndex'. -/
def fnExactFormatIndexCard : Claim7 := { stood := { row := fnExactFormatIndexRow, standIns := [], harness := (true, "ef99d20b69770f7f12fcad25f224973bc9b37faf167913b5c0314ac22bab7c6c"), looks := true }, kinds := [], alts := [], laidByText := true, laidKinds := [.data, .data, .data], laidTests := true, laidLooks := .later }
def FnExactFormatIndexCardSaid : Prop := Claim7.holds Tryd.pinned (.plain (OpenSpec.ofChange fnExactFormatIndexSpec)) fnExactFormatIndexCard

/-- THE TIED CARD OF 'laws.FnExactFormatWriter'. -/
def fnExactFormatWriterCard : Claim7 := { stood := { row := fnExactFormatWriterRow, standIns := [], harness := (true, "ef99d20b69770f7f12fcad25f224973bc9b37faf167913b5c0314ac22bab7c6c"), looks := true }, kinds := [], alts := [], laidByText := true, laidKinds := [.data, .data, .data], laidTests := true, laidLooks := .later }
def FnExactFormatWriterCardSaid : Prop := Claim7.holds Tryd.pinned (.plain (OpenSpec.ofChange fnExactFormatWriterSpec)) fnExactFormatWriterCard

/-- THE TIED CARD OF 'laws.FnSeek'. -/
def fnSeekCard : Claim7 := { stood := { row := fnSeekRow, standIns := [], harness := (true, "ef99d20b69770f7f12fcad25f224973bc9b37faf167913b5c0314ac22bab7c6c"), looks := true }, kinds := [], alts := [], laidByText := true, laidKinds := [.data, .data, .data], laidTests := true, laidLooks := .later }
def FnSeekCardSaid : Prop := Claim7.holds Tryd.pinned (.plain (OpenSpec.ofChange fnSeekSpec)) fnSeekCard

/-- THE TIED CARD OF 'laws.FnExactParseIndex'. -/
def fnExactParseIndexCard : Claim7 := { stood := { row := fnExactParseIndexRow, standIns := [], harness := (true, "ef99d20b69770f7f12fcad25f224973bc9b37faf167913b5c0314ac22bab7c6c"), looks := true }, kinds := [], alts := [], laidByText := true, laidKinds := [.data, .data, .data, .data, .sentinel, .sentinel, .pinned], laidTests := true, laidLooks := .later }
def FnExactParseIndexCardSaid : Prop := Claim7.holds Tryd.pinned (.plain (OpenSpec.ofChange fnExactParseIndexSpec)) fnExactParseIndexCard

/-- THE SECOND FORM's CARD OF 'laws.FnExactFormatIndex'. -/
def fnExactFormatIndexUptoCard : Claim7 := { stood := { row := fnExactFormatIndexUptoRow, standIns := [], harness := (true, "ef99d20b69770f7f12fcad25f224973bc9b37faf167913b5c0314ac22bab7c6c"), looks := true }, kinds := [], alts := [], laidByText := true, laidKinds := [.data, .data, .data], laidTests := true, laidLooks := .later }
def FnExactFormatIndexUptoCardSaid : Prop := Claim7.holds Tryd.pinned (.plain (OpenSpec.upto fnExactFormatIndexSpec)) fnExactFormatIndexUptoCard

/-- THE SECOND FORM's CARD OF 'laws.FnExactFormatWriter'. -/
def fnExactFormatWriterUptoCard : Claim7 := { stood := { row := fnExactFormatWriterUptoRow, standIns := [], harness := (true, "ef99d20b69770f7f12fcad25f224973bc9b37faf167913b5c0314ac22bab7c6c"), looks := true }, kinds := [], alts := [], laidByText := true, laidKinds := [.data, .data, .data], laidTests := true, laidLooks := .later }
def FnExactFormatWriterUptoCardSaid : Prop := Claim7.holds Tryd.pinned (.plain (OpenSpec.upto fnExactFormatWriterSpec)) fnExactFormatWriterUptoCard

/-- THE SECOND FORM's CARD OF 'laws.FnSeek'. -/
def fnSeekUptoCard : Claim7 := { stood := { row := fnSeekUptoRow, standIns := [], harness := (true, "ef99d20b69770f7f12fcad25f224973bc9b37faf167913b5c0314ac22bab7c6c"), looks := true }, kinds := [], alts := [], laidByText := true, laidKinds := [.data, .data, .data], laidTests := true, laidLooks := .later }
def FnSeekUptoCardSaid : Prop := Claim7.holds Tryd.pinned (.plain (OpenSpec.upto fnSeekSpec)) fnSeekUptoCard

/-- THE SECOND FORM's CARD OF 'laws.FnExactParseIndex'. -/
def fnExactParseIndexUptoCard : Claim7 := { stood := { row := fnExactParseIndexUptoRow, standIns := [], harness := (true, "ef99d20b69770f7f12fcad25f224973bc9b37faf167913b5c0314ac22bab7c6c"), looks := true }, kinds := [], alts := [], laidByText := true, laidKinds := [.data, .data, .data, .data, .sentinel, .sentinel, .pinned], laidTests := true, laidLooks := .later }
def FnExactParseIndexUptoCardSaid : Prop := Claim7.holds Tryd.pinned (.plain (OpenSpec.upto fnExactParseIndexSpec)) fnExactParseIndexUptoCard
end Rows
end Go.Proofs.YtiiahjnfbhcgmaaDoor
