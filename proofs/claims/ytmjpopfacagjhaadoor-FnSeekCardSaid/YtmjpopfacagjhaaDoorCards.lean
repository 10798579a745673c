/-
  DERIVED. GIVEN WITH THE SEED: THE CARDS: each row of YtmjpopfacagjhaaDoorRows.lean that lists a variable, with what it lists TIED to the program's text (the seventh form; the later family's looks); each row that meets fmt, with fmt's text TOLD by the authors' own Lean function (tested against real Go, not proved from fmt's source: count such statements apart). THE CARD IS WHAT COUNTS. Prove the row's statement (the work); the ties are given (YtmjpopfacagjhaaDoorTie.lean); close each card by the builder's one call (the guide's Derived/Test/ToyasCard.lean, 'card_holds'). Laid BY PROGRAM, IN A SANDBOX (cutbox-door.mjs). By AI agents, Wed Nov 11 2026. No macro, syntax, notation, axiom, sorry.
-/
import Derived.Test.YtmjpopfacagjhaaDoorRows
import GoSem.ClaimSeven
namespace Go.Proofs.YtmjpopfacagjhaaDoor
namespace Rows

/-- THE TIED CARD OF 'laws.FnExactFormatIndex'. -/
def fnExactFormatIndexCard : Claim7 := { stood := { row := fnExactFormatIndexRow, standIns := [], harness := (true, "9e532cf7e521ee8872cb0c014b1311278f250af04b3836744143f4fb78236bb7"), looks := false }, kinds := [], alts := [], laidByText := true, laidKinds := [.data, .data, .data], laidTests := true, laidLooks := .later }
def FnExactFormatIndexCardSaid : Prop := Claim7.holds Tryd.pinned (.plain (OpenSpec.ofChange fnExactFormatIndexSpec)) fnExactFormatIndexCard

/-- THE TIED CARD OF 'laws.FnSeek'. -/
def fnSeekCard : Claim7 := { stood := { row := fnSeekRow, standIns := [], harness := (true, "9e532cf7e521ee8872cb0c014b1311278f250af04b3836744143f4fb78236bb7"), looks := false }, kinds := [], alts := [], laidByText := true, laidKinds := [.data, .data, .data], laidTests := true, laidLooks := .later }
def FnSeekCardSaid : Prop := Claim7.holds Tryd.pinned (.plain (OpenSpec.ofChange fnSeekSpec)) fnSeekCard

/-- THE SECOND FORM's CARD OF 'laws.FnExactFormatIndex'. -/
def fnExactFormatIndexUptoCard : Claim7 := { stood := { row := fnExactFormatIndexUptoRow, standIns := [], harness := (true, "9e532cf7e521ee8872cb0c014b1311278f250af04b3836744143f4fb78236bb7"), looks := false }, kinds := [], alts := [], laidByText := true, laidKinds := [.data, .data, .data], laidTests := true, laidLooks := .later }
def FnExactFormatIndexUptoCardSaid : Prop := Claim7.holds Tryd.pinned (.plain (OpenSpec.upto fnExactFormatIndexSpec)) fnExactFormatIndexUptoCard

/-- THE SECOND FORM's CARD OF 'laws.FnSeek'. -/
def fnSeekUptoCard : Claim7 := { stood := { row := fnSeekUptoRow, standIns := [], harness := (true, "9e532cf7e521ee8872cb0c014b1311278f250af04b3836744143f4fb78236bb7"), looks := false }, kinds := [], alts := [], laidByText := true, laidKinds := [.data, .data, .data], laidTests := true, laidLooks := .later }
def FnSeekUptoCardSaid : Prop := Claim7.holds Tryd.pinned (.plain (OpenSpec.upto fnSeekSpec)) fnSeekUptoCard
end Rows
end Go.Proofs.YtmjpopfacagjhaaDoor
