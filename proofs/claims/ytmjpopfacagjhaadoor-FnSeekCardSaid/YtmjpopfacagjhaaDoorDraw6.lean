/- Walk of the reference's l5Bad. Conditions: the reader is one (Rdr), its place is bounded. -/
import Derived.Test.YtmjpopfacagjhaaDoorDraw5
namespace Go.Proofs.YtmjpopfacagjhaaDoor
set_option linter.unusedVariables false
set_option linter.unusedSimpArgs false
open Go Go.RowKit

end Go.Proofs.YtmjpopfacagjhaaDoor
