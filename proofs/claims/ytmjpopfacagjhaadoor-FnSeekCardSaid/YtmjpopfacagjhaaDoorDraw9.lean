/- Walks of the reference's draws of strings, places and ranges, from the bytes of an input. Conditions: the bytes can be read. -/
import Derived.Test.YtmjpopfacagjhaaDoorDraw8
import Derived.Test.YtmjpopfacagjhaaDoorIndex
import Derived.Test.YtmjpopfacagjhaaDoorBa
namespace Go.Proofs.YtmjpopfacagjhaaDoor
set_option linter.unusedVariables false
set_option linter.unusedSimpArgs false
open Go Go.RowKit

def isInts2 (v : Value) : Prop := ∃ a b : Int, v = .tuple #[.int .i64 a, .int .i64 b]

end Go.Proofs.YtmjpopfacagjhaaDoor
