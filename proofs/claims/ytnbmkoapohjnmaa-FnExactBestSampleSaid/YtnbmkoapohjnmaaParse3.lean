/- Walk of the reference's ParseBlock. Conditions: the string's length is below 2^30. -/
import Derived.Test.YtnbmkoapohjnmaaParse2
import Derived.Test.YtnbmkoapohjnmaaBytes
namespace Go.Proofs.Ytnbmkoapohjnmaa
set_option linter.unusedVariables false
set_option linter.unusedSimpArgs false
open Go.RowKit

end Go.Proofs.Ytnbmkoapohjnmaa
