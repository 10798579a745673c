/- Texts joined into one: the walks and laws that the last text leans on. Conditions: as each says. -/
import Derived.Test.YtekogcjdaolcbaaGreatDoorMFnTravelLawB
import Derived.Lib.ItoaLen
import Derived.Lib.ItoaMem
import Derived.Test.YtekogcjdaolcbaaGreatDoorMFnTravelLawS
import Derived.Test.YtekogcjdaolcbaaGreatDoorMFnTravelLawE

set_option linter.unusedVariables false
set_option linter.unusedSimpArgs false
/- The reference's decimal text of a number. Conditions: at most a million. -/
namespace Go.Proofs.YtekogcjdaolcbaaGreatDoor
open Go.RowKit
theorem dec_big {m:Nat} (h: ¬ m<10):Lib.decDigits m=Lib.decDigits (m / 10)++ [UInt8.ofNat (48+m % 10)]:=by rw [Lib.decDigits,dif_neg h]
end Go.Proofs.YtekogcjdaolcbaaGreatDoor
/- FormatIndex of the reference. Conditions: the places can be read, at most 2^20. -/
namespace Go.Proofs.YtekogcjdaolcbaaGreatDoor
open Go Go.RowKit
theorem bs_nil:bs []=⟨#[]⟩:=rfl
end Go.Proofs.YtekogcjdaolcbaaGreatDoor
