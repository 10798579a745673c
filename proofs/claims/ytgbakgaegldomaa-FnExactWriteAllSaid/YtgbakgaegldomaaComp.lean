/- Walks of the reference's l2Compress, Compress and CompressWith. Conditions: what is known is valid and can be read; for CompressWith none but the strings' bound. -/
import Derived.Test.YtgbakgaegldomaaPk2
import Derived.Test.YtgbakgaegldomaaGw
import Derived.Test.YtgbakgaegldomaaStartW
namespace Go.Proofs.Ytgbakgaegldomaa
set_option linter.unusedVariables false
set_option linter.unusedSimpArgs false
open Go Go.RowKit

/-- The stream of data. -/
def compL (k : KnD) (d : List UInt8) : List UInt8 := packL k.set.ord (packC k.set.ord (greedy k d) (walkN k (greedy k d) [] []).ws)
def compO (k : KnD) (d : List UInt8) : Option (List UInt8) := if fitsB k.set d then some (compL k d) else none
/-- The stream of data with a dictionary. -/
def compW (s : SetD) (dict d : List UInt8) : Option (List UInt8) := if fitsB s dict then compO (learnK (startK s) dict) d else none
def optS (o : Option (List UInt8)) : Value := .tuple #[.string (bs (o.getD [])), .bool o.isSome]
theorem upOut_ints {f : FuncId} {args : Array Value} {w : World} {l : List Int} (h : Calls Try.prog f args w (IntsPost l w)) : upOut Try.prog (fun v w' => RdI 0 w' v l) w (.ok (.enter f args) w) :=
  ⟨rfl, h.mono fun e w' ⟨v, he, ho, hu⟩ => ⟨v, he, hu, by
    obtain ⟨a, cap, h1, h2, h3, h4⟩ := RdI.of_own ho
    exact ⟨a, cap, h1, h2, h3, fun hp => by
      obtain ⟨b, off, e1, e2, e3, e4⟩ := h4 hp
      exact ⟨b, off, e1, Nat.zero_le _, e3, e4⟩⟩⟩⟩

end Go.Proofs.Ytgbakgaegldomaa
