/- Walks of the laws' own functions on slices of places and of blocks: equality. Conditions: the rows can be read. -/
import Derived.Test.YtiiahjnfbhcgmaaGreatDoorPlaces
namespace Go.Proofs.YtiiahjnfbhcgmaaGreatDoor
set_option linter.unusedVariables false
set_option linter.unusedSimpArgs false
open Go.RowKit

theorem plc_cells' {w : World} {l : List PlaceD} {g : Nat} (hc : ∀ j u, (cellsP l)[j]? = some u → w.cell? ⟨g, j, none⟩ = some u) {k : Nat} (hk : k < l.length) :
    w.cell? ⟨g, k * 2, none⟩ = some (.int .i64 l[k].place) ∧ w.cell? ⟨g, k * 2 + 1, none⟩ = some (.int .i64 l[k].start) := plc_cells hc (List.getElem?_eq_getElem hk)
theorem read_cells {w : World} {base : Nat} {e : TypeId} {size n : Nat} {xs : List Value} {g cap : Nat} (h : w.ownsRow base e size (.slice (some ⟨g, 0, none⟩) n cap) n xs) : ∀ j u, xs[j]? = some u → w.cell? ⟨g, j, none⟩ = some u := fun j u hu => ownsRow_cell h hu

end Go.Proofs.YtiiahjnfbhcgmaaGreatDoor
