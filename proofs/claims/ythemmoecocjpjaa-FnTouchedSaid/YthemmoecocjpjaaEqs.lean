/- Walks of the laws' own functions on slices of places and of blocks: equality. Conditions: the rows can be read. -/
import Derived.Test.YthemmoecocjpjaaPlaces
namespace Go.Proofs.Ythemmoecocjpjaa
set_option linter.unusedVariables false
set_option linter.unusedSimpArgs false
open Go.RowKit

set_option maxRecDepth 100000 in
set_option maxHeartbeats 1000000 in
theorem eqBlk_same (n : Int) (r : Bool) (z : Int) (b : ByteArray) (w : World) :
    Calls Try.prog 45 #[.agg #[.int .i64 n, .bool r, .int .i64 z, .string b], .agg #[.int .i64 n, .bool r, .int .i64 z, .string b]] w (Same (.bool true) w) := by
  go_enter Try.func45, Try.ntmps45
  go_wp2
  go_ret
  refine ⟨rfl, ?_⟩
  (repeat (first | exact Up.refl _ | refine Up.alloc ?_ _ | refine Up.drew ?_ | refine Up.set ?_ (by first | exact Nat.le_refl _ | (simp; done) | (simp; omega)) _ | refine Up.trans ?_ (by with_reducible assumption)))

theorem plc_cells' {w : World} {l : List PlaceD} {g : Nat} (hc : ∀ j u, (cellsP l)[j]? = some u → w.cell? ⟨g, j, none⟩ = some u) {k : Nat} (hk : k < l.length) :
    w.cell? ⟨g, k * 2, none⟩ = some (.int .i64 l[k].place) ∧ w.cell? ⟨g, k * 2 + 1, none⟩ = some (.int .i64 l[k].start) := plc_cells hc (List.getElem?_eq_getElem hk)
theorem read_cells {w : World} {base : Nat} {e : TypeId} {size n : Nat} {xs : List Value} {g cap : Nat} (h : w.ownsRow base e size (.slice (some ⟨g, 0, none⟩) n cap) n xs) : ∀ j u, xs[j]? = some u → w.cell? ⟨g, j, none⟩ = some u := fun j u hu => ownsRow_cell h hu

end Go.Proofs.Ythemmoecocjpjaa
