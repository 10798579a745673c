/- Texts joined into one: the walks and laws that the last text leans on. Conditions: as each says. -/
import Derived.Test.YtiiahjnfbhcgmaaDoorBa

set_option linter.unusedVariables false
set_option linter.unusedSimpArgs false
/- Walk of the reference's l5Places. Conditions: the blocks are those of a string (accOk) and can be read. -/
namespace Go.Proofs.YtiiahjnfbhcgmaaDoor
set_option linter.unusedVariables false
set_option linter.unusedSimpArgs false
open Go.RowKit

structure PlaceD where
  place : Int
  start : Int
end Go.Proofs.YtiiahjnfbhcgmaaDoor

/- Walks of IndexOf, the program's and the reference's. Conditions: the string's length is below 2^30. -/
namespace Go.Proofs.YtiiahjnfbhcgmaaDoor
set_option linter.unusedVariables false
set_option linter.unusedSimpArgs false
open Go.RowKit

theorem box_other {w : World} {b : Nat} {o : Obj} (h : w.heap[b]? = some o) {p : Addr} (hp : b ≠ p.block) (u : Value) : (w.setCell p u).heap[b]? = some o := by
  rw [Below.heap_setCell _ _ _ _ hp]; exact h

end Go.Proofs.YtiiahjnfbhcgmaaDoor

/- Walks of the laws' own functions that copy places that came in. Conditions: they can be read, and are at most 2^20. -/
namespace Go.Proofs.YtiiahjnfbhcgmaaDoor
set_option linter.unusedVariables false
set_option linter.unusedSimpArgs false
open Go.RowKit

/-- A slice of places that can be read. -/
def ArgP (w : World) (v : Value) (ps : List PlaceD) : Prop := ∃ a cap, v = .slice a ps.length cap ∧ ps.length ≤ maxLen ∧ (0 < ps.length → ∃ b off, a = some ⟨b, off, none⟩ ∧ ps.length ≤ cap ∧ cap ≤ maxLen ∧ b < w.heap.size ∧ ∀ i p, ps[i]? = some p → w.cell? ⟨b, off + i * 2, none⟩ = some (.int .i64 p.place) ∧ w.cell? ⟨b, off + i * 2 + 1, none⟩ = some (.int .i64 p.start))
theorem ArgP.up {w w' : World} {v : Value} {ps : List PlaceD} (h : ArgP w v ps) (hu : Up w w') : ArgP w' v ps := by
  obtain ⟨a, cap, h1, h2, h3⟩ := h
  refine ⟨a, cap, h1, h2, fun hp => ?_⟩
  obtain ⟨b, off, e1, e2, e3, e4, e5⟩ := h3 hp
  exact ⟨b, off, e1, e2, e3, Nat.lt_of_lt_of_le e4 hu.size, fun i p hi => ⟨(hu.cell (p := ⟨b, _, none⟩) e4).trans (e5 i p hi).1, (hu.cell (p := ⟨b, _, none⟩) e4).trans (e5 i p hi).2⟩⟩

end Go.Proofs.YtiiahjnfbhcgmaaDoor

