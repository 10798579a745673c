/- Walks of the laws' own functions that copy places that came in. Conditions: they can be read, and are at most 2^20. -/
import Derived.Test.YtiiahjnfbhcgmaaGreatDoorIndex
namespace Go.Proofs.YtiiahjnfbhcgmaaGreatDoor
set_option linter.unusedVariables false
set_option linter.unusedSimpArgs false
open Go.RowKit

/-- A slice of places that can be read. -/
def ArgP (w : World) (v : Value) (ps : List PlaceD) : Prop := ∃ a cap, v = .slice a ps.length cap ∧ ps.length ≤ maxLen ∧ (0 < ps.length → ∃ b off, a = some ⟨b, off, none⟩ ∧ ps.length ≤ cap ∧ cap ≤ maxLen ∧ b < w.heap.size ∧ ∀ i p, ps[i]? = some p → w.cell? ⟨b, off + i * 2, none⟩ = some (.int .i64 p.place) ∧ w.cell? ⟨b, off + i * 2 + 1, none⟩ = some (.int .i64 p.start))
theorem ArgP.up {w w' : World} {v : Value} {ps : List PlaceD} (h : ArgP w v ps) (hu : Up w w') : ArgP w' v ps := by
  obtain ⟨a, cap, h1, h2, h3⟩ := h
  refine ⟨a, cap, h1, h2, fun hp => ?_⟩
  obtain ⟨b, off, e1, e2, e3, e4, e5⟩ := h3 hp
  exact ⟨b, off, e1, e2, e3, Nat.lt_of_lt_of_le e4 hu.size, fun i p hi => ⟨(hu.cell (p := ⟨b, _, none⟩) e4).trans (e5 i p hi).1, (hu.cell (p := ⟨b, _, none⟩) e4).trans (e5 i p hi).2⟩⟩

def midT (ps : List PlaceD) (k : Nat) : List PlaceD := ps.take k ++ List.replicate (ps.length - k) ⟨0, 0⟩
theorem midT_all (ps : List PlaceD) : midT ps ps.length = ps := by simp [midT]
theorem midT_zero (ps : List PlaceD) : midT ps 0 = List.replicate ps.length ⟨0, 0⟩ := by simp [midT]
theorem midT_at (ps : List PlaceD) (k : Nat) (h : k < ps.length) : (midT ps k)[k]? = some ⟨0, 0⟩ := by
  rw [midT, List.getElem?_append_right (by simp; omega), List.getElem?_replicate, if_pos (by simp; omega)]
theorem midT_set (ps : List PlaceD) (k : Nat) (h : k < ps.length) : ((cellsP (midT ps k)).set (k * 2) (.int .i64 ps[k].place)).set (k * 2 + 1) (.int .i64 ps[k].start) = cellsP (midT ps (k + 1)) := by
  have e : List.replicate (ps.length - k) (⟨0, 0⟩ : PlaceD) = ⟨0, 0⟩ :: List.replicate (ps.length - (k + 1)) ⟨0, 0⟩ := by
    rw [show ps.length - k = (ps.length - (k + 1)) + 1 by omega]; rfl
  rw [midT, midT, e, List.take_succ_eq_append_getElem h]
  simp only [cellsP, List.flatMap_append, List.flatMap_cons, List.flatMap_nil, List.append_nil, List.append_assoc]
  exact set2 _ _ _ _ _ _ _ (by have := cellsP_length (ps.take k); rw [List.length_take, Nat.min_eq_left (by omega)] at this; exact this)

def RelTP (ps : List PlaceD) (w : World) (i : Value) (wr : World) : Prop := ∃ k : Nat, k ≤ ps.length ∧ i = .int .i64 k ∧ Up w wr ∧ wr.ownsRow w.heap.size 129 2 (.slice (some ⟨w.heap.size, 0, none⟩) ps.length ps.length) ps.length (cellsP (midT ps k))

end Go.Proofs.YtiiahjnfbhcgmaaGreatDoor
