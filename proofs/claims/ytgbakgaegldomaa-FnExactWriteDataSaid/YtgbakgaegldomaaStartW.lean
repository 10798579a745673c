/- Walks of the reference's LearnKnown and StartWith. Conditions: as each says. -/
import Derived.Test.YtgbakgaegldomaaLearn
namespace Go.Proofs.Ytgbakgaegldomaa
set_option linter.unusedVariables false
set_option linter.unusedSimpArgs false
open Go Go.RowKit

abbrev noKn : Value := .agg #[.int .i64 0, .int .i64 0, .int .i64 0, .slice none 0 0, .int .i64 0, .int .i64 0]
def KnPost2 (k : KnD) (w : World) (e : Ending) (w' : World) : Prop := ∃ v, e = .returned (.tuple #[kV k v, .bool true]) ∧ ownPr w' w.heap.size v k.ps ∧ Up w w'

set_option maxRecDepth 100000 in
set_option maxHeartbeats 1000000 in
theorem startS_no (s : SetD) (w : World) (h : setOk s = false) :
    Calls Try.prog 117  #[setV s] w (Same (.tuple #[noKn, .bool false]) w) := by
  have cS := fun w => setS_any s.ord s.lit s.most w
  rw [setD_eta, h] at cS
  clear h
  simp only [setV]
  go_enter Try.func117, Try.ntmps117
  go_wp2_with ((go_at_call 69; (with_reducible refine (cS _).mono ?_); rintro e w1 ⟨rfl, U1⟩; have B1 := bcell U1; have Z1 := U1.size; (try simp at Z1); (try rw [Nat.add_one_le_iff] at Z1)))
  obtain ⟨-, q0, q1, q2, q3, q4, q5⟩ := KnAt.cells (b := w.heap.size + 1) (k := ⟨⟨0, 0, 0⟩, [], 0, 0⟩) (v := .slice none 0 0) (box_up U1 (alloc2 w _ _))
  refine bodyPost_ret (v := .tuple #[noKn, .bool false]) (by simp [results, Try.results117, go_sem, q0, q1, q2, q3, q4, q5]) rfl ⟨rfl, ?_⟩
  (repeat (first | with_reducible exact Up.refl _ | with_reducible assumption | with_reducible refine Up.set ?_ (by first | exact Nat.le_refl _ | (simp only []; omega) | (simp; omega)) _ | with_reducible refine Up.alloc ?_ _ | with_reducible refine Up.drew ?_ | refine Up.trans ?_ (by with_reducible assumption)))

theorem fitsB_lits {s : SetD} {d : List UInt8} (h : fitsB s d = true) : setOk s = true ∧ d.length ≤ 2000 ∧ ∀ b ∈ d, b.toNat < clr s := by
  unfold fitsB at h
  simp only [Bool.and_eq_true, decide_eq_true_eq] at h
  refine ⟨h.1.1, h.1.2, fun b hb => ?_⟩
  have := h.2
  unfold litsL at this
  rw [List.all_eq_true] at this
  simpa using this b hb

end Go.Proofs.Ytgbakgaegldomaa
