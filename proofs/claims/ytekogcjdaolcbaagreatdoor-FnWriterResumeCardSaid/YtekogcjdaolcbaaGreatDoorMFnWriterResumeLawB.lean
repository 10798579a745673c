/- Texts joined into one: the walks and laws that the last text leans on. Conditions: as each says. -/
import Derived.Test.YtekogcjdaolcbaaGreatDoorCleared

set_option linter.unusedVariables false
set_option linter.unusedSimpArgs false
/- Walks of the reference's KnownValid and Start. Conditions: what is known is valid and can be read. -/
namespace Go.Proofs.YtekogcjdaolcbaaGreatDoor
open Go Go.RowKit
def setW (w : World) (b : Nat) (s : SetD) : World := ((w.setCell ⟨b, 0, none⟩ (.int .i64 s.ord)).setCell ⟨b, 1, none⟩ (.int .i64 s.lit)).setCell ⟨b, 2, none⟩ (.int .i64 s.most)
theorem SetAt.store {w : World} {b : Nat} {x y z : Int} (h : SetAt b x y z w) (s : SetD) : SetAt b s.ord s.lit s.most (setW w b s) :=
  box_set (box_set (box_set h 0 (.int .i64 s.ord)) 1 (.int .i64 s.lit)) 2 (.int .i64 s.most)
theorem setW.other {w : World} {b b' : Nat} (hb : b' ≠ b) (s : SetD) : (setW w b s).heap[b']? = w.heap[b']? := by
  unfold setW
  have hs : ∀ (w : World) (i : Nat) (x : Value), (w.setCell ⟨b, i, none⟩ x).heap[b']? = w.heap[b']? := fun w i x => Below.heap_setCell _ _ _ _ hb
  rw [hs, hs, hs]
theorem alloc2 (w : World) (A B : Obj) : ((w.alloc A).alloc B).heap[w.heap.size + 1]? = some B := by
  have := (MapKept.heap_alloc (w.alloc A) B).1
  rwa [size_alloc] at this
def RelKV (k : KnD) (v : Value) (w : World) (i : Value) (wr : World) : Prop := ∃ j : Nat, j ≤ k.ps.length ∧ i = .int .i64 j ∧ Up w wr ∧ KnAt w.heap.size k v wr ∧ SetAt (w.heap.size + 1) k.set.ord k.set.lit k.set.most wr
theorem setD_eta (s : SetD) : (⟨s.ord, s.lit, s.most⟩ : SetD) = s := rfl
set_option maxRecDepth 100000 in
set_option maxHeartbeats 1000000 in
theorem startS_any (s : SetD) (w : World) (h : setOk s = true) :
    Calls Tryz.prog 125  #[setV s] w (fun e w' => e = .returned (.tuple #[kV ⟨s, [], 0, -1⟩ (.slice none 0 0), .bool true]) ∧ Up w w') := by
  have cS := fun w => setS_any s.ord s.lit s.most w
  rw [setD_eta, h] at cS
  clear h
  simp only [setV]
  go_enter Tryz.func125, Tryz.ntmps125
  go_wp2_with ((go_at_call 103; (with_reducible refine (cS _).mono ?_); rintro e w1 ⟨rfl, U1⟩; have B1 := bcell U1; have Z1 := U1.size; (try simp at Z1); (try rw [Nat.add_one_le_iff] at Z1)); obtain ⟨-, q0, q1, q2, q3, q4, q5⟩ := KnAt.cells (b := w.heap.size + 1) (k := ⟨⟨0, 0, 0⟩, [], 0, 0⟩) (v := .slice none 0 0) (box_up U1 (alloc2 w _ _)))
  obtain ⟨-, q0, q1, q2, q3, q4, q5⟩ := KnAt.cells (b := w.heap.size + 1) (k := ⟨⟨0, 0, 0⟩, [], 0, 0⟩) (v := .slice none 0 0) (box_up U1 (alloc2 w _ _))
  refine bodyPost_ret (v := .tuple #[kV ⟨s, [], 0, -1⟩ (.slice none 0 0), .bool true]) (by simp [results, Tryz.results125, go_sem, q0, q1, q2, q3, q4, q5]) rfl ⟨rfl, ?_⟩
  (repeat (first | with_reducible exact Up.refl _ | with_reducible assumption | with_reducible refine Up.set ?_ (by first | exact Nat.le_refl _ | (simp only []; omega) | (simp; omega)) _ | with_reducible refine Up.alloc ?_ _ | with_reducible refine Up.drew ?_ | refine Up.trans ?_ (by with_reducible assumption)))
end Go.Proofs.YtekogcjdaolcbaaGreatDoor

