/- Walk of the reference's l2Cleared. Conditions: what is known is valid (KnD.Ok) and can be read. -/
import Derived.Test.YtmjpopfacagjhaaDoorKns
namespace Go.Proofs.YtmjpopfacagjhaaDoor
set_option linter.unusedVariables false
set_option linter.unusedSimpArgs false
open Go Go.RowKit

theorem RdP.take {lo : Nat} {w : World} {a : Option Addr} {n cap : Nat} {ps : List PairD} (h : RdP lo w (.slice a n cap) ps) (m : Nat) (hm : m ≤ ps.length) : RdP lo w (.slice a m cap) (ps.take m) := by
  obtain ⟨a', cap', e, hc1, hc2, hc3, hsome⟩ := h
  cases e
  have hl : (ps.take m).length = m := by rw [List.length_take]; omega
  refine ⟨a, cap, by rw [hl], by rw [hl]; omega, hc2, fun e => by obtain ⟨h1, h2⟩ := hc3 e; exact ⟨by rw [hl]; omega, h2⟩, fun hp => ?_⟩
  rw [hl] at hp
  obtain ⟨b, off, e1, e2, e3, e4⟩ := hsome (by omega)
  refine ⟨b, off, e1, e2, e3, fun i p hi => e4 i p ?_⟩
  have hil := (List.getElem?_eq_some_iff.1 hi).1
  rw [List.getElem?_take, if_pos (by omega)] at hi
  exact hi

theorem ownsRow_setne {w : World} {base : Nat} {e : TypeId} {size n : Nat} {v : Value} {xs : List Value} (h : w.ownsRow base e size v n xs) {b : Nat} (hb : b < base) (i : Nat) (u : Value) : (w.setCell ⟨b, i, none⟩ u).ownsRow base e size v n xs :=
  h.kept (grownBy_set (grownBy_refl w (some b)) i u) (by
    cases hv : v.ownBlock with
    | none => exact .inl rfl
    | some g => exact .inr fun e => by have := (h.lt g hv).1; cases e; omega)
/-- What the functions that make something known leave. -/
def KnPost (k : KnD) (w : World) (e : Ending) (w' : World) : Prop := ∃ v, e = .returned (kV k v) ∧ ownPr w' w.heap.size v k.ps ∧ Up w w'

set_option maxRecDepth 100000 in
set_option maxHeartbeats 2000000 in
theorem l2Cleared_any (k : KnD) (v : Value) (lo : Nat) (w : World) (h : k.Ok) (hr : RdP lo w v k.ps) :
    Calls Tryd.prog 90  #[kV k v] w (KnPost k.cleared w) := by
  obtain ⟨hb1, hb2, hb3, hb4, hb5⟩ := h.nums
  have h0 := h.base0
  have h1 := h.base1
  obtain ⟨m, hm⟩ : ∃ m : Nat, k.base = m := ⟨k.base.toNat, by omega⟩
  have hml : m ≤ k.ps.length := by omega
  have hr' := hr
  obtain ⟨a, cap, rfl, hc1, hc2, hc3, -⟩ := hr
  have hrt := fun (wq : World) (hu : Up w wq) => (hr'.up hu).take m hml
  have e : Hid (k.cleared = ⟨k.set, k.ps.take m, m, -1⟩) := by unfold Hid KnD.cleared; rw [hm]; rfl
  rw [e.out]
  unfold maxLen at hc2
  have hlt : (k.ps.take m).length = m := by rw [List.length_take]; omega
  simp only [kV, hm]
  clear h h0 h1 e
  have hql : (k.ps.take m).length ≤ 1022 := by omega
  clear hlt
  generalize k.ps.take m = qs at *
  cases a with
  | none =>
    obtain ⟨z1, z2⟩ := hc3 rfl
    have hm0 : m = 0 := by omega
    subst hm0
    subst z2
    rw [z1]
    go_enter Tryd.func90, Tryd.ntmps90
    go_wp2
    refine wp_region_up 12 (by kernel_rfl) (by kernel_rfl) ?_
    simp only [List.take, List.drop]
    repeat (refine wpUp_step (fun K hK => ?_); go_simp; (try simp only [↓IntWalk.iteOmega]); first
      | (refine hK _ _ ?_; clear hK K)
      | (refine stepU_m (by kernel_rfl) ((fun v w' => ownPr w' (w.heap.size + 2) v (qs))) (ownPr_closed _ _) (fun wq hwq => ?_) ?_
         · (have hbq := bcell hwq; (repeat (first | refine fills_no (by rfl) ?_ | refine fills_yes (by rfl) (fun vq hvq => ?_))); simp only [List.filter_nil, fills]; (obtain ⟨gq, eq1, hq1⟩ := hvq; exact upAt_copy (vs := vq) (.tmp 5) (.tmp 10) (by rfl) (w.heap.size + 2) lo (by rfl) (by rfl) eq1 hq1 (qs) (hrt _ (by (repeat (first | exact Up.refl _ | refine Up.alloc ?_ _ | refine Up.drew ?_ | refine Up.set ?_ (by first | exact Nat.le_refl _ | (simp; done) | (simp; omega)) _ | refine Up.trans ?_ (by with_reducible assumption))))) (by omega) (by have := hwq.size; simp at this; omega)))
         refine hK _ _ ?_; clear hK K)
      | (apply stepU_c
         · intro wq hwq; (have hbq := bcell hwq; (repeat (first | refine fills_no (by rfl) ?_ | refine fills_yes (by rfl) (fun vq hvq => ?_))); simp only [List.filter_nil, fills]; unfold upAt; (try (obtain ⟨aq, cq, rfl⟩ := ownsRow_shape hvq)); go_simp; (try go_bits); (try simp only [↓IntWalk.iteOmega]); (try (rw [dif_pos (by omega)]; go_simp; try go_bits)); first | exact upOut_value)
         go_simp; refine hK _ _ ?_; clear hK K)
      | (refine stepU_m (by kernel_rfl) (MtP (w.heap.size + 2)) (mtP_closed _) (fun wq hwq => ?_) ?_
         · (have hbq := bcell hwq; (repeat (first | refine fills_no (by rfl) ?_ | refine fills_yes (by rfl) (fun vq hvq => ?_))); simp only [List.filter_nil, fills]; unfold upAt; (try (obtain ⟨aq, cq, rfl⟩ := ownsRow_shape hvq)); go_simp; (try go_bits); (try simp only [↓IntWalk.iteOmega]); (try (rw [dif_pos (by omega)]; go_simp; try go_bits)); exact upOut_make ((Up.refl _).alloc _) (mtP_new (by have := hwq.size; simp at this; omega)))
         refine hK _ _ ?_; clear hK K)
      | (refine stepU_m (by kernel_rfl) (KnO (w.heap.size + 2) ⟨k.set, qs, (0 : Nat), -1⟩) (knO_closed _ _) (fun wq hwq => ?_) ?_
         · (have hbq := bcell hwq; (repeat (first | refine fills_no (by rfl) ?_ | refine fills_yes (by rfl) (fun vq hvq => ?_))); simp only [List.filter_nil, fills]; unfold upAt; (try (obtain ⟨aq, cq, rfl⟩ := ownsRow_shape hvq)); go_simp; (try go_bits); (try simp only [↓IntWalk.iteOmega]); (try (rw [dif_pos (by omega)]; go_simp; try go_bits)); exact upOut_make (Up.refl _) ⟨_, rfl, by assumption⟩)
         refine hK _ _ ?_; clear hK K))
    refine wpUp_nil (fun wq hwq => ?_)
    simp only [fills]
    rintro u ⟨v', rfl, hv'⟩ v1 - v2 -
    obtain ⟨a', c', rfl⟩ := ownsRow_shape hv'
    have BQ := bcell hwq
    have HV := Lib.hid hv'
    clear hv'
    have hsz := hwq.size
    simp at hsz
    obtain ⟨-, q0, q1, q2, q3, q4, q5⟩ := KnAt.cells (b := w.heap.size + 1) (k := ⟨⟨0, 0, 0⟩, [], 0, 0⟩) (v := .slice none 0 0) (box_up hwq (by rw [← size_alloc w _]; exact (MapKept.heap_alloc _ _).1))
    go_wp2
    refine bodyPost_ret (v := kV ⟨k.set, qs, (0 : Nat), -1⟩ (.slice a' (qs).length c')) (by simp [results, Tryd.results90, go_sem, q0, q1, q2, q3, q4, q5]) rfl ⟨_, rfl, ?_, ?_⟩
    · refine ownsRow_base (base := w.heap.size + 2) ?_ (by omega)
      repeat (with_reducible refine ownsRow_setne ?_ (by omega) _ _)
      exact HV.out
    · (repeat (first | with_reducible exact Up.refl _ | with_reducible assumption | with_reducible refine Up.set ?_ (by first | exact Nat.le_refl _ | (simp only []; omega) | (simp; omega)) _ | with_reducible refine Up.alloc ?_ _ | with_reducible refine Up.drew ?_ | refine Up.trans ?_ (by with_reducible assumption)))
  | some ad =>
    go_enter Tryd.func90, Tryd.ntmps90
    go_wp2
    refine wp_region_up 12 (by kernel_rfl) (by kernel_rfl) ?_
    simp only [List.take, List.drop]
    repeat (refine wpUp_step (fun K hK => ?_); go_simp; (try simp only [↓IntWalk.iteOmega]); first
      | (refine hK _ _ ?_; clear hK K)
      | (refine stepU_m (by kernel_rfl) ((fun v w' => ownPr w' (w.heap.size + 2) v qs)) (ownPr_closed _ _) (fun wq hwq => ?_) ?_
         · (have hbq := bcell hwq; (repeat (first | refine fills_no (by rfl) ?_ | refine fills_yes (by rfl) (fun vq hvq => ?_))); simp only [List.filter_nil, fills]; (obtain ⟨gq, eq1, hq1⟩ := hvq; exact upAt_copy (vs := vq) (.tmp 5) (.tmp 10) (by rfl) (w.heap.size + 2) lo (by rfl) (by rfl) eq1 hq1 qs (hrt _ (by (repeat (first | exact Up.refl _ | refine Up.alloc ?_ _ | refine Up.drew ?_ | refine Up.set ?_ (by first | exact Nat.le_refl _ | (simp; done) | (simp; omega)) _ | refine Up.trans ?_ (by with_reducible assumption))))) (by omega) (by have := hwq.size; simp at this; omega)))
         refine hK _ _ ?_; clear hK K)
      | (apply stepU_c
         · intro wq hwq; (have hbq := bcell hwq; (repeat (first | refine fills_no (by rfl) ?_ | refine fills_yes (by rfl) (fun vq hvq => ?_))); simp only [List.filter_nil, fills]; unfold upAt; (try (obtain ⟨aq, cq, rfl⟩ := ownsRow_shape hvq)); go_simp; (try go_bits); (try simp only [↓IntWalk.iteOmega]); (try (rw [dif_pos (by omega)]; go_simp; try go_bits)); first | exact upOut_value)
         go_simp; refine hK _ _ ?_; clear hK K)
      | (refine stepU_m (by kernel_rfl) (MtP (w.heap.size + 2)) (mtP_closed _) (fun wq hwq => ?_) ?_
         · (have hbq := bcell hwq; (repeat (first | refine fills_no (by rfl) ?_ | refine fills_yes (by rfl) (fun vq hvq => ?_))); simp only [List.filter_nil, fills]; unfold upAt; (try (obtain ⟨aq, cq, rfl⟩ := ownsRow_shape hvq)); go_simp; (try go_bits); (try simp only [↓IntWalk.iteOmega]); (try (rw [dif_pos (by omega)]; go_simp; try go_bits)); exact upOut_make ((Up.refl _).alloc _) (mtP_new (by have := hwq.size; simp at this; omega)))
         refine hK _ _ ?_; clear hK K)
      | (refine stepU_m (by kernel_rfl) (KnO (w.heap.size + 2) ⟨k.set, qs, (m : Nat), -1⟩) (knO_closed _ _) (fun wq hwq => ?_) ?_
         · (have hbq := bcell hwq; (repeat (first | refine fills_no (by rfl) ?_ | refine fills_yes (by rfl) (fun vq hvq => ?_))); simp only [List.filter_nil, fills]; unfold upAt; (try (obtain ⟨aq, cq, rfl⟩ := ownsRow_shape hvq)); go_simp; (try go_bits); (try simp only [↓IntWalk.iteOmega]); (try (rw [dif_pos (by omega)]; go_simp; try go_bits)); exact upOut_make (Up.refl _) ⟨_, rfl, by assumption⟩)
         refine hK _ _ ?_; clear hK K))
    refine wpUp_nil (fun wq hwq => ?_)
    simp only [fills]
    rintro u ⟨v', rfl, hv'⟩ v1 - v2 -
    obtain ⟨a', c', rfl⟩ := ownsRow_shape hv'
    have BQ := bcell hwq
    have HV := Lib.hid hv'
    clear hv'
    have hsz := hwq.size
    simp at hsz
    obtain ⟨-, q0, q1, q2, q3, q4, q5⟩ := KnAt.cells (b := w.heap.size + 1) (k := ⟨⟨0, 0, 0⟩, [], 0, 0⟩) (v := .slice none 0 0) (box_up hwq (by rw [← size_alloc w _]; exact (MapKept.heap_alloc _ _).1))
    go_wp2
    refine bodyPost_ret (v := kV ⟨k.set, qs, (m : Nat), -1⟩ (.slice a' qs.length c')) (by simp [results, Tryd.results90, go_sem, q0, q1, q2, q3, q4, q5]) rfl ⟨_, rfl, ?_, ?_⟩
    · refine ownsRow_base (base := w.heap.size + 2) ?_ (by omega)
      repeat (with_reducible refine ownsRow_setne ?_ (by omega) _ _)
      exact HV.out
    · (repeat (first | with_reducible exact Up.refl _ | with_reducible assumption | with_reducible refine Up.set ?_ (by first | exact Nat.le_refl _ | (simp only []; omega) | (simp; omega)) _ | with_reducible refine Up.alloc ?_ _ | with_reducible refine Up.drew ?_ | refine Up.trans ?_ (by with_reducible assumption)))

end Go.Proofs.YtmjpopfacagjhaaDoor
