/- Walk of the reference's l2After. Conditions: what is known is valid (KnD.Ok) and can be read; the code can follow. -/
import Derived.Test.YtmjpopfacagjhaaDoorCleared
import Derived.Test.YtmjpopfacagjhaaDoorAny
namespace Go.Proofs.YtmjpopfacagjhaaDoor
set_option linter.unusedVariables false
set_option linter.unusedSimpArgs false
open Go Go.RowKit

theorem box_ne {w : World} {b : Nat} {cs : Array Value} {T : TypeId} (hb : w.heap[b]? = some (.cells cs T)) {base : Nat} {e : TypeId} {size n : Nat} {v : Value} {xs : List Value} (h : w.ownsRow base e size v n xs) (hne : T ≠ e) : some b ≠ v.ownBlock := by
  intro e1
  rcases h.2 with ⟨rfl, _⟩ | ⟨g, cap, cur, rfl, _, hg, _⟩
  · cases e1
  · simp only [Value.ownBlock, Option.some.injEq] at e1
    subst e1
    rw [hb] at hg
    cases hg
    exact hne rfl
theorem KnAt.up {b : Nat} {k : KnD} {v : Value} {w w' : World} (h : KnAt b k v w) (hu : Up w w') : KnAt b k v w' := box_up hu h
theorem KnAt.gr {b : Nat} {k : KnD} {v : Value} {w w' : World} {row : Option Nat} (h : KnAt b k v w) (hg : w.grownBy w' row) (hne : some b ≠ row) : KnAt b k v w' := gbox hg h hne
/-- Zeros of what is known, in a new block. -/
theorem knAt_new (w : World) : KnAt w.heap.size ⟨⟨0, 0, 0⟩, [], 0, 0⟩ (.slice none 0 0) (w.alloc (.cells #[.int .i64 0, .int .i64 0, .int .i64 0, .slice none 0 0, .int .i64 0, .int .i64 0] 116)) := (MapKept.heap_alloc w _).1
def KnW (w : World) (b : Nat) (k : KnD) (v : Value) : World := (((((w.setCell ⟨b, 0, none⟩ (.int .i64 k.set.ord)).setCell ⟨b, 1, none⟩ (.int .i64 k.set.lit)).setCell ⟨b, 2, none⟩ (.int .i64 k.set.most)).setCell ⟨b, 3, none⟩ v).setCell ⟨b, 4, none⟩ (.int .i64 k.base)).setCell ⟨b, 5, none⟩ (.int .i64 k.last)
theorem KnAt.store {w : World} {b : Nat} {k0 : KnD} {v0 : Value} (h : KnAt b k0 v0 w) (k : KnD) (v : Value) : KnAt b k v (KnW w b k v) :=
  box_set (box_set (box_set (box_set (box_set (box_set h 0 (.int .i64 k.set.ord)) 1 (.int .i64 k.set.lit)) 2 (.int .i64 k.set.most)) 3 v) 4 (.int .i64 k.base)) 5 (.int .i64 k.last)
theorem KnW.up {a w : World} (h : Up a w) {b : Nat} (hb : a.heap.size ≤ b) (k : KnD) (v : Value) : Up a (KnW w b k v) := by
  unfold KnW
  exact (((((h.set (p := ⟨b, 0, none⟩) hb _).set (p := ⟨b, 1, none⟩) hb _).set (p := ⟨b, 2, none⟩) hb _).set (p := ⟨b, 3, none⟩) hb _).set (p := ⟨b, 4, none⟩) hb _).set (p := ⟨b, 5, none⟩) hb _
theorem KnW.own {w : World} {base : Nat} {e : TypeId} {size n : Nat} {v : Value} {xs : List Value} (h : w.ownsRow base e size v n xs) {b : Nat} (hb : some b ≠ v.ownBlock) (k : KnD) (u : Value) : (KnW w b k u).ownsRow base e size v n xs := by
  unfold KnW
  have hs : ∀ (w : World) (i : Nat) (x : Value), w.ownsRow base e size v n xs → (w.setCell ⟨b, i, none⟩ x).ownsRow base e size v n xs := fun w i x h => h.kept (grownBy_set (grownBy_refl w (some b)) i x) (by
    cases hv : v.ownBlock with
    | none => exact .inl rfl
    | some g => exact .inr fun e => hb (by rw [hv, e]))
  exact hs _ _ _ (hs _ _ _ (hs _ _ _ (hs _ _ _ (hs _ _ _ (hs _ _ _ h)))))
theorem KnW.other {w : World} {b b' : Nat} (hb : b' ≠ b) (k : KnD) (v : Value) : (KnW w b k v).heap[b']? = w.heap[b']? := by
  unfold KnW
  have hs : ∀ (w : World) (i : Nat) (x : Value), (w.setCell ⟨b, i, none⟩ x).heap[b']? = w.heap[b']? := fun w i x => Below.heap_setCell _ _ _ _ hb
  rw [hs, hs, hs, hs, hs, hs]

theorem ownsRow_setb {w : World} {base : Nat} {e : TypeId} {size n : Nat} {v : Value} {xs : List Value} (h : w.ownsRow base e size v n xs) {b : Nat} (hb : some b ≠ v.ownBlock) (i : Nat) (u : Value) : (w.setCell ⟨b, i, none⟩ u).ownsRow base e size v n xs :=
  h.kept (grownBy_set (grownBy_refl w (some b)) i u) (by
    cases hv : v.ownBlock with
    | none => exact .inl rfl
    | some g => exact .inr fun e => hb (by rw [hv, e]))
/-- A new slice of one pair, in a block that is not the row's. -/
def NewP (row : Option Nat) (p : PairD) (v : Value) (w : World) : Prop := ∃ b, v = .slice (some ⟨b, 0, none⟩) 1 1 ∧ some b ≠ row ∧ w.heap[b]? = some (.cells #[.int .i64 p.pre, .int .i64 p.byt] 127)
theorem newP_closed {row : Option Nat} {p : PairD} : ∀ (v : Value) (w w' : World), NewP row p v w → w.grownBy w' row → NewP row p v w' := fun v w w' ⟨b, h1, h2, h3⟩ hg => ⟨b, h1, h2, gbox hg h3 h2⟩
theorem newP_cells {w : World} {b : Nat} {p : PairD} (h : w.heap[b]? = some (.cells #[.int .i64 p.pre, .int .i64 p.byt] 127)) : ∀ j u, (prC p)[j]? = some u → w.cell? ((⟨b, 0, none⟩ : Addr).add j) = some u := by
  intro j u hu
  have hadd : (⟨b, 0, none⟩ : Addr).add j = ⟨b, j, none⟩ := by unfold Addr.add; split <;> simp_all
  rw [hadd, box_cell h]
  simpa [prC] using hu
theorem bs_get0 (l : List UInt8) (h : 0 < (bs l).size) : ((bs l)[0]'h) = l.getD 0 0 := by
  have h' : 0 < l.length := by rw [bs_size] at h; exact h
  rw [List.getD_eq_getElem?_getD, List.getElem?_eq_getElem h']
  rfl

set_option maxRecDepth 100000 in
set_option maxHeartbeats 4000000 in
theorem l2After_any (k : KnD) (v : Value) (lo : Nat) (x : Int) (w : World) (h : k.Ok) (hr : RdP lo w v k.ps) (hf : k.follows x = true) :
    Calls Tryd.prog 92  #[kV k v, .int .i64 x] w (KnPost (k.after x) w) := by
  obtain ⟨hb1, hb2, hb3, hb4, hb5⟩ := h.nums
  have cG := fun w hr => l2Grows_any k v lo w h hr
  have cA := fun w hr => l2Any_any k v lo x w h hr hf
  have hr' := hr
  have hrt := fun (wq : World) (hu : Up w wq) => hr'.up hu
  obtain ⟨a, cap, rfl, hc1, hc2, hc3, -⟩ := hr
  unfold maxLen at hc2
  cases hg : k.grow
  · have e : Hid (k.after x = ⟨k.set, k.ps, k.base, x⟩) := by unfold Hid KnD.after; rw [hg]; simp
    rw [e.out]
    rw [hg] at cG
    clear h e hg cA hf
    simp only [kV] at *
    go_enter Tryd.func92, Tryd.ntmps92
    go_wp2
    refine wp_region_up 11 (by kernel_rfl) (by kernel_rfl) ?_
    simp only [List.take, List.drop]
    repeat (refine wpUp_step (fun K hK => ?_); go_simp; (try simp only [↓IntWalk.iteOmega]); first
      | (refine hK _ _ ?_; clear hK K)
      | (refine stepU_m (by kernel_rfl) ((fun v w' => ownPr w' (w.heap.size + 2) v k.ps)) (ownPr_closed _ _) (fun wq hwq => ?_) ?_
         · (have hbq := bcell hwq; (repeat (first | refine fills_no (by rfl) ?_ | refine fills_yes (by rfl) (fun vq hvq => ?_))); simp only [List.filter_nil, fills]; (obtain ⟨gq, eq1, hq1⟩ := hvq; exact upAt_copy (vs := vq) (.tmp 8) (.tmp 10) (by rfl) (w.heap.size + 2) lo (by rfl) (by rfl) eq1 hq1 k.ps (hrt _ (by (repeat (first | exact Up.refl _ | refine Up.alloc ?_ _ | refine Up.drew ?_ | refine Up.set ?_ (by first | exact Nat.le_refl _ | (simp; done) | (simp; omega)) _ | refine Up.trans ?_ (by with_reducible assumption))))) (by omega) (by have := hwq.size; simp at this; omega)))
         refine hK _ _ ?_; clear hK K)
      | (apply stepU_c
         · intro wq hwq; (have hbq := bcell hwq; (repeat (first | refine fills_no (by rfl) ?_ | refine fills_yes (by rfl) (fun vq hvq => ?_))); simp only [List.filter_nil, fills]; unfold upAt; (try (obtain ⟨aq, cq, rfl⟩ := ownsRow_shape hvq)); go_simp; (try go_bits); (try simp only [↓IntWalk.iteOmega]); (try (rw [dif_pos (by omega)]; go_simp; try go_bits)); first | exact upOut_value)
         go_simp; refine hK _ _ ?_; clear hK K)
      | (refine stepU_m (by kernel_rfl) (MtP (w.heap.size + 2)) (mtP_closed _) (fun wq hwq => ?_) ?_
         · (have hbq := bcell hwq; (repeat (first | refine fills_no (by rfl) ?_ | refine fills_yes (by rfl) (fun vq hvq => ?_))); simp only [List.filter_nil, fills]; unfold upAt; (try (obtain ⟨aq, cq, rfl⟩ := ownsRow_shape hvq)); go_simp; (try go_bits); (try simp only [↓IntWalk.iteOmega]); (try (rw [dif_pos (by omega)]; go_simp; try go_bits)); exact upOut_make ((Up.refl _).alloc _) (mtP_new (by have := hwq.size; simp at this; omega)))
         refine hK _ _ ?_; clear hK K)
      | (refine stepU_m (by kernel_rfl) (KnO (w.heap.size + 2) ⟨k.set, k.ps, k.base, x⟩) (knO_closed _ _) (fun wq hwq => ?_) ?_
         · (have hbq := bcell hwq; (repeat (first | refine fills_no (by rfl) ?_ | refine fills_yes (by rfl) (fun vq hvq => ?_))); simp only [List.filter_nil, fills]; unfold upAt; (try (obtain ⟨aq, cq, rfl⟩ := ownsRow_shape hvq)); go_simp; (try go_bits); (try simp only [↓IntWalk.iteOmega]); (try (rw [dif_pos (by omega)]; go_simp; try go_bits)); exact upOut_make (Up.refl _) ⟨_, rfl, by assumption⟩)
         refine hK _ _ ?_; clear hK K)
      | (refine stepU_m (by kernel_rfl) (Boxed (w.heap.size + 2) #[.int .i64 0, .int .i64 0, .int .i64 0, .slice none 0 0, .int .i64 0, .int .i64 0] 116) (boxed_closed _ _ _) (fun wq hwq => ?_) ?_
         · (have hbq := bcell hwq; (repeat (first | refine fills_no (by rfl) ?_ | refine fills_yes (by rfl) (fun vq hvq => ?_))); simp only [List.filter_nil, fills]; unfold upAt; (try (obtain ⟨aq, cq, rfl⟩ := ownsRow_shape hvq)); go_simp; (try go_bits); (try simp only [↓IntWalk.iteOmega]); (try (rw [dif_pos (by omega)]; go_simp; try go_bits)); exact upOut_make ((Up.refl _).alloc _) (boxed_new (by have := hwq.size; simp at this; omega)))
         refine hK _ _ ?_; clear hK K))
    refine wpUp_nil (fun wq hwq => ?_)
    simp only [fills]
    rintro v10 ⟨pb, rfl, hpb, hbox⟩ u ⟨v', rfl, hv'⟩ v1 - v2 -
    obtain ⟨a', c', rfl⟩ := ownsRow_shape hv'
    have hsz := hwq.size
    simp at hsz
    have hpl : pb < wq.heap.size := (Array.getElem?_eq_some_iff.1 hbox).1
    have hK0 : KnAt w.heap.size k (.slice a k.ps.length cap) wq := box_up hwq (box_up ((Up.refl _).alloc _) (MapKept.heap_alloc w _).1)
    have hR0 : KnAt (w.heap.size + 1) ⟨⟨0, 0, 0⟩, [], 0, 0⟩ (.slice none 0 0) wq := box_up hwq (by rw [← size_alloc w _]; exact (MapKept.heap_alloc _ _).1)
    have hK1 := KnAt.store (k0 := ⟨⟨0, 0, 0⟩, [], 0, 0⟩) (v0 := .slice none 0 0) hbox ⟨k.set, k.ps, k.base, x⟩ (.slice a' k.ps.length c')
    have hO1 := KnW.own hv' (box_ne hbox hv' (by decide)) ⟨k.set, k.ps, k.base, x⟩ (.slice a' k.ps.length c')
    have hU1 : Up w (KnW wq pb ⟨k.set, k.ps, k.base, x⟩ (.slice a' k.ps.length c')) := KnW.up (by (repeat (first | with_reducible exact Up.refl _ | with_reducible assumption | with_reducible refine Up.set ?_ (by first | exact Nat.le_refl _ | (simp only []; omega) | (simp; omega)) _ | with_reducible refine Up.alloc ?_ _ | with_reducible refine Up.drew ?_ | refine Up.trans ?_ (by with_reducible assumption)))) (by omega) _ _
    have hK0' : KnAt w.heap.size k (.slice a k.ps.length cap) (KnW wq pb ⟨k.set, k.ps, k.base, x⟩ (.slice a' k.ps.length c')) := (KnW.other (by omega) _ _).trans hK0
    have hR0' : KnAt (w.heap.size + 1) ⟨⟨0, 0, 0⟩, [], 0, 0⟩ (.slice none 0 0) (KnW wq pb ⟨k.set, k.ps, k.base, x⟩ (.slice a' k.ps.length c')) := (KnW.other (by omega) _ _).trans hR0
    have HH := Lib.hid (And.intro hK1 (And.intro hO1 (And.intro hU1 (And.intro hK0' hR0'))))
    clear hK1 hO1 hU1 hK0' hR0' hK0 hR0
    obtain ⟨-, q0, q1, q2, q3, q4, q5⟩ := KnAt.cells (k := ⟨⟨0, 0, 0⟩, [], 0, 0⟩) (v := .slice none 0 0) hbox
    have hfr := box_free hbox
    have BQ := bcell hwq
    clear hv' hbox
    go_wp2_with fail
    rw [show (World.setCell (World.setCell (World.setCell (World.setCell (World.setCell (World.setCell wq ⟨pb, 0, none⟩ (.int .i64 k.set.ord)) ⟨pb, 1, none⟩ (.int .i64 k.set.lit)) ⟨pb, 2, none⟩ (.int .i64 k.set.most)) ⟨pb, 3, none⟩ (.slice a' k.ps.length c')) ⟨pb, 4, none⟩ (.int .i64 k.base)) ⟨pb, 5, none⟩ (.int .i64 x)) = KnW wq pb ⟨k.set, k.ps, k.base, x⟩ (.slice a' k.ps.length c') from rfl]
    clear q0 q1 q2 q3 q4 q5 hfr BQ
    generalize KnW wq pb ⟨k.set, k.ps, k.base, x⟩ (.slice a' k.ps.length c') = W1 at HH ⊢
    obtain ⟨hK1, hO1, hU1, hK0, hR0⟩ := HH.out
    clear HH hwq hsz hpl
    refine (cG _ (hrt _ hU1)).mono ?_
    rintro e w2 ⟨rfl, U2⟩
    obtain ⟨-, r0, r1, r2, r3, r4, r5⟩ := KnAt.cells (box_up U2 hK1)
    obtain ⟨hRl, q0, q1, q2, q3, q4, q5⟩ := KnAt.cells (k := ⟨⟨0, 0, 0⟩, [], 0, 0⟩) (v := .slice none 0 0) (box_up U2 hR0)
    have hfr := box_free (box_up U2 hR0)
    have HO := Lib.hid (ownsRow_up hO1 U2)
    have HU := Lib.hid (hU1.trans U2)
    clear hK1 hO1 hU1 hK0 hR0 U2
    go_wp2
    refine bodyPost_ret (v := kV ⟨k.set, k.ps, k.base, x⟩ (.slice a' k.ps.length c')) (by simp [results, Tryd.results92, go_sem, q0, q1, q2, q3, q4, q5]) rfl ⟨_, rfl, ?_, ?_⟩
    · refine ownsRow_base (base := w.heap.size + 2) ?_ (by omega)
      repeat (with_reducible refine ownsRow_setne ?_ (by omega) _ _)
      exact HO.out
    · have hUU := HU.out
      (repeat (first | with_reducible exact Up.refl _ | with_reducible assumption | with_reducible refine Up.set ?_ (by first | exact Nat.le_refl _ | (simp only []; omega) | (simp; omega)) _ | with_reducible refine Up.alloc ?_ _ | with_reducible refine Up.drew ?_ | refine Up.trans ?_ (by with_reducible assumption)))
  · have e : Hid (k.after x = ⟨k.set, k.ps ++ [⟨k.last, k.first x⟩], k.base, x⟩) := by unfold Hid KnD.after; rw [hg]; rfl
    rw [e.out]
    rw [hg] at cG
    obtain ⟨i0, hi, hz0, hz1, hz2⟩ := info_parts infoPair
    have hap := KnD.any_pos h hf
    have hal := KnD.any_len h hf
    have hbl := bs_size (k.any x)
    have HFX : Hid (∀ h, (((bs (k.any x))[0]'h).toNat : Int) = k.first x) := fun h => by rw [bs_get0]; rfl
    have hfb := KnD.first_bd h hf
    have hfb3 : k.first x < 256 := by have := h.c_bd.2.1; omega
    have hfb1 := hfb.1
    clear hfb
    generalize hwd : k.any x = wd at *
    generalize k.first x = fx at *
    clear h e hg hf hwd
    simp only [kV] at *
    go_enter Tryd.func92, Tryd.ntmps92
    go_wp2
    refine wp_region_up 11 (by kernel_rfl) (by kernel_rfl) ?_
    simp only [List.take, List.drop]
    repeat (refine wpUp_step (fun K hK => ?_); go_simp; (try simp only [↓IntWalk.iteOmega]); first
      | (refine hK _ _ ?_; clear hK K)
      | (refine stepU_m (by kernel_rfl) ((fun v w' => ownPr w' (w.heap.size + 2) v k.ps)) (ownPr_closed _ _) (fun wq hwq => ?_) ?_
         · (have hbq := bcell hwq; (repeat (first | refine fills_no (by rfl) ?_ | refine fills_yes (by rfl) (fun vq hvq => ?_))); simp only [List.filter_nil, fills]; (obtain ⟨gq, eq1, hq1⟩ := hvq; exact upAt_copy (vs := vq) (.tmp 8) (.tmp 10) (by rfl) (w.heap.size + 2) lo (by rfl) (by rfl) eq1 hq1 k.ps (hrt _ (by (repeat (first | exact Up.refl _ | refine Up.alloc ?_ _ | refine Up.drew ?_ | refine Up.set ?_ (by first | exact Nat.le_refl _ | (simp; done) | (simp; omega)) _ | refine Up.trans ?_ (by with_reducible assumption))))) (by omega) (by have := hwq.size; simp at this; omega)))
         refine hK _ _ ?_; clear hK K)
      | (apply stepU_c
         · intro wq hwq; (have hbq := bcell hwq; (repeat (first | refine fills_no (by rfl) ?_ | refine fills_yes (by rfl) (fun vq hvq => ?_))); simp only [List.filter_nil, fills]; unfold upAt; (try (obtain ⟨aq, cq, rfl⟩ := ownsRow_shape hvq)); go_simp; (try go_bits); (try simp only [↓IntWalk.iteOmega]); (try (rw [dif_pos (by omega)]; go_simp; try go_bits)); first | exact upOut_value)
         go_simp; refine hK _ _ ?_; clear hK K)
      | (refine stepU_m (by kernel_rfl) (MtP (w.heap.size + 2)) (mtP_closed _) (fun wq hwq => ?_) ?_
         · (have hbq := bcell hwq; (repeat (first | refine fills_no (by rfl) ?_ | refine fills_yes (by rfl) (fun vq hvq => ?_))); simp only [List.filter_nil, fills]; unfold upAt; (try (obtain ⟨aq, cq, rfl⟩ := ownsRow_shape hvq)); go_simp; (try go_bits); (try simp only [↓IntWalk.iteOmega]); (try (rw [dif_pos (by omega)]; go_simp; try go_bits)); exact upOut_make ((Up.refl _).alloc _) (mtP_new (by have := hwq.size; simp at this; omega)))
         refine hK _ _ ?_; clear hK K)
      | (refine stepU_m (by kernel_rfl) (KnO (w.heap.size + 2) ⟨k.set, k.ps, k.base, x⟩) (knO_closed _ _) (fun wq hwq => ?_) ?_
         · (have hbq := bcell hwq; (repeat (first | refine fills_no (by rfl) ?_ | refine fills_yes (by rfl) (fun vq hvq => ?_))); simp only [List.filter_nil, fills]; unfold upAt; (try (obtain ⟨aq, cq, rfl⟩ := ownsRow_shape hvq)); go_simp; (try go_bits); (try simp only [↓IntWalk.iteOmega]); (try (rw [dif_pos (by omega)]; go_simp; try go_bits)); exact upOut_make (Up.refl _) ⟨_, rfl, by assumption⟩)
         refine hK _ _ ?_; clear hK K)
      | (refine stepU_m (by kernel_rfl) (Boxed (w.heap.size + 2) #[.int .i64 0, .int .i64 0, .int .i64 0, .slice none 0 0, .int .i64 0, .int .i64 0] 116) (boxed_closed _ _ _) (fun wq hwq => ?_) ?_
         · (have hbq := bcell hwq; (repeat (first | refine fills_no (by rfl) ?_ | refine fills_yes (by rfl) (fun vq hvq => ?_))); simp only [List.filter_nil, fills]; unfold upAt; (try (obtain ⟨aq, cq, rfl⟩ := ownsRow_shape hvq)); go_simp; (try go_bits); (try simp only [↓IntWalk.iteOmega]); (try (rw [dif_pos (by omega)]; go_simp; try go_bits)); exact upOut_make ((Up.refl _).alloc _) (boxed_new (by have := hwq.size; simp at this; omega)))
         refine hK _ _ ?_; clear hK K))
    refine wpUp_nil (fun wq hwq => ?_)
    simp only [fills]
    rintro v10 ⟨pb, rfl, hpb, hbox⟩ u ⟨v', rfl, hv'⟩ v1 - v2 -
    obtain ⟨a', c', rfl⟩ := ownsRow_shape hv'
    have hsz := hwq.size
    simp at hsz
    have hpl : pb < wq.heap.size := (Array.getElem?_eq_some_iff.1 hbox).1
    have hK0 : KnAt w.heap.size k (.slice a k.ps.length cap) wq := box_up hwq (box_up ((Up.refl _).alloc _) (MapKept.heap_alloc w _).1)
    have hR0 : KnAt (w.heap.size + 1) ⟨⟨0, 0, 0⟩, [], 0, 0⟩ (.slice none 0 0) wq := box_up hwq (by rw [← size_alloc w _]; exact (MapKept.heap_alloc _ _).1)
    have hK1 := KnAt.store (k0 := ⟨⟨0, 0, 0⟩, [], 0, 0⟩) (v0 := .slice none 0 0) hbox ⟨k.set, k.ps, k.base, x⟩ (.slice a' k.ps.length c')
    have hO1 := KnW.own hv' (box_ne hbox hv' (by decide)) ⟨k.set, k.ps, k.base, x⟩ (.slice a' k.ps.length c')
    have hU1 : Up w (KnW wq pb ⟨k.set, k.ps, k.base, x⟩ (.slice a' k.ps.length c')) := KnW.up (by (repeat (first | with_reducible exact Up.refl _ | with_reducible assumption | with_reducible refine Up.set ?_ (by first | exact Nat.le_refl _ | (simp only []; omega) | (simp; omega)) _ | with_reducible refine Up.alloc ?_ _ | with_reducible refine Up.drew ?_ | refine Up.trans ?_ (by with_reducible assumption)))) (by omega) _ _
    have hK0' : KnAt w.heap.size k (.slice a k.ps.length cap) (KnW wq pb ⟨k.set, k.ps, k.base, x⟩ (.slice a' k.ps.length c')) := (KnW.other (by omega) _ _).trans hK0
    have hR0' : KnAt (w.heap.size + 1) ⟨⟨0, 0, 0⟩, [], 0, 0⟩ (.slice none 0 0) (KnW wq pb ⟨k.set, k.ps, k.base, x⟩ (.slice a' k.ps.length c')) := (KnW.other (by omega) _ _).trans hR0
    have HH := Lib.hid (And.intro hK1 (And.intro hO1 (And.intro hU1 (And.intro hK0' hR0'))))
    clear hK1 hO1 hU1 hK0' hR0' hK0 hR0
    obtain ⟨-, q0, q1, q2, q3, q4, q5⟩ := KnAt.cells (k := ⟨⟨0, 0, 0⟩, [], 0, 0⟩) (v := .slice none 0 0) hbox
    have hfr := box_free hbox
    have BQ := bcell hwq
    clear hv' hbox
    go_wp2_with fail
    rw [show (World.setCell (World.setCell (World.setCell (World.setCell (World.setCell (World.setCell wq ⟨pb, 0, none⟩ (.int .i64 k.set.ord)) ⟨pb, 1, none⟩ (.int .i64 k.set.lit)) ⟨pb, 2, none⟩ (.int .i64 k.set.most)) ⟨pb, 3, none⟩ (.slice a' k.ps.length c')) ⟨pb, 4, none⟩ (.int .i64 k.base)) ⟨pb, 5, none⟩ (.int .i64 x)) = KnW wq pb ⟨k.set, k.ps, k.base, x⟩ (.slice a' k.ps.length c') from rfl]
    clear q0 q1 q2 q3 q4 q5 hfr BQ
    generalize KnW wq pb ⟨k.set, k.ps, k.base, x⟩ (.slice a' k.ps.length c') = W1 at HH ⊢
    obtain ⟨hK1, hO1, hU1, hK0, hR0⟩ := HH.out
    clear HH hwq hsz hpl
    refine (cG _ (hrt _ hU1)).mono ?_
    rintro e w2 ⟨rfl, U2⟩
    have hK1' := KnAt.up hK1 U2
    have hK0' := KnAt.up hK0 U2
    have hR0' := KnAt.up hR0 U2
    have HO := Lib.hid (ownsRow_up hO1 U2)
    have HU := Lib.hid (hU1.trans U2)
    have HKS := Lib.hid (And.intro hK1' (And.intro hK0' hR0'))
    obtain ⟨-, r0, r1, r2, r3, r4, r5⟩ := KnAt.cells hK1'
    obtain ⟨-, s0, s1, s2, s3, s4, s5⟩ := KnAt.cells hK0'
    have hne1 := Lib.hid (box_ne hK1' HO.out (by decide))
    have hne0 : Hid (some w.heap.size ≠ Value.ownBlock (.slice a' k.ps.length c')) := fun e => by have := (HO.out.lt _ e.symm).1; omega
    have hneR : Hid (some (w.heap.size + 1) ≠ Value.ownBlock (.slice a' k.ps.length c')) := fun e => by have := (HO.out.lt _ e.symm).1; omega
    have hrow : Hid (∀ y, Value.ownBlock (.slice a' k.ps.length c') = some y → w.heap.size ≤ y) := fun y hy => by have := (HO.out.lt y hy).1; omega
    have hfx := HFX.out
    have hws := (HU.out).size
    have hp1 := (Array.getElem?_eq_some_iff.1 hK1').1
    clear hK1 hO1 hU1 hK0 hR0 U2 hK1' hK0' hR0'
    go_wp2
    refine wp_region_own 13 11 (Value.ownBlock (.slice a' k.ps.length c')) (by kernel_rfl) (by kernel_rfl) ?_
    simp only [List.take, List.drop]
    repeat (refine wpG_step (fun K hK => ?_); go_simp; (try simp only [↓IntWalk.iteOmega]); first
      | (refine hK _ _ ?_; clear hK K)
      | (refine stepG_own (by rfl) (by kernel_rfl) ((fun v w' => w'.ownsRow (w.heap.size + 2) 127 2 v (k.ps.length + 1) (cellsPr k.ps ++ prC ⟨k.last, fx⟩))) ((fun v w w' h hu => ownsRow_up h hu)) (fun wq hwq => ?_) ?_
         · ((repeat (first | refine fills_no (by rfl) ?_ | refine fills_yes (by rfl) (fun vq hvq => ?_))); simp only [List.filter_nil, fills]; (obtain ⟨bq, eqb, nb, hcb⟩ := hvq; exact gAt_append (.tmp 19) (.tmp 28) 114 (by rfl) (w.heap.size + 2) 127 i0 (.agg #[.int .i64 0, .int .i64 0]) 2 16 Tryd.underlying114 hi hz0 hz1 hz2 rfl (by decide) (.slice a' k.ps.length c') k.ps.length (cellsPr k.ps) (by rfl) (ownsRow_up HO.out hwq) ⟨bq, 0, none⟩ 1 1 (prC ⟨k.last, fx⟩) (by exact eqb) rfl (newP_cells hcb) (prC_one _) (by unfold maxLen; omega) (by omega) (by have := hwq.size; omega) _ rfl))
         refine hK _ _ ?_; clear hK K)
      | (refine stepG_c (by rfl) ?_ ?_ ?_
         rotate_left
         · intro wq hwq; (have hbq := gcell hwq; (repeat (first | refine fills_no (by rfl) ?_ | refine fills_yes (by rfl) (fun vq hvq => ?_))); simp only [List.filter_nil, fills]; unfold upAt; (try ((obtain ⟨-, r0, r1, r2, r3, r4, r5⟩ := KnAt.cells (HKS.out.1.gr hwq hne1.out); obtain ⟨-, s0, s1, s2, s3, s4, s5⟩ := KnAt.cells (HKS.out.2.1.gr hwq hne0.out)))); go_simp; (try go_bits); (try simp only [↓IntWalk.iteOmega]); (try (rw [dif_pos (by omega)]; go_simp; try go_bits)); first | exact upOut_value | (apply upOut_call; (go_at_call 100; exact cA _ (hrt _ (Up.grown HU.out hwq hrow.out)))) | (apply upOut_eq; (go_at_call 100; exact cA _ (hrt _ (Up.grown HU.out hwq hrow.out)))))
         go_simp; refine hK _ _ ?_; clear hK K)
      | (refine stepG_m (by rfl) (by kernel_rfl) (NewP (Value.ownBlock (.slice a' k.ps.length c')) ⟨k.last, fx⟩) (newP_closed) (fun wq hwq => ?_) ?_
         · (have hbq := gcell hwq; (repeat (first | refine fills_no (by rfl) ?_ | refine fills_yes (by rfl) (fun vq hvq => ?_))); simp only [List.filter_nil, fills]; unfold upAt; (try ((obtain ⟨-, r0, r1, r2, r3, r4, r5⟩ := KnAt.cells (HKS.out.1.gr hwq hne1.out); obtain ⟨-, s0, s1, s2, s3, s4, s5⟩ := KnAt.cells (HKS.out.2.1.gr hwq hne0.out)))); go_simp; (try go_bits); (try simp only [↓IntWalk.iteOmega]); (try (rw [dif_pos (by omega)]; go_simp; try go_bits)); exact upOut_make ((Up.refl _).alloc _) ⟨_, rfl, own_ne HO.out hwq.size, (MapKept.heap_alloc _ _).1⟩)
         refine hK _ _ ?_; clear hK K))
    refine wpG_nil (by rfl) (fun wq hwq => ?_)
    simp only [fills]
    rintro v11 h11 v10 -
    obtain ⟨a3, c3, rfl⟩ := ownsRow_shape h11
    have hKp := KnAt.gr HKS.out.1 hwq hne1.out
    have hRr := KnAt.gr HKS.out.2.2 hwq hneR.out
    have HNB := Lib.hid (box_ne hKp h11 (by decide))
    have HU3 := Lib.hid (Up.grown HU.out hwq hrow.out)
    have H11 := Lib.hid h11
    have hwz := hwq.size
    obtain ⟨hpl, r0, r1, r2, r3, r4, r5⟩ := KnAt.cells hKp
    obtain ⟨hRl, q0, q1, q2, q3, q4, q5⟩ := KnAt.cells (k := ⟨⟨0, 0, 0⟩, [], 0, 0⟩) (v := .slice none 0 0) hRr
    have hfr := box_free hRr
    have hfp := box_free hKp
    clear h11 hKp hRr hwq cA cG hrt hr'
    go_wp2
    refine bodyPost_ret (v := kV ⟨k.set, k.ps ++ [⟨k.last, fx⟩], k.base, x⟩ (.slice a3 (k.ps.length + 1) c3)) (by simp [results, Tryd.results92, go_sem, q0, q1, q2, q3, q4, q5]) rfl ⟨_, rfl, ?_, ?_⟩
    · refine ownsRow_base (base := w.heap.size + 2) ?_ (by omega)
      simp only [List.length_append, List.length_cons, List.length_nil, cellsPr_snoc, Nat.zero_add]
      repeat (with_reducible refine ownsRow_setne ?_ (by omega) _ _)
      with_reducible refine ownsRow_setb ?_ HNB.out _ _
      exact H11.out
    · have hUU := HU3.out
      (repeat (first | with_reducible exact Up.refl _ | with_reducible assumption | with_reducible refine Up.set ?_ (by first | exact Nat.le_refl _ | (simp only []; omega) | (simp; omega)) _ | with_reducible refine Up.alloc ?_ _ | with_reducible refine Up.drew ?_ | refine Up.trans ?_ (by with_reducible assumption)))

end Go.Proofs.YtmjpopfacagjhaaDoor
