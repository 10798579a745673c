/- Walks of the reference's l2Follows and l2Step. Conditions: what is known is valid (KnD.Ok) and can be read. -/
import Derived.Test.YtmjpopfacagjhaaDoorAfter
import Derived.Test.YtmjpopfacagjhaaDoorKV
namespace Go.Proofs.YtmjpopfacagjhaaDoor
set_option linter.unusedVariables false
set_option linter.unusedSimpArgs false
open Go Go.RowKit

set_option maxRecDepth 100000 in
set_option maxHeartbeats 1000000 in
theorem l2Follows_any (k : KnD) (v : Value) (lo : Nat) (x : Int) (w : World) (h : k.Ok) (hr : RdP lo w v k.ps) :
    Calls Tryd.prog 104  #[kV k v, .int .i64 x] w (Same (.bool (k.follows x)) w) := by
  have cN := fun wx hr => l2Next_any k v lo wx h hr
  have cG := fun wx hr => l2Grows_any k v lo wx h hr
  have cK := fun wx => l2Code_any k.set x k.ps.length wx h.set (by have := h.nums; omega)
  have hrt := fun (wq : World) (hu : Up w wq) => hr.up hu
  have e : Hid (k.follows x = (codeOk (clr k.set) k.ps.length x || (k.grow && decide (x = k.next)))) := rfl
  obtain ⟨a, cap, rfl, -, -, -, -⟩ := hr
  have hlb := h.nums.2.2.2.1
  rw [e.out]
  clear h e
  simp only [kV] at *
  cases h1 : codeOk (clr k.set) k.ps.length x
  · rw [h1] at cK
    cases h2 : k.grow
    · rw [h2] at cG
      clear h1 h2
      go_enter Tryd.func104, Tryd.ntmps104
      go_wp2_with (first | (go_at_call 86; (with_reducible refine (cK _).mono ?_); rintro e w1 ⟨rfl, U1⟩; have B1 := bcell U1; have Z1 := U1.size; (try simp at Z1); (try rw [Nat.add_one_le_iff] at Z1)) | (go_at_call 101; (with_reducible refine (cG _ (hrt _ (by (repeat (first | with_reducible exact Up.refl _ | with_reducible assumption | with_reducible refine Up.set ?_ (by first | exact Nat.le_refl _ | (simp only []; omega) | (simp; omega)) _ | with_reducible refine Up.alloc ?_ _ | with_reducible refine Up.drew ?_ | refine Up.trans ?_ (by with_reducible assumption)))))).mono ?_); rintro e w2 ⟨rfl, U2⟩; have B2 := bcell U2; have Z2 := U2.size; (try simp at Z2); (try rw [Nat.add_one_le_iff] at Z2)))
      go_ret
      refine ⟨rfl, ?_⟩
      (repeat (first | with_reducible exact Up.refl _ | with_reducible assumption | with_reducible refine Up.set ?_ (by first | exact Nat.le_refl _ | (simp only []; omega) | (simp; omega)) _ | with_reducible refine Up.alloc ?_ _ | with_reducible refine Up.drew ?_ | refine Up.trans ?_ (by with_reducible assumption)))
    · rw [h2] at cG
      clear h1 h2
      by_cases h3 : x = k.next
      · subst h3
        go_enter Tryd.func104, Tryd.ntmps104
        go_wp2_with (first | (go_at_call 86; (with_reducible refine (cK _).mono ?_); rintro e w1 ⟨rfl, U1⟩; have B1 := bcell U1; have Z1 := U1.size; (try simp at Z1); (try rw [Nat.add_one_le_iff] at Z1)) | (go_at_call 101; (with_reducible refine (cG _ (hrt _ (by (repeat (first | with_reducible exact Up.refl _ | with_reducible assumption | with_reducible refine Up.set ?_ (by first | exact Nat.le_refl _ | (simp only []; omega) | (simp; omega)) _ | with_reducible refine Up.alloc ?_ _ | with_reducible refine Up.drew ?_ | refine Up.trans ?_ (by with_reducible assumption)))))).mono ?_); rintro e w2 ⟨rfl, U2⟩; have B2 := bcell U2; have Z2 := U2.size; (try simp at Z2); (try rw [Nat.add_one_le_iff] at Z2)) | (go_at_call 98; (with_reducible refine (cN _ (hrt _ (by (repeat (first | with_reducible exact Up.refl _ | with_reducible assumption | with_reducible refine Up.set ?_ (by first | exact Nat.le_refl _ | (simp only []; omega) | (simp; omega)) _ | with_reducible refine Up.alloc ?_ _ | with_reducible refine Up.drew ?_ | refine Up.trans ?_ (by with_reducible assumption)))))).mono ?_); rintro e w3 ⟨rfl, U3⟩; have B3 := bcell U3; have Z3 := U3.size; (try simp at Z3); (try rw [Nat.add_one_le_iff] at Z3)))
        go_ret
        refine ⟨ret_bool (by simp), ?_⟩
        (repeat (first | with_reducible exact Up.refl _ | with_reducible assumption | with_reducible refine Up.set ?_ (by first | exact Nat.le_refl _ | (simp only []; omega) | (simp; omega)) _ | with_reducible refine Up.alloc ?_ _ | with_reducible refine Up.drew ?_ | refine Up.trans ?_ (by with_reducible assumption)))
      · have h3' : (x == (k.next : Int)) = false := by simpa using h3
        have HE : Hid ((false || (true && decide (x = (k.next : Int)))) = false) := by unfold Hid; simp [h3]
        rw [HE.out]
        clear h3 HE
        go_enter Tryd.func104, Tryd.ntmps104
        go_wp2_with (first | (go_at_call 86; (with_reducible refine (cK _).mono ?_); rintro e w1 ⟨rfl, U1⟩; have B1 := bcell U1; have Z1 := U1.size; (try simp at Z1); (try rw [Nat.add_one_le_iff] at Z1)) | (go_at_call 101; (with_reducible refine (cG _ (hrt _ (by (repeat (first | with_reducible exact Up.refl _ | with_reducible assumption | with_reducible refine Up.set ?_ (by first | exact Nat.le_refl _ | (simp only []; omega) | (simp; omega)) _ | with_reducible refine Up.alloc ?_ _ | with_reducible refine Up.drew ?_ | refine Up.trans ?_ (by with_reducible assumption)))))).mono ?_); rintro e w2 ⟨rfl, U2⟩; have B2 := bcell U2; have Z2 := U2.size; (try simp at Z2); (try rw [Nat.add_one_le_iff] at Z2)) | (go_at_call 98; (with_reducible refine (cN _ (hrt _ (by (repeat (first | with_reducible exact Up.refl _ | with_reducible assumption | with_reducible refine Up.set ?_ (by first | exact Nat.le_refl _ | (simp only []; omega) | (simp; omega)) _ | with_reducible refine Up.alloc ?_ _ | with_reducible refine Up.drew ?_ | refine Up.trans ?_ (by with_reducible assumption)))))).mono ?_); rintro e w3 ⟨rfl, U3⟩; have B3 := bcell U3; have Z3 := U3.size; (try simp at Z3); (try rw [Nat.add_one_le_iff] at Z3)))
        go_ret
        refine ⟨rfl, ?_⟩
        (repeat (first | with_reducible exact Up.refl _ | with_reducible assumption | with_reducible refine Up.set ?_ (by first | exact Nat.le_refl _ | (simp only []; omega) | (simp; omega)) _ | with_reducible refine Up.alloc ?_ _ | with_reducible refine Up.drew ?_ | refine Up.trans ?_ (by with_reducible assumption)))
  · rw [h1] at cK
    clear h1
    go_enter Tryd.func104, Tryd.ntmps104
    go_wp2_with (first | (go_at_call 86; (with_reducible refine (cK _).mono ?_); rintro e w1 ⟨rfl, U1⟩; have B1 := bcell U1; have Z1 := U1.size; (try simp at Z1); (try rw [Nat.add_one_le_iff] at Z1)))
    go_ret
    refine ⟨rfl, ?_⟩
    (repeat (first | with_reducible exact Up.refl _ | with_reducible assumption | with_reducible refine Up.set ?_ (by first | exact Nat.le_refl _ | (simp only []; omega) | (simp; omega)) _ | with_reducible refine Up.alloc ?_ _ | with_reducible refine Up.drew ?_ | refine Up.trans ?_ (by with_reducible assumption)))

def KnD.step (k : KnD) (x : Int) : KnD := if x = (k.c : Int) then k.cleared else k.after x

set_option maxRecDepth 100000 in
set_option maxHeartbeats 2000000 in
theorem l2Step_any (k : KnD) (v : Value) (lo : Nat) (x : Int) (w : World) (h : k.Ok) (hr : RdP lo w v k.ps) (hf : x ≠ (k.c : Int) → k.follows x = true) :
    Calls Tryd.prog 105  #[kV k v, .int .i64 x] w (KnPost (k.step x) w) := by
  have cK := fun wx => l1Clear_any k.set wx h.set
  have hrt := fun (wq : World) (hu : Up w wq) => hr.up hu
  have ec : k.c = clr k.set := rfl
  by_cases hx : x = (k.c : Int)
  · have cC := fun wx hr => l2Cleared_any k v lo wx h hr
    have e : Hid (k.step x = k.cleared) := by unfold Hid KnD.step; rw [if_pos hx]
    obtain ⟨a, cap, rfl, -, -, -, -⟩ := hr
    rw [e.out]
    subst hx
    clear h e hf
    generalize k.cleared = kk at *
    simp only [kV, ec] at *
    go_enter Tryd.func105, Tryd.ntmps105
    go_wp2_with (first | ((go_at_call 60; (with_reducible refine (cK _).mono ?_); rintro e w1 ⟨rfl, U1⟩; have B1 := bcell U1; have Z1 := U1.size; (try simp at Z1); (try rw [Nat.add_one_le_iff] at Z1)); have Y1 : w.heap.size < w1.heap.size := (by have := U1.size; simp at this; omega)) | (go_at_call 90; (with_reducible refine (cC _ (hrt _ (by (repeat (first | with_reducible exact Up.refl _ | with_reducible assumption | with_reducible refine Up.set ?_ (by first | exact Nat.le_refl _ | (simp only []; omega) | (simp; omega)) _ | with_reducible refine Up.alloc ?_ _ | with_reducible refine Up.drew ?_ | refine Up.trans ?_ (by with_reducible assumption)))))).mono ?_); rintro e w2 ⟨v2, rfl, ho2, U2⟩; obtain ⟨a2, c2, rfl⟩ := ownsRow_shape ho2; obtain ⟨hRl, q0, q1, q2, q3, q4, q5⟩ := KnAt.cells (b := w.heap.size + 1) (k := ⟨⟨0, 0, 0⟩, [], 0, 0⟩) (v := .slice none 0 0) (box_up (U1.trans U2) (alloc2 w _ _)); have hfr := box_free (box_up (U1.trans U2) (alloc2 w _ _)); have HO := Lib.hid ho2; clear ho2))
    obtain ⟨hRl, q0, q1, q2, q3, q4, q5⟩ := KnAt.cells (b := w.heap.size + 1) (k := ⟨⟨0, 0, 0⟩, [], 0, 0⟩) (v := .slice none 0 0) (box_up (U1.trans U2) (alloc2 w _ _))
    refine bodyPost_ret (v := kV kk (.slice a2 kk.ps.length c2)) (by simp [results, Tryd.results105, go_sem, hRl, q0, q1, q2, q3, q4, q5]) rfl ⟨_, rfl, ?_, ?_⟩
    · have hs := U1.size
      simp at hs
      refine ownsRow_base (base := w.heap.size + 2) ?_ (by omega)
      repeat (with_reducible refine ownsRow_setne ?_ (by omega) _ _)
      exact ownsRow_base HO.out (by omega)
    · (repeat (first | with_reducible exact Up.refl _ | with_reducible assumption | with_reducible refine Up.set ?_ (by first | exact Nat.le_refl _ | (simp only []; omega) | (simp; omega)) _ | with_reducible refine Up.alloc ?_ _ | with_reducible refine Up.drew ?_ | refine Up.trans ?_ (by with_reducible assumption)))
  · have cC := fun wx hr => l2After_any k v lo x wx h hr (hf hx)
    have e : Hid (k.step x = k.after x) := by unfold Hid KnD.step; rw [if_neg hx]
    have hx' : (x == ((clr k.set : Nat) : Int)) = false := by rw [← ec]; simpa using hx
    obtain ⟨a, cap, rfl, -, -, -, -⟩ := hr
    rw [e.out]
    clear h e hf hx
    generalize k.after x = kk at *
    simp only [kV] at *
    go_enter Tryd.func105, Tryd.ntmps105
    go_wp2_with (first | ((go_at_call 60; (with_reducible refine (cK _).mono ?_); rintro e w1 ⟨rfl, U1⟩; have B1 := bcell U1; have Z1 := U1.size; (try simp at Z1); (try rw [Nat.add_one_le_iff] at Z1)); have Y1 : w.heap.size < w1.heap.size := (by have := U1.size; simp at this; omega)) | (go_at_call 92; (with_reducible refine (cC _ (hrt _ (by (repeat (first | with_reducible exact Up.refl _ | with_reducible assumption | with_reducible refine Up.set ?_ (by first | exact Nat.le_refl _ | (simp only []; omega) | (simp; omega)) _ | with_reducible refine Up.alloc ?_ _ | with_reducible refine Up.drew ?_ | refine Up.trans ?_ (by with_reducible assumption)))))).mono ?_); rintro e w2 ⟨v2, rfl, ho2, U2⟩; obtain ⟨a2, c2, rfl⟩ := ownsRow_shape ho2; obtain ⟨hRl, q0, q1, q2, q3, q4, q5⟩ := KnAt.cells (b := w.heap.size + 1) (k := ⟨⟨0, 0, 0⟩, [], 0, 0⟩) (v := .slice none 0 0) (box_up (U1.trans U2) (alloc2 w _ _)); have hfr := box_free (box_up (U1.trans U2) (alloc2 w _ _)); have HO := Lib.hid ho2; clear ho2))
    obtain ⟨hRl, q0, q1, q2, q3, q4, q5⟩ := KnAt.cells (b := w.heap.size + 1) (k := ⟨⟨0, 0, 0⟩, [], 0, 0⟩) (v := .slice none 0 0) (box_up (U1.trans U2) (alloc2 w _ _))
    refine bodyPost_ret (v := kV kk (.slice a2 kk.ps.length c2)) (by simp [results, Tryd.results105, go_sem, hRl, q0, q1, q2, q3, q4, q5]) rfl ⟨_, rfl, ?_, ?_⟩
    · have hs := U1.size
      simp at hs
      refine ownsRow_base (base := w.heap.size + 2) ?_ (by omega)
      repeat (with_reducible refine ownsRow_setne ?_ (by omega) _ _)
      exact ownsRow_base HO.out (by omega)
    · (repeat (first | with_reducible exact Up.refl _ | with_reducible assumption | with_reducible refine Up.set ?_ (by first | exact Nat.le_refl _ | (simp only []; omega) | (simp; omega)) _ | with_reducible refine Up.alloc ?_ _ | with_reducible refine Up.drew ?_ | refine Up.trans ?_ (by with_reducible assumption)))

end Go.Proofs.YtmjpopfacagjhaaDoor
