/- Data is restored from its stream by a reader that knows the same words, and only the words that a clear code keeps matter for its codes. Conditions: none. -/
import Derived.Test.YtbimdjlcjcdbnaaMFnRoundTripLawA
import Derived.Test.YtbimdjlcjcdbnaaMFnRoundTripLawB
import Derived.Test.YtbimdjlcjcdbnaaMFnRoundTripLawC
import Derived.Test.YtbimdjlcjcdbnaaMFnRoundTripLawD
import Derived.Test.YtbimdjlcjcdbnaaMFnRoundTripLawE
import Derived.Test.YtbimdjlcjcdbnaaMFnRoundTripLawF
import Derived.Test.YtbimdjlcjcdbnaaMFnRoundTripLawG
import Derived.Test.YtbimdjlcjcdbnaaMFnRoundTripLawH
namespace Go.Proofs.Ytbimdjlcjcdbnaa.lawFnRoundTrip
set_option linter.unusedVariables false
set_option linter.unusedSimpArgs false
open Go.ChangeShapes Go.WideShapes Go.ChangeAt Go.RowKit Go.Joins
open Go.ChangeMaps (open_string shut_string)

set_option maxRecDepth 100000 in
set_option maxHeartbeats 8000000 in
theorem walk (vc : Value) (lc : List UInt8) (w : World) (hc : ArgU w vc lc) :
    Calls Try.prog 4  #[vc] w (Same (.bool true) w) := by
  have cD := fun w' hu => drawCompress_any vc lc w' (hc.up (w' := w') hu)
  obtain ⟨ac, cc, rfl, hc1, hc2, -⟩ := hc
  unfold maxLen at hc2
  by_cases h1 : 1048576 < lc.length
  · go_enter Try.func4, Try.ntmps4
    go_wp2
    go_ret
    exact ⟨rfl, by (repeat (first | with_reducible exact Up.refl _ | with_reducible assumption | with_reducible refine Up.set ?_ (by first | exact Nat.le_refl _ | (simp only []; omega) | (simp; omega)) _ | with_reducible refine Up.alloc ?_ _ | with_reducible refine Up.drew ?_ | refine Up.trans ?_ (by with_reducible assumption)))⟩
  go_enter Try.func4, Try.ntmps4
  go_wp2_with (go_at_call 13; (with_reducible refine (cD _ (by (repeat (first | with_reducible exact Up.refl _ | with_reducible assumption | with_reducible refine Up.set ?_ (by first | exact Nat.le_refl _ | (simp only []; omega) | (simp; omega)) _ | with_reducible refine Up.alloc ?_ _ | with_reducible refine Up.drew ?_ | refine Up.trans ?_ (by with_reducible assumption))))).mono ?_); rintro e w1 ⟨k, u, d, rfl, hrd, hlt, hps, hd, U1⟩; obtain ⟨a, cap, rfl, hcp1, hcp2, hcp3, -⟩ := id hrd; simp only [kV]; have B1 := bcell U1; have Z1 := U1.size; (try simp at Z1); (try rw [Nat.add_one_le_iff] at Z1))
  have hrt := fun (wq : World) (hu : Up w1 wq) => hrd.up hu
  have cI := fun wx hr => compIG_any k (.slice a k.ps.length cap) 0 d wx hlt hr (by omega) (by omega)
  have cS := fun wx hr => compSG_any k (.slice a k.ps.length cap) 0 d wx hr (by omega) (by omega)
  unfold maxLen at hcp2
  clear cD
  cases hb : (validK k && fitsB k.set d.data.toList)
  · rw [compG_none hb, optS_none] at cI cS
    simp only [kV] at *
    clear hb
    go_wp2_with (first | ((go_at_call 11; (with_reducible refine (cI _ (hrt _ (by (repeat (first | with_reducible exact Up.refl _ | with_reducible assumption | with_reducible refine Up.set ?_ (by first | exact Nat.le_refl _ | (simp only []; omega) | (simp; omega)) _ | with_reducible refine Up.alloc ?_ _ | with_reducible refine Up.drew ?_ | refine Up.trans ?_ (by with_reducible assumption)))))).mono ?_); rintro e w2 ⟨rfl, U2⟩; have B2 := bcell U2; have Z2 := U2.size; (try simp at Z2); (try rw [Nat.add_one_le_iff] at Z2)); (try have V2a : w1.heap.size < w2.heap.size := (by omega)); (try have V2b : w1.heap.size + 1 < w2.heap.size := (by omega)); (try have V2c : w2.heap.size < w2.heap.size := (by omega)); (try have V2d : w3.heap.size < w2.heap.size := (by omega)); (try have V2e : w4.heap.size < w2.heap.size := (by omega)); skip) | ((go_at_call 14; (with_reducible refine (cS _ (hrt _ (by (repeat (first | with_reducible exact Up.refl _ | with_reducible assumption | with_reducible refine Up.set ?_ (by first | exact Nat.le_refl _ | (simp only []; omega) | (simp; omega)) _ | with_reducible refine Up.alloc ?_ _ | with_reducible refine Up.drew ?_ | refine Up.trans ?_ (by with_reducible assumption)))))).mono ?_); rintro e w3 ⟨rfl, U3⟩; have B3 := bcell U3; have Z3 := U3.size; (try simp at Z3); (try rw [Nat.add_one_le_iff] at Z3)); (try have V3a : w1.heap.size < w3.heap.size := (by omega)); (try have V3b : w1.heap.size + 1 < w3.heap.size := (by omega)); (try have V3c : w2.heap.size < w3.heap.size := (by omega)); (try have V3d : w3.heap.size < w3.heap.size := (by omega)); (try have V3e : w4.heap.size < w3.heap.size := (by omega)); skip))
    go_ret
    refine ⟨ret_bool (by simp; try rfl), ?_⟩
    (repeat (first | with_reducible exact Up.refl _ | with_reducible assumption | with_reducible refine Up.set ?_ (by first | exact Nat.le_refl _ | (simp only []; omega) | (simp; omega)) _ | with_reducible refine Up.alloc ?_ _ | with_reducible refine Up.drew ?_ | refine Up.trans ?_ (by with_reducible assumption)))
  · obtain ⟨h1, h2⟩ := Bool.and_eq_true_iff.1 hb
    obtain ⟨hk, hv⟩ := ok_of_valid h1
    rw [compG_some h1 h2] at cI cS
    obtain ⟨r1, r2, r3⟩ := round_both hk h2
    obtain ⟨r4, -, -⟩ := round_both (KnD.cleared_ok hk) (show fitsB k.cleared.set d.data.toList = true from h2)
    have hb0 := hk.base0
    have hb1 := hk.base1
    obtain ⟨m, hm⟩ : ∃ m : Nat, k.base = m := ⟨k.base.toNat, by omega⟩
    have hml : m ≤ k.ps.length := by omega
    have hlm : (k.ps.take m).length = m := by rw [List.length_take]; omega
    have hrc := fun (wq : World) (hu : Up w1 wq) => (hrd.up hu).take m hml
    have EC : k.cleared = ⟨k.set, k.ps.take m, m, -1⟩ := by unfold KnD.cleared; rw [hm]; rfl
    have hkc := KnD.cleared_ok hk
    have hvc : k.cleared.last = -1 → k.cleared.base = k.cleared.ps.length := fun _ => by rw [EC]; show (m : Int) = ((k.ps.take m).length : Int); rw [hlm]
    have hpc : k.cleared.ps = k.ps.take m := by rw [EC]
    have cDk := fun wx hr => decI_any k (.slice a k.ps.length cap) 0 (bs (compL k d.data.toList)) wx hk hv hr (by rw [bs_size]; omega)
    have cC := fun wx hr => compI_any k.cleared (.slice a m cap) 0 d wx hkc hvc hr (by omega)
    have cDc := fun wx hr => decI_any k.cleared (.slice a m cap) 0 (bs (compL k.cleared d.data.toList)) wx hkc hvc hr (by rw [bs_size]; omega)
    have cG := fun wx hr => gcodesI_any k (.slice a k.ps.length cap) 0 d wx hk hv hr (by omega)
    have cGc := fun wx hr => gcodesI_any k.cleared (.slice a m cap) 0 d wx hkc hvc hr (by omega)
    have HC : compO k.cleared d.data.toList = some (compL k.cleared d.data.toList) := by unfold compO; rw [show fitsB k.cleared.set d.data.toList = true from h2]; rfl
    rw [bs_data, r2] at cDk
    rw [bs_data, r3] at cDc
    rw [HC] at cC
    rw [h2] at cG
    rw [show fitsB k.cleared.set d.data.toList = true from h2, greedy_cleared] at cGc
    rw [hpc] at cC cDc cGc
    simp only [if_true, GcPost] at cG cGc
    have cE := fun va vb wx ha hb => soIntsR_any (greedy k d.data.toList) va vb 0 0 wx ha hb
    have z1 := bs_size (compL k d.data.toList)
    have z2 := bs_size (compL k.cleared d.data.toList)
    clear hb h1 h2 hk hv r2 r3 hkc hvc HC hpc hb0 hb1
    generalize compL k d.data.toList = c1 at *
    generalize compL k.cleared d.data.toList = c2 at *
    generalize greedy k d.data.toList = gs at *
    rw [EC] at cC cDc cGc
    clear EC
    unfold optS at cI cS cC
    unfold decV at cDk cDc
    simp only [Option.getD_some, Option.isSome_some, kV, hm, bs_self] at *
    generalize k.ps.take m = qs at *
    cases a with
    | none =>
      obtain ⟨z1, z2⟩ := hcp3 rfl
      have hm0 : m = 0 := by omega
      subst hm0
      subst z2
      rw [z1] at cI cS cDk cG hrt hrd ⊢
      simp only [show ((0 : Nat) : Int) = 0 from rfl] at *
      go_wp2_with (first | ((go_at_call 11; (with_reducible refine (cI _ (hrt _ (by (repeat (first | with_reducible exact Up.refl _ | with_reducible assumption | with_reducible refine Up.set ?_ (by first | exact Nat.le_refl _ | (simp only []; omega) | (simp; omega)) _ | with_reducible refine Up.alloc ?_ _ | with_reducible refine Up.drew ?_ | refine Up.trans ?_ (by with_reducible assumption)))))).mono ?_); rintro e w2 ⟨rfl, U2⟩; have B2 := bcell U2; have Z2 := U2.size; (try simp at Z2); (try rw [Nat.add_one_le_iff] at Z2)); (try have V2a : w1.heap.size < w2.heap.size := (by omega)); (try have V2b : w1.heap.size + 1 < w2.heap.size := (by omega)); (try have V2c : w2.heap.size < w2.heap.size := (by omega)); (try have V2d : w3.heap.size < w2.heap.size := (by omega)); (try have V2e : w4.heap.size < w2.heap.size := (by omega)); skip) | ((go_at_call 14; (with_reducible refine (cS _ (hrt _ (by (repeat (first | with_reducible exact Up.refl _ | with_reducible assumption | with_reducible refine Up.set ?_ (by first | exact Nat.le_refl _ | (simp only []; omega) | (simp; omega)) _ | with_reducible refine Up.alloc ?_ _ | with_reducible refine Up.drew ?_ | refine Up.trans ?_ (by with_reducible assumption)))))).mono ?_); rintro e w3 ⟨rfl, U3⟩; have B3 := bcell U3; have Z3 := U3.size; (try simp at Z3); (try rw [Nat.add_one_le_iff] at Z3)); (try have V3a : w1.heap.size < w3.heap.size := (by omega)); (try have V3b : w1.heap.size + 1 < w3.heap.size := (by omega)); (try have V3c : w2.heap.size < w3.heap.size := (by omega)); (try have V3d : w3.heap.size < w3.heap.size := (by omega)); (try have V3e : w4.heap.size < w3.heap.size := (by omega)); skip))
      have HKB : KnAt w1.heap.size ⟨k.set, k.ps, 0, k.last⟩ (.slice none 0 0) w3 := box_up (U2.trans U3) (MapKept.heap_alloc w1 _).1
      have hU3 : Up w w3 := by (repeat (first | with_reducible exact Up.refl _ | with_reducible assumption | with_reducible refine Up.set ?_ (by first | exact Nat.le_refl _ | (simp only []; omega) | (simp; omega)) _ | with_reducible refine Up.alloc ?_ _ | with_reducible refine Up.drew ?_ | refine Up.trans ?_ (by with_reducible assumption)))
      have hU13 : Up w1 w3 := (((Up.refl w1).alloc _).trans U2).trans U3
      refine wp_region_up 11 (by kernel_rfl) (by kernel_rfl) ?_
      simp only [List.take, List.drop]
      repeat (refine wpUp_step (fun K hK => ?_); go_simp; (try simp only [↓IntWalk.iteOmega]); first
        | (refine hK _ _ ?_; clear hK K)
        | (apply stepU_c
           · intro wq hwq; (have hbq := bcell hwq; (repeat (first | refine fills_no (by rfl) ?_ | refine fills_yes (by rfl) (fun vq hvq => ?_))); simp only [List.filter_nil, fills]; unfold upAt; (try ((obtain ⟨-, r0, r1, r2, r3, r4, r5⟩ := KnAt.cells (box_up hwq HKB)))); go_simp; (try go_bits); (try simp only [↓IntWalk.iteOmega]); (try (rw [dif_pos (by omega)]; go_simp; try go_bits)); first | exact upOut_value)
           go_simp; refine hK _ _ ?_; clear hK K)
        | (refine stepU_m (by kernel_rfl) (Boxed w3.heap.size #[.int .i64 0, .int .i64 0, .int .i64 0, .slice none 0 0, .int .i64 0, .int .i64 0] 31) (boxed_closed _ _ _) (fun wq hwq => ?_) ?_
           · (have hbq := bcell hwq; (repeat (first | refine fills_no (by rfl) ?_ | refine fills_yes (by rfl) (fun vq hvq => ?_))); simp only [List.filter_nil, fills]; unfold upAt; (try ((obtain ⟨-, r0, r1, r2, r3, r4, r5⟩ := KnAt.cells (box_up hwq HKB)))); go_simp; (try go_bits); (try simp only [↓IntWalk.iteOmega]); (try (rw [dif_pos (by omega)]; go_simp; try go_bits)); exact upOut_make ((Up.refl _).alloc _) (boxed_new hwq.size))
           refine hK _ _ ?_; clear hK K))
      refine wpUp_nil (fun wq hwq => ?_)
      simp only [fills]
      rintro v9 ⟨pb, rfl, hpb, hbox⟩
      intros
      have h13 : w1.heap.size < w3.heap.size := by omega
      have hpl : pb < wq.heap.size := (Array.getElem?_eq_some_iff.1 hbox).1
      have hK2 : KnAt pb (⟨k.set, qs, 0, -1⟩ : KnD) (.slice none 0 0) (KnW wq pb (⟨k.set, qs, 0, -1⟩ : KnD) (.slice none 0 0)) := KnAt.store (k0 := kn0) (v0 := .slice none 0 0) hbox _ _
      have hK1 : KnAt w1.heap.size ⟨k.set, k.ps, 0, k.last⟩ (.slice none 0 0) (KnW wq pb (⟨k.set, qs, 0, -1⟩ : KnD) (.slice none 0 0)) := (KnW.other (by omega) _ _).trans (box_up hwq HKB)
      have hW1 : Up w1 (KnW wq pb (⟨k.set, qs, 0, -1⟩ : KnD) (.slice none 0 0)) := KnW.up (hU13.trans hwq) (by omega) _ _
      have hW0 : Up w (KnW wq pb (⟨k.set, qs, 0, -1⟩ : KnD) (.slice none 0 0)) := KnW.up (hU3.trans hwq) (by have := hU3.size; omega) _ _
      have HH := Lib.hid (And.intro hK2 (And.intro hK1 (And.intro hW1 hW0)))
      obtain ⟨-, q0, q1, q2, q3, q4, q5⟩ := KnAt.cells (k := kn0) (v := .slice none 0 0) hbox
      obtain ⟨hb1, r0, r1, r2, r3, r4, r5⟩ := KnAt.cells (box_up hwq HKB)
      have hfr := box_free hbox
      clear hK2 hK1 hW1 hW0 hU3 hU13 U2 U3 B2 B3 HKB
      have hne : ¬ w1.heap.size = pb := by omega
      have hne2 : ¬ pb = w1.heap.size := by omega
      go_wp2_with fail
      rw [show (World.setCell (World.setCell (World.setCell (World.setCell (World.setCell (World.setCell wq ⟨pb, 0, none⟩ (.int .i64 (⟨k.set, qs, 0, -1⟩ : KnD).set.ord)) ⟨pb, 1, none⟩ (.int .i64 (⟨k.set, qs, 0, -1⟩ : KnD).set.lit)) ⟨pb, 2, none⟩ (.int .i64 (⟨k.set, qs, 0, -1⟩ : KnD).set.most)) ⟨pb, 3, none⟩ (.slice none 0 0)) ⟨pb, 4, none⟩ (.int .i64 0)) ⟨pb, 5, none⟩ (.int .i64 (-1))) = KnW wq pb (⟨k.set, qs, 0, -1⟩ : KnD) (.slice none 0 0) from rfl]
      clear q0 q1 q2 q3 q4 q5 r0 r1 r2 r3 r4 r5 hfr hwq hbox hb1
      generalize KnW wq pb (⟨k.set, qs, 0, -1⟩ : KnD) (.slice none 0 0) = W4 at HH ⊢
      obtain ⟨hK2, hK1, hW1, hW0⟩ := HH.out
      clear HH
      obtain ⟨P0, q0, q1, q2, q3, q4, q5⟩ := KnAt.cells hK2
      obtain ⟨P1, r0, r1, r2, r3, r4, r5⟩ := KnAt.cells hK1
      (try dsimp only at q0 q1 q2 q3 q4 q5 r0 r1 r2 r3 r4 r5)
      clear hK2 hK1 hpl hpb
      go_wp2_with (first | (((go_at_call 15; (with_reducible refine (cDk _ (hrt _ (by (repeat (first | with_reducible exact Up.refl _ | with_reducible assumption | with_reducible refine Up.set ?_ (by first | exact Nat.le_refl _ | (simp only []; omega) | (simp; omega)) _ | with_reducible refine Up.alloc ?_ _ | with_reducible refine Up.drew ?_ | refine Up.trans ?_ (by with_reducible assumption)))))).mono ?_); rintro e w4 ⟨rfl, U4⟩; have B4 := bcell U4; have Z4 := U4.size; (try simp at Z4); (try rw [Nat.add_one_le_iff] at Z4)); (try have V4a : w1.heap.size < w4.heap.size := (by omega)); (try have V4b : w1.heap.size + 1 < w4.heap.size := (by omega)); (try have V4c : w2.heap.size < w4.heap.size := (by omega)); (try have V4d : w3.heap.size < w4.heap.size := (by omega)); (try have V4e : w4.heap.size < w4.heap.size := (by omega)); skip); have P4 : pb < w4.heap.size := (by omega)) | (((go_at_call 11; (with_reducible refine (cC _ (hrc _ (by (repeat (first | with_reducible exact Up.refl _ | with_reducible assumption | with_reducible refine Up.set ?_ (by first | exact Nat.le_refl _ | (simp only []; omega) | (simp; omega)) _ | with_reducible refine Up.alloc ?_ _ | with_reducible refine Up.drew ?_ | refine Up.trans ?_ (by with_reducible assumption)))))).mono ?_); rintro e w5 ⟨rfl, U5⟩; have B5 := bcell U5; have Z5 := U5.size; (try simp at Z5); (try rw [Nat.add_one_le_iff] at Z5)); (try have V5a : w1.heap.size < w5.heap.size := (by omega)); (try have V5b : w1.heap.size + 1 < w5.heap.size := (by omega)); (try have V5c : w2.heap.size < w5.heap.size := (by omega)); (try have V5d : w3.heap.size < w5.heap.size := (by omega)); (try have V5e : w4.heap.size < w5.heap.size := (by omega)); skip); have P5 : pb < w5.heap.size := (by omega)) | (((go_at_call 15; (with_reducible refine (cDc _ (hrc _ (by (repeat (first | with_reducible exact Up.refl _ | with_reducible assumption | with_reducible refine Up.set ?_ (by first | exact Nat.le_refl _ | (simp only []; omega) | (simp; omega)) _ | with_reducible refine Up.alloc ?_ _ | with_reducible refine Up.drew ?_ | refine Up.trans ?_ (by with_reducible assumption)))))).mono ?_); rintro e w6 ⟨rfl, U6⟩; have B6 := bcell U6; have Z6 := U6.size; (try simp at Z6); (try rw [Nat.add_one_le_iff] at Z6)); (try have V6a : w1.heap.size < w6.heap.size := (by omega)); (try have V6b : w1.heap.size + 1 < w6.heap.size := (by omega)); (try have V6c : w2.heap.size < w6.heap.size := (by omega)); (try have V6d : w3.heap.size < w6.heap.size := (by omega)); (try have V6e : w4.heap.size < w6.heap.size := (by omega)); skip); have P6 : pb < w6.heap.size := (by omega)) | (go_at_call 16; (with_reducible refine (cG _ (hrt _ (by (repeat (first | with_reducible exact Up.refl _ | with_reducible assumption | with_reducible refine Up.set ?_ (by first | exact Nat.le_refl _ | (simp only []; omega) | (simp; omega)) _ | with_reducible refine Up.alloc ?_ _ | with_reducible refine Up.drew ?_ | refine Up.trans ?_ (by with_reducible assumption)))))).mono ?_); rintro e w7 ⟨v7, rfl, hr7, U7⟩; have B7 := bcell U7; have Z7 := U7.size; have P7 : pb < w7.heap.size := (by omega); have V7 : w1.heap.size < w7.heap.size := (by omega); have H7 := fun (wq : World) (hu : Up w7 wq) => hr7.up hu; obtain ⟨a7, c7, rfl, -, -, -⟩ := hr7) | (go_at_call 16; (with_reducible refine (cGc _ (hrc _ (by (repeat (first | with_reducible exact Up.refl _ | with_reducible assumption | with_reducible refine Up.set ?_ (by first | exact Nat.le_refl _ | (simp only []; omega) | (simp; omega)) _ | with_reducible refine Up.alloc ?_ _ | with_reducible refine Up.drew ?_ | refine Up.trans ?_ (by with_reducible assumption)))))).mono ?_); rintro e w8 ⟨v8, rfl, hr8, U8⟩; have B8 := bcell U8; have Z8 := U8.size; have H8 := fun (wq : World) (hu : Up w8 wq) => hr8.up hu; obtain ⟨a8, c8, rfl, -, -, -⟩ := hr8) | ((go_at_call 17; (with_reducible refine (cE _ _ _ (H7 _ (by (repeat (first | with_reducible exact Up.refl _ | with_reducible assumption | with_reducible refine Up.set ?_ (by first | exact Nat.le_refl _ | (simp only []; omega) | (simp; omega)) _ | with_reducible refine Up.alloc ?_ _ | with_reducible refine Up.drew ?_ | refine Up.trans ?_ (by with_reducible assumption))))) (H8 _ (by (repeat (first | with_reducible exact Up.refl _ | with_reducible assumption | with_reducible refine Up.set ?_ (by first | exact Nat.le_refl _ | (simp only []; omega) | (simp; omega)) _ | with_reducible refine Up.alloc ?_ _ | with_reducible refine Up.drew ?_ | refine Up.trans ?_ (by with_reducible assumption)))))).mono ?_); rintro e w9 ⟨rfl, U9⟩; have B9 := bcell U9; have Z9 := U9.size; (try simp at Z9); (try rw [Nat.add_one_le_iff] at Z9)); (try have V9a : w1.heap.size < w9.heap.size := (by omega)); (try have V9b : w1.heap.size + 1 < w9.heap.size := (by omega)); (try have V9c : w2.heap.size < w9.heap.size := (by omega)); (try have V9d : w3.heap.size < w9.heap.size := (by omega)); (try have V9e : w4.heap.size < w9.heap.size := (by omega)); skip))
      go_ret
      refine ⟨ret_bool (by simp; try omega), ?_⟩
      (repeat (first | with_reducible exact Up.refl _ | with_reducible assumption | with_reducible refine Up.set ?_ (by first | exact Nat.le_refl _ | (simp only []; omega) | (simp; omega)) _ | with_reducible refine Up.alloc ?_ _ | with_reducible refine Up.drew ?_ | refine Up.trans ?_ (by with_reducible assumption)))
    | some ad =>
      go_wp2_with (first | ((go_at_call 11; (with_reducible refine (cI _ (hrt _ (by (repeat (first | with_reducible exact Up.refl _ | with_reducible assumption | with_reducible refine Up.set ?_ (by first | exact Nat.le_refl _ | (simp only []; omega) | (simp; omega)) _ | with_reducible refine Up.alloc ?_ _ | with_reducible refine Up.drew ?_ | refine Up.trans ?_ (by with_reducible assumption)))))).mono ?_); rintro e w2 ⟨rfl, U2⟩; have B2 := bcell U2; have Z2 := U2.size; (try simp at Z2); (try rw [Nat.add_one_le_iff] at Z2)); (try have V2a : w1.heap.size < w2.heap.size := (by omega)); (try have V2b : w1.heap.size + 1 < w2.heap.size := (by omega)); (try have V2c : w2.heap.size < w2.heap.size := (by omega)); (try have V2d : w3.heap.size < w2.heap.size := (by omega)); (try have V2e : w4.heap.size < w2.heap.size := (by omega)); skip) | ((go_at_call 14; (with_reducible refine (cS _ (hrt _ (by (repeat (first | with_reducible exact Up.refl _ | with_reducible assumption | with_reducible refine Up.set ?_ (by first | exact Nat.le_refl _ | (simp only []; omega) | (simp; omega)) _ | with_reducible refine Up.alloc ?_ _ | with_reducible refine Up.drew ?_ | refine Up.trans ?_ (by with_reducible assumption)))))).mono ?_); rintro e w3 ⟨rfl, U3⟩; have B3 := bcell U3; have Z3 := U3.size; (try simp at Z3); (try rw [Nat.add_one_le_iff] at Z3)); (try have V3a : w1.heap.size < w3.heap.size := (by omega)); (try have V3b : w1.heap.size + 1 < w3.heap.size := (by omega)); (try have V3c : w2.heap.size < w3.heap.size := (by omega)); (try have V3d : w3.heap.size < w3.heap.size := (by omega)); (try have V3e : w4.heap.size < w3.heap.size := (by omega)); skip))
      have HKB : KnAt w1.heap.size ⟨k.set, k.ps, (m : Nat), k.last⟩ (.slice (some ad) k.ps.length cap) w3 := box_up (U2.trans U3) (MapKept.heap_alloc w1 _).1
      have hU3 : Up w w3 := by (repeat (first | with_reducible exact Up.refl _ | with_reducible assumption | with_reducible refine Up.set ?_ (by first | exact Nat.le_refl _ | (simp only []; omega) | (simp; omega)) _ | with_reducible refine Up.alloc ?_ _ | with_reducible refine Up.drew ?_ | refine Up.trans ?_ (by with_reducible assumption)))
      have hU13 : Up w1 w3 := (((Up.refl w1).alloc _).trans U2).trans U3
      refine wp_region_up 11 (by kernel_rfl) (by kernel_rfl) ?_
      simp only [List.take, List.drop]
      repeat (refine wpUp_step (fun K hK => ?_); go_simp; (try simp only [↓IntWalk.iteOmega]); first
        | (refine hK _ _ ?_; clear hK K)
        | (apply stepU_c
           · intro wq hwq; (have hbq := bcell hwq; (repeat (first | refine fills_no (by rfl) ?_ | refine fills_yes (by rfl) (fun vq hvq => ?_))); simp only [List.filter_nil, fills]; unfold upAt; (try ((obtain ⟨-, r0, r1, r2, r3, r4, r5⟩ := KnAt.cells (box_up hwq HKB)))); go_simp; (try go_bits); (try simp only [↓IntWalk.iteOmega]); (try (rw [dif_pos (by omega)]; go_simp; try go_bits)); first | exact upOut_value)
           go_simp; refine hK _ _ ?_; clear hK K)
        | (refine stepU_m (by kernel_rfl) (Boxed w3.heap.size #[.int .i64 0, .int .i64 0, .int .i64 0, .slice none 0 0, .int .i64 0, .int .i64 0] 31) (boxed_closed _ _ _) (fun wq hwq => ?_) ?_
           · (have hbq := bcell hwq; (repeat (first | refine fills_no (by rfl) ?_ | refine fills_yes (by rfl) (fun vq hvq => ?_))); simp only [List.filter_nil, fills]; unfold upAt; (try ((obtain ⟨-, r0, r1, r2, r3, r4, r5⟩ := KnAt.cells (box_up hwq HKB)))); go_simp; (try go_bits); (try simp only [↓IntWalk.iteOmega]); (try (rw [dif_pos (by omega)]; go_simp; try go_bits)); exact upOut_make ((Up.refl _).alloc _) (boxed_new hwq.size))
           refine hK _ _ ?_; clear hK K))
      refine wpUp_nil (fun wq hwq => ?_)
      simp only [fills]
      rintro v9 ⟨pb, rfl, hpb, hbox⟩
      intros
      have h13 : w1.heap.size < w3.heap.size := by omega
      have hpl : pb < wq.heap.size := (Array.getElem?_eq_some_iff.1 hbox).1
      have hK2 : KnAt pb (⟨k.set, qs, (m : Nat), -1⟩ : KnD) (.slice (some ad) m cap) (KnW wq pb (⟨k.set, qs, (m : Nat), -1⟩ : KnD) (.slice (some ad) m cap)) := KnAt.store (k0 := kn0) (v0 := .slice none 0 0) hbox _ _
      have hK1 : KnAt w1.heap.size ⟨k.set, k.ps, (m : Nat), k.last⟩ (.slice (some ad) k.ps.length cap) (KnW wq pb (⟨k.set, qs, (m : Nat), -1⟩ : KnD) (.slice (some ad) m cap)) := (KnW.other (by omega) _ _).trans (box_up hwq HKB)
      have hW1 : Up w1 (KnW wq pb (⟨k.set, qs, (m : Nat), -1⟩ : KnD) (.slice (some ad) m cap)) := KnW.up (hU13.trans hwq) (by omega) _ _
      have hW0 : Up w (KnW wq pb (⟨k.set, qs, (m : Nat), -1⟩ : KnD) (.slice (some ad) m cap)) := KnW.up (hU3.trans hwq) (by have := hU3.size; omega) _ _
      have HH := Lib.hid (And.intro hK2 (And.intro hK1 (And.intro hW1 hW0)))
      obtain ⟨-, q0, q1, q2, q3, q4, q5⟩ := KnAt.cells (k := kn0) (v := .slice none 0 0) hbox
      obtain ⟨hb1, r0, r1, r2, r3, r4, r5⟩ := KnAt.cells (box_up hwq HKB)
      have hfr := box_free hbox
      clear hK2 hK1 hW1 hW0 hU3 hU13 U2 U3 B2 B3 HKB
      have hne : ¬ w1.heap.size = pb := by omega
      have hne2 : ¬ pb = w1.heap.size := by omega
      go_wp2_with fail
      rw [show (World.setCell (World.setCell (World.setCell (World.setCell (World.setCell (World.setCell wq ⟨pb, 0, none⟩ (.int .i64 (⟨k.set, qs, (m : Nat), -1⟩ : KnD).set.ord)) ⟨pb, 1, none⟩ (.int .i64 (⟨k.set, qs, (m : Nat), -1⟩ : KnD).set.lit)) ⟨pb, 2, none⟩ (.int .i64 (⟨k.set, qs, (m : Nat), -1⟩ : KnD).set.most)) ⟨pb, 3, none⟩ (.slice (some ad) m cap)) ⟨pb, 4, none⟩ (.int .i64 (m : Nat))) ⟨pb, 5, none⟩ (.int .i64 (-1))) = KnW wq pb (⟨k.set, qs, (m : Nat), -1⟩ : KnD) (.slice (some ad) m cap) from rfl]
      clear q0 q1 q2 q3 q4 q5 r0 r1 r2 r3 r4 r5 hfr hwq hbox hb1
      generalize KnW wq pb (⟨k.set, qs, (m : Nat), -1⟩ : KnD) (.slice (some ad) m cap) = W4 at HH ⊢
      obtain ⟨hK2, hK1, hW1, hW0⟩ := HH.out
      clear HH
      obtain ⟨P0, q0, q1, q2, q3, q4, q5⟩ := KnAt.cells hK2
      obtain ⟨P1, r0, r1, r2, r3, r4, r5⟩ := KnAt.cells hK1
      (try dsimp only at q0 q1 q2 q3 q4 q5 r0 r1 r2 r3 r4 r5)
      clear hK2 hK1 hpl hpb
      go_wp2_with (first | (((go_at_call 15; (with_reducible refine (cDk _ (hrt _ (by (repeat (first | with_reducible exact Up.refl _ | with_reducible assumption | with_reducible refine Up.set ?_ (by first | exact Nat.le_refl _ | (simp only []; omega) | (simp; omega)) _ | with_reducible refine Up.alloc ?_ _ | with_reducible refine Up.drew ?_ | refine Up.trans ?_ (by with_reducible assumption)))))).mono ?_); rintro e w4 ⟨rfl, U4⟩; have B4 := bcell U4; have Z4 := U4.size; (try simp at Z4); (try rw [Nat.add_one_le_iff] at Z4)); (try have V4a : w1.heap.size < w4.heap.size := (by omega)); (try have V4b : w1.heap.size + 1 < w4.heap.size := (by omega)); (try have V4c : w2.heap.size < w4.heap.size := (by omega)); (try have V4d : w3.heap.size < w4.heap.size := (by omega)); (try have V4e : w4.heap.size < w4.heap.size := (by omega)); skip); have P4 : pb < w4.heap.size := (by omega)) | (((go_at_call 11; (with_reducible refine (cC _ (hrc _ (by (repeat (first | with_reducible exact Up.refl _ | with_reducible assumption | with_reducible refine Up.set ?_ (by first | exact Nat.le_refl _ | (simp only []; omega) | (simp; omega)) _ | with_reducible refine Up.alloc ?_ _ | with_reducible refine Up.drew ?_ | refine Up.trans ?_ (by with_reducible assumption)))))).mono ?_); rintro e w5 ⟨rfl, U5⟩; have B5 := bcell U5; have Z5 := U5.size; (try simp at Z5); (try rw [Nat.add_one_le_iff] at Z5)); (try have V5a : w1.heap.size < w5.heap.size := (by omega)); (try have V5b : w1.heap.size + 1 < w5.heap.size := (by omega)); (try have V5c : w2.heap.size < w5.heap.size := (by omega)); (try have V5d : w3.heap.size < w5.heap.size := (by omega)); (try have V5e : w4.heap.size < w5.heap.size := (by omega)); skip); have P5 : pb < w5.heap.size := (by omega)) | (((go_at_call 15; (with_reducible refine (cDc _ (hrc _ (by (repeat (first | with_reducible exact Up.refl _ | with_reducible assumption | with_reducible refine Up.set ?_ (by first | exact Nat.le_refl _ | (simp only []; omega) | (simp; omega)) _ | with_reducible refine Up.alloc ?_ _ | with_reducible refine Up.drew ?_ | refine Up.trans ?_ (by with_reducible assumption)))))).mono ?_); rintro e w6 ⟨rfl, U6⟩; have B6 := bcell U6; have Z6 := U6.size; (try simp at Z6); (try rw [Nat.add_one_le_iff] at Z6)); (try have V6a : w1.heap.size < w6.heap.size := (by omega)); (try have V6b : w1.heap.size + 1 < w6.heap.size := (by omega)); (try have V6c : w2.heap.size < w6.heap.size := (by omega)); (try have V6d : w3.heap.size < w6.heap.size := (by omega)); (try have V6e : w4.heap.size < w6.heap.size := (by omega)); skip); have P6 : pb < w6.heap.size := (by omega)) | (go_at_call 16; (with_reducible refine (cG _ (hrt _ (by (repeat (first | with_reducible exact Up.refl _ | with_reducible assumption | with_reducible refine Up.set ?_ (by first | exact Nat.le_refl _ | (simp only []; omega) | (simp; omega)) _ | with_reducible refine Up.alloc ?_ _ | with_reducible refine Up.drew ?_ | refine Up.trans ?_ (by with_reducible assumption)))))).mono ?_); rintro e w7 ⟨v7, rfl, hr7, U7⟩; have B7 := bcell U7; have Z7 := U7.size; have P7 : pb < w7.heap.size := (by omega); have V7 : w1.heap.size < w7.heap.size := (by omega); have H7 := fun (wq : World) (hu : Up w7 wq) => hr7.up hu; obtain ⟨a7, c7, rfl, -, -, -⟩ := hr7) | (go_at_call 16; (with_reducible refine (cGc _ (hrc _ (by (repeat (first | with_reducible exact Up.refl _ | with_reducible assumption | with_reducible refine Up.set ?_ (by first | exact Nat.le_refl _ | (simp only []; omega) | (simp; omega)) _ | with_reducible refine Up.alloc ?_ _ | with_reducible refine Up.drew ?_ | refine Up.trans ?_ (by with_reducible assumption)))))).mono ?_); rintro e w8 ⟨v8, rfl, hr8, U8⟩; have B8 := bcell U8; have Z8 := U8.size; have H8 := fun (wq : World) (hu : Up w8 wq) => hr8.up hu; obtain ⟨a8, c8, rfl, -, -, -⟩ := hr8) | ((go_at_call 17; (with_reducible refine (cE _ _ _ (H7 _ (by (repeat (first | with_reducible exact Up.refl _ | with_reducible assumption | with_reducible refine Up.set ?_ (by first | exact Nat.le_refl _ | (simp only []; omega) | (simp; omega)) _ | with_reducible refine Up.alloc ?_ _ | with_reducible refine Up.drew ?_ | refine Up.trans ?_ (by with_reducible assumption))))) (H8 _ (by (repeat (first | with_reducible exact Up.refl _ | with_reducible assumption | with_reducible refine Up.set ?_ (by first | exact Nat.le_refl _ | (simp only []; omega) | (simp; omega)) _ | with_reducible refine Up.alloc ?_ _ | with_reducible refine Up.drew ?_ | refine Up.trans ?_ (by with_reducible assumption)))))).mono ?_); rintro e w9 ⟨rfl, U9⟩; have B9 := bcell U9; have Z9 := U9.size; (try simp at Z9); (try rw [Nat.add_one_le_iff] at Z9)); (try have V9a : w1.heap.size < w9.heap.size := (by omega)); (try have V9b : w1.heap.size + 1 < w9.heap.size := (by omega)); (try have V9c : w2.heap.size < w9.heap.size := (by omega)); (try have V9d : w3.heap.size < w9.heap.size := (by omega)); (try have V9e : w4.heap.size < w9.heap.size := (by omega)); skip))
      go_ret
      refine ⟨ret_bool (by simp; try omega), ?_⟩
      (repeat (first | with_reducible exact Up.refl _ | with_reducible assumption | with_reducible refine Up.set ?_ (by first | exact Nat.le_refl _ | (simp only []; omega) | (simp; omega)) _ | with_reducible refine Up.alloc ?_ _ | with_reducible refine Up.drew ?_ | refine Up.trans ?_ (by with_reducible assumption)))

set_option maxRecDepth 100000 in
theorem lifted (os : Os) (started : os.Started) (H : Type) (enc : TypeId × Value → H) :
    ReturnsInHanded {} Try.checked os 4 .any (Rows.fnRoundTripSpec.pre6 enc Try.prog Try.f4 Rows.fnRoundTripRow.domain false) (Rows.fnRoundTripSpec.post enc Try.prog Try.f4 false true false false) := by
  refine returnsInHanded_of_change (C := Try.checked) own started (by kernel_rfl) Try.func4
    (ChangeSpec.witness6 (enc := enc) (C := Try.checked) false ⟨#[], #[.slice none 0 0], []⟩ 8 (by kernel_rfl) (by kernel_rfl) (by kernel_rfl) (by kernel_rfl)) ?_
  intro W base args ds gs before hval0 hW hcnd _
  have hval : ∀ (j : Nat) t v, Try.f4.params[j]? = some t → args[j]? = some v → Value.okWide Try.prog W .any base t v := hval0
  have hW' := hW
  obtain ⟨p, q, hA0, hV, rfl, hfz, hnd⟩ := hW
  have hA : DataW.TrodAll enc Try.prog W 0 (fun _ => true) true Try.f4.params.toList args.toList ds p := hA0
  rw [Try.params4] at hA hval
  obtain ⟨v0, d0, rfl, rfl, h0⟩ := trodAll_one hA
  obtain ⟨p0, rfl⟩ : ∃ x, x = p := ⟨_, rfl⟩
  obtain ⟨a0, n0, c0, rfl⟩ := okWide_slice Try.underlying22 (hval 0 22 v0 rfl rfl)
  have hlt0 : ∀ x ∈ p0, x.block < W.heap.size := fun x hx => by simpa using hW'.lt x (by simp [hx])
  obtain ⟨fuel0, hf0⟩ := h0
  obtain ⟨lcode, hcode⟩ := open_argU (by simpa [Value.cells] using hf0) hlt0
  obtain ⟨rfl, rfl⟩ := trodVars_none hV
  refine (walk _ _ W hcode).mono fun e W' ⟨he, hu⟩ => ?_
  subst he
  exact ⟨_, rfl, post_law (f := Try.f4) TrylaidOut (by kernel_rfl) rfl Try.underlying4 rfl hW' (fun ds' h => by subst h; exact ⟨rfl, rfl, rfl⟩) hu⟩

set_option maxHeartbeats 80000000 in
theorem closed : joinedFacts Try.checked.prog 4 Try.f4 Rows.fnRoundTripSpec Rows.fnRoundTripRow = true := by
  unfold joinedFacts
  repeat' (with_reducible refine (Bool.and_eq_true_iff.2 ⟨?_, ?_⟩))
  all_goals (as_aux_lemma => kernel_rfl)

theorem holds : Rows.FnRoundTripSaid :=
  OpenClaim.holds_of_wide 4 Try.f4 rfl rfl rfl rfl rfl rfl rfl ⟨rfl, rfl, rfl, rfl, rfl⟩ rfl rfl rfl rfl rfl (by as_aux_lemma => kernel_rfl) Try.func4 closed
    (of_decide_eq_true (by as_aux_lemma => kernel_rfl)) (by unfold Func.isWrapper; first | (rw [if_pos (by decide +kernel)]; kernel_rfl) | (rw [if_neg (by decide +kernel)]; exact ⟨rfl, rfl⟩))
    (fun os started H enc _ => lifted os started H enc)

end Go.Proofs.Ytbimdjlcjcdbnaa.lawFnRoundTrip
