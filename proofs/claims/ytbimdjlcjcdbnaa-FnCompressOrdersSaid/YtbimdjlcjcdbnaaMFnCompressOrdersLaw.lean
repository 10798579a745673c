/- Writing a compressed stream in the other order is compressing the data in the other order. Conditions: none. -/
import Derived.Test.YtbimdjlcjcdbnaaMFnCompressOrdersLawA
import Derived.Test.YtbimdjlcjcdbnaaMFnCompressOrdersLawB
import Derived.Test.YtbimdjlcjcdbnaaMFnCompressOrdersLawC
import Derived.Test.YtbimdjlcjcdbnaaMFnCompressOrdersLawD
import Derived.Test.YtbimdjlcjcdbnaaMFnCompressOrdersLawE
import Derived.Test.YtbimdjlcjcdbnaaMFnCompressOrdersLawF
import Derived.Test.YtbimdjlcjcdbnaaMFnCompressOrdersLawG
import Derived.Test.YtbimdjlcjcdbnaaMFnCompressOrdersLawH
namespace Go.Proofs.Ytbimdjlcjcdbnaa.lawFnCompressOrders
set_option linter.unusedVariables false
set_option linter.unusedSimpArgs false
open Go.ChangeShapes Go.WideShapes Go.ChangeAt Go.RowKit Go.Joins
open Go.ChangeMaps (open_string shut_string)

set_option maxRecDepth 100000 in
set_option maxHeartbeats 8000000 in
theorem walk (vc : Value) (lc : List UInt8) (w : World) (hc : ArgU w vc lc) :
    Calls Try.prog 5  #[vc] w (Same (.bool true) w) := by
  have cD := fun w' hu => drawCompress_any vc lc w' (hc.up (w' := w') hu)
  obtain ⟨ac, cc, rfl, hc1, hc2, -⟩ := hc
  unfold maxLen at hc2
  by_cases h1 : 1048576 < lc.length
  · go_enter Try.func5, Try.ntmps5
    go_wp2
    go_ret
    exact ⟨rfl, by (repeat (first | with_reducible exact Up.refl _ | with_reducible assumption | with_reducible refine Up.set ?_ (by first | exact Nat.le_refl _ | (simp only []; omega) | (simp; omega)) _ | with_reducible refine Up.alloc ?_ _ | with_reducible refine Up.drew ?_ | refine Up.trans ?_ (by with_reducible assumption)))⟩
  go_enter Try.func5, Try.ntmps5
  go_wp2_with (go_at_call 13; (with_reducible refine (cD _ (by (repeat (first | with_reducible exact Up.refl _ | with_reducible assumption | with_reducible refine Up.set ?_ (by first | exact Nat.le_refl _ | (simp only []; omega) | (simp; omega)) _ | with_reducible refine Up.alloc ?_ _ | with_reducible refine Up.drew ?_ | refine Up.trans ?_ (by with_reducible assumption))))).mono ?_); rintro e w1 ⟨k, u, d, rfl, hrd, hlt, hps, hd, U1⟩; obtain ⟨a, cap, rfl, hcp1, hcp2, hcp3, -⟩ := id hrd; simp only [kV]; have B1 := bcell U1; have Z1 := U1.size; (try simp at Z1); (try rw [Nat.add_one_le_iff] at Z1))
  have hrt := fun (wq : World) (hu : Up w1 wq) => hrd.up hu
  have cI := fun wx hr => compIG_any k (.slice a k.ps.length cap) 0 d wx hlt hr (by omega) (by omega)
  have cS := fun wx hr => compSG_any k (.slice a k.ps.length cap) 0 d wx hr (by omega) (by omega)
  unfold maxLen at hcp2
  clear cD
  cases hb : (validK k && fitsB k.set d.data.toList)
  · rw [compG_none hb, optS_none] at cI cS
    simp only [kV] at *
    clear hb
    go_wp2_with (first | ((go_at_call 11; (with_reducible refine (cI _ (hrt _ (by (repeat (first | with_reducible exact Up.refl _ | with_reducible assumption | with_reducible refine Up.set ?_ (by first | exact Nat.le_refl _ | (simp only []; omega) | (simp; omega)) _ | with_reducible refine Up.alloc ?_ _ | with_reducible refine Up.drew ?_ | refine Up.trans ?_ (by with_reducible assumption)))))).mono ?_); rintro e w2 ⟨rfl, U2⟩; have B2 := bcell U2; have Z2 := U2.size; (try simp at Z2); (try rw [Nat.add_one_le_iff] at Z2)); (try have V2a : w1.heap.size < w2.heap.size := (by omega)); (try have V2b : w1.heap.size + 1 < w2.heap.size := (by omega)); (try have V2c : w2.heap.size < w2.heap.size := (by omega)); (try have V2d : w3.heap.size < w2.heap.size := (by omega)); (try have V2e : w4.heap.size < w2.heap.size := (by omega)); skip) | ((go_at_call 14; (with_reducible refine (cS _ (hrt _ (by (repeat (first | with_reducible exact Up.refl _ | with_reducible assumption | with_reducible refine Up.set ?_ (by first | exact Nat.le_refl _ | (simp only []; omega) | (simp; omega)) _ | with_reducible refine Up.alloc ?_ _ | with_reducible refine Up.drew ?_ | refine Up.trans ?_ (by with_reducible assumption)))))).mono ?_); rintro e w3 ⟨rfl, U3⟩; have B3 := bcell U3; have Z3 := U3.size; (try simp at Z3); (try rw [Nat.add_one_le_iff] at Z3)); (try have V3a : w1.heap.size < w3.heap.size := (by omega)); (try have V3b : w1.heap.size + 1 < w3.heap.size := (by omega)); (try have V3c : w2.heap.size < w3.heap.size := (by omega)); (try have V3d : w3.heap.size < w3.heap.size := (by omega)); (try have V3e : w4.heap.size < w3.heap.size := (by omega)); skip))
    go_ret
    refine ⟨ret_bool (by simp; try rfl), ?_⟩
    (repeat (first | with_reducible exact Up.refl _ | with_reducible assumption | with_reducible refine Up.set ?_ (by first | exact Nat.le_refl _ | (simp only []; omega) | (simp; omega)) _ | with_reducible refine Up.alloc ?_ _ | with_reducible refine Up.drew ?_ | refine Up.trans ?_ (by with_reducible assumption)))
  · obtain ⟨h1, h2⟩ := Bool.and_eq_true_iff.1 hb
    obtain ⟨hk, hv⟩ := ok_of_valid h1
    rw [compG_some h1 h2] at cI cS
    have ho := (setOk_bd hk.set).1
    have ho' : 1 - k.set.ord = 0 ∨ 1 - k.set.ord = 1 := by rcases ho with e | e <;> rw [e] <;> simp
    have cX := fun wx hr => compI_any (k.withOrd (1 - k.set.ord)) (.slice a k.ps.length cap) 0 d wx (hk.withOrd ho') hv hr (by omega)
    have cR := fun wx hr => repackI_any k (.slice a k.ps.length cap) 0 d.data.toList wx hk hv hr h2
    have HX : compO (k.withOrd (1 - k.set.ord)) d.data.toList = some (compL (k.withOrd (1 - k.set.ord)) d.data.toList) := by unfold compO; rw [ord_fits k (1 - k.set.ord) h2 ho']; rfl
    rw [HX] at cX
    have z0 := ord_compL_len k (1 - k.set.ord) d.data.toList
    have z1 := bs_size (compL k d.data.toList)
    have z2 := bs_size (compL (k.withOrd (1 - k.set.ord)) d.data.toList)
    clear hb h1 h2 hk hv HX
    generalize compL k d.data.toList = c1 at *
    generalize compL (k.withOrd (1 - k.set.ord)) d.data.toList = c2 at *
    unfold optS at cI cS cX
    simp only [Option.getD_some, Option.isSome_some, kV, KnD.withOrd] at *
    go_wp2_with (first | ((go_at_call 11; (with_reducible refine (cI _ (hrt _ (by (repeat (first | with_reducible exact Up.refl _ | with_reducible assumption | with_reducible refine Up.set ?_ (by first | exact Nat.le_refl _ | (simp only []; omega) | (simp; omega)) _ | with_reducible refine Up.alloc ?_ _ | with_reducible refine Up.drew ?_ | refine Up.trans ?_ (by with_reducible assumption)))))).mono ?_); rintro e w2 ⟨rfl, U2⟩; have B2 := bcell U2; have Z2 := U2.size; (try simp at Z2); (try rw [Nat.add_one_le_iff] at Z2)); (try have V2a : w1.heap.size < w2.heap.size := (by omega)); (try have V2b : w1.heap.size + 1 < w2.heap.size := (by omega)); (try have V2c : w2.heap.size < w2.heap.size := (by omega)); (try have V2d : w3.heap.size < w2.heap.size := (by omega)); (try have V2e : w4.heap.size < w2.heap.size := (by omega)); skip) | ((go_at_call 14; (with_reducible refine (cS _ (hrt _ (by (repeat (first | with_reducible exact Up.refl _ | with_reducible assumption | with_reducible refine Up.set ?_ (by first | exact Nat.le_refl _ | (simp only []; omega) | (simp; omega)) _ | with_reducible refine Up.alloc ?_ _ | with_reducible refine Up.drew ?_ | refine Up.trans ?_ (by with_reducible assumption)))))).mono ?_); rintro e w3 ⟨rfl, U3⟩; have B3 := bcell U3; have Z3 := U3.size; (try simp at Z3); (try rw [Nat.add_one_le_iff] at Z3)); (try have V3a : w1.heap.size < w3.heap.size := (by omega)); (try have V3b : w1.heap.size + 1 < w3.heap.size := (by omega)); (try have V3c : w2.heap.size < w3.heap.size := (by omega)); (try have V3d : w3.heap.size < w3.heap.size := (by omega)); (try have V3e : w4.heap.size < w3.heap.size := (by omega)); skip) | ((go_at_call 11; (with_reducible refine (cX _ (hrt _ (by (repeat (first | with_reducible exact Up.refl _ | with_reducible assumption | with_reducible refine Up.set ?_ (by first | exact Nat.le_refl _ | (simp only []; omega) | (simp; omega)) _ | with_reducible refine Up.alloc ?_ _ | with_reducible refine Up.drew ?_ | refine Up.trans ?_ (by with_reducible assumption)))))).mono ?_); rintro e w4 ⟨rfl, U4⟩; have B4 := bcell U4; have Z4 := U4.size; (try simp at Z4); (try rw [Nat.add_one_le_iff] at Z4)); (try have V4a : w1.heap.size < w4.heap.size := (by omega)); (try have V4b : w1.heap.size + 1 < w4.heap.size := (by omega)); (try have V4c : w2.heap.size < w4.heap.size := (by omega)); (try have V4d : w3.heap.size < w4.heap.size := (by omega)); (try have V4e : w4.heap.size < w4.heap.size := (by omega)); skip) | ((go_at_call 18; (with_reducible refine (cR _ (hrt _ (by (repeat (first | with_reducible exact Up.refl _ | with_reducible assumption | with_reducible refine Up.set ?_ (by first | exact Nat.le_refl _ | (simp only []; omega) | (simp; omega)) _ | with_reducible refine Up.alloc ?_ _ | with_reducible refine Up.drew ?_ | refine Up.trans ?_ (by with_reducible assumption)))))).mono ?_); rintro e w5 ⟨rfl, U5⟩; have B5 := bcell U5; have Z5 := U5.size; (try simp at Z5); (try rw [Nat.add_one_le_iff] at Z5)); (try have V5a : w1.heap.size < w5.heap.size := (by omega)); (try have V5b : w1.heap.size + 1 < w5.heap.size := (by omega)); (try have V5c : w2.heap.size < w5.heap.size := (by omega)); (try have V5d : w3.heap.size < w5.heap.size := (by omega)); (try have V5e : w4.heap.size < w5.heap.size := (by omega)); skip))
    go_ret
    refine ⟨ret_bool (by simp; try omega), ?_⟩
    (repeat (first | with_reducible exact Up.refl _ | with_reducible assumption | with_reducible refine Up.set ?_ (by first | exact Nat.le_refl _ | (simp only []; omega) | (simp; omega)) _ | with_reducible refine Up.alloc ?_ _ | with_reducible refine Up.drew ?_ | refine Up.trans ?_ (by with_reducible assumption)))

set_option maxRecDepth 100000 in
theorem lifted (os : Os) (started : os.Started) (H : Type) (enc : TypeId × Value → H) :
    ReturnsInHanded {} Try.checked os 5 .any (Rows.fnCompressOrdersSpec.pre6 enc Try.prog Try.f5 Rows.fnCompressOrdersRow.domain false) (Rows.fnCompressOrdersSpec.post enc Try.prog Try.f5 false true false false) := by
  refine returnsInHanded_of_change (C := Try.checked) own started (by kernel_rfl) Try.func5
    (ChangeSpec.witness6 (enc := enc) (C := Try.checked) false ⟨#[], #[.slice none 0 0], []⟩ 8 (by kernel_rfl) (by kernel_rfl) (by kernel_rfl) (by kernel_rfl)) ?_
  intro W base args ds gs before hval0 hW hcnd _
  have hval : ∀ (j : Nat) t v, Try.f5.params[j]? = some t → args[j]? = some v → Value.okWide Try.prog W .any base t v := hval0
  have hW' := hW
  obtain ⟨p, q, hA0, hV, rfl, hfz, hnd⟩ := hW
  have hA : DataW.TrodAll enc Try.prog W 0 (fun _ => true) true Try.f5.params.toList args.toList ds p := hA0
  rw [Try.params5] at hA hval
  obtain ⟨v0, d0, rfl, rfl, h0⟩ := trodAll_one hA
  obtain ⟨p0, rfl⟩ : ∃ x, x = p := ⟨_, rfl⟩
  obtain ⟨a0, n0, c0, rfl⟩ := okWide_slice Try.underlying22 (hval 0 22 v0 rfl rfl)
  have hlt0 : ∀ x ∈ p0, x.block < W.heap.size := fun x hx => by simpa using hW'.lt x (by simp [hx])
  obtain ⟨fuel0, hf0⟩ := h0
  obtain ⟨lcode, hcode⟩ := open_argU (by simpa [Value.cells] using hf0) hlt0
  obtain ⟨rfl, rfl⟩ := trodVars_none hV
  refine (walk _ _ W hcode).mono fun e W' ⟨he, hu⟩ => ?_
  subst he
  exact ⟨_, rfl, post_law (f := Try.f5) TrylaidOut (by kernel_rfl) rfl Try.underlying4 rfl hW' (fun ds' h => by subst h; exact ⟨rfl, rfl, rfl⟩) hu⟩

set_option maxHeartbeats 80000000 in
theorem closed : joinedFacts Try.checked.prog 5 Try.f5 Rows.fnCompressOrdersSpec Rows.fnCompressOrdersRow = true := by
  unfold joinedFacts
  repeat' (with_reducible refine (Bool.and_eq_true_iff.2 ⟨?_, ?_⟩))
  all_goals (as_aux_lemma => kernel_rfl)

theorem holds : Rows.FnCompressOrdersSaid :=
  OpenClaim.holds_of_wide 5 Try.f5 rfl rfl rfl rfl rfl rfl rfl ⟨rfl, rfl, rfl, rfl, rfl⟩ rfl rfl rfl rfl rfl (by as_aux_lemma => kernel_rfl) Try.func5 closed
    (of_decide_eq_true (by as_aux_lemma => kernel_rfl)) (by unfold Func.isWrapper; first | (rw [if_pos (by decide +kernel)]; kernel_rfl) | (rw [if_neg (by decide +kernel)]; exact ⟨rfl, rfl⟩))
    (fun os started H enc _ => lifted os started H enc)

end Go.Proofs.Ytbimdjlcjcdbnaa.lawFnCompressOrders
