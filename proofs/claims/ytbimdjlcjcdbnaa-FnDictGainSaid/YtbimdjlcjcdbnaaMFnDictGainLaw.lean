/- A dictionary saves the difference of two streams' lengths. Conditions: none. (DRAFT: not elaborated yet) -/
import Derived.Test.YtbimdjlcjcdbnaaWa
import Derived.Test.YtbimdjlcjcdbnaaMFnDictGainLawA
import Derived.Test.YtbimdjlcjcdbnaaMFnDictGainLawB
import Derived.Test.YtbimdjlcjcdbnaaMFnDictGainLawC
import Derived.Test.YtbimdjlcjcdbnaaMFnDictGainLawD
import Derived.Test.YtbimdjlcjcdbnaaMFnDictGainLawE
namespace Go.Proofs.Ytbimdjlcjcdbnaa.lawFnDictGain
set_option linter.unusedVariables false
set_option linter.unusedSimpArgs false
open Go.ChangeShapes Go.WideShapes Go.ChangeAt Go.RowKit Go.Joins
open Go.ChangeMaps (open_string shut_string)

set_option maxRecDepth 100000 in
set_option maxHeartbeats 8000000 in
theorem walk (vc : Value) (lc : List UInt8) (w : World) (hc : ArgU w vc lc) :
    Calls Try.prog 3  #[vc] w (Same (.bool true) w) := by
  have cD := fun w' hu => drawDictGain_any vc lc w' (hc.up (w' := w') hu)
  obtain ⟨ac, cc, rfl, hc1, hc2, -⟩ := hc
  unfold maxLen at hc2
  by_cases h1 : 1048576 < lc.length
  · go_enter Try.func3, Try.ntmps3
    go_wp2
    go_ret
    exact ⟨rfl, by (repeat (first | with_reducible exact Up.refl _ | with_reducible assumption | with_reducible refine Up.set ?_ (by first | exact Nat.le_refl _ | (simp only []; omega) | (simp; omega)) _ | with_reducible refine Up.alloc ?_ _ | with_reducible refine Up.drew ?_ | refine Up.trans ?_ (by with_reducible assumption)))⟩
  go_enter Try.func3, Try.ntmps3
  go_wp2_with (go_at_call 7; (with_reducible refine (cD _ (by (repeat (first | with_reducible exact Up.refl _ | with_reducible assumption | with_reducible refine Up.set ?_ (by first | exact Nat.le_refl _ | (simp only []; omega) | (simp; omega)) _ | with_reducible refine Up.alloc ?_ _ | with_reducible refine Up.drew ?_ | refine Up.trans ?_ (by with_reducible assumption))))).mono ?_); rintro e w1 ⟨v1, rfl, ⟨s, dict, d, rfl, hs, hdi, hd⟩, U1⟩; simp only [setV]; have B1 := bcell U1; have Z1 := U1.size; (try simp at Z1); (try rw [Nat.add_one_le_iff] at Z1))
  have cI := fun w => gainI_any s dict d w hs (by omega) (by omega)
  have cS := fun w => gainS_any s dict d w (by omega) (by omega)
  have cN := fun w => gainI_any s ⟨#[]⟩ d w hs (by rw [empty_size]; omega) (by omega)
  have cZ := fun w => soSize_any s dict d w hs (by omega) (by omega)
  rw [empty_list] at cN
  clear cD
  cases hf : (fitsB s dict.data.toList && fitsB s d.data.toList)
  · have HG : gainV s dict.data.toList d.data.toList = .tuple #[.int .i64 0, .bool false] := by unfold gainV; rw [hf]; rfl
    rw [HG] at cI cS
    simp only [setV] at *
    clear hf HG cN cZ
    go_wp2_with (first | ((go_at_call 8; (with_reducible refine (cI _).mono ?_); rintro e w2 ⟨rfl, U2⟩; have B2 := bcell U2; have Z2 := U2.size; (try simp at Z2); (try rw [Nat.add_one_le_iff] at Z2)); (try have V2a : w1.heap.size < w2.heap.size := (by omega)); (try have V2b : w1.heap.size + 1 < w2.heap.size := (by omega)); (try have V2c : w2.heap.size < w2.heap.size := (by omega)); (try have V2d : w3.heap.size < w2.heap.size := (by omega)); (try have V2e : w4.heap.size < w2.heap.size := (by omega)); skip) | ((go_at_call 9; (with_reducible refine (cS _).mono ?_); rintro e w3 ⟨rfl, U3⟩; have B3 := bcell U3; have Z3 := U3.size; (try simp at Z3); (try rw [Nat.add_one_le_iff] at Z3)); (try have V3a : w1.heap.size < w3.heap.size := (by omega)); (try have V3b : w1.heap.size + 1 < w3.heap.size := (by omega)); (try have V3c : w2.heap.size < w3.heap.size := (by omega)); (try have V3d : w3.heap.size < w3.heap.size := (by omega)); (try have V3e : w4.heap.size < w3.heap.size := (by omega)); skip))
    go_ret
    refine ⟨ret_bool (by simp; try rfl), ?_⟩
    (repeat (first | with_reducible exact Up.refl _ | with_reducible assumption | with_reducible refine Up.set ?_ (by first | exact Nat.le_refl _ | (simp only []; omega) | (simp; omega)) _ | with_reducible refine Up.alloc ?_ _ | with_reducible refine Up.drew ?_ | refine Up.trans ?_ (by with_reducible assumption)))
  · obtain ⟨h1, h2⟩ := Bool.and_eq_true_iff.1 hf
    have hsk := (fitsB_lits h1).1
    have cT := fun w => startI_any s w hsk
    have cC := fun wx => compI_any (startK s) (.slice none 0 0) 0 d wx (startK_ok hsk) (fun _ => rfl) (rdP_nil 0 wx) (by omega)
    have e1 := compO_plain h2
    have hc1 := compW_some h1 h2
    have hc2 := compW_some (fits_nil h2) h2
    have HG : gainV s dict.data.toList d.data.toList = .tuple #[.int .i64 (((compL (learnK (startK s) []) d.data.toList).length : Int) - ((compL (learnK (startK s) dict.data.toList) d.data.toList).length : Int)), .bool true] := by
      unfold gainV; rw [hf, hc1, hc2]; rfl
    have hl1 := compW_len2 (s := s) (dict := dict.data.toList) (d := d.data.toList)
    have hl2 := compW_len2 (s := s) (dict := []) (d := d.data.toList)
    rw [hc1] at hl1
    rw [hc2] at hl2
    have hZ : szW s dict d = (compL (learnK (startK s) dict.data.toList) d.data.toList).length := by unfold szW; rw [hc1]; rfl
    have z2 := bs_size (compL (learnK (startK s) []) d.data.toList)
    rw [HG] at cI cS
    rw [gain_none h2] at cN
    rw [e1] at cC
    rw [hZ] at cZ
    unfold optS at cC
    simp only [Option.getD_some, Option.isSome_some, setV, kV, startK] at *
    clear hf h1 h2 hsk e1 hc1 hc2 HG hZ
    generalize compL (learnK ⟨s, [], 0, -1⟩ dict.data.toList) d.data.toList = c1 at *
    generalize compL (learnK ⟨s, [], 0, -1⟩ []) d.data.toList = c2 at *
    go_wp2_with (first | ((go_at_call 8; (with_reducible refine (cI _).mono ?_); rintro e w2 ⟨rfl, U2⟩; have B2 := bcell U2; have Z2 := U2.size; (try simp at Z2); (try rw [Nat.add_one_le_iff] at Z2)); (try have V2a : w1.heap.size < w2.heap.size := (by omega)); (try have V2b : w1.heap.size + 1 < w2.heap.size := (by omega)); (try have V2c : w2.heap.size < w2.heap.size := (by omega)); (try have V2d : w3.heap.size < w2.heap.size := (by omega)); (try have V2e : w4.heap.size < w2.heap.size := (by omega)); skip) | ((go_at_call 9; (with_reducible refine (cS _).mono ?_); rintro e w3 ⟨rfl, U3⟩; have B3 := bcell U3; have Z3 := U3.size; (try simp at Z3); (try rw [Nat.add_one_le_iff] at Z3)); (try have V3a : w1.heap.size < w3.heap.size := (by omega)); (try have V3b : w1.heap.size + 1 < w3.heap.size := (by omega)); (try have V3c : w2.heap.size < w3.heap.size := (by omega)); (try have V3d : w3.heap.size < w3.heap.size := (by omega)); (try have V3e : w4.heap.size < w3.heap.size := (by omega)); skip) | ((go_at_call 8; (with_reducible refine (cN _).mono ?_); rintro e w4 ⟨rfl, U4⟩; have B4 := bcell U4; have Z4 := U4.size; (try simp at Z4); (try rw [Nat.add_one_le_iff] at Z4)); (try have V4a : w1.heap.size < w4.heap.size := (by omega)); (try have V4b : w1.heap.size + 1 < w4.heap.size := (by omega)); (try have V4c : w2.heap.size < w4.heap.size := (by omega)); (try have V4d : w3.heap.size < w4.heap.size := (by omega)); (try have V4e : w4.heap.size < w4.heap.size := (by omega)); skip) | (go_at_call 10; (with_reducible refine (cT _).mono ?_); rintro e w5 ⟨rfl, U5⟩; have B5 := bcell U5; have V5 : w1.heap.size < w5.heap.size := (by have := U5.size; omega)) | ((go_at_call 11; (with_reducible refine (cC _).mono ?_); rintro e w6 ⟨rfl, U6⟩; have B6 := bcell U6; have Z6 := U6.size; (try simp at Z6); (try rw [Nat.add_one_le_iff] at Z6)); (try have V6a : w1.heap.size < w6.heap.size := (by omega)); (try have V6b : w1.heap.size + 1 < w6.heap.size := (by omega)); (try have V6c : w2.heap.size < w6.heap.size := (by omega)); (try have V6d : w3.heap.size < w6.heap.size := (by omega)); (try have V6e : w4.heap.size < w6.heap.size := (by omega)); skip) | ((go_at_call 12; (with_reducible refine (cZ _).mono ?_); rintro e w7 ⟨rfl, U7⟩; have B7 := bcell U7; have Z7 := U7.size; (try simp at Z7); (try rw [Nat.add_one_le_iff] at Z7)); (try have V7a : w1.heap.size < w7.heap.size := (by omega)); (try have V7b : w1.heap.size + 1 < w7.heap.size := (by omega)); (try have V7c : w2.heap.size < w7.heap.size := (by omega)); (try have V7d : w3.heap.size < w7.heap.size := (by omega)); (try have V7e : w4.heap.size < w7.heap.size := (by omega)); skip))
    go_ret
    refine ⟨ret_bool (by first | (simp; done) | (simp; omega) | (simp; unfold wrap64; omega)), ?_⟩
    (repeat (first | with_reducible exact Up.refl _ | with_reducible assumption | with_reducible refine Up.set ?_ (by first | exact Nat.le_refl _ | (simp only []; omega) | (simp; omega)) _ | with_reducible refine Up.alloc ?_ _ | with_reducible refine Up.drew ?_ | refine Up.trans ?_ (by with_reducible assumption)))

set_option maxRecDepth 100000 in
theorem lifted (os : Os) (started : os.Started) (H : Type) (enc : TypeId × Value → H) :
    ReturnsInHanded {} Try.checked os 3 .any (Rows.fnDictGainSpec.pre6 enc Try.prog Try.f3 Rows.fnDictGainRow.domain false) (Rows.fnDictGainSpec.post enc Try.prog Try.f3 false true false false) := by
  refine returnsInHanded_of_change (C := Try.checked) own started (by kernel_rfl) Try.func3
    (ChangeSpec.witness6 (enc := enc) (C := Try.checked) false ⟨#[], #[.slice none 0 0], []⟩ 8 (by kernel_rfl) (by kernel_rfl) (by kernel_rfl) (by kernel_rfl)) ?_
  intro W base args ds gs before hval0 hW hcnd _
  have hval : ∀ (j : Nat) t v, Try.f3.params[j]? = some t → args[j]? = some v → Value.okWide Try.prog W .any base t v := hval0
  have hW' := hW
  obtain ⟨p, q, hA0, hV, rfl, hfz, hnd⟩ := hW
  have hA : DataW.TrodAll enc Try.prog W 0 (fun _ => true) true Try.f3.params.toList args.toList ds p := hA0
  rw [Try.params3] at hA hval
  obtain ⟨v0, d0, rfl, rfl, h0⟩ := trodAll_one hA
  obtain ⟨p0, rfl⟩ : ∃ x, x = p := ⟨_, rfl⟩
  obtain ⟨a0, n0, c0, rfl⟩ := okWide_slice Try.underlying22 (hval 0 22 v0 rfl rfl)
  have hlt0 : ∀ x ∈ p0, x.block < W.heap.size := fun x hx => by simpa using hW'.lt x (by simp [hx])
  obtain ⟨fuel0, hf0⟩ := h0
  obtain ⟨lcode, hcode⟩ := open_argU (by simpa [Value.cells] using hf0) hlt0
  obtain ⟨rfl, rfl⟩ := trodVars_none hV
  refine (walk _ _ W hcode).mono fun e W' ⟨he, hu⟩ => ?_
  subst he
  exact ⟨_, rfl, post_law (f := Try.f3) TrylaidOut (by kernel_rfl) rfl Try.underlying4 rfl hW' (fun ds' h => by subst h; exact ⟨rfl, rfl, rfl⟩) hu⟩

set_option maxHeartbeats 80000000 in
theorem closed : joinedFacts Try.checked.prog 3 Try.f3 Rows.fnDictGainSpec Rows.fnDictGainRow = true := by
  unfold joinedFacts
  repeat' (with_reducible refine (Bool.and_eq_true_iff.2 ⟨?_, ?_⟩))
  all_goals (as_aux_lemma => kernel_rfl)

theorem holds : Rows.FnDictGainSaid :=
  OpenClaim.holds_of_wide 3 Try.f3 rfl rfl rfl rfl rfl rfl rfl ⟨rfl, rfl, rfl, rfl, rfl⟩ rfl rfl rfl rfl rfl (by as_aux_lemma => kernel_rfl) Try.func3 closed
    (of_decide_eq_true (by as_aux_lemma => kernel_rfl)) (by unfold Func.isWrapper; first | (rw [if_pos (by decide +kernel)]; kernel_rfl) | (rw [if_neg (by decide +kernel)]; exact ⟨rfl, rfl⟩))
    (fun os started H enc _ => lifted os started H enc)

end Go.Proofs.Ytbimdjlcjcdbnaa.lawFnDictGain
