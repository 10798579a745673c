/- Data is restored with the dictionary with which it was compressed, and with the trimmed part of it, which gives the same stream. Conditions: none. -/
import Derived.Test.YtekbbnkkninolaaGreatMFnDictRoundTripLawA
namespace Go.Proofs.YtekbbnkkninolaaGreat.lawFnDictRoundTrip
set_option linter.unusedVariables false
set_option linter.unusedSimpArgs false
open Go.ChangeShapes Go.WideShapes Go.ChangeAt Go.RowKit Go.Joins
open Go.ChangeMaps (open_string shut_string)


set_option maxRecDepth 100000 in
set_option maxHeartbeats 8000000 in
theorem walk (vc : Value) (lc : List UInt8) (w : World) (hc : ArgU w vc lc) :
    Calls Tryz.prog 6  #[vc] w (Same (.bool true) w) := by
  have cD := fun w' hu => drawCompressWith_any vc lc w' (hc.up (w' := w') hu)
  obtain ⟨ac, cc, rfl, hc1, hc2, -⟩ := hc
  unfold maxLen at hc2
  by_cases h1 : 1048576 < lc.length
  · go_enter Tryz.func6, Tryz.ntmps6
    go_wp2
    go_ret
    exact ⟨rfl, by (repeat (first | with_reducible exact Up.refl _ | with_reducible assumption | with_reducible refine Up.set ?_ (by first | exact Nat.le_refl _ | (simp only []; omega) | (simp; omega)) _ | with_reducible refine Up.alloc ?_ _ | with_reducible refine Up.drew ?_ | refine Up.trans ?_ (by with_reducible assumption)))⟩
  go_enter Tryz.func6, Tryz.ntmps6
  go_wp2_with (go_at_call 27; (with_reducible refine (cD _ (by (repeat (first | with_reducible exact Up.refl _ | with_reducible assumption | with_reducible refine Up.set ?_ (by first | exact Nat.le_refl _ | (simp only []; omega) | (simp; omega)) _ | with_reducible refine Up.alloc ?_ _ | with_reducible refine Up.drew ?_ | refine Up.trans ?_ (by with_reducible assumption))))).mono ?_); rintro e w1 ⟨v1, rfl, ⟨s, dict, d, rfl, hs, hdi, hd⟩, U1⟩; simp only [setV]; have B1 := bcell U1; have Z1 := U1.size; (try simp at Z1); (try rw [Nat.add_one_le_iff] at Z1))
  have cI := fun w => compWI_any s dict d w hs (by omega) (by omega)
  have cS := fun w => compWS_any s dict d w (by omega) (by omega)
  have cF1 := fun w => fitsI_any s dict w hs (by omega)
  have cF2 := fun w => fitsI_any s d w hs (by omega)
  clear cD
  cases hf1 : fitsB s dict.data.toList
  · have HN := compW_no (s := s) (dict := dict.data.toList) (d := d.data.toList) (by rw [hf1]; rfl)
    rw [hf1] at cF1
    rw [HN] at cI cS
    unfold optS at cI cS
    simp only [setV, Option.getD_none, Option.isSome_none] at *
    clear HN hf1
    go_wp2_with (first | ((go_at_call 28; (with_reducible refine (cI _).mono ?_); rintro e w2 ⟨rfl, U2⟩; have B2 := bcell U2; have Z2 := U2.size; (try simp at Z2); (try rw [Nat.add_one_le_iff] at Z2)); (try have V2a : w1.heap.size < w2.heap.size := (by omega)); (try have V2b : w1.heap.size + 1 < w2.heap.size := (by omega)); (try have V2c : w2.heap.size < w2.heap.size := (by omega)); (try have V2d : w3.heap.size < w2.heap.size := (by omega)); (try have V2e : w4.heap.size < w2.heap.size := (by omega)); skip) | ((go_at_call 29; (with_reducible refine (cS _).mono ?_); rintro e w3 ⟨rfl, U3⟩; have B3 := bcell U3; have Z3 := U3.size; (try simp at Z3); (try rw [Nat.add_one_le_iff] at Z3)); (try have V3a : w1.heap.size < w3.heap.size := (by omega)); (try have V3b : w1.heap.size + 1 < w3.heap.size := (by omega)); (try have V3c : w2.heap.size < w3.heap.size := (by omega)); (try have V3d : w3.heap.size < w3.heap.size := (by omega)); (try have V3e : w4.heap.size < w3.heap.size := (by omega)); skip) | ((go_at_call 30; (with_reducible refine (cF1 _).mono ?_); rintro e w4 ⟨rfl, U4⟩; have B4 := bcell U4; have Z4 := U4.size; (try simp at Z4); (try rw [Nat.add_one_le_iff] at Z4)); (try have V4a : w1.heap.size < w4.heap.size := (by omega)); (try have V4b : w1.heap.size + 1 < w4.heap.size := (by omega)); (try have V4c : w2.heap.size < w4.heap.size := (by omega)); (try have V4d : w3.heap.size < w4.heap.size := (by omega)); (try have V4e : w4.heap.size < w4.heap.size := (by omega)); skip))
    go_ret
    refine ⟨ret_bool (by simp; try rfl), ?_⟩
    (repeat (first | with_reducible exact Up.refl _ | with_reducible assumption | with_reducible refine Up.set ?_ (by first | exact Nat.le_refl _ | (simp only []; omega) | (simp; omega)) _ | with_reducible refine Up.alloc ?_ _ | with_reducible refine Up.drew ?_ | refine Up.trans ?_ (by with_reducible assumption)))
  cases hf2 : fitsB s d.data.toList
  · have HN := compW_no (s := s) (dict := dict.data.toList) (d := d.data.toList) (by rw [hf1, hf2]; rfl)
    rw [hf1] at cF1
    rw [hf2] at cF2
    rw [HN] at cI cS
    unfold optS at cI cS
    simp only [setV, Option.getD_none, Option.isSome_none] at *
    clear HN hf1 hf2
    go_wp2_with (first | ((go_at_call 28; (with_reducible refine (cI _).mono ?_); rintro e w2 ⟨rfl, U2⟩; have B2 := bcell U2; have Z2 := U2.size; (try simp at Z2); (try rw [Nat.add_one_le_iff] at Z2)); (try have V2a : w1.heap.size < w2.heap.size := (by omega)); (try have V2b : w1.heap.size + 1 < w2.heap.size := (by omega)); (try have V2c : w2.heap.size < w2.heap.size := (by omega)); (try have V2d : w3.heap.size < w2.heap.size := (by omega)); (try have V2e : w4.heap.size < w2.heap.size := (by omega)); skip) | ((go_at_call 29; (with_reducible refine (cS _).mono ?_); rintro e w3 ⟨rfl, U3⟩; have B3 := bcell U3; have Z3 := U3.size; (try simp at Z3); (try rw [Nat.add_one_le_iff] at Z3)); (try have V3a : w1.heap.size < w3.heap.size := (by omega)); (try have V3b : w1.heap.size + 1 < w3.heap.size := (by omega)); (try have V3c : w2.heap.size < w3.heap.size := (by omega)); (try have V3d : w3.heap.size < w3.heap.size := (by omega)); (try have V3e : w4.heap.size < w3.heap.size := (by omega)); skip) | ((go_at_call 30; (with_reducible refine (cF1 _).mono ?_); rintro e w4 ⟨rfl, U4⟩; have B4 := bcell U4; have Z4 := U4.size; (try simp at Z4); (try rw [Nat.add_one_le_iff] at Z4)); (try have V4a : w1.heap.size < w4.heap.size := (by omega)); (try have V4b : w1.heap.size + 1 < w4.heap.size := (by omega)); (try have V4c : w2.heap.size < w4.heap.size := (by omega)); (try have V4d : w3.heap.size < w4.heap.size := (by omega)); (try have V4e : w4.heap.size < w4.heap.size := (by omega)); skip) | ((go_at_call 30; (with_reducible refine (cF2 _).mono ?_); rintro e w5 ⟨rfl, U5⟩; have B5 := bcell U5; have Z5 := U5.size; (try simp at Z5); (try rw [Nat.add_one_le_iff] at Z5)); (try have V5a : w1.heap.size < w5.heap.size := (by omega)); (try have V5b : w1.heap.size + 1 < w5.heap.size := (by omega)); (try have V5c : w2.heap.size < w5.heap.size := (by omega)); (try have V5d : w3.heap.size < w5.heap.size := (by omega)); (try have V5e : w4.heap.size < w5.heap.size := (by omega)); skip))
    go_ret
    refine ⟨ret_bool (by simp; try rfl), ?_⟩
    (repeat (first | with_reducible exact Up.refl _ | with_reducible assumption | with_reducible refine Up.set ?_ (by first | exact Nat.le_refl _ | (simp only []; omega) | (simp; omega)) _ | with_reducible refine Up.alloc ?_ _ | with_reducible refine Up.drew ?_ | refine Up.trans ?_ (by with_reducible assumption)))
  · obtain ⟨f1, f2, f3⟩ := fitsB_lits hf1
    obtain ⟨f4, f5, f6⟩ := fitsB_lits hf2
    have HC := compW_some hf1 hf2
    obtain ⟨hl4, HD⟩ := decW_comp hf1 hf2
    have hg := trimK_fits hf1
    have hgl := trimK_le (startK_ok f1) (d := dict.data.toList) f3
    have HT : trimO s dict.data.toList = some (dict.data.toList.take (trimK (startK s) dict.data.toList)) := by unfold trimO; rw [hf1]; rfl
    have HE := learnK_trim (startK_ok f1) (d := dict.data.toList) f3
    have cT := fun w => trimI_any s dict w hs (by omega)
    have hxz := bs_size (dict.data.toList.take (trimK (startK s) dict.data.toList))
    have hdl := ba_len dict
    rw [List.length_take] at hxz
    have HC2 := compW_some hg hf2
    have HD2 : decW s (dict.data.toList.take (trimK (startK s) dict.data.toList)) (compL (learnK (startK s) dict.data.toList) d.data.toList) = ⟨d.data.toList, 0, (compL (learnK (startK s) dict.data.toList) d.data.toList).length⟩ := by
      have := HD
      unfold decW at this ⊢
      rw [if_pos hf1] at this
      rw [if_pos hg, HE]
      exact this
    rw [HE] at HC2
    have cW1 := fun w => decWI_any s dict (bs (compL (learnK (startK s) dict.data.toList) d.data.toList)) w hs (by omega) (by rw [bs_size]; omega)
    have cW2 := fun w => decWI_any s (bs (dict.data.toList.take (trimK (startK s) dict.data.toList))) (bs (compL (learnK (startK s) dict.data.toList) d.data.toList)) w hs (by omega) (by rw [bs_size]; omega)
    have cI2 := fun w => compWI_any s (bs (dict.data.toList.take (trimK (startK s) dict.data.toList))) d w hs (by omega) (by omega)
    rw [bs_data] at cW1 cW2 cI2
    rw [bs_data] at cW2
    rw [HD] at cW1
    rw [HD2] at cW2
    rw [HC2] at cI2
    rw [HT] at cT
    rw [HC] at cI cS
    rw [hf1] at cF1
    rw [hf2] at cF2
    have hcz := bs_size (compL (learnK (startK s) dict.data.toList) d.data.toList)
    clear HD HD2 HC HC2 HT HE hg hf1 hf2 f1 f2 f3 f4 f5 f6 hgl
    generalize compL (learnK (startK s) dict.data.toList) d.data.toList = c at *
    generalize dict.data.toList.take (trimK (startK s) dict.data.toList) = g at *
    unfold optS at cI cS cI2 cT
    unfold decV at cW1 cW2
    simp only [setV, Option.getD_some, Option.isSome_some, bs_self] at *
    go_wp2_with (first | ((go_at_call 28; (with_reducible refine (cI _).mono ?_); rintro e w2 ⟨rfl, U2⟩; have B2 := bcell U2; have Z2 := U2.size; (try simp at Z2); (try rw [Nat.add_one_le_iff] at Z2)); (try have V2a : w1.heap.size < w2.heap.size := (by omega)); (try have V2b : w1.heap.size + 1 < w2.heap.size := (by omega)); (try have V2c : w2.heap.size < w2.heap.size := (by omega)); (try have V2d : w3.heap.size < w2.heap.size := (by omega)); (try have V2e : w4.heap.size < w2.heap.size := (by omega)); skip) | ((go_at_call 29; (with_reducible refine (cS _).mono ?_); rintro e w3 ⟨rfl, U3⟩; have B3 := bcell U3; have Z3 := U3.size; (try simp at Z3); (try rw [Nat.add_one_le_iff] at Z3)); (try have V3a : w1.heap.size < w3.heap.size := (by omega)); (try have V3b : w1.heap.size + 1 < w3.heap.size := (by omega)); (try have V3c : w2.heap.size < w3.heap.size := (by omega)); (try have V3d : w3.heap.size < w3.heap.size := (by omega)); (try have V3e : w4.heap.size < w3.heap.size := (by omega)); skip) | ((go_at_call 30; (with_reducible refine (cF1 _).mono ?_); rintro e w4 ⟨rfl, U4⟩; have B4 := bcell U4; have Z4 := U4.size; (try simp at Z4); (try rw [Nat.add_one_le_iff] at Z4)); (try have V4a : w1.heap.size < w4.heap.size := (by omega)); (try have V4b : w1.heap.size + 1 < w4.heap.size := (by omega)); (try have V4c : w2.heap.size < w4.heap.size := (by omega)); (try have V4d : w3.heap.size < w4.heap.size := (by omega)); (try have V4e : w4.heap.size < w4.heap.size := (by omega)); skip) | ((go_at_call 30; (with_reducible refine (cF2 _).mono ?_); rintro e w5 ⟨rfl, U5⟩; have B5 := bcell U5; have Z5 := U5.size; (try simp at Z5); (try rw [Nat.add_one_le_iff] at Z5)); (try have V5a : w1.heap.size < w5.heap.size := (by omega)); (try have V5b : w1.heap.size + 1 < w5.heap.size := (by omega)); (try have V5c : w2.heap.size < w5.heap.size := (by omega)); (try have V5d : w3.heap.size < w5.heap.size := (by omega)); (try have V5e : w4.heap.size < w5.heap.size := (by omega)); skip) | ((go_at_call 31; (with_reducible refine (cW1 _).mono ?_); rintro e w6 ⟨rfl, U6⟩; have B6 := bcell U6; have Z6 := U6.size; (try simp at Z6); (try rw [Nat.add_one_le_iff] at Z6)); (try have V6a : w1.heap.size < w6.heap.size := (by omega)); (try have V6b : w1.heap.size + 1 < w6.heap.size := (by omega)); (try have V6c : w2.heap.size < w6.heap.size := (by omega)); (try have V6d : w3.heap.size < w6.heap.size := (by omega)); (try have V6e : w4.heap.size < w6.heap.size := (by omega)); skip) | ((go_at_call 32; (with_reducible refine (cT _).mono ?_); rintro e w7 ⟨rfl, U7⟩; have B7 := bcell U7; have Z7 := U7.size; (try simp at Z7); (try rw [Nat.add_one_le_iff] at Z7)); (try have V7a : w1.heap.size < w7.heap.size := (by omega)); (try have V7b : w1.heap.size + 1 < w7.heap.size := (by omega)); (try have V7c : w2.heap.size < w7.heap.size := (by omega)); (try have V7d : w3.heap.size < w7.heap.size := (by omega)); (try have V7e : w4.heap.size < w7.heap.size := (by omega)); skip) | ((go_at_call 31; (with_reducible refine (cW2 _).mono ?_); rintro e w8 ⟨rfl, U8⟩; have B8 := bcell U8; have Z8 := U8.size; (try simp at Z8); (try rw [Nat.add_one_le_iff] at Z8)); (try have V8a : w1.heap.size < w8.heap.size := (by omega)); (try have V8b : w1.heap.size + 1 < w8.heap.size := (by omega)); (try have V8c : w2.heap.size < w8.heap.size := (by omega)); (try have V8d : w3.heap.size < w8.heap.size := (by omega)); (try have V8e : w4.heap.size < w8.heap.size := (by omega)); skip) | ((go_at_call 28; (with_reducible refine (cI2 _).mono ?_); rintro e w9 ⟨rfl, U9⟩; have B9 := bcell U9; have Z9 := U9.size; (try simp at Z9); (try rw [Nat.add_one_le_iff] at Z9)); (try have V9a : w1.heap.size < w9.heap.size := (by omega)); (try have V9b : w1.heap.size + 1 < w9.heap.size := (by omega)); (try have V9c : w2.heap.size < w9.heap.size := (by omega)); (try have V9d : w3.heap.size < w9.heap.size := (by omega)); (try have V9e : w4.heap.size < w9.heap.size := (by omega)); skip))
    go_ret
    refine ⟨ret_bool (by simp; try rfl), ?_⟩
    (repeat (first | with_reducible exact Up.refl _ | with_reducible assumption | with_reducible refine Up.set ?_ (by first | exact Nat.le_refl _ | (simp only []; omega) | (simp; omega)) _ | with_reducible refine Up.alloc ?_ _ | with_reducible refine Up.drew ?_ | refine Up.trans ?_ (by with_reducible assumption)))

set_option maxRecDepth 100000 in
theorem lifted (os : Os) (started : os.Started) (H : Type) (enc : TypeId × Value → H) :
    ReturnsInHanded {} Tryz.checked os 6 .any (Rows.fnDictRoundTripSpec.pre6 enc Tryz.prog Tryz.f6 Rows.fnDictRoundTripRow.domain false) (Rows.fnDictRoundTripSpec.post enc Tryz.prog Tryz.f6 false true false false) := by
  refine returnsInHanded_of_change (C := Tryz.checked) own started (by kernel_rfl) Tryz.func6
    (ChangeSpec.witness6 (enc := enc) (C := Tryz.checked) false ⟨#[], #[.slice none 0 0], []⟩ 8 (by kernel_rfl) (by kernel_rfl) (by kernel_rfl) (by kernel_rfl)) ?_
  intro W base args ds gs before hval0 hW hcnd _
  have hval : ∀ (j : Nat) t v, Tryz.f6.params[j]? = some t → args[j]? = some v → Value.okWide Tryz.prog W .any base t v := hval0
  have hW' := hW
  obtain ⟨p, q, hA0, hV, rfl, hfz, hnd⟩ := hW
  have hA : DataW.TrodAll enc Tryz.prog W 0 (fun _ => true) true Tryz.f6.params.toList args.toList ds p := hA0
  rw [Tryz.params6] at hA hval
  obtain ⟨v0, d0, rfl, rfl, h0⟩ := trodAll_one hA
  obtain ⟨p0, rfl⟩ : ∃ x, x = p := ⟨_, rfl⟩
  obtain ⟨a0, n0, c0, rfl⟩ := okWide_slice Tryz.underlying38 (hval 0 38 v0 rfl rfl)
  have hlt0 : ∀ x ∈ p0, x.block < W.heap.size := fun x hx => by simpa using hW'.lt x (by simp [hx])
  obtain ⟨fuel0, hf0⟩ := h0
  obtain ⟨lcode, hcode⟩ := open_argU (by simpa [Value.cells] using hf0) hlt0
  obtain ⟨rfl, rfl⟩ := trodVars_none hV
  refine (walk _ _ W hcode).mono fun e W' ⟨he, hu⟩ => ?_
  subst he
  exact ⟨_, rfl, post_law (f := Tryz.f6) TryzlaidOut (by kernel_rfl) rfl Tryz.underlying4 rfl hW' (fun ds' h => by subst h; exact ⟨rfl, rfl, rfl⟩) hu⟩

set_option maxHeartbeats 80000000 in
theorem closed : joinedFacts Tryz.checked.prog 6 Tryz.f6 Rows.fnDictRoundTripSpec Rows.fnDictRoundTripRow = true := by
  unfold joinedFacts
  repeat' (with_reducible refine (Bool.and_eq_true_iff.2 ⟨?_, ?_⟩))
  all_goals (as_aux_lemma => kernel_rfl)

theorem holds : Rows.FnDictRoundTripSaid :=
  OpenClaim.holds_of_wide 6 Tryz.f6 rfl rfl rfl rfl rfl rfl rfl ⟨rfl, rfl, rfl, rfl, rfl⟩ rfl rfl rfl rfl rfl (by as_aux_lemma => kernel_rfl) Tryz.func6 closed
    (of_decide_eq_true (by as_aux_lemma => kernel_rfl)) (by unfold Func.isWrapper; first | (rw [if_pos (by decide +kernel)]; kernel_rfl) | (rw [if_neg (by decide +kernel)]; exact ⟨rfl, rfl⟩))
    (fun os started H enc _ => lifted os started H enc)

end Go.Proofs.YtekbbnkkninolaaGreat.lawFnDictRoundTrip
