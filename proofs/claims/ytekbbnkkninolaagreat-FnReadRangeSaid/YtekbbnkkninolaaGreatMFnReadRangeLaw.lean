/- A range exists exactly if it lies within the data, and is the part of the data. Conditions: none. -/
import Derived.Test.YtekbbnkkninolaaGreatMFnReadRangeLawA
namespace Go.Proofs.YtekbbnkkninolaaGreat.lawFnReadRange
set_option linter.unusedVariables false
set_option linter.unusedSimpArgs false
open Go.ChangeShapes Go.WideShapes Go.ChangeAt Go.RowKit Go.Joins
open Go.ChangeMaps (open_string shut_string)


set_option maxRecDepth 100000 in
set_option maxHeartbeats 8000000 in
theorem walk (vc : Value) (lc : List UInt8) (w : World) (hc : ArgU w vc lc) :
    Calls Tryz.prog 14  #[vc] w (Same (.bool true) w) := by
  have cD := fun w' hu => drawReadRange_any vc lc w' (hc.up (w' := w') hu)
  obtain ⟨ac, cc, rfl, hc1, hc2, -⟩ := hc
  unfold maxLen at hc2
  by_cases h1 : 1048576 < lc.length
  · go_enter Tryz.func14, Tryz.ntmps14
    go_wp2
    go_ret
    exact ⟨rfl, by (repeat (first | with_reducible exact Up.refl _ | with_reducible assumption | with_reducible refine Up.set ?_ (by first | exact Nat.le_refl _ | (simp only []; omega) | (simp; omega)) _ | with_reducible refine Up.alloc ?_ _ | with_reducible refine Up.drew ?_ | refine Up.trans ?_ (by with_reducible assumption)))⟩
  go_enter Tryz.func14, Tryz.ntmps14
  go_wp2_with (go_at_call 57; (with_reducible refine (cD _ (by (repeat (first | with_reducible exact Up.refl _ | with_reducible assumption | with_reducible refine Up.set ?_ (by first | exact Nat.le_refl _ | (simp only []; omega) | (simp; omega)) _ | with_reducible refine Up.alloc ?_ _ | with_reducible refine Up.drew ?_ | refine Up.trans ?_ (by with_reducible assumption))))).mono ?_); rintro e w1 ⟨s, dict, st, a, b, rfl, hs, hdi, hst, U1⟩; have B1 := bcell U1; have Z1 := U1.size; (try simp at Z1); (try rw [Nat.add_one_le_iff] at Z1))
  have cI := fun w => rangeI_any s dict st a b w hs (by omega) (by omega)
  have cS := fun w => rangeS_any s dict st a b w (by omega) (by omega)
  have cC := fun w => conI_any s dict st w hs (by omega) (by omega)
  clear cD
  cases hco : conO s dict.data.toList st with
  | none =>
    rw [hco] at cI cS cC
    have HR : Hid (rngO none a b = none) := rfl
    rw [HR.out, optS_none] at cI cS
    rw [optS_none] at cC
    simp only [setV] at cI cS cC
    clear hco
    go_wp2_with (first | ((go_at_call 21; (with_reducible refine (cI _).mono ?_); rintro e w2 ⟨rfl, U2⟩; have B2 := bcell U2; have Z2 := U2.size; (try simp at Z2); (try rw [Nat.add_one_le_iff] at Z2)); (try have V2a : w1.heap.size < w2.heap.size := (by omega)); (try have V2b : w1.heap.size + 1 < w2.heap.size := (by omega)); (try have V2c : w2.heap.size < w2.heap.size := (by omega)); (try have V2d : w3.heap.size < w2.heap.size := (by omega)); (try have V2e : w4.heap.size < w2.heap.size := (by omega)); skip) | ((go_at_call 20; (with_reducible refine (cS _).mono ?_); rintro e w3 ⟨rfl, U3⟩; have B3 := bcell U3; have Z3 := U3.size; (try simp at Z3); (try rw [Nat.add_one_le_iff] at Z3)); (try have V3a : w1.heap.size < w3.heap.size := (by omega)); (try have V3b : w1.heap.size + 1 < w3.heap.size := (by omega)); (try have V3c : w2.heap.size < w3.heap.size := (by omega)); (try have V3d : w3.heap.size < w3.heap.size := (by omega)); (try have V3e : w4.heap.size < w3.heap.size := (by omega)); skip) | ((go_at_call 19; (with_reducible refine (cC _).mono ?_); rintro e w4 ⟨rfl, U4⟩; have B4 := bcell U4; have Z4 := U4.size; (try simp at Z4); (try rw [Nat.add_one_le_iff] at Z4)); (try have V4a : w1.heap.size < w4.heap.size := (by omega)); (try have V4b : w1.heap.size + 1 < w4.heap.size := (by omega)); (try have V4c : w2.heap.size < w4.heap.size := (by omega)); (try have V4d : w3.heap.size < w4.heap.size := (by omega)); (try have V4e : w4.heap.size < w4.heap.size := (by omega)); skip))
    go_ret
    refine ⟨ret_bool (by simp; try rfl), ?_⟩
    (repeat (first | with_reducible exact Up.refl _ | with_reducible assumption | with_reducible refine Up.set ?_ (by first | exact Nat.le_refl _ | (simp only []; omega) | (simp; omega)) _ | with_reducible refine Up.alloc ?_ _ | with_reducible refine Up.drew ?_ | refine Up.trans ?_ (by with_reducible assumption)))
  | some D =>
    have hd := conO_bd hco
    have hz := bs_size D
    rw [hco] at cI cS cC
    by_cases h : 0 ≤ a ∧ a ≤ b ∧ b ≤ D.length
    · have HR : rngO (some D) a b = some ((D.drop a.toNat).take (b.toNat - a.toNat)) := by
        unfold rngO
        rw [Option.bind_some, if_pos h]
      obtain ⟨g1, g2, g3⟩ := h
      have HX : bs ((D.drop a.toNat).take (b.toNat - a.toNat)) = (bs D).extract a.toNat b.toNat := (bs_ext _ _ _).symm
      rw [HR] at cI cS
      unfold optS at cI cS cC
      simp only [setV, Option.getD_some, Option.isSome_some, HX] at cI cS cC
      clear hco HR HX
      go_wp2_with (first | ((go_at_call 21; (with_reducible refine (cI _).mono ?_); rintro e w2 ⟨rfl, U2⟩; have B2 := bcell U2; have Z2 := U2.size; (try simp at Z2); (try rw [Nat.add_one_le_iff] at Z2)); (try have V2a : w1.heap.size < w2.heap.size := (by omega)); (try have V2b : w1.heap.size + 1 < w2.heap.size := (by omega)); (try have V2c : w2.heap.size < w2.heap.size := (by omega)); (try have V2d : w3.heap.size < w2.heap.size := (by omega)); (try have V2e : w4.heap.size < w2.heap.size := (by omega)); skip) | ((go_at_call 20; (with_reducible refine (cS _).mono ?_); rintro e w3 ⟨rfl, U3⟩; have B3 := bcell U3; have Z3 := U3.size; (try simp at Z3); (try rw [Nat.add_one_le_iff] at Z3)); (try have V3a : w1.heap.size < w3.heap.size := (by omega)); (try have V3b : w1.heap.size + 1 < w3.heap.size := (by omega)); (try have V3c : w2.heap.size < w3.heap.size := (by omega)); (try have V3d : w3.heap.size < w3.heap.size := (by omega)); (try have V3e : w4.heap.size < w3.heap.size := (by omega)); skip) | ((go_at_call 19; (with_reducible refine (cC _).mono ?_); rintro e w4 ⟨rfl, U4⟩; have B4 := bcell U4; have Z4 := U4.size; (try simp at Z4); (try rw [Nat.add_one_le_iff] at Z4)); (try have V4a : w1.heap.size < w4.heap.size := (by omega)); (try have V4b : w1.heap.size + 1 < w4.heap.size := (by omega)); (try have V4c : w2.heap.size < w4.heap.size := (by omega)); (try have V4d : w3.heap.size < w4.heap.size := (by omega)); (try have V4e : w4.heap.size < w4.heap.size := (by omega)); skip))
      go_ret
      refine ⟨ret_bool (by simp; try rfl), ?_⟩
      (repeat (first | with_reducible exact Up.refl _ | with_reducible assumption | with_reducible refine Up.set ?_ (by first | exact Nat.le_refl _ | (simp only []; omega) | (simp; omega)) _ | with_reducible refine Up.alloc ?_ _ | with_reducible refine Up.drew ?_ | refine Up.trans ?_ (by with_reducible assumption)))
    · have HR : rngO (some D) a b = none := by
        unfold rngO
        rw [Option.bind_some, if_neg h]
      rw [HR, optS_none] at cI cS
      unfold optS at cC
      simp only [setV, Option.getD_some, Option.isSome_some] at cI cS cC
      clear hco HR
      have h3 : a < 0 ∨ (0 ≤ a ∧ b < a) ∨ (0 ≤ a ∧ a ≤ b ∧ (D.length : Int) < b) := by omega
      clear h
      rcases h3 with g1 | ⟨g1, g2⟩ | ⟨g1, g2, g3⟩
      all_goals
        go_wp2_with (first | ((go_at_call 21; (with_reducible refine (cI _).mono ?_); rintro e w2 ⟨rfl, U2⟩; have B2 := bcell U2; have Z2 := U2.size; (try simp at Z2); (try rw [Nat.add_one_le_iff] at Z2)); (try have V2a : w1.heap.size < w2.heap.size := (by omega)); (try have V2b : w1.heap.size + 1 < w2.heap.size := (by omega)); (try have V2c : w2.heap.size < w2.heap.size := (by omega)); (try have V2d : w3.heap.size < w2.heap.size := (by omega)); (try have V2e : w4.heap.size < w2.heap.size := (by omega)); skip) | ((go_at_call 20; (with_reducible refine (cS _).mono ?_); rintro e w3 ⟨rfl, U3⟩; have B3 := bcell U3; have Z3 := U3.size; (try simp at Z3); (try rw [Nat.add_one_le_iff] at Z3)); (try have V3a : w1.heap.size < w3.heap.size := (by omega)); (try have V3b : w1.heap.size + 1 < w3.heap.size := (by omega)); (try have V3c : w2.heap.size < w3.heap.size := (by omega)); (try have V3d : w3.heap.size < w3.heap.size := (by omega)); (try have V3e : w4.heap.size < w3.heap.size := (by omega)); skip) | ((go_at_call 19; (with_reducible refine (cC _).mono ?_); rintro e w4 ⟨rfl, U4⟩; have B4 := bcell U4; have Z4 := U4.size; (try simp at Z4); (try rw [Nat.add_one_le_iff] at Z4)); (try have V4a : w1.heap.size < w4.heap.size := (by omega)); (try have V4b : w1.heap.size + 1 < w4.heap.size := (by omega)); (try have V4c : w2.heap.size < w4.heap.size := (by omega)); (try have V4d : w3.heap.size < w4.heap.size := (by omega)); (try have V4e : w4.heap.size < w4.heap.size := (by omega)); skip))
        go_ret
        refine ⟨ret_bool (by simp; try rfl), ?_⟩
        (repeat (first | with_reducible exact Up.refl _ | with_reducible assumption | with_reducible refine Up.set ?_ (by first | exact Nat.le_refl _ | (simp only []; omega) | (simp; omega)) _ | with_reducible refine Up.alloc ?_ _ | with_reducible refine Up.drew ?_ | refine Up.trans ?_ (by with_reducible assumption)))

set_option maxRecDepth 100000 in
theorem lifted (os : Os) (started : os.Started) (H : Type) (enc : TypeId × Value → H) :
    ReturnsInHanded {} Tryz.checked os 14 .any (Rows.fnReadRangeSpec.pre6 enc Tryz.prog Tryz.f14 Rows.fnReadRangeRow.domain false) (Rows.fnReadRangeSpec.post enc Tryz.prog Tryz.f14 false true false false) := by
  refine returnsInHanded_of_change (C := Tryz.checked) own started (by kernel_rfl) Tryz.func14
    (ChangeSpec.witness6 (enc := enc) (C := Tryz.checked) false ⟨#[], #[.slice none 0 0], []⟩ 8 (by kernel_rfl) (by kernel_rfl) (by kernel_rfl) (by kernel_rfl)) ?_
  intro W base args ds gs before hval0 hW hcnd _
  have hval : ∀ (j : Nat) t v, Tryz.f14.params[j]? = some t → args[j]? = some v → Value.okWide Tryz.prog W .any base t v := hval0
  have hW' := hW
  obtain ⟨p, q, hA0, hV, rfl, hfz, hnd⟩ := hW
  have hA : DataW.TrodAll enc Tryz.prog W 0 (fun _ => true) true Tryz.f14.params.toList args.toList ds p := hA0
  rw [Tryz.params14] at hA hval
  obtain ⟨v0, d0, rfl, rfl, h0⟩ := trodAll_one hA
  obtain ⟨p0, rfl⟩ : ∃ x, x = p := ⟨_, rfl⟩
  obtain ⟨a0, n0, c0, rfl⟩ := okWide_slice Tryz.underlying38 (hval 0 38 v0 rfl rfl)
  have hlt0 : ∀ x ∈ p0, x.block < W.heap.size := fun x hx => by simpa using hW'.lt x (by simp [hx])
  obtain ⟨fuel0, hf0⟩ := h0
  obtain ⟨lcode, hcode⟩ := open_argU (by simpa [Value.cells] using hf0) hlt0
  obtain ⟨rfl, rfl⟩ := trodVars_none hV
  refine (walk _ _ W hcode).mono fun e W' ⟨he, hu⟩ => ?_
  subst he
  exact ⟨_, rfl, post_law (f := Tryz.f14) TryzlaidOut (by kernel_rfl) rfl Tryz.underlying4 rfl hW' (fun ds' h => by subst h; exact ⟨rfl, rfl, rfl⟩) hu⟩

set_option maxHeartbeats 80000000 in
theorem closed : joinedFacts Tryz.checked.prog 14 Tryz.f14 Rows.fnReadRangeSpec Rows.fnReadRangeRow = true := by
  unfold joinedFacts
  repeat' (with_reducible refine (Bool.and_eq_true_iff.2 ⟨?_, ?_⟩))
  all_goals (as_aux_lemma => kernel_rfl)

theorem holds : Rows.FnReadRangeSaid :=
  OpenClaim.holds_of_wide 14 Tryz.f14 rfl rfl rfl rfl rfl rfl rfl ⟨rfl, rfl, rfl, rfl, rfl⟩ rfl rfl rfl rfl rfl (by as_aux_lemma => kernel_rfl) Tryz.func14 closed
    (of_decide_eq_true (by as_aux_lemma => kernel_rfl)) (by unfold Func.isWrapper; first | (rw [if_pos (by decide +kernel)]; kernel_rfl) | (rw [if_neg (by decide +kernel)]; exact ⟨rfl, rfl⟩))
    (fun os started H enc _ => lifted os started H enc)

end Go.Proofs.YtekbbnkkninolaaGreat.lawFnReadRange
