/- The data of a block is that of which it was made, and its body is not longer, and is a stream exactly if it is shorter. Conditions: none. -/
import Derived.Test.YtekbbnkkninolaaGreatMFnBlockDataLawA
namespace Go.Proofs.YtekbbnkkninolaaGreat.lawFnBlockData
set_option linter.unusedVariables false
set_option linter.unusedSimpArgs false
open Go.ChangeShapes Go.WideShapes Go.ChangeAt Go.RowKit Go.Joins
open Go.ChangeMaps (open_string shut_string)


set_option maxRecDepth 100000 in
set_option maxHeartbeats 8000000 in
theorem walk (vc : Value) (lc : List UInt8) (w : World) (hc : ArgU w vc lc) :
    Calls Tryz.prog 10  #[vc] w (Same (.bool true) w) := by
  have cD := fun w' hu => drawBlockOf_any vc lc w' (hc.up (w' := w') hu)
  obtain ⟨ac, cc, rfl, hc1, hc2, -⟩ := hc
  unfold maxLen at hc2
  by_cases h1 : 1048576 < lc.length
  · go_enter Tryz.func10, Tryz.ntmps10
    go_wp2
    go_ret
    exact ⟨rfl, by (repeat (first | with_reducible exact Up.refl _ | with_reducible assumption | with_reducible refine Up.set ?_ (by first | exact Nat.le_refl _ | (simp only []; omega) | (simp; omega)) _ | with_reducible refine Up.alloc ?_ _ | with_reducible refine Up.drew ?_ | refine Up.trans ?_ (by with_reducible assumption)))⟩
  go_enter Tryz.func10, Tryz.ntmps10
  go_wp2_with (go_at_call 44; (with_reducible refine (cD _ (by (repeat (first | with_reducible exact Up.refl _ | with_reducible assumption | with_reducible refine Up.set ?_ (by first | exact Nat.le_refl _ | (simp only []; omega) | (simp; omega)) _ | with_reducible refine Up.alloc ?_ _ | with_reducible refine Up.drew ?_ | refine Up.trans ?_ (by with_reducible assumption))))).mono ?_); rintro e w1 ⟨s, dict, d, n, rfl, hs, hdi, hd, hn, U1⟩; simp only [setV]; have B1 := bcell U1; have Z1 := U1.size; (try simp at Z1); (try rw [Nat.add_one_le_iff] at Z1))
  have cI := fun wx => blockOfI_any s dict n d wx hs (by omega) (by omega)
  have cS := fun wx => blockOfS_any s dict n d wx (by omega) (by omega)
  unfold blkO at cI cS
  clear cD
  cases hb : blkOk s dict.data.toList n d.size
  · rw [hb] at cI cS
    simp only [setV, blkV, Bool.false_eq_true, if_false] at *
    clear hb
    go_wp2_with (first | ((go_at_call 45; (with_reducible refine (cI _).mono ?_); rintro e w2 ⟨rfl, U2⟩; have B2 := bcell U2; have Z2 := U2.size; (try simp at Z2); (try rw [Nat.add_one_le_iff] at Z2)); (try have V2a : w1.heap.size < w2.heap.size := (by omega)); (try have V2b : w1.heap.size + 1 < w2.heap.size := (by omega)); (try have V2c : w2.heap.size < w2.heap.size := (by omega)); (try have V2d : w3.heap.size < w2.heap.size := (by omega)); (try have V2e : w4.heap.size < w2.heap.size := (by omega)); skip) | ((go_at_call 46; (with_reducible refine (cS _).mono ?_); rintro e w3 ⟨rfl, U3⟩; have B3 := bcell U3; have Z3 := U3.size; (try simp at Z3); (try rw [Nat.add_one_le_iff] at Z3)); (try have V3a : w1.heap.size < w3.heap.size := (by omega)); (try have V3b : w1.heap.size + 1 < w3.heap.size := (by omega)); (try have V3c : w2.heap.size < w3.heap.size := (by omega)); (try have V3d : w3.heap.size < w3.heap.size := (by omega)); (try have V3e : w4.heap.size < w3.heap.size := (by omega)); skip))
    go_ret
    refine ⟨ret_bool (by simp; try rfl), ?_⟩
    (repeat (first | with_reducible exact Up.refl _ | with_reducible assumption | with_reducible refine Up.set ?_ (by first | exact Nat.le_refl _ | (simp only []; omega) | (simp; omega)) _ | with_reducible refine Up.alloc ?_ _ | with_reducible refine Up.drew ?_ | refine Up.trans ?_ (by with_reducible assumption)))
  · obtain ⟨p1, p2, p3, p4, p5, p6⟩ := blk_facts hb
    have hfit : fitsB s dict.data.toList = true := by
      unfold blkOk at hb
      rw [Bool.and_eq_true] at hb
      exact hb.1
    rw [hb] at cI cS
    simp only [if_true] at cI cS
    have hT := text_size (blockD s dict.data.toList n d).num (blockD s dict.data.toList n d).raw (blockD s dict.data.toList n d).size (blockD s dict.data.toList n d).body
    have cB := fun wx => bDataI_any s dict (blockD s dict.data.toList n d) wx hs (by omega) (by omega)
    have cF := fun wx => fmtI_any (blockD s dict.data.toList n d).num (blockD s dict.data.toList n d).raw (blockD s dict.data.toList n d).size (blockD s dict.data.toList n d).body wx (by omega)
    have HB : bdatO s dict.data.toList (blockD s dict.data.toList n d) = some d.data.toList := by
      unfold bdatO datOk
      rw [hfit, p3]
      exact p4
    rw [HB] at cB
    unfold fmtB at cF
    rw [p3] at cF
    simp only [if_true] at cF
    clear hb p3 p4 HB hfit
    generalize blockD s dict.data.toList n d = b at *
    obtain ⟨bn, br, bz, bb⟩ := b
    simp only at p1 p2 p5 p6 hT cB cF
    subst p1 p2
    generalize textB bn br (d.size : Int) bb = T at *
    unfold optS at cB
    simp only [setV, blkV, Option.getD_some, Option.isSome_some, bs_self] at *
    by_cases he : bb.size = d.size
    · have hbr : br = true := by rw [p6]; simpa using he
      subst hbr
      clear p6 p5
      go_wp2_with (first | ((go_at_call 45; (with_reducible refine (cI _).mono ?_); rintro e w2 ⟨rfl, U2⟩; have B2 := bcell U2; have Z2 := U2.size; (try simp at Z2); (try rw [Nat.add_one_le_iff] at Z2)); (try have V2a : w1.heap.size < w2.heap.size := (by omega)); (try have V2b : w1.heap.size + 1 < w2.heap.size := (by omega)); (try have V2c : w2.heap.size < w2.heap.size := (by omega)); (try have V2d : w3.heap.size < w2.heap.size := (by omega)); (try have V2e : w4.heap.size < w2.heap.size := (by omega)); skip) | ((go_at_call 46; (with_reducible refine (cS _).mono ?_); rintro e w3 ⟨rfl, U3⟩; have B3 := bcell U3; have Z3 := U3.size; (try simp at Z3); (try rw [Nat.add_one_le_iff] at Z3)); (try have V3a : w1.heap.size < w3.heap.size := (by omega)); (try have V3b : w1.heap.size + 1 < w3.heap.size := (by omega)); (try have V3c : w2.heap.size < w3.heap.size := (by omega)); (try have V3d : w3.heap.size < w3.heap.size := (by omega)); (try have V3e : w4.heap.size < w3.heap.size := (by omega)); skip) | ((go_at_call 47; (with_reducible refine (cB _).mono ?_); rintro e w4 ⟨rfl, U4⟩; have B4 := bcell U4; have Z4 := U4.size; (try simp at Z4); (try rw [Nat.add_one_le_iff] at Z4)); (try have V4a : w1.heap.size < w4.heap.size := (by omega)); (try have V4b : w1.heap.size + 1 < w4.heap.size := (by omega)); (try have V4c : w2.heap.size < w4.heap.size := (by omega)); (try have V4d : w3.heap.size < w4.heap.size := (by omega)); (try have V4e : w4.heap.size < w4.heap.size := (by omega)); skip) | ((go_at_call 48; (with_reducible refine (cF _).mono ?_); rintro e w5 ⟨rfl, U5⟩; have B5 := bcell U5; have Z5 := U5.size; (try simp at Z5); (try rw [Nat.add_one_le_iff] at Z5)); (try have V5a : w1.heap.size < w5.heap.size := (by omega)); (try have V5b : w1.heap.size + 1 < w5.heap.size := (by omega)); (try have V5c : w2.heap.size < w5.heap.size := (by omega)); (try have V5d : w3.heap.size < w5.heap.size := (by omega)); (try have V5e : w4.heap.size < w5.heap.size := (by omega)); skip))
      go_ret
      refine ⟨ret_bool (by simp; try omega), ?_⟩
      (repeat (first | with_reducible exact Up.refl _ | with_reducible assumption | with_reducible refine Up.set ?_ (by first | exact Nat.le_refl _ | (simp only []; omega) | (simp; omega)) _ | with_reducible refine Up.alloc ?_ _ | with_reducible refine Up.drew ?_ | refine Up.trans ?_ (by with_reducible assumption)))
    · have hbr : br = false := by rw [p6]; simpa using he
      subst hbr
      have hne : ((bb.size : Int) == (d.size : Int)) = false := by simp; omega
      clear p6 he
      go_wp2_with (first | ((go_at_call 45; (with_reducible refine (cI _).mono ?_); rintro e w2 ⟨rfl, U2⟩; have B2 := bcell U2; have Z2 := U2.size; (try simp at Z2); (try rw [Nat.add_one_le_iff] at Z2)); (try have V2a : w1.heap.size < w2.heap.size := (by omega)); (try have V2b : w1.heap.size + 1 < w2.heap.size := (by omega)); (try have V2c : w2.heap.size < w2.heap.size := (by omega)); (try have V2d : w3.heap.size < w2.heap.size := (by omega)); (try have V2e : w4.heap.size < w2.heap.size := (by omega)); skip) | ((go_at_call 46; (with_reducible refine (cS _).mono ?_); rintro e w3 ⟨rfl, U3⟩; have B3 := bcell U3; have Z3 := U3.size; (try simp at Z3); (try rw [Nat.add_one_le_iff] at Z3)); (try have V3a : w1.heap.size < w3.heap.size := (by omega)); (try have V3b : w1.heap.size + 1 < w3.heap.size := (by omega)); (try have V3c : w2.heap.size < w3.heap.size := (by omega)); (try have V3d : w3.heap.size < w3.heap.size := (by omega)); (try have V3e : w4.heap.size < w3.heap.size := (by omega)); skip) | ((go_at_call 47; (with_reducible refine (cB _).mono ?_); rintro e w4 ⟨rfl, U4⟩; have B4 := bcell U4; have Z4 := U4.size; (try simp at Z4); (try rw [Nat.add_one_le_iff] at Z4)); (try have V4a : w1.heap.size < w4.heap.size := (by omega)); (try have V4b : w1.heap.size + 1 < w4.heap.size := (by omega)); (try have V4c : w2.heap.size < w4.heap.size := (by omega)); (try have V4d : w3.heap.size < w4.heap.size := (by omega)); (try have V4e : w4.heap.size < w4.heap.size := (by omega)); skip) | ((go_at_call 48; (with_reducible refine (cF _).mono ?_); rintro e w5 ⟨rfl, U5⟩; have B5 := bcell U5; have Z5 := U5.size; (try simp at Z5); (try rw [Nat.add_one_le_iff] at Z5)); (try have V5a : w1.heap.size < w5.heap.size := (by omega)); (try have V5b : w1.heap.size + 1 < w5.heap.size := (by omega)); (try have V5c : w2.heap.size < w5.heap.size := (by omega)); (try have V5d : w3.heap.size < w5.heap.size := (by omega)); (try have V5e : w4.heap.size < w5.heap.size := (by omega)); skip))
      go_ret
      refine ⟨ret_bool (by simp; try omega), ?_⟩
      (repeat (first | with_reducible exact Up.refl _ | with_reducible assumption | with_reducible refine Up.set ?_ (by first | exact Nat.le_refl _ | (simp only []; omega) | (simp; omega)) _ | with_reducible refine Up.alloc ?_ _ | with_reducible refine Up.drew ?_ | refine Up.trans ?_ (by with_reducible assumption)))

set_option maxRecDepth 100000 in
theorem lifted (os : Os) (started : os.Started) (H : Type) (enc : TypeId × Value → H) :
    ReturnsInHanded {} Tryz.checked os 10 .any (Rows.fnBlockDataSpec.pre6 enc Tryz.prog Tryz.f10 Rows.fnBlockDataRow.domain false) (Rows.fnBlockDataSpec.post enc Tryz.prog Tryz.f10 false true false false) := by
  refine returnsInHanded_of_change (C := Tryz.checked) own started (by kernel_rfl) Tryz.func10
    (ChangeSpec.witness6 (enc := enc) (C := Tryz.checked) false ⟨#[], #[.slice none 0 0], []⟩ 8 (by kernel_rfl) (by kernel_rfl) (by kernel_rfl) (by kernel_rfl)) ?_
  intro W base args ds gs before hval0 hW hcnd _
  have hval : ∀ (j : Nat) t v, Tryz.f10.params[j]? = some t → args[j]? = some v → Value.okWide Tryz.prog W .any base t v := hval0
  have hW' := hW
  obtain ⟨p, q, hA0, hV, rfl, hfz, hnd⟩ := hW
  have hA : DataW.TrodAll enc Tryz.prog W 0 (fun _ => true) true Tryz.f10.params.toList args.toList ds p := hA0
  rw [Tryz.params10] at hA hval
  obtain ⟨v0, d0, rfl, rfl, h0⟩ := trodAll_one hA
  obtain ⟨p0, rfl⟩ : ∃ x, x = p := ⟨_, rfl⟩
  obtain ⟨a0, n0, c0, rfl⟩ := okWide_slice Tryz.underlying38 (hval 0 38 v0 rfl rfl)
  have hlt0 : ∀ x ∈ p0, x.block < W.heap.size := fun x hx => by simpa using hW'.lt x (by simp [hx])
  obtain ⟨fuel0, hf0⟩ := h0
  obtain ⟨lcode, hcode⟩ := open_argU (by simpa [Value.cells] using hf0) hlt0
  obtain ⟨rfl, rfl⟩ := trodVars_none hV
  refine (walk _ _ W hcode).mono fun e W' ⟨he, hu⟩ => ?_
  subst he
  exact ⟨_, rfl, post_law (f := Tryz.f10) TryzlaidOut (by kernel_rfl) rfl Tryz.underlying4 rfl hW' (fun ds' h => by subst h; exact ⟨rfl, rfl, rfl⟩) hu⟩

set_option maxHeartbeats 80000000 in
theorem closed : joinedFacts Tryz.checked.prog 10 Tryz.f10 Rows.fnBlockDataSpec Rows.fnBlockDataRow = true := by
  unfold joinedFacts
  repeat' (with_reducible refine (Bool.and_eq_true_iff.2 ⟨?_, ?_⟩))
  all_goals (as_aux_lemma => kernel_rfl)

theorem holds : Rows.FnBlockDataSaid :=
  OpenClaim.holds_of_wide 10 Tryz.f10 rfl rfl rfl rfl rfl rfl rfl ⟨rfl, rfl, rfl, rfl, rfl⟩ rfl rfl rfl rfl rfl (by as_aux_lemma => kernel_rfl) Tryz.func10 closed
    (of_decide_eq_true (by as_aux_lemma => kernel_rfl)) (by unfold Func.isWrapper; first | (rw [if_pos (by decide +kernel)]; kernel_rfl) | (rw [if_neg (by decide +kernel)]; exact ⟨rfl, rfl⟩))
    (fun os started H enc _ => lifted os started H enc)

end Go.Proofs.YtekbbnkkninolaaGreat.lawFnBlockData
