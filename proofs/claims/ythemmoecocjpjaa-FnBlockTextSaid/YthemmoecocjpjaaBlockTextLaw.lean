/- A block is parsed from its bytes, whatever is before and behind them, and not without the last one. Conditions: none. -/
import Derived.Test.YthemmoecocjpjaaArgs
import Derived.Test.YthemmoecocjpjaaTextPlain
namespace Go.Proofs.Ythemmoecocjpjaa.lawBlockText
set_option linter.unusedVariables false
set_option linter.unusedSimpArgs false
open Go.ChangeShapes Go.WideShapes Go.ChangeAt Go.RowKit Go.Joins
open Go.ChangeMaps (open_string shut_string)

set_option maxRecDepth 100000 in
set_option maxHeartbeats 8000000 in
theorem walk (vc vm : Value) (lc lm : List UInt8) (w : World) (hc : ArgU w vc lc) (hm : ArgU w vm lm) :
    Calls Try.prog 4  #[vc, vm] w (Same (.bool true) w) := by
  have cD := fun w' hu => drawFormatBlock_any vc lc w' (hc.up (w' := w') hu)
  obtain ⟨ac, cc, rfl, hc1, hc2, -⟩ := hc
  obtain ⟨am, cm, rfl, hm1, hm2, -⟩ := hm
  unfold maxLen at hc2 hm2
  by_cases h1 : 1048576 < lc.length
  · go_enter Try.func4, Try.ntmps4
    go_wp2
    go_ret
    exact ⟨rfl, by (repeat (first | with_reducible exact Up.refl _ | with_reducible assumption | with_reducible refine Up.set ?_ (by first | exact Nat.le_refl _ | (simp only []; omega) | (simp; omega)) _ | with_reducible refine Up.alloc ?_ _ | with_reducible refine Up.drew ?_ | refine Up.trans ?_ (by with_reducible assumption)))⟩
  by_cases h2 : 1048576 < lm.length
  · go_enter Try.func4, Try.ntmps4
    go_wp2
    go_ret
    exact ⟨rfl, by (repeat (first | with_reducible exact Up.refl _ | with_reducible assumption | with_reducible refine Up.set ?_ (by first | exact Nat.le_refl _ | (simp only []; omega) | (simp; omega)) _ | with_reducible refine Up.alloc ?_ _ | with_reducible refine Up.drew ?_ | refine Up.trans ?_ (by with_reducible assumption)))⟩
  go_enter Try.func4, Try.ntmps4
  go_wp2_with (go_at_call 14; (with_reducible refine (cD _ (by (repeat (first | with_reducible exact Up.refl _ | with_reducible assumption | with_reducible refine Up.set ?_ (by first | exact Nat.le_refl _ | (simp only []; omega) | (simp; omega)) _ | with_reducible refine Up.alloc ?_ _ | with_reducible refine Up.drew ?_ | refine Up.trans ?_ (by with_reducible assumption))))).mono ?_); rintro e w1 ⟨vq, rfl, ⟨⟨n, r, s, b⟩, rfl, hb⟩, U1⟩; simp only [blkV])
  have cI := fun w => fmtI_any n r s b w (by omega)
  have cS := fun w => fmtS_any n r s b w (by omega)
  unfold fmtB at cI cS
  cases hf : formB n r s b
  · rw [hf] at cI cS
    simp only [Bool.false_eq_true, if_false] at cI cS
    clear hf
    go_wp2_with (first | (go_at_call 15; (with_reducible refine (cI _).mono ?_); rintro e w2 ⟨rfl, U2⟩; have B2 := bcell U2; have Z2 := U2.size; (try simp at Z2); (try rw [Nat.add_one_le_iff] at Z2)) | (go_at_call 16; (with_reducible refine (cS _).mono ?_); rintro e w3 ⟨rfl, U3⟩; have B3 := bcell U3; have Z3 := U3.size; (try simp at Z3); (try rw [Nat.add_one_le_iff] at Z3)))
    go_ret
    exact ⟨rfl, by (repeat (first | with_reducible exact Up.refl _ | with_reducible assumption | with_reducible refine Up.set ?_ (by first | exact Nat.le_refl _ | (simp only []; omega) | (simp; omega)) _ | with_reducible refine Up.alloc ?_ _ | with_reducible refine Up.drew ?_ | refine Up.trans ?_ (by with_reducible assumption)))⟩
  · rw [hf] at cI cS
    simp only [if_true] at cI cS
    have hT := text_size n r s b
    have hp := fun A C => parse_text hf A C
    have hs := parse_short hf
    obtain ⟨-, -, hb3⟩ := formB_bd hf
    clear hf
    generalize textB n r s b = T at *
    have hT1 : 10 ≤ T.size := by omega
    have hT2 : T.size ≤ 74 := by omega
    clear hT
    have hq : ((T.size : Int) - 1) = ((T.size - 1 : Nat) : Int) := by omega
    have cM := fun S w (hs : S.size = 1) => soMany_one S (lm.length % 7) ((lm.length : Int) % 7) (by omega) w (by omega) hs
    have cP1 := fun (A : ByteArray) (hA : A.size ≤ 6) w => by
      have := parseI_any (A ++ T ++ A) (A.size : Nat) w (by rw [size3]; omega)
      rw [hp A A] at this
      exact this
    have cP2 := fun w => parseI_any (T.extract 0 (T.size - 1)) 0 w (by have := ext_le T 0 (T.size - 1); omega)
    rw [hs] at cP2
    unfold noBlock at cP2
    clear hp hs
    have hc1 := conv_new1
    have X0 : w1.heap.size < w1.heap.size + 1 := by omega
    go_wp2_with (first | ((go_at_call 15; (with_reducible refine (cI _).mono ?_); rintro e w2 ⟨rfl, U2⟩; have B2 := bcell U2; have Z2 := U2.size; (try simp at Z2); (try rw [Nat.add_one_le_iff] at Z2)); have Y2 : w1.heap.size < w2.heap.size := (by omega); have X2 : w1.heap.size < w2.heap.size + 1 := (by omega)) | ((go_at_call 16; (with_reducible refine (cS _).mono ?_); rintro e w3 ⟨rfl, U3⟩; have B3 := bcell U3; have Z3 := U3.size; (try simp at Z3); (try rw [Nat.add_one_le_iff] at Z3)); have Y3 : w1.heap.size < w3.heap.size := (by omega); have X3 : w1.heap.size < w3.heap.size + 1 := (by omega)) | (go_at_call 18; (with_reducible refine (cM _ _ (strOfNums_size _)).mono ?_); rintro e w' ⟨A, rfl, hA, rfl⟩; have hA6 : A.size ≤ 6 := (by omega); clear hA) | ((go_at_call 17; (with_reducible refine (cP1 A hA6 _).mono ?_); rintro e w4 ⟨rfl, U4⟩; have B4 := bcell U4; have Z4 := U4.size; (try simp at Z4); (try rw [Nat.add_one_le_iff] at Z4)); have Y4 : w1.heap.size < w4.heap.size := (by omega); have X4 : w1.heap.size < w4.heap.size + 1 := (by omega)) | ((go_at_call 17; (with_reducible refine (cP2 _).mono ?_); rintro e w5 ⟨rfl, U5⟩; have B5 := bcell U5; have Z5 := U5.size; (try simp at Z5); (try rw [Nat.add_one_le_iff] at Z5)); have Y5 : w1.heap.size < w5.heap.size := (by omega); have X5 : w1.heap.size < w5.heap.size + 1 := (by omega)))
    go_ret
    refine ⟨ret_bool (by simp), ?_⟩
    (repeat (first | with_reducible exact Up.refl _ | with_reducible assumption | with_reducible refine Up.set ?_ (by first | exact Nat.le_refl _ | (simp only []; omega) | (simp; omega)) _ | with_reducible refine Up.alloc ?_ _ | with_reducible refine Up.drew ?_ | refine Up.trans ?_ (by with_reducible assumption)))

set_option maxRecDepth 100000 in
theorem lifted (os : Os) (started : os.Started) (H : Type) (enc : TypeId × Value → H) :
    ReturnsInHanded {} Try.checked os 4 .any (Rows.fnBlockTextSpec.pre6 enc Try.prog Try.f4 Rows.fnBlockTextRow.domain false) (Rows.fnBlockTextSpec.post enc Try.prog Try.f4 false true false false) := by
  refine returnsInHanded_of_change (C := Try.checked) own started (by kernel_rfl) Try.func4
    (ChangeSpec.witness6 (enc := enc) (C := Try.checked) false ⟨#[], #[.slice none 0 0, .slice none 0 0], []⟩ 8 (by kernel_rfl) (by kernel_rfl) (by kernel_rfl) (by kernel_rfl)) ?_
  intro W base args ds gs before hval0 hW hcnd _
  have hval : ∀ (j : Nat) t v, Try.f4.params[j]? = some t → args[j]? = some v → Value.okWide Try.prog W .any base t v := hval0
  have hW' := hW
  obtain ⟨p, q, hA0, hV, rfl, hfz, hnd⟩ := hW
  have hA : DataW.TrodAll enc Try.prog W 0 (fun _ => true) true Try.f4.params.toList args.toList ds p := hA0
  rw [Try.params4] at hA hval
  obtain ⟨v0, v1, d0, d1, p0, p1, rfl, rfl, rfl, h0, h1⟩ := trodAll_two hA
  obtain ⟨a0, n0, c0, rfl⟩ := okWide_slice Try.underlying22 (hval 0 22 v0 rfl rfl)
  have hlt0 : ∀ x ∈ p0, x.block < W.heap.size := fun x hx => by simpa using hW'.lt x (by simp [hx])
  obtain ⟨fuel0, hf0⟩ := h0
  obtain ⟨lcode, hcode⟩ := open_argU (by simpa [Value.cells] using hf0) hlt0
  obtain ⟨a1, n1, c1, rfl⟩ := okWide_slice Try.underlying22 (hval 1 22 v1 rfl rfl)
  have hlt1 : ∀ x ∈ p1, x.block < W.heap.size := fun x hx => by simpa using hW'.lt x (by simp [hx])
  obtain ⟨fuel1, hf1⟩ := h1
  obtain ⟨lmore, hmore⟩ := open_argU (by simpa [Value.cells] using hf1) hlt1
  obtain ⟨rfl, rfl⟩ := trodVars_none hV
  refine (walk _ _ _ _ W hcode hmore).mono fun e W' ⟨he, hu⟩ => ?_
  subst he
  exact ⟨_, rfl, post_law (f := Try.f4) TrylaidOut (by kernel_rfl) rfl Try.underlying4 rfl hW' (fun ds' h => by subst h; exact ⟨rfl, rfl, rfl⟩) hu⟩

theorem holds : Rows.FnBlockTextSaid :=
  OpenClaim.holds_of_wide 4 Try.f4 rfl rfl rfl rfl rfl rfl rfl ⟨rfl, rfl, rfl, rfl, rfl⟩ rfl rfl rfl rfl rfl (by kernel_rfl) Try.func4 (by kernel_rfl)
    (of_decide_eq_true (by kernel_rfl)) (by unfold Func.isWrapper; first | (rw [if_pos (by decide +kernel)]; kernel_rfl) | (rw [if_neg (by decide +kernel)]; exact ⟨rfl, rfl⟩))
    (fun os started H enc _ => lifted os started H enc)

end Go.Proofs.Ythemmoecocjpjaa.lawBlockText
