/- Places are parsed from their text, and a text that is parsed is that of the parsed places. Conditions: none. -/
import Derived.Test.YtiiahjnfbhcgmaaGreatDoorEnds
import Derived.ProofKit
import Derived.OpenShut
import Derived.Stop.Joined
import Derived.Test.YtiiahjnfbhcgmaaGreatDoorMFnIndexTextLawA
import Derived.Test.YtiiahjnfbhcgmaaGreatDoorMFnIndexTextLawB
import Derived.Test.YtiiahjnfbhcgmaaGreatDoorMFnIndexTextLawC
import Derived.Test.YtiiahjnfbhcgmaaGreatDoorMFnIndexTextLawD
import Derived.Test.YtiiahjnfbhcgmaaGreatDoorMFnIndexTextLawE
import Derived.Test.YtiiahjnfbhcgmaaGreatDoorMFnIndexTextLawF
import Derived.Test.YtiiahjnfbhcgmaaGreatDoorMFnIndexTextLawG
namespace Go.Proofs.YtiiahjnfbhcgmaaGreatDoor.lawFnIndexText
set_option linter.unusedVariables false
set_option linter.unusedSimpArgs false
open Go Go.ChangeShapes Go.WideShapes Go.ChangeAt Go.RowKit Go.Joins
open Go.ChangeMaps (open_string shut_string)

theorem fmtN_ne {ps : List PlaceD} (hv : validP ps = true) : fmtIx ps ≠ [] := by
  unfold fmtIx someL
  rw [hv, if_pos rfl]
  split
  · simp
  · assumption
theorem prsN_le (t : List UInt8) : ((prsIx t).getD []).length ≤ 40 := by
  cases h : prsIx t with
  | none => simp
  | some ps => exact (validP_range (fmtIx_prs h).2).1

set_option maxRecDepth 100000 in
set_option maxHeartbeats 8000000 in
theorem walk (vc vm : Value) (lc lm : List UInt8) (w : World) (hL : Lay w) (hc : ArgU w vc lc) (hm : ArgU w vm lm) :
    Calls Tryz.prog 7  #[vc, vm] w (Same (.bool true) w) := by
  have cD := fun w' hu => drawFormatIndex_any vc lc w' (hc.up (w' := w') hu)
  have cE := fun w' hu => drawParseIndex_any vm lm w' (hm.up (w' := w') hu)
  have HL := Lib.hid hL
  clear hL
  obtain ⟨ac, cc, rfl, hc1, hc2, -⟩ := hc
  obtain ⟨am, cm, rfl, hm1, hm2, -⟩ := hm
  unfold maxLen at hc2 hm2
  by_cases h1 : 1048576 < lc.length
  · go_enter Tryz.func7, Tryz.ntmps7
    go_wp2
    go_ret
    exact ⟨rfl, by (repeat (first | with_reducible exact Up.refl _ | with_reducible assumption | with_reducible refine Up.set ?_ (by first | exact Nat.le_refl _ | (simp only []; omega) | (simp; omega)) _ | with_reducible refine Up.alloc ?_ _ | with_reducible refine Up.drew ?_ | refine Up.trans ?_ (by with_reducible assumption)))⟩
  by_cases h2 : 1048576 < lm.length
  · go_enter Tryz.func7, Tryz.ntmps7
    go_wp2
    go_ret
    exact ⟨rfl, by (repeat (first | with_reducible exact Up.refl _ | with_reducible assumption | with_reducible refine Up.set ?_ (by first | exact Nat.le_refl _ | (simp only []; omega) | (simp; omega)) _ | with_reducible refine Up.alloc ?_ _ | with_reducible refine Up.drew ?_ | refine Up.trans ?_ (by with_reducible assumption)))⟩
  go_enter Tryz.func7, Tryz.ntmps7
  go_wp2_with fail
  (with_reducible refine (cD _ (by (repeat (first | with_reducible exact Up.refl _ | with_reducible assumption | with_reducible refine Up.set ?_ (by first | exact Nat.le_refl _ | (simp only []; omega) | (simp; omega)) _ | with_reducible refine Up.alloc ?_ _ | with_reducible refine Up.drew ?_ | refine Up.trans ?_ (by with_reducible assumption))))).mono ?_); rintro e w1 ⟨u, ps, rfl, h40, ho1, U1⟩
  have HU1 := Lib.hid (show Up w w1 by (repeat (first | with_reducible exact Up.refl _ | with_reducible assumption | with_reducible refine Up.set ?_ (by first | exact Nat.le_refl _ | (simp only []; omega) | (simp; omega)) _ | with_reducible refine Up.alloc ?_ _ | with_reducible refine Up.drew ?_ | refine Up.trans ?_ (by with_reducible assumption))))
  clear cD U1
  obtain ⟨au, cu, rfl⟩ := ownsRow_shape ho1
  go_wp2_with fail
  (with_reducible refine (fixI_any ps _ _ _ (HL.out.up HU1.out).tab ho1 (by omega)).mono ?_); rintro e w2 ⟨rfl, U2⟩
  have ho2 := ownsRow_up ho1 U2
  have HU2 := Lib.hid (HU1.out.trans U2)
  clear HU1 U2 ho1
  go_wp2_with fail
  (with_reducible refine (fixS_any ps _ _ _ ho2 (by omega)).mono ?_); rintro e w3 ⟨rfl, U3⟩
  have ho3 := ownsRow_up ho2 U3
  have HU3 := Lib.hid (HU2.out.trans U3)
  clear HU2 U3 ho2
  have hfl := fmtIx_le ps
  have HP := fun wx (hx : Up w wx) => pixI_any (fmtIx ps) wx (HL.out.up hx) (by omega)
  have hPI : ∀ t : ByteArray, t.size ≤ 120001 → ∀ wx, Up w wx → Calls Tryz.prog 36  #[.string t] wx (PixPost t.data.toList wx) := fun t ht wx hx => by
    have := pixI_any t.data.toList wx (HL.out.up hx) (by have := ba_len t; omega)
    rw [bs_self] at this
    exact this
  have hPS : ∀ t : ByteArray, t.size ≤ 120001 → ∀ wx, Calls Tryz.prog 39  #[.string t] wx (PixPost t.data.toList wx) := fun t ht wx => by
    have := pixS_any t.data.toList wx (by have := ba_len t; omega)
    rw [bs_self] at this
    exact this
  have hREST : True := trivial
  cases hv : validP ps
  case' false =>
    have HE : (bs (fmtIx ps)).toList.isEmpty = true := by rw [show fmtIx ps = [] from by unfold fmtIx; rw [hv]; rfl, Lib.toList_data, bs_data]; rfl
    generalize bs (fmtIx ps) = F at *
    clear hv
    go_wp2_with fail
    obtain ⟨W, hW⟩ : ∃ W, Hid (W = w3) := ⟨_, rfl⟩
    rw [← hW.out]
    have HW : Hid (Up w W) := by rw [hW.out]; exact HU3.out
    clear HU3 hW HP HE ho3
  case' true =>
    have HE : (bs (fmtIx ps)).toList.isEmpty = false := by
      rw [Lib.toList_data, bs_data]
      cases he : fmtIx ps with
      | nil => exact absurd he (fmtN_ne hv)
      | cons _ _ => rfl
    unfold PixPost at HP
    rw [prsIx_fmt hv] at HP
    simp only [Option.isSome_some, Option.getD_some] at HP
    clear hv
    generalize bs (fmtIx ps) = F at *
    go_wp2_with fail
    (with_reducible refine (HP _ HU3.out).mono ?_); rintro e w4 ⟨v4, rfl, ho4, U4⟩
    have ho3 := ownsRow_up ho3 U4
    have HU4 := Lib.hid (HU3.out.trans U4)
    clear HU3 U4
    obtain ⟨a4, c4, rfl⟩ := ownsRow_shape ho4
    go_wp2_with fail
    (with_reducible refine (soPlaces_any ps _ _ _ _ _ ho4 ho3).mono ?_); rintro e w5 ⟨rfl, U5⟩
    have HU5 := Lib.hid (HU4.out.trans U5)
    clear HU4 U5 HP
    go_wp2_with fail
    obtain ⟨W, hW⟩ : ∃ W, Hid (W = w5) := ⟨_, rfl⟩
    rw [← hW.out]
    have HW : Hid (Up w W) := by rw [hW.out]; exact HU5.out
    clear HU5 hW HE ho3 ho4
  all_goals
    (with_reducible refine (cE _ HW.out).mono ?_); rintro e w6 ⟨T, rfl, hT, U6⟩
    have HU6 := Lib.hid (HW.out.trans U6)
    have cI := hPI T hT
    have cS := hPS T hT
    have hfx := fun q (h : prsIx T.data.toList = some q) => (fmtIx_prs h).1
    have hpl := prsN_le T.data.toList
    unfold PixPost at cI cS
    clear cE U6 HW hPI hPS hT
    cases hp : prsIx T.data.toList with
    | none =>
      rw [hp] at cI cS
      simp only [Option.isSome_none, Option.getD_none] at cI cS
      clear hfx hpl hp
      go_wp2_with fail
      (with_reducible refine (cI _ HU6.out).mono ?_); rintro e w7 ⟨v7, rfl, ho7, U7⟩
      have HU7 := Lib.hid (HU6.out.trans U7)
      clear HU6 U7
      go_wp2_with fail
      (with_reducible refine (cS _).mono ?_); rintro e w8 ⟨v8, rfl, ho8, U8⟩
      have ho7 := ownsRow_up ho7 U8
      have HU8 := Lib.hid (HU7.out.trans U8)
      clear HU7 U8
      go_wp2_with fail
      (with_reducible refine (soPlaces_any [] _ _ _ _ _ ho7 ho8).mono ?_); rintro e w9 ⟨rfl, U9⟩
      go_wp2
      go_ret
      exact ⟨rfl, HU8.out.trans U9⟩
    | some q =>
      rw [hp] at cI cS hpl
      simp only [Option.isSome_some, Option.getD_some] at cI cS hpl
      have hf : bs (fmtIx q) = T := by rw [hfx q hp, bs_self]
      clear hfx hp
      go_wp2_with fail
      (with_reducible refine (cI _ HU6.out).mono ?_); rintro e w7 ⟨v7, rfl, ho7, U7⟩
      have HU7 := Lib.hid (HU6.out.trans U7)
      clear HU6 U7
      obtain ⟨a7, c7, rfl⟩ := ownsRow_shape ho7
      go_wp2_with fail
      (with_reducible refine (cS _).mono ?_); rintro e w8 ⟨v8, rfl, ho8, U8⟩
      have ho7 := ownsRow_up ho7 U8
      have HU8 := Lib.hid (HU7.out.trans U8)
      clear HU7 U8
      go_wp2_with fail
      (with_reducible refine (soPlaces_any q _ _ _ _ _ ho7 ho8).mono ?_); rintro e w9 ⟨rfl, U9⟩
      have ho7 := ownsRow_up ho7 U9
      have HU9 := Lib.hid (HU8.out.trans U9)
      clear HU8 U9 ho8
      have cF := fixI_any q _ _ _ (HL.out.up HU9.out).tab ho7 (by omega)
      rw [hf] at cF
      go_wp2_with fail
      (with_reducible refine cF.mono ?_); rintro e w10 ⟨rfl, U10⟩
      go_wp2
      go_ret
      exact ⟨rfl, HU9.out.trans U10⟩

set_option maxRecDepth 100000 in
theorem lifted (os : Os) (started : os.Started) (H : Type) (enc : TypeId × Value → H) :
    ReturnsInHanded {} Tryz.checked os 7 .any (fun w args => (Rows.fnIndexTextSpec.pre enc Tryz.prog Tryz.f7 [] false w args ∧ laidMetH Tryz.prog laid7 w) ∧ sizedMet enc Tryz.prog Tryz.f7 (OpenSpec.ofChange Rows.fnIndexTextSpec) false w args) (Rows.fnIndexTextSpec.post enc Tryz.prog Tryz.f7 false true false false) := by
  refine handed_shaped (C := Tryz.checked) (X := fun w _ => laidMetH Tryz.prog laid7 w) (fun _ _ _ hh h => h.of_heap hh) own started (by kernel_rfl) Tryz.func7
    (ChangeSpec.witness_shaped (enc := enc) (C := Tryz.checked) (os := os) (X := fun w _ => laidMetH Tryz.prog laid7 w) false (doorW7 os) #[.slice none 0 0, .slice none 0 0] 8 (door_os7 os) (door_shapedC7 os _) (by kernel_rfl) (by kernel_rfl) (by kernel_rfl) (door_met7 os _)) ?_
  intro W base args ds gs before hval0 hW _ _ hL hSh
  have hT := lay_of_laid7 hL hSh
  have hval : ∀ (j : Nat) t v, Tryz.f7.params[j]? = some t → args[j]? = some v → Value.okWide Tryz.prog W .any base t v := hval0
  have hW' := hW
  obtain ⟨p, q, hA0, hV, rfl, hfz, hnd⟩ := hW
  have hA : DataW.TrodAll enc Tryz.prog W 0 (fun _ => true) true Tryz.f7.params.toList args.toList ds p := hA0
  rw [Tryz.params7] at hA hval
  obtain ⟨v0, v1, d0, d1, p0, p1, rfl, rfl, rfl, h0, h1⟩ := trodAll_two hA
  obtain ⟨a0, n0, c0, rfl⟩ := okWide_slice Tryz.underlying22 (hval 0 22 v0 rfl rfl)
  have hlt0 : ∀ x ∈ p0, x.block < W.heap.size := fun x hx => by simpa using hW'.lt x (by simp [hx])
  obtain ⟨fuel0, hf0⟩ := h0
  obtain ⟨lcode, hcode⟩ := open_argU (by simpa [Value.cells] using hf0) hlt0
  obtain ⟨a1, n1, c1, rfl⟩ := okWide_slice Tryz.underlying22 (hval 1 22 v1 rfl rfl)
  have hlt1 : ∀ x ∈ p1, x.block < W.heap.size := fun x hx => by simpa using hW'.lt x (by simp [hx])
  obtain ⟨fuel1, hf1⟩ := h1
  obtain ⟨lmore, hmore⟩ := open_argU (by simpa [Value.cells] using hf1) hlt1
  obtain ⟨rfl, rfl⟩ := trodVars_none hV
  refine (walk _ _ _ _ W hT hcode hmore).mono fun e W' ⟨he, hu⟩ => ?_
  subst he
  exact ⟨_, rfl, post_law (f := Tryz.f7) TryzlaidOut (by kernel_rfl) rfl Tryz.underlying4 rfl hW' (fun ds' h => by subst h; exact ⟨rfl, rfl, rfl⟩) hu⟩

set_option maxHeartbeats 80000000 in
theorem closed : joinedFacts Tryz.checked.prog 7 Tryz.f7 Rows.fnIndexTextSpec Rows.fnIndexTextRow = true := by
  unfold joinedFacts
  repeat' (with_reducible refine (Bool.and_eq_true_iff.2 ⟨?_, ?_⟩))
  all_goals (as_aux_lemma => kernel_rfl)

theorem holds : Rows.FnIndexTextSaid :=
  OpenClaim.holds_of_wide 7 Tryz.f7 rfl rfl rfl rfl rfl rfl rfl ⟨rfl, rfl, rfl, rfl, rfl⟩ rfl rfl rfl rfl rfl (by as_aux_lemma => kernel_rfl) Tryz.func7 closed
    (of_decide_eq_true (by as_aux_lemma => kernel_rfl)) (by unfold Func.isWrapper; first | (rw [if_pos (by decide +kernel)]; kernel_rfl) | (rw [if_neg (by decide +kernel)]; exact ⟨rfl, rfl⟩))
    (fun os started H enc _ => lifted os started H enc)

theorem card_holds : Rows.FnIndexTextCardSaid :=
  Claim7.holds_tied_plain_at .later [] [.data, .data, .data, .data, .sentinel, .sentinel, .pinned] true (true, "478920f4a72a524dc4cc4f24a4513b462bc1b1f17c2edef022a66e93fac02896") true
    holds (fun _ h => by cases h) (by kernel_rfl) (fun _ h => by cases h) fnIndexText_row_tie rfl ⟨rfl, rfl⟩ (by kernel_rfl) rfl
    (fun f fn hf hfn => by
      obtain rfl : f = 7 := Option.some.inj ((show Tryz.prog.funcNamed "loop.example/soughtstreams/laws.FnIndexText" = some 7 by kernel_rfl).symm.trans hf) |>.symm
      obtain rfl : fn = Tryz.f7 := (Option.some.inj (Tryz.func7.symm.trans hfn)).symm
      exact ⟨by kernel_rfl, fun j t ht => by
        rw [Tryz.params7] at ht
        have hm : t ∈ [22, 22] := by simpa using Array.mem_of_getElem? ht
        have hall : ([22, 22].all fun u => !Tryz.prog.wantsStandIn u) = true := by kernel_rfl
        exact (show Tryz.prog.wantsStandIn t = false by simpa using List.all_eq_true.1 hall t hm)⟩)
    (by kernel_rfl)

end Go.Proofs.YtiiahjnfbhcgmaaGreatDoor.lawFnIndexText
