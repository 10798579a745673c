/- The program's IndexOf returns what the reference's returns, for every string. Conditions: none. -/
import Derived.Test.YtaneilegnmnfpaaIndex
import Derived.Test.YtaneilegnmnfpaaLaw
namespace Go.Proofs.Ytaneilegnmnfpaa.lawIndexOf
set_option linter.unusedVariables false
set_option linter.unusedSimpArgs false
open Go.ChangeShapes Go.WideShapes Go.ChangeAt Go.RowKit Go.Joins
open Go.ChangeMaps (open_string shut_string)

theorem lt_ne {w w' : World} {b1 b2 : Nat} {e1 e2 : TypeId} {s1 s2 n1 n2 : Nat} {v1 v2 : Value} {x1 x2 : List Value} (h1 : w.ownsRow b1 e1 s1 v1 n1 x1) (h2 : w'.ownsRow b2 e2 s2 v2 n2 x2) (hb : w.heap.size ≤ b2) : v1.ownBlock = none ∨ v1.ownBlock ≠ v2.ownBlock := by
  cases hv : v1.ownBlock with
  | none => exact .inl rfl
  | some k => exact .inr fun e => by have := (h1.lt k hv).2; have := (h2.lt k e.symm).1; omega

set_option maxRecDepth 100000 in
set_option maxHeartbeats 2000000 in
theorem walk (s : ByteArray) (w : World) (hs : s.size ≤ 9223372036854775807) :
    Calls Try.prog 10 #[.string s] w (Same (.bool true) w) := by
  by_cases h : 1048576 < s.size
  · go_enter Try.func10, Try.ntmps10
    go_wp2
    go_ret
    refine ⟨rfl, ?_⟩
    (repeat (first | exact Up.refl _ | refine Up.alloc ?_ _ | refine Up.drew ?_ | refine Up.set ?_ (by first | exact Nat.le_refl _ | (simp; done) | (simp; omega)) _ | refine Up.trans ?_ (by with_reducible assumption)))
  · have cS := fun w => indexS_any s w (by omega)
    have cI := fun w => indexI_any s w (by omega)
    have hl : (placesK ((contBlocks s).getD []) ((contBlocks s).getD []).length).length ≤ 40 := by
      rw [placesK_length]
      cases hc : contBlocks s with
      | none => simp
      | some l => exact (contBlocks_ok hc).1
    unfold IndexPost at cS cI
    generalize (contBlocks s).isSome = ok at *
    generalize placesK ((contBlocks s).getD []) ((contBlocks s).getD []).length = l at *
    go_enter Try.func10, Try.ntmps10
    go_wp2_with fail
    (with_reducible refine (cS _).mono ?_); rintro e w1 ⟨v0, rfl, h0, U1⟩
    go_wp2_with fail
    (with_reducible refine (cI _).mono ?_); rintro e w2 ⟨g0, rfl, hg0, U2⟩
    go_wp2_with fail
    (with_reducible refine (eqPlaceS_any l _ _ _ _ _ hg0 (ownsRow_up h0 U2)).mono ?_); rintro e w3 ⟨rfl, U3⟩
    go_wp2_with fail
    (with_reducible refine (markPS_any l _ _ _ _ (by omega) (by omega) (by omega) (ownsRow_up hg0 U3)).mono ?_); rintro e w4 ⟨rfl, hg4, G4⟩
    have h4 := (ownsRow_up (ownsRow_up h0 U2) U3).kept G4 (lt_ne h0 hg0 (Nat.le_refl _))
    have U4 : Up w w4 := ((U1.trans U2).trans U3).grown G4 (fun k hk => Nat.le_trans U1.size (hg0.lt k hk).1)
    go_wp2_with fail
    (with_reducible refine (heldPS_any _ _ _ _ _ (by omega) (by omega) (by omega) hg4).mono ?_); rintro e w5 ⟨rfl, U5⟩
    go_wp2_with fail
    (with_reducible refine (cI _).mono ?_); rintro e w6 ⟨j0, rfl, hj0, U6⟩
    go_wp2_with fail
    (with_reducible refine (eqPlaceS_any l _ _ _ _ _ hj0 (ownsRow_up (ownsRow_up h4 U5) U6)).mono ?_); rintro e w7 ⟨rfl, U7⟩
    go_wp2_with fail
    (with_reducible refine (heldPS_any _ _ _ _ _ (by omega) (by omega) (by omega) (ownsRow_up (ownsRow_up (ownsRow_up hg4 U5) U6) U7)).mono ?_); rintro e w8 ⟨rfl, U8⟩
    go_wp2
    go_ret
    exact ⟨rfl, (((U4.trans U5).trans U6).trans U7).trans U8⟩

set_option maxRecDepth 100000 in
theorem lifted (os : Os) (started : os.Started) (H : Type) (enc : TypeId × Value → H) :
    ReturnsInHanded {} Try.checked os 10 .any (Rows.fnExactIndexOfSpec.pre6 enc Try.prog Try.f10 Rows.fnExactIndexOfRow.domain false) (Rows.fnExactIndexOfSpec.post enc Try.prog Try.f10 false true false false) := by
  refine returnsInHanded_of_change (C := Try.checked) own started (by kernel_rfl) Try.func10
    (ChangeSpec.witness6 (enc := enc) (C := Try.checked) false ⟨#[], #[.string ByteArray.empty], []⟩ 8 (by kernel_rfl) (by kernel_rfl) (by kernel_rfl) (by kernel_rfl)) ?_
  intro W base args ds gs before hval0 hW hcnd _
  have hval : ∀ (j : Nat) t v, Try.f10.params[j]? = some t → args[j]? = some v → Value.okWide Try.prog W .any base t v := hval0
  have hW' := hW
  obtain ⟨p, q, hA0, hV, rfl, hfz, hnd⟩ := hW
  have hA : DataW.TrodAll enc Try.prog W 0 (fun _ => true) true Try.f10.params.toList args.toList ds p := hA0
  rw [Try.params10] at hA hval
  obtain ⟨v0, d0, rfl, rfl, h0⟩ := trodAll_one hA
  obtain ⟨s, rfl, rfl, rfl, hs⟩ := open_string Try.underlying9 (hval 0 9 v0 rfl rfl) h0
  obtain ⟨rfl, rfl⟩ := trodVars_none hV
  refine (walk s W (by unfold maxLen at hs; omega)).mono fun e W' ⟨he, hu⟩ => ?_
  subst he
  exact ⟨_, rfl, post_law (f := Try.f10) TrylaidOut (by kernel_rfl) rfl Try.underlying4 rfl hW' (fun ds' h => by subst h; exact ⟨rfl, rfl, rfl⟩) hu⟩

theorem holds : Rows.FnExactIndexOfSaid :=
  OpenClaim.holds_of_wide 10 Try.f10 rfl rfl rfl rfl rfl rfl rfl ⟨rfl, rfl, rfl, rfl, rfl⟩ rfl rfl rfl rfl rfl (by kernel_rfl) Try.func10 (by kernel_rfl)
    (of_decide_eq_true (by kernel_rfl)) (by unfold Func.isWrapper; first | (rw [if_pos (by decide +kernel)]; kernel_rfl) | (rw [if_neg (by decide +kernel)]; exact ⟨rfl, rfl⟩))
    (fun os started H enc _ => lifted os started H enc)

end Go.Proofs.Ytaneilegnmnfpaa.lawIndexOf
