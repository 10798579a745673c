/- The program's ParseIndex returns what the reference's returns, for every text. Conditions: none. -/
import Derived.Test.YtiiahjnfbhcgmaaDoorPi2
import Derived.Test.YtiiahjnfbhcgmaaDoorLay
import Derived.Test.YtiiahjnfbhcgmaaDoorMarks
import Derived.Test.YtiiahjnfbhcgmaaDoorEnds
import Derived.ProofKit
import Derived.OpenShut
import Derived.Stop.Joined
namespace Go.Proofs.YtiiahjnfbhcgmaaDoor.lawFnExactParseIndex
set_option linter.unusedVariables false
set_option linter.unusedSimpArgs false
open Go Go.ChangeShapes Go.WideShapes Go.ChangeAt Go.RowKit Go.Joins
open Go.ChangeMaps (open_string shut_string)

theorem lt_ne {w w' : World} {b1 b2 : Nat} {e1 e2 : TypeId} {s1 s2 n1 n2 : Nat} {v1 v2 : Value} {x1 x2 : List Value} (h1 : w.ownsRow b1 e1 s1 v1 n1 x1) (h2 : w'.ownsRow b2 e2 s2 v2 n2 x2) (hb : w.heap.size ≤ b2) : v1.ownBlock = none ∨ v1.ownBlock ≠ v2.ownBlock := by
  cases hv : v1.ownBlock with
  | none => exact .inl rfl
  | some k => exact .inr fun e => by have := (h1.lt k hv).2; have := (h2.lt k e.symm).1; omega
theorem prsIx_le (t : List UInt8) : ((prsIx t).getD []).length ≤ 40 := by
  cases h : prsIx t with
  | none => simp
  | some ps => exact (validP_range (fmtIx_prs h).2).1

set_option maxRecDepth 100000 in
set_option maxHeartbeats 2000000 in
theorem walk (s : ByteArray) (w : World) (hL : Lay w) (hs : s.size ≤ 9223372036854775807) :
    Calls Tryd.prog 6  #[.string s] w (Same (.bool true) w) := by
  by_cases h : 1048576 < s.size
  · go_enter Tryd.func6, Tryd.ntmps6
    go_wp2
    go_ret
    exact ⟨rfl, by (repeat (first | with_reducible exact Up.refl _ | with_reducible assumption | with_reducible refine Up.set ?_ (by first | exact Nat.le_refl _ | (simp only []; omega) | (simp; omega)) _ | with_reducible refine Up.alloc ?_ _ | with_reducible refine Up.drew ?_ | refine Up.trans ?_ (by with_reducible assumption)))⟩
  · have hle : s.data.toList.length ≤ 1048576 := by have := ba_len s; omega
    have cS := fun w => pixS_any s.data.toList w hle
    have cI := fun wx (hx : Up w wx) => pixI_any s.data.toList wx (hL.up hx) hle
    rw [bs_self] at cS cI
    have hl := prsIx_le s.data.toList
    unfold PixPost at cS cI
    clear hle
    generalize (prsIx s.data.toList).isSome = ok at *
    generalize (prsIx s.data.toList).getD [] = l at *
    go_enter Tryd.func6, Tryd.ntmps6
    go_wp2_with fail
    (with_reducible refine (cS _).mono ?_); rintro e w1 ⟨v0, rfl, h0, U1⟩
    go_wp2_with fail
    (with_reducible refine (cI _ U1).mono ?_); rintro e w2 ⟨g0, rfl, hg0, U2⟩
    go_wp2_with fail
    (with_reducible refine (eqPlaceS_any l _ _ _ _ _ hg0 (ownsRow_up h0 U2)).mono ?_); rintro e w3 ⟨rfl, U3⟩
    go_wp2_with fail
    (with_reducible refine (markPS_any l _ _ _ _ (by omega) (by omega) (by omega) (ownsRow_up hg0 U3)).mono ?_); rintro e w4 ⟨rfl, hg4, G4⟩
    have h4 := (ownsRow_up (ownsRow_up h0 U2) U3).kept G4 (lt_ne h0 hg0 (Nat.le_refl _))
    have U4 : Up w w4 := ((U1.trans U2).trans U3).grown G4 (fun k hk => Nat.le_trans U1.size (hg0.lt k hk).1)
    go_wp2_with fail
    (with_reducible refine (heldPS_any _ _ _ _ _ (by omega) (by omega) (by omega) hg4).mono ?_); rintro e w5 ⟨rfl, U5⟩
    go_wp2_with fail
    (with_reducible refine (cI _ (U4.trans U5)).mono ?_); rintro e w6 ⟨j0, rfl, hj0, U6⟩
    go_wp2_with fail
    (with_reducible refine (eqPlaceS_any l _ _ _ _ _ hj0 (ownsRow_up (ownsRow_up h4 U5) U6)).mono ?_); rintro e w7 ⟨rfl, U7⟩
    go_wp2_with fail
    (with_reducible refine (heldPS_any _ _ _ _ _ (by omega) (by omega) (by omega) (ownsRow_up (ownsRow_up (ownsRow_up hg4 U5) U6) U7)).mono ?_); rintro e w8 ⟨rfl, U8⟩
    go_wp2
    go_ret
    exact ⟨rfl, (((U4.trans U5).trans U6).trans U7).trans U8⟩

set_option maxRecDepth 100000 in
theorem lifted (os : Os) (started : os.Started) (H : Type) (enc : TypeId × Value → H) :
    ReturnsInHanded {} Tryd.checked os 6 .any (fun w args => (Rows.fnExactParseIndexSpec.pre enc Tryd.prog Tryd.f6 [] false w args ∧ laidMetH Tryd.prog laid7 w) ∧ sizedMet enc Tryd.prog Tryd.f6 (OpenSpec.ofChange Rows.fnExactParseIndexSpec) false w args) (Rows.fnExactParseIndexSpec.post enc Tryd.prog Tryd.f6 false true false false) := by
  refine handed_shaped (C := Tryd.checked) (X := fun w _ => laidMetH Tryd.prog laid7 w) (fun _ _ _ hh h => h.of_heap hh) own started (by kernel_rfl) Tryd.func6
    (ChangeSpec.witness_shaped (enc := enc) (C := Tryd.checked) (os := os) (X := fun w _ => laidMetH Tryd.prog laid7 w) false (doorW7 os) #[.string ByteArray.empty] 8 (door_os7 os) (door_shapedC7 os _) (by kernel_rfl) (by kernel_rfl) (by kernel_rfl) (door_met7 os _)) ?_
  intro W base args ds gs before hval0 hW _ _ hL hSh
  have hT := lay_of_laid7 hL hSh
  have hval : ∀ (j : Nat) t v, Tryd.f6.params[j]? = some t → args[j]? = some v → Value.okWide Tryd.prog W .any base t v := hval0
  have hW' := hW
  obtain ⟨p, q, hA0, hV, rfl, hfz, hnd⟩ := hW
  have hA : DataW.TrodAll enc Tryd.prog W 0 (fun _ => true) true Tryd.f6.params.toList args.toList ds p := hA0
  rw [Tryd.params6] at hA hval
  obtain ⟨v0, d0, rfl, rfl, h0⟩ := trodAll_one hA
  obtain ⟨s, rfl, rfl, rfl, hs⟩ := open_string Tryd.underlying9 (hval 0 9 v0 rfl rfl) h0
  obtain ⟨rfl, rfl⟩ := trodVars_none hV
  refine (walk s W hT (by unfold maxLen at hs; omega)).mono fun e W' ⟨he, hu⟩ => ?_
  subst he
  exact ⟨_, rfl, post_law (f := Tryd.f6) TrydlaidOut (by kernel_rfl) rfl Tryd.underlying4 rfl hW' (fun ds' h => by subst h; exact ⟨rfl, rfl, rfl⟩) hu⟩

set_option maxHeartbeats 80000000 in
theorem closed : joinedFacts Tryd.checked.prog 6 Tryd.f6 Rows.fnExactParseIndexSpec Rows.fnExactParseIndexRow = true := by
  unfold joinedFacts
  repeat' (with_reducible refine (Bool.and_eq_true_iff.2 ⟨?_, ?_⟩))
  all_goals (as_aux_lemma => kernel_rfl)

theorem holds : Rows.FnExactParseIndexSaid :=
  OpenClaim.holds_of_wide 6 Tryd.f6 rfl rfl rfl rfl rfl rfl rfl ⟨rfl, rfl, rfl, rfl, rfl⟩ rfl rfl rfl rfl rfl (by as_aux_lemma => kernel_rfl) Tryd.func6 closed
    (of_decide_eq_true (by as_aux_lemma => kernel_rfl)) (by unfold Func.isWrapper; first | (rw [if_pos (by decide +kernel)]; kernel_rfl) | (rw [if_neg (by decide +kernel)]; exact ⟨rfl, rfl⟩))
    (fun os started H enc _ => lifted os started H enc)

theorem card_holds : Rows.FnExactParseIndexCardSaid :=
  Claim7.holds_tied_plain_at .later [] [.data, .data, .data, .data, .sentinel, .sentinel, .pinned] true (true, "ef99d20b69770f7f12fcad25f224973bc9b37faf167913b5c0314ac22bab7c6c") true
    holds (fun _ h => by cases h) (by kernel_rfl) (fun _ h => by cases h) fnExactParseIndex_row_tie rfl ⟨rfl, rfl⟩ (by kernel_rfl) rfl
    (fun f fn hf hfn => by
      obtain rfl : f = 6 := Option.some.inj ((show Tryd.prog.funcNamed "loop.example/soughtstreams/laws.FnExactParseIndex" = some 6 by kernel_rfl).symm.trans hf) |>.symm
      obtain rfl : fn = Tryd.f6 := (Option.some.inj (Tryd.func6.symm.trans hfn)).symm
      exact ⟨by kernel_rfl, fun j t ht => by
        rw [Tryd.params6] at ht
        have hm : t ∈ [9] := by simpa using Array.mem_of_getElem? ht
        have hall : ([9].all fun u => !Tryd.prog.wantsStandIn u) = true := by kernel_rfl
        exact (show Tryd.prog.wantsStandIn t = false by simpa using List.all_eq_true.1 hall t hm)⟩)
    (by kernel_rfl)

end Go.Proofs.YtiiahjnfbhcgmaaDoor.lawFnExactParseIndex
