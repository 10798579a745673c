/- The program's FormatBlock returns what the reference's returns, for every block. Conditions: none. -/
import Derived.Test.YtaneilegnmnfpaaBlk3
import Derived.Test.YtaneilegnmnfpaaLaw
namespace Go.Proofs.Ytaneilegnmnfpaa.lawFormatBlock
set_option linter.unusedVariables false
set_option linter.unusedSimpArgs false
open Go.ChangeShapes Go.WideShapes Go.ChangeAt Go.RowKit Go.Joins

theorem fmtB_str (n : Int) (r : Bool) (s : Int) (b : ByteArray) : ∃ t ok, fmtB n r s b = .tuple #[.string t, .bool ok] := by
  unfold fmtB; split <;> exact ⟨_, _, rfl⟩

set_option maxRecDepth 100000 in
set_option maxHeartbeats 1000000 in
theorem walk (n : Int) (r : Bool) (s : Int) (b : ByteArray) (w : World) (hb : b.size ≤ 9223372036854775807) :
    Calls Try.prog 3 #[.agg #[.int .i64 n, .bool r, .int .i64 s, .string b]] w (Same (.bool true) w) := by
  by_cases h : (1048576 : Int) < b.size
  · have e : Hid ((if (1048576 : Int) < b.size then (-1 : Int) else 1048576 - b.size) = -1) := if_pos h
    go_enter Try.func3, Try.ntmps3
    go_wp2_with (go_at_call 14; refine (szBlock_any _ _ _ _ _ _ hb (by omega) (by omega)).mono ?_; rintro e w1 ⟨rfl, U1⟩)
    go_ret
    exact ⟨rfl, ((Up.refl _).alloc _).trans U1⟩
  · obtain ⟨t, ok, ht⟩ := fmtB_str n r s b
    have ef : Hid (fmtB n r s b = .tuple #[.string t, .bool ok]) := ht
    clear ht
    cases ok
    all_goals
      have cS := fun w => fmtS_any n r s b w hb
      have cI := fun w => fmtI_any n r s b w hb
      rw [ef.out] at cS cI
      go_enter Try.func3, Try.ntmps3
      go_wp2_with (first | (go_at_call 14; refine (szBlock_any _ _ _ _ _ _ hb (by omega) (by omega)).mono ?_; rintro e w1 ⟨rfl, U1⟩; have B1 := bcell U1) | (go_at_call 16; refine (toBlock_any _ _ _ _ _).mono ?_; rintro e w2 ⟨rfl, U2⟩) | (go_at_call 15; refine (cS _).mono ?_; rintro e w3 ⟨rfl, U3⟩; have B3 := bcell (U1.trans (U2.trans U3))) | (go_at_call 17; refine (cI _).mono ?_; rintro e w4 ⟨rfl, U4⟩))
      go_ret
      refine ⟨rfl, ?_⟩
      (repeat (first | exact Up.refl _ | refine Up.alloc ?_ _ | refine Up.drew ?_ | refine Up.trans ?_ (by with_reducible assumption)))

theorem own : ownKnob Try.prog.godebug = none := by kernel_rfl

set_option maxRecDepth 100000 in
theorem lifted (os : Os) (started : os.Started) (H : Type) (enc : TypeId × Value → H) :
    ReturnsInHanded {} Try.checked os 3 .any (Rows.fnExactFormatBlockSpec.pre6 enc Try.prog Try.f3 Rows.fnExactFormatBlockRow.domain false) (Rows.fnExactFormatBlockSpec.post enc Try.prog Try.f3 false true false false) := by
  refine returnsInHanded_of_change (C := Try.checked) own started (by kernel_rfl) Try.func3
    (ChangeSpec.witness6 (enc := enc) (C := Try.checked) false ⟨#[], #[.agg #[.int .i64 0, .bool false, .int .i64 0, .string ByteArray.empty]], []⟩ 8 (by kernel_rfl) (by kernel_rfl) (by kernel_rfl) (by kernel_rfl)) ?_
  intro W base args ds gs before hval0 hW hcnd _
  have hval : ∀ (j : Nat) t v, Try.f3.params[j]? = some t → args[j]? = some v → Value.okWide Try.prog W .any base t v := hval0
  have hW' := hW
  obtain ⟨p, q, hA0, hV, rfl, hfz, hnd⟩ := hW
  have hA : DataW.TrodAll enc Try.prog W 0 (fun _ => true) true Try.f3.params.toList args.toList ds p := hA0
  rw [Try.params3] at hA hval
  obtain ⟨v0, d0, rfl, rfl, h0⟩ := trodAll_one hA
  obtain ⟨rfl, rfl⟩ := trodVars_none hV
  have hT := h0
  obtain ⟨c0, c1, c2, c3, y0, y1, y2, y3, m, rfl, rfl, rfl, hy0, hy1, hy2, hy3⟩ := open_agg4 Try.underlying23 (by kernel_rfl) (by kernel_rfl) (hval 0 23 v0 rfl rfl) h0
  obtain ⟨n, e0, rfl, wn⟩ := DataW.trod_int Try.underlying3 hy0
  obtain ⟨r, e1, rfl⟩ := DataW.trod_bool Try.underlying4 hy1
  obtain ⟨s, e2, rfl, ws⟩ := DataW.trod_int Try.underlying3 hy2
  obtain ⟨b, e3, rfl, hb⟩ := DataW.trod_string Try.underlying9 hy3
  simp at e0 e1 e2 e3
  subst e0 e1 e2 e3
  clear hA0 hval0
  simp only [List.append_nil] at hW'
  refine (walk n r s b W (by unfold maxLen at hb; omega)).mono fun e W' ⟨he, hu⟩ => ?_
  subst he
  exact ⟨_, rfl, post_law (f := Try.f3) (by kernel_rfl) (by kernel_rfl) rfl Try.underlying4 rfl hW' (fun ds' h => by subst h; exact ⟨rfl, rfl, rfl⟩) hu⟩

theorem holds : Rows.FnExactFormatBlockSaid :=
  OpenClaim.holds_of_wide 3 Try.f3 rfl rfl rfl rfl rfl rfl rfl ⟨rfl, rfl, rfl, rfl, rfl⟩ rfl rfl rfl rfl rfl (by kernel_rfl) Try.func3 (by kernel_rfl)
    (of_decide_eq_true (by kernel_rfl)) (by unfold Func.isWrapper; first | (rw [if_pos (by decide +kernel)]; kernel_rfl) | (rw [if_neg (by decide +kernel)]; exact ⟨rfl, rfl⟩))
    (fun os started H enc _ => lifted os started H enc)

end Go.Proofs.Ytaneilegnmnfpaa.lawFormatBlock
