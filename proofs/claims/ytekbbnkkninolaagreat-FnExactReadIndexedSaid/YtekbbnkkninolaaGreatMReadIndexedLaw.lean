/- The program's ReadIndexed returns what the reference's returns, for all arguments. Conditions: none. -/
import Derived.Deep.SlicePairs
import Derived.Test.YtekbbnkkninolaaGreatMReadIndexedLawA
namespace Go.Proofs.YtekbbnkkninolaaGreat.lawReadIndexed
set_option linter.unusedVariables false
set_option linter.unusedSimpArgs false
open Go.ChangeShapes Go.WideShapes Go.ChangeAt Go.RowKit Go.Joins Go.Deep
open Go.ChangeMaps (open_string shut_string)

theorem optS_shape (o : Option (List UInt8)) : ∃ a b, optS o = .tuple #[.string a, .bool b] := ⟨_, _, rfl⟩

set_option maxRecDepth 100000 in
set_option maxHeartbeats 4000000 in
theorem walk (s : SetD) (dict st : ByteArray) (ps : List PlaceD) (v : Value) (f t : Int) (w : World) (h : ArgP w v ps) (hl : -9223372036854775808 ≤ s.lit ∧ s.lit ≤ 9223372036854775807) (h1 : dict.size ≤ 9223372036854775807) (h2 : st.size ≤ 9223372036854775807) :
    Calls Tryz.prog 5  #[.agg #[.int .i64 s.ord, .int .i64 s.lit, .int .i64 s.most], .string dict, .string st, v, .int .i64 f, .int .i64 t] w (Same (.bool true) w) := by
  have cT := fun wx => toSet_any s.ord s.lit s.most wx
  by_cases g1 : 1048576 < dict.size
  · go_enter Tryz.func5, Tryz.ntmps5
    go_wp2
    go_ret
    refine ⟨rfl, ?_⟩
    (repeat (first | with_reducible exact Up.refl _ | with_reducible assumption | with_reducible refine Up.set ?_ (by first | exact Nat.le_refl _ | (simp only []; omega) | (simp; omega)) _ | with_reducible refine Up.alloc ?_ _ | with_reducible refine Up.drew ?_ | refine Up.trans ?_ (by with_reducible assumption)))
  by_cases g2 : 1048576 < st.size
  · go_enter Tryz.func5, Tryz.ntmps5
    go_wp2
    go_ret
    refine ⟨rfl, ?_⟩
    (repeat (first | with_reducible exact Up.refl _ | with_reducible assumption | with_reducible refine Up.set ?_ (by first | exact Nat.le_refl _ | (simp only []; omega) | (simp; omega)) _ | with_reducible refine Up.alloc ?_ _ | with_reducible refine Up.drew ?_ | refine Up.trans ?_ (by with_reducible assumption)))
  have cZ := fun wx (hu : Up w wx) => szPlaceS_any ps v wx (h.up hu)
  by_cases hl : (1048576 : Int) < ps.length
  · rw [if_pos hl] at cZ
    go_enter Tryz.func5, Tryz.ntmps5
    go_wp2_with fail
    (with_reducible refine (cZ _ (by (repeat (first | with_reducible exact Up.refl _ | with_reducible assumption | with_reducible refine Up.set ?_ (by first | exact Nat.le_refl _ | (simp only []; omega) | (simp; omega)) _ | with_reducible refine Up.alloc ?_ _ | with_reducible refine Up.drew ?_ | refine Up.trans ?_ (by with_reducible assumption))))).mono ?_); rintro e w1 ⟨rfl, rfl⟩
    go_wp2
    go_ret
    refine ⟨rfl, ?_⟩
    (repeat (first | with_reducible exact Up.refl _ | with_reducible assumption | with_reducible refine Up.set ?_ (by first | exact Nat.le_refl _ | (simp only []; omega) | (simp; omega)) _ | with_reducible refine Up.alloc ?_ _ | with_reducible refine Up.drew ?_ | refine Up.trans ?_ (by with_reducible assumption)))
  · rw [if_neg hl] at cZ
    have hl' : ps.length ≤ 1048576 := by omega
    have cS := fun u b wx ho => idxS_any s dict st ps u b f t wx (by omega) (by omega) ho hl'
    have cI := fun u b wx ho => idxI_any s dict st ps u b f t wx (by assumption) (by omega) (by omega) ho hl'
    have cP := fun wx (hu : Up w wx) => toPlaceS_any ps v wx (h.up hu) hl'
    obtain ⟨a, b, hab⟩ := optS_shape (idxO (dataO s dict.data.toList) (fitsB s dict.data.toList) st ps f t)
    rw [hab] at cS cI
    clear hab
    simp only [setV] at *
    go_enter Tryz.func5, Tryz.ntmps5
    go_wp2_with fail
    (with_reducible refine (cZ _ (by (repeat (first | with_reducible exact Up.refl _ | with_reducible assumption | with_reducible refine Up.set ?_ (by first | exact Nat.le_refl _ | (simp only []; omega) | (simp; omega)) _ | with_reducible refine Up.alloc ?_ _ | with_reducible refine Up.drew ?_ | refine Up.trans ?_ (by with_reducible assumption))))).mono ?_); rintro e w1 ⟨rfl, rfl⟩
    go_wp2_with fail
    (with_reducible refine (cT _).mono ?_); rintro e w1 ⟨rfl, U1⟩; have B1 := bcell U1; have Z1 := U1.size; simp at Z1; (try rw [Nat.add_one_le_iff] at Z1)
    go_wp2_with fail
    (with_reducible refine (cP _ (by (repeat (first | with_reducible exact Up.refl _ | with_reducible assumption | with_reducible refine Up.set ?_ (by first | exact Nat.le_refl _ | (simp only []; omega) | (simp; omega)) _ | with_reducible refine Up.alloc ?_ _ | with_reducible refine Up.drew ?_ | refine Up.trans ?_ (by with_reducible assumption))))).mono ?_); rintro e w2 ⟨u2, rfl, h2, U2⟩; have B2 := bcell U2; have Z2 := U2.size; have Y2 : w.heap.size < w2.heap.size := (by omega)
    go_wp2_with fail
    (with_reducible refine (cS _ _ _ h2).mono ?_); rintro e w3 ⟨rfl, U3⟩; have B3 := bcell U3; have Z3 := U3.size; have Y3 : w.heap.size < w3.heap.size := (by omega)
    go_wp2_with fail
    (with_reducible refine (cP _ (by (repeat (first | with_reducible exact Up.refl _ | with_reducible assumption | with_reducible refine Up.set ?_ (by first | exact Nat.le_refl _ | (simp only []; omega) | (simp; omega)) _ | with_reducible refine Up.alloc ?_ _ | with_reducible refine Up.drew ?_ | refine Up.trans ?_ (by with_reducible assumption))))).mono ?_); rintro e w4 ⟨u4, rfl, h4, U4⟩; have B4 := bcell U4; have Z4 := U4.size
    have Y4 : w.heap.size < w4.heap.size := by omega
    go_wp2_with fail
    (with_reducible refine (cT _).mono ?_); rintro e w5 ⟨rfl, U5⟩
    go_wp2_with fail
    (with_reducible refine (cI _ _ _ (ownsRow_up h4 U5)).mono ?_); rintro e w6 ⟨rfl, U6⟩
    go_wp2_with fail
    (with_reducible refine (cP _ (by (repeat (first | with_reducible exact Up.refl _ | with_reducible assumption | with_reducible refine Up.set ?_ (by first | exact Nat.le_refl _ | (simp only []; omega) | (simp; omega)) _ | with_reducible refine Up.alloc ?_ _ | with_reducible refine Up.drew ?_ | refine Up.trans ?_ (by with_reducible assumption))))).mono ?_); rintro e w7 ⟨u7, rfl, h7, U7⟩
    go_wp2_with fail
    (with_reducible refine (eqPlaceS_any ps _ _ _ _ _ (ownsRow_up (ownsRow_up (ownsRow_up h4 U5) U6) U7) h7).mono ?_); rintro e w8 ⟨rfl, U8⟩
    go_wp2
    go_ret
    refine ⟨rfl, ?_⟩
    (repeat (first | with_reducible exact Up.refl _ | with_reducible assumption | with_reducible refine Up.set ?_ (by first | exact Nat.le_refl _ | (simp only []; omega) | (simp; omega)) _ | with_reducible refine Up.alloc ?_ _ | with_reducible refine Up.drew ?_ | refine Up.trans ?_ (by with_reducible assumption)))


set_option maxRecDepth 100000 in
theorem lifted (os : Os) (started : os.Started) (H : Type) (enc : TypeId × Value → H) :
    ReturnsInHanded {} Tryz.checked os 5 .any (Rows.fnExactReadIndexedSpec.pre6 enc Tryz.prog Tryz.f5 Rows.fnExactReadIndexedRow.domain false) (Rows.fnExactReadIndexedSpec.post enc Tryz.prog Tryz.f5 false true false false) := by
  refine returnsInHanded_of_change (C := Tryz.checked) own started (by kernel_rfl) Tryz.func5
    (ChangeSpec.witness6 (enc := enc) (C := Tryz.checked) false ⟨#[], #[.agg #[.int .i64 0, .int .i64 0, .int .i64 0], .string ByteArray.empty, .string ByteArray.empty, .slice none 0 0, .int .i64 0, .int .i64 0], []⟩ 8 (by kernel_rfl) (by kernel_rfl) (by kernel_rfl) (by kernel_rfl)) ?_
  intro W base args ds gs before hval0 hW hcnd _
  have hval : ∀ (j : Nat) t v, Tryz.f5.params[j]? = some t → args[j]? = some v → Value.okWide Tryz.prog W .any base t v := hval0
  have hW' := hW
  obtain ⟨p, q, hA0, hV, rfl, hfz, hnd⟩ := hW
  have hA : DataW.TrodAll enc Tryz.prog W 0 (fun _ => true) true Tryz.f5.params.toList args.toList ds p := hA0
  rw [Tryz.params5] at hA hval
  obtain ⟨v0, v1, v2, v3, v4, v5, d0, d1, d2, d3, d4, d5, p0, p1, p2, p3, p4, p5, rfl, rfl, rfl, h0, h1, h2, h3, h4, h5⟩ := trodAll_six hA
  obtain ⟨s00, s01, s02, y00, y01, y02, m0, rfl, rfl, rfl, t00, t01, t02⟩ := open_agg3 Tryz.underlying23 (by kernel_rfl) (by kernel_rfl) (hval 0 23 v0 rfl rfl) h0
  obtain ⟨ao, c00, z00, -⟩ := DataW.trod_int Tryz.underlying3 t00
  obtain ⟨al, c01, z01, g0⟩ := DataW.trod_int Tryz.underlying3 t01
  obtain ⟨am, c02, z02, -⟩ := DataW.trod_int Tryz.underlying3 t02
  simp only [List.cons.injEq, and_true] at c00 c01 c02
  subst c00; subst z00
  subst c01; subst z01
  subst c02; subst z02
  have ha : -9223372036854775808 ≤ al ∧ al ≤ 9223372036854775807 := by simpa [Lit.wf, IntKind.min, IntKind.max, IntKind.signed, IntKind.bits] using g0
  obtain ⟨s, rfl, rfl, rfl, hs⟩ := open_string Tryz.underlying9 (hval 1 9 v1 rfl rfl) h1
  obtain ⟨t, rfl, rfl, rfl, ht⟩ := open_string Tryz.underlying9 (hval 2 9 v2 rfl rfl) h2
  obtain ⟨a3, n3, c3, rfl⟩ := okWide_slice Tryz.underlying31 (hval 3 31 v3 rfl rfl)
  have hlt3 : ∀ x ∈ p3, x.block < W.heap.size := fun x hx => by simpa using hW'.lt x (by simp [hx])
  obtain ⟨fuel3, hf3⟩ := h3
  obtain ⟨ll, hl⟩ := open_argP (by simpa [Value.cells] using hf3) hlt3
  obtain ⟨m, rfl, rfl, rfl, wm⟩ := open_int Tryz.underlying3 (hval 4 3 v4 rfl rfl) h4
  obtain ⟨n, rfl, rfl, rfl, wn⟩ := open_int Tryz.underlying3 (hval 5 3 v5 rfl rfl) h5
  obtain ⟨rfl, rfl⟩ := trodVars_none hV
  refine (walk ⟨ao, al, am⟩ s t ll _ m n W hl ha (by unfold maxLen at hs; exact hs) (by unfold maxLen at ht; exact ht)).mono fun e W' ⟨he, hu⟩ => ?_
  subst he
  exact ⟨_, rfl, post_law (f := Tryz.f5) TryzlaidOut (by kernel_rfl) rfl Tryz.underlying4 rfl hW' (fun ds' h => by subst h; exact ⟨rfl, rfl, rfl⟩) hu⟩

set_option maxHeartbeats 80000000 in
theorem closed : joinedFacts Tryz.checked.prog 5 Tryz.f5 Rows.fnExactReadIndexedSpec Rows.fnExactReadIndexedRow = true := by
  unfold joinedFacts
  repeat' (with_reducible refine (Bool.and_eq_true_iff.2 ⟨?_, ?_⟩))
  all_goals (as_aux_lemma => kernel_rfl)

theorem holds : Rows.FnExactReadIndexedSaid :=
  OpenClaim.holds_of_wide 5 Tryz.f5 rfl rfl rfl rfl rfl rfl rfl ⟨rfl, rfl, rfl, rfl, rfl⟩ rfl rfl rfl rfl rfl (by as_aux_lemma => kernel_rfl) Tryz.func5 closed
    (of_decide_eq_true (by as_aux_lemma => kernel_rfl)) (by unfold Func.isWrapper; first | (rw [if_pos (by decide +kernel)]; kernel_rfl) | (rw [if_neg (by decide +kernel)]; exact ⟨rfl, rfl⟩))
    (fun os started H enc _ => lifted os started H enc)

end Go.Proofs.YtekbbnkkninolaaGreat.lawReadIndexed
