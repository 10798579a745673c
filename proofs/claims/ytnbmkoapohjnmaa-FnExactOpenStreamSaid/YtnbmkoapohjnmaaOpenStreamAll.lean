/- The program's OpenStream returns what the reference's returns, for every setting, dictionaries and stream. Conditions: none. -/
import Derived.Lib.SmallJoins
import Derived.Test.YtnbmkoapohjnmaaOpenStreamAllA
namespace Go.Proofs.Ytnbmkoapohjnmaa.lawOpenStream
set_option linter.unusedVariables false
set_option linter.unusedSimpArgs false
open Go.ChangeShapes Go.WideShapes Go.ChangeAt Go.RowKit Go.Joins Go.Deep
open Go.ChangeMaps (open_string shut_string)

theorem openV_shape (o : Option (List UInt8 × Nat)) : ∃ a b c, openV o = .tuple #[.string a, .int .i64 b, .bool c] := by
  cases o with
  | none => exact ⟨_, _, _, rfl⟩
  | some p => exact ⟨_, _, _, rfl⟩

set_option maxRecDepth 100000 in
set_option maxHeartbeats 4000000 in
theorem walk (s : SetD) (ds : List ByteArray) (v : Value) (d : ByteArray) (w : World) (hli : -9223372036854775808 ≤ s.lit ∧ s.lit ≤ 9223372036854775807) (h : ArgS w v ds) (hd : d.size ≤ 9223372036854775807) :
    Calls Try.prog 6  #[.agg #[.int .i64 s.ord, .int .i64 s.lit, .int .i64 s.most], v, .string d] w (Same (.bool true) w) := by
  have cT := fun wx => toSet_any s.ord s.lit s.most wx
  have hat := h
  obtain ⟨a, cap, rfl, hm, hms, -⟩ := h
  by_cases g1 : 1048576 < d.size
  · go_enter Try.func6, Try.ntmps6
    go_wp2
    go_ret
    refine ⟨rfl, ?_⟩
    (repeat (first | with_reducible exact Up.refl _ | with_reducible assumption | with_reducible refine Up.set ?_ (by first | exact Nat.le_refl _ | (simp only []; omega) | (simp; omega)) _ | with_reducible refine Up.alloc ?_ _ | with_reducible refine Up.drew ?_ | refine Up.trans ?_ (by with_reducible assumption)))
  · go_enter Try.func6, Try.ntmps6
    go_wp2_with fail
    (with_reducible refine (szStr_any ds _ _ (hat.up (by (repeat (first | with_reducible exact Up.refl _ | with_reducible assumption | with_reducible refine Up.set ?_ (by first | exact Nat.le_refl _ | (simp only []; omega) | (simp; omega)) _ | with_reducible refine Up.alloc ?_ _ | with_reducible refine Up.drew ?_ | refine Up.trans ?_ (by with_reducible assumption)))))).mono ?_); rintro e w1 ⟨rfl, r, rfl, hr⟩
    by_cases hneg : r < 0
    · go_wp2
      go_ret
      refine ⟨rfl, ?_⟩
      (repeat (first | with_reducible exact Up.refl _ | with_reducible assumption | with_reducible refine Up.set ?_ (by first | exact Nat.le_refl _ | (simp only []; omega) | (simp; omega)) _ | with_reducible refine Up.alloc ?_ _ | with_reducible refine Up.drew ?_ | refine Up.trans ?_ (by with_reducible assumption)))
    · obtain ⟨hl, hs⟩ := hr (by omega)
      have hsm : ∀ t ∈ ds, t.size ≤ maxLen := fun t ht => by have := hs t ht; unfold maxLen; omega
      have cS := fun wx v hr => openS_any s ds v d wx hr hl hs (by omega)
      have cI := fun wx v hr => openI_any s ds v d wx hli hr hl hs (by omega)
      have cU := fun wx hr => toStr_any ds (.slice a ds.length cap) wx hr hl
      have cE := fun wx va vb ha hb => eqStr_any ds va vb wx ha hb
      have HA := Lib.hid hat
      have HS := Lib.hid hsm
      obtain ⟨o1, o2, o3, ho⟩ := openV_shape (openO s ds d)
      rw [ho] at cS cI
      clear ho
      clear hr hs hsm hat hms
      simp only [setV] at *
      go_wp2_with fail
      (with_reducible refine (cT _).mono ?_); rintro e w2 ⟨rfl, U2⟩; have B2 := bcell U2; have Z2 := U2.size; simp at Z2; (try rw [Nat.add_one_le_iff] at Z2)
      go_wp2_with fail
      (with_reducible refine (cU _ (HA.out.up (by (repeat (first | with_reducible exact Up.refl _ | with_reducible assumption | with_reducible refine Up.set ?_ (by first | exact Nat.le_refl _ | (simp only []; omega) | (simp; omega)) _ | with_reducible refine Up.alloc ?_ _ | with_reducible refine Up.drew ?_ | refine Up.trans ?_ (by with_reducible assumption)))))).mono ?_); rintro e w3 ⟨u3, rfl, ho3, U3⟩; have B3 := bcell U3; have Z3 := U3.size; have Y3 : w.heap.size < w3.heap.size := (by omega); have HA3 := Lib.hid (ArgS.of_own ho3 HS.out); obtain ⟨a3, c3, rfl⟩ := ownsRow_shape ho3; clear ho3
      go_wp2_with fail
      (with_reducible refine (cS _ _ HA3.out).mono ?_); rintro e w4 ⟨rfl, U4⟩; have B4 := bcell U4; have Z4 := U4.size; have Y4 : w.heap.size < w4.heap.size := (by omega)
      go_wp2_with fail
      (with_reducible refine (cU _ (HA.out.up (by (repeat (first | with_reducible exact Up.refl _ | with_reducible assumption | with_reducible refine Up.set ?_ (by first | exact Nat.le_refl _ | (simp only []; omega) | (simp; omega)) _ | with_reducible refine Up.alloc ?_ _ | with_reducible refine Up.drew ?_ | refine Up.trans ?_ (by with_reducible assumption)))))).mono ?_); rintro e w5 ⟨u5, rfl, ho5, U5⟩; have B5 := bcell U5; have Z5 := U5.size; have Y5 : w.heap.size < w5.heap.size := (by omega); have HA5 := Lib.hid (ArgS.of_own ho5 HS.out); obtain ⟨a5, c5, rfl⟩ := ownsRow_shape ho5; clear ho5
      go_wp2_with fail
      (with_reducible refine (cT _).mono ?_); rintro e w6 ⟨rfl, U6⟩; have B6 := bcell U6; have Z6 := U6.size
      go_wp2_with fail
      (with_reducible refine (cI _ _ (HA5.out.up (by (repeat (first | with_reducible exact Up.refl _ | with_reducible assumption | with_reducible refine Up.set ?_ (by first | exact Nat.le_refl _ | (simp only []; omega) | (simp; omega)) _ | with_reducible refine Up.alloc ?_ _ | with_reducible refine Up.drew ?_ | refine Up.trans ?_ (by with_reducible assumption)))))).mono ?_); rintro e w7 ⟨rfl, U7⟩
      go_wp2_with fail
      (with_reducible refine (cU _ (HA.out.up (by (repeat (first | with_reducible exact Up.refl _ | with_reducible assumption | with_reducible refine Up.set ?_ (by first | exact Nat.le_refl _ | (simp only []; omega) | (simp; omega)) _ | with_reducible refine Up.alloc ?_ _ | with_reducible refine Up.drew ?_ | refine Up.trans ?_ (by with_reducible assumption)))))).mono ?_); rintro e w8 ⟨u8, rfl, ho8, U8⟩; have HA8 := Lib.hid (ArgS.of_own ho8 HS.out); obtain ⟨a8, c8, rfl⟩ := ownsRow_shape ho8; clear ho8
      go_wp2_with fail
      (with_reducible refine (cE _ _ _ (HA5.out.up (by (repeat (first | with_reducible exact Up.refl _ | with_reducible assumption | with_reducible refine Up.set ?_ (by first | exact Nat.le_refl _ | (simp only []; omega) | (simp; omega)) _ | with_reducible refine Up.alloc ?_ _ | with_reducible refine Up.drew ?_ | refine Up.trans ?_ (by with_reducible assumption))))) HA8.out).mono ?_); rintro e w9 ⟨rfl, U9⟩
      go_wp2
      go_ret
      refine ⟨rfl, ?_⟩
      (repeat (first | with_reducible exact Up.refl _ | with_reducible assumption | with_reducible refine Up.set ?_ (by first | exact Nat.le_refl _ | (simp only []; omega) | (simp; omega)) _ | with_reducible refine Up.alloc ?_ _ | with_reducible refine Up.drew ?_ | refine Up.trans ?_ (by with_reducible assumption)))

set_option maxRecDepth 100000 in
theorem lifted (os : Os) (started : os.Started) (H : Type) (enc : TypeId × Value → H) :
    ReturnsInHanded {} Try.checked os 6 .any (Rows.fnExactOpenStreamSpec.pre6 enc Try.prog Try.f6 Rows.fnExactOpenStreamRow.domain false) (Rows.fnExactOpenStreamSpec.post enc Try.prog Try.f6 false true false false) := by
  refine returnsInHanded_of_change (C := Try.checked) own started (by kernel_rfl) Try.func6
    (ChangeSpec.witness6 (enc := enc) (C := Try.checked) false ⟨#[], #[.agg #[.int .i64 0, .int .i64 0, .int .i64 0], .slice none 0 0, .string ByteArray.empty], []⟩ 8 (by kernel_rfl) (by kernel_rfl) (by kernel_rfl) (by kernel_rfl)) ?_
  intro W base args ds gs before hval0 hW hcnd _
  have hval : ∀ (j : Nat) t v, Try.f6.params[j]? = some t → args[j]? = some v → Value.okWide Try.prog W .any base t v := hval0
  have hW' := hW
  obtain ⟨p, q, hA0, hV, rfl, hfz, hnd⟩ := hW
  have hA : DataW.TrodAll enc Try.prog W 0 (fun _ => true) true Try.f6.params.toList args.toList ds p := hA0
  rw [Try.params6] at hA hval
  obtain ⟨v0, v1, v2, d0, d1, d2, p0, p1, p2, rfl, rfl, rfl, h0, h1, h2⟩ := trodAll_three hA
  obtain ⟨s00, s01, s02, y00, y01, y02, m0, rfl, rfl, rfl, t00, t01, t02⟩ := open_agg3 Try.underlying23 (by kernel_rfl) (by kernel_rfl) (hval 0 23 v0 rfl rfl) h0
  obtain ⟨ao, c00, z00, -⟩ := DataW.trod_int Try.underlying3 t00
  obtain ⟨al, c01, z01, g0⟩ := DataW.trod_int Try.underlying3 t01
  obtain ⟨am, c02, z02, -⟩ := DataW.trod_int Try.underlying3 t02
  simp only [List.cons.injEq, and_true] at c00 c01 c02
  subst c00; subst z00
  subst c01; subst z01
  subst c02; subst z02
  have ha : -9223372036854775808 ≤ al ∧ al ≤ 9223372036854775807 := by simpa [Lit.wf, IntKind.min, IntKind.max, IntKind.signed, IntKind.bits] using g0
  obtain ⟨a1, n1, c1, rfl⟩ := okWide_slice Try.underlying40 (hval 1 40 v1 rfl rfl)
  have hlt1 : ∀ x ∈ p1, x.block < W.heap.size := fun x hx => by simpa using hW'.lt x (by simp [hx])
  obtain ⟨fuel1, hf1⟩ := h1
  obtain ⟨lb, hb⟩ := open_argS (by simpa [Value.cells] using hf1) hlt1
  obtain ⟨s, rfl, rfl, rfl, hs⟩ := open_string Try.underlying9 (hval 2 9 v2 rfl rfl) h2
  obtain ⟨rfl, rfl⟩ := trodVars_none hV
  refine (walk ⟨ao, al, am⟩ lb _ s W ha hb (by unfold maxLen at hs; exact hs)).mono fun e W' ⟨he, hu⟩ => ?_
  subst he
  exact ⟨_, rfl, post_law (f := Try.f6) TrylaidOut (by kernel_rfl) rfl Try.underlying4 rfl hW' (fun ds' h => by subst h; exact ⟨rfl, rfl, rfl⟩) hu⟩

theorem holds : Rows.FnExactOpenStreamSaid :=
  OpenClaim.holds_of_wide 6 Try.f6 rfl rfl rfl rfl rfl rfl rfl ⟨rfl, rfl, rfl, rfl, rfl⟩ rfl rfl rfl rfl rfl (by kernel_rfl) Try.func6 (by kernel_rfl)
    (of_decide_eq_true (by kernel_rfl)) (by unfold Func.isWrapper; first | (rw [if_pos (by decide +kernel)]; kernel_rfl) | (rw [if_neg (by decide +kernel)]; exact ⟨rfl, rfl⟩))
    (fun os started H enc _ => lifted os started H enc)

end Go.Proofs.Ytnbmkoapohjnmaa.lawOpenStream
