/- The program's SeekBlock returns what the reference's returns, for every list of places and offset. Conditions: none. -/
import Derived.Test.YtaneilegnmnfpaaSeek5
import Derived.Test.YtaneilegnmnfpaaLaw
import Derived.Deep.SlicePairs
namespace Go.Proofs.Ytaneilegnmnfpaa.lawSeekBlock
set_option linter.unusedVariables false
set_option linter.unusedSimpArgs false
open Go.ChangeShapes Go.WideShapes Go.ChangeAt Go.RowKit Go.Joins Go.Deep
open Go.ChangeMaps (open_string shut_string)

set_option maxRecDepth 100000 in
set_option maxHeartbeats 2000000 in
theorem walk (ps : List PlaceD) (v : Value) (o : Int) (w : World) (h : ArgP w v ps) :
    Calls Try.prog 4 #[v, .int .i64 o] w (Same (.bool true) w) := by
  have cZ := szPlaceS_any ps v w h
  by_cases hl : (1048576 : Int) < ps.length
  · rw [if_pos hl] at cZ
    go_enter Try.func4, Try.ntmps4
    go_wp2_with fail
    (with_reducible refine cZ.mono ?_); rintro e w1 ⟨rfl, rfl⟩
    go_wp2
    go_ret
    exact ⟨rfl, Up.refl _⟩
  · rw [if_neg hl] at cZ
    have hl' : ps.length ≤ 1048576 := by omega
    go_enter Try.func4, Try.ntmps4
    go_wp2_with fail
    (with_reducible refine cZ.mono ?_); rintro e w1 ⟨rfl, rfl⟩
    go_wp2_with fail
    (with_reducible refine (toPlaceS_any ps v _ h hl').mono ?_); rintro e w2 ⟨u2, rfl, h2, U2⟩
    go_wp2_with fail
    (with_reducible refine (seekS_any ps u2 _ o _ h2 hl').mono ?_); rintro e w3 ⟨rfl, U3⟩
    go_wp2_with fail
    (with_reducible refine (toPlaceS_any ps v _ (h.up (U2.trans U3)) hl').mono ?_); rintro e w4 ⟨u4, rfl, h4, U4⟩
    go_wp2_with fail
    (with_reducible refine (seekI_any ps u4 _ o _ h4 hl').mono ?_); rintro e w5 ⟨rfl, U5⟩
    go_wp2_with fail
    (with_reducible refine (toPlaceS_any ps v _ (h.up (((U2.trans U3).trans U4).trans U5)) hl').mono ?_); rintro e w6 ⟨u6, rfl, h6, U6⟩
    go_wp2_with fail
    (with_reducible refine (eqPlaceS_any ps _ _ _ _ _ (ownsRow_up (ownsRow_up h4 U5) U6) h6).mono ?_); rintro e w7 ⟨rfl, U7⟩
    go_wp2
    go_ret
    exact ⟨rfl, ((((U2.trans U3).trans U4).trans U5).trans U6).trans U7⟩

theorem open_argP {H : Type} {enc : TypeId × Value → H} {W : World} {fuel : Nat} {a0 : Option Addr} {len cap : Nat} {d : DataW H} {p : List MemPlace}
    (h : DataW.trod enc Try.prog W 0 (fun _ => true) true fuel 30 [.slice a0 len cap] = some (d, p)) (hlt : ∀ x ∈ p, x.block < W.heap.size) : ∃ ps, ArgP W (.slice a0 len cap) ps := by
  rcases open_slice_pairs Try.underlying30 Try.underlying69 (by kernel_rfl) rfl rfl (by kernel_rfl) (by kernel_rfl) h with ⟨hc, hx⟩ | ⟨a, len', cap', m, k, V0, V1, D0, D1, P0, P1, hc, _, hl, hm, hmm, hx, hall⟩
  · simp only [List.cons.injEq, and_true] at hc
    cases hc
    exact ⟨[], none, 0, rfl, by simp, fun h => absurd h (Nat.lt_irrefl _)⟩
  · simp only [List.cons.injEq, and_true] at hc
    cases hc
    simp only [if_true] at hmm
    subst hmm
    simp only [Prod.mk.injEq] at hx
    obtain ⟨rfl, rfl⟩ := hx
    have hint : ∀ i, i < m → V0 i = .int .i64 (intOf (V0 i)) ∧ V1 i = .int .i64 (intOf (V1 i)) := fun i hi => by
      obtain ⟨-, -, t0, t1⟩ := hall i hi
      obtain ⟨n0, e0, -, -⟩ := DataW.trod_int Try.underlying3 t0
      obtain ⟨n1, e1, -, -⟩ := DataW.trod_int Try.underlying3 t1
      simp only [List.cons.injEq, and_true] at e0 e1
      rw [e0, e1]; exact ⟨rfl, rfl⟩
    have hlen : ((List.range len).map fun i => (⟨intOf (V0 i), intOf (V1 i)⟩ : PlaceD)).length = len := by simp
    refine ⟨(List.range len).map fun i => ⟨intOf (V0 i), intOf (V1 i)⟩, some a, m, by rw [hlen], by rw [hlen]; omega, fun hp => ?_⟩
    rw [hlen] at hp
    obtain ⟨b, off, spot⟩ := a
    have hspot : spot = none := by simpa [Addr.add] using World.cell?_spot (hall 0 (by omega)).1
    subst hspot
    refine ⟨b, off, rfl, by rw [hlen]; exact hl, hm, hlt (.cell b off) (List.mem_append_left _ (MemPlace.mem_row.2 ⟨0, by omega, by simp⟩)), fun i q hi => ?_⟩
    have hil : i < len := by
      have := (List.getElem?_eq_some_iff.1 hi).1
      rw [hlen] at this; exact this
    have hq : q = ⟨intOf (V0 i), intOf (V1 i)⟩ := by
      simp [hil] at hi; exact hi.symm
    subst hq
    obtain ⟨x0, x1, -, -⟩ := hall i (by omega)
    obtain ⟨y0, y1⟩ := hint i (by omega)
    rw [add_plain] at x0 x1
    exact ⟨x0.trans (congrArg some y0), (x1.trans (congrArg some y1))⟩

set_option maxRecDepth 100000 in
theorem lifted (os : Os) (started : os.Started) (H : Type) (enc : TypeId × Value → H) :
    ReturnsInHanded {} Try.checked os 4 .any (Rows.fnExactSeekBlockSpec.pre6 enc Try.prog Try.f4 Rows.fnExactSeekBlockRow.domain false) (Rows.fnExactSeekBlockSpec.post enc Try.prog Try.f4 false true false false) := by
  refine returnsInHanded_of_change (C := Try.checked) own started (by kernel_rfl) Try.func4
    (ChangeSpec.witness6 (enc := enc) (C := Try.checked) false ⟨#[], #[.slice none 0 0, .int .i64 0], []⟩ 8 (by kernel_rfl) (by kernel_rfl) (by kernel_rfl) (by kernel_rfl)) ?_
  intro W base args ds gs before hval0 hW hcnd _
  have hval : ∀ (j : Nat) t v, Try.f4.params[j]? = some t → args[j]? = some v → Value.okWide Try.prog W .any base t v := hval0
  have hW' := hW
  obtain ⟨p, q, hA0, hV, rfl, hfz, hnd⟩ := hW
  have hA : DataW.TrodAll enc Try.prog W 0 (fun _ => true) true Try.f4.params.toList args.toList ds p := hA0
  rw [Try.params4] at hA hval
  obtain ⟨v0, v1, d0, d1, p0, p1, rfl, rfl, rfl, h0, h1⟩ := trodAll_two hA
  obtain ⟨rfl, rfl⟩ := trodVars_none hV
  obtain ⟨o, rfl, rfl, rfl, wo⟩ := open_int Try.underlying3 (hval 1 3 v1 rfl rfl) h1
  obtain ⟨a0, len, cap, rfl⟩ := okWide_slice Try.underlying30 (hval 0 30 v0 rfl rfl)
  have hlt : ∀ x ∈ p0, x.block < W.heap.size := fun x hx => by simpa using hW'.lt x (by simp [hx])
  obtain ⟨fuel, hf⟩ := h0
  obtain ⟨ps, hps⟩ := open_argP (by simpa [Value.cells] using hf) hlt
  clear hA0 hval0
  refine (walk ps _ o W hps).mono fun e W' ⟨he, hu⟩ => ?_
  subst he
  exact ⟨_, rfl, post_law (f := Try.f4) TrylaidOut (by kernel_rfl) rfl Try.underlying4 rfl hW' (fun ds' h => by subst h; exact ⟨rfl, rfl, rfl⟩) hu⟩

theorem holds : Rows.FnExactSeekBlockSaid :=
  OpenClaim.holds_of_wide 4 Try.f4 rfl rfl rfl rfl rfl rfl rfl ⟨rfl, rfl, rfl, rfl, rfl⟩ rfl rfl rfl rfl rfl (by kernel_rfl) Try.func4 (by kernel_rfl)
    (of_decide_eq_true (by kernel_rfl)) (by unfold Func.isWrapper; first | (rw [if_pos (by decide +kernel)]; kernel_rfl) | (rw [if_neg (by decide +kernel)]; exact ⟨rfl, rfl⟩))
    (fun os started H enc _ => lifted os started H enc)

end Go.Proofs.Ytaneilegnmnfpaa.lawSeekBlock
