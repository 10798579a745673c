/- The found place does not begin behind the offset, and the next one does; there is none only for negative offsets and without places. Conditions: none. -/
import Derived.Test.YtmjpopfacagjhaaDoorArgs
import Derived.Test.YtmjpopfacagjhaaDoorDfi
import Derived.Test.YtmjpopfacagjhaaDoorFi2
import Derived.Test.YtmjpopfacagjhaaDoorSeek5
import Derived.Test.YtmjpopfacagjhaaDoorEnds
import Derived.Test.YtmjpopfacagjhaaDoorDoor
import Derived.ProofKit
import Derived.OpenShut
import Derived.Stop.Joined
namespace Go.Proofs.YtmjpopfacagjhaaDoor.lawFnSeek
set_option linter.unusedVariables false
set_option linter.unusedSimpArgs false
open Go Go.ChangeShapes Go.WideShapes Go.ChangeAt Go.RowKit Go.Joins
open Go.ChangeMaps (open_string shut_string)

theorem seekK_cases (ps : List PlaceD) (o : Int) : ∀ k, k ≤ ps.length → (seekK ps o k = -1 ∧ ∀ j (h : j < ps.length), j < k → o < ps[j].start) ∨ ∃ (m : Nat) (hm : m < ps.length), m < k ∧ seekK ps o k = m ∧ ps[m].start ≤ o ∧ ∀ j (h : j < ps.length), m < j → j < k → o < ps[j].start
  | 0, _ => .inl ⟨rfl, fun j _ h => absurd h (Nat.not_lt_zero _)⟩
  | k + 1, hk => by
    by_cases hp : ps[k].start ≤ o
    · exact .inr ⟨k, by omega, by omega, seekK_hit (by omega) hp, hp, fun j h h1 h2 => by omega⟩
    · have e := seekK_miss (ps := ps) (o := o) (k := k) (by omega) hp
      rcases seekK_cases ps o k (by omega) with ⟨h1, h2⟩ | ⟨m, hm, h1, h2, h3, h4⟩
      · refine .inl ⟨by rw [e, h1], fun j h hj => ?_⟩
        by_cases hjk : j = k
        · subst hjk; omega
        · exact h2 j h (by omega)
      · refine .inr ⟨m, hm, by omega, by rw [e, h2], h3, fun j h hj1 hj2 => ?_⟩
        by_cases hjk : j = k
        · subst hjk; omega
        · exact h4 j h hj1 (by omega)
theorem first_zero {ps : List PlaceD} (hv : validP ps = true) (h : 0 < ps.length) : ps[0].start = 0 := by
  have hb : plcB ps 0 = true := by
    unfold validP at hv
    rw [Bool.and_eq_true, List.all_eq_true] at hv
    exact hv.2 0 (List.mem_range.2 h)
  rw [plcB_zero h] at hb
  simpa using (of_decide_eq_true hb).2
theorem fmt_ne {ps : List PlaceD} (hv : validP ps = true) : fmtIx ps ≠ [] := by
  unfold fmtIx someL
  rw [hv, if_pos rfl]
  split
  · simp
  · assumption

set_option maxRecDepth 100000 in
set_option maxHeartbeats 4000000 in
theorem walk (vc : Value) (lc : List UInt8) (w : World) (hT : Tab w) (hc : ArgU w vc lc) :
    Calls Tryd.prog 4  #[vc] w (Same (.bool true) w) := by
  have cD := fun w' hu => drawSeek_any vc lc w' (hc.up (w' := w') hu)
  have HT := Lib.hid hT
  clear hT
  obtain ⟨ac, cc, rfl, hc1, hc2, -⟩ := hc
  unfold maxLen at hc2
  by_cases h1 : 1048576 < lc.length
  · go_enter Tryd.func4, Tryd.ntmps4
    go_wp2
    go_ret
    exact ⟨rfl, by (repeat (first | with_reducible exact Up.refl _ | with_reducible assumption | with_reducible refine Up.set ?_ (by first | exact Nat.le_refl _ | (simp only []; omega) | (simp; omega)) _ | with_reducible refine Up.alloc ?_ _ | with_reducible refine Up.drew ?_ | refine Up.trans ?_ (by with_reducible assumption)))⟩
  go_enter Tryd.func4, Tryd.ntmps4
  go_wp2_with (go_at_call 10; (with_reducible refine (cD _ (by (repeat (first | with_reducible exact Up.refl _ | with_reducible assumption | with_reducible refine Up.set ?_ (by first | exact Nat.le_refl _ | (simp only []; omega) | (simp; omega)) _ | with_reducible refine Up.alloc ?_ _ | with_reducible refine Up.drew ?_ | refine Up.trans ?_ (by with_reducible assumption))))).mono ?_); rintro e w1 ⟨u, ps, o, rfl, h40, ho, U1⟩)
  have cI := fun wx (hx : Up w1 wx) => seekI_any ps u w.heap.size o wx (ownsRow_up ho hx) (by omega)
  have cS := fun wx (hx : Up w1 wx) => seekS_any ps u w.heap.size o wx (ownsRow_up ho hx) (by omega)
  have cF := fun wx (hx : Up w1 wx) => fixI_any ps u w.heap.size wx (HT.out.up (U1.trans hx)) (ownsRow_up ho hx) (by omega)
  have HU1 := Lib.hid U1
  clear cD
  cases hv : validP ps
  · have e1 : fmtIx ps = [] := by unfold fmtIx; rw [hv]; rfl
    have HE : (bs (fmtIx ps)).toList.isEmpty = true := by rw [e1, Lib.toList_data, bs_data]; rfl
    generalize bs (fmtIx ps) = F at *
    generalize seekV ps o = n at *
    clear hv
    go_wp2_with (first | (go_at_call 11; (with_reducible refine (cI _ (by (repeat (first | with_reducible exact Up.refl _ | with_reducible assumption | with_reducible refine Up.set ?_ (by first | exact Nat.le_refl _ | (simp only []; omega) | (simp; omega)) _ | with_reducible refine Up.alloc ?_ _ | with_reducible refine Up.drew ?_ | refine Up.trans ?_ (by with_reducible assumption))))).mono ?_); rintro e w2 ⟨rfl, U2⟩) | (go_at_call 12; (with_reducible refine (cS _ (by (repeat (first | with_reducible exact Up.refl _ | with_reducible assumption | with_reducible refine Up.set ?_ (by first | exact Nat.le_refl _ | (simp only []; omega) | (simp; omega)) _ | with_reducible refine Up.alloc ?_ _ | with_reducible refine Up.drew ?_ | refine Up.trans ?_ (by with_reducible assumption))))).mono ?_); rintro e w3 ⟨rfl, U3⟩) | (go_at_call 8; (with_reducible refine (cF _ (by (repeat (first | with_reducible exact Up.refl _ | with_reducible assumption | with_reducible refine Up.set ?_ (by first | exact Nat.le_refl _ | (simp only []; omega) | (simp; omega)) _ | with_reducible refine Up.alloc ?_ _ | with_reducible refine Up.drew ?_ | refine Up.trans ?_ (by with_reducible assumption))))).mono ?_); rintro e w4 ⟨rfl, U4⟩))
    go_ret
    exact ⟨by simp, by have := HU1.out; (repeat (first | with_reducible exact Up.refl _ | with_reducible assumption | with_reducible refine Up.set ?_ (by first | exact Nat.le_refl _ | (simp only []; omega) | (simp; omega)) _ | with_reducible refine Up.alloc ?_ _ | with_reducible refine Up.drew ?_ | refine Up.trans ?_ (by with_reducible assumption)))⟩
  · have HE : (bs (fmtIx ps)).toList.isEmpty = false := by
      rw [Lib.toList_data, bs_data]
      cases he : fmtIx ps with
      | nil => exact absurd he (fmt_ne hv)
      | cons _ _ => rfl
    have eV : seekV ps o = seekK ps o ps.length := by unfold seekV; rw [hv]; rfl
    have hz := first_zero hv
    generalize bs (fmtIx ps) = F at *
    obtain ⟨n, hn⟩ : ∃ n, n = seekV ps o := ⟨_, rfl⟩
    simp only [← hn] at cI cS
    obtain ⟨au, cu, rfl, hmu, -⟩ := ownsRow_any ho
    rcases seekK_cases ps o ps.length (Nat.le_refl _) with ⟨q1, q2⟩ | ⟨m, hm, -, q1, q2, q3⟩
    · have hn1 : n = -1 := by rw [hn, eV, q1]
      clear hn eV
      subst hn1
      have ho0 : o < 0 ∨ ps.length = 0 := by
        by_cases h0 : 0 < ps.length
        · have := q2 0 h0 h0; rw [hz h0] at this; exact .inl this
        · exact .inr (by omega)
      clear q1 q2 hz hv
      by_cases h0 : o < 0
      rotate_left
      · have H0 : Hid (ps.length = 0) := ho0.resolve_left h0
        clear ho0
        go_wp2_with (first | (go_at_call 11; (with_reducible refine (cI _ (by (repeat (first | with_reducible exact Up.refl _ | with_reducible assumption | with_reducible refine Up.set ?_ (by first | exact Nat.le_refl _ | (simp only []; omega) | (simp; omega)) _ | with_reducible refine Up.alloc ?_ _ | with_reducible refine Up.drew ?_ | refine Up.trans ?_ (by with_reducible assumption))))).mono ?_); rintro e w2 ⟨rfl, U2⟩) | (go_at_call 12; (with_reducible refine (cS _ (by (repeat (first | with_reducible exact Up.refl _ | with_reducible assumption | with_reducible refine Up.set ?_ (by first | exact Nat.le_refl _ | (simp only []; omega) | (simp; omega)) _ | with_reducible refine Up.alloc ?_ _ | with_reducible refine Up.drew ?_ | refine Up.trans ?_ (by with_reducible assumption))))).mono ?_); rintro e w3 ⟨rfl, U3⟩) | (go_at_call 8; (with_reducible refine (cF _ (by (repeat (first | with_reducible exact Up.refl _ | with_reducible assumption | with_reducible refine Up.set ?_ (by first | exact Nat.le_refl _ | (simp only []; omega) | (simp; omega)) _ | with_reducible refine Up.alloc ?_ _ | with_reducible refine Up.drew ?_ | refine Up.trans ?_ (by with_reducible assumption))))).mono ?_); rintro e w4 ⟨rfl, U4⟩))
        all_goals go_ret
        all_goals exact ⟨by simp [H0.out], by have := HU1.out; (repeat (first | with_reducible exact Up.refl _ | with_reducible assumption | with_reducible refine Up.set ?_ (by first | exact Nat.le_refl _ | (simp only []; omega) | (simp; omega)) _ | with_reducible refine Up.alloc ?_ _ | with_reducible refine Up.drew ?_ | refine Up.trans ?_ (by with_reducible assumption)))⟩
      · go_wp2_with (first | (go_at_call 11; (with_reducible refine (cI _ (by (repeat (first | with_reducible exact Up.refl _ | with_reducible assumption | with_reducible refine Up.set ?_ (by first | exact Nat.le_refl _ | (simp only []; omega) | (simp; omega)) _ | with_reducible refine Up.alloc ?_ _ | with_reducible refine Up.drew ?_ | refine Up.trans ?_ (by with_reducible assumption))))).mono ?_); rintro e w2 ⟨rfl, U2⟩) | (go_at_call 12; (with_reducible refine (cS _ (by (repeat (first | with_reducible exact Up.refl _ | with_reducible assumption | with_reducible refine Up.set ?_ (by first | exact Nat.le_refl _ | (simp only []; omega) | (simp; omega)) _ | with_reducible refine Up.alloc ?_ _ | with_reducible refine Up.drew ?_ | refine Up.trans ?_ (by with_reducible assumption))))).mono ?_); rintro e w3 ⟨rfl, U3⟩) | (go_at_call 8; (with_reducible refine (cF _ (by (repeat (first | with_reducible exact Up.refl _ | with_reducible assumption | with_reducible refine Up.set ?_ (by first | exact Nat.le_refl _ | (simp only []; omega) | (simp; omega)) _ | with_reducible refine Up.alloc ?_ _ | with_reducible refine Up.drew ?_ | refine Up.trans ?_ (by with_reducible assumption))))).mono ?_); rintro e w4 ⟨rfl, U4⟩))
        go_ret
        exact ⟨by simp [h0], by have := HU1.out; (repeat (first | with_reducible exact Up.refl _ | with_reducible assumption | with_reducible refine Up.set ?_ (by first | exact Nat.le_refl _ | (simp only []; omega) | (simp; omega)) _ | with_reducible refine Up.alloc ?_ _ | with_reducible refine Up.drew ?_ | refine Up.trans ?_ (by with_reducible assumption)))⟩
    · have hn1 : n = (m : Int) := by rw [hn, eV, q1]
      clear hn eV
      subst hn1
      obtain ⟨g, rfl, hc1', hc2', -, hg⟩ := ownsRow_slot ho (by omega)
      have HC := Lib.hid (fun wx (hx : Up w1 wx) (k : Nat) (hk : k < ps.length) => plc_cells' (read_cells (ownsRow_up ho hx)) hk)
      clear q1 hz hv
      by_cases hl : m + 1 < ps.length
      · have q4 := q3 (m + 1) hl (by omega) hl
        clear q3
        generalize hx0 : ps[m].start = x at *
        generalize hx1 : ps[m + 1].start = y at *
        go_wp2_with (first | (go_at_call 11; (with_reducible refine (cI _ (by (repeat (first | with_reducible exact Up.refl _ | with_reducible assumption | with_reducible refine Up.set ?_ (by first | exact Nat.le_refl _ | (simp only []; omega) | (simp; omega)) _ | with_reducible refine Up.alloc ?_ _ | with_reducible refine Up.drew ?_ | refine Up.trans ?_ (by with_reducible assumption))))).mono ?_); rintro e w2 ⟨rfl, U2⟩) | (go_at_call 12; (with_reducible refine (cS _ (by (repeat (first | with_reducible exact Up.refl _ | with_reducible assumption | with_reducible refine Up.set ?_ (by first | exact Nat.le_refl _ | (simp only []; omega) | (simp; omega)) _ | with_reducible refine Up.alloc ?_ _ | with_reducible refine Up.drew ?_ | refine Up.trans ?_ (by with_reducible assumption))))).mono ?_); rintro e w3 ⟨rfl, U3⟩) | (go_at_call 8; (with_reducible refine (cF _ (by (repeat (first | with_reducible exact Up.refl _ | with_reducible assumption | with_reducible refine Up.set ?_ (by first | exact Nat.le_refl _ | (simp only []; omega) | (simp; omega)) _ | with_reducible refine Up.alloc ?_ _ | with_reducible refine Up.drew ?_ | refine Up.trans ?_ (by with_reducible assumption))))).mono ?_); rintro e w4 ⟨rfl, U4⟩; have A0 := HC.out w4 (by (repeat (first | with_reducible exact Up.refl _ | with_reducible assumption | with_reducible refine Up.set ?_ (by first | exact Nat.le_refl _ | (simp only []; omega) | (simp; omega)) _ | with_reducible refine Up.alloc ?_ _ | with_reducible refine Up.drew ?_ | refine Up.trans ?_ (by with_reducible assumption)))) m hm; have A1 := HC.out w4 (by (repeat (first | with_reducible exact Up.refl _ | with_reducible assumption | with_reducible refine Up.set ?_ (by first | exact Nat.le_refl _ | (simp only []; omega) | (simp; omega)) _ | with_reducible refine Up.alloc ?_ _ | with_reducible refine Up.drew ?_ | refine Up.trans ?_ (by with_reducible assumption)))) (m + 1) hl; rw [hx0] at A0; rw [hx1] at A1; obtain ⟨-, a0⟩ := A0; obtain ⟨-, a1⟩ := A1))
        go_ret
        exact ⟨by first | (simp; done) | (simp; omega), by have := HU1.out; (repeat (first | with_reducible exact Up.refl _ | with_reducible assumption | with_reducible refine Up.set ?_ (by first | exact Nat.le_refl _ | (simp only []; omega) | (simp; omega)) _ | with_reducible refine Up.alloc ?_ _ | with_reducible refine Up.drew ?_ | refine Up.trans ?_ (by with_reducible assumption)))⟩
      · have hml : m + 1 = ps.length := by omega
        clear q3
        generalize hx0 : ps[m].start = x at *
        go_wp2_with (first | (go_at_call 11; (with_reducible refine (cI _ (by (repeat (first | with_reducible exact Up.refl _ | with_reducible assumption | with_reducible refine Up.set ?_ (by first | exact Nat.le_refl _ | (simp only []; omega) | (simp; omega)) _ | with_reducible refine Up.alloc ?_ _ | with_reducible refine Up.drew ?_ | refine Up.trans ?_ (by with_reducible assumption))))).mono ?_); rintro e w2 ⟨rfl, U2⟩) | (go_at_call 12; (with_reducible refine (cS _ (by (repeat (first | with_reducible exact Up.refl _ | with_reducible assumption | with_reducible refine Up.set ?_ (by first | exact Nat.le_refl _ | (simp only []; omega) | (simp; omega)) _ | with_reducible refine Up.alloc ?_ _ | with_reducible refine Up.drew ?_ | refine Up.trans ?_ (by with_reducible assumption))))).mono ?_); rintro e w3 ⟨rfl, U3⟩) | (go_at_call 8; (with_reducible refine (cF _ (by (repeat (first | with_reducible exact Up.refl _ | with_reducible assumption | with_reducible refine Up.set ?_ (by first | exact Nat.le_refl _ | (simp only []; omega) | (simp; omega)) _ | with_reducible refine Up.alloc ?_ _ | with_reducible refine Up.drew ?_ | refine Up.trans ?_ (by with_reducible assumption))))).mono ?_); rintro e w4 ⟨rfl, U4⟩; have A0 := HC.out w4 (by (repeat (first | with_reducible exact Up.refl _ | with_reducible assumption | with_reducible refine Up.set ?_ (by first | exact Nat.le_refl _ | (simp only []; omega) | (simp; omega)) _ | with_reducible refine Up.alloc ?_ _ | with_reducible refine Up.drew ?_ | refine Up.trans ?_ (by with_reducible assumption)))) m hm; rw [hx0] at A0; obtain ⟨-, a0⟩ := A0))
        go_ret
        exact ⟨by first | (simp; done) | (simp; omega), by have := HU1.out; (repeat (first | with_reducible exact Up.refl _ | with_reducible assumption | with_reducible refine Up.set ?_ (by first | exact Nat.le_refl _ | (simp only []; omega) | (simp; omega)) _ | with_reducible refine Up.alloc ?_ _ | with_reducible refine Up.drew ?_ | refine Up.trans ?_ (by with_reducible assumption)))⟩

set_option maxRecDepth 100000 in
theorem lifted (os : Os) (started : os.Started) (H : Type) (enc : TypeId × Value → H) :
    ReturnsInHanded {} Tryd.checked os 4 .any (fun w args => (Rows.fnSeekSpec.pre enc Tryd.prog Tryd.f4 [] false w args ∧ laidMetH Tryd.prog laid3 w) ∧ sizedMet enc Tryd.prog Tryd.f4 (OpenSpec.ofChange Rows.fnSeekSpec) false w args) (Rows.fnSeekSpec.post enc Tryd.prog Tryd.f4 false true false false) := by
  refine returnsInHanded_of_change_and (C := Tryd.checked) (X := fun w _ => laidMetH Tryd.prog laid3 w) (fun _ _ _ hh h => h.of_heap hh) own started (by kernel_rfl) Tryd.func4
    (ChangeSpec.witness_shaped (enc := enc) (C := Tryd.checked) (os := os) (X := fun w _ => laidMetH Tryd.prog laid3 w) false (World.doorLaid Tryd.prog 72 os) #[.slice none 0 0] 8 rfl (World.shaped_of_RefB (by kernel_rfl) (by kernel_rfl)) (by kernel_rfl) (by kernel_rfl) (by kernel_rfl) (door_met3 os _)) ?_
  intro W base args ds gs before hval0 hW _ _ hL _
  have hT := tab_of_laid3 hL
  have hval : ∀ (j : Nat) t v, Tryd.f4.params[j]? = some t → args[j]? = some v → Value.okWide Tryd.prog W .any base t v := hval0
  have hW' := hW
  obtain ⟨p, q, hA0, hV, rfl, hfz, hnd⟩ := hW
  have hA : DataW.TrodAll enc Tryd.prog W 0 (fun _ => true) true Tryd.f4.params.toList args.toList ds p := hA0
  rw [Tryd.params4] at hA hval
  obtain ⟨v0, d0, rfl, rfl, h0⟩ := trodAll_one hA
  obtain ⟨p0, rfl⟩ : ∃ x, x = p := ⟨_, rfl⟩
  obtain ⟨a0, n0, c0, rfl⟩ := okWide_slice Tryd.underlying29 (hval 0 29 v0 rfl rfl)
  have hlt0 : ∀ x ∈ p0, x.block < W.heap.size := fun x hx => by simpa using hW'.lt x (by simp [hx])
  obtain ⟨fuel0, hf0⟩ := h0
  obtain ⟨lcode, hcode⟩ := open_argU (by simpa [Value.cells] using hf0) hlt0
  obtain ⟨rfl, rfl⟩ := trodVars_none hV
  refine (walk _ _ W hT hcode).mono fun e W' ⟨he, hu⟩ => ?_
  subst he
  exact ⟨_, rfl, post_law (f := Tryd.f4) TrydlaidOut (by kernel_rfl) rfl Tryd.underlying4 rfl hW' (fun ds' h => by subst h; exact ⟨rfl, rfl, rfl⟩) hu⟩

set_option maxHeartbeats 80000000 in
theorem closed : joinedFacts Tryd.checked.prog 4 Tryd.f4 Rows.fnSeekSpec Rows.fnSeekRow = true := by
  unfold joinedFacts
  repeat' (with_reducible refine (Bool.and_eq_true_iff.2 ⟨?_, ?_⟩))
  all_goals (as_aux_lemma => kernel_rfl)

theorem holds : Rows.FnSeekSaid :=
  OpenClaim.holds_of_wide 4 Tryd.f4 rfl rfl rfl rfl rfl rfl rfl ⟨rfl, rfl, rfl, rfl, rfl⟩ rfl rfl rfl rfl rfl (by as_aux_lemma => kernel_rfl) Tryd.func4 closed
    (of_decide_eq_true (by as_aux_lemma => kernel_rfl)) (by unfold Func.isWrapper; first | (rw [if_pos (by decide +kernel)]; kernel_rfl) | (rw [if_neg (by decide +kernel)]; exact ⟨rfl, rfl⟩))
    (fun os started H enc _ => lifted os started H enc)

theorem card_holds : Rows.FnSeekCardSaid :=
  Claim7.holds_tied_plain_at .later [] [.data, .data, .data] true (true, "9e532cf7e521ee8872cb0c014b1311278f250af04b3836744143f4fb78236bb7") false
    holds (fun _ h => by cases h) (by kernel_rfl) (fun _ h => by cases h) fnSeek_row_tie rfl ⟨rfl, rfl⟩ (by kernel_rfl) rfl
    (fun f fn hf hfn => by
      obtain rfl : f = 4 := Option.some.inj ((show Tryd.prog.funcNamed "loop.example/soughtstreams/laws.FnSeek" = some 4 by kernel_rfl).symm.trans hf) |>.symm
      obtain rfl : fn = Tryd.f4 := (Option.some.inj (Tryd.func4.symm.trans hfn)).symm
      exact ⟨by kernel_rfl, fun j t ht => by
        rw [Tryd.params4] at ht
        have hm : t ∈ [29] := by simpa using Array.mem_of_getElem? ht
        have hall : ([29].all fun u => !Tryd.prog.wantsStandIn u) = true := by kernel_rfl
        exact (show Tryd.prog.wantsStandIn t = false by simpa using List.all_eq_true.1 hall t hm)⟩)
    (by kernel_rfl)

end Go.Proofs.YtmjpopfacagjhaaDoor.lawFnSeek
