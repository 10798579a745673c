/- A range within the data touches all blocks from that with its first byte to that with its last byte, and no others. Conditions: none. -/
import Derived.Test.YthemmoecocjpjaaFnTouchedAllA
namespace Go.Proofs.Ythemmoecocjpjaa.lawTouched
set_option linter.unusedVariables false
set_option linter.unusedSimpArgs false
open Go.ChangeShapes Go.WideShapes Go.ChangeAt Go.RowKit Go.Joins
open Go.ChangeMaps (open_string shut_string)

def Rel (n : Nat) (w : World) (i : Value) (wr : World) : Prop := ∃ k : Nat, k ≤ n ∧ i = .int .i64 k ∧ Up w wr

set_option maxRecDepth 100000 in
set_option maxHeartbeats 8000000 in
theorem walk (vc : Value) (lc : List UInt8) (w : World) (hc : ArgU w vc lc) :
    Calls Try.prog 8  #[vc] w (Same (.bool true) w) := by
  have cD := fun w' hu => drawTouchedBlocks_any vc lc w' (hc.up (w' := w') hu)
  obtain ⟨ac, cc, rfl, hc1, hc2, -⟩ := hc
  unfold maxLen at hc2
  by_cases h1 : 1048576 < lc.length
  · go_enter Try.func8, Try.ntmps8
    go_wp2
    go_ret
    exact ⟨rfl, by (repeat (first | with_reducible exact Up.refl _ | with_reducible assumption | with_reducible refine Up.set ?_ (by first | exact Nat.le_refl _ | (simp only []; omega) | (simp; omega)) _ | with_reducible refine Up.alloc ?_ _ | with_reducible refine Up.drew ?_ | refine Up.trans ?_ (by with_reducible assumption)))⟩
  go_enter Try.func8, Try.ntmps8
  go_wp2_with (go_at_call 31; (with_reducible refine (cD _ (by (repeat (first | with_reducible exact Up.refl _ | with_reducible assumption | with_reducible refine Up.set ?_ (by first | exact Nat.le_refl _ | (simp only []; omega) | (simp; omega)) _ | with_reducible refine Up.alloc ?_ _ | with_reducible refine Up.drew ?_ | refine Up.trans ?_ (by with_reducible assumption))))).mono ?_); rintro e w1 ⟨s, a, b, rfl, hs, U1⟩)
  have cI := fun w => touchI_any s a b w (by omega)
  have cS := fun w => touchS_any s a b w (by omega)
  have cX := fun w => indexI_any s w (by omega)
  have cZ := fun w => csizei_any s w (by omega)
  unfold TouchPost at cI cS
  unfold IndexPost at cX
  cases hb : contBlocks s with
  | none =>
    have ez : contSize s = -1 := by unfold contSize; rw [hb]
    have et : contTouch s a b = [] := by unfold contTouch; rw [hb]
    rw [hb] at cX
    rw [et] at cI cS
    rw [ez] at cZ
    simp only [Option.isSome_none, Option.getD_none, List.length_nil] at cI cS cX
    clear hb ez et
    go_wp2_with fail
    (with_reducible refine (cI _).mono ?_); rintro e w2 ⟨v2, rfl, h2, U2⟩
    go_wp2_with fail
    (with_reducible refine (cS _).mono ?_); rintro e w3 ⟨v3, rfl, h3, U3⟩
    have cE := fun w hu => soInts_any [] _ _ _ _ w (ownsRow_up (ownsRow_up h2 U3) hu) (ownsRow_up h3 hu)
    obtain ⟨a2, ca2, rfl, -, -⟩ := ownsRow_any h2
    go_wp2_with (first | (go_at_call 33; (with_reducible refine (cE _ (by (repeat (first | with_reducible exact Up.refl _ | with_reducible assumption | with_reducible refine Up.set ?_ (by first | exact Nat.le_refl _ | (simp only []; omega) | (simp; omega)) _ | with_reducible refine Up.alloc ?_ _ | with_reducible refine Up.drew ?_ | refine Up.trans ?_ (by with_reducible assumption))))).mono ?_); rintro e w4 ⟨rfl, U4⟩) | (go_at_call 28; (with_reducible refine (cX _).mono ?_); rintro e w5 ⟨v5, rfl, h5, U5⟩) | (go_at_call 25; (with_reducible refine (cZ _).mono ?_); rintro e w6 ⟨rfl, U6⟩; have B6 := bcell U6; have Z6 := U6.size; (try simp at Z6); (try rw [Nat.add_one_le_iff] at Z6)))
    go_ret
    exact ⟨ret_bool (by simp), by (repeat (first | with_reducible exact Up.refl _ | with_reducible assumption | with_reducible refine Up.set ?_ (by first | exact Nat.le_refl _ | (simp only []; omega) | (simp; omega)) _ | with_reducible refine Up.alloc ?_ _ | with_reducible refine Up.drew ?_ | refine Up.trans ?_ (by with_reducible assumption)))⟩
  | some l =>
    have hsum : sizeSum l ≤ 2000 := by
      unfold contBlocks at hb
      cases hg : goBlocks s 0 [] with
      | none => rw [hg] at hb; cases hb
      | some l' =>
        rw [hg, Option.bind_some] at hb
        split at hb
        · next h => cases hb; exact h
        · cases hb
    have hok := contBlocks_ok hb
    have hsb := (sizeSum_bd hok).1
    have ez : contSize s = sizeSum l := by unfold contSize; rw [hb]
    have et : contTouch s a b = touchK l a b l.length := by unfold contTouch; rw [hb]
    have hl40 := hok.1
    have htl := touchK_length l a b l.length
    rw [hb] at cX
    rw [et] at cI cS
    rw [ez] at cZ
    simp only [Option.isSome_some, Option.getD_some] at cX
    have hpl := placesK_length l l.length
    have cK := fun (v : Value) base o w (hown : World.ownsRow w base 46 2 v (placesK l l.length).length (cellsP (placesK l l.length))) => seekI_any (placesK l l.length) v base o w hown (by rw [hpl]; omega)
    by_cases hin : 0 ≤ a ∧ a < b ∧ b ≤ sizeSum l
    · obtain ⟨hi1, hi2, hi3⟩ := hin
      obtain ⟨f, g, hfg, hgl, hsf, hsg, htr⟩ := touch_within hok hsum hi1 hi2 hi3
      have hTl : (touchK l a b l.length).length = g + 1 - f := by rw [htr]; simp
      have hTg : ∀ j, j < g + 1 - f → (touchK l a b l.length)[j]? = some ((f : Int) + j) := fun j hj => by rw [htr]; simp [hj]
      have HTL := Lib.hid hTl
      clear hTl
      have cKa := fun v base w hown => cK v base a w hown
      have cKb := fun v base w hown => cK v base (b - 1) w hown
      rw [hsf] at cKa
      rw [hsg] at cKb
      clear cK hb ez et htr hsf hsg hpl
      generalize touchK l a b l.length = L at *
      generalize placesK l l.length = P at *
      generalize sizeSum l = sz at *
      go_wp2_with fail
      (with_reducible refine (cI _).mono ?_); rintro e w2 ⟨v2, rfl, h2, U2⟩
      go_wp2_with fail
      (with_reducible refine (cS _).mono ?_); rintro e w3 ⟨v3, rfl, h3, U3⟩
      have cE := fun w hu => soInts_any L _ _ _ _ w (ownsRow_up (ownsRow_up h2 U3) hu) (ownsRow_up h3 hu)
      obtain ⟨a2, ca2, rfl, hm2, hsome2⟩ := ownsRow_any h2
      go_wp2_with (first | (go_at_call 33; (with_reducible refine (cE _ (by (repeat (first | with_reducible exact Up.refl _ | with_reducible assumption | with_reducible refine Up.set ?_ (by first | exact Nat.le_refl _ | (simp only []; omega) | (simp; omega)) _ | with_reducible refine Up.alloc ?_ _ | with_reducible refine Up.drew ?_ | refine Up.trans ?_ (by with_reducible assumption))))).mono ?_); rintro e w4 ⟨rfl, U4⟩) | fail)
      (with_reducible refine (cX _).mono ?_); rintro e w5 ⟨v5, rfl, h5, U5⟩
      obtain ⟨a5, ca5, rfl, -, -⟩ := ownsRow_any h5
      go_wp2_with (first | (go_at_call 25; (with_reducible refine (cZ _).mono ?_); rintro e w6 ⟨rfl, U6⟩; have B6 := bcell U6; have Z6 := U6.size; (try simp at Z6); (try rw [Nat.add_one_le_iff] at Z6)) | fail)
      (with_reducible refine (cKa _ _ _ (ownsRow_up h5 U6)).mono ?_); rintro e w7 ⟨rfl, U7⟩
      go_wp2_with fail
      (with_reducible refine (cKb _ _ _ (ownsRow_up (ownsRow_up h5 U6) U7)).mono ?_); rintro e w8 ⟨rfl, U8⟩
      go_wp2
      go_loopw [12] (fun i wr => Rel L.length w8 i wr) (fun i _ => L.length - (intOf i).toNat)
      case atStart => exact ⟨0, Nat.zero_le _, rfl, Up.refl _⟩
      case round =>
        obtain ⟨k, hk, rfl, hup⟩ := hrel
        by_cases hlt : k < L.length
        · obtain ⟨gb, rfl, hg1, hg2, hg3, hg4, hcells⟩ := hsome2 (by omega)
          have hUp : Up w2 wr := ((((((U3.trans U4).trans U5).trans U6).trans U7).trans U8).trans hup)
          have hTk := hTg k (by have := HTL.out; omega)
          have d0 : wr.cell? ⟨gb, k, none⟩ = some (.int .i64 ((f : Int) + k)) := (hUp.cell (p := ⟨gb, k, none⟩) hg4).trans (hcells k _ (by simp [cellsI, hTk]))
          clear hcells hTg
          go_wp2
          go_roundw
          case rel => exact ⟨k + 1, by omega, by go_num, by (repeat (first | with_reducible exact Up.refl _ | with_reducible assumption | with_reducible refine Up.set ?_ (by first | exact Nat.le_refl _ | (simp only []; omega) | (simp; omega)) _ | with_reducible refine Up.alloc ?_ _ | with_reducible refine Up.drew ?_ | refine Up.trans ?_ (by with_reducible assumption)))⟩
          case measure => simp [intOf]; omega
        · have e : k = L.length := by omega
          subst e
          have hfl : (L.length : Int) = (g : Int) - f + 1 := by have := HTL.out; omega
          go_wp2
          go_ret
          exact ⟨ret_bool (by simp), by (repeat (first | with_reducible exact Up.refl _ | with_reducible assumption | with_reducible refine Up.set ?_ (by first | exact Nat.le_refl _ | (simp only []; omega) | (simp; omega)) _ | with_reducible refine Up.alloc ?_ _ | with_reducible refine Up.drew ?_ | refine Up.trans ?_ (by with_reducible assumption)))⟩
    · generalize touchK l a b l.length = L at *
      generalize placesK l l.length = P at *
      generalize sizeSum l = sz at *
      clear cK hb ez et hpl
      have hout : a < 0 ∨ b ≤ a ∨ sz < b := by omega
      go_wp2_with fail
      (with_reducible refine (cI _).mono ?_); rintro e w2 ⟨v2, rfl, h2, U2⟩
      go_wp2_with fail
      (with_reducible refine (cS _).mono ?_); rintro e w3 ⟨v3, rfl, h3, U3⟩
      have cE := fun w hu => soInts_any L _ _ _ _ w (ownsRow_up (ownsRow_up h2 U3) hu) (ownsRow_up h3 hu)
      obtain ⟨a2, ca2, rfl, -, -⟩ := ownsRow_any h2
      go_wp2_with (first | (go_at_call 33; (with_reducible refine (cE _ (by (repeat (first | with_reducible exact Up.refl _ | with_reducible assumption | with_reducible refine Up.set ?_ (by first | exact Nat.le_refl _ | (simp only []; omega) | (simp; omega)) _ | with_reducible refine Up.alloc ?_ _ | with_reducible refine Up.drew ?_ | refine Up.trans ?_ (by with_reducible assumption))))).mono ?_); rintro e w4 ⟨rfl, U4⟩) | fail)
      (with_reducible refine (cX _).mono ?_); rintro e w5 ⟨v5, rfl, h5, U5⟩
      obtain ⟨a5, ca5, rfl, -, -⟩ := ownsRow_any h5
      rcases hout with ho | ho | ho
      all_goals
        go_wp2_with (first | (go_at_call 25; (with_reducible refine (cZ _).mono ?_); rintro e w6 ⟨rfl, U6⟩; have B6 := bcell U6; have Z6 := U6.size; (try simp at Z6); (try rw [Nat.add_one_le_iff] at Z6)) | fail)
        all_goals first
          | (go_ret
             exact ⟨ret_bool (by simp), by (repeat (first | with_reducible exact Up.refl _ | with_reducible assumption | with_reducible refine Up.set ?_ (by first | exact Nat.le_refl _ | (simp only []; omega) | (simp; omega)) _ | with_reducible refine Up.alloc ?_ _ | with_reducible refine Up.drew ?_ | refine Up.trans ?_ (by with_reducible assumption)))⟩)
          | (exfalso; omega)

set_option maxRecDepth 100000 in
theorem lifted (os : Os) (started : os.Started) (H : Type) (enc : TypeId × Value → H) :
    ReturnsInHanded {} Try.checked os 8 .any (Rows.fnTouchedSpec.pre6 enc Try.prog Try.f8 Rows.fnTouchedRow.domain false) (Rows.fnTouchedSpec.post enc Try.prog Try.f8 false true false false) := by
  refine returnsInHanded_of_change (C := Try.checked) own started (by kernel_rfl) Try.func8
    (ChangeSpec.witness6 (enc := enc) (C := Try.checked) false ⟨#[], #[.slice none 0 0], []⟩ 8 (by kernel_rfl) (by kernel_rfl) (by kernel_rfl) (by kernel_rfl)) ?_
  intro W base args ds gs before hval0 hW hcnd _
  have hval : ∀ (j : Nat) t v, Try.f8.params[j]? = some t → args[j]? = some v → Value.okWide Try.prog W .any base t v := hval0
  have hW' := hW
  obtain ⟨p, q, hA0, hV, rfl, hfz, hnd⟩ := hW
  have hA : DataW.TrodAll enc Try.prog W 0 (fun _ => true) true Try.f8.params.toList args.toList ds p := hA0
  rw [Try.params8] at hA hval
  obtain ⟨v0, d0, rfl, rfl, h0⟩ := trodAll_one hA
  obtain ⟨p0, rfl⟩ : ∃ x, x = p := ⟨_, rfl⟩
  obtain ⟨a0, n0, c0, rfl⟩ := okWide_slice Try.underlying22 (hval 0 22 v0 rfl rfl)
  have hlt0 : ∀ x ∈ p0, x.block < W.heap.size := fun x hx => by simpa using hW'.lt x (by simp [hx])
  obtain ⟨fuel0, hf0⟩ := h0
  obtain ⟨lcode, hcode⟩ := open_argU (by simpa [Value.cells] using hf0) hlt0
  obtain ⟨rfl, rfl⟩ := trodVars_none hV
  refine (walk _ _ W hcode).mono fun e W' ⟨he, hu⟩ => ?_
  subst he
  exact ⟨_, rfl, post_law (f := Try.f8) TrylaidOut (by kernel_rfl) rfl Try.underlying4 rfl hW' (fun ds' h => by subst h; exact ⟨rfl, rfl, rfl⟩) hu⟩

theorem holds : Rows.FnTouchedSaid :=
  OpenClaim.holds_of_wide 8 Try.f8 rfl rfl rfl rfl rfl rfl rfl ⟨rfl, rfl, rfl, rfl, rfl⟩ rfl rfl rfl rfl rfl (by kernel_rfl) Try.func8 (by kernel_rfl)
    (of_decide_eq_true (by kernel_rfl)) (by unfold Func.isWrapper; first | (rw [if_pos (by decide +kernel)]; kernel_rfl) | (rw [if_neg (by decide +kernel)]; exact ⟨rfl, rfl⟩))
    (fun os started H enc _ => lifted os started H enc)

end Go.Proofs.Ythemmoecocjpjaa.lawTouched
