/- Texts joined into one: the walks and laws that the last text leans on. Conditions: as each says. -/
import Derived.Test.YtgbakgaegldomaaGreatMFnWriterKnownLawXJ
import Derived.Test.YtgbakgaegldomaaGreatMFnWriterKnownLawN

set_option linter.unusedVariables false
set_option linter.unusedSimpArgs false
/- Walks of the program's CloseWriter and LongestWord. Conditions: the pairs can be read. -/
namespace Go.Proofs.YtgbakgaegldomaaGreat
open Go Go.RowKit
theorem wcO_none {x : WrD} (h : wrvB x = false) : wcO x = none := by unfold wcO; rw [h]; rfl
theorem wcO_some {x : WrD} (h : wrvB x = true) : wcO x = some x.close := by unfold wcO; rw [h]; rfl
theorem optS_no : optS none = .tuple #[.string ⟨#[]⟩, .bool false] := rfl
theorem close_nil {x : WrD} (h : x.pend = []) : x.close = packL x.k.set.ord (x.open.1 ++ codeL x.k.set.ord (clr x.k.set + 1) x.open.2.width) := by
  unfold WrD.close
  rw [if_pos h, List.nil_append]
  show packL _ (_ ++ (codeL _ ((x.k.c : Int) + 1).toNat _ ++ [])) = _
  rw [List.append_nil]
  rfl
theorem close_word {x : WrD} {n : Nat} (h : x.pend ≠ []) (ho : x.open = (x.bits, x.k)) (hn : x.k.find x.pend = n) (hth : x.k.thru n = x.k.after n) : x.close = packL x.k.set.ord ((x.bits ++ codeL x.k.set.ord n x.k.width) ++ codeL x.k.set.ord (clr x.k.set + 1) (x.k.after n).width) := by
  unfold WrD.close
  rw [if_neg h, ho]
  dsimp only
  rw [hn]
  show packL _ (_ ++ (codeL _ (n : Int).toNat _ ++ (codeL _ ((x.k.c : Int) + 1).toNat (x.k.thru n).width ++ []))) = _
  rw [List.append_nil, hth, Int.toNat_natCast, List.append_assoc]
  rfl
set_option maxRecDepth 100000 in
set_option maxHeartbeats 16000000 in
theorem wcI_any (x : WrD) (v : Value) (lo : Nat) (w : World) (hl : -9223372036854775808 ≤ x.k.set.lit ∧ x.k.set.lit ≤ 9223372036854775807) (hr : RdP lo w v x.k.ps) (hps : x.k.ps.length ≤ 1048576) (hp : x.pend.length ≤ 1048576) (hb : x.bits.length ≤ 1048576) :
    Calls Tryz.prog 32  #[wrV x v] w (Same (optS (wcO x)) w) := by
  have cV := fun wq hr => wvI_any x v lo wq hl hr (by omega) (by omega) (by omega)
  have hrt := fun (wq : World) (hu : Up w wq) => hr.up hu
  cases hok : wrvB x
  · rw [wcO_none hok, optS_no]
    rw [hok] at cV
    obtain ⟨a, cap, rfl, -, -, -, -⟩ := id hr
    clear hr hok
    unfold wrV at *
    go_enter Tryz.func32, Tryz.ntmps32
    go_wp2_with (first | (go_at_call 41; (with_reducible refine (cV _ (hrt _ (by (repeat (first | with_reducible exact Up.refl _ | with_reducible assumption | with_reducible refine Up.set ?_ (by first | exact Nat.le_refl _ | (simp only []; omega) | (simp; omega)) _ | with_reducible refine Up.alloc ?_ _ | with_reducible refine Up.drew ?_ | refine Up.trans ?_ (by with_reducible assumption)))))).mono ?_); rintro e w1 ⟨rfl, U1⟩; have B1 := bcell U1; have Z1 := U1.size; (try simp at Z1); (try rw [Nat.add_one_le_iff] at Z1)) | fail)
    go_ret2
    refine ⟨rfl, ?_⟩
    (repeat (first | with_reducible exact Up.refl _ | with_reducible assumption | with_reducible refine Up.set ?_ (by first | exact Nat.le_refl _ | (simp only []; omega) | (simp; omega)) _ | with_reducible refine Up.alloc ?_ _ | with_reducible refine Up.drew ?_ | refine Up.trans ?_ (by with_reducible assumption)))
  · rw [wcO_some hok]
    rw [hok] at cV
    have hwo := wrvB_ok hok
    have hk := hwo.1
    have hb7 := hwo.2.2.2.2.2.1
    have hbit := hwo.2.2.2.2.1
    have hp2 := hwo.2.2.2.1
    have cO := fun wq hr => coderOf_any x v lo wq hk hr (by omega)
    have cE := fun wq => endI_any x.k.set wq hk.set
    have ho := (setOk_bd hk.set).1
    have hcb := (clr_bd hk.set).2.1
    have hsp := bs_size x.pend
    obtain ⟨hob1, hob2⟩ := open_len hwo
    obtain ⟨hok1, hos1⟩ := WrD.open_ok hk
    unfold optS
    simp only [Option.getD_some, Option.isSome_some]
    obtain ⟨a, cap, rfl, -, -, -, -⟩ := id hr
    by_cases hpe : x.pend = []
    · have HC := Lib.hid (close_nil hpe)
      have hw9 := KnD.width_bd hok1
      have cWe := fun (a0 : World) cb wx hx => write_any a0 cb x.open.2 x.open.1 (clr x.k.set + 1) wx hx hok1 (by omega) (by omega) (.inl (by unfold KnD.c; rw [hos1]; omega))
      have hth : x.open.2.thru ((clr x.k.set + 1 : Nat) : Int) = x.open.2 := by
        unfold KnD.thru
        rw [if_pos (by unfold KnD.c; rw [hos1]; omega)]
      rw [hth, hos1, show ((clr x.k.set + 1 : Nat) : Int) = (clr x.k.set : Int) + 1 from by omega] at cWe
      rw [HC.out]
      have hbits : isBits (x.open.1 ++ codeL x.k.set.ord (clr x.k.set + 1) x.open.2.width) := hob2.app (isBits_code _ _ _)
      have hbl : (x.open.1 ++ codeL x.k.set.ord (clr x.k.set + 1) x.open.2.width).length ≤ 100 := by rw [List.length_append, codeL_length]; omega
      generalize x.open.1 ++ codeL x.k.set.ord (clr x.k.set + 1) x.open.2.width = b9 at *
      have cPk := fun wq => packI_any x.k.set.ord (bs b9) wq ho (by rw [bs_data]; exact hbits) (by rw [bs_size]; omega)
      rw [bs_data] at cPk
      have HPE : Hid (bs x.pend = ⟨#[]⟩) := by unfold Hid; rw [hpe]; rfl
      clear hok hwo hk hth hr hpe HC hob2 hbit hok1
      unfold wrV at *
      simp only [setV] at cE
      go_enter Tryz.func32, Tryz.ntmps32
      go_wp2_with (first | (go_at_call 41; (with_reducible refine (cV _ (hrt _ (by (repeat (first | with_reducible exact Up.refl _ | with_reducible assumption | with_reducible refine Up.set ?_ (by first | exact Nat.le_refl _ | (simp only []; omega) | (simp; omega)) _ | with_reducible refine Up.alloc ?_ _ | with_reducible refine Up.drew ?_ | refine Up.trans ?_ (by with_reducible assumption)))))).mono ?_); rintro e w1 ⟨rfl, U1⟩; have B1 := bcell U1; have Z1 := U1.size; (try simp at Z1); (try rw [Nat.add_one_le_iff] at Z1)) | fail)
      with_reducible refine (cO _ (hrt _ (by (repeat (first | with_reducible exact Up.refl _ | with_reducible assumption | with_reducible refine Up.set ?_ (by first | exact Nat.le_refl _ | (simp only []; omega) | (simp; omega)) _ | with_reducible refine Up.alloc ?_ _ | with_reducible refine Up.drew ?_ | refine Up.trans ?_ (by with_reducible assumption)))))).mono ?_
      rintro e w2 ⟨cb, rfl, hC⟩
      have U2 := hC.1
      have hX : WrAt w.heap.size x (.slice a x.k.ps.length cap) w2 := box_up (U1.trans U2) (MapKept.heap_alloc w _).1
      have HX := Lib.hid (show WrAt w.heap.size x (.slice a x.k.ps.length cap) w1 from box_up U1 (MapKept.heap_alloc w _).1)
      have HU1 := Lib.hid (show Up w w1 by (repeat (first | with_reducible exact Up.refl _ | with_reducible assumption | with_reducible refine Up.set ?_ (by first | exact Nat.le_refl _ | (simp only []; omega) | (simp; omega)) _ | with_reducible refine Up.alloc ?_ _ | with_reducible refine Up.drew ?_ | refine Up.trans ?_ (by with_reducible assumption))))
      obtain ⟨hbx, r0, r1, r2, r3, r4, r5, r6, r7, r8⟩ := hX.cells
      have HC := Lib.hid hC
      have HU := Lib.hid (show Up w w2 by (repeat (first | with_reducible exact Up.refl _ | with_reducible assumption | with_reducible refine Up.set ?_ (by first | exact Nat.le_refl _ | (simp only []; omega) | (simp; omega)) _ | with_reducible refine Up.alloc ?_ _ | with_reducible refine Up.drew ?_ | refine Up.trans ?_ (by with_reducible assumption))))
      clear hX hC U2 U1 B1 Z1
      rw [HPE.out] at r6
      go_wp2_with (first | (go_at_call 76; (with_reducible refine (cE _).mono ?_); rintro e w3 ⟨rfl, U3⟩; have B3 := bcell U3; have Z3 := U3.size; (try simp at Z3); (try rw [Nat.add_one_le_iff] at Z3)) | fail)
      with_reducible refine (cWe w1 cb _ (HC.out.up U3)).mono ?_
      rintro e w4 ⟨⟨v4, rfl⟩, hC4⟩
      obtain ⟨hU4, tb, vp, vn, vi, vb, hA⟩ := hC4
      obtain ⟨gv, cv, hvb⟩ := hA.own.shape
      subst hvb
      have HA := Lib.hid hA
      have HX4 := Lib.hid (And.intro (HX.out.up hU4) (HU1.out.trans hU4))
      clear hA hU4 HC HU U3 B3 Z3 r0 r1 r2 r3 r4 r5 r6 r7 r8 hbx cWe cO
      go_wp2_with fail
      refine wp_region_up 10 (by kernel_rfl) (by kernel_rfl) ?_
      simp only [List.take, List.drop]
      repeat (refine wpUp_step (fun K hK => ?_); go_simp; (try simp only [↓IntWalk.iteOmega]); first
        | (refine hK _ _ ?_; clear hK K)
        | (apply stepU_c
           · intro wq hwq; (have hbq := bcell hwq; (repeat (first | refine fills_no (by rfl) ?_ | refine fills_yes (by rfl) (fun vq hvq => ?_))); simp only [List.filter_nil, fills]; unfold upAt; (try ((have d1 := box_cell (HA.out.up hwq).box 1; simp at d1; obtain ⟨-, r0, r1, r2, r3, r4, r5, r6, r7, r8⟩ := (HX4.out.1.up hwq).cells; have hconv := conv_M (m := b9.length) (c := cv) (HA.out.up hwq).own (Nat.le_refl _); rw [List.take_length] at hconv))); go_simp; (try go_bits); (try simp only [↓IntWalk.iteOmega]); (try (rw [dif_pos (by omega)]; go_simp; try go_bits)); first | exact upOut_value | (apply upOut_call; (go_at_call 48; exact cPk _)) | (apply upOut_eq; (go_at_call 48; exact cPk _)))
           go_simp; refine hK _ _ ?_; clear hK K))
      refine wpUp_nil (fun wq hwq => ?_)
      simp only [fills]
      go_wp2
      go_ret2
      exact ⟨rfl, HX4.out.2.trans hwq⟩
    · have HPE := isEmpty_bs hpe
      have hpos := List.length_pos_iff.2 hpe
      have hbeg : x.beg = true := by
        cases h : x.beg
        · exact absurd (hwo.2.2.2.2.2.2.2 h).1 hpe
        · rfl
      have hopen : x.open = (x.bits, x.k) := by unfold WrD.open; rw [hbeg]; rfl
      have hlg : x.k.longest x.pend = x.pend := (hwo.2.2.2.2.2.2.1).resolve_left hpe
      have hlit := hwo.2.2.1
      obtain ⟨hfw, -⟩ := KnD.find_any hk hpe hlit
      rw [hlg] at hfw
      have hfb := KnD.find_bd hk hfw
      have hne := KnD.fol_ne hk hfw
      obtain ⟨n, hn⟩ := Int.eq_ofNat_of_zero_le hfb.1
      have hth := KnD.thru_fol hk hfw
      have hka := KnD.after_ok hk hfw
      have hwd := KnD.width_bd hk
      have hwa := KnD.width_bd hka
      have cC := fun B tb vp vn vi wq hT => codeOf_any B tb x.k vp vn vi (bs x.pend) wq hT hk (by rw [bs_size]; exact hpos) (by rw [bs_size]; omega) (by rw [bs_data]; exact hlit)
      rw [bs_data] at cC
      simp only [hlg, if_true] at cC
      rw [hn] at hth hne hka hwa hfw cC hfb
      have HC := Lib.hid (close_word hpe hopen hn hth)
      rw [HC.out]
      rw [hopen] at cO
      have hs9 : (x.k.after n).set = x.k.set := rfl
      have cWn := fun (a0 : World) cb wx hx => write_any a0 cb x.k x.bits n wx hx hk (by omega) (by omega) (.inr (.inr ⟨hne.1, hne.2, hfw⟩))
      rw [hth] at cWn
      have hbl : (x.bits ++ codeL x.k.set.ord n x.k.width).length ≤ 100 := by rw [List.length_append, codeL_length]; omega
      have hbits : isBits (x.bits ++ codeL x.k.set.ord n x.k.width) := hbit.app (isBits_code _ _ _)
      generalize x.bits ++ codeL x.k.set.ord n x.k.width = b8 at *
      generalize x.k.after n = k9 at *
      have cWe := fun (a0 : World) cb wx hx => write_any a0 cb k9 b8 (clr x.k.set + 1) wx hx hka (by omega) (by omega) (.inl (by unfold KnD.c; rw [hs9]; omega))
      have hth9 : k9.thru ((clr x.k.set + 1 : Nat) : Int) = k9 := by
        unfold KnD.thru
        rw [if_pos (by unfold KnD.c; rw [hs9]; omega)]
      rw [hth9, hs9, show ((clr x.k.set + 1 : Nat) : Int) = (clr x.k.set : Int) + 1 from by omega] at cWe
      have hbits9 : isBits (b8 ++ codeL x.k.set.ord (clr x.k.set + 1) k9.width) := hbits.app (isBits_code _ _ _)
      have hbl9 : (b8 ++ codeL x.k.set.ord (clr x.k.set + 1) k9.width).length ≤ 200 := by rw [List.length_append, codeL_length]; omega
      generalize b8 ++ codeL x.k.set.ord (clr x.k.set + 1) k9.width = b9 at *
      have cPk := fun wq => packI_any x.k.set.ord (bs b9) wq ho (by rw [bs_data]; exact hbits9) (by rw [bs_size]; omega)
      rw [bs_data] at cPk
      clear hok hwo hk hth hr hpe HC hob2 hbit hok1 hlg hlit hfw hne hn hka hs9 hth9 hbeg hopen
      unfold wrV at *
      simp only [setV] at cE
      go_enter Tryz.func32, Tryz.ntmps32
      go_wp2_with (first | (go_at_call 41; (with_reducible refine (cV _ (hrt _ (by (repeat (first | with_reducible exact Up.refl _ | with_reducible assumption | with_reducible refine Up.set ?_ (by first | exact Nat.le_refl _ | (simp only []; omega) | (simp; omega)) _ | with_reducible refine Up.alloc ?_ _ | with_reducible refine Up.drew ?_ | refine Up.trans ?_ (by with_reducible assumption)))))).mono ?_); rintro e w1 ⟨rfl, U1⟩; have B1 := bcell U1; have Z1 := U1.size; (try simp at Z1); (try rw [Nat.add_one_le_iff] at Z1)) | fail)
      with_reducible refine (cO _ (hrt _ (by (repeat (first | with_reducible exact Up.refl _ | with_reducible assumption | with_reducible refine Up.set ?_ (by first | exact Nat.le_refl _ | (simp only []; omega) | (simp; omega)) _ | with_reducible refine Up.alloc ?_ _ | with_reducible refine Up.drew ?_ | refine Up.trans ?_ (by with_reducible assumption)))))).mono ?_
      rintro e w2 ⟨cb, rfl, hC⟩
      have U2 := hC.1
      have hX : WrAt w.heap.size x (.slice a x.k.ps.length cap) w2 := box_up (U1.trans U2) (MapKept.heap_alloc w _).1
      have HX := Lib.hid (show WrAt w.heap.size x (.slice a x.k.ps.length cap) w1 from box_up U1 (MapKept.heap_alloc w _).1)
      have HU1 := Lib.hid (show Up w w1 by (repeat (first | with_reducible exact Up.refl _ | with_reducible assumption | with_reducible refine Up.set ?_ (by first | exact Nat.le_refl _ | (simp only []; omega) | (simp; omega)) _ | with_reducible refine Up.alloc ?_ _ | with_reducible refine Up.drew ?_ | refine Up.trans ?_ (by with_reducible assumption))))
      obtain ⟨hbx, r0, r1, r2, r3, r4, r5, r6, r7, r8⟩ := hX.cells
      have HC := Lib.hid hC
      clear hX hC U2 U1 B1 Z1
      go_wp2_with fail
      obtain ⟨hU2, tb2, vp2, vn2, vi2, vb2, hA2⟩ := id HC.out
      have HA2 := Lib.hid hA2
      have HXX := Lib.hid (HX.out.up hU2)
      clear hA2 hU2
      refine wp_region_up 11 (by kernel_rfl) (by kernel_rfl) ?_
      simp only [List.take, List.drop]
      repeat (refine wpUp_step (fun K hK => ?_); go_simp; (try simp only [↓IntWalk.iteOmega]); first
        | (refine hK _ _ ?_; clear hK K)
        | (apply stepU_c
           · intro wq hwq; (have hbq := bcell hwq; (repeat (first | refine fills_no (by rfl) ?_ | refine fills_yes (by rfl) (fun vq hvq => ?_))); simp only [List.filter_nil, fills]; unfold upAt; (try ((have d0 := box_cell (HA2.out.up hwq).box 0; simp at d0; obtain ⟨-, r0, r1, r2, r3, r4, r5, r6, r7, r8⟩ := (HXX.out.up hwq).cells))); go_simp; (try go_bits); (try simp only [↓IntWalk.iteOmega]); (try (rw [dif_pos (by omega)]; go_simp; try go_bits)); first | exact upOut_value | (apply upOut_call; (go_at_call 75; exact cC _ _ _ _ _ _ (HA2.out.up hwq).tree)) | (apply upOut_eq; (go_at_call 75; exact cC _ _ _ _ _ _ (HA2.out.up hwq).tree)))
           go_simp; refine hK _ _ ?_; clear hK K))
      refine wpUp_nil (fun wq hwq => ?_)
      simp only [fills]
      go_wp2_with fail
      with_reducible refine (cWn w1 cb _ (HC.out.up hwq)).mono ?_
      rintro e w3 ⟨⟨v3, rfl⟩, hC3⟩
      have HC3 := Lib.hid hC3
      obtain ⟨hbx, r0, r1, r2, r3, r4, r5, r6, r7, r8⟩ := (HX.out.up hC3.1).cells
      clear hC3 HC HA2 HXX hwq
      go_wp2_with (first | (go_at_call 76; (with_reducible refine (cE _).mono ?_); rintro e w3 ⟨rfl, U3⟩; have B3 := bcell U3; have Z3 := U3.size; (try simp at Z3); (try rw [Nat.add_one_le_iff] at Z3)) | fail)
      with_reducible refine (cWe w1 cb _ (HC3.out.up U3)).mono ?_
      rintro e w4 ⟨⟨v4, rfl⟩, hC4⟩
      obtain ⟨hU4, tb, vp, vn, vi, vb, hA⟩ := hC4
      obtain ⟨gv, cv, hvb⟩ := hA.own.shape
      subst hvb
      have HA := Lib.hid hA
      have HX4 := Lib.hid (And.intro (HX.out.up hU4) (HU1.out.trans hU4))
      clear hA hU4 HC3 U3 B3 Z3 r0 r1 r2 r3 r4 r5 r6 r7 r8 hbx cWe cO
      go_wp2_with fail
      refine wp_region_up 10 (by kernel_rfl) (by kernel_rfl) ?_
      simp only [List.take, List.drop]
      repeat (refine wpUp_step (fun K hK => ?_); go_simp; (try simp only [↓IntWalk.iteOmega]); first
        | (refine hK _ _ ?_; clear hK K)
        | (apply stepU_c
           · intro wq hwq; (have hbq := bcell hwq; (repeat (first | refine fills_no (by rfl) ?_ | refine fills_yes (by rfl) (fun vq hvq => ?_))); simp only [List.filter_nil, fills]; unfold upAt; (try ((have d1 := box_cell (HA.out.up hwq).box 1; simp at d1; obtain ⟨-, r0, r1, r2, r3, r4, r5, r6, r7, r8⟩ := (HX4.out.1.up hwq).cells; have hconv := conv_M (m := b9.length) (c := cv) (HA.out.up hwq).own (Nat.le_refl _); rw [List.take_length] at hconv))); go_simp; (try go_bits); (try simp only [↓IntWalk.iteOmega]); (try (rw [dif_pos (by omega)]; go_simp; try go_bits)); first | exact upOut_value | (apply upOut_call; (go_at_call 48; exact cPk _)) | (apply upOut_eq; (go_at_call 48; exact cPk _)))
           go_simp; refine hK _ _ ?_; clear hK K))
      refine wpUp_nil (fun wq hwq => ?_)
      simp only [fills]
      go_wp2
      go_ret2
      exact ⟨rfl, HX4.out.2.trans hwq⟩
end Go.Proofs.YtgbakgaegldomaaGreat

