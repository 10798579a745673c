/- Texts joined into one: the walks and laws that the last text leans on. Conditions: as each says. -/
import Derived.Test.YtgbakgaegldomaaGreatMFnWriterKnownLawXM
import Derived.Test.YtgbakgaegldomaaGreatMFnWriterKnownLawXN

set_option linter.unusedVariables false
set_option linter.unusedSimpArgs false
/- Walk of the reference's CloseWriter, for writers of any kind. Condition: the pairs can be read. -/
namespace Go.Proofs.YtgbakgaegldomaaGreat
open Go Go.RowKit
set_option maxRecDepth 100000 in
set_option maxHeartbeats 16000000 in
theorem wcS_any (x : WrD) (v : Value) (lo : Nat) (w : World) (hr : RdP lo w v x.k.ps) (hps : x.k.ps.length ≤ 1048576) (hp : x.pend.length ≤ 1048576) (hb : x.bits.length ≤ 1048576) :
    Calls Tryz.prog 36  #[wrV x v] w (Same (optS (wcO x)) w) := by
  have cV := fun wq hr => wvS_any x v lo wq hr (by omega) (by omega) (by omega)
  have hrt := fun (wq : World) (hu : Up w wq) => hr.up hu
  cases hok : wrvB x
  · rw [wcO_none hok, optS_no]
    rw [hok] at cV
    obtain ⟨a, cap, rfl, -, -, -, -⟩ := id hr
    clear hr hok
    unfold wrV at *
    go_enter Tryz.func36, Tryz.ntmps36
    go_wp2_with (first | (go_at_call 80; (with_reducible refine (cV _ (hrt _ (by (repeat (first | with_reducible exact Up.refl _ | with_reducible assumption | with_reducible refine Up.set ?_ (by first | exact Nat.le_refl _ | (simp only []; omega) | (simp; omega)) _ | with_reducible refine Up.alloc ?_ _ | with_reducible refine Up.drew ?_ | refine Up.trans ?_ (by with_reducible assumption)))))).mono ?_); rintro e w1 ⟨rfl, U1⟩; have B1 := bcell U1; have Z1 := U1.size; (try simp at Z1); (try rw [Nat.add_one_le_iff] at Z1)) | fail)
    go_ret2
    refine ⟨rfl, ?_⟩
    (repeat (first | with_reducible exact Up.refl _ | with_reducible assumption | with_reducible refine Up.set ?_ (by first | exact Nat.le_refl _ | (simp only []; omega) | (simp; omega)) _ | with_reducible refine Up.alloc ?_ _ | with_reducible refine Up.drew ?_ | refine Up.trans ?_ (by with_reducible assumption)))
  · rw [wcO_some hok]
    rw [hok] at cV
    have hwo := wrvB_ok hok
    have hk := hwo.1
    have hb7 := hwo.2.2.2.2.2.1
    have hbit := hwo.2.2.2.2.1
    have hp2 := hwo.2.2.2.1
    have cB := fun wq hr => begin_any x v lo wq hk hr (by omega)
    rw [show begW x = ⟨x.open.2, x.pend, x.open.1, true⟩ from rfl] at cB
    have cE := fun wq => l1End_any x.k.set wq hk.set
    have hcb := (clr_bd hk.set).2.1
    have hsp := bs_size x.pend
    obtain ⟨hob1, hob2⟩ := open_len hwo
    obtain ⟨hok1, hos1⟩ := WrD.open_ok hk
    unfold optS
    simp only [Option.getD_some, Option.isSome_some]
    have HR := Lib.hid hr
    obtain ⟨a, cap, rfl, -, -, -, -⟩ := id hr
    by_cases hpe : x.pend = []
    · have HC := Lib.hid (close_nil hpe)
      have hopw := KnD.width_bd hok1
      rw [HC.out]
      have HPE : Hid (bs x.pend = ⟨#[]⟩) := by unfold Hid; rw [hpe]; rfl
      have HK9 := Lib.hid (And.intro hok1 (And.intro hos1 (And.intro hob1 hob2)))
      clear hok hwo hk hr hpe HC hob2 hbit hok1 hos1 hob1
      generalize x.open.1 = b9 at *
      generalize x.open.2 = k9 at *
      unfold wrV at *
      simp only [setV] at cE
      go_enter Tryz.func36, Tryz.ntmps36
      go_wp2_with (first | (go_at_call 80; (with_reducible refine (cV _ (hrt _ (by (repeat (first | with_reducible exact Up.refl _ | with_reducible assumption | with_reducible refine Up.set ?_ (by first | exact Nat.le_refl _ | (simp only []; omega) | (simp; omega)) _ | with_reducible refine Up.alloc ?_ _ | with_reducible refine Up.drew ?_ | refine Up.trans ?_ (by with_reducible assumption)))))).mono ?_); rintro e w1 ⟨rfl, U1⟩; have B1 := bcell U1; have Z1 := U1.size; (try simp at Z1); (try rw [Nat.add_one_le_iff] at Z1)) | fail)
      with_reducible refine (cB _ (hrt _ (by (repeat (first | with_reducible exact Up.refl _ | with_reducible assumption | with_reducible refine Up.set ?_ (by first | exact Nat.le_refl _ | (simp only []; omega) | (simp; omega)) _ | with_reducible refine Up.alloc ?_ _ | with_reducible refine Up.drew ?_ | refine Up.trans ?_ (by with_reducible assumption)))))).mono ?_
      rintro e w2 ⟨v2, rfl, hp2', U2⟩
      obtain ⟨a2, c2, rfl⟩ := put_shape hp2'
      dsimp only at hp2'
      have hX : WrAt w.heap.size x (.slice a x.k.ps.length cap) w2 := box_up (U1.trans U2) (MapKept.heap_alloc w _).1
      have hU2 : Up w w2 := by (repeat (first | with_reducible exact Up.refl _ | with_reducible assumption | with_reducible refine Up.set ?_ (by first | exact Nat.le_refl _ | (simp only []; omega) | (simp; omega)) _ | with_reducible refine Up.alloc ?_ _ | with_reducible refine Up.drew ?_ | refine Up.trans ?_ (by with_reducible assumption)))
      have hrd2 := put_rd (y := ⟨k9, x.pend, b9, true⟩) hp2' (HR.out.up (show Up w w1 by (repeat (first | with_reducible exact Up.refl _ | with_reducible assumption | with_reducible refine Up.set ?_ (by first | exact Nat.le_refl _ | (simp only []; omega) | (simp; omega)) _ | with_reducible refine Up.alloc ?_ _ | with_reducible refine Up.drew ?_ | refine Up.trans ?_ (by with_reducible assumption))))) U2
      have hl2 : w.heap.size + 1 ≤ w2.heap.size := by have h1 := U1.size; have h2 := U2.size; simp at h1; omega
      clear U1 U2 hp2' cB cV B1 Z1
      dsimp only at hrd2
      unfold wrV
      go_simp
      iterate 13 go_step
      have hUa : Up w2 (w2.alloc (.cells #[.int .i64 k9.set.ord, .int .i64 k9.set.lit, .int .i64 k9.set.most, .slice a2 k9.ps.length c2, .int .i64 k9.base, .int .i64 k9.last, .string (bs x.pend), .string (bs b9), .bool true] 37)) := (Up.refl _).alloc _
      have hA : WrAt w2.heap.size ⟨k9, x.pend, b9, true⟩ (.slice a2 k9.ps.length c2) (w2.alloc (.cells #[.int .i64 k9.set.ord, .int .i64 k9.set.lit, .int .i64 k9.set.most, .slice a2 k9.ps.length c2, .int .i64 k9.base, .int .i64 k9.last, .string (bs x.pend), .string (bs b9), .bool true] 37)) := (MapKept.heap_alloc w2 _).1
      have HA := Lib.hid (And.intro hA (And.intro (hX.up hUa) (And.intro (hU2.trans hUa) (hrd2.up hUa))))
      have hzA : w2.heap.size < (w2.alloc (.cells #[.int .i64 k9.set.ord, .int .i64 k9.set.lit, .int .i64 k9.set.most, .slice a2 k9.ps.length c2, .int .i64 k9.base, .int .i64 k9.last, .string (bs x.pend), .string (bs b9), .bool true] 37)).heap.size := by simp
      clear hA hX hU2 hrd2 hUa hrt
      generalize w2.alloc (.cells #[.int .i64 k9.set.ord, .int .i64 k9.set.lit, .int .i64 k9.set.most, .slice a2 k9.ps.length c2, .int .i64 k9.base, .int .i64 k9.last, .string (bs x.pend), .string (bs b9), .bool true] 37) = W3 at *
      obtain ⟨hbx, r0, r1, r2, r3, r4, r5, r6, r7, r8⟩ := HA.out.2.1.cells
      obtain ⟨hby, s0, s1, s2, s3, s4, s5, s6, s7, s8⟩ := HA.out.1.cells
      rw [HPE.out] at r6
      go_wp2_with fail
      have hw9 := KnD.width_bd HK9.out.1
      have hs9 := HK9.out.2.1
      have hl9 := HK9.out.2.2.1
      have hib : isBits (b9 ++ codeL x.k.set.ord (clr x.k.set + 1) k9.width) := HK9.out.2.2.2.app (isBits_code _ _ _)
      have hil : (b9 ++ codeL x.k.set.ord (clr x.k.set + 1) k9.width).length ≤ 1000 := by rw [List.length_append, codeL_length]; omega
      have cE9 := fun wq => l1End_any k9.set wq HK9.out.1.set
      have cP := fun wq hr => put_any ⟨k9, x.pend, b9, true⟩ (.slice a2 k9.ps.length c2) 0 (clr k9.set + 1) wq HK9.out.1 hr (by rw [hs9]; omega) (by show b9.length ≤ 900000; omega) (.inl (by show ((clr k9.set + 1 : Nat) : Int) = (k9.c : Int) + 1; unfold KnD.c; omega))
      have hpw : putW ⟨k9, x.pend, b9, true⟩ (clr k9.set + 1) = ⟨k9, x.pend, b9 ++ codeL x.k.set.ord (clr x.k.set + 1) k9.width, true⟩ := by
        unfold putW
        dsimp only
        rw [show k9.thru ((clr k9.set + 1 : Nat) : Int) = k9 by unfold KnD.thru; rw [if_pos (by unfold KnD.c; omega)], hs9]
      rw [hpw, show ((clr k9.set + 1 : Nat) : Int) = (clr k9.set : Int) + 1 from by omega] at cP
      clear hpw hs9 cE
      generalize b9 ++ codeL x.k.set.ord (clr x.k.set + 1) k9.width = bz at *
      have cK := fun wx => l1Pack_any x.k.set.ord (bs bz) wx (by rw [bs_data]; exact hib) (by rw [bs_size]; omega)
      rw [bs_data] at cK
      unfold wrV at cP
      simp only [setV] at cE9
      refine wp_region_up 6 (by kernel_rfl) (by kernel_rfl) ?_
      simp only [List.take, List.drop]
      repeat (refine wpUp_step (fun K hK => ?_); go_simp; (try simp only [↓IntWalk.iteOmega]); first
        | (refine hK _ _ ?_; clear hK K)
        | (apply stepU_c
           · intro wq hwq; (have hbq := bcell hwq; (repeat (first | refine fills_no (by rfl) ?_ | refine fills_yes (by rfl) (fun vq hvq => ?_))); simp only [List.filter_nil, fills]; unfold upAt; (try (skip)); go_simp; (try go_bits); (try simp only [↓IntWalk.iteOmega]); (try (rw [dif_pos (by omega)]; go_simp; try go_bits)); first | exact upOut_value | (apply upOut_call; (go_at_call 72; exact cE9 _)) | (apply upOut_eq; (go_at_call 72; exact cE9 _)))
           go_simp; refine hK _ _ ?_; clear hK K)
        | (refine stepU_m (by kernel_rfl) (PutO W3.heap.size ⟨k9, x.pend, bz, true⟩ k9.ps (.slice a2 k9.ps.length c2)) (putO_closed _ _ _ _) (fun wq hwq => ?_) ?_
           · (have hbq := bcell hwq; (repeat (first | refine fills_no (by rfl) ?_ | refine fills_yes (by rfl) (fun vq hvq => ?_))); simp only [List.filter_nil, fills]; unfold upAt; (try (skip)); go_simp; (try go_bits); (try simp only [↓IntWalk.iteOmega]); (try (rw [dif_pos (by omega)]; go_simp; try go_bits)); ((with_reducible refine upOut_put ?_ hwq.size); go_at_call 85; exact cP _ (HA.out.2.2.2.up hwq)))
           refine hK _ _ ?_; clear hK K))
      refine wpUp_nil (fun wq hwq => ?_)
      simp only [fills]
      rintro u ⟨vz, rfl, hz⟩
      obtain ⟨az, cz, rfl⟩ := put_shape hz
      have HQ := Lib.hid (And.intro (HA.out.1.up hwq) (And.intro (HA.out.2.1.up hwq) (HA.out.2.2.1.trans hwq)))
      have hzq := hwq.size
      clear hwq hz HA cP cE9 r0 r1 r2 r3 r4 r5 r6 r7 r8 s0 s1 s2 s3 s4 s5 s6 s7 s8 hbx hby
      obtain ⟨hby, s0, s1, s2, s3, s4, s5, s6, s7, s8⟩ := HQ.out.1.cells
      have hfy := box_free HQ.out.1
      dsimp only
      unfold wrV
      go_simp
      iterate 4 go_step
      have hY : WrAt w2.heap.size ⟨k9, x.pend, bz, true⟩ (.slice az k9.ps.length cz) (((((((((wq.setCell ⟨w2.heap.size, 0, none⟩ (.int .i64 k9.set.ord)).setCell ⟨w2.heap.size, 1, none⟩ (.int .i64 k9.set.lit)).setCell ⟨w2.heap.size, 2, none⟩ (.int .i64 k9.set.most)).setCell ⟨w2.heap.size, 3, none⟩ (.slice az k9.ps.length cz)).setCell ⟨w2.heap.size, 4, none⟩ (.int .i64 k9.base)).setCell ⟨w2.heap.size, 5, none⟩ (.int .i64 k9.last)).setCell ⟨w2.heap.size, 6, none⟩ (.string (bs x.pend))).setCell ⟨w2.heap.size, 7, none⟩ (.string (bs bz))).setCell ⟨w2.heap.size, 8, none⟩ (.bool true)) := by
        have h0 := WrAt.store HQ.out.1 ⟨k9, x.pend, bz, true⟩ (.slice az k9.ps.length cz)
        simpa [WrW, KnW] using h0
      have hneb : w.heap.size ≠ w2.heap.size := by omega
      have hX : WrAt w.heap.size x (.slice a x.k.ps.length cap) (((((((((wq.setCell ⟨w2.heap.size, 0, none⟩ (.int .i64 k9.set.ord)).setCell ⟨w2.heap.size, 1, none⟩ (.int .i64 k9.set.lit)).setCell ⟨w2.heap.size, 2, none⟩ (.int .i64 k9.set.most)).setCell ⟨w2.heap.size, 3, none⟩ (.slice az k9.ps.length cz)).setCell ⟨w2.heap.size, 4, none⟩ (.int .i64 k9.base)).setCell ⟨w2.heap.size, 5, none⟩ (.int .i64 k9.last)).setCell ⟨w2.heap.size, 6, none⟩ (.string (bs x.pend))).setCell ⟨w2.heap.size, 7, none⟩ (.string (bs bz))).setCell ⟨w2.heap.size, 8, none⟩ (.bool true)) := (WrW.other hneb ⟨k9, x.pend, bz, true⟩ (.slice az k9.ps.length cz)).trans HQ.out.2.1
      have hU5 : Up w (((((((((wq.setCell ⟨w2.heap.size, 0, none⟩ (.int .i64 k9.set.ord)).setCell ⟨w2.heap.size, 1, none⟩ (.int .i64 k9.set.lit)).setCell ⟨w2.heap.size, 2, none⟩ (.int .i64 k9.set.most)).setCell ⟨w2.heap.size, 3, none⟩ (.slice az k9.ps.length cz)).setCell ⟨w2.heap.size, 4, none⟩ (.int .i64 k9.base)).setCell ⟨w2.heap.size, 5, none⟩ (.int .i64 k9.last)).setCell ⟨w2.heap.size, 6, none⟩ (.string (bs x.pend))).setCell ⟨w2.heap.size, 7, none⟩ (.string (bs bz))).setCell ⟨w2.heap.size, 8, none⟩ (.bool true)) := by
        have hU := HQ.out.2.2
        (repeat (first | with_reducible exact Up.refl _ | with_reducible assumption | with_reducible refine Up.set ?_ (by first | exact Nat.le_refl _ | (simp only []; omega) | (simp; omega)) _ | with_reducible refine Up.alloc ?_ _ | with_reducible refine Up.drew ?_ | refine Up.trans ?_ (by with_reducible assumption)))
      have HF := Lib.hid (And.intro hY (And.intro hX hU5))
      clear hY hX hU5 HQ s0 s1 s2 s3 s4 s5 s6 s7 s8 hfy
      generalize (((((((((wq.setCell ⟨w2.heap.size, 0, none⟩ (.int .i64 k9.set.ord)).setCell ⟨w2.heap.size, 1, none⟩ (.int .i64 k9.set.lit)).setCell ⟨w2.heap.size, 2, none⟩ (.int .i64 k9.set.most)).setCell ⟨w2.heap.size, 3, none⟩ (.slice az k9.ps.length cz)).setCell ⟨w2.heap.size, 4, none⟩ (.int .i64 k9.base)).setCell ⟨w2.heap.size, 5, none⟩ (.int .i64 k9.last)).setCell ⟨w2.heap.size, 6, none⟩ (.string (bs x.pend))).setCell ⟨w2.heap.size, 7, none⟩ (.string (bs bz))).setCell ⟨w2.heap.size, 8, none⟩ (.bool true)) = W9 at HF ⊢
      obtain ⟨hby, s0, s1, s2, s3, s4, s5, s6, s7, s8⟩ := HF.out.1.cells
      obtain ⟨hbx, r0, r1, r2, r3, r4, r5, r6, r7, r8⟩ := HF.out.2.1.cells
      go_wp2_with (first | ((go_at_call 83; (with_reducible refine (cK _).mono ?_); rintro e w8 ⟨rfl, U8⟩; have B8 := bcell U8; have Z8 := U8.size; (try simp at Z8); (try rw [Nat.add_one_le_iff] at Z8))) | fail)
      go_ret2
      exact ⟨rfl, HF.out.2.2.trans U8⟩
    · have HPE := isEmpty_bs hpe
      have hpos := List.length_pos_iff.2 hpe
      have hbeg : x.beg = true := by
        cases h : x.beg
        · exact absurd (hwo.2.2.2.2.2.2.2 h).1 hpe
        · rfl
      have hopen : x.open = (x.bits, x.k) := by unfold WrD.open; rw [hbeg]; rfl
      have hlg : x.k.longest x.pend = x.pend := (hwo.2.2.2.2.2.2.1).resolve_left hpe
      have hlit := hwo.2.2.1
      obtain ⟨hfw, -⟩ := KnD.find_any hk hpe hlit
      rw [hlg] at hfw
      have hfb := KnD.find_bd hk hfw
      have hne := KnD.fol_ne hk hfw
      have cF := fun wq v lo hr => l2Find_any x.k v lo (bs x.pend) wq hk hr (by omega)
      rw [bs_data] at cF
      obtain ⟨n, hn⟩ := Int.eq_ofNat_of_zero_le hfb.1
      have hth := KnD.thru_fol hk hfw
      have hka := KnD.after_ok hk hfw
      have hwd := KnD.width_bd hk
      rw [hn] at hth hne hka hfw cF hfb
      have HC := Lib.hid (close_word hpe hopen hn hth)
      rw [HC.out]
      rw [hopen] at cB
      dsimp only at cB
      have hs9 : (x.k.after n).set = x.k.set := rfl
      have hbl : (x.bits ++ codeL x.k.set.ord n x.k.width).length ≤ 100 := by rw [List.length_append, codeL_length]; omega
      have hbits : isBits (x.bits ++ codeL x.k.set.ord n x.k.width) := hbit.app (isBits_code _ _ _)
      have hpwn : putW ⟨x.k, x.pend, x.bits, true⟩ n = ⟨x.k.after n, x.pend, x.bits ++ codeL x.k.set.ord n x.k.width, true⟩ := by
        unfold putW
        dsimp only
        rw [hth]
      have cPn := fun wq v lo hr => put_any ⟨x.k, x.pend, x.bits, true⟩ v lo n wq hk hr (by omega) (by show x.bits.length ≤ 900000; omega) (.inr (.inr ⟨hne.1, hne.2, hfw⟩))
      rw [hpwn] at cPn
      have HK9 := Lib.hid (And.intro hka (And.intro hs9 (And.intro hbl hbits)))
      clear hok hwo hk hr hpe HC hob2 hbit hok1 hos1 hob1 hpwn hth hfw hne hn hfb hlit hlg hopen hka hs9 hbl hbits hbeg
      generalize x.bits ++ codeL x.k.set.ord n x.k.width = b9 at *
      generalize x.k.after n = k9 at *
      unfold wrV at cPn
      simp only [kV] at cF
      unfold wrV at *
      simp only [setV] at cE
      go_enter Tryz.func36, Tryz.ntmps36
      go_wp2_with (first | (go_at_call 80; (with_reducible refine (cV _ (hrt _ (by (repeat (first | with_reducible exact Up.refl _ | with_reducible assumption | with_reducible refine Up.set ?_ (by first | exact Nat.le_refl _ | (simp only []; omega) | (simp; omega)) _ | with_reducible refine Up.alloc ?_ _ | with_reducible refine Up.drew ?_ | refine Up.trans ?_ (by with_reducible assumption)))))).mono ?_); rintro e w1 ⟨rfl, U1⟩; have B1 := bcell U1; have Z1 := U1.size; (try simp at Z1); (try rw [Nat.add_one_le_iff] at Z1)) | fail)
      with_reducible refine (cB _ (hrt _ (by (repeat (first | with_reducible exact Up.refl _ | with_reducible assumption | with_reducible refine Up.set ?_ (by first | exact Nat.le_refl _ | (simp only []; omega) | (simp; omega)) _ | with_reducible refine Up.alloc ?_ _ | with_reducible refine Up.drew ?_ | refine Up.trans ?_ (by with_reducible assumption)))))).mono ?_
      rintro e w2 ⟨v2, rfl, hp2', U2⟩
      obtain ⟨a2, c2, rfl⟩ := put_shape hp2'
      dsimp only at hp2'
      have hX : WrAt w.heap.size x (.slice a x.k.ps.length cap) w2 := box_up (U1.trans U2) (MapKept.heap_alloc w _).1
      have hU2 : Up w w2 := by (repeat (first | with_reducible exact Up.refl _ | with_reducible assumption | with_reducible refine Up.set ?_ (by first | exact Nat.le_refl _ | (simp only []; omega) | (simp; omega)) _ | with_reducible refine Up.alloc ?_ _ | with_reducible refine Up.drew ?_ | refine Up.trans ?_ (by with_reducible assumption)))
      have hrd2 := put_rd (y := ⟨x.k, x.pend, x.bits, true⟩) hp2' (HR.out.up (show Up w w1 by (repeat (first | with_reducible exact Up.refl _ | with_reducible assumption | with_reducible refine Up.set ?_ (by first | exact Nat.le_refl _ | (simp only []; omega) | (simp; omega)) _ | with_reducible refine Up.alloc ?_ _ | with_reducible refine Up.drew ?_ | refine Up.trans ?_ (by with_reducible assumption))))) U2
      have hl2 : w.heap.size + 1 ≤ w2.heap.size := by have h1 := U1.size; have h2 := U2.size; simp at h1; omega
      clear U1 U2 hp2' cB cV B1 Z1
      dsimp only at hrd2
      unfold wrV
      go_simp
      iterate 13 go_step
      have hUa : Up w2 (w2.alloc (.cells #[.int .i64 x.k.set.ord, .int .i64 x.k.set.lit, .int .i64 x.k.set.most, .slice a2 x.k.ps.length c2, .int .i64 x.k.base, .int .i64 x.k.last, .string (bs x.pend), .string (bs x.bits), .bool true] 37)) := (Up.refl _).alloc _
      have hA : WrAt w2.heap.size ⟨x.k, x.pend, x.bits, true⟩ (.slice a2 x.k.ps.length c2) (w2.alloc (.cells #[.int .i64 x.k.set.ord, .int .i64 x.k.set.lit, .int .i64 x.k.set.most, .slice a2 x.k.ps.length c2, .int .i64 x.k.base, .int .i64 x.k.last, .string (bs x.pend), .string (bs x.bits), .bool true] 37)) := (MapKept.heap_alloc w2 _).1
      have HA := Lib.hid (And.intro hA (And.intro (hX.up hUa) (And.intro (hU2.trans hUa) (hrd2.up hUa))))
      have hzA : w2.heap.size < (w2.alloc (.cells #[.int .i64 x.k.set.ord, .int .i64 x.k.set.lit, .int .i64 x.k.set.most, .slice a2 x.k.ps.length c2, .int .i64 x.k.base, .int .i64 x.k.last, .string (bs x.pend), .string (bs x.bits), .bool true] 37)).heap.size := by simp
      have HD := Lib.hid (And.intro hrd2 hUa)
      clear hA hX hU2 hrd2 hUa hrt
      generalize w2.alloc (.cells #[.int .i64 x.k.set.ord, .int .i64 x.k.set.lit, .int .i64 x.k.set.most, .slice a2 x.k.ps.length c2, .int .i64 x.k.base, .int .i64 x.k.last, .string (bs x.pend), .string (bs x.bits), .bool true] 37) = W3 at *
      obtain ⟨hbx, r0, r1, r2, r3, r4, r5, r6, r7, r8⟩ := HA.out.2.1.cells
      obtain ⟨hby, s0, s1, s2, s3, s4, s5, s6, s7, s8⟩ := HA.out.1.cells
      go_wp2_with fail
      refine wp_region_up 7 (by kernel_rfl) (by kernel_rfl) ?_
      simp only [List.take, List.drop]
      repeat (refine wpUp_step (fun K hK => ?_); go_simp; (try simp only [↓IntWalk.iteOmega]); first
        | (refine hK _ _ ?_; clear hK K)
        | (apply stepU_c
           · intro wq hwq; (have hbq := bcell hwq; (repeat (first | refine fills_no (by rfl) ?_ | refine fills_yes (by rfl) (fun vq hvq => ?_))); simp only [List.filter_nil, fills]; unfold upAt; (try (skip)); go_simp; (try go_bits); (try simp only [↓IntWalk.iteOmega]); (try (rw [dif_pos (by omega)]; go_simp; try go_bits)); first | exact upOut_value | (apply upOut_call; (go_at_call 86; exact cF _ _ _ (HA.out.2.2.2.up hwq))) | (apply upOut_eq; (go_at_call 86; exact cF _ _ _ (HA.out.2.2.2.up hwq))))
           go_simp; refine hK _ _ ?_; clear hK K)
        | (refine stepU_m (by kernel_rfl) (PutO W3.heap.size ⟨k9, x.pend, b9, true⟩ x.k.ps (.slice a2 x.k.ps.length c2)) (putO_closed _ _ _ _) (fun wq hwq => ?_) ?_
           · (have hbq := bcell hwq; (repeat (first | refine fills_no (by rfl) ?_ | refine fills_yes (by rfl) (fun vq hvq => ?_))); simp only [List.filter_nil, fills]; unfold upAt; (try (skip)); go_simp; (try go_bits); (try simp only [↓IntWalk.iteOmega]); (try (rw [dif_pos (by omega)]; go_simp; try go_bits)); ((with_reducible refine upOut_put ?_ hwq.size); go_at_call 85; exact cPn _ _ _ (HA.out.2.2.2.up hwq)))
           refine hK _ _ ?_; clear hK K))
      refine wpUp_nil (fun wq hwq => ?_)
      simp only [fills]
      rintro u ⟨v9, rfl, h9⟩
      obtain ⟨a9, c9, rfl⟩ := put_shape h9
      dsimp only at h9
      have hrd9 : RdP 0 wq (.slice a9 k9.ps.length c9) k9.ps := by
        rcases h9 with ⟨h1, h2⟩ | h
        · rw [h1, h2]; exact HA.out.2.2.2.up hwq
        · exact (RdP.of_own h).low (Nat.zero_le _)
      have HQ := Lib.hid (And.intro (HA.out.1.up hwq) (And.intro (HA.out.2.1.up hwq) (And.intro (HA.out.2.2.1.trans hwq) hrd9)))
      have hzq := hwq.size
      have H9 := Lib.hid h9
      have HUQ := Lib.hid hwq
      clear hwq h9 hrd9 HA cF cPn r0 r1 r2 r3 r4 r5 r6 r7 r8 s0 s1 s2 s3 s4 s5 s6 s7 s8 hbx hby
      obtain ⟨hby, s0, s1, s2, s3, s4, s5, s6, s7, s8⟩ := HQ.out.1.cells
      have hfy := box_free HQ.out.1
      unfold wrV
      go_simp
      iterate 4 go_step
      have hY : WrAt w2.heap.size ⟨k9, x.pend, b9, true⟩ (.slice a9 k9.ps.length c9) (((((((((wq.setCell ⟨w2.heap.size, 0, none⟩ (.int .i64 k9.set.ord)).setCell ⟨w2.heap.size, 1, none⟩ (.int .i64 k9.set.lit)).setCell ⟨w2.heap.size, 2, none⟩ (.int .i64 k9.set.most)).setCell ⟨w2.heap.size, 3, none⟩ (.slice a9 k9.ps.length c9)).setCell ⟨w2.heap.size, 4, none⟩ (.int .i64 k9.base)).setCell ⟨w2.heap.size, 5, none⟩ (.int .i64 k9.last)).setCell ⟨w2.heap.size, 6, none⟩ (.string (bs x.pend))).setCell ⟨w2.heap.size, 7, none⟩ (.string (bs b9))).setCell ⟨w2.heap.size, 8, none⟩ (.bool true)) := by
        have h0 := WrAt.store HQ.out.1 ⟨k9, x.pend, b9, true⟩ (.slice a9 k9.ps.length c9)
        simpa [WrW, KnW] using h0
      have hneb : w.heap.size ≠ w2.heap.size := by omega
      have hX : WrAt w.heap.size x (.slice a x.k.ps.length cap) (((((((((wq.setCell ⟨w2.heap.size, 0, none⟩ (.int .i64 k9.set.ord)).setCell ⟨w2.heap.size, 1, none⟩ (.int .i64 k9.set.lit)).setCell ⟨w2.heap.size, 2, none⟩ (.int .i64 k9.set.most)).setCell ⟨w2.heap.size, 3, none⟩ (.slice a9 k9.ps.length c9)).setCell ⟨w2.heap.size, 4, none⟩ (.int .i64 k9.base)).setCell ⟨w2.heap.size, 5, none⟩ (.int .i64 k9.last)).setCell ⟨w2.heap.size, 6, none⟩ (.string (bs x.pend))).setCell ⟨w2.heap.size, 7, none⟩ (.string (bs b9))).setCell ⟨w2.heap.size, 8, none⟩ (.bool true)) := (WrW.other hneb ⟨k9, x.pend, b9, true⟩ (.slice a9 k9.ps.length c9)).trans HQ.out.2.1
      have hU5 : Up w (((((((((wq.setCell ⟨w2.heap.size, 0, none⟩ (.int .i64 k9.set.ord)).setCell ⟨w2.heap.size, 1, none⟩ (.int .i64 k9.set.lit)).setCell ⟨w2.heap.size, 2, none⟩ (.int .i64 k9.set.most)).setCell ⟨w2.heap.size, 3, none⟩ (.slice a9 k9.ps.length c9)).setCell ⟨w2.heap.size, 4, none⟩ (.int .i64 k9.base)).setCell ⟨w2.heap.size, 5, none⟩ (.int .i64 k9.last)).setCell ⟨w2.heap.size, 6, none⟩ (.string (bs x.pend))).setCell ⟨w2.heap.size, 7, none⟩ (.string (bs b9))).setCell ⟨w2.heap.size, 8, none⟩ (.bool true)) := by
        have hU := HQ.out.2.2.1
        (repeat (first | with_reducible exact Up.refl _ | with_reducible assumption | with_reducible refine Up.set ?_ (by first | exact Nat.le_refl _ | (simp only []; omega) | (simp; omega)) _ | with_reducible refine Up.alloc ?_ _ | with_reducible refine Up.drew ?_ | refine Up.trans ?_ (by with_reducible assumption)))
      have hRd : RdP 0 (((((((((wq.setCell ⟨w2.heap.size, 0, none⟩ (.int .i64 k9.set.ord)).setCell ⟨w2.heap.size, 1, none⟩ (.int .i64 k9.set.lit)).setCell ⟨w2.heap.size, 2, none⟩ (.int .i64 k9.set.most)).setCell ⟨w2.heap.size, 3, none⟩ (.slice a9 k9.ps.length c9)).setCell ⟨w2.heap.size, 4, none⟩ (.int .i64 k9.base)).setCell ⟨w2.heap.size, 5, none⟩ (.int .i64 k9.last)).setCell ⟨w2.heap.size, 6, none⟩ (.string (bs x.pend))).setCell ⟨w2.heap.size, 7, none⟩ (.string (bs b9))).setCell ⟨w2.heap.size, 8, none⟩ (.bool true)) (.slice a9 k9.ps.length c9) k9.ps := by
        rcases H9.out with ⟨h1, h2⟩ | h
        · have hr9 : RdP 0 w2 (.slice a9 k9.ps.length c9) k9.ps := by rw [h1, h2]; exact HD.out.1
          have hU : Up w2 wq := HD.out.2.trans HUQ.out
          refine hr9.up ?_
          (repeat (first | with_reducible exact Up.refl _ | with_reducible assumption | with_reducible refine Up.set ?_ (by first | exact Nat.le_refl _ | (simp only []; omega) | (simp; omega)) _ | with_reducible refine Up.alloc ?_ _ | with_reducible refine Up.drew ?_ | refine Up.trans ?_ (by with_reducible assumption)))
        · have hne1 := box_ne HQ.out.1 h (by decide)
          refine (RdP.of_own (base := W3.heap.size) ?_).low (Nat.zero_le _)
          repeat (with_reducible refine ownsRow_setb ?_ hne1 _ _)
          exact h
      have HA := Lib.hid (And.intro hY (And.intro hX (And.intro hU5 hRd)))
      have hzA : w2.heap.size < (((((((((wq.setCell ⟨w2.heap.size, 0, none⟩ (.int .i64 k9.set.ord)).setCell ⟨w2.heap.size, 1, none⟩ (.int .i64 k9.set.lit)).setCell ⟨w2.heap.size, 2, none⟩ (.int .i64 k9.set.most)).setCell ⟨w2.heap.size, 3, none⟩ (.slice a9 k9.ps.length c9)).setCell ⟨w2.heap.size, 4, none⟩ (.int .i64 k9.base)).setCell ⟨w2.heap.size, 5, none⟩ (.int .i64 k9.last)).setCell ⟨w2.heap.size, 6, none⟩ (.string (bs x.pend))).setCell ⟨w2.heap.size, 7, none⟩ (.string (bs b9))).setCell ⟨w2.heap.size, 8, none⟩ (.bool true)).heap.size := by simp [World.setCell]; omega
      clear hY hX hU5 HQ hRd s0 s1 s2 s3 s4 s5 s6 s7 s8 hfy hby hzq hneb
      generalize (((((((((wq.setCell ⟨w2.heap.size, 0, none⟩ (.int .i64 k9.set.ord)).setCell ⟨w2.heap.size, 1, none⟩ (.int .i64 k9.set.lit)).setCell ⟨w2.heap.size, 2, none⟩ (.int .i64 k9.set.most)).setCell ⟨w2.heap.size, 3, none⟩ (.slice a9 k9.ps.length c9)).setCell ⟨w2.heap.size, 4, none⟩ (.int .i64 k9.base)).setCell ⟨w2.heap.size, 5, none⟩ (.int .i64 k9.last)).setCell ⟨w2.heap.size, 6, none⟩ (.string (bs x.pend))).setCell ⟨w2.heap.size, 7, none⟩ (.string (bs b9))).setCell ⟨w2.heap.size, 8, none⟩ (.bool true)) = W5 at *
      obtain ⟨hbx, r0, r1, r2, r3, r4, r5, r6, r7, r8⟩ := HA.out.2.1.cells
      obtain ⟨hby, s0, s1, s2, s3, s4, s5, s6, s7, s8⟩ := HA.out.1.cells
      go_wp2_with fail
      have hw9 := KnD.width_bd HK9.out.1
      have hs9 := HK9.out.2.1
      have hl9 := HK9.out.2.2.1
      have hib : isBits (b9 ++ codeL x.k.set.ord (clr x.k.set + 1) k9.width) := HK9.out.2.2.2.app (isBits_code _ _ _)
      have hil : (b9 ++ codeL x.k.set.ord (clr x.k.set + 1) k9.width).length ≤ 1000 := by rw [List.length_append, codeL_length]; omega
      have cE9 := fun wq => l1End_any k9.set wq HK9.out.1.set
      have cP := fun wq hr => put_any ⟨k9, x.pend, b9, true⟩ (.slice a9 k9.ps.length c9) 0 (clr k9.set + 1) wq HK9.out.1 hr (by rw [hs9]; omega) (by show b9.length ≤ 900000; omega) (.inl (by show ((clr k9.set + 1 : Nat) : Int) = (k9.c : Int) + 1; unfold KnD.c; omega))
      have hpw : putW ⟨k9, x.pend, b9, true⟩ (clr k9.set + 1) = ⟨k9, x.pend, b9 ++ codeL x.k.set.ord (clr x.k.set + 1) k9.width, true⟩ := by
        unfold putW
        dsimp only
        rw [show k9.thru ((clr k9.set + 1 : Nat) : Int) = k9 by unfold KnD.thru; rw [if_pos (by unfold KnD.c; omega)], hs9]
      rw [hpw, show ((clr k9.set + 1 : Nat) : Int) = (clr k9.set : Int) + 1 from by omega] at cP
      clear hpw hs9 cE
      generalize b9 ++ codeL x.k.set.ord (clr x.k.set + 1) k9.width = bz at *
      have cK := fun wx => l1Pack_any x.k.set.ord (bs bz) wx (by rw [bs_data]; exact hib) (by rw [bs_size]; omega)
      rw [bs_data] at cK
      unfold wrV at cP
      simp only [setV] at cE9
      refine wp_region_up 6 (by kernel_rfl) (by kernel_rfl) ?_
      simp only [List.take, List.drop]
      repeat (refine wpUp_step (fun K hK => ?_); go_simp; (try simp only [↓IntWalk.iteOmega]); first
        | (refine hK _ _ ?_; clear hK K)
        | (apply stepU_c
           · intro wq hwq; (have hbq := bcell hwq; (repeat (first | refine fills_no (by rfl) ?_ | refine fills_yes (by rfl) (fun vq hvq => ?_))); simp only [List.filter_nil, fills]; unfold upAt; (try (skip)); go_simp; (try go_bits); (try simp only [↓IntWalk.iteOmega]); (try (rw [dif_pos (by omega)]; go_simp; try go_bits)); first | exact upOut_value | (apply upOut_call; (go_at_call 72; exact cE9 _)) | (apply upOut_eq; (go_at_call 72; exact cE9 _)))
           go_simp; refine hK _ _ ?_; clear hK K)
        | (refine stepU_m (by kernel_rfl) (PutO W5.heap.size ⟨k9, x.pend, bz, true⟩ k9.ps (.slice a9 k9.ps.length c9)) (putO_closed _ _ _ _) (fun wq hwq => ?_) ?_
           · (have hbq := bcell hwq; (repeat (first | refine fills_no (by rfl) ?_ | refine fills_yes (by rfl) (fun vq hvq => ?_))); simp only [List.filter_nil, fills]; unfold upAt; (try (skip)); go_simp; (try go_bits); (try simp only [↓IntWalk.iteOmega]); (try (rw [dif_pos (by omega)]; go_simp; try go_bits)); ((with_reducible refine upOut_put ?_ hwq.size); go_at_call 85; exact cP _ (HA.out.2.2.2.up hwq)))
           refine hK _ _ ?_; clear hK K))
      refine wpUp_nil (fun wq hwq => ?_)
      simp only [fills]
      rintro u ⟨vz, rfl, hz⟩
      obtain ⟨az, cz, rfl⟩ := put_shape hz
      have HQ := Lib.hid (And.intro (HA.out.1.up hwq) (And.intro (HA.out.2.1.up hwq) (HA.out.2.2.1.trans hwq)))
      have hzq := hwq.size
      clear hwq hz HA cP cE9 r0 r1 r2 r3 r4 r5 r6 r7 r8 s0 s1 s2 s3 s4 s5 s6 s7 s8 hbx hby
      obtain ⟨hby, s0, s1, s2, s3, s4, s5, s6, s7, s8⟩ := HQ.out.1.cells
      have hfy := box_free HQ.out.1
      dsimp only
      unfold wrV
      go_simp
      iterate 4 go_step
      have hY : WrAt w2.heap.size ⟨k9, x.pend, bz, true⟩ (.slice az k9.ps.length cz) (((((((((wq.setCell ⟨w2.heap.size, 0, none⟩ (.int .i64 k9.set.ord)).setCell ⟨w2.heap.size, 1, none⟩ (.int .i64 k9.set.lit)).setCell ⟨w2.heap.size, 2, none⟩ (.int .i64 k9.set.most)).setCell ⟨w2.heap.size, 3, none⟩ (.slice az k9.ps.length cz)).setCell ⟨w2.heap.size, 4, none⟩ (.int .i64 k9.base)).setCell ⟨w2.heap.size, 5, none⟩ (.int .i64 k9.last)).setCell ⟨w2.heap.size, 6, none⟩ (.string (bs x.pend))).setCell ⟨w2.heap.size, 7, none⟩ (.string (bs bz))).setCell ⟨w2.heap.size, 8, none⟩ (.bool true)) := by
        have h0 := WrAt.store HQ.out.1 ⟨k9, x.pend, bz, true⟩ (.slice az k9.ps.length cz)
        simpa [WrW, KnW] using h0
      have hneb : w.heap.size ≠ w2.heap.size := by omega
      have hX : WrAt w.heap.size x (.slice a x.k.ps.length cap) (((((((((wq.setCell ⟨w2.heap.size, 0, none⟩ (.int .i64 k9.set.ord)).setCell ⟨w2.heap.size, 1, none⟩ (.int .i64 k9.set.lit)).setCell ⟨w2.heap.size, 2, none⟩ (.int .i64 k9.set.most)).setCell ⟨w2.heap.size, 3, none⟩ (.slice az k9.ps.length cz)).setCell ⟨w2.heap.size, 4, none⟩ (.int .i64 k9.base)).setCell ⟨w2.heap.size, 5, none⟩ (.int .i64 k9.last)).setCell ⟨w2.heap.size, 6, none⟩ (.string (bs x.pend))).setCell ⟨w2.heap.size, 7, none⟩ (.string (bs bz))).setCell ⟨w2.heap.size, 8, none⟩ (.bool true)) := (WrW.other hneb ⟨k9, x.pend, bz, true⟩ (.slice az k9.ps.length cz)).trans HQ.out.2.1
      have hU5 : Up w (((((((((wq.setCell ⟨w2.heap.size, 0, none⟩ (.int .i64 k9.set.ord)).setCell ⟨w2.heap.size, 1, none⟩ (.int .i64 k9.set.lit)).setCell ⟨w2.heap.size, 2, none⟩ (.int .i64 k9.set.most)).setCell ⟨w2.heap.size, 3, none⟩ (.slice az k9.ps.length cz)).setCell ⟨w2.heap.size, 4, none⟩ (.int .i64 k9.base)).setCell ⟨w2.heap.size, 5, none⟩ (.int .i64 k9.last)).setCell ⟨w2.heap.size, 6, none⟩ (.string (bs x.pend))).setCell ⟨w2.heap.size, 7, none⟩ (.string (bs bz))).setCell ⟨w2.heap.size, 8, none⟩ (.bool true)) := by
        have hU := HQ.out.2.2
        (repeat (first | with_reducible exact Up.refl _ | with_reducible assumption | with_reducible refine Up.set ?_ (by first | exact Nat.le_refl _ | (simp only []; omega) | (simp; omega)) _ | with_reducible refine Up.alloc ?_ _ | with_reducible refine Up.drew ?_ | refine Up.trans ?_ (by with_reducible assumption)))
      have HF := Lib.hid (And.intro hY (And.intro hX hU5))
      clear hY hX hU5 HQ s0 s1 s2 s3 s4 s5 s6 s7 s8 hfy
      generalize (((((((((wq.setCell ⟨w2.heap.size, 0, none⟩ (.int .i64 k9.set.ord)).setCell ⟨w2.heap.size, 1, none⟩ (.int .i64 k9.set.lit)).setCell ⟨w2.heap.size, 2, none⟩ (.int .i64 k9.set.most)).setCell ⟨w2.heap.size, 3, none⟩ (.slice az k9.ps.length cz)).setCell ⟨w2.heap.size, 4, none⟩ (.int .i64 k9.base)).setCell ⟨w2.heap.size, 5, none⟩ (.int .i64 k9.last)).setCell ⟨w2.heap.size, 6, none⟩ (.string (bs x.pend))).setCell ⟨w2.heap.size, 7, none⟩ (.string (bs bz))).setCell ⟨w2.heap.size, 8, none⟩ (.bool true)) = W9 at HF ⊢
      obtain ⟨hby, s0, s1, s2, s3, s4, s5, s6, s7, s8⟩ := HF.out.1.cells
      obtain ⟨hbx, r0, r1, r2, r3, r4, r5, r6, r7, r8⟩ := HF.out.2.1.cells
      go_wp2_with (first | ((go_at_call 83; (with_reducible refine (cK _).mono ?_); rintro e w8 ⟨rfl, U8⟩; have B8 := bcell U8; have Z8 := U8.size; (try simp at Z8); (try rw [Nat.add_one_le_iff] at Z8))) | fail)
      go_ret2
      exact ⟨rfl, HF.out.2.2.trans U8⟩
end Go.Proofs.YtgbakgaegldomaaGreat

