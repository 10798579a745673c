/- Texts joined into one: the walks and laws that the last text leans on. Conditions: as each says. -/
import Derived.Test.YtgbakgaegldomaaGreatMFnWriterKnownLawXL
import Derived.Test.YtgbakgaegldomaaGreatMFnWriterKnownLawM

set_option linter.unusedVariables false
set_option linter.unusedSimpArgs false
/- Walks of the reference's WriteData and CloseWriter, for writers of any kind. Conditions: the pairs can be read, the texts are no longer than 2^20 bytes. -/
namespace Go.Proofs.YtgbakgaegldomaaGreat
open Go Go.RowKit
theorem WlD.outs {T : List UInt8 × KnD × List UInt8} {s : SetD} : ∀ (m : Nat) (k : KnD) (d b : List UInt8), WlD T s m k d b → isBits T.1 ∧ T.1.length ≤ 41000 := by
  intro m
  induction m with
  | zero => intro k d b h; have h1 := h.len; have h2 := List.length_pos_iff.2 h.ne; omega
  | succ m ih =>
    intro k d b h
    by_cases hl : k.longest d = d
    · rw [h.stop hl]; exact ⟨h.bit, by have := h.sum; show b.length ≤ 41000; omega⟩
    · obtain ⟨_, h1, h2⟩ := h.step hl
      cases hf : (k.after (k.find (k.longest d))).full
      · exact ih _ _ _ (h2 hf)
      · exact ih _ _ _ (h1 hf)
theorem wdS_pre (x : WrD) (v1 : Value) (a : Option Addr) (cap : Nat) (w w1 : World) (ho : ownPr w1 (w.heap.size + 2) v1 x.k.ps) (hx : WrAt w.heap.size x (.slice a x.k.ps.length cap) w1) (hz : WrAt (w.heap.size + 1) wr0 (.slice none 0 0) w1) (hu : Up w w1) :
    WrAt w.heap.size x v1 (WrW w1 w.heap.size x v1) ∧ WrAt (w.heap.size + 1) wr0 (.slice none 0 0) (WrW w1 w.heap.size x v1) ∧ Up w (WrW w1 w.heap.size x v1) ∧ ownPr (WrW w1 w.heap.size x v1) (w.heap.size + 2) v1 x.k.ps :=
  ⟨WrAt.store hx x v1, (WrW.other (by omega) x v1).trans hz, WrW.up hu (Nat.le_refl _) x v1, WrW.own ho (fun e => by have := (ho.lt _ e.symm).1; omega) x v1⟩
set_option maxRecDepth 100000 in
set_option maxHeartbeats 16000000 in
theorem wdS_any (x : WrD) (v : Value) (lo : Nat) (d : List UInt8) (w : World) (hr : RdP lo w v x.k.ps) (hps : x.k.ps.length ≤ 1048576) (hp : x.pend.length ≤ 1048576) (hb : x.bits.length ≤ 1048576) (hd : d.length ≤ 1048576) :
    Calls Tryz.prog 35  #[wrV x v, .string (bs d)] w (WdPost (wdO x d) w) := by
  have cO := fun wq hr => ownWS_any x v lo wq hr hps
  have hrt := fun (wq : World) (hu : Up w wq) => hr.up hu
  have hsp := bs_size x.pend
  have hsd := bs_size d
  have hn2 : (bs x.pend).size + (bs d).size ≤ 2097152 := by omega
  have hcat : bs x.pend ++ bs d = bs (x.pend ++ d) := bs_app _ _
  obtain ⟨a, cap, rfl, -, -, -, -⟩ := id hr
  clear hr
  unfold wrV at *
  go_enter Tryz.func35, Tryz.ntmps35
  go_wp2_with fail
  with_reducible refine (cO _ (hrt _ (by (repeat (first | with_reducible exact Up.refl _ | with_reducible assumption | with_reducible refine Up.set ?_ (by first | exact Nat.le_refl _ | (simp only []; omega) | (simp; omega)) _ | with_reducible refine Up.alloc ?_ _ | with_reducible refine Up.drew ?_ | refine Up.trans ?_ (by with_reducible assumption)))))).mono ?_
  rintro e w1 ⟨v1, rfl, ho1, U1⟩
  obtain ⟨a1, c1, rfl⟩ := ownsRow_shape ho1
  have hX := WrAt.up (show WrAt w.heap.size x (.slice a x.k.ps.length cap) _ from box_up ((Up.refl _).alloc _) (MapKept.heap_alloc w _).1) U1
  have hZ := WrAt.zero (box_up U1 (alloc2 w _ _))
  have hU1 : Up w w1 := by (repeat (first | with_reducible exact Up.refl _ | with_reducible assumption | with_reducible refine Up.set ?_ (by first | exact Nat.le_refl _ | (simp only []; omega) | (simp; omega)) _ | with_reducible refine Up.alloc ?_ _ | with_reducible refine Up.drew ?_ | refine Up.trans ?_ (by with_reducible assumption)))
  have hl1 : w.heap.size + 2 ≤ w1.heap.size := by have := U1.size; simp at this; exact this
  have HP := Lib.hid (wdS_pre x (.slice a1 x.k.ps.length c1) a cap w w1 (ownsRow_base ho1 (by simp)) hX hZ hU1)
  have hlz : w1.heap.size ≤ (WrW w1 w.heap.size x (.slice a1 x.k.ps.length c1)).heap.size := by unfold WrW KnW; simp [World.setCell]
  obtain ⟨hbx, r0, r1, r2, r3, r4, r5, r6, r7, r8⟩ := hX.cells
  have hfx := box_free hX
  clear ho1 hX hZ hU1 U1 cO hrt
  unfold wrV
  go_wp2_with fail
  rw [show (((((((((w1.setCell ⟨w.heap.size, 0, none⟩ (.int .i64 x.k.set.ord)).setCell ⟨w.heap.size, 1, none⟩ (.int .i64 x.k.set.lit)).setCell ⟨w.heap.size, 2, none⟩ (.int .i64 x.k.set.most)).setCell ⟨w.heap.size, 3, none⟩ (.slice a1 x.k.ps.length c1)).setCell ⟨w.heap.size, 4, none⟩ (.int .i64 x.k.base)).setCell ⟨w.heap.size, 5, none⟩ (.int .i64 x.k.last)).setCell ⟨w.heap.size, 6, none⟩ (.string (bs x.pend))).setCell ⟨w.heap.size, 7, none⟩ (.string (bs x.bits))).setCell ⟨w.heap.size, 8, none⟩ (.bool x.beg)) = WrW w1 w.heap.size x (.slice a1 x.k.ps.length c1) from rfl]
  clear r0 r1 r2 r3 r4 r5 r6 r7 r8 hbx hfx
  generalize WrW w1 w.heap.size x (.slice a1 x.k.ps.length c1) = W1 at HP hlz ⊢
  have hlW : w.heap.size + 2 ≤ W1.heap.size := by omega
  clear hlz hl1
  have hrt := fun (wq : World) (hu : Up W1 wq) => (RdP.of_own HP.out.2.2.2).up hu
  have cV := fun wq hr => wvS_any x (.slice a1 x.k.ps.length c1) (w.heap.size + 2) wq hr (by omega) (by omega) (by omega)
  unfold wrV at cV
  obtain ⟨hbx, r0, r1, r2, r3, r4, r5, r6, r7, r8⟩ := HP.out.1.cells
  have hfx := box_free HP.out.1
  obtain ⟨hbz, q0, q1, q2, q3, q4, q5, q6, q7, q8⟩ := HP.out.2.1.cells
  simp only [wr0] at q0 q1 q2 q3 q4 q5 q6 q7 q8
  have hfz := box_free HP.out.2.1
  cases hok : wrvB x
  · have HNO := Lib.hid (wdO_none (w := x) (d := d) (by rw [hok]; rfl))
    rw [hok] at cV
    clear hok
    with_reducible refine (cV _ (hrt _ (Up.refl _))).mono ?_
    rintro e w3 ⟨rfl, U3⟩
    have B3 := bcell U3
    have hl3 := U3.size
    have HU3 := Lib.hid (HP.out.2.2.1.trans U3)
    go_wp2_with fail
    obtain ⟨-, q0, q1, q2, q3, q4, q5, q6, q7, q8⟩ := (HP.out.2.1.up U3).cells
    simp only [wr0] at q0 q1 q2 q3 q4 q5 q6 q7 q8
    refine bodyPost_ret (v := .tuple #[noWr, .string ⟨#[]⟩, .bool false]) (by simp [results, Tryz.results35, go_sem, q0, q1, q2, q3, q4, q5, q6, q7, q8]; rfl) rfl ?_
    rw [HNO.out]
    refine wdP_none rfl ?_
    have hU := HU3.out
    (repeat (first | with_reducible exact Up.refl _ | with_reducible assumption | with_reducible refine Up.set ?_ (by first | exact Nat.le_refl _ | (simp only []; omega) | (simp; omega)) _ | with_reducible refine Up.alloc ?_ _ | with_reducible refine Up.drew ?_ | refine Up.trans ?_ (by with_reducible assumption)))
  · rw [hok] at cV
    have cF := fun wq => fitsS_any x.k.set (bs (x.pend ++ d)) wq (by rw [bs_size, List.length_append]; omega)
    rw [bs_data] at cF
    simp only [setV] at cF
    cases hfit : fitsB x.k.set (x.pend ++ d)
    · have HNO := Lib.hid (wdO_none (w := x) (d := d) (by rw [hok, hfit]; rfl))
      rw [hfit] at cF
      clear hok hfit
      with_reducible refine (cV _ (hrt _ (Up.refl _))).mono ?_
      rintro e w3 ⟨rfl, U3⟩
      have B3 := bcell U3
      have hl3 := U3.size
      go_wp2_with (first | (go_at_call 81; (with_reducible refine (cF _).mono ?_); rintro e w4 ⟨rfl, U4⟩; have B4 := bcell U4; have hl4 := U4.size; obtain ⟨hbz, q0, q1, q2, q3, q4, q5, q6, q7, q8⟩ := ((HP.out.2.1.up U3).up U4).cells; simp only [wr0] at q0 q1 q2 q3 q4 q5 q6 q7 q8; have hfz := box_free ((HP.out.2.1.up U3).up U4); obtain ⟨hbx, r0, r1, r2, r3, r4, r5, r6, r7, r8⟩ := ((HP.out.1.up U3).up U4).cells; have hfx := box_free ((HP.out.1.up U3).up U4)) | fail)
      have HU3 := Lib.hid ((HP.out.2.2.1.trans U3).trans U4)
      refine bodyPost_ret (v := .tuple #[noWr, .string ⟨#[]⟩, .bool false]) (by simp [results, Tryz.results35, go_sem, q0, q1, q2, q3, q4, q5, q6, q7, q8]; rfl) rfl ?_
      rw [HNO.out]
      refine wdP_none rfl ?_
      have hU := HU3.out
      (repeat (first | with_reducible exact Up.refl _ | with_reducible assumption | with_reducible refine Up.set ?_ (by first | exact Nat.le_refl _ | (simp only []; omega) | (simp; omega)) _ | with_reducible refine Up.alloc ?_ _ | with_reducible refine Up.drew ?_ | refine Up.trans ?_ (by with_reducible assumption)))
    · have HYES := Lib.hid (wdO_some (w := x) (d := d) (by rw [hok, hfit]; rfl))
      rw [hfit] at cF
      have hwok := wrvB_ok hok
      have hfits := fitsB_lits hfit
      clear hok hfit
      with_reducible refine (cV _ (hrt _ (Up.refl _))).mono ?_
      rintro e w3 ⟨rfl, U3⟩
      have B3 := bcell U3
      have hl3 := U3.size
      by_cases hd0 : d = []
      · subst hd0
        have HDE := isEmpty_nil
        rw [List.append_nil] at cF
        have cY := fun wx hr => copyS_any x.k (.slice a1 x.k.ps.length c1) (w.heap.size + 2) wx hr (by omega)
        simp only [kV] at cY
        go_wp2_with (first | (go_at_call 81; (with_reducible refine (cF _).mono ?_); rintro e w4 ⟨rfl, U4⟩; have B4 := bcell U4; have hl4 := U4.size; obtain ⟨hbz, q0, q1, q2, q3, q4, q5, q6, q7, q8⟩ := ((HP.out.2.1.up U3).up U4).cells; simp only [wr0] at q0 q1 q2 q3 q4 q5 q6 q7 q8; have hfz := box_free ((HP.out.2.1.up U3).up U4); obtain ⟨hbx, r0, r1, r2, r3, r4, r5, r6, r7, r8⟩ := ((HP.out.1.up U3).up U4).cells; have hfx := box_free ((HP.out.1.up U3).up U4)) | fail)
        have hUa : Up w4 (w4.alloc (.cells #[.int .i64 x.k.set.ord, .int .i64 x.k.set.lit, .int .i64 x.k.set.most, .slice a1 x.k.ps.length c1, .int .i64 x.k.base, .int .i64 x.k.last, .string (bs x.pend), .string (bs x.bits), .bool x.beg] 37)) := (Up.refl _).alloc _
        have hA : WrAt w4.heap.size x (.slice a1 x.k.ps.length c1) (w4.alloc (.cells #[.int .i64 x.k.set.ord, .int .i64 x.k.set.lit, .int .i64 x.k.set.most, .slice a1 x.k.ps.length c1, .int .i64 x.k.base, .int .i64 x.k.last, .string (bs x.pend), .string (bs x.bits), .bool x.beg] 37)) := (MapKept.heap_alloc w4 _).1
        have HA := Lib.hid (And.intro hA (And.intro (((HP.out.2.1.up U3).up U4).up hUa) (((HP.out.2.2.1.trans U3).trans U4).trans hUa)))
        have hzA : w4.heap.size < (w4.alloc (.cells #[.int .i64 x.k.set.ord, .int .i64 x.k.set.lit, .int .i64 x.k.set.most, .slice a1 x.k.ps.length c1, .int .i64 x.k.base, .int .i64 x.k.last, .string (bs x.pend), .string (bs x.bits), .bool x.beg] 37)).heap.size := by simp
        with_reducible refine (cY _ (hrt _ ((U3.trans U4).trans hUa))).mono ?_
        clear hA hUa
        generalize w4.alloc (.cells #[.int .i64 x.k.set.ord, .int .i64 x.k.set.lit, .int .i64 x.k.set.most, .slice a1 x.k.ps.length c1, .int .i64 x.k.base, .int .i64 x.k.last, .string (bs x.pend), .string (bs x.bits), .bool x.beg] 37) = W6 at *
        rintro e w5 ⟨v5, rfl, ho5, U5⟩
        obtain ⟨a5, c5, rfl⟩ := ownsRow_shape ho5
        have HQ := Lib.hid (And.intro (HA.out.1.up U5) (And.intro (HA.out.2.1.up U5) (And.intro (HA.out.2.2.trans U5) ho5)))
        have hzq := U5.size
        have HW := Lib.hid (HYES.out.trans (congrArg some (show x.write [] = (x, []) by unfold WrD.write; rw [if_pos rfl])))
        clear ho5 U5 HA HYES HP U3 U4 cY cF cV hrt r0 r1 r2 r3 r4 r5 r6 r7 r8 q0 q1 q2 q3 q4 q5 q6 q7 q8 hbx hbz hfx hfz B3 B4
        obtain ⟨hby, s0, s1, s2, s3, s4, s5, s6, s7, s8⟩ := HQ.out.1.cells
        have hfy := box_free HQ.out.1
        obtain ⟨hbz, q0, q1, q2, q3, q4, q5, q6, q7, q8⟩ := HQ.out.2.1.cells
        simp only [wr0] at q0 q1 q2 q3 q4 q5 q6 q7 q8
        have hfz := box_free HQ.out.2.1
        simp only [kV]
        go_wp2_with fail
        refine bodyPost_ret (v := .tuple #[wrV x (.slice a5 x.k.ps.length c5), .string ⟨#[]⟩, .bool true]) (by simp [results, Tryz.results35, go_sem, q0, q1, q2, q3, q4, q5, q6, q7, q8]; rfl) rfl ?_
        rw [HW.out]
        refine ⟨.slice a5 x.k.ps.length c5, rfl, ?_, ?_⟩
        · have ho := ownsRow_base HQ.out.2.2.2 (show w.heap.size ≤ W6.heap.size by omega)
          have hlo := fun b e => (HQ.out.2.2.2.lt b e).1
          have hne1 : some (w.heap.size + 1) ≠ Value.ownBlock (.slice a5 x.k.ps.length c5) := fun e => by have := hlo _ e.symm; omega
          have hne2 : some w4.heap.size ≠ Value.ownBlock (.slice a5 x.k.ps.length c5) := fun e => by have := hlo _ e.symm; omega
          repeat (first | with_reducible refine ownsRow_setb ?_ hne1 _ _ | with_reducible refine ownsRow_setb ?_ hne2 _ _)
          exact ho
        · have hU := HQ.out.2.2.1
          (repeat (first | with_reducible exact Up.refl _ | with_reducible assumption | with_reducible refine Up.set ?_ (by first | exact Nat.le_refl _ | (simp only []; omega) | (simp; omega)) _ | with_reducible refine Up.alloc ?_ _ | with_reducible refine Up.drew ?_ | refine Up.trans ?_ (by with_reducible assumption)))
      · have HDE := isEmpty_bs hd0
        have cL := fun wq hr => l3Write_any x (.slice a1 x.k.ps.length c1) (w.heap.size + 2) d wq hwok hd0 (fun b hb => hfits.2.2 b (List.mem_append_right _ hb)) hfits.2.1 hr
        have hsx := WlD.outs _ _ _ _ (WlD.start hwok hd0 (fun b hb => hfits.2.2 b (List.mem_append_right _ hb)) hfits.2.1)
        have hso := Lib.hid hwok.1.set
        have hwr : Hid (x.write d = (⟨(x.codes d).2.1, (x.codes d).2.2, (x.all d).drop ((x.all d).length / 8 * 8), true⟩, packL x.k.set.ord ((x.all d).take ((x.all d).length / 8 * 8)))) := by
          unfold Hid WrD.write
          rw [if_neg hd0]
        have HW := Lib.hid (HYES.out.trans (congrArg some hwr.out))
        clear hwr HYES
        dsimp only at hsx
        generalize x.all d = b5 at *
        generalize (x.codes d).2.1 = k5 at *
        generalize (x.codes d).2.2 = p5 at *
        unfold wrV at cL
        clear hwok hfits
        go_wp2_with (first | (go_at_call 81; (with_reducible refine (cF _).mono ?_); rintro e w4 ⟨rfl, U4⟩; have B4 := bcell U4; have hl4 := U4.size; obtain ⟨hbz, q0, q1, q2, q3, q4, q5, q6, q7, q8⟩ := ((HP.out.2.1.up U3).up U4).cells; simp only [wr0] at q0 q1 q2 q3 q4 q5 q6 q7 q8; have hfz := box_free ((HP.out.2.1.up U3).up U4); obtain ⟨hbx, r0, r1, r2, r3, r4, r5, r6, r7, r8⟩ := ((HP.out.1.up U3).up U4).cells; have hfx := box_free ((HP.out.1.up U3).up U4)) | fail)
        have HH := Lib.hid (And.intro ((HP.out.1.up U3).up U4) (And.intro ((HP.out.2.1.up U3).up U4) (And.intro ((HP.out.2.2.1.trans U3).trans U4) (ownsRow_up (ownsRow_up HP.out.2.2.2 U3) U4))))
        with_reducible refine (cL _ (hrt _ (U3.trans U4))).mono ?_
        rintro e w5 ⟨v5, rfl, h5, U5⟩
        obtain ⟨a5, c5, rfl⟩ := put_shape h5
        dsimp only at h5
        have ho5 : ownPr w5 (w.heap.size + 2) (.slice a5 k5.ps.length c5) k5.ps := by
          rcases h5 with ⟨h1, h2⟩ | h
          · rw [h1, h2]; exact ownsRow_up HH.out.2.2.2 U5
          · exact ownsRow_base h (by omega)
        have HG := Lib.hid (And.intro (HH.out.1.up U5) (And.intro (HH.out.2.1.up U5) (And.intro (HH.out.2.2.1.trans U5) ho5)))
        have hl5 := U5.size
        have hb5 := bs_size b5
        obtain ⟨hbx, r0, r1, r2, r3, r4, r5, r6, r7, r8⟩ := HG.out.1.cells
        clear HH HP U3 U4 U5 h5 ho5 cL cV cF hrt q0 q1 q2 q3 q4 q5 q6 q7 q8 hfx hfz hbz B3 B4
        unfold wrV
        go_simp
        iterate 17 go_step
        have hA : WrAt w5.heap.size ⟨k5, p5, b5, true⟩ (.slice a5 k5.ps.length c5) (w5.alloc (.cells #[.int .i64 k5.set.ord, .int .i64 k5.set.lit, .int .i64 k5.set.most, .slice a5 k5.ps.length c5, .int .i64 k5.base, .int .i64 k5.last, .string (bs p5), .string (bs b5), .bool true] 37)) := (MapKept.heap_alloc w5 _).1
        have hUa : Up w5 (w5.alloc (.cells #[.int .i64 k5.set.ord, .int .i64 k5.set.lit, .int .i64 k5.set.most, .slice a5 k5.ps.length c5, .int .i64 k5.base, .int .i64 k5.last, .string (bs p5), .string (bs b5), .bool true] 37)) := (Up.refl _).alloc _
        have HA := Lib.hid (And.intro hA (And.intro (HG.out.1.up hUa) (And.intro (HG.out.2.1.up hUa) (And.intro (HG.out.2.2.1.trans hUa) (ownsRow_up HG.out.2.2.2 hUa)))))
        have hzA : w5.heap.size < (w5.alloc (.cells #[.int .i64 k5.set.ord, .int .i64 k5.set.lit, .int .i64 k5.set.most, .slice a5 k5.ps.length c5, .int .i64 k5.base, .int .i64 k5.last, .string (bs p5), .string (bs b5), .bool true] 37)).heap.size := by simp
        clear hA hUa HG r0 r1 r2 r3 r4 r5 r6 r7 r8 hbx
        generalize w5.alloc (.cells #[.int .i64 k5.set.ord, .int .i64 k5.set.lit, .int .i64 k5.set.most, .slice a5 k5.ps.length c5, .int .i64 k5.base, .int .i64 k5.last, .string (bs p5), .string (bs b5), .bool true] 37) = W6 at *
        obtain ⟨hbx, r0, r1, r2, r3, r4, r5, r6, r7, r8⟩ := HA.out.2.1.cells
        obtain ⟨hby, s0, s1, s2, s3, s4, s5, s6, s7, s8⟩ := HA.out.1.cells
        go_wp2_with fail
        have hnb : b5.length / 8 * 8 ≤ b5.length := by omega
        rw [show ((b5.length : Int) / 8 * 8) = ((b5.length / 8 * 8 : Nat) : Int) by omega]
        have hdr : (bs b5).extract (b5.length / 8 * 8) b5.length = bs (b5.drop (b5.length / 8 * 8)) := by rw [bs_ext]; congr 1; exact List.take_of_length_le (by rw [List.length_drop]; omega)
        have htk : (bs b5).extract 0 (b5.length / 8 * 8) = bs (b5.take (b5.length / 8 * 8)) := by rw [bs_ext, List.drop_zero, Nat.sub_zero]
        have hibt : isBits (b5.take (b5.length / 8 * 8)) := fun b hb => hsx.1 b (List.mem_of_mem_take hb)
        have cK := fun wx => l1Pack_any x.k.set.ord (bs (b5.take (b5.length / 8 * 8))) wx (by rw [bs_data]; exact hibt) (by rw [bs_size, List.length_take]; omega)
        rw [bs_data] at cK
        generalize b5.take (b5.length / 8 * 8) = t5 at *
        generalize b5.drop (b5.length / 8 * 8) = u5 at *
        generalize b5.length / 8 * 8 = n5 at *
        have HDR := Lib.hid hdr
        have HTK := Lib.hid htk
        clear hdr htk hibt
        refine wp_region_up 9 (by kernel_rfl) (by kernel_rfl) ?_
        simp only [List.take, List.drop]
        repeat (refine wpUp_step (fun K hK => ?_); go_simp; (try simp only [↓IntWalk.iteOmega]); first
          | (refine hK _ _ ?_; clear hK K)
          | (apply stepU_c
             · intro wq hwq; (have hbq := bcell hwq; (repeat (first | refine fills_no (by rfl) ?_ | refine fills_yes (by rfl) (fun vq hvq => ?_))); simp only [List.filter_nil, fills]; unfold upAt; (try ((obtain ⟨-, r0, r1, r2, r3, r4, r5, r6, r7, r8⟩ := (HA.out.2.1.up hwq).cells; obtain ⟨hby, s0, s1, s2, s3, s4, s5, s6, s7, s8⟩ := (HA.out.1.up hwq).cells))); go_simp; (try go_bits); (try simp only [↓IntWalk.iteOmega]); (try (rw [dif_pos (by omega)]; go_simp; try go_bits)); first | exact upOut_value | (apply upOut_call; (rw [HTK.out]; go_at_call 83; exact cK _)) | (apply upOut_eq; (rw [HTK.out]; go_at_call 83; exact cK _)) | (apply upOut_call; (go_at_call 83; exact cK _)) | (apply upOut_eq; (go_at_call 83; exact cK _)))
             go_simp; refine hK _ _ ?_; clear hK K))
        refine wpUp_nil (fun wq hwq => ?_)
        simp only [fills]
        have HQ := Lib.hid (And.intro (HA.out.1.up hwq) (And.intro (HA.out.2.2.1.up hwq) (And.intro (HA.out.2.2.2.1.trans hwq) (ownsRow_up HA.out.2.2.2.2 hwq))))
        have hzq := hwq.size
        clear hwq HA cK r0 r1 r2 r3 r4 r5 r6 r7 r8 s0 s1 s2 s3 s4 s5 s6 s7 s8 hbx hby
        obtain ⟨hby, s0, s1, s2, s3, s4, s5, s6, s7, s8⟩ := HQ.out.1.cells
        have hfy := box_free HQ.out.1
        obtain ⟨hbz, q0, q1, q2, q3, q4, q5, q6, q7, q8⟩ := HQ.out.2.1.cells
        simp only [wr0] at q0 q1 q2 q3 q4 q5 q6 q7 q8
        have hfz := box_free HQ.out.2.1
        generalize packL x.k.set.ord t5 = y5 at *
        go_wp2_with fail
        refine bodyPost_ret (v := .tuple #[wrV ⟨k5, p5, u5, true⟩ (.slice a5 k5.ps.length c5), .string (bs y5), .bool true]) (by simp [results, Tryz.results35, go_sem, q0, q1, q2, q3, q4, q5, q6, q7, q8, HDR.out]; rfl) rfl ?_
        rw [HW.out]
        refine ⟨.slice a5 k5.ps.length c5, rfl, ?_, ?_⟩
        · have ho := ownsRow_base HQ.out.2.2.2 (show w.heap.size ≤ w.heap.size + 2 by omega)
          have hlo := fun b e => (HQ.out.2.2.2.lt b e).1
          have hne1 : some (w.heap.size + 1) ≠ Value.ownBlock (.slice a5 k5.ps.length c5) := fun e => by have := hlo _ e.symm; omega
          have hne2 : some w5.heap.size ≠ Value.ownBlock (.slice a5 k5.ps.length c5) := box_ne HQ.out.1 HQ.out.2.2.2 (by decide)
          repeat (first | with_reducible refine ownsRow_setb ?_ hne1 _ _ | with_reducible refine ownsRow_setb ?_ hne2 _ _)
          exact ho
        · have hU := HQ.out.2.2.1
          (repeat (first | with_reducible exact Up.refl _ | with_reducible assumption | with_reducible refine Up.set ?_ (by first | exact Nat.le_refl _ | (simp only []; omega) | (simp; omega)) _ | with_reducible refine Up.alloc ?_ _ | with_reducible refine Up.drew ?_ | refine Up.trans ?_ (by with_reducible assumption)))
end Go.Proofs.YtgbakgaegldomaaGreat

