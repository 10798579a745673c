/- Texts joined into one: the walks and laws that the last text leans on. Conditions: as each says. -/
import Derived.Test.YtekogcjdaolcbaaGreatDoorMFnWriterTextLawG
import Derived.Test.YtekogcjdaolcbaaGreatDoorMFnWriterTextLawC
import Derived.Test.YtekogcjdaolcbaaGreatDoorMFnWriterTextLawF
import Derived.Test.YtekogcjdaolcbaaGreatDoorMFnWriterTextLawD

set_option linter.unusedVariables false
set_option linter.unusedSimpArgs false
/- Walks of the reference's WriteData and CloseWriter, for writers of any kind. Conditions: the pairs can be read, the texts are no longer than 2^20 bytes. -/
namespace Go.Proofs.YtekogcjdaolcbaaGreatDoor
open Go Go.RowKit
theorem WlD.outs {T : List UInt8 × KnD × List UInt8} {s : SetD} : ∀ (m : Nat) (k : KnD) (d b : List UInt8), WlD T s m k d b → isBits T.1 ∧ T.1.length ≤ 41000 := by
  intro m
  induction m with
  | zero => intro k d b h; have h1 := h.len; have h2 := List.length_pos_iff.2 h.ne; omega
  | succ m ih =>
    intro k d b h
    by_cases hl : k.longest d = d
    · rw [h.stop hl]; exact ⟨h.bit, by have := h.sum; show b.length ≤ 41000; omega⟩
    · obtain ⟨_, h1, h2⟩ := h.step hl
      cases hf : (k.after (k.find (k.longest d))).full
      · exact ih _ _ _ (h2 hf)
      · exact ih _ _ _ (h1 hf)
theorem wdS_pre (x : WrD) (v1 : Value) (a : Option Addr) (cap : Nat) (w w1 : World) (ho : ownPr w1 (w.heap.size + 2) v1 x.k.ps) (hx : WrAt w.heap.size x (.slice a x.k.ps.length cap) w1) (hz : WrAt (w.heap.size + 1) wr0 (.slice none 0 0) w1) (hu : Up w w1) :
    WrAt w.heap.size x v1 (WrW w1 w.heap.size x v1) ∧ WrAt (w.heap.size + 1) wr0 (.slice none 0 0) (WrW w1 w.heap.size x v1) ∧ Up w (WrW w1 w.heap.size x v1) ∧ ownPr (WrW w1 w.heap.size x v1) (w.heap.size + 2) v1 x.k.ps :=
  ⟨WrAt.store hx x v1, (WrW.other (by omega) x v1).trans hz, WrW.up hu (Nat.le_refl _) x v1, WrW.own ho (fun e => by have := (ho.lt _ e.symm).1; omega) x v1⟩
set_option maxRecDepth 100000 in
set_option maxHeartbeats 16000000 in
theorem wdS_any (x : WrD) (v : Value) (lo : Nat) (d : List UInt8) (w : World) (hr : RdP lo w v x.k.ps) (hps : x.k.ps.length ≤ 1048576) (hp : x.pend.length ≤ 1048576) (hb : x.bits.length ≤ 1048576) (hd : d.length ≤ 1048576) :
    Calls Tryz.prog 8  #[wrV x v, .string (bs d)] w (WdPost (wdO x d) w) := by
  have cO := fun wq hr => ownWS_any x v lo wq hr hps
  have hrt := fun (wq : World) (hu : Up w wq) => hr.up hu
  have hsp := bs_size x.pend
  have hsd := bs_size d
  have hn2 : (bs x.pend).size + (bs d).size ≤ 2097152 := by omega
  have hcat : bs x.pend ++ bs d = bs (x.pend ++ d) := bs_app _ _
  obtain ⟨a, cap, rfl, -, -, -, -⟩ := id hr
  clear hr
  unfold wrV at *
  go_enter Tryz.func8, Tryz.ntmps8
  go_wp2_with fail
  with_reducible refine (cO _ (hrt _ (by (repeat (first | with_reducible exact Up.refl _ | with_reducible assumption | with_reducible refine Up.set ?_ (by first | exact Nat.le_refl _ | (simp only []; omega) | (simp; omega)) _ | with_reducible refine Up.alloc ?_ _ | with_reducible refine Up.drew ?_ | refine Up.trans ?_ (by with_reducible assumption)))))).mono ?_
  rintro e w1 ⟨v1, rfl, ho1, U1⟩
  obtain ⟨a1, c1, rfl⟩ := ownsRow_shape ho1
  have hX := WrAt.up (show WrAt w.heap.size x (.slice a x.k.ps.length cap) _ from box_up ((Up.refl _).alloc _) (MapKept.heap_alloc w _).1) U1
  have hZ := WrAt.zero (box_up U1 (alloc2 w _ _))
  have hU1 : Up w w1 := by (repeat (first | with_reducible exact Up.refl _ | with_reducible assumption | with_reducible refine Up.set ?_ (by first | exact Nat.le_refl _ | (simp only []; omega) | (simp; omega)) _ | with_reducible refine Up.alloc ?_ _ | with_reducible refine Up.drew ?_ | refine Up.trans ?_ (by with_reducible assumption)))
  have hl1 : w.heap.size + 2 ≤ w1.heap.size := by have := U1.size; simp at this; exact this
  have HP := Lib.hid (wdS_pre x (.slice a1 x.k.ps.length c1) a cap w w1 (ownsRow_base ho1 (by simp)) hX hZ hU1)
  have hlz : w1.heap.size ≤ (WrW w1 w.heap.size x (.slice a1 x.k.ps.length c1)).heap.size := by unfold WrW KnW; simp [World.setCell]
  obtain ⟨hbx, r0, r1, r2, r3, r4, r5, r6, r7, r8⟩ := hX.cells
  have hfx := box_free hX
  clear ho1 hX hZ hU1 U1 cO hrt
  unfold wrV
  go_wp2_with fail
  rw [show (((((((((w1.setCell ⟨w.heap.size, 0, none⟩ (.int .i64 x.k.set.ord)).setCell ⟨w.heap.size, 1, none⟩ (.int .i64 x.k.set.lit)).setCell ⟨w.heap.size, 2, none⟩ (.int .i64 x.k.set.most)).setCell ⟨w.heap.size, 3, none⟩ (.slice a1 x.k.ps.length c1)).setCell ⟨w.heap.size, 4, none⟩ (.int .i64 x.k.base)).setCell ⟨w.heap.size, 5, none⟩ (.int .i64 x.k.last)).setCell ⟨w.heap.size, 6, none⟩ (.string (bs x.pend))).setCell ⟨w.heap.size, 7, none⟩ (.string (bs x.bits))).setCell ⟨w.heap.size, 8, none⟩ (.bool x.beg)) = WrW w1 w.heap.size x (.slice a1 x.k.ps.length c1) from rfl]
  clear r0 r1 r2 r3 r4 r5 r6 r7 r8 hbx hfx
  generalize WrW w1 w.heap.size x (.slice a1 x.k.ps.length c1) = W1 at HP hlz ⊢
  have hlW : w.heap.size + 2 ≤ W1.heap.size := by omega
  clear hlz hl1
  have hrt := fun (wq : World) (hu : Up W1 wq) => (RdP.of_own HP.out.2.2.2).up hu
  have cV := fun wq hr => wvS_any x (.slice a1 x.k.ps.length c1) (w.heap.size + 2) wq hr (by omega) (by omega) (by omega)
  unfold wrV at cV
  obtain ⟨hbx, r0, r1, r2, r3, r4, r5, r6, r7, r8⟩ := HP.out.1.cells
  have hfx := box_free HP.out.1
  obtain ⟨hbz, q0, q1, q2, q3, q4, q5, q6, q7, q8⟩ := HP.out.2.1.cells
  simp only [wr0] at q0 q1 q2 q3 q4 q5 q6 q7 q8
  have hfz := box_free HP.out.2.1
  cases hok : wrvB x
  · have HNO := Lib.hid (wdO_none (w := x) (d := d) (by rw [hok]; rfl))
    rw [hok] at cV
    clear hok
    with_reducible refine (cV _ (hrt _ (Up.refl _))).mono ?_
    rintro e w3 ⟨rfl, U3⟩
    have B3 := bcell U3
    have hl3 := U3.size
    have HU3 := Lib.hid (HP.out.2.2.1.trans U3)
    go_wp2_with fail
    obtain ⟨-, q0, q1, q2, q3, q4, q5, q6, q7, q8⟩ := (HP.out.2.1.up U3).cells
    simp only [wr0] at q0 q1 q2 q3 q4 q5 q6 q7 q8
    refine bodyPost_ret (v := .tuple #[noWr, .string ⟨#[]⟩, .bool false]) (by simp [results, Tryz.results8, go_sem, q0, q1, q2, q3, q4, q5, q6, q7, q8]; rfl) rfl ?_
    rw [HNO.out]
    refine wdP_none rfl ?_
    have hU := HU3.out
    (repeat (first | with_reducible exact Up.refl _ | with_reducible assumption | with_reducible refine Up.set ?_ (by first | exact Nat.le_refl _ | (simp only []; omega) | (simp; omega)) _ | with_reducible refine Up.alloc ?_ _ | with_reducible refine Up.drew ?_ | refine Up.trans ?_ (by with_reducible assumption)))
  · rw [hok] at cV
    have cF := fun wq => fitsS_any x.k.set (bs (x.pend ++ d)) wq (by rw [bs_size, List.length_append]; omega)
    rw [bs_data] at cF
    simp only [setV] at cF
    cases hfit : fitsB x.k.set (x.pend ++ d)
    · have HNO := Lib.hid (wdO_none (w := x) (d := d) (by rw [hok, hfit]; rfl))
      rw [hfit] at cF
      clear hok hfit
      with_reducible refine (cV _ (hrt _ (Up.refl _))).mono ?_
      rintro e w3 ⟨rfl, U3⟩
      have B3 := bcell U3
      have hl3 := U3.size
      go_wp2_with (first | (go_at_call 44; (with_reducible refine (cF _).mono ?_); rintro e w4 ⟨rfl, U4⟩; have B4 := bcell U4; have hl4 := U4.size; obtain ⟨hbz, q0, q1, q2, q3, q4, q5, q6, q7, q8⟩ := ((HP.out.2.1.up U3).up U4).cells; simp only [wr0] at q0 q1 q2 q3 q4 q5 q6 q7 q8; have hfz := box_free ((HP.out.2.1.up U3).up U4); obtain ⟨hbx, r0, r1, r2, r3, r4, r5, r6, r7, r8⟩ := ((HP.out.1.up U3).up U4).cells; have hfx := box_free ((HP.out.1.up U3).up U4)) | fail)
      have HU3 := Lib.hid ((HP.out.2.2.1.trans U3).trans U4)
      refine bodyPost_ret (v := .tuple #[noWr, .string ⟨#[]⟩, .bool false]) (by simp [results, Tryz.results8, go_sem, q0, q1, q2, q3, q4, q5, q6, q7, q8]; rfl) rfl ?_
      rw [HNO.out]
      refine wdP_none rfl ?_
      have hU := HU3.out
      (repeat (first | with_reducible exact Up.refl _ | with_reducible assumption | with_reducible refine Up.set ?_ (by first | exact Nat.le_refl _ | (simp only []; omega) | (simp; omega)) _ | with_reducible refine Up.alloc ?_ _ | with_reducible refine Up.drew ?_ | refine Up.trans ?_ (by with_reducible assumption)))
    · have HYES := Lib.hid (wdO_some (w := x) (d := d) (by rw [hok, hfit]; rfl))
      rw [hfit] at cF
      have hwok := wrvB_ok hok
      have hfits := fitsB_lits hfit
      clear hok hfit
      with_reducible refine (cV _ (hrt _ (Up.refl _))).mono ?_
      rintro e w3 ⟨rfl, U3⟩
      have B3 := bcell U3
      have hl3 := U3.size
      by_cases hd0 : d = []
      · subst hd0
        have HDE := isEmpty_nil
        rw [List.append_nil] at cF
        have cY := fun wx hr => copyS_any x.k (.slice a1 x.k.ps.length c1) (w.heap.size + 2) wx hr (by omega)
        simp only [kV] at cY
        go_wp2_with (first | (go_at_call 44; (with_reducible refine (cF _).mono ?_); rintro e w4 ⟨rfl, U4⟩; have B4 := bcell U4; have hl4 := U4.size; obtain ⟨hbz, q0, q1, q2, q3, q4, q5, q6, q7, q8⟩ := ((HP.out.2.1.up U3).up U4).cells; simp only [wr0] at q0 q1 q2 q3 q4 q5 q6 q7 q8; have hfz := box_free ((HP.out.2.1.up U3).up U4); obtain ⟨hbx, r0, r1, r2, r3, r4, r5, r6, r7, r8⟩ := ((HP.out.1.up U3).up U4).cells; have hfx := box_free ((HP.out.1.up U3).up U4)) | fail)
        have hUa : Up w4 (w4.alloc (.cells #[.int .i64 x.k.set.ord, .int .i64 x.k.set.lit, .int .i64 x.k.set.most, .slice a1 x.k.ps.length c1, .int .i64 x.k.base, .int .i64 x.k.last, .string (bs x.pend), .string (bs x.bits), .bool x.beg] 29)) := (Up.refl _).alloc _
        have hA : WrAt w4.heap.size x (.slice a1 x.k.ps.length c1) (w4.alloc (.cells #[.int .i64 x.k.set.ord, .int .i64 x.k.set.lit, .int .i64 x.k.set.most, .slice a1 x.k.ps.length c1, .int .i64 x.k.base, .int .i64 x.k.last, .string (bs x.pend), .string (bs x.bits), .bool x.beg] 29)) := (MapKept.heap_alloc w4 _).1
        have HA := Lib.hid (And.intro hA (And.intro (((HP.out.2.1.up U3).up U4).up hUa) (((HP.out.2.2.1.trans U3).trans U4).trans hUa)))
        have hzA : w4.heap.size < (w4.alloc (.cells #[.int .i64 x.k.set.ord, .int .i64 x.k.set.lit, .int .i64 x.k.set.most, .slice a1 x.k.ps.length c1, .int .i64 x.k.base, .int .i64 x.k.last, .string (bs x.pend), .string (bs x.bits), .bool x.beg] 29)).heap.size := by simp
        with_reducible refine (cY _ (hrt _ ((U3.trans U4).trans hUa))).mono ?_
        clear hA hUa
        generalize w4.alloc (.cells #[.int .i64 x.k.set.ord, .int .i64 x.k.set.lit, .int .i64 x.k.set.most, .slice a1 x.k.ps.length c1, .int .i64 x.k.base, .int .i64 x.k.last, .string (bs x.pend), .string (bs x.bits), .bool x.beg] 29) = W6 at *
        rintro e w5 ⟨v5, rfl, ho5, U5⟩
        obtain ⟨a5, c5, rfl⟩ := ownsRow_shape ho5
        have HQ := Lib.hid (And.intro (HA.out.1.up U5) (And.intro (HA.out.2.1.up U5) (And.intro (HA.out.2.2.trans U5) ho5)))
        have hzq := U5.size
        have HW := Lib.hid (HYES.out.trans (congrArg some (show x.write [] = (x, []) by unfold WrD.write; rw [if_pos rfl])))
        clear ho5 U5 HA HYES HP U3 U4 cY cF cV hrt r0 r1 r2 r3 r4 r5 r6 r7 r8 q0 q1 q2 q3 q4 q5 q6 q7 q8 hbx hbz hfx hfz B3 B4
        obtain ⟨hby, s0, s1, s2, s3, s4, s5, s6, s7, s8⟩ := HQ.out.1.cells
        have hfy := box_free HQ.out.1
        obtain ⟨hbz, q0, q1, q2, q3, q4, q5, q6, q7, q8⟩ := HQ.out.2.1.cells
        simp only [wr0] at q0 q1 q2 q3 q4 q5 q6 q7 q8
        have hfz := box_free HQ.out.2.1
        simp only [kV]
        go_wp2_with fail
        refine bodyPost_ret (v := .tuple #[wrV x (.slice a5 x.k.ps.length c5), .string ⟨#[]⟩, .bool true]) (by simp [results, Tryz.results8, go_sem, q0, q1, q2, q3, q4, q5, q6, q7, q8]; rfl) rfl ?_
        rw [HW.out]
        refine ⟨.slice a5 x.k.ps.length c5, rfl, ?_, ?_⟩
        · have ho := ownsRow_base HQ.out.2.2.2 (show w.heap.size ≤ W6.heap.size by omega)
          have hlo := fun b e => (HQ.out.2.2.2.lt b e).1
          have hne1 : some (w.heap.size + 1) ≠ Value.ownBlock (.slice a5 x.k.ps.length c5) := fun e => by have := hlo _ e.symm; omega
          have hne2 : some w4.heap.size ≠ Value.ownBlock (.slice a5 x.k.ps.length c5) := fun e => by have := hlo _ e.symm; omega
          repeat (first | with_reducible refine ownsRow_setb ?_ hne1 _ _ | with_reducible refine ownsRow_setb ?_ hne2 _ _)
          exact ho
        · have hU := HQ.out.2.2.1
          (repeat (first | with_reducible exact Up.refl _ | with_reducible assumption | with_reducible refine Up.set ?_ (by first | exact Nat.le_refl _ | (simp only []; omega) | (simp; omega)) _ | with_reducible refine Up.alloc ?_ _ | with_reducible refine Up.drew ?_ | refine Up.trans ?_ (by with_reducible assumption)))
      · have HDE := isEmpty_bs hd0
        have cL := fun wq hr => l3Write_any x (.slice a1 x.k.ps.length c1) (w.heap.size + 2) d wq hwok hd0 (fun b hb => hfits.2.2 b (List.mem_append_right _ hb)) hfits.2.1 hr
        have hsx := WlD.outs _ _ _ _ (WlD.start hwok hd0 (fun b hb => hfits.2.2 b (List.mem_append_right _ hb)) hfits.2.1)
        have hso := Lib.hid hwok.1.set
        have hwr : Hid (x.write d = (⟨(x.codes d).2.1, (x.codes d).2.2, (x.all d).drop ((x.all d).length / 8 * 8), true⟩, packL x.k.set.ord ((x.all d).take ((x.all d).length / 8 * 8)))) := by
          unfold Hid WrD.write
          rw [if_neg hd0]
        have HW := Lib.hid (HYES.out.trans (congrArg some hwr.out))
        clear hwr HYES
        dsimp only at hsx
        generalize x.all d = b5 at *
        generalize (x.codes d).2.1 = k5 at *
        generalize (x.codes d).2.2 = p5 at *
        unfold wrV at cL
        clear hwok hfits
        go_wp2_with (first | (go_at_call 44; (with_reducible refine (cF _).mono ?_); rintro e w4 ⟨rfl, U4⟩; have B4 := bcell U4; have hl4 := U4.size; obtain ⟨hbz, q0, q1, q2, q3, q4, q5, q6, q7, q8⟩ := ((HP.out.2.1.up U3).up U4).cells; simp only [wr0] at q0 q1 q2 q3 q4 q5 q6 q7 q8; have hfz := box_free ((HP.out.2.1.up U3).up U4); obtain ⟨hbx, r0, r1, r2, r3, r4, r5, r6, r7, r8⟩ := ((HP.out.1.up U3).up U4).cells; have hfx := box_free ((HP.out.1.up U3).up U4)) | fail)
        have HH := Lib.hid (And.intro ((HP.out.1.up U3).up U4) (And.intro ((HP.out.2.1.up U3).up U4) (And.intro ((HP.out.2.2.1.trans U3).trans U4) (ownsRow_up (ownsRow_up HP.out.2.2.2 U3) U4))))
        with_reducible refine (cL _ (hrt _ (U3.trans U4))).mono ?_
        rintro e w5 ⟨v5, rfl, h5, U5⟩
        obtain ⟨a5, c5, rfl⟩ := put_shape h5
        dsimp only at h5
        have ho5 : ownPr w5 (w.heap.size + 2) (.slice a5 k5.ps.length c5) k5.ps := by
          rcases h5 with ⟨h1, h2⟩ | h
          · rw [h1, h2]; exact ownsRow_up HH.out.2.2.2 U5
          · exact ownsRow_base h (by omega)
        have HG := Lib.hid (And.intro (HH.out.1.up U5) (And.intro (HH.out.2.1.up U5) (And.intro (HH.out.2.2.1.trans U5) ho5)))
        have hl5 := U5.size
        have hb5 := bs_size b5
        obtain ⟨hbx, r0, r1, r2, r3, r4, r5, r6, r7, r8⟩ := HG.out.1.cells
        clear HH HP U3 U4 U5 h5 ho5 cL cV cF hrt q0 q1 q2 q3 q4 q5 q6 q7 q8 hfx hfz hbz B3 B4
        unfold wrV
        go_simp
        iterate 17 go_step
        have hA : WrAt w5.heap.size ⟨k5, p5, b5, true⟩ (.slice a5 k5.ps.length c5) (w5.alloc (.cells #[.int .i64 k5.set.ord, .int .i64 k5.set.lit, .int .i64 k5.set.most, .slice a5 k5.ps.length c5, .int .i64 k5.base, .int .i64 k5.last, .string (bs p5), .string (bs b5), .bool true] 29)) := (MapKept.heap_alloc w5 _).1
        have hUa : Up w5 (w5.alloc (.cells #[.int .i64 k5.set.ord, .int .i64 k5.set.lit, .int .i64 k5.set.most, .slice a5 k5.ps.length c5, .int .i64 k5.base, .int .i64 k5.last, .string (bs p5), .string (bs b5), .bool true] 29)) := (Up.refl _).alloc _
        have HA := Lib.hid (And.intro hA (And.intro (HG.out.1.up hUa) (And.intro (HG.out.2.1.up hUa) (And.intro (HG.out.2.2.1.trans hUa) (ownsRow_up HG.out.2.2.2 hUa)))))
        have hzA : w5.heap.size < (w5.alloc (.cells #[.int .i64 k5.set.ord, .int .i64 k5.set.lit, .int .i64 k5.set.most, .slice a5 k5.ps.length c5, .int .i64 k5.base, .int .i64 k5.last, .string (bs p5), .string (bs b5), .bool true] 29)).heap.size := by simp
        clear hA hUa HG r0 r1 r2 r3 r4 r5 r6 r7 r8 hbx
        generalize w5.alloc (.cells #[.int .i64 k5.set.ord, .int .i64 k5.set.lit, .int .i64 k5.set.most, .slice a5 k5.ps.length c5, .int .i64 k5.base, .int .i64 k5.last, .string (bs p5), .string (bs b5), .bool true] 29) = W6 at *
        obtain ⟨hbx, r0, r1, r2, r3, r4, r5, r6, r7, r8⟩ := HA.out.2.1.cells
        obtain ⟨hby, s0, s1, s2, s3, s4, s5, s6, s7, s8⟩ := HA.out.1.cells
        go_wp2_with fail
        have hnb : b5.length / 8 * 8 ≤ b5.length := by omega
        rw [show ((b5.length : Int) / 8 * 8) = ((b5.length / 8 * 8 : Nat) : Int) by omega]
        have hdr : (bs b5).extract (b5.length / 8 * 8) b5.length = bs (b5.drop (b5.length / 8 * 8)) := by rw [bs_ext]; congr 1; exact List.take_of_length_le (by rw [List.length_drop]; omega)
        have htk : (bs b5).extract 0 (b5.length / 8 * 8) = bs (b5.take (b5.length / 8 * 8)) := by rw [bs_ext, List.drop_zero, Nat.sub_zero]
        have hibt : isBits (b5.take (b5.length / 8 * 8)) := fun b hb => hsx.1 b (List.mem_of_mem_take hb)
        have cK := fun wx => l1Pack_any x.k.set.ord (bs (b5.take (b5.length / 8 * 8))) wx (by rw [bs_data]; exact hibt) (by rw [bs_size, List.length_take]; omega)
        rw [bs_data] at cK
        generalize b5.take (b5.length / 8 * 8) = t5 at *
        generalize b5.drop (b5.length / 8 * 8) = u5 at *
        generalize b5.length / 8 * 8 = n5 at *
        have HDR := Lib.hid hdr
        have HTK := Lib.hid htk
        clear hdr htk hibt
        refine wp_region_up 9 (by kernel_rfl) (by kernel_rfl) ?_
        simp only [List.take, List.drop]
        repeat (refine wpUp_step (fun K hK => ?_); go_simp; (try simp only [↓IntWalk.iteOmega]); first
          | (refine hK _ _ ?_; clear hK K)
          | (apply stepU_c
             · intro wq hwq; (have hbq := bcell hwq; (repeat (first | refine fills_no (by rfl) ?_ | refine fills_yes (by rfl) (fun vq hvq => ?_))); simp only [List.filter_nil, fills]; unfold upAt; (try ((obtain ⟨-, r0, r1, r2, r3, r4, r5, r6, r7, r8⟩ := (HA.out.2.1.up hwq).cells; obtain ⟨hby, s0, s1, s2, s3, s4, s5, s6, s7, s8⟩ := (HA.out.1.up hwq).cells))); go_simp; (try go_bits); (try simp only [↓IntWalk.iteOmega]); (try (rw [dif_pos (by omega)]; go_simp; try go_bits)); first | exact upOut_value | (apply upOut_call; (rw [HTK.out]; go_at_call 47; exact cK _)) | (apply upOut_eq; (rw [HTK.out]; go_at_call 47; exact cK _)) | (apply upOut_call; (go_at_call 47; exact cK _)) | (apply upOut_eq; (go_at_call 47; exact cK _)))
             go_simp; refine hK _ _ ?_; clear hK K))
        refine wpUp_nil (fun wq hwq => ?_)
        simp only [fills]
        have HQ := Lib.hid (And.intro (HA.out.1.up hwq) (And.intro (HA.out.2.2.1.up hwq) (And.intro (HA.out.2.2.2.1.trans hwq) (ownsRow_up HA.out.2.2.2.2 hwq))))
        have hzq := hwq.size
        clear hwq HA cK r0 r1 r2 r3 r4 r5 r6 r7 r8 s0 s1 s2 s3 s4 s5 s6 s7 s8 hbx hby
        obtain ⟨hby, s0, s1, s2, s3, s4, s5, s6, s7, s8⟩ := HQ.out.1.cells
        have hfy := box_free HQ.out.1
        obtain ⟨hbz, q0, q1, q2, q3, q4, q5, q6, q7, q8⟩ := HQ.out.2.1.cells
        simp only [wr0] at q0 q1 q2 q3 q4 q5 q6 q7 q8
        have hfz := box_free HQ.out.2.1
        generalize packL x.k.set.ord t5 = y5 at *
        go_wp2_with fail
        refine bodyPost_ret (v := .tuple #[wrV ⟨k5, p5, u5, true⟩ (.slice a5 k5.ps.length c5), .string (bs y5), .bool true]) (by simp [results, Tryz.results8, go_sem, q0, q1, q2, q3, q4, q5, q6, q7, q8, HDR.out]; rfl) rfl ?_
        rw [HW.out]
        refine ⟨.slice a5 k5.ps.length c5, rfl, ?_, ?_⟩
        · have ho := ownsRow_base HQ.out.2.2.2 (show w.heap.size ≤ w.heap.size + 2 by omega)
          have hlo := fun b e => (HQ.out.2.2.2.lt b e).1
          have hne1 : some (w.heap.size + 1) ≠ Value.ownBlock (.slice a5 k5.ps.length c5) := fun e => by have := hlo _ e.symm; omega
          have hne2 : some w5.heap.size ≠ Value.ownBlock (.slice a5 k5.ps.length c5) := box_ne HQ.out.1 HQ.out.2.2.2 (by decide)
          repeat (first | with_reducible refine ownsRow_setb ?_ hne1 _ _ | with_reducible refine ownsRow_setb ?_ hne2 _ _)
          exact ho
        · have hU := HQ.out.2.2.1
          (repeat (first | with_reducible exact Up.refl _ | with_reducible assumption | with_reducible refine Up.set ?_ (by first | exact Nat.le_refl _ | (simp only []; omega) | (simp; omega)) _ | with_reducible refine Up.alloc ?_ _ | with_reducible refine Up.drew ?_ | refine Up.trans ?_ (by with_reducible assumption)))
end Go.Proofs.YtekogcjdaolcbaaGreatDoor

/- Walks of the draws of writers: a reader's string, l3BadWriter. Conditions: the reader is readable, the writer is valid. -/
namespace Go.Proofs.YtekogcjdaolcbaaGreatDoor
open Go Go.RowKit
def RdStrs (rb : Nat) (w : World) (v : Value) (l : List ByteArray) : Prop := ∃ b off cap, v = .slice (some ⟨b, off, none⟩) l.length cap ∧ l.length ≤ cap ∧ cap ≤ maxLen ∧ b < w.heap.size ∧ b ≠ rb ∧ ∀ i x, l[i]? = some x → w.cell? ⟨b, off + i, none⟩ = some (.string x)
def oneStr (l : List ByteArray) (v : Value) : Prop := ∃ s : ByteArray, v = .string s ∧ s ∈ l
set_option maxRecDepth 100000 in
set_option maxHeartbeats 2000000 in
theorem of_any (rb : Nat) (B : Value) (l : List ByteArray) (v : Value) (w : World) (N : Nat) (h : Rdr rb B w N) (hN : N ≤ 1099511627776) (hr : RdStrs rb w v l) (hl : 0 < l.length) :
    Calls Tryz.prog 88  #[.pointer (some ⟨rb, 0, none⟩), v] w (Drawn rb B 1 (oneStr l) w) := by
  obtain ⟨b, off, cap, rfl, h1, h2, h3, h4, h5⟩ := hr
  have cP := fun wx h => pick_any rb B (l.length : Int) wx N h hN
  unfold maxLen at h2
  go_enter Tryz.func88, Tryz.ntmps88
  go_wp2_with (go_at_call 31; (with_reducible refine (cP _ h).mono ?_); rintro e w1 ⟨v1, rfl, ⟨i, rfl, hi0, hi1⟩, U1⟩; obtain ⟨j, rfl⟩ := Int.eq_ofNat_of_zero_le hi0; have hjl : j < l.length := (by omega); have hx := ((gcell U1.1).1 b (off + j) h3 (fun e => h4 (Option.some.inj e))).trans (h5 j l[j] (List.getElem?_eq_getElem hjl)))
  go_ret
  exact ⟨_, rfl, ⟨_, rfl, List.getElem_mem hjl⟩, U1⟩
theorem of_at {rb : Nat} {B : Value} {c N : Nat} {w0 w : World} {g n cap : Nat} {cs : Array Value} {T : TypeId} (l : List ByteArray) (h : Rdr rb B w0 N) {w1 : World} (hU1 : RdUp rb B c w0 w1) (hx : ∀ c, RdUp rb B c w0 w1 → RdUp rb B c w0 w) (hN : N + c ≤ 1099511627776) (hg : g = w.heap.size) (hn : n = l.length) (hc : cap = n) (hl : 0 < l.length) (hl2 : l.length ≤ 100) (hcs : cs = (l.map Value.string).toArray) :
    Calls Tryz.prog 88  #[.pointer (some ⟨rb, 0, none⟩), .slice (some ⟨g, 0, none⟩) n cap] (w.alloc (.cells cs T)) (fun e w' => ∃ i : ByteArray, e = .returned (.string i) ∧ i ∈ l ∧ RdUp rb B (c + 1) w0 w' ∧ RdUp rb B 1 (w.alloc (.cells cs T)) w') := by
  subst hg hn hc hcs
  have hU := hx c hU1
  have hr := hU.2 N h
  have hlt := hr.lt
  refine (of_any rb B l (.slice (some ⟨w.heap.size, 0, none⟩) l.length l.length) (w.alloc (.cells (l.map Value.string).toArray T)) (N + c) ((hU.alloc _).2 N h) hN ⟨w.heap.size, 0, l.length, rfl, Nat.le_refl _, by unfold maxLen; omega, by simp, by omega, fun i x hi => ?_⟩ hl).mono fun e w' ⟨v, he, ⟨i, hv, h1⟩, hu⟩ => ⟨i, by rw [he, hv], h1, (hU.alloc _).trans hu, hu⟩
  rw [box_cell (MapKept.heap_alloc w _).1, Nat.zero_add]
  simp [hi]
def DrawnW (rb : Nat) (B : Value) (c : Nat) (D : WrD → Prop) (w : World) (e : Ending) (w' : World) : Prop := ∃ x v, e = .returned (wrV x v) ∧ D x ∧ RdP (rb + 1) w' v x.k.ps ∧ RdUp rb B c w w'
def BadW (x : WrD) : Prop := (-9223372036854775808 ≤ x.k.set.lit ∧ x.k.set.lit ≤ 9223372036854775807) ∧ x.k.ps.length ≤ 1100 ∧ x.pend.length ≤ 2000 ∧ x.bits.length ≤ 8
theorem badW_of {x : WrD} (h : wrOk x) : BadW x := ⟨(badK_of h.1).1, (badK_of h.1).2, h.2.2.2.1, by have := h.2.2.2.2.2.1; omega⟩
theorem rdUp_r {rb : Nat} {B : Value} {c N : Nat} {w w' : World} (h : RdUp rb B c w w') (hr : Rdr rb B w N) : Rdr rb B w' (N + c) := h.2 _ hr
theorem rdUp_g {rb : Nat} {B : Value} {c : Nat} {w w' : World} (h : RdUp rb B c w w') : w.grownBy w' (some rb) := h.1
theorem badp_shape {w' : World} {ps qs : List PairD} {a : Option Addr} {cap : Nat} {v' : Value} {lo : Nat} (h : (v' = .slice a ps.length cap ∧ qs = ps) ∨ RdP lo w' v' qs) : ∃ a' c', v' = .slice a' qs.length c' := by
  rcases h with ⟨rfl, e⟩ | ⟨a', c', e, -⟩
  · rw [e]; exact ⟨_, _, rfl⟩
  · exact ⟨a', c', e⟩
set_option maxRecDepth 100000 in
set_option maxHeartbeats 8000000 in
theorem l3Bad_any (x : WrD) (v : Value) (rb : Nat) (B : Value) (w : World) (N : Nat) (h : Rdr rb B w N) (hN : N ≤ 800000000) (hx : wrOk x) (hr : RdP (rb + 1) w v x.k.ps) :
    Calls Tryz.prog 33  #[.pointer (some ⟨rb, 0, none⟩), wrV x v] w (DrawnW rb B 3100 BadW w) := by
  obtain ⟨p, hp, h, HM⟩ := h.least
  have hlt := h.lt
  have HR := Lib.hid h
  have hne0 : ¬ w.heap.size = rb := by omega
  have hne1 : ¬ w.heap.size + 1 = rb := by omega
  have hU := RdUp.refl rb B 0 w
  have e1 : w.heap.size < w.heap.size + 1 := by omega
  have e2 : w.heap.size < w.heap.size + 1 + 1 := by omega
  have e3 : w.heap.size + 1 < w.heap.size + 1 + 1 := by omega
  have hrt := fun (wq : World) (hg : w.grownBy wq (some rb)) => hr.gr hg (Nat.lt_succ_self rb)
  have hbw := badW_of hx
  have hk := hx.1
  have hks := hk.set
  have cD := fun w N h hN => l1Data_as 8 8 rfl rb B x.k.set w N h hN (by omega) hks
  have cL := fun wx M h hM hr => l2BadB_any x.k v rb B wx M h hM hk hr
  obtain ⟨a, cap, rfl, hc1, hc2, hc3, -⟩ := id hr
  have hKB := WrAt.up (show WrAt w.heap.size x (.slice a x.k.ps.length cap) _ from (MapKept.heap_alloc w (.cells #[.int .i64 x.k.set.ord, .int .i64 x.k.set.lit, .int .i64 x.k.set.most, .slice a x.k.ps.length cap, .int .i64 x.k.base, .int .i64 x.k.last, .string (bs x.pend), .string (bs x.bits), .bool x.beg] 29)).1) ((Up.refl _).alloc (.cells #[.int .i64 0, .int .i64 0, .int .i64 0, .slice none 0 0, .int .i64 0, .int .i64 0, .string ⟨#[]⟩, .string ⟨#[]⟩, .bool false] 29))
  have hRB := WrAt.zero (alloc2 w (.cells #[.int .i64 x.k.set.ord, .int .i64 x.k.set.lit, .int .i64 x.k.set.most, .slice a x.k.ps.length cap, .int .i64 x.k.base, .int .i64 x.k.last, .string (bs x.pend), .string (bs x.bits), .bool x.beg] 29) (.cells #[.int .i64 0, .int .i64 0, .int .i64 0, .slice none 0 0, .int .i64 0, .int .i64 0, .string ⟨#[]⟩, .string ⟨#[]⟩, .bool false] 29))
  unfold wrV at *
  simp only [kV, setV] at *
  have hr0 := hr
  clear hk hr hx
  go_enter Tryz.func33, Tryz.ntmps33
  go_wp2_with (first | (go_at_call 31; ((with_reducible refine (pick_at (n := 40) HR.out hU (by intro c hU; (repeat (first | with_reducible assumption | refine RdUp.ups ?_ (by with_reducible assumption) | with_reducible refine RdUp.set ?_ (by first | exact Nat.le_refl _ | (simp only []; omega) | (simp; omega)) _ | with_reducible refine RdUp.alloc ?_ _ | with_reducible refine RdUp.drew ?_ | with_reducible exact RdUp.of (Up.refl _)))) (by omega)).mono ?_); rintro e w' ⟨i, rfl, i0, i1, hU, U⟩; have D := gcell U.1; have Z := U.1.size; (try simp at Z); (try have Y0 : w.heap.size < w'.heap.size := (by omega)); (try have Y1 : w.heap.size + 1 < w'.heap.size := (by omega)); (try have Y2 : w.heap.size + 1 + 1 < w'.heap.size := (by omega)); (try have X0 : w.heap.size < w'.heap.size + 1 := (by omega)); (try have X1 : w.heap.size + 1 < w'.heap.size + 1 := (by omega)); (try have X2 : w.heap.size + 1 + 1 < w'.heap.size + 1 := (by omega)); ((have hKB := gbox U.1 hKB (by simp; omega); have hRB := gbox U.1 hRB (by simp; omega); obtain ⟨hb1, q0, q1, q2, q3, q4, q5, q6, q7, q8⟩ := WrAt.cells hKB; obtain ⟨hb0, s0, s1, s2, s3, s4, s5, s6, s7, s8⟩ := WrAt.cells hRB; simp only [wr0] at s0 s1 s2 s3 s4 s5 s6 s7 s8; have hfr := box_free hRB; have hfk := box_free hKB)))) | ((go_at_call 30; ((with_reducible refine (draw_at (cD) HR.out hU (by intro c hU; (repeat (first | with_reducible assumption | refine RdUp.ups ?_ (by with_reducible assumption) | with_reducible refine RdUp.set ?_ (by first | exact Nat.le_refl _ | (simp only []; omega) | (simp; omega)) _ | with_reducible refine RdUp.alloc ?_ _ | with_reducible refine RdUp.drew ?_ | with_reducible exact RdUp.of (Up.refl _)))) (by omega)).mono ?_); rintro e w' ⟨v, rfl, ⟨s9, rfl, hs9⟩, hU, U⟩; have D := gcell U.1; have Z := U.1.size; (try simp at Z); (try have Y0 : w.heap.size < w'.heap.size := (by omega)); (try have Y1 : w.heap.size + 1 < w'.heap.size := (by omega)); (try have Y2 : w.heap.size + 1 + 1 < w'.heap.size := (by omega)); (try have X0 : w.heap.size < w'.heap.size + 1 := (by omega)); (try have X1 : w.heap.size + 1 < w'.heap.size + 1 := (by omega)); (try have X2 : w.heap.size + 1 + 1 < w'.heap.size + 1 := (by omega)))); clear q0 q1 q2 q3 q4 q5 q6 q7 q8 hb1 s0 s1 s2 s3 s4 s5 s6 s7 s8 hb0 hfr hfk; have hKB := gbox U.1 hKB (by simp; omega); have hRB := gbox U.1 hRB (by simp; omega); obtain ⟨hb1, q0, q1, q2, q3, q4, q5, q6, q7, q8⟩ := WrAt.cells hKB; obtain ⟨hb0, s0, s1, s2, s3, s4, s5, s6, s7, s8⟩ := WrAt.cells hRB; simp only [wr0] at s0 s1 s2 s3 s4 s5 s6 s7 s8; have hfr := box_free hRB; have hfk := box_free hKB) | (go_at_call 88; ((with_reducible refine (of_at [⟨#[48, 48, 48, 48, 48, 48, 48, 48]⟩, ⟨#[50]⟩, ⟨#[49]⟩] HR.out hU (by intro c hU; (repeat (first | with_reducible assumption | refine RdUp.ups ?_ (by with_reducible assumption) | with_reducible refine RdUp.set ?_ (by first | exact Nat.le_refl _ | (simp only []; omega) | (simp; omega)) _ | with_reducible refine RdUp.alloc ?_ _ | with_reducible refine RdUp.drew ?_ | with_reducible exact RdUp.of (Up.refl _)))) (by omega) (by first | rfl | (simp; done) | fail) (by first | rfl | (simp; done) | fail) (by first | rfl | (simp; done) | fail) (by simp) (by simp) (by first | rfl | (simp; done) | fail)).mono ?_); rintro e w' ⟨z8, rfl, hz8, hU, U⟩; have D := gcell U.1; have Z := U.1.size; (try simp at Z); clear q0 q1 q2 q3 q4 q5 q6 q7 q8 hb1 s0 s1 s2 s3 s4 s5 s6 s7 s8 hb0 hfr hfk; have hKB := gbox U.1 (box_up ((Up.refl _).alloc _) hKB) (by simp; omega); have hRB := gbox U.1 (box_up ((Up.refl _).alloc _) hRB) (by simp; omega); obtain ⟨hb1, q0, q1, q2, q3, q4, q5, q6, q7, q8⟩ := WrAt.cells hKB; obtain ⟨hb0, s0, s1, s2, s3, s4, s5, s6, s7, s8⟩ := WrAt.cells hRB; simp only [wr0] at s0 s1 s2 s3 s4 s5 s6 s7 s8; have hfr := box_free hRB; have hfk := box_free hKB)) | (go_at_call 74; (with_reducible refine (cL _ _ (rdUp_r hU h) (by omega) (hrt _ (rdUp_g hU))).mono ?_); have hwz : w.heap.size + 2 ≤ w'.heap.size := (by first | omega | (have := U.1.size; simp at this; omega)); rintro e w9 ⟨k9, u9, rfl, hb9, hr9, U⟩; obtain ⟨a9, c9, rfl⟩ := badp_shape hr9; simp only [kV]; have hU := RdUp.trans hU U; have D := gcell U.1; have Z := U.1.size; (try simp at Z); clear q0 q1 q2 q3 q4 q5 q6 q7 q8 hb1 s0 s1 s2 s3 s4 s5 s6 s7 s8 hb0 hfr hfk; have hKB := gbox U.1 hKB (by simp; omega); have hRB := gbox U.1 hRB (by simp; omega); obtain ⟨hb1, q0, q1, q2, q3, q4, q5, q6, q7, q8⟩ := WrAt.cells hKB; obtain ⟨hb0, s0, s1, s2, s3, s4, s5, s6, s7, s8⟩ := WrAt.cells hRB; simp only [wr0] at s0 s1 s2 s3 s4 s5 s6 s7 s8; have hfr := box_free hRB; have hfk := box_free hKB) | fail)
  · refine bodyPost_ret (v := _) (by simp [results, Tryz.results33, go_sem, hb0, s0, s1, s2, s3, s4, s5, s6, s7, s8]; rfl) rfl ?_
    refine ⟨⟨k9, x.pend, x.bits, x.beg⟩, .slice a9 k9.ps.length c9, rfl, ⟨hb9.1, hb9.2, hbw.2.2⟩, ?_, ?_⟩
    · rcases hr9 with ⟨h1, h2⟩ | h
      · have h3 : RdP (rb + 1) w (.slice a9 k9.ps.length c9) k9.ps := by rw [h1, h2]; exact hr0
        refine h3.gr (RdUp.g (B := B) (c := 3100) ?_) (Nat.lt_succ_self rb)
        exact RdUp.fin hU (by intro c hU; (repeat (first | with_reducible assumption | refine RdUp.ups ?_ (by with_reducible assumption) | with_reducible refine RdUp.set ?_ (by first | exact Nat.le_refl _ | (simp only []; omega) | (simp; omega)) _ | with_reducible refine RdUp.alloc ?_ _ | with_reducible refine RdUp.drew ?_ | with_reducible exact RdUp.of (Up.refl _)))) (by omega)
      · refine RdP.low (lo := w'.heap.size) ?_ (by omega)
        (repeat (with_reducible refine RdP.set ?_ (by omega) _ _)); exact h
    · exact RdUp.fin hU (by intro c hU; (repeat (first | with_reducible assumption | refine RdUp.ups ?_ (by with_reducible assumption) | with_reducible refine RdUp.set ?_ (by first | exact Nat.le_refl _ | (simp only []; omega) | (simp; omega)) _ | with_reducible refine RdUp.alloc ?_ _ | with_reducible refine RdUp.drew ?_ | with_reducible exact RdUp.of (Up.refl _)))) (by omega)
  · refine bodyPost_ret (v := _) (by simp [results, Tryz.results33, go_sem, hb0, s0, s1, s2, s3, s4, s5, s6, s7, s8]; rfl) rfl ?_
    refine ⟨⟨x.k, x.pend, x.bits, !x.beg⟩, .slice a x.k.ps.length cap, rfl, ⟨hbw.1, hbw.2.1, hbw.2.2⟩, hrt _ (RdUp.g (B := B) (c := 3100) ?_), ?_⟩ <;> exact RdUp.fin hU (by intro c hU; (repeat (first | with_reducible assumption | refine RdUp.ups ?_ (by with_reducible assumption) | with_reducible refine RdUp.set ?_ (by first | exact Nat.le_refl _ | (simp only []; omega) | (simp; omega)) _ | with_reducible refine RdUp.alloc ?_ _ | with_reducible refine RdUp.drew ?_ | with_reducible exact RdUp.of (Up.refl _)))) (by omega)
  · refine bodyPost_ret (v := _) (by simp [results, Tryz.results33, go_sem, hb0, s0, s1, s2, s3, s4, s5, s6, s7, s8]; rfl) rfl ?_
    refine ⟨⟨x.k, x.pend, z8.data.toList, x.beg⟩, .slice a x.k.ps.length cap, rfl, ⟨hbw.1, hbw.2.1, hbw.2.2.1, ?_⟩, hrt _ (RdUp.g (B := B) (c := 3100) ?_), ?_⟩
    · simp only [List.mem_cons, List.mem_nil_iff, or_false] at hz8
      rcases hz8 with rfl | rfl | rfl <;> (dsimp only; decide)
    · exact RdUp.fin hU (by intro c hU; (repeat (first | with_reducible assumption | refine RdUp.ups ?_ (by with_reducible assumption) | with_reducible refine RdUp.set ?_ (by first | exact Nat.le_refl _ | (simp only []; omega) | (simp; omega)) _ | with_reducible refine RdUp.alloc ?_ _ | with_reducible refine RdUp.drew ?_ | with_reducible exact RdUp.of (Up.refl _)))) (by omega)
    · exact RdUp.fin hU (by intro c hU; (repeat (first | with_reducible assumption | refine RdUp.ups ?_ (by with_reducible assumption) | with_reducible refine RdUp.set ?_ (by first | exact Nat.le_refl _ | (simp only []; omega) | (simp; omega)) _ | with_reducible refine RdUp.alloc ?_ _ | with_reducible refine RdUp.drew ?_ | with_reducible exact RdUp.of (Up.refl _)))) (by omega)
  · refine bodyPost_ret (v := _) (by simp [results, Tryz.results33, go_sem, hb0, s0, s1, s2, s3, s4, s5, s6, s7, s8]; rfl) rfl ?_
    refine ⟨⟨x.k, s9.data.toList, x.bits, x.beg⟩, .slice a x.k.ps.length cap, rfl, ⟨hbw.1, hbw.2.1, ?_, hbw.2.2.2⟩, hrt _ (RdUp.g (B := B) (c := 3100) ?_), ?_⟩
    · have : s9.data.toList.length = s9.size := rfl
      show s9.data.toList.length ≤ 2000
      omega
    · exact RdUp.fin hU (by intro c hU; (repeat (first | with_reducible assumption | refine RdUp.ups ?_ (by with_reducible assumption) | with_reducible refine RdUp.set ?_ (by first | exact Nat.le_refl _ | (simp only []; omega) | (simp; omega)) _ | with_reducible refine RdUp.alloc ?_ _ | with_reducible refine RdUp.drew ?_ | with_reducible exact RdUp.of (Up.refl _)))) (by omega)
    · exact RdUp.fin hU (by intro c hU; (repeat (first | with_reducible assumption | refine RdUp.ups ?_ (by with_reducible assumption) | with_reducible refine RdUp.set ?_ (by first | exact Nat.le_refl _ | (simp only []; omega) | (simp; omega)) _ | with_reducible refine RdUp.alloc ?_ _ | with_reducible refine RdUp.drew ?_ | with_reducible exact RdUp.of (Up.refl _)))) (by omega)
  · refine bodyPost_ret (v := _) (by simp [results, Tryz.results33, go_sem, hb0, s0, s1, s2, s3, s4, s5, s6, s7, s8]; rfl) rfl ?_
    refine ⟨x, .slice a x.k.ps.length cap, rfl, hbw, hrt _ (RdUp.g (B := B) (c := 3100) ?_), ?_⟩ <;> exact RdUp.fin hU (by intro c hU; (repeat (first | with_reducible assumption | refine RdUp.ups ?_ (by with_reducible assumption) | with_reducible refine RdUp.set ?_ (by first | exact Nat.le_refl _ | (simp only []; omega) | (simp; omega)) _ | with_reducible refine RdUp.alloc ?_ _ | with_reducible refine RdUp.drew ?_ | with_reducible exact RdUp.of (Up.refl _)))) (by omega)
end Go.Proofs.YtekogcjdaolcbaaGreatDoor

/- Walk of the reference's l2Draw: what it draws is valid. Conditions: the reader is one, its place is bounded. (Printed by gen/kdv.py.) -/
namespace Go.Proofs.YtekogcjdaolcbaaGreatDoor
open Go Go.RowKit
def RelDv (rb : Nat) (B : Value) (c : Nat) (w : World) (b : Nat) (i : Value) (wr : World) : Prop := ∃ (n : Nat) (k : KnD) (v : Value), i = .int .i64 n ∧ n ≤ 13 ∧ k.Ok ∧ KnAt b k v wr ∧ RdP (b + 1) wr v k.ps ∧ RdUp rb B (c + 40 * (13 - n)) w wr ∧ KnAt w.heap.size kn0 (.slice none 0 0) wr ∧ (k.last = -1 → k.ps = [])
theorem vl_of {k : KnD} (h : k.Ok) (hj : k.last = -1 → k.ps = []) : k.vl := fun e => by
  have h0 := h.base0
  have h1 := h.base1
  have h2 : k.ps.length = 0 := by rw [hj e]; rfl
  omega
set_option maxRecDepth 100000 in
set_option maxHeartbeats 8000000 in
theorem l2DrawV_any (rb : Nat) (B : Value) (w : World) (N : Nat) (h : Rdr rb B w N) (hN : N ≤ 800000000) :
    Calls Tryz.prog 72  #[.pointer (some ⟨rb, 0, none⟩)] w (DrawnK rb B 800 (fun k => k.Ok ∧ k.vl) w) := by
  obtain ⟨p, hp, h, HM⟩ := h.least
  have hlt := h.lt
  have HR := Lib.hid h
  have hne0 : ¬ w.heap.size = rb := by omega
  have hU := RdUp.refl rb B 0 w
  have e1 : w.heap.size < w.heap.size + 1 := by omega
  have cS := fun w N h hN => l1Some_any rb B w N h hN
  have hRB : KnAt w.heap.size kn0 (.slice none 0 0) (w.alloc (.cells #[.int .i64 0, .int .i64 0, .int .i64 0, .slice none 0 0, .int .i64 0, .int .i64 0] 27)) := (MapKept.heap_alloc w _).1
  go_enter Tryz.func72, Tryz.ntmps72
  go_wp2_with (first | ((go_at_call 126; ((with_reducible refine (draw_at (cS) HR.out hU (by intro c hU; (repeat (first | with_reducible assumption | refine RdUp.ups ?_ (by with_reducible assumption) | with_reducible refine RdUp.set ?_ (by first | exact Nat.le_refl _ | (simp only []; omega) | (simp; omega)) _ | with_reducible refine RdUp.alloc ?_ _ | with_reducible refine RdUp.drew ?_ | with_reducible exact RdUp.of (Up.refl _)))) (by omega)).mono ?_); rintro e w' ⟨v, rfl, ⟨s, rfl, hs⟩, hU, U⟩; have D := gcell U.1; have Z := U.1.size; (try simp at Z); (try have Y0 : w.heap.size < w'.heap.size := (by omega)); (try have Y1 : w.heap.size + 1 < w'.heap.size := (by omega)); (try have Y2 : w.heap.size + 1 + 1 < w'.heap.size := (by omega)); (try have X0 : w.heap.size < w'.heap.size + 1 := (by omega)); (try have X1 : w.heap.size + 1 < w'.heap.size + 1 := (by omega)); (try have X2 : w.heap.size + 1 + 1 < w'.heap.size + 1 := (by omega)))); have hRB := gbox U.1 hRB (by simp; omega)) | (go_at_call 125; (with_reducible refine (startS_any s _ hs).mono ?_); rintro e w2 ⟨rfl, U2⟩; have hU := hU.ups U2; have hRB := box_up U2 hRB; clear D U cS))
  have hKB : KnAt w2.heap.size ⟨s, [], 0, -1⟩ (.slice none 0 0) (w2.alloc (.cells #[.int .i64 s.ord, .int .i64 s.lit, .int .i64 s.most, .slice none 0 0, .int .i64 0, .int .i64 (-1)] 27)) := (MapKept.heap_alloc w2 _).1
  have hRB : KnAt w.heap.size kn0 (.slice none 0 0) (w2.alloc (.cells #[.int .i64 s.ord, .int .i64 s.lit, .int .i64 s.most, .slice none 0 0, .int .i64 0, .int .i64 (-1)] 27)) := box_up ((Up.refl _).alloc _) hRB
  have hU : RdUp rb B 5 w (w2.alloc (.cells #[.int .i64 s.ord, .int .i64 s.lit, .int .i64 s.most, .slice none 0 0, .int .i64 0, .int .i64 (-1)] 27)) := by exact RdUp.fin hU (by intro c hU; (repeat (first | with_reducible assumption | refine RdUp.ups ?_ (by with_reducible assumption) | with_reducible refine RdUp.set ?_ (by first | exact Nat.le_refl _ | (simp only []; omega) | (simp; omega)) _ | with_reducible refine RdUp.alloc ?_ _ | with_reducible refine RdUp.drew ?_ | with_reducible exact RdUp.of (Up.refl _)))) (by omega)
  have hs2 : w.heap.size < w2.heap.size := by have := U2.size; omega
  have hbr : ¬ w2.heap.size = rb := by omega
  have hbr2 : rb < w2.heap.size := by omega
  have hbr3 : rb < w2.heap.size + 1 := by omega
  have hk0 : (⟨s, [], 0, -1⟩ : KnD).Ok := startK_ok hs
  generalize (w2.alloc (.cells #[.int .i64 s.ord, .int .i64 s.lit, .int .i64 s.most, .slice none 0 0, .int .i64 0, .int .i64 (-1)] 27)) = W at *
  generalize w2.heap.size = b at *
  clear U2 Z Y0 X0 hs
  simp only [kV, setV]
  go_wp2_with ((go_at_call 31; ((with_reducible refine (pick_at (n := 14) HR.out hU (by intro c hU; (repeat (first | with_reducible assumption | refine RdUp.ups ?_ (by with_reducible assumption) | with_reducible refine RdUp.set ?_ (by first | exact Nat.le_refl _ | (simp only []; omega) | (simp; omega)) _ | with_reducible refine RdUp.alloc ?_ _ | with_reducible refine RdUp.drew ?_ | with_reducible exact RdUp.of (Up.refl _)))) (by omega)).mono ?_); rintro e w' ⟨n, rfl, n0, n1, hU, U⟩; have D := gcell U.1; have Z := U.1.size; (try simp at Z); (try have Y0 : w.heap.size < w'.heap.size := (by omega)); (try have Y1 : w.heap.size + 1 < w'.heap.size := (by omega)); (try have Y2 : w.heap.size + 1 + 1 < w'.heap.size := (by omega)); (try have X0 : w.heap.size < w'.heap.size + 1 := (by omega)); (try have X1 : w.heap.size + 1 < w'.heap.size + 1 := (by omega)); (try have X2 : w.heap.size + 1 + 1 < w'.heap.size + 1 := (by omega)); ((have hKB := gbox U.1 hKB (by simp; omega); have hRB := gbox U.1 hRB (by simp; omega))))))
  obtain ⟨n, rfl⟩ := Int.eq_ofNat_of_zero_le n0
  have hn14 : n ≤ 13 := by omega
  have hU0 := RdUp.mono hU (show 5 + 1 ≤ 6 by omega)
  clear hU U D
  go_loopw [5] (fun i wr => RelDv rb B 6 w b i wr) (fun i _ => (intOf i).toNat)
  case atStart => exact ⟨n, _, _, rfl, hn14, hk0, hKB, rdP_none _ _, hU0.mono (by omega), hRB, fun _ => rfl⟩
  case round =>
    clear hKB hRB hU0 hk0
    obtain ⟨n, k, v, rfl, hn, hk, hKB, hr, hU, hRB, hJ⟩ := hrel
    have HJ := Lib.hid hJ
    clear hJ
    have hwz := hU.1.size
    obtain ⟨a, cap, rfl, hc1, hc2, hc3, -⟩ := id hr
    unfold maxLen at hc2
    have hpl := hk.nums.2.2.2.1
    have hfw := box_free hKB
    by_cases hp0 : 0 < n
    · go_wp2
      have hr2 := hU.2 _ h
      refine wp_region_rd 5 rb B 8 _ (by kernel_rfl) (by kernel_rfl) hr2 ?_
      simp only [List.take, List.drop]
      repeat (refine wpR_step (fun K hK => ?_); go_simp; (try simp only [↓IntWalk.iteOmega]); first
        | (refine hK _ _ ?_; clear hK K)
        | (refine stepR_c ?_ ?_ ?_
           rotate_left
           · intro wq hwq hrq; (have hbq := gcell hwq; (repeat (first | refine fills_no (by rfl) ?_ | (refine fills_yes (by rfl) (fun vq hvq => ?_); (try ((obtain ⟨x, rfl, hx⟩ := hvq)))))); simp only [List.filter_nil, fills]; unfold upAt; (try ((obtain ⟨-, r0, r1, r2, r3, r4, r5⟩ := KnAt.cells (gbox hwq hKB (by simp; omega))))); go_simp; (try go_bits); (try simp only [↓IntWalk.iteOmega]); (try (rw [dif_pos (by omega)]; go_simp; try go_bits)); first | exact upOut_value)
           go_simp; refine hK _ _ ?_; clear hK K)
        | (refine stepR_m (by kernel_rfl) ?_ ?_ (fun wq hwq hrq => ?_) ?_
           rotate_left 2
           · (have hbq := gcell hwq; (repeat (first | refine fills_no (by rfl) ?_ | (refine fills_yes (by rfl) (fun vq hvq => ?_); (try ((obtain ⟨x, rfl, hx⟩ := hvq)))))); simp only [List.filter_nil, fills]; unfold upAt; (try ((obtain ⟨-, r0, r1, r2, r3, r4, r5⟩ := KnAt.cells (gbox hwq hKB (by simp; omega))))); go_simp; (try go_bits); (try simp only [↓IntWalk.iteOmega]); (try (rw [dif_pos (by omega)]; go_simp; try go_bits)); first | ((with_reducible refine upOut_D (AftP (b + 1) k) ?_); (((with_reducible refine upOut_aft ?_ hx ?_); (go_at_call 127; exact l2After_any k _ (b + 1) x wq hk (hr.gr hwq (by omega)) hx); (have := (Array.getElem?_eq_some_iff.1 hKB).1; have := hwq.size; omega)))))
           rotate_left
           · (first | exact (fun _ _ _ h _ => h) | exact (aftP_closed (by omega)))
           refine hK _ _ ?_; clear hK K)
        | (refine stepR_d (by rfl) (by kernel_rfl) (fun v _ => IsFol k v) (fun _ _ _ h _ => h) (fun wq hwq hrq => ?_) ?_
           · (have hbq := gcell hwq; (repeat (first | refine fills_no (by rfl) ?_ | (refine fills_yes (by rfl) (fun vq hvq => ?_); (try ((obtain ⟨x, rfl, hx⟩ := hvq)))))); simp only [List.filter_nil, fills]; unfold gAt; (try ((obtain ⟨-, r0, r1, r2, r3, r4, r5⟩ := KnAt.cells (gbox hwq hKB (by simp; omega))))); go_simp; (try go_bits); (try simp only [↓IntWalk.iteOmega]); (try (rw [dif_pos (by omega)]; go_simp; try go_bits)); (with_reducible refine gOut_drawn ((l2Pick_any k _ rb B wq _ hrq (by omega) hk ((hr.gr hwq (by omega)).low (by omega)))) ?_); decide)
           refine hK _ _ ?_; clear hK K))
      refine wpR_nil (fun wq hwq hrq => ?_)
      simp only [fills]
      rintro u ⟨x, v', hx, rfl, hr'⟩
      intros
      obtain ⟨a', c', rfl, -⟩ := id hr'
      generalize hvv : Value.slice a' (k.after x).ps.length c' = v' at *
      have hU := RdUp.made (C := 6 + 40 * (13 - (n - 1))) HM (grownBy_trans hU.1 hwq) hrq (by omega)
      have hK2 := KnAt.store (gbox hwq hKB (by simp; omega)) (k.after x) v'
      have hR2 : KnAt w.heap.size kn0 (.slice none 0 0) (KnW wq b (k.after x) v') := (KnW.other (by omega) _ _).trans (gbox hwq hRB (by simp; omega))
      have hr2' : RdP (b + 1) (KnW wq b (k.after x) v') v' (k.after x).ps := by unfold KnW; exact (((((hr'.set (Nat.lt_succ_self b) _ _).set (Nat.lt_succ_self b) _ _).set (Nat.lt_succ_self b) _ _).set (Nat.lt_succ_self b) _ _).set (Nat.lt_succ_self b) _ _).set (Nat.lt_succ_self b) _ _
      have hU2 : RdUp rb B (6 + 40 * (13 - (n - 1))) w (KnW wq b (k.after x) v') := by unfold KnW; (repeat (first | with_reducible assumption | refine RdUp.ups ?_ (by with_reducible assumption) | with_reducible refine RdUp.set ?_ (by first | exact Nat.le_refl _ | (simp only []; omega) | (simp; omega)) _ | with_reducible refine RdUp.alloc ?_ _ | with_reducible refine RdUp.drew ?_ | with_reducible exact RdUp.of (Up.refl _)))
      have hK := KnD.after_ok hk hx
      have hJ2 : (k.after x).last = -1 → (k.after x).ps = [] := fun e => by have e : x = -1 := e; have := (KnD.find_bd hk hx).1; omega
      have HH := Lib.hid (And.intro hK (And.intro hK2 (And.intro hr2' (And.intro hU2 (And.intro hR2 hJ2)))))
      obtain ⟨hb1, q0, q1, q2, q3, q4, q5⟩ := KnAt.cells (gbox hwq hKB (by simp; omega))
      have hfr := box_free (gbox hwq hKB (by simp; omega))
      clear hK2 hR2 hr2' hU2 hK hJ2 hr' hU hKB hRB hr
      generalize k.after x = k2 at *
      subst hvv
      simp only [kV]
      go_wp2
      rw [onlyN_normal]
      go_wp2
      rw [show (World.setCell (World.setCell (World.setCell (World.setCell (World.setCell (World.setCell wq ⟨b, 0, none⟩ (.int .i64 k2.set.ord)) ⟨b, 1, none⟩ (.int .i64 k2.set.lit)) ⟨b, 2, none⟩ (.int .i64 k2.set.most)) ⟨b, 3, none⟩ (.slice a' k2.ps.length c')) ⟨b, 4, none⟩ (.int .i64 k2.base)) ⟨b, 5, none⟩ (.int .i64 k2.last)) = KnW wq b k2 (.slice a' k2.ps.length c') from rfl]
      obtain ⟨hK, hK2, hr2', hU2, hR2, hJ2⟩ := HH.out
      clear HH q0 q1 q2 q3 q4 q5 hfr
      go_roundw
      case rel => exact ⟨n - 1, k2, _, by go_num, by omega, hK, hK2, hr2', hU2, hR2, hJ2⟩
      case measure => simp [intOf]; omega
    · have e : n = 0 := by omega
      subst e
      obtain ⟨hb1, q0, q1, q2, q3, q4, q5⟩ := KnAt.cells hKB
      go_wp2_with (first | (go_at_call 31; ((with_reducible refine (pick_at (n := 5) HR.out hU (by intro c hU; (repeat (first | with_reducible assumption | refine RdUp.ups ?_ (by with_reducible assumption) | with_reducible refine RdUp.set ?_ (by first | exact Nat.le_refl _ | (simp only []; omega) | (simp; omega)) _ | with_reducible refine RdUp.alloc ?_ _ | with_reducible refine RdUp.drew ?_ | with_reducible exact RdUp.of (Up.refl _)))) (by omega)).mono ?_); rintro e w' ⟨y, rfl, y0, y1, hU, U⟩; have D := gcell U.1; have Z := U.1.size; (try simp at Z); (try have Y0 : w.heap.size < w'.heap.size := (by omega)); (try have Y1 : w.heap.size + 1 < w'.heap.size := (by omega)); (try have Y2 : w.heap.size + 1 + 1 < w'.heap.size := (by omega)); (try have X0 : w.heap.size < w'.heap.size + 1 := (by omega)); (try have X1 : w.heap.size + 1 < w'.heap.size + 1 := (by omega)); (try have X2 : w.heap.size + 1 + 1 < w'.heap.size + 1 := (by omega)); (((first | (have hKB := gbox U.1 hKB (by simp; omega); have hr := RdP.gr hr U.1 (by omega)) | (have hKB : KnAt b ⟨k.set, k.ps, m, k.last⟩ (.slice a k.ps.length cap) w' := gbox U.1 (box_set hKB 4 (.int .i64 m)) (by simp; omega); have hr := RdP.gr (hr.set (Nat.lt_succ_self b) 4 (.int .i64 m)) U.1 (by omega))); (first | (have hRB := gbox U.1 hRB (by simp; omega)) | (have hRB : KnAt w.heap.size kn0 (.slice none 0 0) w' := gbox U.1 ((Below.heap_setCell _ _ _ _ (show w.heap.size ≠ b by omega)).trans hRB) (by simp; omega)))); (obtain ⟨hb1, q0, q1, q2, q3, q4, q5⟩ := KnAt.cells hKB; obtain ⟨hb0, s0, s1, s2, s3, s4, s5⟩ := KnAt.cells hRB; have hfr := box_free hRB; have hfk := box_free hKB)))) | (go_at_call 31; ((with_reducible refine (pick_at (n := (k.ps.length : Int) + 1) HR.out hU (by intro c hU; (repeat (first | with_reducible assumption | refine RdUp.ups ?_ (by with_reducible assumption) | with_reducible refine RdUp.set ?_ (by first | exact Nat.le_refl _ | (simp only []; omega) | (simp; omega)) _ | with_reducible refine RdUp.alloc ?_ _ | with_reducible refine RdUp.drew ?_ | with_reducible exact RdUp.of (Up.refl _)))) (by omega)).mono ?_); rintro e w' ⟨m, rfl, m0, m1, hU, U⟩; have D := gcell U.1; have Z := U.1.size; (try simp at Z); (try have Y0 : w.heap.size < w'.heap.size := (by omega)); (try have Y1 : w.heap.size + 1 < w'.heap.size := (by omega)); (try have Y2 : w.heap.size + 1 + 1 < w'.heap.size := (by omega)); (try have X0 : w.heap.size < w'.heap.size + 1 := (by omega)); (try have X1 : w.heap.size + 1 < w'.heap.size + 1 := (by omega)); (try have X2 : w.heap.size + 1 + 1 < w'.heap.size + 1 := (by omega)); ((have hKB := gbox U.1 hKB (by simp; omega); have hRB := gbox U.1 hRB (by simp; omega); have hr := RdP.gr hr U.1 (by omega); (obtain ⟨hb1, q0, q1, q2, q3, q4, q5⟩ := KnAt.cells hKB; obtain ⟨hb0, s0, s1, s2, s3, s4, s5⟩ := KnAt.cells hRB; have hfr := box_free hRB; have hfk := box_free hKB))))) | (go_at_call 129; (first | (with_reducible refine (l2Cleared_any k _ (b + 1) _ hk hr).mono ?_) | (with_reducible refine (l2Cleared_any ⟨k.set, k.ps, m, k.last⟩ _ (b + 1) _ (hk.rebase (by omega) (by omega)) hr).mono ?_)); rintro e w9 ⟨v9, rfl, ho9, U9⟩; have hr9 := (RdP.of_own ho9).low (show b + 1 ≤ _ by omega); have hU := hU.ups U9; have hKB := box_up U9 hKB; have hRB := box_up U9 hRB; obtain ⟨a9, c9, rfl⟩ := ownsRow_shape ho9; clear q0 q1 q2 q3 q4 q5 hfr hfk s0 s1 s2 s3 s4 s5; obtain ⟨hb1, q0, q1, q2, q3, q4, q5⟩ := KnAt.cells hKB; obtain ⟨hb0, s0, s1, s2, s3, s4, s5⟩ := KnAt.cells hRB; have hfr := box_free hRB; have hfk := box_free hKB))
      all_goals
        refine bodyPost_ret (v := _) (by simp [results, Tryz.results72, go_sem, hb0, s0, s1, s2, s3, s4, s5]; rfl) rfl ?_
        first
          | (refine ⟨k, .slice a k.ps.length cap, rfl, ⟨hk, vl_of hk HJ.out⟩, RdP.low (lo := b + 1) ?_ (by omega), ?_⟩; (repeat (with_reducible refine RdP.set ?_ (by omega) _ _)); exact hr; exact RdUp.fin hU (by intro c hU; (repeat (first | with_reducible assumption | refine RdUp.ups ?_ (by with_reducible assumption) | with_reducible refine RdUp.set ?_ (by first | exact Nat.le_refl _ | (simp only []; omega) | (simp; omega)) _ | with_reducible refine RdUp.alloc ?_ _ | with_reducible refine RdUp.drew ?_ | with_reducible exact RdUp.of (Up.refl _)))) (by omega))
          | (refine ⟨⟨k.set, k.ps, m, k.last⟩, .slice a k.ps.length cap, rfl, ⟨hk.rebase (by omega) (by omega), fun e => (by have h1 := HJ.out e; have h2 : k.ps.length = 0 := (by rw [h1]; rfl); show m = (k.ps.length : Int); omega)⟩, RdP.low (lo := b + 1) ?_ (by omega), ?_⟩; (repeat (with_reducible refine RdP.set ?_ (by omega) _ _)); exact hr; exact RdUp.fin hU (by intro c hU; (repeat (first | with_reducible assumption | refine RdUp.ups ?_ (by with_reducible assumption) | with_reducible refine RdUp.set ?_ (by first | exact Nat.le_refl _ | (simp only []; omega) | (simp; omega)) _ | with_reducible refine RdUp.alloc ?_ _ | with_reducible refine RdUp.drew ?_ | with_reducible exact RdUp.of (Up.refl _)))) (by omega))
          | (refine ⟨k.cleared, .slice a9 _ c9, rfl, ⟨KnD.cleared_ok hk, vl_cleared hk⟩, RdP.low (lo := b + 1) ?_ (by omega), ?_⟩; (repeat (with_reducible refine RdP.set ?_ (by omega) _ _)); exact hr9; exact RdUp.fin hU (by intro c hU; (repeat (first | with_reducible assumption | refine RdUp.ups ?_ (by with_reducible assumption) | with_reducible refine RdUp.set ?_ (by first | exact Nat.le_refl _ | (simp only []; omega) | (simp; omega)) _ | with_reducible refine RdUp.alloc ?_ _ | with_reducible refine RdUp.drew ?_ | with_reducible exact RdUp.of (Up.refl _)))) (by omega))
          | (refine ⟨(⟨k.set, k.ps, m, k.last⟩ : KnD).cleared, .slice a9 _ c9, rfl, ⟨KnD.cleared_ok (hk.rebase (by omega) (by omega)), vl_cleared (hk.rebase (by omega) (by omega))⟩, RdP.low (lo := b + 1) ?_ (by omega), ?_⟩; (repeat (with_reducible refine RdP.set ?_ (by omega) _ _)); exact hr9; exact RdUp.fin hU (by intro c hU; (repeat (first | with_reducible assumption | refine RdUp.ups ?_ (by with_reducible assumption) | with_reducible refine RdUp.set ?_ (by first | exact Nat.le_refl _ | (simp only []; omega) | (simp; omega)) _ | with_reducible refine RdUp.alloc ?_ _ | with_reducible refine RdUp.drew ?_ | with_reducible exact RdUp.of (Up.refl _)))) (by omega))
end Go.Proofs.YtekogcjdaolcbaaGreatDoor

/- Walks of the reference's l3Writer and DrawWriteData. Conditions: the reader is one, its place is bounded; the argument can be read. -/
namespace Go.Proofs.YtekogcjdaolcbaaGreatDoor
open Go Go.RowKit
def GW (n : Nat) (y : WrD) : Prop := wrOk y ∧ y.pend.length ≤ n
theorem fits_of {x : WrD} {d : List UInt8} (hx : wrOk x) (hl : ∀ b ∈ d, b.toNat < clr x.k.set) (hn : x.pend.length + d.length ≤ 2000) : fitsB x.k.set (x.pend ++ d) = true := by
  rw [fitsB_iff hx.1.set (by rw [List.length_append]; omega)]
  refine litsL_yes fun k hk => ?_
  rcases List.mem_append.1 (List.getElem_mem hk) with h | h
  · exact hx.2.2.1 _ h
  · exact hl _ h
theorem write_gw {x : WrD} {d : List UInt8} {n m : Nat} (hx : GW n x) (hl : ∀ b ∈ d, b.toNat < clr x.k.set) (hd : d.length ≤ m) (hn : n + m ≤ 2000) : GW (n + m) (x.write d).1 := by
  have h2 := hx.2
  obtain ⟨h1, -, -, p, hp⟩ := wrOk_write hx.1 hl (by rw [List.length_append]; omega)
  refine ⟨h1, ?_⟩
  have := congrArg List.length hp
  rw [List.length_append, List.length_append] at this
  omega
def WdM (lo n : Nat) (u : Value) (w : World) : Prop := ∃ (y : WrD) (v : Value) (b : ByteArray), u = .tuple #[wrV y v, .string b, .bool true] ∧ GW n y ∧ RdP lo w v y.k.ps
theorem wdM_closed {rb lo n : Nat} (hl : rb < lo) : ∀ u w w', WdM lo n u w → w.grownBy w' (some rb) → WdM lo n u w' := fun u w w' ⟨y, v, b, h1, h2, h3⟩ hg => ⟨y, v, b, h1, h2, h3.gr hg hl⟩
def WrM (lo n : Nat) (u : Value) (w : World) : Prop := ∃ (y : WrD) (v : Value), u = wrV y v ∧ GW n y ∧ RdP lo w v y.k.ps
theorem wrM_closed {rb lo n : Nat} (hl : rb < lo) : ∀ u w w', WrM lo n u w → w.grownBy w' (some rb) → WrM lo n u w' := fun u w w' ⟨y, v, h1, h2, h3⟩ hg => ⟨y, v, h1, h2, h3.gr hg hl⟩
theorem upOut_wd {lo n m : Nat} {x : WrD} {v : Value} {d : List UInt8} {w : World} (hx : GW n x) (hl : ∀ b ∈ d, b.toNat < clr x.k.set) (hd : d.length ≤ m) (hn : n + m ≤ 2000) (hr : RdP 0 w v x.k.ps) (hb : lo ≤ w.heap.size) :
    upOut Tryz.prog (WdM lo (n + m)) w (.ok (.enter 8 #[wrV x v, .string (bs d)]) w) := by
  have h2 := hx.2
  have hc := wdS_any x v 0 d w hr (by have := hx.1.1.nums; omega) (by omega) (by have := hx.1.2.2.2.2.2.1; omega) (by omega)
  rw [wdO_some (by rw [wrvB_of hx.1, fits_of hx.1 hl (by omega)]; rfl)] at hc
  exact ⟨rfl, hc.mono fun e w' ⟨v', he, ho, hu⟩ => ⟨_, he, hu, _, v', _, rfl, write_gw hx hl hd hn, (RdP.of_own ho).low hb⟩⟩
theorem nwPost_yes {k : KnD} {w w' : World} {e : Ending} (hv : validK k = true) (h : NwPost k w e w') : ∃ v, e = .returned (.tuple #[wrV ⟨k, [], [], false⟩ v, .bool true]) ∧ ownPr w' w.heap.size v k.ps ∧ Up w w' := by
  unfold NwPost at h
  rw [if_pos hv] at h
  exact h
theorem gw_new {k : KnD} (hk : k.Ok) (hv : k.vl) : GW 0 ⟨k, [], [], false⟩ :=
  ⟨⟨hk, hv, fun b hb => absurd hb (List.not_mem_nil), Nat.zero_le _, fun b hb => absurd hb (List.not_mem_nil), Nat.zero_le _, .inl rfl, fun _ => ⟨rfl, rfl⟩⟩, Nat.le_refl _⟩
def RelLr (rb : Nat) (B : Value) (c : Nat) (w : World) (b : Nat) (i : Value) (wr : World) : Prop := ∃ (n : Nat) (y : WrD) (v : Value), i = .int .i64 n ∧ n ≤ 3 ∧ GW (12 * (3 - n)) y ∧ WrAt b y v wr ∧ RdP (w.heap.size + 1) wr v y.k.ps ∧ RdUp rb B (c + 33200 * (3 - n)) w wr ∧ WrAt w.heap.size wr0 (.slice none 0 0) wr
set_option maxRecDepth 100000 in
set_option maxHeartbeats 8000000 in
theorem l3Writer_any (rb : Nat) (B : Value) (w : World) (N : Nat) (h : Rdr rb B w N) (hN : N ≤ 700000000) :
    Calls Tryz.prog 29  #[.pointer (some ⟨rb, 0, none⟩)] w (DrawnW rb B 101000 (GW 36) w) := by
  obtain ⟨p, hp, h, HM⟩ := h.least
  have hlt := h.lt
  have HR := Lib.hid h
  have hne0 : ¬ w.heap.size = rb := by omega
  have hU := RdUp.refl rb B 0 w
  have e1 : w.heap.size < w.heap.size + 1 := by omega
  have hRB := WrAt.zero (MapKept.heap_alloc w (.cells #[.int .i64 0, .int .i64 0, .int .i64 0, .slice none 0 0, .int .i64 0, .int .i64 0, .string ⟨#[]⟩, .string ⟨#[]⟩, .bool false] 29)).1
  have hU0 : RdUp rb B 0 w (w.alloc (.cells #[.int .i64 0, .int .i64 0, .int .i64 0, .slice none 0 0, .int .i64 0, .int .i64 0, .string ⟨#[]⟩, .string ⟨#[]⟩, .bool false] 29)) := by (repeat (first | with_reducible assumption | refine RdUp.ups ?_ (by with_reducible assumption) | with_reducible refine RdUp.set ?_ (by first | exact Nat.le_refl _ | (simp only []; omega) | (simp; omega)) _ | with_reducible refine RdUp.alloc ?_ _ | with_reducible refine RdUp.drew ?_ | with_reducible exact RdUp.of (Up.refl _)))
  go_enter Tryz.func29, Tryz.ntmps29
  go_wp2_with fail
  with_reducible refine (l2DrawV_any rb B _ _ (rdUp_r hU0 h) (by omega)).mono ?_
  rintro e w1 ⟨k, u, rfl, ⟨hk, hvl⟩, hrk, hU1⟩
  have hU := RdUp.trans hU0 hU1
  have hval := valid_of_ok hk hvl
  have hRB := gbox hU1.1 hRB (by simp; omega)
  have hz1 := hU1.1.size
  simp at hz1
  have hnw := nwS_any k u (rb + 1) w1 hrk (by have := hk.nums; omega)
  obtain ⟨a, cap, rfl, -, -, -, -⟩ := id hrk
  simp only [kV] at hnw ⊢
  go_wp2_with fail
  with_reducible refine hnw.mono ?_
  rintro e w2 hpost
  obtain ⟨v2, rfl, ho2, U2⟩ := nwPost_yes hval hpost
  obtain ⟨a2, c2, rfl⟩ := ownsRow_shape ho2
  have hRB := box_up U2 hRB
  have hU := hU.ups U2
  have hr2 : RdP (w.heap.size + 1) w2 (.slice a2 k.ps.length c2) k.ps := (RdP.of_own ho2).low (by omega)
  have hz2 := U2.size
  have hgw := gw_new hk hvl
  clear ho2 U2 hnw hval hpost hrk hU1 hvl hU0
  unfold wrV
  go_wp2_with fail
  have hKB : WrAt w2.heap.size ⟨k, [], [], false⟩ (.slice a2 k.ps.length c2) (w2.alloc (.cells #[.int .i64 k.set.ord, .int .i64 k.set.lit, .int .i64 k.set.most, .slice a2 k.ps.length c2, .int .i64 k.base, .int .i64 k.last, .string (bs []), .string (bs []), .bool false] 29)) := (MapKept.heap_alloc w2 _).1
  have hUa : Up w2 (w2.alloc (.cells #[.int .i64 k.set.ord, .int .i64 k.set.lit, .int .i64 k.set.most, .slice a2 k.ps.length c2, .int .i64 k.base, .int .i64 k.last, .string (bs []), .string (bs []), .bool false] 29)) := (Up.refl _).alloc _
  have hRB := box_up hUa hRB
  have hr2 := hr2.up hUa
  have hU := RdUp.mono (hU.ups hUa) (show 0 + 800 ≤ 801 by omega)
  have hbw : w.heap.size < w2.heap.size := by omega
  have hbr : ¬ w2.heap.size = rb := by omega
  have hbr2 : rb < w2.heap.size := by omega
  clear hUa
  generalize w2.alloc (.cells #[.int .i64 k.set.ord, .int .i64 k.set.lit, .int .i64 k.set.most, .slice a2 k.ps.length c2, .int .i64 k.base, .int .i64 k.last, .string (bs []), .string (bs []), .bool false] 29) = W at *
  generalize w2.heap.size = b at *
  clear hz1 hz2
  go_wp2_with ((go_at_call 31; ((with_reducible refine (pick_at (n := 4) HR.out hU (by intro c hU; (repeat (first | with_reducible assumption | refine RdUp.ups ?_ (by with_reducible assumption) | with_reducible refine RdUp.set ?_ (by first | exact Nat.le_refl _ | (simp only []; omega) | (simp; omega)) _ | with_reducible refine RdUp.alloc ?_ _ | with_reducible refine RdUp.drew ?_ | with_reducible exact RdUp.of (Up.refl _)))) (by omega)).mono ?_); rintro e w' ⟨n, rfl, n0, n1, hU, U⟩; have D := gcell U.1; have Z := U.1.size; (try simp at Z); (try have Y0 : w.heap.size < w'.heap.size := (by omega)); (try have Y1 : w.heap.size + 1 < w'.heap.size := (by omega)); (try have Y2 : w.heap.size + 1 + 1 < w'.heap.size := (by omega)); (try have X0 : w.heap.size < w'.heap.size + 1 := (by omega)); (try have X1 : w.heap.size + 1 < w'.heap.size + 1 := (by omega)); (try have X2 : w.heap.size + 1 + 1 < w'.heap.size + 1 := (by omega)); ((have hKB := gbox U.1 hKB (by simp; omega); have hRB := gbox U.1 hRB (by simp; omega); have hr2 := hr2.gr U.1 (by omega))))))
  obtain ⟨n, rfl⟩ := Int.eq_ofNat_of_zero_le n0
  have hn3 : n ≤ 3 := by omega
  have hU0 := RdUp.mono hU (show 801 + 1 ≤ 802 by omega)
  clear hU U D
  go_loopw [5] (fun i wr => RelLr rb B 802 w b i wr) (fun i _ => (intOf i).toNat)
  case atStart => exact ⟨n, _, _, rfl, hn3, ⟨hgw.1, Nat.zero_le _⟩, hKB, hr2, hU0.mono (by omega), hRB⟩
  case round =>
    clear hKB hRB hU0 hgw hr2
    obtain ⟨n, y, v, rfl, hn, hy, hKB, hr, hU, hRB⟩ := hrel
    have hwz := hU.1.size
    obtain ⟨a, cap, rfl, hc1, hc2, hc3, -⟩ := id hr
    unfold maxLen at hc2
    by_cases hp0 : 0 < n
    · go_wp2_with fail
      have hr2 := hU.2 _ h
      have hbz := Lib.hid (Array.getElem?_eq_some_iff.1 hKB).1
      have hyp := hy.2
      have hys := hy.1.1.set
      refine wp_region_rd 11 rb B 3010 _ (by kernel_rfl) (by kernel_rfl) hr2 ?_
      simp only [List.take, List.drop]
      repeat (refine wpR_step (fun K hK => ?_); go_simp; (try simp only [↓IntWalk.iteOmega]); first
        | (refine hK _ _ ?_; clear hK K)
        | (refine stepR_c ?_ ?_ ?_
           rotate_left
           · intro wq hwq hrq; (have hbq := gcell hwq; (repeat (first | refine fills_no (by rfl) ?_ | (refine fills_yes (by rfl) (fun vq hvq => ?_); (try ((first | (obtain ⟨s9, rfl, hs9, hl9⟩ := hvq) | (obtain ⟨y', v', b', rfl, hy', hr'⟩ := hvq))))))); simp only [List.filter_nil, fills]; unfold upAt; (try ((obtain ⟨-, r0, r1, r2, r3, r4, r5, r6, r7, r8⟩ := WrAt.cells (gbox hwq hKB (by simp; omega))))); go_simp; (try go_bits); (try simp only [↓IntWalk.iteOmega]); (try (rw [dif_pos (by omega)]; go_simp; try go_bits)); first | exact upOut_value)
           go_simp; refine hK _ _ ?_; clear hK K)
        | (refine stepR_m (by kernel_rfl) ?_ ?_ (fun wq hwq hrq => ?_) ?_
           rotate_left 2
           · (have hbq := gcell hwq; (repeat (first | refine fills_no (by rfl) ?_ | (refine fills_yes (by rfl) (fun vq hvq => ?_); (try ((first | (obtain ⟨s9, rfl, hs9, hl9⟩ := hvq) | (obtain ⟨y', v', b', rfl, hy', hr'⟩ := hvq))))))); simp only [List.filter_nil, fills]; unfold upAt; (try ((obtain ⟨-, r0, r1, r2, r3, r4, r5, r6, r7, r8⟩ := WrAt.cells (gbox hwq hKB (by simp; omega))))); go_simp; (try go_bits); (try simp only [↓IntWalk.iteOmega]); (try (rw [dif_pos (by omega)]; go_simp; try go_bits)); first | ((with_reducible refine upOut_D (WdM (b + 1) (12 * (3 - n) + 12)) ?_); ((exact upOut_wd (d := s9.data.toList) hy hl9 hs9 (by omega) ((hr.gr hwq (by omega)).low (by omega)) (by have := hwq.size; have := hbz.out; omega)))) | ((with_reducible refine upOut_D (WdM (b + 1) (12 * (3 - n) + 12)) ?_); ((exact ⟨Up.refl _, y', v', b', rfl, hy', hr'⟩))) | ((with_reducible refine upOut_D (WrM (b + 1) (12 * (3 - n) + 12)) ?_); ((exact ⟨Up.refl _, y', v', rfl, hy', hr'⟩))) | ((with_reducible refine upOut_D ((fun _ _ => True)) ?_); ((exact ⟨Up.refl _, trivial⟩))))
           rotate_left
           · (first | exact (fun _ _ _ h _ => h) | exact (wdM_closed (by omega)) | exact (wdM_closed (by omega)) | exact (wrM_closed (by omega)) | exact ((fun _ _ _ _ _ => trivial)))
           refine hK _ _ ?_; clear hK K)
        | (refine stepR_d (by rfl) (by kernel_rfl) (fun v _ => IsStrB 12 (clr y.k.set) v) (fun _ _ _ h _ => h) (fun wq hwq hrq => ?_) ?_
           · (have hbq := gcell hwq; (repeat (first | refine fills_no (by rfl) ?_ | (refine fills_yes (by rfl) (fun vq hvq => ?_); (try ((first | (obtain ⟨s9, rfl, hs9, hl9⟩ := hvq) | (obtain ⟨y', v', b', rfl, hy', hr'⟩ := hvq))))))); simp only [List.filter_nil, fills]; unfold gAt; (try ((obtain ⟨-, r0, r1, r2, r3, r4, r5, r6, r7, r8⟩ := WrAt.cells (gbox hwq hKB (by simp; omega))))); go_simp; (try go_bits); (try simp only [↓IntWalk.iteOmega]); (try (rw [dif_pos (by omega)]; go_simp; try go_bits)); (with_reducible refine gOut_drawn ((l1DataB_as 12 12 rfl rb B y.k.set wq _ hrq (by omega) (by omega) hys)) ?_); decide)
           refine hK _ _ ?_; clear hK K))
      refine wpR_nil (fun wq hwq hrq => ?_)
      simp only [fills]
      rintro u1 - u2 ⟨y2, v2, rfl, hy2, hr2'⟩ u3 ⟨y3, v3, b3, rfl, -, -⟩ u4 ⟨y4, v4, b4, rfl, -, -⟩ u5 ⟨s9, rfl, -, -⟩
      obtain ⟨a2, c2, rfl, -⟩ := id hr2'
      have hU := RdUp.made (C := 802 + 33200 * (3 - (n - 1))) HM (grownBy_trans hU.1 hwq) hrq (by omega)
      have hK2 := WrAt.store (gbox hwq hKB (by simp; omega)) y2 (.slice a2 y2.k.ps.length c2)
      have hR2 : WrAt w.heap.size wr0 (.slice none 0 0) (WrW wq b y2 (.slice a2 y2.k.ps.length c2)) := (WrW.other (by omega) _ _).trans (gbox hwq hRB (by simp; omega))
      have hr3 : RdP (w.heap.size + 1) (WrW wq b y2 (.slice a2 y2.k.ps.length c2)) (.slice a2 y2.k.ps.length c2) y2.k.ps := by
        unfold WrW KnW
        refine RdP.low (lo := b + 1) ?_ (by omega)
        (repeat (with_reducible refine RdP.set ?_ (Nat.lt_succ_self b) _ _)); exact hr2'
      have hU2 : RdUp rb B (802 + 33200 * (3 - (n - 1))) w (WrW wq b y2 (.slice a2 y2.k.ps.length c2)) := by unfold WrW KnW; (repeat (first | with_reducible assumption | refine RdUp.ups ?_ (by with_reducible assumption) | with_reducible refine RdUp.set ?_ (by first | exact Nat.le_refl _ | (simp only []; omega) | (simp; omega)) _ | with_reducible refine RdUp.alloc ?_ _ | with_reducible refine RdUp.drew ?_ | with_reducible exact RdUp.of (Up.refl _)))
      have hg2 : GW (12 * (3 - (n - 1))) y2 := ⟨hy2.1, by have := hy2.2; omega⟩
      have HH := Lib.hid (And.intro hg2 (And.intro hK2 (And.intro hr3 (And.intro hU2 hR2))))
      obtain ⟨hb1, q0, q1, q2, q3, q4, q5, q6, q7, q8⟩ := WrAt.cells (gbox hwq hKB (by simp; omega))
      have hfr := box_free (gbox hwq hKB (by simp; omega))
      clear hK2 hR2 hr3 hU2 hr2' hU hKB hRB hr hg2
      unfold wrV
      go_wp2_with fail
      rw [onlyN_normal]
      rw [show (((((((((wq.setCell ⟨b, 0, none⟩ (.int .i64 y2.k.set.ord)).setCell ⟨b, 1, none⟩ (.int .i64 y2.k.set.lit)).setCell ⟨b, 2, none⟩ (.int .i64 y2.k.set.most)).setCell ⟨b, 3, none⟩ (.slice a2 y2.k.ps.length c2)).setCell ⟨b, 4, none⟩ (.int .i64 y2.k.base)).setCell ⟨b, 5, none⟩ (.int .i64 y2.k.last)).setCell ⟨b, 6, none⟩ (.string (bs y2.pend))).setCell ⟨b, 7, none⟩ (.string (bs y2.bits))).setCell ⟨b, 8, none⟩ (.bool y2.beg)) = WrW wq b y2 (.slice a2 y2.k.ps.length c2) from rfl]
      obtain ⟨hg2, hK2, hr3, hU2, hR2⟩ := HH.out
      clear HH q0 q1 q2 q3 q4 q5 q6 q7 q8 hfr
      generalize WrW wq b y2 (.slice a2 y2.k.ps.length c2) = W9 at *
      go_wp2_with fail
      go_roundw
      case rel => exact ⟨n - 1, y2, _, by go_num, by omega, hg2, hK2, hr3, hU2, hR2⟩
      case measure => simp [intOf]; omega
    · have e : n = 0 := by omega
      subst e
      obtain ⟨hb1, q0, q1, q2, q3, q4, q5, q6, q7, q8⟩ := WrAt.cells hKB
      obtain ⟨hb0, s0, s1, s2, s3, s4, s5, s6, s7, s8⟩ := WrAt.cells hRB
      simp only [wr0] at s0 s1 s2 s3 s4 s5 s6 s7 s8
      have hfr := box_free hRB
      go_wp2_with fail
      refine bodyPost_ret (v := _) (by simp [results, Tryz.results29, go_sem, hb0, s0, s1, s2, s3, s4, s5, s6, s7, s8]; rfl) rfl ?_
      refine ⟨y, .slice a y.k.ps.length cap, rfl, ⟨hy.1, by have := hy.2; omega⟩, RdP.low (lo := w.heap.size + 1) ?_ (by omega), ?_⟩
      · (repeat (with_reducible refine RdP.set ?_ (by omega) _ _)); exact hr
      · exact RdUp.fin hU (by intro c hU; (repeat (first | with_reducible assumption | refine RdUp.ups ?_ (by with_reducible assumption) | with_reducible refine RdUp.set ?_ (by first | exact Nat.le_refl _ | (simp only []; omega) | (simp; omega)) _ | with_reducible refine RdUp.alloc ?_ _ | with_reducible refine RdUp.drew ?_ | with_reducible exact RdUp.of (Up.refl _)))) (by omega)
theorem badW_gw {n : Nat} {x : WrD} (h : GW n x) : BadW x := badW_of h.1
end Go.Proofs.YtekogcjdaolcbaaGreatDoor

/- Walk of the reference's l3Bent and of its draw of a text of places. Conditions: the reader is one, its place is bounded; the argument can be read. -/
namespace Go.Proofs.YtekogcjdaolcbaaGreatDoor
open Go Go.RowKit
def RdTx (rb : Nat) (w : World) (v : Value) (l : List ByteArray) : Prop := ∃ b off cap, v = .slice (some ⟨b, off, none⟩) l.length cap ∧ l.length ≤ cap ∧ cap ≤ maxLen ∧ b < w.heap.size ∧ b ≠ rb ∧ ∀ i x, l[i]? = some x → w.cell? ⟨b, off + i, none⟩ = some (.string x)
def oneTx (l : List ByteArray) (v : Value) : Prop := ∃ s : ByteArray, v = .string s ∧ s ∈ l
set_option maxRecDepth 100000 in
set_option maxHeartbeats 2000000 in
theorem ofT_any (rb : Nat) (B : Value) (l : List ByteArray) (v : Value) (w : World) (N : Nat) (h : Rdr rb B w N) (hN : N ≤ 1099511627776) (hr : RdTx rb w v l) (hl : 0 < l.length) :
    Calls Tryz.prog 88  #[.pointer (some ⟨rb, 0, none⟩), v] w (Drawn rb B 1 (oneTx l) w) := by
  obtain ⟨b, off, cap, rfl, h1, h2, h3, h4, h5⟩ := hr
  have cP := fun wx h => pick_any rb B (l.length : Int) wx N h hN
  unfold maxLen at h2
  go_enter Tryz.func88, Tryz.ntmps88
  go_wp2_with (go_at_call 31; (with_reducible refine (cP _ h).mono ?_); rintro e w1 ⟨v1, rfl, ⟨i, rfl, hi0, hi1⟩, U1⟩; obtain ⟨j, rfl⟩ := Int.eq_ofNat_of_zero_le hi0; have hjl : j < l.length := (by omega); have hx := ((gcell U1.1).1 b (off + j) h3 (fun e => h4 (Option.some.inj e))).trans (h5 j l[j] (List.getElem?_eq_getElem hjl)))
  go_ret
  exact ⟨_, rfl, ⟨_, rfl, List.getElem_mem hjl⟩, U1⟩
theorem RdTx.gr {rb : Nat} {w w' : World} {v : Value} {l : List ByteArray} (h : RdTx rb w v l) (hg : w.grownBy w' (some rb)) : RdTx rb w' v l := by
  obtain ⟨b, off, cap, h1, h2, h3, h4, h5, h6⟩ := h
  exact ⟨b, off, cap, h1, h2, h3, Nat.lt_of_lt_of_le h4 hg.size, h5, fun i x hi => ((gcell hg).1 b _ h4 (fun e => h5 (Option.some.inj e))).trans (h6 i x hi)⟩
theorem rdTx_new {rb : Nat} {w : World} {T : TypeId} (l : List ByteArray) {cs : Array Value} (hcs : cs = (l.map Value.string).toArray) (hl : l.length ≤ 100) {n cap : Nat} (hn : n = l.length) (hc : cap = n) (hlt : rb < w.heap.size) : RdTx rb (w.alloc (.cells cs T)) (.slice (some ⟨w.heap.size, 0, none⟩) n cap) l := by
  subst hcs hc hn
  refine ⟨w.heap.size, 0, l.length, rfl, Nat.le_refl _, by unfold maxLen; omega, by simp, by omega, fun i x hi => ?_⟩
  rw [box_cell (MapKept.heap_alloc w _).1, Nat.zero_add]
  simp [hi]
theorem rdUpT_r {rb : Nat} {B : Value} {c N : Nat} {w w' : World} (h : RdUp rb B c w w') (hr : Rdr rb B w N) : Rdr rb B w' (N + c) := h.2 _ hr
def bentL : List ByteArray := [⟨#[]⟩, ⟨#[48]⟩, ⟨#[49]⟩, ⟨#[59]⟩, ⟨#[44]⟩, ⟨#[46]⟩, ⟨#[45]⟩, ⟨#[124]⟩, ⟨#[32]⟩]
theorem bentL_le : ∀ s ∈ bentL, s.size ≤ 1 := by
  intro s hs
  simp only [bentL, List.mem_cons, List.not_mem_nil, or_false] at hs
  rcases hs with rfl | rfl | rfl | rfl | rfl | rfl | rfl | rfl | rfl <;> decide
theorem ofB_any (rb : Nat) (B : Value) (v : Value) (w : World) (N : Nat) (h : Rdr rb B w N) (hN : N ≤ 1099511627776) (hr : RdTx rb w v bentL) :
    Calls Tryz.prog 88  #[.pointer (some ⟨rb, 0, none⟩), v] w (Drawn rb B 1 (IsStr 1) w) :=
  (ofT_any rb B bentL v w N h hN hr (by decide)).mono fun e w' ⟨v, he, ⟨i, hv, h1⟩, hu⟩ => ⟨v, he, ⟨i, hv, bentL_le i h1⟩, hu⟩
def IsBetw (a b : Int) (v : Value) : Prop := ∃ i : Int, v = .int .i64 i ∧ a ≤ i ∧ i ≤ b
set_option maxRecDepth 100000 in
set_option maxHeartbeats 8000000 in
theorem l3Bent_any (rb : Nat) (B : Value) (s : ByteArray) (w : World) (N : Nat) (h : Rdr rb B w N) (hN : N ≤ 700000000) (hs : s.size ≤ 60000) :
    Calls Tryz.prog 67  #[.pointer (some ⟨rb, 0, none⟩), .string s] w (Drawn rb B 100 (IsStr 120001) w) := by
  obtain ⟨p, hp, h, HM⟩ := h.least
  have hlt := h.lt
  have HR := Lib.hid h
  have hU := RdUp.refl rb B 0 w
  by_cases he : s.size = 0
  · have hb : s.toList.isEmpty = true := by
      rw [Lib.toList_data]
      have := ba_len s
      cases hl : s.data.toList with
      | nil => rfl
      | cons _ _ => rw [hl] at this; simp at this; omega
    go_enter Tryz.func67, Tryz.ntmps67
    go_wp2_with (first | (go_at_call 31; ((with_reducible refine (pick_at (n := 2) HR.out hU (by intro c hU; (repeat (first | with_reducible assumption | refine RdUp.ups ?_ (by with_reducible assumption) | with_reducible refine RdUp.set ?_ (by first | exact Nat.le_refl _ | (simp only []; omega) | (simp; omega)) _ | with_reducible refine RdUp.alloc ?_ _ | with_reducible refine RdUp.drew ?_ | with_reducible exact RdUp.of (Up.refl _)))) (by omega)).mono ?_); rintro e w' ⟨m, rfl, m0, m1, hU, U⟩; clear U; (skip))))
    all_goals
      go_ret
      exact ⟨_, rfl, ⟨_, rfl, by omega⟩, by exact RdUp.fin hU (by intro c hU; (repeat (first | with_reducible assumption | refine RdUp.ups ?_ (by with_reducible assumption) | with_reducible refine RdUp.set ?_ (by first | exact Nat.le_refl _ | (simp only []; omega) | (simp; omega)) _ | with_reducible refine RdUp.alloc ?_ _ | with_reducible refine RdUp.drew ?_ | with_reducible exact RdUp.of (Up.refl _)))) (by omega)⟩
  · have hb : s.toList.isEmpty = false := by
      rw [Lib.toList_data]
      have := ba_len s
      cases hl : s.data.toList with
      | nil => rw [hl] at this; simp at this; omega
      | cons _ _ => rfl
    go_enter Tryz.func67, Tryz.ntmps67
    go_wp2_with (first | (go_at_call 31; ((with_reducible refine (pick_at (n := 2) HR.out hU (by intro c hU; (repeat (first | with_reducible assumption | refine RdUp.ups ?_ (by with_reducible assumption) | with_reducible refine RdUp.set ?_ (by first | exact Nat.le_refl _ | (simp only []; omega) | (simp; omega)) _ | with_reducible refine RdUp.alloc ?_ _ | with_reducible refine RdUp.drew ?_ | with_reducible exact RdUp.of (Up.refl _)))) (by omega)).mono ?_); rintro e w' ⟨m, rfl, m0, m1, hU, U⟩; clear U; (skip))) | (go_at_call 31; ((with_reducible refine (pick_at (n := (s.size : Int)) HR.out hU (by intro c hU; (repeat (first | with_reducible assumption | refine RdUp.ups ?_ (by with_reducible assumption) | with_reducible refine RdUp.set ?_ (by first | exact Nat.le_refl _ | (simp only []; omega) | (simp; omega)) _ | with_reducible refine RdUp.alloc ?_ _ | with_reducible refine RdUp.drew ?_ | with_reducible exact RdUp.of (Up.refl _)))) (by omega)).mono ?_); rintro e w' ⟨k, rfl, k0, k1, hU, U⟩; clear U; ((obtain ⟨kn, rfl⟩ := Int.eq_ofNat_of_zero_le k0); (have hk : kn < s.size := (by omega)); (have hx1 := Nat.le_trans (ext_le s 0 kn) hs)))))
    all_goals first
      | (go_ret
         exact ⟨_, rfl, ⟨_, rfl, by omega⟩, by exact RdUp.fin hU (by intro c hU; (repeat (first | with_reducible assumption | refine RdUp.ups ?_ (by with_reducible assumption) | with_reducible refine RdUp.set ?_ (by first | exact Nat.le_refl _ | (simp only []; omega) | (simp; omega)) _ | with_reducible refine RdUp.alloc ?_ _ | with_reducible refine RdUp.drew ?_ | with_reducible exact RdUp.of (Up.refl _)))) (by omega)⟩)
      | skip
    have hr2 := hU.2 _ h
    refine wp_region_rd 14 rb B 1 (p + (0 + 1 + 1)) (by kernel_rfl) (by kernel_rfl) hr2 ?_
    simp only [List.take, List.drop]
    repeat (refine wpR_step (fun K hK => ?_); go_simp; (try simp only [↓IntWalk.iteOmega]); first
      | (refine hK _ _ ?_; clear hK K)
      | (refine stepR_c ?_ ?_ ?_
         rotate_left
         · intro wq hwq hrq; (have hbq := gcell hwq; (repeat (first | refine fills_no (by rfl) ?_ | (refine fills_yes (by rfl) (fun vq hvq => ?_); (try ((first | ((with_reducible have hvs : RdTx rb wq vq bentL := hvq)) | (obtain ⟨i, rfl, hi0, hi1⟩ := hvq; obtain ⟨jn, rfl⟩ := Int.eq_ofNat_of_zero_le (show 0 ≤ i by omega)) | (obtain ⟨sb, rfl, hsb⟩ := hvq))))))); simp only [List.filter_nil, fills]; unfold upAt; (try (skip)); go_simp; (try go_bits); (try simp only [↓IntWalk.iteOmega]); (try (rw [dif_pos (by omega)]; go_simp; try go_bits)); first | exact upOut_value)
         go_simp; refine hK _ _ ?_; clear hK K)
      | (refine stepR_m (by kernel_rfl) ?_ ?_ (fun wq hwq hrq => ?_) ?_
         rotate_left 2
         · (have hbq := gcell hwq; (repeat (first | refine fills_no (by rfl) ?_ | (refine fills_yes (by rfl) (fun vq hvq => ?_); (try ((first | ((with_reducible have hvs : RdTx rb wq vq bentL := hvq)) | (obtain ⟨i, rfl, hi0, hi1⟩ := hvq; obtain ⟨jn, rfl⟩ := Int.eq_ofNat_of_zero_le (show 0 ≤ i by omega)) | (obtain ⟨sb, rfl, hsb⟩ := hvq))))))); simp only [List.filter_nil, fills]; unfold upAt; (try (skip)); go_simp; (try go_bits); (try simp only [↓IntWalk.iteOmega]); (try (rw [dif_pos (by omega)]; go_simp; try go_bits)); first | ((with_reducible refine upOut_D ((fun v w => RdTx rb w v bentL)) ?_); (((with_reducible refine upOut_make ((Up.refl _).alloc _) ?_); exact rdTx_new bentL rfl (by decide) rfl rfl hrq.lt))) | ((with_reducible refine upOut_D (fun v _ => IsStr 60001 v) ?_); (((with_reducible refine upOut_make (Up.refl _) ?_); exact ⟨_, rfl, by rw [ByteArray.size_append]; omega⟩))) | ((with_reducible refine upOut_D (fun v _ => IsStr 60000 v) ?_); (((with_reducible refine upOut_make (Up.refl _) ?_); exact ⟨_, rfl, Nat.le_trans (ext_le _ _ _) hs⟩))) | ((with_reducible refine upOut_D (fun v _ => IsStr 120001 v) ?_); (((with_reducible refine upOut_make (Up.refl _) ?_); exact ⟨_, rfl, by rw [ByteArray.size_append]; omega⟩))) | ((with_reducible refine upOut_D (fun v _ => IsBetw kn (kn + 1) v) ?_); (((with_reducible refine upOut_make (Up.refl _) ?_); exact ⟨_, rfl, by omega, by omega⟩))))
         rotate_left
         · (first | exact (fun _ _ _ h _ => h) | exact ((fun v w w' h hg => RdTx.gr h hg)))
         refine hK _ _ ?_; clear hK K)
      | (refine stepR_d (by rfl) (by kernel_rfl) (fun v _ => IsStr 1 v) (fun _ _ _ h _ => h) (fun wq hwq hrq => ?_) ?_
         · (have hbq := gcell hwq; (repeat (first | refine fills_no (by rfl) ?_ | (refine fills_yes (by rfl) (fun vq hvq => ?_); (try ((first | ((with_reducible have hvs : RdTx rb wq vq bentL := hvq)) | (obtain ⟨i, rfl, hi0, hi1⟩ := hvq; obtain ⟨jn, rfl⟩ := Int.eq_ofNat_of_zero_le (show 0 ≤ i by omega)) | (obtain ⟨sb, rfl, hsb⟩ := hvq))))))); simp only [List.filter_nil, fills]; unfold gAt; (try (skip)); go_simp; (try go_bits); (try simp only [↓IntWalk.iteOmega]); (try (rw [dif_pos (by omega)]; go_simp; try go_bits)); (with_reducible refine gOut_drawn ((ofB_any rb B _ wq _ hrq (by omega) hvs)) ?_); decide)
         refine hK _ _ ?_; clear hK K)
      | (refine stepR_d (by rfl) (by kernel_rfl) (fun v _ => pickB 2 v) (fun _ _ _ h _ => h) (fun wq hwq hrq => ?_) ?_
         · (have hbq := gcell hwq; (repeat (first | refine fills_no (by rfl) ?_ | (refine fills_yes (by rfl) (fun vq hvq => ?_); (try ((first | ((with_reducible have hvs : RdTx rb wq vq bentL := hvq)) | (obtain ⟨i, rfl, hi0, hi1⟩ := hvq; obtain ⟨jn, rfl⟩ := Int.eq_ofNat_of_zero_le (show 0 ≤ i by omega)) | (obtain ⟨sb, rfl, hsb⟩ := hvq))))))); simp only [List.filter_nil, fills]; unfold gAt; (try (skip)); go_simp; (try go_bits); (try simp only [↓IntWalk.iteOmega]); (try (rw [dif_pos (by omega)]; go_simp; try go_bits)); (with_reducible refine gOut_drawn ((pick_any rb B 2 wq _ hrq (by omega))) ?_); decide)
         refine hK _ _ ?_; clear hK K))
    refine wpR_nil (fun wq hwq hrq => ?_)
    simp only [fills]
    trace_state
    rintro v9 ⟨sb, rfl, hsb⟩
    intros
    have hU := RdUp.made (C := 100) HM (grownBy_trans hU.1 hwq) hrq (by omega)
    go_wp2
    rw [onlyN_normal]
    go_wp2
    go_ret
    exact ⟨_, rfl, ⟨_, rfl, hsb⟩, by exact RdUp.fin hU (by intro c hU; (repeat (first | with_reducible assumption | refine RdUp.ups ?_ (by with_reducible assumption) | with_reducible refine RdUp.set ?_ (by first | exact Nat.le_refl _ | (simp only []; omega) | (simp; omega)) _ | with_reducible refine RdUp.alloc ?_ _ | with_reducible refine RdUp.drew ?_ | with_reducible exact RdUp.of (Up.refl _)))) (by omega)⟩
end Go.Proofs.YtekogcjdaolcbaaGreatDoor

/- Walks of the laws' own functions that copy places that came in. Conditions: they can be read, and are at most 2^20. -/
namespace Go.Proofs.YtekogcjdaolcbaaGreatDoor
open Go.RowKit
def ArgP (w : World) (v : Value) (ps : List PlaceD) : Prop := ∃ a cap, v = .slice a ps.length cap ∧ ps.length ≤ maxLen ∧ (0 < ps.length → ∃ b off, a = some ⟨b, off, none⟩ ∧ ps.length ≤ cap ∧ cap ≤ maxLen ∧ b < w.heap.size ∧ ∀ i p, ps[i]? = some p → w.cell? ⟨b, off + i * 2, none⟩ = some (.int .i64 p.place) ∧ w.cell? ⟨b, off + i * 2 + 1, none⟩ = some (.int .i64 p.start))
theorem ArgP.up {w w' : World} {v : Value} {ps : List PlaceD} (h : ArgP w v ps) (hu : Up w w') : ArgP w' v ps := by
  obtain ⟨a, cap, h1, h2, h3⟩ := h
  refine ⟨a, cap, h1, h2, fun hp => ?_⟩
  obtain ⟨b, off, e1, e2, e3, e4, e5⟩ := h3 hp
  exact ⟨b, off, e1, e2, e3, Nat.lt_of_lt_of_le e4 hu.size, fun i p hi => ⟨(hu.cell (p := ⟨b, _, none⟩) e4).trans (e5 i p hi).1, (hu.cell (p := ⟨b, _, none⟩) e4).trans (e5 i p hi).2⟩⟩
end Go.Proofs.YtekogcjdaolcbaaGreatDoor

