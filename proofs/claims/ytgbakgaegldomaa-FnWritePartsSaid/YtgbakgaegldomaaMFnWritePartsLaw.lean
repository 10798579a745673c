/- Writing data in parts is writing it at once. Conditions: none. -/
import Derived.Test.YtgbakgaegldomaaMFnWritePartsLawA
import Derived.Test.YtgbakgaegldomaaMFnWritePartsLawB
import Derived.Test.YtgbakgaegldomaaMFnWritePartsLawC
import Derived.Test.YtgbakgaegldomaaMFnWritePartsLawD
import Derived.Test.YtgbakgaegldomaaMFnWritePartsLawE
import Derived.Test.YtgbakgaegldomaaMFnWritePartsLawF
import Derived.Test.YtgbakgaegldomaaMFnWritePartsLawG
namespace Go.Proofs.Ytgbakgaegldomaa.lawFnWriteParts
set_option linter.unusedVariables false
set_option linter.unusedSimpArgs false
open Go.ChangeShapes Go.WideShapes Go.ChangeAt Go.RowKit Go.Joins
open Go.ChangeMaps (open_string shut_string)

def PtM (lo : Nat) (y : WrD) (b : List UInt8) (u : Value) (w : World) : Prop := ∃ v, u = .tuple #[wrV y v, .string (bs b), .bool true] ∧ RdP lo w v y.k.ps
theorem ptM_closed {lo : Nat} {y : WrD} {b : List UInt8} : ∀ u, UpClosed (PtM lo y b u) := fun u w w' ⟨v, h1, h2⟩ hu => ⟨v, h1, h2.up hu⟩
def WrO (lo : Nat) (y : WrD) (u : Value) (w : World) : Prop := ∃ v, u = wrV y v ∧ RdP lo w v y.k.ps
theorem wrO_closed {lo : Nat} {y : WrD} : ∀ u, UpClosed (WrO lo y u) := fun u w w' ⟨v, h1, h2⟩ hu => ⟨v, h1, h2.up hu⟩
theorem upOut_pt {f : FuncId} {args : Array Value} {w : World} {y : WrD} {b : List UInt8} {lo : Nat} (h : Calls Try.prog f args w (WdPost (some (y, b)) w)) (hb : lo ≤ w.heap.size) : upOut Try.prog (PtM lo y b) w (.ok (.enter f args) w) :=
  ⟨rfl, h.mono fun e w' hP => by obtain ⟨v, he, ho, hu⟩ := wdP_yes hP; exact ⟨_, he, hu, v, rfl, (RdP.of_own ho).low hb⟩⟩
/-- The places of the cuts. -/
def qc (i j n : Nat) : Nat → Nat
  | 0 => 0
  | 1 => i
  | 2 => j
  | _ => n
def RelWp (x : WrD) (D : List UInt8) (i j : Nat) (w5 : World) (out t : Value) (wr : World) : Prop := ∃ (k : Nat) (v : Value), k ≤ 3 ∧ t = .int .i64 k ∧ out = .string (bs (x.write (D.take (qc i j D.length k))).2) ∧ WrAt w5.heap.size (x.write (D.take (qc i j D.length k))).1 v wr ∧ RdP 0 wr v (x.write (D.take (qc i j D.length k))).1.k.ps ∧ Up w5 wr
theorem write_nil (x : WrD) : x.write [] = (x, []) := by unfold WrD.write; rw [if_pos rfl]

set_option maxRecDepth 100000 in
set_option maxHeartbeats 8000000 in
theorem walk (vc vm : Value) (lc lm : List UInt8) (w : World) (hc : ArgU w vc lc) (hm : ArgU w vm lm) :
    Calls Try.prog 4  #[vc, vm] w (Same (.bool true) w) := by
  have cD := fun w' hu => drawWrite_any vc lc w' (hc.up (w' := w') hu)
  have hmu := fun (wq : World) (hu : Up w wq) => hm.up hu
  obtain ⟨ac, cc, rfl, hc1, hc2, -⟩ := hc
  obtain ⟨am, cm, rfl, hm1, hm2, -⟩ := id hm
  unfold maxLen at hc2 hm2
  by_cases h1 : 1048576 < lc.length ∨ 1048576 < lm.length
  · go_enter Try.func4, Try.ntmps4
    rcases Nat.lt_or_ge 1048576 lc.length with h2 | h2
    · go_wp2_with fail
      go_ret
      exact ⟨rfl, by (repeat (first | with_reducible exact Up.refl _ | with_reducible assumption | with_reducible refine Up.set ?_ (by first | exact Nat.le_refl _ | (simp only []; omega) | (simp; omega)) _ | with_reducible refine Up.alloc ?_ _ | with_reducible refine Up.drew ?_ | refine Up.trans ?_ (by with_reducible assumption)))⟩
    · have h3 : 1048576 < lm.length := by omega
      go_wp2_with fail
      go_ret
      exact ⟨rfl, by (repeat (first | with_reducible exact Up.refl _ | with_reducible assumption | with_reducible refine Up.set ?_ (by first | exact Nat.le_refl _ | (simp only []; omega) | (simp; omega)) _ | with_reducible refine Up.alloc ?_ _ | with_reducible refine Up.drew ?_ | refine Up.trans ?_ (by with_reducible assumption)))⟩
  obtain ⟨h2, h3⟩ : lc.length ≤ 1048576 ∧ lm.length ≤ 1048576 := by omega
  clear h1 hm
  have d1 : decide ((1048576 : Int) < (lc.length : Int)) = false := by simp; omega
  have d2 : decide ((1048576 : Int) < (lm.length : Int)) = false := by simp; omega
  go_enter Try.func4, Try.ntmps4
  go_wp2_with (first | (go_at_call 14; (with_reducible refine (cD _ (by (repeat (first | with_reducible exact Up.refl _ | with_reducible assumption | with_reducible refine Up.set ?_ (by first | exact Nat.le_refl _ | (simp only []; omega) | (simp; omega)) _ | with_reducible refine Up.alloc ?_ _ | with_reducible refine Up.drew ?_ | refine Up.trans ?_ (by with_reducible assumption))))).mono ?_); rintro e w1 ⟨v, rfl, ⟨x, u, d, rfl, hrd, hbx, hd⟩, U1⟩; obtain ⟨a, cap, rfl, -⟩ := id hrd; unfold wrV; have B1 := bcell U1; have Z1 := U1.size; (try simp at Z1); (try rw [Nat.add_one_le_iff] at Z1)) | fail)
  have hUa : Up w1 (w1.alloc (.cells #[.int .i64 x.k.set.ord, .int .i64 x.k.set.lit, .int .i64 x.k.set.most, .slice a x.k.ps.length cap, .int .i64 x.k.base, .int .i64 x.k.last, .string (bs x.pend), .string (bs x.bits), .bool x.beg] 35)) := (Up.refl _).alloc _
  have hX : WrAt w1.heap.size x (.slice a x.k.ps.length cap) (w1.alloc (.cells #[.int .i64 x.k.set.ord, .int .i64 x.k.set.lit, .int .i64 x.k.set.most, .slice a x.k.ps.length cap, .int .i64 x.k.base, .int .i64 x.k.last, .string (bs x.pend), .string (bs x.bits), .bool x.beg] 35)) := (MapKept.heap_alloc w1 _).1
  have hUW : Up w (w1.alloc (.cells #[.int .i64 x.k.set.ord, .int .i64 x.k.set.lit, .int .i64 x.k.set.most, .slice a x.k.ps.length cap, .int .i64 x.k.base, .int .i64 x.k.last, .string (bs x.pend), .string (bs x.bits), .bool x.beg] 35)) := by (repeat (first | with_reducible exact Up.refl _ | with_reducible assumption | with_reducible refine Up.set ?_ (by first | exact Nat.le_refl _ | (simp only []; omega) | (simp; omega)) _ | with_reducible refine Up.alloc ?_ _ | with_reducible refine Up.drew ?_ | refine Up.trans ?_ (by with_reducible assumption)))
  have hrd := hrd.up hUa
  clear B1 Z1 U1 hUa cD
  have hmu' := fun (wq : World) (hu : Up (w1.alloc (.cells #[.int .i64 x.k.set.ord, .int .i64 x.k.set.lit, .int .i64 x.k.set.most, .slice a x.k.ps.length cap, .int .i64 x.k.base, .int .i64 x.k.last, .string (bs x.pend), .string (bs x.bits), .bool x.beg] 35)) wq) => hmu wq (hUW.trans hu)
  clear hmu
  generalize (w1.alloc (.cells #[.int .i64 x.k.set.ord, .int .i64 x.k.set.lit, .int .i64 x.k.set.most, .slice a x.k.ps.length cap, .int .i64 x.k.base, .int .i64 x.k.last, .string (bs x.pend), .string (bs x.bits), .bool x.beg] 35)) = W at *
  generalize w1.heap.size = b5 at *
  have hrt := fun (wq : World) (hu : Up W wq) => hrd.up hu
  have hdl : d.data.toList.length = d.size := rfl
  have cI : ∀ wq, RdP 0 wq (.slice a x.k.ps.length cap) x.k.ps → Calls Try.prog 10  #[wrV x (.slice a x.k.ps.length cap), .string d] wq (WdPost (wdO x d.data.toList) wq) := fun wq h => wdI_any x _ 0 d.data.toList wq hbx.1 h (by have := hbx.2; omega) (by have := hbx.2; omega) (by have := hbx.2; omega) (by omega)
  have cS : ∀ wq, RdP 0 wq (.slice a x.k.ps.length cap) x.k.ps → Calls Try.prog 8  #[wrV x (.slice a x.k.ps.length cap), .string d] wq (WdPost (wdO x d.data.toList) wq) := fun wq h => wdS_any x _ 0 d.data.toList wq h (by have := hbx.2; omega) (by have := hbx.2; omega) (by have := hbx.2; omega) (by omega)
  obtain ⟨hbb, r0, r1, r2, r3, r4, r5, r6, r7, r8⟩ := hX.cells
  cases hb : (wrvB x && fitsB x.k.set (x.pend ++ d.data.toList))
  · rw [wdO_none hb] at cI cS
    have c0 : ∀ wq, Calls Try.prog 15  #[noWr, noWr] wq (Same (.bool true) wq) := fun wq => soWriters_same wr0 (.slice none 0 0) (.slice none 0 0) 0 0 wq (rdP_none _ _) (rdP_none _ _)
    have bsn : bs [] = (⟨#[]⟩ : ByteArray) := rfl
    unfold noWr at c0
    unfold wrV at cI cS
    clear hb
    go_wp2_with fail
    (with_reducible refine (cI _ (hrt _ (Up.refl _))).mono ?_); rintro e w2 hP; obtain ⟨rfl, U2⟩ := wdP_no hP
    obtain ⟨hbb2, r0, r1, r2, r3, r4, r5, r6, r7, r8⟩ := (hX.up U2).cells
    unfold noWr
    go_wp2_with fail
    have hZ2 : WrAt w2.heap.size wr0 (.slice none 0 0) (w2.alloc (.cells #[.int .i64 0, .int .i64 0, .int .i64 0, .slice none 0 0, .int .i64 0, .int .i64 0, .string ⟨#[]⟩, .string ⟨#[]⟩, .bool false] 35)) := WrAt.zero (MapKept.heap_alloc w2 _).1
    have hU2 : Up W (w2.alloc (.cells #[.int .i64 0, .int .i64 0, .int .i64 0, .slice none 0 0, .int .i64 0, .int .i64 0, .string ⟨#[]⟩, .string ⟨#[]⟩, .bool false] 35)) := U2.alloc _
    clear hP U2 r0 r1 r2 r3 r4 r5 r6 r7 r8 hbb2
    generalize w2.alloc (.cells #[.int .i64 0, .int .i64 0, .int .i64 0, .slice none 0 0, .int .i64 0, .int .i64 0, .string ⟨#[]⟩, .string ⟨#[]⟩, .bool false] 35) = W2 at *
    generalize w2.heap.size = b7 at *
    (with_reducible refine (cS _ (hrt _ hU2)).mono ?_); rintro e w3 hP; obtain ⟨rfl, U3⟩ := wdP_no hP
    obtain ⟨hbb3, q0, q1, q2, q3, q4, q5, q6, q7, q8⟩ := (hZ2.up U3).cells
    simp only [wr0, bsn] at q0 q1 q2 q3 q4 q5 q6 q7 q8
    unfold noWr
    go_wp2_with fail
    have hZ3 : WrAt w3.heap.size wr0 (.slice none 0 0) (w3.alloc (.cells #[.int .i64 0, .int .i64 0, .int .i64 0, .slice none 0 0, .int .i64 0, .int .i64 0, .string ⟨#[]⟩, .string ⟨#[]⟩, .bool false] 35)) := WrAt.zero (MapKept.heap_alloc w3 _).1
    have hU3 : Up W (w3.alloc (.cells #[.int .i64 0, .int .i64 0, .int .i64 0, .slice none 0 0, .int .i64 0, .int .i64 0, .string ⟨#[]⟩, .string ⟨#[]⟩, .bool false] 35)) := (hU2.trans U3).alloc _
    have hZ2 := hZ2.up (U3.alloc (.cells #[.int .i64 0, .int .i64 0, .int .i64 0, .slice none 0 0, .int .i64 0, .int .i64 0, .string ⟨#[]⟩, .string ⟨#[]⟩, .bool false] 35))
    clear hP U3 hbb3 q0 q1 q2 q3 q4 q5 q6 q7 q8
    generalize w3.alloc (.cells #[.int .i64 0, .int .i64 0, .int .i64 0, .slice none 0 0, .int .i64 0, .int .i64 0, .string ⟨#[]⟩, .string ⟨#[]⟩, .bool false] 35) = W3 at *
    generalize w3.heap.size = b10 at *
    (with_reducible refine (c0 _).mono ?_); rintro e w4 ⟨rfl, U4⟩
    obtain ⟨hbb4, q0, q1, q2, q3, q4, q5, q6, q7, q8⟩ := (hZ2.up U4).cells
    obtain ⟨hbc4, s0, s1, s2, s3, s4, s5, s6, s7, s8⟩ := (hZ3.up U4).cells
    simp only [wr0, bsn] at q0 q1 q2 q3 q4 q5 q6 q7 q8 s0 s1 s2 s3 s4 s5 s6 s7 s8
    go_wp2_with fail
    (with_reducible refine (c0 _).mono ?_); rintro e w5 ⟨rfl, U5⟩
    go_wp2_with fail
    go_ret
    refine ⟨ret_bool (by simp; try rfl), ?_⟩
    exact ((hUW.trans hU3).trans U4).trans U5
  · obtain ⟨hx, hl, hn⟩ := wd_ok hb
    rw [wdO_some hb] at cI cS
    have HST : Hid (∀ a b, a ≤ b → b ≤ d.data.toList.length → wdO (x.write (d.data.toList.take a)).1 ((d.data.toList.drop a).take (b - a)) = some ((x.write (d.data.toList.take a)).1.write ((d.data.toList.drop a).take (b - a))) ∧
      ((x.write (d.data.toList.take a)).1.write ((d.data.toList.drop a).take (b - a))).1 = (x.write (d.data.toList.take b)).1 ∧
      (x.write (d.data.toList.take a)).2 ++ ((x.write (d.data.toList.take a)).1.write ((d.data.toList.drop a).take (b - a))).2 = (x.write (d.data.toList.take b)).2) := fun a b h1 h2 => part_step hx hl hn h1 h2
    have HXO := Lib.hid (And.intro hx (And.intro hl hn))
    have hyl := write_len hx hl hn
    obtain ⟨hy1, hy2, hy3⟩ := write_end hx hl hn
    obtain ⟨⟨y, yb⟩, hY⟩ : ∃ Y, Hid (x.write d.data.toList = Y) := ⟨_, rfl⟩
    rw [hY.out] at cI cS hyl hy1 hy2 hy3
    dsimp only at hyl hy1 hy2 hy3
    have hys := bs_size yb
    have HY1 := Lib.hid (And.intro hy1 hy2)
    have cSo := fun wq v v' h h' => soWriters_same y v v' 0 0 wq h h'
    have hyp := hy1.1.nums
    have hyp2 := hy1.2.2.2.1
    have hyb := hy1.2.2.2.2.2.1
    clear hb hx hl hn hy1 hy2
    unfold wrV at cI cS cSo
    go_wp2_with fail
    (with_reducible refine (cI _ (hrt _ (Up.refl _))).mono ?_); rintro e w2 hP; obtain ⟨v2, rfl, ho2, U2⟩ := wdP_yes hP
    obtain ⟨a2, c2, rfl⟩ := ownsRow_shape ho2
    have hr2 := (RdP.of_own ho2).low (Nat.zero_le _)
    obtain ⟨hbb2, r0, r1, r2, r3, r4, r5, r6, r7, r8⟩ := (hX.up U2).cells
    unfold wrV
    go_wp2_with fail
    have hZ2 : WrAt w2.heap.size y (.slice a2 y.k.ps.length c2) (w2.alloc (.cells #[.int .i64 y.k.set.ord, .int .i64 y.k.set.lit, .int .i64 y.k.set.most, .slice a2 y.k.ps.length c2, .int .i64 y.k.base, .int .i64 y.k.last, .string (bs y.pend), .string (bs y.bits), .bool y.beg] 35)) := (MapKept.heap_alloc w2 _).1
    have hU2 : Up W (w2.alloc (.cells #[.int .i64 y.k.set.ord, .int .i64 y.k.set.lit, .int .i64 y.k.set.most, .slice a2 y.k.ps.length c2, .int .i64 y.k.base, .int .i64 y.k.last, .string (bs y.pend), .string (bs y.bits), .bool y.beg] 35)) := U2.alloc _
    have hr2 := hr2.up ((Up.refl w2).alloc (.cells #[.int .i64 y.k.set.ord, .int .i64 y.k.set.lit, .int .i64 y.k.set.most, .slice a2 y.k.ps.length c2, .int .i64 y.k.base, .int .i64 y.k.last, .string (bs y.pend), .string (bs y.bits), .bool y.beg] 35))
    clear hP U2 ho2 r0 r1 r2 r3 r4 r5 r6 r7 r8 hbb2
    generalize w2.alloc (.cells #[.int .i64 y.k.set.ord, .int .i64 y.k.set.lit, .int .i64 y.k.set.most, .slice a2 y.k.ps.length c2, .int .i64 y.k.base, .int .i64 y.k.last, .string (bs y.pend), .string (bs y.bits), .bool y.beg] 35) = W2 at *
    generalize w2.heap.size = b7 at *
    (with_reducible refine (cS _ (hrt _ hU2)).mono ?_); rintro e w3 hP; obtain ⟨v3, rfl, ho3, U3⟩ := wdP_yes hP
    obtain ⟨a3, c3, rfl⟩ := ownsRow_shape ho3
    have hr3 := (RdP.of_own ho3).low (Nat.zero_le _)
    obtain ⟨hbb3, q0, q1, q2, q3, q4, q5, q6, q7, q8⟩ := (hZ2.up U3).cells
    unfold wrV
    go_wp2_with fail
    have hU3 : Up W2 (w3.alloc (.cells #[.int .i64 y.k.set.ord, .int .i64 y.k.set.lit, .int .i64 y.k.set.most, .slice a3 y.k.ps.length c3, .int .i64 y.k.base, .int .i64 y.k.last, .string (bs y.pend), .string (bs y.bits), .bool y.beg] 35)) := U3.alloc _
    have hZ2 := hZ2.up hU3
    have hr2 := hr2.up hU3
    have hr3 := hr3.up ((Up.refl w3).alloc (.cells #[.int .i64 y.k.set.ord, .int .i64 y.k.set.lit, .int .i64 y.k.set.most, .slice a3 y.k.ps.length c3, .int .i64 y.k.base, .int .i64 y.k.last, .string (bs y.pend), .string (bs y.bits), .bool y.beg] 35))
    clear hP U3 ho3 hbb3 q0 q1 q2 q3 q4 q5 q6 q7 q8
    generalize w3.alloc (.cells #[.int .i64 y.k.set.ord, .int .i64 y.k.set.lit, .int .i64 y.k.set.most, .slice a3 y.k.ps.length c3, .int .i64 y.k.base, .int .i64 y.k.last, .string (bs y.pend), .string (bs y.bits), .bool y.beg] 35) = W3 at *
    (with_reducible refine (cSo _ _ _ hr2 hr3).mono ?_); rintro e w4 ⟨rfl, U4⟩
    go_wp2_with fail
    (with_reducible refine (soCut_any d _ lm _ (by omega) (hmu' _ ((hU2.trans hU3).trans U4)) h3).mono ?_); rintro e w5 ⟨g, i, j, rfl, hij, hjs, hg1, hg2, hg3, hg4, hg5, U5⟩
    have hU5 := ((hU2.trans hU3).trans U4).trans U5
    have hZ2 := (hZ2.up U4).up U5
    have hr2 := (hr2.up U4).up U5
    have hgb : W.heap.size ≤ g := by have := ((hU2.trans hU3).trans U4).size; omega
    clear U4 U5 hr3 hU2 hU3 cI cS hg1
    obtain ⟨hbb5, r0, r1, r2, r3, r4, r5, r6, r7, r8⟩ := (hX.up hU5).cells
    go_wp2_with fail
    have hL0 : RelWp x d.data.toList i j w5 (.string ⟨#[]⟩) (.int .i64 0) (w5.alloc (.cells #[.int .i64 x.k.set.ord, .int .i64 x.k.set.lit, .int .i64 x.k.set.most, .slice a x.k.ps.length cap, .int .i64 x.k.base, .int .i64 x.k.last, .string (bs x.pend), .string (bs x.bits), .bool x.beg] 35)) := by
      refine ⟨0, .slice a x.k.ps.length cap, by omega, rfl, ?_, ?_, ?_, (Up.refl _).alloc _⟩ <;> rw [show qc i j d.data.toList.length 0 = 0 from rfl, List.take_zero, write_nil]
      · rfl
      · exact (MapKept.heap_alloc w5 _).1
      · exact (hrd.up hU5).up ((Up.refl _).alloc _)
    have HL0 := Lib.hid hL0
    clear hL0 r0 r1 r2 r3 r4 r5 r6 r7 r8
    go_loopw [15, 16] (fun out t wr => RelWp x d.data.toList i j w5 out t wr) (fun _ t _ => 3 - (intOf t).toNat)
    case atStart => exact HL0.out
    case round =>
      clear HL0
      obtain ⟨k, vk, hk, rfl, rfl, hXk, hrk, hUk⟩ := hrel
      by_cases hk3 : k < 3
      · have hq1 : qc i j d.data.toList.length k ≤ qc i j d.data.toList.length (k + 1) := by
          rcases (by omega : k = 0 ∨ k = 1 ∨ k = 2) with rfl | rfl | rfl
          · exact Nat.zero_le _
          · exact hij
          · exact hjs
        have hq2 : qc i j d.data.toList.length (k + 1) ≤ d.data.toList.length := by
          rcases (by omega : k = 0 ∨ k = 1 ∨ k = 2) with rfl | rfl | rfl
          · show i ≤ d.data.toList.length; omega
          · show j ≤ d.data.toList.length; omega
          · exact Nat.le_refl _
        have hgk : wr.cell? ⟨g, k, none⟩ = some (.string (bs ((d.data.toList.drop (qc i j d.data.toList.length k)).take (qc i j d.data.toList.length (k + 1) - qc i j d.data.toList.length k)))) := by
          rw [← bs_ext]
          rcases (by omega : k = 0 ∨ k = 1 ∨ k = 2) with rfl | rfl | rfl
          · exact (hUk.cell (p := ⟨g, 0, none⟩) hg2).trans hg3
          · exact (hUk.cell (p := ⟨g, 1, none⟩) hg2).trans hg4
          · exact (hUk.cell (p := ⟨g, 2, none⟩) hg2).trans hg5
        obtain ⟨hw1, hw2, hw3⟩ := HST.out _ _ hq1 hq2
        obtain ⟨hxo, hxl, hxn⟩ := HXO.out
        have hlt : (d.data.toList.take (qc i j d.data.toList.length k)).length ≤ d.data.toList.length := by rw [List.length_take]; omega
        have hx1 := (write_end hxo (fun c hc => hxl c (List.mem_of_mem_take hc)) (by omega) : wrOk (x.write (d.data.toList.take (qc i j d.data.toList.length k))).1 ∧ _).1
        have hlt2 : (d.data.toList.take (qc i j d.data.toList.length (k + 1))).length ≤ d.data.toList.length := by rw [List.length_take]; omega
        have hlen := write_len (d := d.data.toList.take (qc i j d.data.toList.length (k + 1))) hxo (fun c hc => hxl c (List.mem_of_mem_take hc)) (by omega)
        rw [← hw3, List.length_append] at hlen
        have hPl : ((d.data.toList.drop (qc i j d.data.toList.length k)).take (qc i j d.data.toList.length (k + 1) - qc i j d.data.toList.length k)).length ≤ d.data.toList.length := by rw [List.length_take, List.length_drop]; omega
        have HN := Lib.hid (And.intro hw2 hw3)
        clear hw2 hw3 hq1 hq2 hxo hxl hxn hlt hlt2
        obtain ⟨X9, hX9⟩ : ∃ Y, Hid (Y = x.write (d.data.toList.take (qc i j d.data.toList.length (k + 1)))) := ⟨_, rfl⟩
        rw [← hX9.out] at HN
        generalize (d.data.toList.drop (qc i j d.data.toList.length k)).take (qc i j d.data.toList.length (k + 1) - qc i j d.data.toList.length k) = P at *
        generalize x.write (d.data.toList.take (qc i j d.data.toList.length k)) = X1 at *
        obtain ⟨x1, o1⟩ := X1
        dsimp only at *
        generalize x1.write P = Y1 at *
        obtain ⟨y1, b1⟩ := Y1
        dsimp only at *
        have ho1 := bs_size o1
        have hb1 := bs_size b1
        have hcat : bs o1 ++ bs b1 = bs (o1 ++ b1) := bs_app _ _
        have hbx1 := badW_of hx1
        have cI1 : ∀ wq v, RdP 0 wq v x1.k.ps → Calls Try.prog 10  #[wrV x1 v, .string (bs P)] wq (WdPost (some (y1, b1)) wq) := fun wq v h => by
          have := wdI_any x1 v 0 P wq hbx1.1 h (by have := hbx1.2; omega) (by have := hbx1.2; omega) (by have := hbx1.2; omega) (by omega)
          rw [hw1] at this
          exact this
        obtain ⟨ak, ck, rfl, -⟩ := id hrk
        unfold wrV at cI1
        obtain ⟨hbk, r0, r1, r2, r3, r4, r5, r6, r7, r8⟩ := hXk.cells
        have hgw : g < wr.heap.size := by have := hUk.size; omega
        clear hw1
        go_wp2_with fail
        refine wp_region_upf 10 (by kernel_rfl) (by kernel_rfl) ?_
        simp only [List.take, List.drop]
        repeat (refine wpUp_step (fun K hK => ?_); go_simp; (try simp only [↓IntWalk.iteOmega]); first
          | (refine hK _ _ ?_; clear hK K)
          | (apply stepU_c
             · intro wq hwq; (have hbq := bcell hwq; (repeat (first | refine fills_no (by rfl) ?_ | refine fills_yes (by rfl) (fun vq hvq => ?_))); simp only [List.filter_nil, fills]; unfold upAt; (try ((obtain ⟨v', rfl, hv'⟩ := hvq))); go_simp; (try go_bits); (try simp only [↓IntWalk.iteOmega]); (try (rw [dif_pos (by omega)]; go_simp; try go_bits)); first | exact upOut_value)
             go_simp; refine hK _ _ ?_; clear hK K)
          | (refine stepU_m (by kernel_rfl) (PtM (w5.heap.size + 1) y1 b1) (ptM_closed) (fun wq hwq => ?_) ?_
             · (have hbq := bcell hwq; (repeat (first | refine fills_no (by rfl) ?_ | refine fills_yes (by rfl) (fun vq hvq => ?_))); simp only [List.filter_nil, fills]; unfold upAt; (try ((obtain ⟨v', rfl, hv'⟩ := hvq))); go_simp; (try go_bits); (try simp only [↓IntWalk.iteOmega]); (try (rw [dif_pos (by omega)]; go_simp; try go_bits)); ((with_reducible refine upOut_pt ?_ (by have := hwq.size; omega)); exact cI1 _ _ (hrk.up hwq)))
             refine hK _ _ ?_; clear hK K)
          | (refine stepU_m (by kernel_rfl) (PtM (w5.heap.size + 1) y1 b1) (ptM_closed) (fun wq hwq => ?_) ?_
             · (have hbq := bcell hwq; (repeat (first | refine fills_no (by rfl) ?_ | refine fills_yes (by rfl) (fun vq hvq => ?_))); simp only [List.filter_nil, fills]; unfold upAt; (try ((obtain ⟨v', rfl, hv'⟩ := hvq))); go_simp; (try go_bits); (try simp only [↓IntWalk.iteOmega]); (try (rw [dif_pos (by omega)]; go_simp; try go_bits)); (exact ⟨Up.refl _, v', rfl, hv'⟩))
             refine hK _ _ ?_; clear hK K)
          | (refine stepU_m (by kernel_rfl) (WrO (w5.heap.size + 1) y1) (wrO_closed) (fun wq hwq => ?_) ?_
             · (have hbq := bcell hwq; (repeat (first | refine fills_no (by rfl) ?_ | refine fills_yes (by rfl) (fun vq hvq => ?_))); simp only [List.filter_nil, fills]; unfold upAt; (try ((obtain ⟨v', rfl, hv'⟩ := hvq))); go_simp; (try go_bits); (try simp only [↓IntWalk.iteOmega]); (try (rw [dif_pos (by omega)]; go_simp; try go_bits)); (exact ⟨Up.refl _, v', rfl, hv'⟩))
             refine hK _ _ ?_; clear hK K))
        refine wpUp_nil (fun wq hwq => ?_)
        simp only [fills]
        rintro u1 ⟨v9, rfl, hv9⟩ u2 ⟨v2', rfl, -⟩ u3 ⟨v3', rfl, -⟩
        obtain ⟨a9, c9, rfl, -⟩ := id hv9
        have hXq := hXk.up hwq
        have hK2 : WrAt w5.heap.size y1 (.slice a9 y1.k.ps.length c9) (WrW wq w5.heap.size y1 (.slice a9 y1.k.ps.length c9)) := WrAt.store hXq y1 _
        have hr9 : RdP 0 (WrW wq w5.heap.size y1 (.slice a9 y1.k.ps.length c9)) (.slice a9 y1.k.ps.length c9) y1.k.ps := by
          unfold WrW KnW
          refine RdP.low (lo := w5.heap.size + 1) ?_ (Nat.zero_le _)
          (repeat (with_reducible refine RdP.set ?_ (Nat.lt_succ_self _) _ _)); exact hv9
        have hU9 : Up w5 (WrW wq w5.heap.size y1 (.slice a9 y1.k.ps.length c9)) := WrW.up (hUk.trans hwq) (Nat.le_refl _) y1 _
        have HH := Lib.hid (And.intro hK2 (And.intro hr9 hU9))
        obtain ⟨hbq, q0, q1, q2, q3, q4, q5, q6, q7, q8⟩ := hXq.cells
        have hfr := box_free hXq
        clear hK2 hr9 hU9 hXq hv9 hrk hXk r0 r1 r2 r3 r4 r5 r6 r7 r8
        unfold wrV
        go_simp
        iterate 4 go_step
        rw [show (((((((((wq.setCell ⟨w5.heap.size, 0, none⟩ (.int .i64 y1.k.set.ord)).setCell ⟨w5.heap.size, 1, none⟩ (.int .i64 y1.k.set.lit)).setCell ⟨w5.heap.size, 2, none⟩ (.int .i64 y1.k.set.most)).setCell ⟨w5.heap.size, 3, none⟩ (.slice a9 y1.k.ps.length c9)).setCell ⟨w5.heap.size, 4, none⟩ (.int .i64 y1.k.base)).setCell ⟨w5.heap.size, 5, none⟩ (.int .i64 y1.k.last)).setCell ⟨w5.heap.size, 6, none⟩ (.string (bs y1.pend))).setCell ⟨w5.heap.size, 7, none⟩ (.string (bs y1.bits))).setCell ⟨w5.heap.size, 8, none⟩ (.bool y1.beg)) = WrW wq w5.heap.size y1 (.slice a9 y1.k.ps.length c9) from rfl]
        generalize WrW wq w5.heap.size y1 (.slice a9 y1.k.ps.length c9) = W9 at *
        clear q0 q1 q2 q3 q4 q5 q6 q7 q8 hfr hbq
        go_wp2_with fail
        rw [onlyN_normal]
        go_wp2_with fail
        go_roundw
        case rel => exact ⟨k + 1, .slice a9 y1.k.ps.length c9, by omega, by go_num, by rw [← hX9.out, ← HN.out.2], by rw [← hX9.out, ← HN.out.1]; exact HH.out.1, by rw [← hX9.out, ← HN.out.1]; exact HH.out.2.1, HH.out.2.2⟩
        case measure => simp [intOf]; omega
      · have e : k = 3 := by omega
        subst e
        have hfin : x.write (d.data.toList.take (qc i j d.data.toList.length 3)) = (y, yb) := by
          rw [show qc i j d.data.toList.length 3 = d.data.toList.length from rfl, List.take_length]; exact hY.out
        rw [hfin] at hXk hrk ⊢
        dsimp only at hXk hrk ⊢
        obtain ⟨hbk, r0, r1, r2, r3, r4, r5, r6, r7, r8⟩ := hXk.cells
        have hZk := hZ2.up hUk
        obtain ⟨hbz, q0, q1, q2, q3, q4, q5, q6, q7, q8⟩ := hZk.cells
        obtain ⟨ak, ck, rfl, -⟩ := id hrk
        have hrz := hr2.up hUk
        clear hfin hk3
        go_wp2_with fail
        (with_reducible refine (cSo _ _ _ hrk hrz).mono ?_); rintro e w7 ⟨rfl, U7⟩
        obtain ⟨hbz7, q0, q1, q2, q3, q4, q5, q6, q7, q8⟩ := (hZk.up U7).cells
        go_wp2_with fail
        have cV := wvI_any y (.slice a2 y.k.ps.length c2) 0 w7 (badW_of HY1.out.1).1 (hrz.up U7) (by omega) (by omega) (by omega)
        rw [wrvB_of HY1.out.1] at cV
        unfold wrV at cV
        with_reducible refine cV.mono ?_
        rintro e w8 ⟨rfl, U8⟩
        go_wp2_with fail
        go_ret
        exact ⟨rfl, (((hUW.trans hU5).trans hUk).trans U7).trans U8⟩

set_option maxRecDepth 100000 in
theorem lifted (os : Os) (started : os.Started) (H : Type) (enc : TypeId × Value → H) :
    ReturnsInHanded {} Try.checked os 4 .any (Rows.fnWritePartsSpec.pre6 enc Try.prog Try.f4 Rows.fnWritePartsRow.domain false) (Rows.fnWritePartsSpec.post enc Try.prog Try.f4 false true false false) := by
  refine returnsInHanded_of_change (C := Try.checked) own started (by kernel_rfl) Try.func4
    (ChangeSpec.witness6 (enc := enc) (C := Try.checked) false ⟨#[], #[.slice none 0 0, .slice none 0 0], []⟩ 8 (by kernel_rfl) (by kernel_rfl) (by kernel_rfl) (by kernel_rfl)) ?_
  intro W base args ds gs before hval0 hW hcnd _
  have hval : ∀ (j : Nat) t v, Try.f4.params[j]? = some t → args[j]? = some v → Value.okWide Try.prog W .any base t v := hval0
  have hW' := hW
  obtain ⟨p, q, hA0, hV, rfl, hfz, hnd⟩ := hW
  have hA : DataW.TrodAll enc Try.prog W 0 (fun _ => true) true Try.f4.params.toList args.toList ds p := hA0
  rw [Try.params4] at hA hval
  obtain ⟨v0, v1, d0, d1, p0, p1, rfl, rfl, rfl, h0, h1⟩ := trodAll_two hA
  obtain ⟨a0, n0, c0, rfl⟩ := okWide_slice Try.underlying42 (hval 0 42 v0 rfl rfl)
  have hlt0 : ∀ x ∈ p0, x.block < W.heap.size := fun x hx => by simpa using hW'.lt x (by simp [hx])
  obtain ⟨fuel0, hf0⟩ := h0
  obtain ⟨lcode, hcode⟩ := open_argU (by simpa [Value.cells] using hf0) hlt0
  obtain ⟨a1, n1, c1, rfl⟩ := okWide_slice Try.underlying42 (hval 1 42 v1 rfl rfl)
  have hlt1 : ∀ x ∈ p1, x.block < W.heap.size := fun x hx => by simpa using hW'.lt x (by simp [hx])
  obtain ⟨fuel1, hf1⟩ := h1
  obtain ⟨lmore, hmore⟩ := open_argU (by simpa [Value.cells] using hf1) hlt1
  obtain ⟨rfl, rfl⟩ := trodVars_none hV
  refine (walk _ _ _ _ W hcode hmore).mono fun e W' ⟨he, hu⟩ => ?_
  subst he
  exact ⟨_, rfl, post_law (f := Try.f4) TrylaidOut (by kernel_rfl) rfl Try.underlying4 rfl hW' (fun ds' h => by subst h; exact ⟨rfl, rfl, rfl⟩) hu⟩

set_option maxHeartbeats 80000000 in
theorem closed : joinedFacts Try.checked.prog 4 Try.f4 Rows.fnWritePartsSpec Rows.fnWritePartsRow = true := by
  unfold joinedFacts
  repeat' (with_reducible refine (Bool.and_eq_true_iff.2 ⟨?_, ?_⟩))
  all_goals (as_aux_lemma => kernel_rfl)

theorem holds : Rows.FnWritePartsSaid :=
  OpenClaim.holds_of_wide 4 Try.f4 rfl rfl rfl rfl rfl rfl rfl ⟨rfl, rfl, rfl, rfl, rfl⟩ rfl rfl rfl rfl rfl (by as_aux_lemma => kernel_rfl) Try.func4 closed
    (of_decide_eq_true (by as_aux_lemma => kernel_rfl)) (by unfold Func.isWrapper; first | (rw [if_pos (by decide +kernel)]; kernel_rfl) | (rw [if_neg (by decide +kernel)]; exact ⟨rfl, rfl⟩))
    (fun os started H enc _ => lifted os started H enc)

end Go.Proofs.Ytgbakgaegldomaa.lawFnWriteParts
