/- A writer that is written to text and parsed goes on as if nothing had been. Conditions: none. -/
import Derived.ProofKit
import Derived.OpenShut
import Derived.Stop.Joined
import Derived.Test.YtekogcjdaolcbaaGreatDoorMFnWriterResumeLawA
import Derived.Test.YtekogcjdaolcbaaGreatDoorMFnWriterResumeLawB
import Derived.Test.YtekogcjdaolcbaaGreatDoorMFnWriterResumeLawC
import Derived.Test.YtekogcjdaolcbaaGreatDoorMFnWriterResumeLawD
import Derived.Test.YtekogcjdaolcbaaGreatDoorMFnWriterResumeLawE
import Derived.Test.YtekogcjdaolcbaaGreatDoorMFnWriterResumeLawF
import Derived.Test.YtekogcjdaolcbaaGreatDoorMFnWriterResumeLawG
import Derived.Test.YtekogcjdaolcbaaGreatDoorMFnWriterResumeLawH
import Derived.Test.YtekogcjdaolcbaaGreatDoorMFnWriterResumeLawI
import Derived.Test.YtekogcjdaolcbaaGreatDoorMFnWriterResumeLawJ
import Derived.Test.YtekogcjdaolcbaaGreatDoorMFnWriterResumeLawK
import Derived.Test.YtekogcjdaolcbaaGreatDoorMFnWriterResumeLawL
import Derived.Test.YtekogcjdaolcbaaGreatDoorMFnWriterResumeLawM
import Derived.Test.YtekogcjdaolcbaaGreatDoorMFnWriterResumeLawN
import Derived.Test.YtekogcjdaolcbaaGreatDoorMFnWriterResumeLawO
import Derived.Test.YtekogcjdaolcbaaGreatDoorMFnWriterResumeLawP
namespace Go.Proofs.YtekogcjdaolcbaaGreatDoor.lawFnWriterResume
set_option linter.unusedVariables false
set_option linter.unusedSimpArgs false
open Go Go.ChangeShapes Go.WideShapes Go.ChangeAt Go.RowKit Go.Joins
open Go.ChangeMaps (open_string shut_string)

theorem bitsS_one (o : Int) (K : KnD) (x : Int) : 1 ≤ (bitsS o K [x]).length := by
  have hw : 1 ≤ K.width := by unfold KnD.width; omega
  unfold bitsS
  rw [List.length_append, codeL_length]
  omega
theorem close_ne (y : WrD) : y.close ≠ [] := fun e => by
  have h1 := congrArg List.length e
  unfold WrD.close at h1
  rw [packL_length, bitsS_app, List.length_append, List.length_append, List.length_nil] at h1
  have := bitsS_one y.k.set.ord (y.open.2.thruN (if y.pend = [] then [] else [y.open.2.find y.pend])) ((y.k.c : Int) + 1)
  omega

set_option maxRecDepth 100000 in
set_option maxHeartbeats 8000000 in
theorem walk (vc : Value) (lc : List UInt8) (w : World) (hL : Lay w) (hc : ArgU w vc lc) :
    Calls Tryz.prog 3  #[vc] w (Same (.bool true) w) := by
  have cD := fun w' hu => drawWrite_any vc lc w' (hc.up (w' := w') hu)
  obtain ⟨ac, cc, rfl, hc1, hc2, -⟩ := hc
  unfold maxLen at hc2
  by_cases h1 : 1048576 < lc.length
  · go_enter Tryz.func3, Tryz.ntmps3
    go_wp2_with fail
    go_ret
    exact ⟨rfl, by (repeat (first | with_reducible exact Up.refl _ | with_reducible assumption | with_reducible refine Up.set ?_ (by first | exact Nat.le_refl _ | (simp only []; omega) | (simp; omega)) _ | with_reducible refine Up.alloc ?_ _ | with_reducible refine Up.drew ?_ | refine Up.trans ?_ (by with_reducible assumption)))⟩
  go_enter Tryz.func3, Tryz.ntmps3
  go_wp2_with (first | (go_at_call 6; (with_reducible refine (cD _ (by (repeat (first | with_reducible exact Up.refl _ | with_reducible assumption | with_reducible refine Up.set ?_ (by first | exact Nat.le_refl _ | (simp only []; omega) | (simp; omega)) _ | with_reducible refine Up.alloc ?_ _ | with_reducible refine Up.drew ?_ | refine Up.trans ?_ (by with_reducible assumption))))).mono ?_); rintro e w1 ⟨v, rfl, ⟨x, u, d, rfl, hrd, hbx, hd⟩, U1⟩; obtain ⟨a, cap, rfl, -⟩ := id hrd; unfold wrV; have B1 := bcell U1; have Z1 := U1.size; (try simp at Z1); (try rw [Nat.add_one_le_iff] at Z1)) | fail)
  have hUa : Up w1 (w1.alloc (.cells #[.int .i64 x.k.set.ord, .int .i64 x.k.set.lit, .int .i64 x.k.set.most, .slice a x.k.ps.length cap, .int .i64 x.k.base, .int .i64 x.k.last, .string (bs x.pend), .string (bs x.bits), .bool x.beg] 29)) := (Up.refl _).alloc _
  have hX : WrAt w1.heap.size x (.slice a x.k.ps.length cap) (w1.alloc (.cells #[.int .i64 x.k.set.ord, .int .i64 x.k.set.lit, .int .i64 x.k.set.most, .slice a x.k.ps.length cap, .int .i64 x.k.base, .int .i64 x.k.last, .string (bs x.pend), .string (bs x.bits), .bool x.beg] 29)) := (MapKept.heap_alloc w1 _).1
  have hUW : Up w (w1.alloc (.cells #[.int .i64 x.k.set.ord, .int .i64 x.k.set.lit, .int .i64 x.k.set.most, .slice a x.k.ps.length cap, .int .i64 x.k.base, .int .i64 x.k.last, .string (bs x.pend), .string (bs x.bits), .bool x.beg] 29)) := by (repeat (first | with_reducible exact Up.refl _ | with_reducible assumption | with_reducible refine Up.set ?_ (by first | exact Nat.le_refl _ | (simp only []; omega) | (simp; omega)) _ | with_reducible refine Up.alloc ?_ _ | with_reducible refine Up.drew ?_ | refine Up.trans ?_ (by with_reducible assumption)))
  have hrd := hrd.up hUa
  clear B1 Z1 U1 hUa cD
  generalize (w1.alloc (.cells #[.int .i64 x.k.set.ord, .int .i64 x.k.set.lit, .int .i64 x.k.set.most, .slice a x.k.ps.length cap, .int .i64 x.k.base, .int .i64 x.k.last, .string (bs x.pend), .string (bs x.bits), .bool x.beg] 29)) = W at *
  generalize w1.heap.size = b5 at *
  have hrt := fun (wq : World) (hu : Up W wq) => hrd.up hu
  have hdl : d.data.toList.length = d.size := rfl
  have cI : ∀ wq, RdP 0 wq (.slice a x.k.ps.length cap) x.k.ps → Calls Tryz.prog 7  #[wrV x (.slice a x.k.ps.length cap), .string d] wq (WdPost (wdO x d.data.toList) wq) := fun wq h => wdI_any x _ 0 d.data.toList wq hbx.1 h (by have := hbx.2; omega) (by have := hbx.2; omega) (by have := hbx.2; omega) (by omega)
  have cS : ∀ wq, RdP 0 wq (.slice a x.k.ps.length cap) x.k.ps → Calls Tryz.prog 8  #[wrV x (.slice a x.k.ps.length cap), .string d] wq (WdPost (wdO x d.data.toList) wq) := fun wq h => wdS_any x _ 0 d.data.toList wq h (by have := hbx.2; omega) (by have := hbx.2; omega) (by have := hbx.2; omega) (by omega)
  obtain ⟨hbb, r0, r1, r2, r3, r4, r5, r6, r7, r8⟩ := hX.cells
  cases hb : (wrvB x && fitsB x.k.set (x.pend ++ d.data.toList))
  · rw [wdO_none hb] at cI cS
    have c0 : ∀ wq, Calls Tryz.prog 9  #[noWr, noWr] wq (Same (.bool true) wq) := fun wq => soWriters_same wr0 (.slice none 0 0) (.slice none 0 0) 0 0 wq (rdP_none _ _) (rdP_none _ _)
    have bsn : bs [] = (⟨#[]⟩ : ByteArray) := rfl
    unfold noWr at c0
    unfold wrV at cI cS
    clear hb
    go_wp2_with fail
    (with_reducible refine (cI _ (hrt _ (Up.refl _))).mono ?_); rintro e w2 hP; obtain ⟨rfl, U2⟩ := wdP_no hP
    obtain ⟨hbb2, r0, r1, r2, r3, r4, r5, r6, r7, r8⟩ := (hX.up U2).cells
    unfold noWr
    go_wp2_with fail
    have hZ2 : WrAt w2.heap.size wr0 (.slice none 0 0) (w2.alloc (.cells #[.int .i64 0, .int .i64 0, .int .i64 0, .slice none 0 0, .int .i64 0, .int .i64 0, .string ⟨#[]⟩, .string ⟨#[]⟩, .bool false] 29)) := WrAt.zero (MapKept.heap_alloc w2 _).1
    have hU2 : Up W (w2.alloc (.cells #[.int .i64 0, .int .i64 0, .int .i64 0, .slice none 0 0, .int .i64 0, .int .i64 0, .string ⟨#[]⟩, .string ⟨#[]⟩, .bool false] 29)) := U2.alloc _
    clear hP U2 r0 r1 r2 r3 r4 r5 r6 r7 r8 hbb2
    generalize w2.alloc (.cells #[.int .i64 0, .int .i64 0, .int .i64 0, .slice none 0 0, .int .i64 0, .int .i64 0, .string ⟨#[]⟩, .string ⟨#[]⟩, .bool false] 29) = W2 at *
    generalize w2.heap.size = b7 at *
    (with_reducible refine (cS _ (hrt _ hU2)).mono ?_); rintro e w3 hP; obtain ⟨rfl, U3⟩ := wdP_no hP
    obtain ⟨hbb3, q0, q1, q2, q3, q4, q5, q6, q7, q8⟩ := (hZ2.up U3).cells
    simp only [wr0, bsn] at q0 q1 q2 q3 q4 q5 q6 q7 q8
    unfold noWr
    go_wp2_with fail
    have hZ3 : WrAt w3.heap.size wr0 (.slice none 0 0) (w3.alloc (.cells #[.int .i64 0, .int .i64 0, .int .i64 0, .slice none 0 0, .int .i64 0, .int .i64 0, .string ⟨#[]⟩, .string ⟨#[]⟩, .bool false] 29)) := WrAt.zero (MapKept.heap_alloc w3 _).1
    have hU3 : Up W (w3.alloc (.cells #[.int .i64 0, .int .i64 0, .int .i64 0, .slice none 0 0, .int .i64 0, .int .i64 0, .string ⟨#[]⟩, .string ⟨#[]⟩, .bool false] 29)) := (hU2.trans U3).alloc _
    have hZ2 := hZ2.up (U3.alloc (.cells #[.int .i64 0, .int .i64 0, .int .i64 0, .slice none 0 0, .int .i64 0, .int .i64 0, .string ⟨#[]⟩, .string ⟨#[]⟩, .bool false] 29))
    clear hP U3 hbb3 q0 q1 q2 q3 q4 q5 q6 q7 q8
    generalize w3.alloc (.cells #[.int .i64 0, .int .i64 0, .int .i64 0, .slice none 0 0, .int .i64 0, .int .i64 0, .string ⟨#[]⟩, .string ⟨#[]⟩, .bool false] 29) = W3 at *
    generalize w3.heap.size = b10 at *
    (with_reducible refine (c0 _).mono ?_); rintro e w4 ⟨rfl, U4⟩
    obtain ⟨hbb4, q0, q1, q2, q3, q4, q5, q6, q7, q8⟩ := (hZ2.up U4).cells
    obtain ⟨hbc4, s0, s1, s2, s3, s4, s5, s6, s7, s8⟩ := (hZ3.up U4).cells
    simp only [wr0, bsn] at q0 q1 q2 q3 q4 q5 q6 q7 q8 s0 s1 s2 s3 s4 s5 s6 s7 s8
    go_wp2_with fail
    (with_reducible refine (c0 _).mono ?_); rintro e w5 ⟨rfl, U5⟩
    go_wp2_with fail
    go_ret
    refine ⟨ret_bool (by simp; try rfl), ?_⟩
    exact ((hUW.trans hU3).trans U4).trans U5
  · obtain ⟨hx, hl, hn⟩ := wd_ok hb
    rw [wdO_some hb] at cI cS
    have hxv : wrvB x = true := wrvB_of hx
    have cF : ∀ wq, Up W wq → Calls Tryz.prog 11  #[wrV x (.slice a x.k.ps.length cap)] wq (Same (.string (bs (fmtW x))) wq) := fun wq hu => fwI_any x _ 0 wq (hL.up (hUW.trans hu)).tab hbx.1 (hrt _ hu) (by have := hbx.2; omega) (by have := hbx.2; omega) (by have := hbx.2; omega)
    have cP := fun wq (hu : Up W wq) => pwI_any (fmtW x) wq (hL.up (hUW.trans hu)) (by have := fmtW_le x; omega)
    rw [prsW_fmt hxv] at cP
    unfold PwPost at cP
    simp only [Option.getD_some, Option.isSome_some] at cP
    have cI6 : ∀ wq a6 c6, RdP 0 wq (.slice a6 x.k.ps.length c6) x.k.ps → Calls Tryz.prog 7  #[wrV x (.slice a6 x.k.ps.length c6), .string d] wq (WdPost (wdO x d.data.toList) wq) := fun wq a6 c6 h => wdI_any x _ 0 d.data.toList wq hbx.1 h (by have := hbx.2; omega) (by have := hbx.2; omega) (by have := hbx.2; omega) (by omega)
    rw [wdO_some hb] at cI6
    have HEN := Lib.hid (wrOk_write (d := d.data.toList) hx hl (by rw [List.length_append]; omega))
    have HXO := Lib.hid (And.intro hx (And.intro hl hn))
    have hyl := write_len hx hl hn
    obtain ⟨hy1, hy2, hy3⟩ := write_end hx hl hn
    obtain ⟨⟨y, yb⟩, hY⟩ : ∃ Y, Hid (x.write d.data.toList = Y) := ⟨_, rfl⟩
    rw [hY.out] at cI cI6 cS hyl hy1 hy2 hy3 HEN
    dsimp only at HEN
    dsimp only at hyl hy1 hy2 hy3
    have hys := bs_size yb
    have HY1 := Lib.hid (And.intro hy1 hy2)
    have cSo := fun wq v v' h h' => soWriters_same y v v' 0 0 wq h h'
    have hyp := hy1.1.nums
    have hyp2 := hy1.2.2.2.1
    have hyb := hy1.2.2.2.2.2.1
    have cC : ∀ wq a6 c6, RdP 0 wq (.slice a6 y.k.ps.length c6) y.k.ps → Calls Tryz.prog 12  #[wrV y (.slice a6 y.k.ps.length c6)] wq (Same (optS (wcO y)) wq) := fun wq a6 c6 h => wcI_any y _ 0 wq (badW_of hy1).1 h (by have := (badW_of hy1).2; omega) (by have := (badW_of hy1).2; omega) (by have := (badW_of hy1).2; omega)
    rw [wcO_some (wrvB_of hy1)] at cC
    unfold optS at cC
    simp only [Option.getD_some, Option.isSome_some] at cC
    have HCE := isEmpty_bs (close_ne y)
    have hcz := bs_size y.close
    generalize y.close = cl at *
    clear hb hx hl hn hy1 hy2 hxv HEN HXO HY1
    unfold wrV at cI cI6 cS cSo cF cP cC
    go_wp2_with fail
    (with_reducible refine (cI _ (hrt _ (Up.refl _))).mono ?_); rintro e w2 hP; obtain ⟨v2, rfl, ho2, U2⟩ := wdP_yes hP
    obtain ⟨a2, c2, rfl⟩ := ownsRow_shape ho2
    have hr2 := (RdP.of_own ho2).low (Nat.zero_le _)
    obtain ⟨hbb2, r0, r1, r2, r3, r4, r5, r6, r7, r8⟩ := (hX.up U2).cells
    unfold wrV
    go_wp2_with fail
    have hZ2 : WrAt w2.heap.size y (.slice a2 y.k.ps.length c2) (w2.alloc (.cells #[.int .i64 y.k.set.ord, .int .i64 y.k.set.lit, .int .i64 y.k.set.most, .slice a2 y.k.ps.length c2, .int .i64 y.k.base, .int .i64 y.k.last, .string (bs y.pend), .string (bs y.bits), .bool y.beg] 29)) := (MapKept.heap_alloc w2 _).1
    have hU2 : Up W (w2.alloc (.cells #[.int .i64 y.k.set.ord, .int .i64 y.k.set.lit, .int .i64 y.k.set.most, .slice a2 y.k.ps.length c2, .int .i64 y.k.base, .int .i64 y.k.last, .string (bs y.pend), .string (bs y.bits), .bool y.beg] 29)) := U2.alloc _
    have hr2 := hr2.up ((Up.refl w2).alloc (.cells #[.int .i64 y.k.set.ord, .int .i64 y.k.set.lit, .int .i64 y.k.set.most, .slice a2 y.k.ps.length c2, .int .i64 y.k.base, .int .i64 y.k.last, .string (bs y.pend), .string (bs y.bits), .bool y.beg] 29))
    clear hP U2 ho2 r0 r1 r2 r3 r4 r5 r6 r7 r8 hbb2
    generalize w2.alloc (.cells #[.int .i64 y.k.set.ord, .int .i64 y.k.set.lit, .int .i64 y.k.set.most, .slice a2 y.k.ps.length c2, .int .i64 y.k.base, .int .i64 y.k.last, .string (bs y.pend), .string (bs y.bits), .bool y.beg] 29) = W2 at *
    generalize w2.heap.size = b7 at *
    (with_reducible refine (cS _ (hrt _ hU2)).mono ?_); rintro e w3 hP; obtain ⟨v3, rfl, ho3, U3⟩ := wdP_yes hP
    obtain ⟨a3, c3, rfl⟩ := ownsRow_shape ho3
    have hr3 := (RdP.of_own ho3).low (Nat.zero_le _)
    obtain ⟨hbb3, q0, q1, q2, q3, q4, q5, q6, q7, q8⟩ := (hZ2.up U3).cells
    unfold wrV
    go_wp2_with fail
    have hU3 : Up W2 (w3.alloc (.cells #[.int .i64 y.k.set.ord, .int .i64 y.k.set.lit, .int .i64 y.k.set.most, .slice a3 y.k.ps.length c3, .int .i64 y.k.base, .int .i64 y.k.last, .string (bs y.pend), .string (bs y.bits), .bool y.beg] 29)) := U3.alloc _
    have hZ2 := hZ2.up hU3
    have hr2 := hr2.up hU3
    have hr3 := hr3.up ((Up.refl w3).alloc (.cells #[.int .i64 y.k.set.ord, .int .i64 y.k.set.lit, .int .i64 y.k.set.most, .slice a3 y.k.ps.length c3, .int .i64 y.k.base, .int .i64 y.k.last, .string (bs y.pend), .string (bs y.bits), .bool y.beg] 29))
    clear hP U3 ho3 hbb3 q0 q1 q2 q3 q4 q5 q6 q7 q8
    generalize w3.alloc (.cells #[.int .i64 y.k.set.ord, .int .i64 y.k.set.lit, .int .i64 y.k.set.most, .slice a3 y.k.ps.length c3, .int .i64 y.k.base, .int .i64 y.k.last, .string (bs y.pend), .string (bs y.bits), .bool y.beg] 29) = W3 at *
    (with_reducible refine (cSo _ _ _ hr2 hr3).mono ?_); rintro e w4 ⟨rfl, U4⟩
    have hU4 := (hU2.trans hU3).trans U4
    have hZ4 := hZ2.up U4
    have hr4 := hr2.up U4
    obtain ⟨hbb4, r0, r1, r2, r3, r4, r5, r6, r7, r8⟩ := (hX.up hU4).cells
    clear hr2 hr3 hU2 hU3 hZ2 U4 cI cS
    go_wp2_with fail
    (with_reducible refine (cF _ hU4).mono ?_); rintro e w5 ⟨rfl, U5⟩
    have hU5 := hU4.trans U5
    have hZ5 := hZ4.up U5
    have hr5 := hr4.up U5
    clear hU4 hZ4 hr4 U5 hbb4 r0 r1 r2 r3 r4 r5 r6 r7 r8
    go_wp2_with fail
    (with_reducible refine (cP _ hU5).mono ?_); rintro e w6 ⟨v6, rfl, ho6, U6⟩
    obtain ⟨a6, c6, rfl⟩ := ownsRow_shape ho6
    have hr6 := (RdP.of_own ho6).low (Nat.zero_le _)
    go_wp2_with fail
    have hUa := (Up.refl w6).alloc (.cells #[.int .i64 x.k.set.ord, .int .i64 x.k.set.lit, .int .i64 x.k.set.most, .slice a6 x.k.ps.length c6, .int .i64 x.k.base, .int .i64 x.k.last, .string (bs x.pend), .string (bs x.bits), .bool x.beg] 29)
    have hX6 : WrAt w6.heap.size x (.slice a6 x.k.ps.length c6) (w6.alloc (.cells #[.int .i64 x.k.set.ord, .int .i64 x.k.set.lit, .int .i64 x.k.set.most, .slice a6 x.k.ps.length c6, .int .i64 x.k.base, .int .i64 x.k.last, .string (bs x.pend), .string (bs x.bits), .bool x.beg] 29)) := (MapKept.heap_alloc w6 _).1
    have hU6 := (hU5.trans U6).trans hUa
    have hZ6 := (hZ5.up U6).up hUa
    have hrb := (hr5.up U6).up hUa
    have hr6 := hr6.up hUa
    clear hU5 hZ5 hr5 U6 ho6 hUa
    generalize (w6.alloc (.cells #[.int .i64 x.k.set.ord, .int .i64 x.k.set.lit, .int .i64 x.k.set.most, .slice a6 x.k.ps.length c6, .int .i64 x.k.base, .int .i64 x.k.last, .string (bs x.pend), .string (bs x.bits), .bool x.beg] 29)) = W6 at *
    generalize w6.heap.size = b11 at *
    obtain ⟨hbb4, r0, r1, r2, r3, r4, r5, r6, r7, r8⟩ := hX6.cells
    go_wp2_with fail
    (with_reducible refine (cI6 _ _ _ hr6).mono ?_); rintro e w7 hP; obtain ⟨v7, rfl, ho7, U7⟩ := wdP_yes hP
    obtain ⟨a7, c7, rfl⟩ := ownsRow_shape ho7
    have hr7 := (RdP.of_own ho7).low (Nat.zero_le _)
    clear hX6 hbb4 r0 r1 r2 r3 r4 r5 r6 r7 r8
    obtain ⟨hbb4, r0, r1, r2, r3, r4, r5, r6, r7, r8⟩ := (hZ6.up U7).cells
    unfold wrV
    go_wp2_with fail
    have hUb := (Up.refl w7).alloc (.cells #[.int .i64 y.k.set.ord, .int .i64 y.k.set.lit, .int .i64 y.k.set.most, .slice a7 y.k.ps.length c7, .int .i64 y.k.base, .int .i64 y.k.last, .string (bs y.pend), .string (bs y.bits), .bool y.beg] 29)
    have hY7 : WrAt w7.heap.size y (.slice a7 y.k.ps.length c7) (w7.alloc (.cells #[.int .i64 y.k.set.ord, .int .i64 y.k.set.lit, .int .i64 y.k.set.most, .slice a7 y.k.ps.length c7, .int .i64 y.k.base, .int .i64 y.k.last, .string (bs y.pend), .string (bs y.bits), .bool y.beg] 29)) := (MapKept.heap_alloc w7 _).1
    have hU7 := (hU6.trans U7).trans hUb
    have hZ7 := (hZ6.up U7).up hUb
    have hrc := (hrb.up U7).up hUb
    have hr7 := hr7.up hUb
    clear hU6 hZ6 hrb hr6 U7 ho7 hUb hP hbb4 r0 r1 r2 r3 r4 r5 r6 r7 r8
    generalize (w7.alloc (.cells #[.int .i64 y.k.set.ord, .int .i64 y.k.set.lit, .int .i64 y.k.set.most, .slice a7 y.k.ps.length c7, .int .i64 y.k.base, .int .i64 y.k.last, .string (bs y.pend), .string (bs y.bits), .bool y.beg] 29)) = W7 at *
    generalize w7.heap.size = b13 at *
    obtain ⟨hbb4, r0, r1, r2, r3, r4, r5, r6, r7, r8⟩ := hZ7.cells
    go_wp2_with fail
    (with_reducible refine (cC _ _ _ hrc).mono ?_); rintro e w8 ⟨rfl, U8⟩
    have hU8 := hU7.trans U8
    have hZ8 := hZ7.up U8
    have hY8 := hY7.up U8
    have hrd8 := hrc.up U8
    have hr8 := hr7.up U8
    clear hU7 hZ7 hY7 hrc hr7 U8 hbb4 r0 r1 r2 r3 r4 r5 r6 r7 r8
    obtain ⟨hbb4, r0, r1, r2, r3, r4, r5, r6, r7, r8⟩ := hY8.cells
    go_wp2_with fail
    (with_reducible refine (cC _ _ _ hr8).mono ?_); rintro e w9 ⟨rfl, U9⟩
    have hU9 := hU8.trans U9
    have hZ9 := hZ8.up U9
    have hY9 := hY8.up U9
    have hrd9 := hrd8.up U9
    have hr9 := hr8.up U9
    clear hU8 hZ8 hY8 hrd8 hr8 U9 hbb4 r0 r1 r2 r3 r4 r5 r6 r7 r8
    obtain ⟨hbb4, r0, r1, r2, r3, r4, r5, r6, r7, r8⟩ := hY9.cells
    obtain ⟨hbz4, q0, q1, q2, q3, q4, q5, q6, q7, q8⟩ := hZ9.cells
    go_wp2_with fail
    (with_reducible refine (cSo _ _ _ hr9 hrd9).mono ?_); rintro e w10 ⟨rfl, U10⟩
    go_wp2_with fail
    go_ret
    exact ⟨ret_bool (by simp [HCE]), (hUW.trans hU9).trans U10⟩

set_option maxRecDepth 100000 in
theorem lifted (os : Os) (started : os.Started) (H : Type) (enc : TypeId × Value → H) :
    ReturnsInHanded {} Tryz.checked os 3 .any (fun w args => (Rows.fnWriterResumeSpec.pre enc Tryz.prog Tryz.f3 [] false w args ∧ laidMetH Tryz.prog laid7 w) ∧ sizedMet enc Tryz.prog Tryz.f3 (OpenSpec.ofChange Rows.fnWriterResumeSpec) false w args) (Rows.fnWriterResumeSpec.post enc Tryz.prog Tryz.f3 false true false false) := by
  refine handed_shaped (C := Tryz.checked) (X := fun w _ => laidMetH Tryz.prog laid7 w) (fun _ _ _ hh h => h.of_heap hh) own started (by kernel_rfl) Tryz.func3
    (ChangeSpec.witness_shaped (enc := enc) (C := Tryz.checked) (os := os) (X := fun w _ => laidMetH Tryz.prog laid7 w) false (doorW7 os) #[.slice none 0 0] 8 (door_os7 os) (door_shapedC7 os _) (by kernel_rfl) (by kernel_rfl) (by kernel_rfl) (door_met7 os _)) ?_
  intro W base args ds gs before hval0 hW _ _ hL hSh
  have hT := lay_of_laid7 hL hSh
  have hval : ∀ (j : Nat) t v, Tryz.f3.params[j]? = some t → args[j]? = some v → Value.okWide Tryz.prog W .any base t v := hval0
  have hW' := hW
  obtain ⟨p, q, hA0, hV, rfl, hfz, hnd⟩ := hW
  have hA : DataW.TrodAll enc Tryz.prog W 0 (fun _ => true) true Tryz.f3.params.toList args.toList ds p := hA0
  rw [Tryz.params3] at hA hval
  obtain ⟨v0, d0, rfl, rfl, h0⟩ := trodAll_one hA
  obtain ⟨p0, rfl⟩ : ∃ x, x = p := ⟨_, rfl⟩
  obtain ⟨a0, n0, c0, rfl⟩ := okWide_slice Tryz.underlying22 (hval 0 22 v0 rfl rfl)
  have hlt0 : ∀ x ∈ p0, x.block < W.heap.size := fun x hx => by simpa using hW'.lt x (by simp [hx])
  obtain ⟨fuel0, hf0⟩ := h0
  obtain ⟨lcode, hcode⟩ := open_argU (by simpa [Value.cells] using hf0) hlt0
  obtain ⟨rfl, rfl⟩ := trodVars_none hV
  refine (walk _ _ W hT hcode).mono fun e W' ⟨he, hu⟩ => ?_
  subst he
  exact ⟨_, rfl, post_law (f := Tryz.f3) TryzlaidOut (by kernel_rfl) rfl Tryz.underlying4 rfl hW' (fun ds' h => by subst h; exact ⟨rfl, rfl, rfl⟩) hu⟩

set_option maxHeartbeats 80000000 in
theorem closed : joinedFacts Tryz.checked.prog 3 Tryz.f3 Rows.fnWriterResumeSpec Rows.fnWriterResumeRow = true := by
  unfold joinedFacts
  repeat' (with_reducible refine (Bool.and_eq_true_iff.2 ⟨?_, ?_⟩))
  all_goals (as_aux_lemma => kernel_rfl)

theorem holds : Rows.FnWriterResumeSaid :=
  OpenClaim.holds_of_wide 3 Tryz.f3 rfl rfl rfl rfl rfl rfl rfl ⟨rfl, rfl, rfl, rfl, rfl⟩ rfl rfl rfl rfl rfl (by as_aux_lemma => kernel_rfl) Tryz.func3 closed
    (of_decide_eq_true (by as_aux_lemma => kernel_rfl)) (by unfold Func.isWrapper; first | (rw [if_pos (by decide +kernel)]; kernel_rfl) | (rw [if_neg (by decide +kernel)]; exact ⟨rfl, rfl⟩))
    (fun os started H enc _ => lifted os started H enc)

theorem card_holds : Rows.FnWriterResumeCardSaid :=
  Claim7.holds_tied_plain_at .later [] [.data, .data, .data, .data, .sentinel, .sentinel, .pinned] true (true, "110631b35f1b2f92e2add9ccc051e801461e46c0e14b705fd247b5eb1342369b") true
    holds (fun _ h => by cases h) (by kernel_rfl) (fun _ h => by cases h) fnWriterResume_row_tie rfl ⟨rfl, rfl⟩ (by kernel_rfl) rfl
    (fun f fn hf hfn => by
      obtain rfl : f = 3 := Option.some.inj ((show Tryz.prog.funcNamed "loop.example/soughtstreams/laws.FnWriterResume" = some 3 by kernel_rfl).symm.trans hf) |>.symm
      obtain rfl : fn = Tryz.f3 := (Option.some.inj (Tryz.func3.symm.trans hfn)).symm
      exact ⟨by kernel_rfl, fun j t ht => by
        rw [Tryz.params3] at ht
        have hm : t ∈ [22] := by simpa using Array.mem_of_getElem? ht
        have hall : ([22].all fun u => !Tryz.prog.wantsStandIn u) = true := by kernel_rfl
        exact (show Tryz.prog.wantsStandIn t = false by simpa using List.all_eq_true.1 hall t hm)⟩)
    (by kernel_rfl)

end Go.Proofs.YtekogcjdaolcbaaGreatDoor.lawFnWriterResume
