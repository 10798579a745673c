/- Writers' texts: what is formatted is parsed back, and a text that is parsed is that of the parsed writer. Conditions: none. -/
import Derived.ProofKit
import Derived.OpenShut
import Derived.Stop.Joined
import Derived.Test.YtekogcjdaolcbaaGreatDoorMFnWriterTextLawA
import Derived.Test.YtekogcjdaolcbaaGreatDoorMFnWriterTextLawB
import Derived.Test.YtekogcjdaolcbaaGreatDoorMFnWriterTextLawC
import Derived.Test.YtekogcjdaolcbaaGreatDoorMFnWriterTextLawD
import Derived.Test.YtekogcjdaolcbaaGreatDoorMFnWriterTextLawE
import Derived.Test.YtekogcjdaolcbaaGreatDoorMFnWriterTextLawF
import Derived.Test.YtekogcjdaolcbaaGreatDoorMFnWriterTextLawG
import Derived.Test.YtekogcjdaolcbaaGreatDoorMFnWriterTextLawH
import Derived.Test.YtekogcjdaolcbaaGreatDoorMFnWriterTextLawI
import Derived.Test.YtekogcjdaolcbaaGreatDoorMFnWriterTextLawJ
import Derived.Test.YtekogcjdaolcbaaGreatDoorMFnWriterTextLawK
import Derived.Test.YtekogcjdaolcbaaGreatDoorMFnWriterTextLawL
import Derived.Test.YtekogcjdaolcbaaGreatDoorMFnWriterTextLawM
import Derived.Test.YtekogcjdaolcbaaGreatDoorMFnWriterTextLawN
import Derived.Test.YtekogcjdaolcbaaGreatDoorMFnWriterTextLawO
import Derived.Test.YtekogcjdaolcbaaGreatDoorMFnWriterTextLawP
namespace Go.Proofs.YtekogcjdaolcbaaGreatDoor.lawFnWriterText
set_option linter.unusedVariables false
set_option linter.unusedSimpArgs false
open Go Go.ChangeShapes Go.WideShapes Go.ChangeAt Go.RowKit Go.Joins
open Go.ChangeMaps (open_string shut_string)

theorem prsW_bad (t : List UInt8) : BadW ((prsW t).getD wr0) := by
  cases h : prsW t with
  | none => exact ⟨⟨by decide, by decide⟩, by decide, by decide, by decide⟩
  | some q => exact badW_of (wrvB_ok (fmtW_prs h).2)
theorem prsW_back (t : List UInt8) : (prsW t).isSome = true → fmtW ((prsW t).getD wr0) = t := by
  cases h : prsW t with
  | none => intro h; cases h
  | some q => intro _; exact (fmtW_prs h).1
theorem fmtW_no {x : WrD} (h : wrvB x = false) : fmtW x = [] := by unfold fmtW; rw [h]; rfl
theorem fmtW_ne {x : WrD} (h : wrvB x = true) : fmtW x ≠ [] := fun e => by
  have h1 := fmtW_spl h
  rw [e] at h1
  simp [splL] at h1

set_option maxRecDepth 100000 in
set_option maxHeartbeats 8000000 in
theorem walk (vc vm : Value) (lc lm : List UInt8) (w : World) (hL : Lay w) (hc : ArgU w vc lc) (hm : ArgU w vm lm) :
    Calls Tryz.prog 4  #[vc, vm] w (Same (.bool true) w) := by
  have cD := fun w' hu => drawFormatWriter_any vc lc w' (hc.up (w' := w') hu)
  have cE := fun w' hu => drawParseWriter_any vm lm w' (hm.up (w' := w') hu)
  have HL := Lib.hid hL
  clear hL
  obtain ⟨ac, cc, rfl, hc1, hc2, -⟩ := hc
  obtain ⟨am, cm, rfl, hm1, hm2, -⟩ := hm
  unfold maxLen at hc2 hm2
  by_cases h1 : 1048576 < lc.length
  · go_enter Tryz.func4, Tryz.ntmps4
    go_wp2
    go_ret
    exact ⟨rfl, by (repeat (first | with_reducible exact Up.refl _ | with_reducible assumption | with_reducible refine Up.set ?_ (by first | exact Nat.le_refl _ | (simp only []; omega) | (simp; omega)) _ | with_reducible refine Up.alloc ?_ _ | with_reducible refine Up.drew ?_ | refine Up.trans ?_ (by with_reducible assumption)))⟩
  by_cases h2 : 1048576 < lm.length
  · go_enter Tryz.func4, Tryz.ntmps4
    go_wp2
    go_ret
    exact ⟨rfl, by (repeat (first | with_reducible exact Up.refl _ | with_reducible assumption | with_reducible refine Up.set ?_ (by first | exact Nat.le_refl _ | (simp only []; omega) | (simp; omega)) _ | with_reducible refine Up.alloc ?_ _ | with_reducible refine Up.drew ?_ | refine Up.trans ?_ (by with_reducible assumption)))⟩
  go_enter Tryz.func4, Tryz.ntmps4
  go_wp2_with fail
  (with_reducible refine (cD _ (by (repeat (first | with_reducible exact Up.refl _ | with_reducible assumption | with_reducible refine Up.set ?_ (by first | exact Nat.le_refl _ | (simp only []; omega) | (simp; omega)) _ | with_reducible refine Up.alloc ?_ _ | with_reducible refine Up.drew ?_ | refine Up.trans ?_ (by with_reducible assumption))))).mono ?_); rintro e w1 ⟨x, u, rfl, ⟨hr, hb⟩, U1⟩
  obtain ⟨a, cap, rfl, -⟩ := id hr
  have hr := hr.low (Nat.zero_le _)
  have hU1 : Up w w1 := by (repeat (first | with_reducible exact Up.refl _ | with_reducible assumption | with_reducible refine Up.set ?_ (by first | exact Nat.le_refl _ | (simp only []; omega) | (simp; omega)) _ | with_reducible refine Up.alloc ?_ _ | with_reducible refine Up.drew ?_ | refine Up.trans ?_ (by with_reducible assumption)))
  clear cD U1
  unfold wrV
  go_wp2_with fail
  have hUa := (Up.refl w1).alloc (.cells #[.int .i64 x.k.set.ord, .int .i64 x.k.set.lit, .int .i64 x.k.set.most, .slice a x.k.ps.length cap, .int .i64 x.k.base, .int .i64 x.k.last, .string (bs x.pend), .string (bs x.bits), .bool x.beg] 29)
  have hX : WrAt w1.heap.size x (.slice a x.k.ps.length cap) (w1.alloc (.cells #[.int .i64 x.k.set.ord, .int .i64 x.k.set.lit, .int .i64 x.k.set.most, .slice a x.k.ps.length cap, .int .i64 x.k.base, .int .i64 x.k.last, .string (bs x.pend), .string (bs x.bits), .bool x.beg] 29)) := (MapKept.heap_alloc w1 _).1
  have hU := hU1.trans hUa
  have hr := hr.up hUa
  clear hU1 hUa
  generalize (w1.alloc (.cells #[.int .i64 x.k.set.ord, .int .i64 x.k.set.lit, .int .i64 x.k.set.most, .slice a x.k.ps.length cap, .int .i64 x.k.base, .int .i64 x.k.last, .string (bs x.pend), .string (bs x.bits), .bool x.beg] 29)) = W at *
  generalize w1.heap.size = b5 at *
  have hrt := fun (wq : World) (hu : Up W wq) => hr.up hu
  have cF : ∀ wq, Up W wq → Calls Tryz.prog 11  #[wrV x (.slice a x.k.ps.length cap)] wq (Same (.string (bs (fmtW x))) wq) := fun wq hu => fwI_any x _ 0 wq (HL.out.up (hU.trans hu)).tab hb.1 (hrt _ hu) (by have := hb.2; omega) (by have := hb.2; omega) (by have := hb.2; omega)
  have cG := fun wq (hu : Up W wq) => fwS_any x _ 0 wq (hrt _ hu) (by have := hb.2; omega) (by have := hb.2; omega) (by have := hb.2; omega)
  have cV := fun wq (hu : Up W wq) => wvI_any x _ 0 wq hb.1 (hrt _ hu) (by have := hb.2; omega) (by have := hb.2; omega) (by have := hb.2; omega)
  have cP := fun wq (hu : Up W wq) => pwI_any (fmtW x) wq (HL.out.up (hU.trans hu)) (by have := fmtW_le x; omega)
  have cSo := fun wq v v' h h' => soWriters_same x v v' 0 0 wq h h'
  unfold PwPost at cP
  cases hv : wrvB x
  case' false =>
    rw [hv] at cV
    have HE : (bs (fmtW x)).toList.isEmpty = true := by rw [fmtW_no hv]; exact isEmpty_nil
    clear hv cP cSo
    unfold wrV at cF cG cV
    generalize bs (fmtW x) = F at *
  case' true =>
    rw [hv] at cV
    rw [prsW_fmt hv] at cP
    simp only [Option.isSome_some, Option.getD_some] at cP
    have HE : (bs (fmtW x)).toList.isEmpty = false := isEmpty_bs (fmtW_ne hv)
    clear hv
    unfold wrV at cF cG cV cP cSo
    generalize bs (fmtW x) = F at *
  all_goals
    obtain ⟨hbr, r0, r1, r2, r3, r4, r5, r6, r7, r8⟩ := hX.cells
    go_wp2_with fail
    (with_reducible refine (cF _ (Up.refl _)).mono ?_); rintro e w2 ⟨rfl, U2⟩
    clear hbr r0 r1 r2 r3 r4 r5 r6 r7 r8
    obtain ⟨hbr, r0, r1, r2, r3, r4, r5, r6, r7, r8⟩ := (hX.up U2).cells
    go_wp2_with fail
    (with_reducible refine (cG _ U2).mono ?_); rintro e w3 ⟨rfl, U3⟩
    have hU3 := U2.trans U3
    clear hbr r0 r1 r2 r3 r4 r5 r6 r7 r8
    clear U2 U3
    obtain ⟨hbr, r0, r1, r2, r3, r4, r5, r6, r7, r8⟩ := (hX.up hU3).cells
    go_wp2_with fail
    (with_reducible refine (cV _ hU3).mono ?_); rintro e w4 ⟨rfl, U4⟩
    have hU4 := hU3.trans U4
    clear hbr r0 r1 r2 r3 r4 r5 r6 r7 r8
    clear U4 hU3
    obtain ⟨hbr, r0, r1, r2, r3, r4, r5, r6, r7, r8⟩ := (hX.up hU4).cells
    go_wp2_with fail
  case' _ =>
    (with_reducible refine (cP _ hU4).mono ?_); rintro e w5 ⟨v5, rfl, ho5, U5⟩
    obtain ⟨a5, c5, rfl⟩ := ownsRow_shape ho5
    have hr5 := (RdP.of_own ho5).low (Nat.zero_le _)
    have hU5 := hU4.trans U5
    clear hbr r0 r1 r2 r3 r4 r5 r6 r7 r8
    clear U5 ho5
    obtain ⟨hbr, r0, r1, r2, r3, r4, r5, r6, r7, r8⟩ := (hX.up hU5).cells
    go_wp2_with fail
    have hUb := (Up.refl w5).alloc (.cells #[.int .i64 x.k.set.ord, .int .i64 x.k.set.lit, .int .i64 x.k.set.most, .slice a5 x.k.ps.length c5, .int .i64 x.k.base, .int .i64 x.k.last, .string (bs x.pend), .string (bs x.bits), .bool x.beg] 29)
    have hU6 := hU5.trans hUb
    have hr5 := hr5.up hUb
    have hX5 : WrAt w5.heap.size x (.slice a5 x.k.ps.length c5) (w5.alloc (.cells #[.int .i64 x.k.set.ord, .int .i64 x.k.set.lit, .int .i64 x.k.set.most, .slice a5 x.k.ps.length c5, .int .i64 x.k.base, .int .i64 x.k.last, .string (bs x.pend), .string (bs x.bits), .bool x.beg] 29)) := (MapKept.heap_alloc w5 _).1
    clear hUb hU5
    generalize (w5.alloc (.cells #[.int .i64 x.k.set.ord, .int .i64 x.k.set.lit, .int .i64 x.k.set.most, .slice a5 x.k.ps.length c5, .int .i64 x.k.base, .int .i64 x.k.last, .string (bs x.pend), .string (bs x.bits), .bool x.beg] 29)) = W6 at *
    generalize w5.heap.size = b7 at *
    clear hbr r0 r1 r2 r3 r4 r5 r6 r7 r8
    obtain ⟨hbr, r0, r1, r2, r3, r4, r5, r6, r7, r8⟩ := (hX.up hU6).cells
    obtain ⟨hbq, q0, q1, q2, q3, q4, q5, q6, q7, q8⟩ := hX5.cells
    go_wp2_with fail
    (with_reducible refine (cSo _ _ _ hr5 (hrt _ hU6)).mono ?_); rintro e w7 ⟨rfl, U7⟩
    go_wp2_with fail
    obtain ⟨WW, hW⟩ : ∃ WW, Hid (WW = w7) := ⟨_, rfl⟩
    rw [← hW.out]
    have HW : Hid (Up w WW) := by rw [hW.out]; exact (hU.trans hU6).trans U7
    clear hW
  rotate_left
  case' _ =>
    obtain ⟨WW, hW⟩ : ∃ WW, Hid (WW = w4) := ⟨_, rfl⟩
    rw [← hW.out]
    have HW : Hid (Up w WW) := by rw [hW.out]; exact hU.trans hU4
    clear hW
  all_goals
    (with_reducible refine (cE _ HW.out).mono ?_); rintro e w8 ⟨T, rfl, hT, U8⟩
    have HU8 := Lib.hid (HW.out.trans U8)
    have hTl : T.data.toList.length ≤ 1048576 := by have := ba_len T; omega
    have cI := fun wx (hx : Up w wx) => pwI_any T.data.toList wx (HL.out.up hx) hTl
    have cS := fun wx => pwS_any T.data.toList wx hTl
    rw [bs_self] at cI cS
    have hbk := prsW_back T.data.toList
    have hbd := prsW_bad T.data.toList
    unfold PwPost at cI cS
    generalize (prsW T.data.toList).isSome = ok at *
    generalize (prsW T.data.toList).getD wr0 = Y at *
    have cF2 : ∀ wq v, Up w wq → RdP 0 wq v Y.k.ps → Calls Tryz.prog 11  #[wrV Y v] wq (Same (.string (bs (fmtW Y))) wq) := fun wq v hu h => fwI_any Y _ 0 wq (HL.out.up hu).tab hbd.1 h (by have := hbd.2; omega) (by have := hbd.2; omega) (by have := hbd.2; omega)
    have cSy := fun wq v v' h h' => soWriters_same Y v v' 0 0 wq h h'
    unfold wrV at cI cS cF2 cSy
    clear cE U8 HW hT hbd hTl hX
    go_wp2_with fail
    (with_reducible refine (cI _ HU8.out).mono ?_); rintro e w9 ⟨v9, rfl, ho9, U9⟩
    have hU9 := HU8.out.trans U9
    obtain ⟨a9, c9, rfl⟩ := ownsRow_shape ho9
    have hr9 := (RdP.of_own ho9).low (Nat.zero_le _)
    clear HU8 U9 ho9
    go_wp2_with fail
    have hUc := (Up.refl w9).alloc (.cells #[.int .i64 Y.k.set.ord, .int .i64 Y.k.set.lit, .int .i64 Y.k.set.most, .slice a9 Y.k.ps.length c9, .int .i64 Y.k.base, .int .i64 Y.k.last, .string (bs Y.pend), .string (bs Y.bits), .bool Y.beg] 29)
    have hY9 : WrAt w9.heap.size Y (.slice a9 Y.k.ps.length c9) (w9.alloc (.cells #[.int .i64 Y.k.set.ord, .int .i64 Y.k.set.lit, .int .i64 Y.k.set.most, .slice a9 Y.k.ps.length c9, .int .i64 Y.k.base, .int .i64 Y.k.last, .string (bs Y.pend), .string (bs Y.bits), .bool Y.beg] 29)) := (MapKept.heap_alloc w9 _).1
    have hU9 := hU9.trans hUc
    have hr9 := hr9.up hUc
    clear hUc
    generalize (w9.alloc (.cells #[.int .i64 Y.k.set.ord, .int .i64 Y.k.set.lit, .int .i64 Y.k.set.most, .slice a9 Y.k.ps.length c9, .int .i64 Y.k.base, .int .i64 Y.k.last, .string (bs Y.pend), .string (bs Y.bits), .bool Y.beg] 29)) = W9 at *
    generalize w9.heap.size = b10 at *
    (with_reducible refine (cS _).mono ?_); rintro e w10 ⟨v10, rfl, ho10, U10⟩
    have hU10 := hU9.trans U10
    have hr9 := hr9.up U10
    have hY9 := hY9.up U10
    obtain ⟨a10, c10, rfl⟩ := ownsRow_shape ho10
    have hr10 := (RdP.of_own ho10).low (Nat.zero_le _)
    clear U10 ho10 hU9
    obtain ⟨hbp, p0, p1, p2, p3, p4, p5, p6, p7, p8⟩ := hY9.cells
    go_wp2_with fail
    have hUd := (Up.refl w10).alloc (.cells #[.int .i64 Y.k.set.ord, .int .i64 Y.k.set.lit, .int .i64 Y.k.set.most, .slice a10 Y.k.ps.length c10, .int .i64 Y.k.base, .int .i64 Y.k.last, .string (bs Y.pend), .string (bs Y.bits), .bool Y.beg] 29)
    have hY10 : WrAt w10.heap.size Y (.slice a10 Y.k.ps.length c10) (w10.alloc (.cells #[.int .i64 Y.k.set.ord, .int .i64 Y.k.set.lit, .int .i64 Y.k.set.most, .slice a10 Y.k.ps.length c10, .int .i64 Y.k.base, .int .i64 Y.k.last, .string (bs Y.pend), .string (bs Y.bits), .bool Y.beg] 29)) := (MapKept.heap_alloc w10 _).1
    have hU10 := hU10.trans hUd
    have hr9 := hr9.up hUd
    have hr10 := hr10.up hUd
    have hY9 := hY9.up hUd
    clear hUd
    clear hbp p0 p1 p2 p3 p4 p5 p6 p7 p8
    generalize (w10.alloc (.cells #[.int .i64 Y.k.set.ord, .int .i64 Y.k.set.lit, .int .i64 Y.k.set.most, .slice a10 Y.k.ps.length c10, .int .i64 Y.k.base, .int .i64 Y.k.last, .string (bs Y.pend), .string (bs Y.bits), .bool Y.beg] 29)) = W10 at *
    generalize w10.heap.size = b12 at *
    (with_reducible refine (cSy _ _ _ hr9 hr10).mono ?_); rintro e w11 ⟨rfl, U11⟩
    have hU11 := hU10.trans U11
    have hr9 := hr9.up U11
    have hY9 := hY9.up U11
    clear U11 hU10
    obtain ⟨hbp, p0, p1, p2, p3, p4, p5, p6, p7, p8⟩ := hY9.cells
    cases ok with
    | false =>
      go_wp2_with fail
      go_ret
      exact ⟨rfl, hU11⟩
    | true =>
      have hF : bs (fmtW Y) = T := by rw [hbk rfl]; exact bs_self T
      rw [hF] at cF2
      go_wp2_with fail
      (with_reducible refine (cF2 _ _ hU11 hr9).mono ?_); rintro e w12 ⟨rfl, U12⟩
      go_wp2_with fail
      go_ret
      exact ⟨ret_bool (by simp), hU11.trans U12⟩

set_option maxRecDepth 100000 in
theorem lifted (os : Os) (started : os.Started) (H : Type) (enc : TypeId × Value → H) :
    ReturnsInHanded {} Tryz.checked os 4 .any (fun w args => (Rows.fnWriterTextSpec.pre enc Tryz.prog Tryz.f4 [] false w args ∧ laidMetH Tryz.prog laid7 w) ∧ sizedMet enc Tryz.prog Tryz.f4 (OpenSpec.ofChange Rows.fnWriterTextSpec) false w args) (Rows.fnWriterTextSpec.post enc Tryz.prog Tryz.f4 false true false false) := by
  refine handed_shaped (C := Tryz.checked) (X := fun w _ => laidMetH Tryz.prog laid7 w) (fun _ _ _ hh h => h.of_heap hh) own started (by kernel_rfl) Tryz.func4
    (ChangeSpec.witness_shaped (enc := enc) (C := Tryz.checked) (os := os) (X := fun w _ => laidMetH Tryz.prog laid7 w) false (doorW7 os) #[.slice none 0 0, .slice none 0 0] 8 (door_os7 os) (door_shapedC7 os _) (by kernel_rfl) (by kernel_rfl) (by kernel_rfl) (door_met7 os _)) ?_
  intro W base args ds gs before hval0 hW _ _ hL hSh
  have hT := lay_of_laid7 hL hSh
  have hval : ∀ (j : Nat) t v, Tryz.f4.params[j]? = some t → args[j]? = some v → Value.okWide Tryz.prog W .any base t v := hval0
  have hW' := hW
  obtain ⟨p, q, hA0, hV, rfl, hfz, hnd⟩ := hW
  have hA : DataW.TrodAll enc Tryz.prog W 0 (fun _ => true) true Tryz.f4.params.toList args.toList ds p := hA0
  rw [Tryz.params4] at hA hval
  obtain ⟨v0, v1, d0, d1, p0, p1, rfl, rfl, rfl, h0, h1⟩ := trodAll_two hA
  obtain ⟨a0, n0, c0, rfl⟩ := okWide_slice Tryz.underlying22 (hval 0 22 v0 rfl rfl)
  have hlt0 : ∀ x ∈ p0, x.block < W.heap.size := fun x hx => by simpa using hW'.lt x (by simp [hx])
  obtain ⟨fuel0, hf0⟩ := h0
  obtain ⟨lcode, hcode⟩ := open_argU (by simpa [Value.cells] using hf0) hlt0
  obtain ⟨a1, n1, c1, rfl⟩ := okWide_slice Tryz.underlying22 (hval 1 22 v1 rfl rfl)
  have hlt1 : ∀ x ∈ p1, x.block < W.heap.size := fun x hx => by simpa using hW'.lt x (by simp [hx])
  obtain ⟨fuel1, hf1⟩ := h1
  obtain ⟨lmore, hmore⟩ := open_argU (by simpa [Value.cells] using hf1) hlt1
  obtain ⟨rfl, rfl⟩ := trodVars_none hV
  refine (walk _ _ _ _ W hT hcode hmore).mono fun e W' ⟨he, hu⟩ => ?_
  subst he
  exact ⟨_, rfl, post_law (f := Tryz.f4) TryzlaidOut (by kernel_rfl) rfl Tryz.underlying4 rfl hW' (fun ds' h => by subst h; exact ⟨rfl, rfl, rfl⟩) hu⟩

set_option maxHeartbeats 80000000 in
theorem closed : joinedFacts Tryz.checked.prog 4 Tryz.f4 Rows.fnWriterTextSpec Rows.fnWriterTextRow = true := by
  unfold joinedFacts
  repeat' (with_reducible refine (Bool.and_eq_true_iff.2 ⟨?_, ?_⟩))
  all_goals (as_aux_lemma => kernel_rfl)

theorem holds : Rows.FnWriterTextSaid :=
  OpenClaim.holds_of_wide 4 Tryz.f4 rfl rfl rfl rfl rfl rfl rfl ⟨rfl, rfl, rfl, rfl, rfl⟩ rfl rfl rfl rfl rfl (by as_aux_lemma => kernel_rfl) Tryz.func4 closed
    (of_decide_eq_true (by as_aux_lemma => kernel_rfl)) (by unfold Func.isWrapper; first | (rw [if_pos (by decide +kernel)]; kernel_rfl) | (rw [if_neg (by decide +kernel)]; exact ⟨rfl, rfl⟩))
    (fun os started H enc _ => lifted os started H enc)

theorem card_holds : Rows.FnWriterTextCardSaid :=
  Claim7.holds_tied_plain_at .later [] [.data, .data, .data, .data, .sentinel, .sentinel, .pinned] true (true, "110631b35f1b2f92e2add9ccc051e801461e46c0e14b705fd247b5eb1342369b") true
    holds (fun _ h => by cases h) (by kernel_rfl) (fun _ h => by cases h) fnWriterText_row_tie rfl ⟨rfl, rfl⟩ (by kernel_rfl) rfl
    (fun f fn hf hfn => by
      obtain rfl : f = 4 := Option.some.inj ((show Tryz.prog.funcNamed "loop.example/soughtstreams/laws.FnWriterText" = some 4 by kernel_rfl).symm.trans hf) |>.symm
      obtain rfl : fn = Tryz.f4 := (Option.some.inj (Tryz.func4.symm.trans hfn)).symm
      exact ⟨by kernel_rfl, fun j t ht => by
        rw [Tryz.params4] at ht
        have hm : t ∈ [22, 22] := by simpa using Array.mem_of_getElem? ht
        have hall : ([22, 22].all fun u => !Tryz.prog.wantsStandIn u) = true := by kernel_rfl
        exact (show Tryz.prog.wantsStandIn t = false by simpa using List.all_eq_true.1 hall t hm)⟩)
    (by kernel_rfl)

end Go.Proofs.YtekogcjdaolcbaaGreatDoor.lawFnWriterText
