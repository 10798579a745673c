/- The program's ParseWriter returns what the reference's returns, for every text. Conditions: none. -/
import Derived.ProofKit
import Derived.OpenShut
import Derived.Stop.Joined
import Derived.Test.YtiiahjnfbhcgmaaGreatDoorMFnExactParseWriterLawA
import Derived.Test.YtiiahjnfbhcgmaaGreatDoorMFnExactParseWriterLawB
import Derived.Test.YtiiahjnfbhcgmaaGreatDoorMFnExactParseWriterLawC
import Derived.Test.YtiiahjnfbhcgmaaGreatDoorMFnExactParseWriterLawD
import Derived.Test.YtiiahjnfbhcgmaaGreatDoorMFnExactParseWriterLawE
import Derived.Test.YtiiahjnfbhcgmaaGreatDoorMFnExactParseWriterLawF
import Derived.Test.YtiiahjnfbhcgmaaGreatDoorMFnExactParseWriterLawG
import Derived.Test.YtiiahjnfbhcgmaaGreatDoorMFnExactParseWriterLawH
namespace Go.Proofs.YtiiahjnfbhcgmaaGreatDoor.lawFnExactParseWriter
set_option linter.unusedVariables false
set_option linter.unusedSimpArgs false
open Go Go.ChangeShapes Go.WideShapes Go.ChangeAt Go.RowKit Go.Joins
open Go.ChangeMaps (open_string shut_string)

theorem ne_of_lt {va vb : Value} {n : Nat} (ha : ∀ k, va.ownBlock = some k → k < n) (hb : ∀ k, vb.ownBlock = some k → n ≤ k) : va.ownBlock = none ∨ va.ownBlock ≠ vb.ownBlock := by
  cases h : va.ownBlock with
  | none => exact .inl rfl
  | some k => exact .inr fun e => by have := ha k h; have := hb k e.symm; omega
theorem prsW_ps (t : List UInt8) : ((prsW t).getD wr0).k.ps.length ≤ 1024 := by
  cases h : prsW t with
  | none => exact Nat.zero_le _
  | some x => exact (validK_small (wrvB_parts (fmtW_prs h).2).1).2.1

set_option maxRecDepth 100000 in
set_option maxHeartbeats 8000000 in
theorem walk (s : ByteArray) (w : World) (hL : Lay w) (hs : s.size ≤ 9223372036854775807) :
    Calls Tryz.prog 6  #[.string s] w (Same (.bool true) w) := by
  by_cases h : 1048576 < s.size
  · go_enter Tryz.func6, Tryz.ntmps6
    go_wp2
    go_ret
    exact ⟨rfl, by (repeat (first | with_reducible exact Up.refl _ | with_reducible assumption | with_reducible refine Up.set ?_ (by first | exact Nat.le_refl _ | (simp only []; omega) | (simp; omega)) _ | with_reducible refine Up.alloc ?_ _ | with_reducible refine Up.drew ?_ | refine Up.trans ?_ (by with_reducible assumption)))⟩
  have hle : s.data.toList.length ≤ 1048576 := by have := ba_len s; omega
  have cS := fun w => pwS_any s.data.toList w hle
  have cI := fun wx (hx : Up w wx) => pwI_any s.data.toList wx (hL.up hx) hle
  rw [bs_self] at cS cI
  have hYn := prsW_ps s.data.toList
  unfold PwPost at cS cI
  clear hle hL
  generalize (prsW s.data.toList).isSome = ok at *
  generalize (prsW s.data.toList).getD wr0 = Y at *
  have cE := fun wq v v' h h' => eqWriter_same Y v v' 0 0 wq h h'
  unfold wrV at cS cI cE
  go_enter Tryz.func6, Tryz.ntmps6
  go_wp2_with fail
  (with_reducible refine (cS _).mono ?_); rintro e w1 ⟨v1, rfl, ho1, U1⟩
  obtain ⟨a1, c1, rfl⟩ := ownsRow_shape ho1
  have hl1 := Lib.hid fun k h => (ho1.lt k h).2
  go_wp2_with fail
  have hUa := (Up.refl w1).alloc (.cells #[.int .i64 Y.k.set.ord, .int .i64 Y.k.set.lit, .int .i64 Y.k.set.most, .slice a1 Y.k.ps.length c1, .int .i64 Y.k.base, .int .i64 Y.k.last, .string (bs Y.pend), .string (bs Y.bits), .bool Y.beg] 29)
  have hT3 : WrAt w1.heap.size Y (.slice a1 Y.k.ps.length c1) (w1.alloc (.cells #[.int .i64 Y.k.set.ord, .int .i64 Y.k.set.lit, .int .i64 Y.k.set.most, .slice a1 Y.k.ps.length c1, .int .i64 Y.k.base, .int .i64 Y.k.last, .string (bs Y.pend), .string (bs Y.bits), .bool Y.beg] 29)) := (MapKept.heap_alloc w1 _).1
  have ho1 := ownsRow_up ho1 hUa
  have hU1 := U1.trans hUa
  clear hUa U1
  generalize (w1.alloc (.cells #[.int .i64 Y.k.set.ord, .int .i64 Y.k.set.lit, .int .i64 Y.k.set.most, .slice a1 Y.k.ps.length c1, .int .i64 Y.k.base, .int .i64 Y.k.last, .string (bs Y.pend), .string (bs Y.bits), .bool Y.beg] 29)) = W1 at *
  (with_reducible refine (cI _ hU1).mono ?_); rintro e w2 ⟨v2, rfl, ho2, U2⟩
  obtain ⟨a2, c2, rfl⟩ := ownsRow_shape ho2
  have hl2 := Lib.hid ho2.lt
  have hz1 : w1.heap.size < W1.heap.size := (Array.getElem?_eq_some_iff.1 hT3).1
  have hz2 := U2.size
  have hT3 := hT3.up U2
  have ho1 := ownsRow_up ho1 U2
  have hU2 := hU1.trans U2
  have hwz := hU1.size
  clear U2 hU1
  obtain ⟨hb3, q0, q1, q2, q3, q4, q5, q6, q7, q8⟩ := hT3.cells
  go_wp2_with fail
  have hUb := (Up.refl w2).alloc (.cells #[.int .i64 Y.k.set.ord, .int .i64 Y.k.set.lit, .int .i64 Y.k.set.most, .slice a2 Y.k.ps.length c2, .int .i64 Y.k.base, .int .i64 Y.k.last, .string (bs Y.pend), .string (bs Y.bits), .bool Y.beg] 29)
  have hT5 : WrAt w2.heap.size Y (.slice a2 Y.k.ps.length c2) (w2.alloc (.cells #[.int .i64 Y.k.set.ord, .int .i64 Y.k.set.lit, .int .i64 Y.k.set.most, .slice a2 Y.k.ps.length c2, .int .i64 Y.k.base, .int .i64 Y.k.last, .string (bs Y.pend), .string (bs Y.bits), .bool Y.beg] 29)) := (MapKept.heap_alloc w2 _).1
  have hT3 := hT3.up hUb
  have ho1 := ownsRow_up ho1 hUb
  have ho2 := ownsRow_up ho2 hUb
  have hU3 := hU2.trans hUb
  clear hUb hU2 q0 q1 q2 q3 q4 q5 q6 q7 q8 hb3
  generalize (w2.alloc (.cells #[.int .i64 Y.k.set.ord, .int .i64 Y.k.set.lit, .int .i64 Y.k.set.most, .slice a2 Y.k.ps.length c2, .int .i64 Y.k.base, .int .i64 Y.k.last, .string (bs Y.pend), .string (bs Y.bits), .bool Y.beg] 29)) = W2 at *
  (with_reducible refine (cE _ _ _ ((RdP.of_own ho2).low (Nat.zero_le _)) ((RdP.of_own ho1).low (Nat.zero_le _))).mono ?_); rintro e w3 ⟨rfl, U3⟩
  have hT3 := hT3.up U3
  have hT5 := hT5.up U3
  have ho1 := ownsRow_up ho1 U3
  have ho2 := ownsRow_up ho2 U3
  have hU3 := hU3.trans U3
  clear U3
  obtain ⟨hb5, q0, q1, q2, q3, q4, q5, q6, q7, q8⟩ := hT5.cells
  go_wp2_with fail
  have cM := markWr_any Y _ _ 1 w3 (by omega) (by omega) (by omega) ho2
  unfold wrV MkPost at cM
  (with_reducible refine cM.mono ?_); rintro e w4 ⟨rfl, ho2, G⟩
  have n12 := ne_of_lt (va := .slice a1 Y.k.ps.length c1) (vb := .slice a2 Y.k.ps.length c2) (n := W1.heap.size) (fun k h => by have := hl1.out k h; omega) (fun k h => (hl2.out k h).1)
  have ho1 := ho1.kept G n12
  have hT3 : WrAt w1.heap.size Y (.slice a1 Y.k.ps.length c1) w4 := gbox G hT3 (fun e => by have := (hl2.out _ e.symm).1; omega)
  have hT5 : WrAt w2.heap.size Y (.slice a2 Y.k.ps.length c2) w4 := gbox G hT5 (fun e => by have := (hl2.out _ e.symm).2; omega)
  have hU4 : Up w w4 := hU3.grown G (fun k h => by have := (hl2.out k h).1; omega)
  clear G cM hU3 q0 q1 q2 q3 q4 q5 q6 q7 q8 hb5
  obtain ⟨hb5, q0, q1, q2, q3, q4, q5, q6, q7, q8⟩ := hT5.cells
  have cH := heldWr_any Y _ _ 1 w4 (by omega) (by omega) (by omega) ho2
  unfold wrV at cH
  go_wp2_with fail
  (with_reducible refine cH.mono ?_); rintro e w5 ⟨rfl, U5⟩
  have ho1 := ownsRow_up ho1 U5
  have ho2 := ownsRow_up ho2 U5
  have hT3 := hT3.up U5
  have hT5 := hT5.up U5
  have hU5 := hU4.trans U5
  clear cH hU4 U5 q0 q1 q2 q3 q4 q5 q6 q7 q8 hb5
  go_wp2_with fail
  (with_reducible refine (cI _ hU5).mono ?_); rintro e w6 ⟨v6, rfl, ho6, U6⟩
  obtain ⟨a6, c6, rfl⟩ := ownsRow_shape ho6
  have hT3 := hT3.up U6
  have hT5 := hT5.up U6
  have ho1 := ownsRow_up ho1 U6
  have ho2 := ownsRow_up ho2 U6
  have hU6 := hU5.trans U6
  clear U6 hU5
  obtain ⟨hb3, q0, q1, q2, q3, q4, q5, q6, q7, q8⟩ := hT3.cells
  go_wp2_with fail
  have hUd := (Up.refl w6).alloc (.cells #[.int .i64 Y.k.set.ord, .int .i64 Y.k.set.lit, .int .i64 Y.k.set.most, .slice a6 Y.k.ps.length c6, .int .i64 Y.k.base, .int .i64 Y.k.last, .string (bs Y.pend), .string (bs Y.bits), .bool Y.beg] 29)
  have hT5 := hT5.up hUd
  have ho1 := ownsRow_up ho1 hUd
  have ho2 := ownsRow_up ho2 hUd
  have ho6 := ownsRow_up ho6 hUd
  have hU7 := hU6.trans hUd
  clear hUd hU6 hT3 q0 q1 q2 q3 q4 q5 q6 q7 q8 hb3
  generalize (w6.alloc (.cells #[.int .i64 Y.k.set.ord, .int .i64 Y.k.set.lit, .int .i64 Y.k.set.most, .slice a6 Y.k.ps.length c6, .int .i64 Y.k.base, .int .i64 Y.k.last, .string (bs Y.pend), .string (bs Y.bits), .bool Y.beg] 29)) = W6 at *
  (with_reducible refine (cE _ _ _ ((RdP.of_own ho6).low (Nat.zero_le _)) ((RdP.of_own ho1).low (Nat.zero_le _))).mono ?_); rintro e w7 ⟨rfl, U7⟩
  have hT5 := hT5.up U7
  have ho2 := ownsRow_up ho2 U7
  have hU7 := hU7.trans U7
  clear U7
  obtain ⟨hb5, q0, q1, q2, q3, q4, q5, q6, q7, q8⟩ := hT5.cells
  have cH := heldWr_any Y _ _ 1 w7 (by omega) (by omega) (by omega) ho2
  unfold wrV at cH
  go_wp2_with fail
  (with_reducible refine cH.mono ?_); rintro e w8 ⟨rfl, U8⟩
  go_wp2_with fail
  go_ret
  exact ⟨rfl, hU7.trans U8⟩

set_option maxRecDepth 100000 in
theorem lifted (os : Os) (started : os.Started) (H : Type) (enc : TypeId × Value → H) :
    ReturnsInHanded {} Tryz.checked os 6 .any (fun w args => (Rows.fnExactParseWriterSpec.pre enc Tryz.prog Tryz.f6 [] false w args ∧ laidMetH Tryz.prog laid7 w) ∧ sizedMet enc Tryz.prog Tryz.f6 (OpenSpec.ofChange Rows.fnExactParseWriterSpec) false w args) (Rows.fnExactParseWriterSpec.post enc Tryz.prog Tryz.f6 false true false false) := by
  refine handed_shaped (C := Tryz.checked) (X := fun w _ => laidMetH Tryz.prog laid7 w) (fun _ _ _ hh h => h.of_heap hh) own started (by kernel_rfl) Tryz.func6
    (ChangeSpec.witness_shaped (enc := enc) (C := Tryz.checked) (os := os) (X := fun w _ => laidMetH Tryz.prog laid7 w) false (doorW7 os) #[.string ByteArray.empty] 8 (door_os7 os) (door_shapedC7 os _) (by kernel_rfl) (by kernel_rfl) (by kernel_rfl) (door_met7 os _)) ?_
  intro W base args ds gs before hval0 hW _ _ hL hSh
  have hT := lay_of_laid7 hL hSh
  have hval : ∀ (j : Nat) t v, Tryz.f6.params[j]? = some t → args[j]? = some v → Value.okWide Tryz.prog W .any base t v := hval0
  have hW' := hW
  obtain ⟨p, q, hA0, hV, rfl, hfz, hnd⟩ := hW
  have hA : DataW.TrodAll enc Tryz.prog W 0 (fun _ => true) true Tryz.f6.params.toList args.toList ds p := hA0
  rw [Tryz.params6] at hA hval
  obtain ⟨v0, d0, rfl, rfl, h0⟩ := trodAll_one hA
  obtain ⟨s, rfl, rfl, rfl, hs⟩ := open_string Tryz.underlying9 (hval 0 9 v0 rfl rfl) h0
  obtain ⟨rfl, rfl⟩ := trodVars_none hV
  refine (walk s W hT (by unfold maxLen at hs; omega)).mono fun e W' ⟨he, hu⟩ => ?_
  subst he
  exact ⟨_, rfl, post_law (f := Tryz.f6) TryzlaidOut (by kernel_rfl) rfl Tryz.underlying4 rfl hW' (fun ds' h => by subst h; exact ⟨rfl, rfl, rfl⟩) hu⟩

set_option maxHeartbeats 80000000 in
theorem closed : joinedFacts Tryz.checked.prog 6 Tryz.f6 Rows.fnExactParseWriterSpec Rows.fnExactParseWriterRow = true := by
  unfold joinedFacts
  repeat' (with_reducible refine (Bool.and_eq_true_iff.2 ⟨?_, ?_⟩))
  all_goals (as_aux_lemma => kernel_rfl)

theorem holds : Rows.FnExactParseWriterSaid :=
  OpenClaim.holds_of_wide 6 Tryz.f6 rfl rfl rfl rfl rfl rfl rfl ⟨rfl, rfl, rfl, rfl, rfl⟩ rfl rfl rfl rfl rfl (by as_aux_lemma => kernel_rfl) Tryz.func6 closed
    (of_decide_eq_true (by as_aux_lemma => kernel_rfl)) (by unfold Func.isWrapper; first | (rw [if_pos (by decide +kernel)]; kernel_rfl) | (rw [if_neg (by decide +kernel)]; exact ⟨rfl, rfl⟩))
    (fun os started H enc _ => lifted os started H enc)

theorem card_holds : Rows.FnExactParseWriterCardSaid :=
  Claim7.holds_tied_plain_at .later [] [.data, .data, .data, .data, .sentinel, .sentinel, .pinned] true (true, "478920f4a72a524dc4cc4f24a4513b462bc1b1f17c2edef022a66e93fac02896") true
    holds (fun _ h => by cases h) (by kernel_rfl) (fun _ h => by cases h) fnExactParseWriter_row_tie rfl ⟨rfl, rfl⟩ (by kernel_rfl) rfl
    (fun f fn hf hfn => by
      obtain rfl : f = 6 := Option.some.inj ((show Tryz.prog.funcNamed "loop.example/soughtstreams/laws.FnExactParseWriter" = some 6 by kernel_rfl).symm.trans hf) |>.symm
      obtain rfl : fn = Tryz.f6 := (Option.some.inj (Tryz.func6.symm.trans hfn)).symm
      exact ⟨by kernel_rfl, fun j t ht => by
        rw [Tryz.params6] at ht
        have hm : t ∈ [9] := by simpa using Array.mem_of_getElem? ht
        have hall : ([9].all fun u => !Tryz.prog.wantsStandIn u) = true := by kernel_rfl
        exact (show Tryz.prog.wantsStandIn t = false by simpa using List.all_eq_true.1 hall t hm)⟩)
    (by kernel_rfl)

end Go.Proofs.YtiiahjnfbhcgmaaGreatDoor.lawFnExactParseWriter
