/- The program's FormatWriter returns what the reference's returns, for every writer. Conditions: none. -/
import Derived.ProofKit
import Derived.OpenShut
import Derived.Stop.Joined
import Derived.Test.YtiiahjnfbhcgmaaDoorMFnExactFormatWriterLawA
import Derived.Test.YtiiahjnfbhcgmaaDoorMFnExactFormatWriterLawB
import Derived.Test.YtiiahjnfbhcgmaaDoorMFnExactFormatWriterLawC
import Derived.Test.YtiiahjnfbhcgmaaDoorMFnExactFormatWriterLawD
import Derived.Test.YtiiahjnfbhcgmaaDoorMFnExactFormatWriterLawE
import Derived.Test.YtiiahjnfbhcgmaaDoorMFnExactFormatWriterLawF
import Derived.Test.YtiiahjnfbhcgmaaDoorMFnExactFormatWriterLawG
namespace Go.Proofs.YtiiahjnfbhcgmaaDoor.lawFnExactFormatWriter
set_option linter.unusedVariables false
set_option linter.unusedSimpArgs false
open Go Go.ChangeShapes Go.WideShapes Go.ChangeAt Go.RowKit Go.Joins
open Go.ChangeMaps (open_string shut_string)

def WrT (y : WrD) (u : Value) (w : World) : Prop := ∃ v, u = wrV y v ∧ RdP 0 w v y.k.ps
theorem wrT_closed {y : WrD} : ∀ u, UpClosed (WrT y u) := fun u w w' ⟨v, h1, h2⟩ hu => ⟨v, h1, h2.up hu⟩
theorem upOut_wrT {f : FuncId} {args : Array Value} {w : World} {y : WrD} (h : Calls Tryd.prog f args w (fun e w' => ∃ v, e = .returned (wrV y v) ∧ ownPr w' w.heap.size v y.k.ps ∧ Up w w')) : upOut Tryd.prog (WrT y) w (.ok (.enter f args) w) :=
  ⟨rfl, h.mono fun e w' ⟨v, he, ho, hu⟩ => ⟨_, he, hu, v, rfl, (RdP.of_own ho).low (Nat.zero_le _)⟩⟩

set_option maxRecDepth 100000 in
set_option maxHeartbeats 8000000 in
theorem walk (x : WrD) (v : Value) (w : World) (hT : Tab w) (hr : RdP 0 w v x.k.ps) (hl : -9223372036854775808 ≤ x.k.set.lit ∧ x.k.set.lit ≤ 9223372036854775807) (hp : x.pend.length ≤ 9223372036854775807) (hb : x.bits.length ≤ 9223372036854775807) (hn : x.k.ps.length ≤ 9223372036854775807) :
    Calls Tryd.prog 4  #[wrV x v] w (Same (.bool true) w) := by
  have hrt := fun (wq : World) (hu : Up w wq) => hr.up hu
  have hsp := bs_size x.pend
  have hsb := bs_size x.bits
  obtain ⟨a, cap, rfl, -, -, -, -⟩ := id hr
  have cZ := fun wq => szWriter_any x.k.set.ord x.k.set.lit x.k.set.most x.k.base x.k.last a x.k.ps.length cap (bs x.pend) (bs x.bits) x.beg 1048576 wq hn (by omega) (by omega) (by omega) (by omega)
  by_cases h2 : szW (x.k.ps.length : Int) ((bs x.pend).size : Int) ((bs x.bits).size : Int) 1048576 < 0
  · rw [szW_no h2] at cZ
    unfold wrV
    clear h2
    go_enter Tryd.func4, Tryd.ntmps4
    go_wp2_with (first | (go_at_call 12; (with_reducible refine (cZ _).mono ?_); rintro e w1 ⟨rfl, U1⟩; have B1 := bcell U1; have Z1 := U1.size; (try simp at Z1); (try rw [Nat.add_one_le_iff] at Z1)) | fail)
    go_ret
    refine ⟨rfl, ?_⟩
    (repeat (first | with_reducible exact Up.refl _ | with_reducible assumption | with_reducible refine Up.set ?_ (by first | exact Nat.le_refl _ | (simp only []; omega) | (simp; omega)) _ | with_reducible refine Up.alloc ?_ _ | with_reducible refine Up.drew ?_ | refine Up.trans ?_ (by with_reducible assumption)))
  obtain ⟨e0, z0, z1, z2⟩ := szW_yes h2
  rw [e0] at cZ
  simp only [hsp, hsb] at cZ z1 z2
  have hn2 : x.k.ps.length ≤ 1048576 := by omega
  have hp2 : x.pend.length ≤ 1048576 := by omega
  have hb2 : x.bits.length ≤ 1048576 := by omega
  have cT := fun wq h => toWriter_any x (.slice a x.k.ps.length cap) 0 wq h hn2
  have cI : ∀ wq v, Up w wq → RdP 0 wq v x.k.ps → Calls Tryd.prog 15  #[wrV x v] wq (Same (.string (bs (fmtW x))) wq) := fun wq v hu h => fwI_any x v 0 wq (hT.up hu) hl h (by omega) (by omega) (by omega)
  have cS : ∀ wq v, RdP 0 wq v x.k.ps → Calls Tryd.prog 13  #[wrV x v] wq (Same (.string (bs (fmtW x))) wq) := fun wq v h => fwS_any x v 0 wq h (by omega) (by omega) (by omega)
  generalize fmtW x = F at *
  clear h2 e0 hT
  unfold wrV at *
  go_enter Tryd.func4, Tryd.ntmps4
  go_wp2_with (first | (go_at_call 12; (with_reducible refine (cZ _).mono ?_); rintro e w1 ⟨rfl, U1⟩; have B1 := bcell U1; have Z1 := U1.size; (try simp at Z1); (try rw [Nat.add_one_le_iff] at Z1)) | fail)
  have hX := show w1.heap[w.heap.size]? = some _ from box_up U1 (MapKept.heap_alloc w _).1
  have hU1 : Up w w1 := by (repeat (first | with_reducible exact Up.refl _ | with_reducible assumption | with_reducible refine Up.set ?_ (by first | exact Nat.le_refl _ | (simp only []; omega) | (simp; omega)) _ | with_reducible refine Up.alloc ?_ _ | with_reducible refine Up.drew ?_ | refine Up.trans ?_ (by with_reducible assumption)))
  clear U1 B1 cZ
  (with_reducible refine (cT _ (hrt _ hU1)).mono ?_); rintro e w2 ⟨v2, rfl, ho2, U2⟩
  obtain ⟨a2, c2, rfl⟩ := ownsRow_shape ho2
  go_wp2_with fail
  have hr2 := (RdP.of_own ho2).low (Nat.zero_le _)
  (with_reducible refine (cS _ _ hr2).mono ?_); rintro e w3 ⟨rfl, U3⟩
  have hU3 := (hU1.trans U2).trans U3
  have hX3 := box_up (U2.trans U3) hX
  have k0 := box_cell hX3 0; have k1 := box_cell hX3 1; have k2 := box_cell hX3 2; have k3 := box_cell hX3 3; have k4 := box_cell hX3 4; have k5 := box_cell hX3 5; have k6 := box_cell hX3 6; have k7 := box_cell hX3 7; have k8 := box_cell hX3 8
  simp at k0 k1 k2 k3 k4 k5 k6 k7 k8
  have hw3 := hU3.size
  have hb3 : w.heap.size < w3.heap.size := by have h := (Array.getElem?_eq_some_iff.1 hX3).1; exact h
  clear U2 ho2 hr2 hX
  go_wp2_with fail
  (with_reducible refine (cT _ (hrt _ hU3)).mono ?_); rintro e w4 ⟨v4, rfl, ho4, U4⟩
  obtain ⟨a4, c4, rfl⟩ := ownsRow_shape ho4
  have hX4 := box_up U4 hX3
  have hU4 := hU3.trans U4
  clear k0 k1 k2 k3 k4 k5 k6 k7 k8 hX3 hU3 U4
  go_wp2_with fail
  have hUa := (Up.refl w4).alloc (.cells #[.int .i64 x.k.set.ord, .int .i64 x.k.set.lit, .int .i64 x.k.set.most, .slice a4 x.k.ps.length c4, .int .i64 x.k.base, .int .i64 x.k.last, .string (bs x.pend), .string (bs x.bits), .bool x.beg] 43)
  have hT6 : WrAt w4.heap.size x (.slice a4 x.k.ps.length c4) (w4.alloc (.cells #[.int .i64 x.k.set.ord, .int .i64 x.k.set.lit, .int .i64 x.k.set.most, .slice a4 x.k.ps.length c4, .int .i64 x.k.base, .int .i64 x.k.last, .string (bs x.pend), .string (bs x.bits), .bool x.beg] 43)) := (MapKept.heap_alloc w4 _).1
  have hU5 := hU4.trans hUa
  have ho5 := ownsRow_up ho4 hUa
  have hX5 := box_up hUa hX4
  clear hUa hX4 hU4 ho4
  generalize w4.alloc (.cells #[.int .i64 x.k.set.ord, .int .i64 x.k.set.lit, .int .i64 x.k.set.most, .slice a4 x.k.ps.length c4, .int .i64 x.k.base, .int .i64 x.k.last, .string (bs x.pend), .string (bs x.bits), .bool x.beg] 43) = W5 at *
  have hr5 : RdP 0 W5 (.slice a4 x.k.ps.length c4) x.k.ps := (RdP.of_own ho5).low (Nat.zero_le _)
  (with_reducible refine (cI _ _ hU5 hr5).mono ?_); rintro e w7 ⟨rfl, U7⟩
  have hT9 := hT6.up U7
  have hX9 := box_up U7 hX5
  have hU9 := hU5.trans U7
  have hr9 := hr5.up U7
  clear hT6 hX5 hU5 U7 ho5 hr5
  go_wp2_with fail
  have cEx := fun wq v v' h h' => eqWriter_same x v v' 0 0 wq h h'
  unfold wrV at cEx
  refine wp_region_up 5 (by kernel_rfl) (by kernel_rfl) ?_
  simp only [List.take, List.drop]
  repeat (refine wpUp_step (fun K hK => ?_); go_simp; (try simp only [↓IntWalk.iteOmega]); first
    | (refine hK _ _ ?_; clear hK K)
    | (apply stepU_c
       · intro wq hwq; (have hbq := bcell hwq; (repeat (first | refine fills_no (by rfl) ?_ | refine fills_yes (by rfl) (fun vq hvq => ?_))); simp only [List.filter_nil, fills]; unfold upAt; (try (((try (obtain ⟨v', rfl, hv'⟩ := hvq; unfold wrV)); obtain ⟨-, q0, q1, q2, q3, q4, q5, q6, q7, q8⟩ := (hT9.up hwq).cells; have hXq := box_up hwq hX9; have k0 := box_cell hXq 0; have k1 := box_cell hXq 1; have k2 := box_cell hXq 2; have k3 := box_cell hXq 3; have k4 := box_cell hXq 4; have k5 := box_cell hXq 5; have k6 := box_cell hXq 6; have k7 := box_cell hXq 7; have k8 := box_cell hXq 8; simp at k0 k1 k2 k3 k4 k5 k6 k7 k8))); go_simp; (try go_bits); (try simp only [↓IntWalk.iteOmega]); (try (rw [dif_pos (by omega)]; go_simp; try go_bits)); first | exact upOut_value | (apply upOut_call; (go_at_call 16; with_reducible exact cEx _ _ _ (hr9.up hwq) hv')) | (apply upOut_eq; (go_at_call 16; with_reducible exact cEx _ _ _ (hr9.up hwq) hv')))
       go_simp; refine hK _ _ ?_; clear hK K)
    | (refine stepU_m (by kernel_rfl) (WrT x) (wrT_closed) (fun wq hwq => ?_) ?_
       · (have hbq := bcell hwq; (repeat (first | refine fills_no (by rfl) ?_ | refine fills_yes (by rfl) (fun vq hvq => ?_))); simp only [List.filter_nil, fills]; unfold upAt; (try (((try (obtain ⟨v', rfl, hv'⟩ := hvq; unfold wrV)); obtain ⟨-, q0, q1, q2, q3, q4, q5, q6, q7, q8⟩ := (hT9.up hwq).cells; have hXq := box_up hwq hX9; have k0 := box_cell hXq 0; have k1 := box_cell hXq 1; have k2 := box_cell hXq 2; have k3 := box_cell hXq 3; have k4 := box_cell hXq 4; have k5 := box_cell hXq 5; have k6 := box_cell hXq 6; have k7 := box_cell hXq 7; have k8 := box_cell hXq 8; simp at k0 k1 k2 k3 k4 k5 k6 k7 k8))); go_simp; (try go_bits); (try simp only [↓IntWalk.iteOmega]); (try (rw [dif_pos (by omega)]; go_simp; try go_bits)); ((with_reducible refine upOut_wrT ?_); go_at_call 14; exact cT _ (hrt _ (hU9.trans hwq))))
       refine hK _ _ ?_; clear hK K))
  refine wpUp_nil (fun wq hwq => ?_)
  simp only [fills]
  rintro u60 ⟨vz, rfl, -⟩
  go_wp2
  go_ret
  exact ⟨rfl, hU9.trans hwq⟩

set_option maxRecDepth 100000 in
theorem lifted (os : Os) (started : os.Started) (H : Type) (enc : TypeId × Value → H) :
    ReturnsInHanded {} Tryd.checked os 4 .any (fun w args => (Rows.fnExactFormatWriterSpec.pre enc Tryd.prog Tryd.f4 [] false w args ∧ laidMetH Tryd.prog laid3 w) ∧ sizedMet enc Tryd.prog Tryd.f4 (OpenSpec.ofChange Rows.fnExactFormatWriterSpec) false w args) (Rows.fnExactFormatWriterSpec.post enc Tryd.prog Tryd.f4 false true false false) := by
  refine returnsInHanded_of_change_and (C := Tryd.checked) (X := fun w _ => laidMetH Tryd.prog laid3 w) (fun _ _ _ hh h => h.of_heap hh) own started (by kernel_rfl) Tryd.func4
    (ChangeSpec.witness_shaped (enc := enc) (C := Tryd.checked) (os := os) (X := fun w _ => laidMetH Tryd.prog laid3 w) false (World.doorLaid Tryd.prog 72 os) #[.agg #[.int .i64 0, .int .i64 0, .int .i64 0, .slice none 0 0, .int .i64 0, .int .i64 0, .string ByteArray.empty, .string ByteArray.empty, .bool false]] 8 rfl (World.shaped_of_RefB (by kernel_rfl) (by kernel_rfl)) (by kernel_rfl) (by kernel_rfl) (by kernel_rfl) (door_met3 os _)) ?_
  intro W base args ds gs before hval0 hW _ _ hL _
  have hT := tab_of_laid3 hL
  have hval : ∀ (j : Nat) t v, Tryd.f4.params[j]? = some t → args[j]? = some v → Value.okWide Tryd.prog W .any base t v := hval0
  have hW' := hW
  obtain ⟨p, q, hA0, hV, rfl, hfz, hnd⟩ := hW
  have hA : DataW.TrodAll enc Tryd.prog W 0 (fun _ => true) true Tryd.f4.params.toList args.toList ds p := hA0
  rw [Tryd.params4] at hA hval
  obtain ⟨v0, d0, rfl, rfl, h0⟩ := trodAll_one hA
  obtain ⟨p0, rfl⟩ : ∃ x, x = p := ⟨_, rfl⟩
  have hlt0 : ∀ x ∈ p0, x.block < W.heap.size := fun x hx => by simpa using hW'.lt x (by simp [hx])
  obtain ⟨x, ux, rfl, rx, lx, px, bx, nx⟩ := open_writer (hval 0 35 v0 rfl rfl) h0 hlt0
  obtain ⟨rfl, rfl⟩ := trodVars_none hV
  refine (walk x ux W hT rx lx (by unfold maxLen at px; exact px) (by unfold maxLen at bx; exact bx) (by unfold maxLen at nx; exact nx)).mono fun e W' ⟨he, hu⟩ => ?_
  subst he
  exact ⟨_, rfl, post_law (f := Tryd.f4) TrydlaidOut (by kernel_rfl) rfl Tryd.underlying4 rfl hW' (fun ds' h => by subst h; exact ⟨rfl, rfl, rfl⟩) hu⟩

set_option maxHeartbeats 80000000 in
theorem closed : joinedFacts Tryd.checked.prog 4 Tryd.f4 Rows.fnExactFormatWriterSpec Rows.fnExactFormatWriterRow = true := by
  unfold joinedFacts
  repeat' (with_reducible refine (Bool.and_eq_true_iff.2 ⟨?_, ?_⟩))
  all_goals (as_aux_lemma => kernel_rfl)

theorem holds : Rows.FnExactFormatWriterSaid :=
  OpenClaim.holds_of_wide 4 Tryd.f4 rfl rfl rfl rfl rfl rfl rfl ⟨rfl, rfl, rfl, rfl, rfl⟩ rfl rfl rfl rfl rfl (by as_aux_lemma => kernel_rfl) Tryd.func4 closed
    (of_decide_eq_true (by as_aux_lemma => kernel_rfl)) (by unfold Func.isWrapper; first | (rw [if_pos (by decide +kernel)]; kernel_rfl) | (rw [if_neg (by decide +kernel)]; exact ⟨rfl, rfl⟩))
    (fun os started H enc _ => lifted os started H enc)

theorem card_holds : Rows.FnExactFormatWriterCardSaid :=
  Claim7.holds_tied_plain_at .later [] [.data, .data, .data] true (true, "ef99d20b69770f7f12fcad25f224973bc9b37faf167913b5c0314ac22bab7c6c") true
    holds (fun _ h => by cases h) (by kernel_rfl) (fun _ h => by cases h) fnExactFormatWriter_row_tie rfl ⟨rfl, rfl⟩ (by kernel_rfl) rfl
    (fun f fn hf hfn => by
      obtain rfl : f = 4 := Option.some.inj ((show Tryd.prog.funcNamed "loop.example/soughtstreams/laws.FnExactFormatWriter" = some 4 by kernel_rfl).symm.trans hf) |>.symm
      obtain rfl : fn = Tryd.f4 := (Option.some.inj (Tryd.func4.symm.trans hfn)).symm
      exact ⟨by kernel_rfl, fun j t ht => by
        rw [Tryd.params4] at ht
        have hm : t ∈ [35] := by simpa using Array.mem_of_getElem? ht
        have hall : ([35].all fun u => !Tryd.prog.wantsStandIn u) = true := by kernel_rfl
        exact (show Tryd.prog.wantsStandIn t = false by simpa using List.all_eq_true.1 hall t hm)⟩)
    (by kernel_rfl)

end Go.Proofs.YtiiahjnfbhcgmaaDoor.lawFnExactFormatWriter
