/- Texts joined into one: the walks and laws that the last text leans on. Conditions: as each says. -/
import Derived.Test.YtiiahjnfbhcgmaaGreatDoorMFnExactParseWriterLawC
import Derived.LaidLaws
import Derived.ProofKit
import Derived.ShapedOpen
import Derived.Test.YtiiahjnfbhcgmaaGreatDoorMFnExactParseWriterLawD
import Derived.Shelf.Vars
import Derived.Stop.LaidErr
import Derived.Test.YtiiahjnfbhcgmaaGreatDoorMFnExactParseWriterLawG
import Derived.Test.YtiiahjnfbhcgmaaGreatDoorStep
import Derived.Test.YtiiahjnfbhcgmaaGreatDoorMFnExactParseWriterLawB
import Derived.Test.YtiiahjnfbhcgmaaGreatDoorPack

set_option linter.unusedVariables false
set_option linter.unusedSimpArgs false
/- As Door, for the rows that list seven variables, the pinned table unicode/utf8.first among them: the witness's world is the door's with that table laid in. Conditions: none. -/
namespace Go.Proofs.YtiiahjnfbhcgmaaGreatDoor
set_option linter.unusedVariables false
open Go

abbrev laid7 : List (String × DataW Unit) := [("math/bits.deBruijn32tab", Rows.laid_math_bits_deBruijn32tab), ("math/bits.deBruijn64tab", Rows.laid_math_bits_deBruijn64tab), ("internal/strconv.uint64pow10", Rows.laid_internal_strconv_uint64pow10), ("unicode/utf8.acceptRanges", Rows.laid_unicode_utf8_acceptRanges), ("strconv.ErrRange", Rows.laid_strconv_ErrRange), ("strconv.ErrSyntax", Rows.laid_strconv_ErrSyntax), ("unicode/utf8.first", Rows.laid_unicode_utf8_first)]
/-- The cells of a list of bytes as a datum. -/
def datCells : DataW Unit → Array Value
  | .agg l => (l.map fun d => match d with | .lit (.int k z) => Value.int k z | _ => .int .u8 0).toArray
  | _ => #[]
noncomputable def doorW7 (os : Os) : World := { World.doorLaid Tryz.prog 72 os with heap := (World.doorLaid Tryz.prog 72 os).heap.modify 4 (fun o => match o with | .cells _ t r => .cells (datCells Rows.laid_unicode_utf8_first) t r | o => o) }
set_option maxRecDepth 100000 in
theorem door_met7 (os : Os) (args : Array Value) : laidMetH Tryz.prog laid7 ((doorW7 os).forCall (fun _ _ => 0) ⟨#[], args, []⟩).memory :=
  laidMetH_of_parts3 (fuel := 8) (laidMet_of_run' 8 (by kernel_rfl) (by kernel_rfl)) (by kernel_rfl) (by kernel_rfl)
theorem door_os7 (os : Os) : (doorW7 os).os = os := by
  unfold doorW7 World.doorLaid
  rfl
set_option maxRecDepth 100000 in
theorem door_shapedC7 (os : Os) (args : Array Value) : ((doorW7 os).forCall (fun _ _ => 0) ⟨#[], args, []⟩).Shaped Tryz.prog := World.shaped_of_RefB (by kernel_rfl) (by kernel_rfl)
theorem tab_of_laid7 {W : World} (h : laidMetH Tryz.prog laid7 W) : Tab W := by
  rw [MakeChecks.laidMetH_plain _ _ _ (by kernel_rfl)] at h
  have h2 := h.tail.tail
  rw [pow10_data] at h2
  exact Lib.tabIs_of_head (g := 1) (t := 220) (e := 203) (n := 20) (by kernel_rfl) (by kernel_rfl) Tryz.underlying220 Tryz.underlying203 (by kernel_rfl) (by kernel_rfl) h2

section
variable {H : Type} {enc : TypeId × Value → H}
/-- A listed row's lift, whose contract is told besides that the world has its shape. -/
theorem handed_shaped {a : Assume} {C : Checked} {os : Os} {f : FuncId} {fn : Func} {s : ChangeSpec} {conds : List PathCond} {apart fresh handsOn again : Bool} {X : World → Array Value → Prop}
    (hX : ∀ (w w' : World) (args : Array Value), w.heap = w'.heap → X w args → X w' args)
    (own : ownKnob C.prog.godebug = none) (started : os.Started) (noInit : C.prog.inits.idxOf? f = none) (hfn : C.prog.funcs[f]? = some fn)
    (witness : ∃ (w : World) (tape : Tape) (i : Input), w.os = os ∧ (w.forCall tape i).Shaped C.prog ∧ i.vars = [] ∧ Input.okWide C.prog (w.forCall tape i) .any w.heap.size f i ∧
      ((s.pre enc C.prog fn conds apart (w.forCall tape i).memory i.args ∧ X (w.forCall tape i).memory i.args) ∧ sizedMet enc C.prog fn (OpenSpec.ofChange s) apart (w.forCall tape i).memory i.args) ∧ a.holds C.prog (lone (Frame.enter C.prog f i.args .normal) [] (w.forCall tape i)))
    (contract : ∀ (W : World) (base : Nat) (args : Array Value) (ds gs : List (DataW H)) (before : List MemPlace),
      (∀ (j : Nat) t v, fn.params[j]? = some t → args[j]? = some v → Value.okWide C.prog W .any base t v) →
      DataW.Whole enc C.prog fn.params.toList s.vars apart W args.toList ds gs before →
      conds.all (PathCond.test C.prog ⟨fn.params.toList, ds, s.plain.varTypes C.prog, gs⟩) = true →
      (DataW.weightsEach C.prog (fn.params.toList ++ s.plain.varTypes C.prog) (ds ++ gs)).all (· ≤ reachBytes) = true → X W args → W.ShapedOpen C.prog →
      Calls C.prog f args W fun e W' => ∃ v, e = .returned v ∧ s.post enc C.prog fn apart fresh handsOn again W args v W') :
    ReturnsInHanded a C os f .any (fun w args => (s.pre enc C.prog fn conds apart w args ∧ X w args) ∧ sizedMet enc C.prog fn (OpenSpec.ofChange s) apart w args) (s.post enc C.prog fn apart fresh handsOn again) := by
  refine returnsInHanded_of_calls own started noInit witness ?_
  intro w tape i _ hsh _ hok hpre hholds
  obtain ⟨_, _, _, fn', hfn', _, _, _, _, hval⟩ := hok
  have e : fn' = fn := Option.some.inj (hfn'.symm.trans hfn)
  subst e
  obtain ⟨⟨⟨ds, gs, before, hw, hc⟩, hx⟩, hz⟩ := hpre
  have hw' := DataW.Whole.of_heap (w' := w.forCall tape i) (by rfl) hw
  refine (contract (w.forCall tape i) w.heap.size i.args ds gs before hval hw' hc (hz.weights hw) (hX _ _ _ (by rfl) hx) hsh).mono fun e W' ⟨v, he, hp⟩ => ?_
  subst he
  exact ChangeSpec.post_blind hp
end

end Go.Proofs.YtiiahjnfbhcgmaaGreatDoor

/- What the seven listed variables give the parsing walks. Conditions: none. -/
namespace Go.Proofs.YtiiahjnfbhcgmaaGreatDoor
set_option linter.unusedVariables false
open Go Go.Shelf

set_option maxRecDepth 100000 in
theorem max_of_shape {W : World} (hs : W.ShapedOpen Tryz.prog) : ∃ m, W.cell? ⟨0, 0, none⟩ = some (.int .i64 m) :=
  cell_of_shapedOpen_int (t := 3) (zero := #[.int .i64 0]) hs (of_decide_eq_true (by kernel_rfl)) (by kernel_rfl) rfl (by kernel_rfl) (by kernel_rfl) Tryz.underlying3

theorem star_es : "*" ++ "errors.errorString" = "*errors.errorString" := by decide
theorem row_es (u : TypeId) (h : Tryz.prog.typeName? 3 u = some "*errors.errorString") : u = 235 :=
  typeName_ptr_named (nm := "errors.errorString") (by rw [star_es]; kernel_rfl) (by kernel_rfl) (by decide) u (by rw [star_es]; exact h)
set_option maxRecDepth 100000 in
theorem lay_of_laid7 {W : World} (h : laidMetH Tryz.prog laid7 W) (hs : W.ShapedOpen Tryz.prog) : Lay W := by
  have hT := tab_of_laid7 h
  rw [MakeChecks.laidMetH_plain _ _ _ (by kernel_rfl)] at h
  have h4 := h.tail.tail.tail.tail
  obtain ⟨a1, s1, hv1, -⟩ := laid_sentinel h4 (g := 3) (by kernel_rfl) (by kernel_rfl) Tryz.underlying114 row_es Tryz.underlying235 Tryz.underlying237 rfl rfl Tryz.underlying9 (by kernel_rfl) (by kernel_rfl)
  obtain ⟨a2, s2, hv2, -⟩ := laid_sentinel h4.tail (g := 2) (by kernel_rfl) (by kernel_rfl) Tryz.underlying114 row_es Tryz.underlying235 Tryz.underlying237 rfl rfl Tryz.underlying9 (by kernel_rfl) (by kernel_rfl)
  refine ⟨hT, max_of_shape hs, ⟨235, .pointer (some a2), ?_⟩, ⟨235, .pointer (some a1), ?_⟩⟩
  · have := World.var?_cell (show Tryz.prog.globalNamed "strconv.ErrSyntax" = some 2 by kernel_rfl) hv2 0
    simpa using this
  · have := World.var?_cell (show Tryz.prog.globalNamed "strconv.ErrRange" = some 3 by kernel_rfl) hv1 0
    simpa using this

end Go.Proofs.YtiiahjnfbhcgmaaGreatDoor

/- Walks of the reference's l3Put, l3Begin, l3Write. Conditions: what is known is valid, the pairs can be read, the code can be written. -/
namespace Go.Proofs.YtiiahjnfbhcgmaaGreatDoor
set_option linter.unusedVariables false
set_option linter.unusedSimpArgs false
open Go Go.RowKit

/-- The loop of l3Write: the writer lies in block ob. -/
structure LwAt (T : List UInt8 × KnD × List UInt8) (s : SetD) (v0 : Value) (ps0 : List PairD) (w : World) (ob m : Nat) (k : KnD) (d b : List UInt8) (v : Value) (wr : World) : Prop where
  dat : WlD T s m k d b
  box : WrAt ob ⟨k, d, b, true⟩ v wr
  res : WrAt (w.heap.size + 1) wr0 (.slice none 0 0) wr
  up : Up w wr
  pr : (v = v0 ∧ k.ps = ps0) ∨ ownPr wr w.heap.size v k.ps
end Go.Proofs.YtiiahjnfbhcgmaaGreatDoor

/- Walks of the laws' eqPair, eqPairS, eqKnown, eqWriter at values that are the same, and of szPairS, szKnown, szWriter. Conditions: the pairs can be read. -/
namespace Go.Proofs.YtiiahjnfbhcgmaaGreatDoor
set_option linter.unusedVariables false
set_option linter.unusedSimpArgs false
open Go Go.RowKit

set_option maxRecDepth 100000 in
set_option maxHeartbeats 1000000 in
theorem eqPair_same (x y : Int) (w : World) :
    Calls Tryz.prog 195  #[.agg #[.int .i64 x, .int .i64 y], .agg #[.int .i64 x, .int .i64 y]] w (Same (.bool true) w) := by
  go_enter Tryz.func195, Tryz.ntmps195
  go_wp2
  go_ret
  refine ⟨rfl, ?_⟩
  (repeat (first | with_reducible exact Up.refl _ | with_reducible assumption | with_reducible refine Up.set ?_ (by first | exact Nat.le_refl _ | (simp only []; omega) | (simp; omega)) _ | with_reducible refine Up.alloc ?_ _ | with_reducible refine Up.drew ?_ | refine Up.trans ?_ (by with_reducible assumption)))
set_option maxRecDepth 100000 in
set_option maxHeartbeats 1000000 in
theorem eqSet_same (o l m : Int) (w : World) :
    Calls Tryz.prog 161  #[.agg #[.int .i64 o, .int .i64 l, .int .i64 m], .agg #[.int .i64 o, .int .i64 l, .int .i64 m]] w (Same (.bool true) w) := by
  go_enter Tryz.func161, Tryz.ntmps161
  go_wp2
  go_ret
  refine ⟨rfl, ?_⟩
  (repeat (first | with_reducible exact Up.refl _ | with_reducible assumption | with_reducible refine Up.set ?_ (by first | exact Nat.le_refl _ | (simp only []; omega) | (simp; omega)) _ | with_reducible refine Up.alloc ?_ _ | with_reducible refine Up.drew ?_ | refine Up.trans ?_ (by with_reducible assumption)))

def RelEp (n : Nat) (w : World) (i : Value) (wr : World) : Prop := ∃ j : Nat, j ≤ n ∧ i = .int .i64 j ∧ Up w wr

set_option maxRecDepth 100000 in
set_option maxHeartbeats 4000000 in
theorem eqPairS_same (v v' : Value) (ps : List PairD) (lo lo' : Nat) (w : World) (hr : RdP lo w v ps) (hr' : RdP lo' w v' ps) :
    Calls Tryz.prog 162  #[v, v'] w (Same (.bool true) w) := by
  obtain ⟨a, cap, rfl, hc1, hc2, hc3, hsome⟩ := hr
  obtain ⟨a', cap', rfl, hc1', hc2', hc3', hsome'⟩ := hr'
  unfold maxLen at hc2 hc2'
  go_enter Tryz.func162, Tryz.ntmps162
  go_wp2_with fail
  go_loopw [5] (fun i wr => RelEp ps.length w i wr) (fun i _ => ps.length - (intOf i).toNat)
  case atStart => exact ⟨0, Nat.zero_le _, rfl, Up.refl _⟩
  case round =>
    obtain ⟨j, hj, rfl, hup⟩ := hrel
    by_cases hlt : j < ps.length
    · obtain ⟨b, off, rfl, hlo, hbl, hcells⟩ := hsome (by omega)
      obtain ⟨b', off', rfl, hlo', hbl', hcells'⟩ := hsome' (by omega)
      obtain ⟨q0, q1⟩ := hcells j ps[j] (List.getElem?_eq_getElem hlt)
      obtain ⟨t0, t1⟩ := hcells' j ps[j] (List.getElem?_eq_getElem hlt)
      clear hcells hcells'
      have p0 := (hup.cell (p := ⟨b, off + j * 2, none⟩) hbl).trans q0
      have p1 := (hup.cell (p := ⟨b, off + j * 2 + 1, none⟩) hbl).trans q1
      have u0 := (hup.cell (p := ⟨b', off' + j * 2, none⟩) hbl').trans t0
      have u1 := (hup.cell (p := ⟨b', off' + j * 2 + 1, none⟩) hbl').trans t1
      have hbw : b < wr.heap.size := Nat.lt_of_lt_of_le hbl hup.size
      have hbw' : b' < wr.heap.size := Nat.lt_of_lt_of_le hbl' hup.size
      have cE := fun wq => eqPair_same ps[j].pre ps[j].byt wq
      go_wp2_with fail
      refine wp_region_up 10 (by kernel_rfl) (by kernel_rfl) ?_
      simp only [List.take, List.drop]
      repeat (refine wpUp_step (fun K hK => ?_); go_simp; (try simp only [↓IntWalk.iteOmega]); first
        | (refine hK _ _ ?_; clear hK K)
        | (apply stepU_c
           · intro wq hwq; (have hbq := bcell hwq; (repeat (first | refine fills_no (by rfl) ?_ | refine fills_yes (by rfl) (fun vq hvq => ?_))); simp only [List.filter_nil, fills]; unfold upAt; go_simp; (try go_bits); (try simp only [↓IntWalk.iteOmega]); (try (rw [dif_pos (by omega)]; go_simp; try go_bits)); first | exact upOut_value | (apply upOut_call; (go_at_call 195; exact cE _)) | (apply upOut_eq; (go_at_call 195; exact cE _)))
           go_simp; refine hK _ _ ?_; clear hK K))
      refine wpUp_nil (fun wq hwq => ?_)
      simp only [fills]
      go_wp2_with fail
      go_roundw
      case rel => exact ⟨j + 1, by omega, by go_num, by (repeat (first | with_reducible exact Up.refl _ | with_reducible assumption | with_reducible refine Up.set ?_ (by first | exact Nat.le_refl _ | (simp only []; omega) | (simp; omega)) _ | with_reducible refine Up.alloc ?_ _ | with_reducible refine Up.drew ?_ | refine Up.trans ?_ (by with_reducible assumption)))⟩
      case measure => simp [intOf]; omega
    · have e : j = ps.length := by omega
      subst e
      go_wp2_with fail
      go_ret
      exact ⟨rfl, hup⟩

set_option maxRecDepth 100000 in
set_option maxHeartbeats 4000000 in
theorem eqKnown_same (k : KnD) (v v' : Value) (lo lo' : Nat) (w : World) (hr : RdP lo w v k.ps) (hr' : RdP lo' w v' k.ps) :
    Calls Tryz.prog 97  #[kV k v, kV k v'] w (Same (.bool true) w) := by
  have cS := fun wq => eqSet_same k.set.ord k.set.lit k.set.most wq
  have cP := fun wq h1 h2 => eqPairS_same v v' k.ps lo lo' wq h1 h2
  have hrt := fun (wq : World) (hu : Up w wq) => hr.up hu
  have hrt' := fun (wq : World) (hu : Up w wq) => hr'.up hu
  obtain ⟨a, cap, rfl, -⟩ := id hr
  obtain ⟨a', cap', rfl, -⟩ := id hr'
  clear hr hr'
  have hX0 : KnAt w.heap.size k (.slice a k.ps.length cap) ((w.alloc (.cells #[.int .i64 k.set.ord, .int .i64 k.set.lit, .int .i64 k.set.most, .slice a k.ps.length cap, .int .i64 k.base, .int .i64 k.last] 27)).alloc (.cells #[.int .i64 k.set.ord, .int .i64 k.set.lit, .int .i64 k.set.most, .slice a' k.ps.length cap', .int .i64 k.base, .int .i64 k.last] 27)) := box_up ((Up.refl _).alloc _) (MapKept.heap_alloc w _).1
  have hX1 : KnAt (w.heap.size + 1) k (.slice a' k.ps.length cap') ((w.alloc (.cells #[.int .i64 k.set.ord, .int .i64 k.set.lit, .int .i64 k.set.most, .slice a k.ps.length cap, .int .i64 k.base, .int .i64 k.last] 27)).alloc (.cells #[.int .i64 k.set.ord, .int .i64 k.set.lit, .int .i64 k.set.most, .slice a' k.ps.length cap', .int .i64 k.base, .int .i64 k.last] 27)) := alloc2 w _ _
  simp only [kV]
  go_enter Tryz.func97, Tryz.ntmps97
  go_wp2_with (first | ((go_at_call 161; (with_reducible refine (cS _).mono ?_); rintro e w1 ⟨rfl, U1⟩; have B1 := bcell U1; have Z1 := U1.size; (try simp at Z1); (try rw [Nat.add_one_le_iff] at Z1)); obtain ⟨b0, r0, r1, r2, r3, r4, r5⟩ := KnAt.cells (box_up U1 hX0); obtain ⟨b1, s0, s1, s2, s3, s4, s5⟩ := KnAt.cells (box_up U1 hX1)) | ((go_at_call 162; (with_reducible refine (cP _ (hrt _ (by (repeat (first | with_reducible exact Up.refl _ | with_reducible assumption | with_reducible refine Up.set ?_ (by first | exact Nat.le_refl _ | (simp only []; omega) | (simp; omega)) _ | with_reducible refine Up.alloc ?_ _ | with_reducible refine Up.drew ?_ | refine Up.trans ?_ (by with_reducible assumption))))) (hrt' _ (by (repeat (first | with_reducible exact Up.refl _ | with_reducible assumption | with_reducible refine Up.set ?_ (by first | exact Nat.le_refl _ | (simp only []; omega) | (simp; omega)) _ | with_reducible refine Up.alloc ?_ _ | with_reducible refine Up.drew ?_ | refine Up.trans ?_ (by with_reducible assumption)))))).mono ?_); rintro e w2 ⟨rfl, U2⟩; have B2 := bcell U2; have Z2 := U2.size; (try simp at Z2); (try rw [Nat.add_one_le_iff] at Z2)); obtain ⟨b0, r0, r1, r2, r3, r4, r5⟩ := KnAt.cells (box_up (U1.trans U2) hX0); obtain ⟨b1, s0, s1, s2, s3, s4, s5⟩ := KnAt.cells (box_up (U1.trans U2) hX1)) | fail)
  go_ret
  refine ⟨rfl, ?_⟩
  (repeat (first | with_reducible exact Up.refl _ | with_reducible assumption | with_reducible refine Up.set ?_ (by first | exact Nat.le_refl _ | (simp only []; omega) | (simp; omega)) _ | with_reducible refine Up.alloc ?_ _ | with_reducible refine Up.drew ?_ | refine Up.trans ?_ (by with_reducible assumption)))

set_option maxRecDepth 100000 in
set_option maxHeartbeats 4000000 in
theorem eqWriter_same (x : WrD) (v v' : Value) (lo lo' : Nat) (w : World) (hr : RdP lo w v x.k.ps) (hr' : RdP lo' w v' x.k.ps) :
    Calls Tryz.prog 30  #[wrV x v, wrV x v'] w (Same (.bool true) w) := by
  have cK := fun wq h1 h2 => eqKnown_same x.k v v' lo lo' wq h1 h2
  have hrt := fun (wq : World) (hu : Up w wq) => hr.up hu
  have hrt' := fun (wq : World) (hu : Up w wq) => hr'.up hu
  obtain ⟨a, cap, rfl, -⟩ := id hr
  obtain ⟨a', cap', rfl, -⟩ := id hr'
  clear hr hr'
  have hX0 : WrAt w.heap.size x (.slice a x.k.ps.length cap) ((w.alloc (.cells #[.int .i64 x.k.set.ord, .int .i64 x.k.set.lit, .int .i64 x.k.set.most, .slice a x.k.ps.length cap, .int .i64 x.k.base, .int .i64 x.k.last, .string (bs x.pend), .string (bs x.bits), .bool x.beg] 29)).alloc (.cells #[.int .i64 x.k.set.ord, .int .i64 x.k.set.lit, .int .i64 x.k.set.most, .slice a' x.k.ps.length cap', .int .i64 x.k.base, .int .i64 x.k.last, .string (bs x.pend), .string (bs x.bits), .bool x.beg] 29)) := box_up ((Up.refl _).alloc _) (MapKept.heap_alloc w _).1
  have hX1 : WrAt (w.heap.size + 1) x (.slice a' x.k.ps.length cap') ((w.alloc (.cells #[.int .i64 x.k.set.ord, .int .i64 x.k.set.lit, .int .i64 x.k.set.most, .slice a x.k.ps.length cap, .int .i64 x.k.base, .int .i64 x.k.last, .string (bs x.pend), .string (bs x.bits), .bool x.beg] 29)).alloc (.cells #[.int .i64 x.k.set.ord, .int .i64 x.k.set.lit, .int .i64 x.k.set.most, .slice a' x.k.ps.length cap', .int .i64 x.k.base, .int .i64 x.k.last, .string (bs x.pend), .string (bs x.bits), .bool x.beg] 29)) := alloc2 w _ _
  unfold wrV
  simp only [kV] at cK
  go_enter Tryz.func30, Tryz.ntmps30
  go_wp2_with (first | ((go_at_call 97; (with_reducible refine (cK _ (hrt _ (by (repeat (first | with_reducible exact Up.refl _ | with_reducible assumption | with_reducible refine Up.set ?_ (by first | exact Nat.le_refl _ | (simp only []; omega) | (simp; omega)) _ | with_reducible refine Up.alloc ?_ _ | with_reducible refine Up.drew ?_ | refine Up.trans ?_ (by with_reducible assumption))))) (hrt' _ (by (repeat (first | with_reducible exact Up.refl _ | with_reducible assumption | with_reducible refine Up.set ?_ (by first | exact Nat.le_refl _ | (simp only []; omega) | (simp; omega)) _ | with_reducible refine Up.alloc ?_ _ | with_reducible refine Up.drew ?_ | refine Up.trans ?_ (by with_reducible assumption)))))).mono ?_); rintro e w1 ⟨rfl, U1⟩; have B1 := bcell U1; have Z1 := U1.size; (try simp at Z1); (try rw [Nat.add_one_le_iff] at Z1)); obtain ⟨b0, r0, r1, r2, r3, r4, r5, r6, r7, r8⟩ := (hX0.up U1).cells; obtain ⟨b1, s0, s1, s2, s3, s4, s5, s6, s7, s8⟩ := (hX1.up U1).cells) | fail)
  go_ret
  refine ⟨rfl, ?_⟩
  (repeat (first | with_reducible exact Up.refl _ | with_reducible assumption | with_reducible refine Up.set ?_ (by first | exact Nat.le_refl _ | (simp only []; omega) | (simp; omega)) _ | with_reducible refine Up.alloc ?_ _ | with_reducible refine Up.drew ?_ | refine Up.trans ?_ (by with_reducible assumption)))

end Go.Proofs.YtiiahjnfbhcgmaaGreatDoor

/- Walks of the laws' markPairS, heldPairS, markKnown, heldKnown, markWriter, heldWriter. Conditions: the rows are owned; the numbers are small. (Printed by gen/mkp.py.) -/
namespace Go.Proofs.YtiiahjnfbhcgmaaGreatDoor
set_option linter.unusedVariables false
set_option linter.unusedSimpArgs false
open Go Go.RowKit

theorem prs_cells {w : World} {l : List PairD} {g : Nat} (hc : ∀ j u, (cellsPr l)[j]? = some u → w.cell? ⟨g, j, none⟩ = some u) {k : Nat} {b : PairD} (hb : l[k]? = some b) :
    w.cell? ⟨g, k * 2, none⟩ = some (.int .i64 b.pre) ∧ w.cell? ⟨g, k * 2 + 1, none⟩ = some (.int .i64 b.byt) :=
  ⟨hc _ _ (cellsPr_get l k 0 _ hb (by omega)), hc _ _ (cellsPr_get l k 1 _ hb (by omega))⟩

def mkQ (K : Int) : PairD := ⟨K, K + 1⟩
def marksQ (k : Int) (n : Nat) : List PairD := (List.range n).map fun (i : Nat) => mkQ (k + 2 * (i : Int))
theorem marksQ_length (k : Int) (n : Nat) : (marksQ k n).length = n := by simp [marksQ]
theorem marksQ_get (k : Int) (n i : Nat) (h : i < n) : (marksQ k n)[i]'(by rw [marksQ_length]; exact h) = mkQ (k + 2 * i) := by simp [marksQ]
def midPQ (k : Int) (l : List PairD) (i : Nat) : List PairD := marksQ k i ++ l.drop i
theorem midPQ_zero (k : Int) (l : List PairD) : midPQ k l 0 = l := by simp [midPQ, marksQ]
theorem midPQ_all (k : Int) (l : List PairD) : midPQ k l l.length = marksQ k l.length := by simp [midPQ]
theorem midPQ_cells (k : Int) (l : List PairD) (i : Nat) (h : i < l.length) : cellsPr (midPQ k l i) = cellsPr (marksQ k i) ++ (prC l[i] ++ cellsPr (l.drop (i + 1))) := by
  rw [midPQ, List.drop_eq_getElem_cons h]; simp only [cellsPr, List.flatMap_append, List.flatMap_cons]
theorem midPQ_next (k : Int) (l : List PairD) (i : Nat) (h : i < l.length) : cellsPr (midPQ k l (i + 1)) = cellsPr (marksQ k i) ++ (prC (mkQ (k + 2 * i)) ++ cellsPr (l.drop (i + 1))) := by
  have e1 : marksQ k (i + 1) = marksQ k i ++ [mkQ (k + 2 * (i : Int))] := by simp [marksQ, List.range_succ]
  rw [midPQ, e1]; simp only [cellsPr, List.flatMap_append, List.flatMap_cons, List.flatMap_nil, List.append_nil, List.append_assoc]
theorem midPQ_at (k : Int) (l : List PairD) (i : Nat) (h : i < l.length) : (midPQ k l i)[i]? = some l[i] := by
  rw [midPQ, List.getElem?_append_right (by rw [marksQ_length]; exact Nat.le_refl _), marksQ_length, Nat.sub_self, List.getElem?_drop, Nat.add_zero, List.getElem?_eq_getElem h]

def RelMQ (k0 : Int) (l : List PairD) (base : Nat) (v : Value) (w : World) (k i : Value) (wr : World) : Prop := ∃ j : Nat, j ≤ l.length ∧ i = .int .i64 j ∧ k = .int .i64 (k0 + 2 * j) ∧ wr.ownsRow base 149 2 v l.length (cellsPr (midPQ k0 l j)) ∧ w.grownBy wr v.ownBlock

set_option maxRecDepth 100000 in
set_option maxHeartbeats 2000000 in
theorem markPrS_any (l : List PairD) (v : Value) (base : Nat) (k0 : Int) (w : World) (h0 : 0 ≤ k0) (h1 : k0 ≤ 1048576) (hn : l.length ≤ 1048576) (hown : w.ownsRow base 149 2 v l.length (cellsPr l)) :
    Calls Tryz.prog 163 #[v, .int .i64 k0] w (fun e w' => e = .returned (.int .i64 (k0 + 2 * l.length)) ∧ w'.ownsRow base 149 2 v l.length (cellsPr (marksQ k0 l.length)) ∧ w.grownBy w' v.ownBlock) := by
  obtain ⟨a, ca, rfl, hm, -⟩ := ownsRow_any hown
  go_enter Tryz.func163, Tryz.ntmps163
  go_wp2
  go_loopw [1, 5] (fun k i wr => RelMQ k0 l base (.slice a l.length ca) w k i wr) (fun _ i _ => l.length - (intOf i).toNat)
  case atStart => exact ⟨0, Nat.zero_le _, rfl, by rw [Int.natCast_zero, Int.mul_zero, Int.add_zero], by rw [midPQ_zero]; exact hown, grownBy_refl _ _⟩
  case round =>
    obtain ⟨j, hj, rfl, rfl, ho, hg⟩ := hrel
    by_cases hlt : j < l.length
    · obtain ⟨g, rfl, hc1, hc2, -, hgl⟩ := ownsRow_slot ho (by omega)
      obtain ⟨c0, c1⟩ := prs_cells (read_cells ho) (midPQ_at k0 l j hlt)
      have f0 := ownsRow_free ho (j * 2); have f1 := ownsRow_free ho (j * 2 + 1)
      have HN := Lib.hid (midPQ_next k0 l j hlt)
      have HC := Lib.hid (midPQ_cells k0 l j hlt)
      generalize hK : k0 + 2 * (j : Int) = K at *
      have hK0 : 0 ≤ K := by omega
      have hK1 : K ≤ 8388608 := by omega
      have HK := Lib.hid hK
      clear hK
      go_wp2
      go_roundw
      case rel => exact ⟨j + 1, by omega, by go_num, by have := HK.out; congr 1; omega, by have e : ((cellsPr (midPQ k0 l j)).set (j * 2) (.int .i64 K)).set (j * 2 + 1) (.int .i64 (K + 1)) = cellsPr (midPQ k0 l (j + 1)) := (by rw [HC.out, HN.out]; exact set2 _ _ _ _ _ _ _ (by rw [cellsPr_length, marksQ_length])); rw [← e]; exact ownsRow_set (ownsRow_set ho (j * 2) _) (j * 2 + 1) _, grownBy_set (grownBy_set hg (j * 2) _) (j * 2 + 1) _⟩
      case measure => simp [intOf]; omega
    · have e : j = l.length := by omega
      subst e
      rw [midPQ_all] at ho
      go_wp2
      go_ret
      exact ⟨rfl, ho, hg⟩

def RelHQ (k0 : Int) (n : Nat) (w : World) (k i : Value) (wr : World) : Prop := ∃ j : Nat, j ≤ n ∧ i = .int .i64 j ∧ k = .int .i64 (k0 + 2 * j) ∧ Up w wr

set_option maxRecDepth 100000 in
set_option maxHeartbeats 2000000 in
theorem heldPrS_any (n : Nat) (v : Value) (base : Nat) (k0 : Int) (w : World) (h0 : 0 ≤ k0) (h1 : k0 ≤ 1048576) (hn : n ≤ 1048576) (hown : w.ownsRow base 149 2 v n (cellsPr (marksQ k0 n))) :
    Calls Tryz.prog 164 #[v, .int .i64 k0] w (Same (.int .i64 (k0 + 2 * n)) w) := by
  obtain ⟨a, ca, rfl, hm, -⟩ := ownsRow_any hown
  go_enter Tryz.func164, Tryz.ntmps164
  go_wp2
  go_loopw [1, 5] (fun k i wr => RelHQ k0 n w k i wr) (fun _ i _ => n - (intOf i).toNat)
  case atStart => exact ⟨0, Nat.zero_le _, rfl, by rw [Int.natCast_zero, Int.mul_zero, Int.add_zero], Up.refl _⟩
  case round =>
    obtain ⟨j, hj, rfl, rfl, hup⟩ := hrel
    by_cases hlt : j < n
    · obtain ⟨g, rfl, hc1, hc2, -, hgl⟩ := ownsRow_slot hown (by omega)
      have hat : (marksQ k0 n)[j]? = some (mkQ (k0 + 2 * j)) := by rw [List.getElem?_eq_getElem (by rw [marksQ_length]; exact hlt), marksQ_get k0 n j hlt]
      obtain ⟨c0, c1⟩ := prs_cells (read_cells (ownsRow_up hown hup)) hat
      clear hat
      generalize hK : k0 + 2 * (j : Int) = K at *
      have hK0 : 0 ≤ K := by omega
      have hK1 : K ≤ 8388608 := by omega
      have HK := Lib.hid hK
      clear hK
      unfold mkQ at c0 c1
      simp only at c0 c1
      go_wp2
      go_roundw
      case rel => exact ⟨j + 1, by omega, by go_num, by have := HK.out; congr 1; omega, hup⟩
      case measure => simp [intOf]; omega
    · have e : j = n := by omega
      subst e
      go_wp2
      go_ret
      exact ⟨rfl, hup⟩


/-- What marking leaves. -/
def MkPost (l : List PairD) (v : Value) (base : Nat) (k0 : Int) (w : World) (e : Ending) (w' : World) : Prop := e = .returned (.int .i64 (k0 + 2 * l.length)) ∧ w'.ownsRow base 149 2 v l.length (cellsPr (marksQ k0 l.length)) ∧ w.grownBy w' v.ownBlock

set_option maxRecDepth 100000 in
set_option maxHeartbeats 2000000 in
theorem markKn_any (k : KnD) (v : Value) (base : Nat) (k0 : Int) (w : World) (h0 : 0 ≤ k0) (h1 : k0 ≤ 1048576) (hn : k.ps.length ≤ 1048576) (hown : ownPr w base v k.ps) :
    Calls Tryz.prog 98  #[kV k v, .int .i64 k0] w (MkPost k.ps v base k0 w) := by
  have cM := fun wq ho => markPrS_any k.ps v base k0 wq h0 h1 hn ho
  obtain ⟨a, ca, rfl⟩ := ownsRow_shape hown
  simp only [kV]
  go_enter Tryz.func98, Tryz.ntmps98
  go_wp2_with fail
  have ho := ownsRow_up hown ((Up.refl w).alloc (.cells #[.int .i64 k.set.ord, .int .i64 k.set.lit, .int .i64 k.set.most, .slice a k.ps.length ca, .int .i64 k.base, .int .i64 k.last] 27))
  have hU := (Up.refl w).alloc (.cells #[.int .i64 k.set.ord, .int .i64 k.set.lit, .int .i64 k.set.most, .slice a k.ps.length ca, .int .i64 k.base, .int .i64 k.last] 27)
  with_reducible refine (cM _ ho).mono ?_
  rintro e w2 ⟨rfl, ho2, hg⟩
  go_wp2_with fail
  go_ret
  exact ⟨rfl, ho2, grownBy_trans (up_grownBy hU _) hg⟩

set_option maxRecDepth 100000 in
set_option maxHeartbeats 2000000 in
theorem markWr_any (x : WrD) (v : Value) (base : Nat) (k0 : Int) (w : World) (h0 : 0 ≤ k0) (h1 : k0 ≤ 1048576) (hn : x.k.ps.length ≤ 1048576) (hown : ownPr w base v x.k.ps) :
    Calls Tryz.prog 31  #[wrV x v, .int .i64 k0] w (MkPost x.k.ps v base k0 w) := by
  have cM := fun wq ho => markKn_any x.k v base k0 wq h0 h1 hn ho
  obtain ⟨a, ca, rfl⟩ := ownsRow_shape hown
  unfold wrV
  simp only [kV] at cM
  go_enter Tryz.func31, Tryz.ntmps31
  go_wp2_with fail
  have hU := (Up.refl w).alloc (.cells #[.int .i64 x.k.set.ord, .int .i64 x.k.set.lit, .int .i64 x.k.set.most, .slice a x.k.ps.length ca, .int .i64 x.k.base, .int .i64 x.k.last, .string (bs x.pend), .string (bs x.bits), .bool x.beg] 29)
  have ho := ownsRow_up hown hU
  with_reducible refine (cM _ ho).mono ?_
  rintro e w2 ⟨rfl, ho2, hg⟩
  go_wp2_with fail
  go_ret
  exact ⟨rfl, ho2, grownBy_trans (up_grownBy hU _) hg⟩

set_option maxRecDepth 100000 in
set_option maxHeartbeats 2000000 in
theorem heldKn_any (k : KnD) (v : Value) (base : Nat) (k0 : Int) (w : World) (h0 : 0 ≤ k0) (h1 : k0 ≤ 1048576) (hn : k.ps.length ≤ 1048576) (hown : w.ownsRow base 149 2 v k.ps.length (cellsPr (marksQ k0 k.ps.length))) :
    Calls Tryz.prog 99  #[kV k v, .int .i64 k0] w (Same (.int .i64 (k0 + 2 * k.ps.length)) w) := by
  have cM := fun wq ho => heldPrS_any k.ps.length v base k0 wq h0 h1 hn ho
  obtain ⟨a, ca, rfl, -, -⟩ := ownsRow_any hown
  simp only [kV]
  go_enter Tryz.func99, Tryz.ntmps99
  go_wp2_with (first | (go_at_call 164; (with_reducible refine (cM _ (ownsRow_up hown (by (repeat (first | with_reducible exact Up.refl _ | with_reducible assumption | with_reducible refine Up.set ?_ (by first | exact Nat.le_refl _ | (simp only []; omega) | (simp; omega)) _ | with_reducible refine Up.alloc ?_ _ | with_reducible refine Up.drew ?_ | refine Up.trans ?_ (by with_reducible assumption)))))).mono ?_); rintro e w1 ⟨rfl, U1⟩; have B1 := bcell U1; have Z1 := U1.size; (try simp at Z1); (try rw [Nat.add_one_le_iff] at Z1)) | fail)
  go_ret
  refine ⟨rfl, ?_⟩
  (repeat (first | with_reducible exact Up.refl _ | with_reducible assumption | with_reducible refine Up.set ?_ (by first | exact Nat.le_refl _ | (simp only []; omega) | (simp; omega)) _ | with_reducible refine Up.alloc ?_ _ | with_reducible refine Up.drew ?_ | refine Up.trans ?_ (by with_reducible assumption)))

set_option maxRecDepth 100000 in
set_option maxHeartbeats 2000000 in
theorem heldWr_any (x : WrD) (v : Value) (base : Nat) (k0 : Int) (w : World) (h0 : 0 ≤ k0) (h1 : k0 ≤ 1048576) (hn : x.k.ps.length ≤ 1048576) (hown : w.ownsRow base 149 2 v x.k.ps.length (cellsPr (marksQ k0 x.k.ps.length))) :
    Calls Tryz.prog 32  #[wrV x v, .int .i64 k0] w (Same (.int .i64 (k0 + 2 * x.k.ps.length)) w) := by
  have cM := fun wq ho => heldKn_any x.k v base k0 wq h0 h1 hn ho
  obtain ⟨a, ca, rfl, -, -⟩ := ownsRow_any hown
  unfold wrV
  simp only [kV] at cM
  go_enter Tryz.func32, Tryz.ntmps32
  go_wp2_with (first | (go_at_call 99; (with_reducible refine (cM _ (ownsRow_up hown (by (repeat (first | with_reducible exact Up.refl _ | with_reducible assumption | with_reducible refine Up.set ?_ (by first | exact Nat.le_refl _ | (simp only []; omega) | (simp; omega)) _ | with_reducible refine Up.alloc ?_ _ | with_reducible refine Up.drew ?_ | refine Up.trans ?_ (by with_reducible assumption)))))).mono ?_); rintro e w1 ⟨rfl, U1⟩; have B1 := bcell U1; have Z1 := U1.size; (try simp at Z1); (try rw [Nat.add_one_le_iff] at Z1)) | fail)
  go_ret
  refine ⟨rfl, ?_⟩
  (repeat (first | with_reducible exact Up.refl _ | with_reducible assumption | with_reducible refine Up.set ?_ (by first | exact Nat.le_refl _ | (simp only []; omega) | (simp; omega)) _ | with_reducible refine Up.alloc ?_ _ | with_reducible refine Up.drew ?_ | refine Up.trans ?_ (by with_reducible assumption)))

end Go.Proofs.YtiiahjnfbhcgmaaGreatDoor

