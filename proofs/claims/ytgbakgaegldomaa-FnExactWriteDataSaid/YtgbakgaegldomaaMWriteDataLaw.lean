/- WriteData of the program answers as the reference's, for any writer. Conditions: none. -/
import Derived.Test.YtgbakgaegldomaaMWriteDataLawA
import Derived.Test.YtgbakgaegldomaaMWriteDataLawB
import Derived.Test.YtgbakgaegldomaaMWriteDataLawC
import Derived.Test.YtgbakgaegldomaaMWriteDataLawD
import Derived.Test.YtgbakgaegldomaaMWriteDataLawE
import Derived.Test.YtgbakgaegldomaaMWriteDataLawF
import Derived.Test.YtgbakgaegldomaaMWriteDataLawG
namespace Go.Proofs.Ytgbakgaegldomaa.lawWriteData
set_option linter.unusedVariables false
set_option linter.unusedSimpArgs false
open Go.ChangeShapes Go.WideShapes Go.ChangeAt Go.RowKit Go.Joins
open Go.ChangeMaps (open_string shut_string)

def WrT (y : WrD) (u : Value) (w : World) : Prop := ∃ v, u = wrV y v ∧ RdP 0 w v y.k.ps
theorem wrT_closed {y : WrD} : ∀ u, UpClosed (WrT y u) := fun u w w' ⟨v, h1, h2⟩ hu => ⟨v, h1, h2.up hu⟩
theorem upOut_wrT {f : FuncId} {args : Array Value} {w : World} {y : WrD} (h : Calls Try.prog f args w (fun e w' => ∃ v, e = .returned (wrV y v) ∧ ownPr w' w.heap.size v y.k.ps ∧ Up w w')) : upOut Try.prog (WrT y) w (.ok (.enter f args) w) :=
  ⟨rfl, h.mono fun e w' ⟨v, he, ho, hu⟩ => ⟨_, he, hu, v, rfl, (RdP.of_own ho).low (Nat.zero_le _)⟩⟩
theorem ne_of_lt {va vb : Value} {n : Nat} (ha : ∀ k, va.ownBlock = some k → k < n) (hb : ∀ k, vb.ownBlock = some k → n ≤ k) : (va.ownBlock = none ∨ va.ownBlock ≠ vb.ownBlock) ∧ (vb.ownBlock = none ∨ vb.ownBlock ≠ va.ownBlock) := by
  constructor
  · cases h : va.ownBlock with
    | none => exact .inl rfl
    | some k => exact .inr fun e => by have := ha k h; have := hb k e.symm; omega
  · cases h : vb.ownBlock with
    | none => exact .inl rfl
    | some k => exact .inr fun e => by have := hb k h; have := ha k e.symm; omega

set_option maxRecDepth 100000 in
set_option maxHeartbeats 8000000 in
theorem walk (x : WrD) (v : Value) (s : ByteArray) (w : World) (hr : RdP 0 w v x.k.ps) (hl : -9223372036854775808 ≤ x.k.set.lit ∧ x.k.set.lit ≤ 9223372036854775807) (hs : s.size ≤ 9223372036854775807) (hp : x.pend.length ≤ 9223372036854775807) (hb : x.bits.length ≤ 9223372036854775807) (hn : x.k.ps.length ≤ 9223372036854775807) :
    Calls Try.prog 3  #[wrV x v, .string s] w (Same (.bool true) w) := by
  have hrt := fun (wq : World) (hu : Up w wq) => hr.up hu
  have hsp := bs_size x.pend
  have hsb := bs_size x.bits
  obtain ⟨a, cap, rfl, -, -, -, -⟩ := id hr
  have cZ := fun wq => szWriter_any x.k.set.ord x.k.set.lit x.k.set.most x.k.base x.k.last a x.k.ps.length cap (bs x.pend) (bs x.bits) x.beg 1048576 wq hn (by omega) (by omega) (by omega) (by omega)
  by_cases h1 : 1048576 < s.size
  · unfold wrV
    go_enter Try.func3, Try.ntmps3
    go_wp2_with fail
    go_ret
    exact ⟨rfl, by (repeat (first | with_reducible exact Up.refl _ | with_reducible assumption | with_reducible refine Up.set ?_ (by first | exact Nat.le_refl _ | (simp only []; omega) | (simp; omega)) _ | with_reducible refine Up.alloc ?_ _ | with_reducible refine Up.drew ?_ | refine Up.trans ?_ (by with_reducible assumption)))⟩
  by_cases h2 : szW (x.k.ps.length : Int) ((bs x.pend).size : Int) ((bs x.bits).size : Int) 1048576 < 0
  · rw [szW_no h2] at cZ
    unfold wrV
    clear h2
    go_enter Try.func3, Try.ntmps3
    go_wp2_with (first | (go_at_call 7; (with_reducible refine (cZ _).mono ?_); rintro e w1 ⟨rfl, U1⟩; have B1 := bcell U1; have Z1 := U1.size; (try simp at Z1); (try rw [Nat.add_one_le_iff] at Z1)) | fail)
    go_ret
    refine ⟨rfl, ?_⟩
    (repeat (first | with_reducible exact Up.refl _ | with_reducible assumption | with_reducible refine Up.set ?_ (by first | exact Nat.le_refl _ | (simp only []; omega) | (simp; omega)) _ | with_reducible refine Up.alloc ?_ _ | with_reducible refine Up.drew ?_ | refine Up.trans ?_ (by with_reducible assumption)))
  obtain ⟨e0, z0, z1, z2⟩ := szW_yes h2
  rw [e0] at cZ
  simp only [hsp, hsb] at cZ z1 z2
  have hn2 : x.k.ps.length ≤ 1048576 := by omega
  have hp2 : x.pend.length ≤ 1048576 := by omega
  have hb2 : x.bits.length ≤ 1048576 := by omega
  have cT := fun wq h => toWriter_any x (.slice a x.k.ps.length cap) 0 wq h hn2
  have cI : ∀ wq v, RdP 0 wq v x.k.ps → Calls Try.prog 10  #[wrV x v, .string s] wq (WdPost (wdO x s.data.toList) wq) := fun wq v h => wdI_any x v 0 s.data.toList wq hl h hn2 hp2 hb2 (by have : s.data.toList.length = s.size := rfl; omega)
  have cS : ∀ wq v, RdP 0 wq v x.k.ps → Calls Try.prog 8  #[wrV x v, .string s] wq (WdPost (wdO x s.data.toList) wq) := fun wq v h => wdS_any x v 0 s.data.toList wq h hn2 hp2 hb2 (by have : s.data.toList.length = s.size := rfl; omega)
  have hX0 : w.heap.size < w.heap.size + 1 := by omega
  clear h2 e0
  unfold wrV at *
  go_enter Try.func3, Try.ntmps3
  go_wp2_with (first | (go_at_call 7; (with_reducible refine (cZ _).mono ?_); rintro e w1 ⟨rfl, U1⟩; have B1 := bcell U1; have Z1 := U1.size; (try simp at Z1); (try rw [Nat.add_one_le_iff] at Z1)) | fail)
  obtain ⟨Y, hY⟩ : ∃ Y, Hid (Y = oWr (wdO x s.data.toList)) := ⟨_, rfl⟩
  obtain ⟨yb, hyb⟩ : ∃ yb, Hid (yb = oBy (wdO x s.data.toList)) := ⟨_, rfl⟩
  obtain ⟨ok, hok⟩ : ∃ ok, Hid (ok = (wdO x s.data.toList).isSome) := ⟨_, rfl⟩
  have cI' : ∀ wq v, RdP 0 wq v x.k.ps → Calls Try.prog 10  #[wrV x v, .string s] wq (fun e w' => ∃ v', e = .returned (.tuple #[wrV Y v', .string (bs yb), .bool ok]) ∧ ownPr w' wq.heap.size v' Y.k.ps ∧ Up wq w') := fun wq v h => (cI wq v h).mono fun e w' hP => by rw [hY.out, hyb.out, hok.out]; exact wdP_all hP
  have cS' : ∀ wq v, RdP 0 wq v x.k.ps → Calls Try.prog 8  #[wrV x v, .string s] wq (fun e w' => ∃ v', e = .returned (.tuple #[wrV Y v', .string (bs yb), .bool ok]) ∧ ownPr w' wq.heap.size v' Y.k.ps ∧ Up wq w') := fun wq v h => (cS wq v h).mono fun e w' hP => by rw [hY.out, hyb.out, hok.out]; exact wdP_all hP
  have hYn : Y.k.ps.length ≤ 1048576 := by
    rw [hY.out]
    rcases wdO_case (x := x) (d := s.data.toList) with ⟨-, h2, -⟩ | ⟨r, -, h2, -, h4, -⟩
    · rw [h2]; exact Nat.zero_le _
    · rw [h2]; exact (wrOk_bd h4).2.1
  clear cI cS hY hyb hok
  unfold wrV at cI' cS'
  have hX := show w1.heap[w.heap.size]? = some _ from box_up U1 (MapKept.heap_alloc w _).1
  have hU1 : Up w w1 := by (repeat (first | with_reducible exact Up.refl _ | with_reducible assumption | with_reducible refine Up.set ?_ (by first | exact Nat.le_refl _ | (simp only []; omega) | (simp; omega)) _ | with_reducible refine Up.alloc ?_ _ | with_reducible refine Up.drew ?_ | refine Up.trans ?_ (by with_reducible assumption)))
  clear U1 B1 cZ
  (with_reducible refine (cT _ (hrt _ hU1)).mono ?_); rintro e w2 ⟨v2, rfl, ho2, U2⟩
  obtain ⟨a2, c2, rfl⟩ := ownsRow_shape ho2
  go_wp2_with fail
  have hr2 := (RdP.of_own ho2).low (Nat.zero_le _)
  (with_reducible refine (cS' _ _ hr2).mono ?_); rintro e w3 ⟨v3, rfl, ho3, U3⟩
  obtain ⟨a3, c3, rfl⟩ := ownsRow_shape ho3
  have hl3 := Lib.hid fun k h => (ho3.lt k h).2
  have hU3 := (hU1.trans U2).trans U3
  have hX3 := box_up (U2.trans U3) hX
  have k0 := box_cell hX3 0; have k1 := box_cell hX3 1; have k2 := box_cell hX3 2; have k3 := box_cell hX3 3; have k4 := box_cell hX3 4; have k5 := box_cell hX3 5; have k6 := box_cell hX3 6; have k7 := box_cell hX3 7; have k8 := box_cell hX3 8
  simp at k0 k1 k2 k3 k4 k5 k6 k7 k8
  have hw3 := hU3.size
  have hb3 : w.heap.size < w3.heap.size := by have h := (Array.getElem?_eq_some_iff.1 hX3).1; exact h
  clear U2 ho2 hr2
  go_wp2_with fail
  have hUa := (Up.refl w3).alloc (.cells #[.int .i64 Y.k.set.ord, .int .i64 Y.k.set.lit, .int .i64 Y.k.set.most, .slice a3 Y.k.ps.length c3, .int .i64 Y.k.base, .int .i64 Y.k.last, .string (bs Y.pend), .string (bs Y.bits), .bool Y.beg] 35)
  have hT6 : WrAt w3.heap.size Y (.slice a3 Y.k.ps.length c3) (w3.alloc (.cells #[.int .i64 Y.k.set.ord, .int .i64 Y.k.set.lit, .int .i64 Y.k.set.most, .slice a3 Y.k.ps.length c3, .int .i64 Y.k.base, .int .i64 Y.k.last, .string (bs Y.pend), .string (bs Y.bits), .bool Y.beg] 35)) := (MapKept.heap_alloc w3 _).1
  have hU4 := hU3.trans hUa
  have ho3 := ownsRow_up ho3 hUa
  have hX4 := box_up hUa hX3
  clear hUa hX3 hX U3 hU3 k0 k1 k2 k3 k4 k5 k6 k7 k8 hw3
  generalize w3.alloc (.cells #[.int .i64 Y.k.set.ord, .int .i64 Y.k.set.lit, .int .i64 Y.k.set.most, .slice a3 Y.k.ps.length c3, .int .i64 Y.k.base, .int .i64 Y.k.last, .string (bs Y.pend), .string (bs Y.bits), .bool Y.beg] 35) = W4 at *
  (with_reducible refine (cT _ (hrt _ hU4)).mono ?_); rintro e w5 ⟨v5, rfl, ho5, U5⟩
  obtain ⟨a5, c5, rfl⟩ := ownsRow_shape ho5
  have hl5 := Lib.hid ho5.lt
  have hz34 : w3.heap.size < W4.heap.size := (Array.getElem?_eq_some_iff.1 hT6).1
  have hz45 := U5.size
  have hT6 := hT6.up U5
  have hX5 := box_up U5 hX4
  have hU5 := hU4.trans U5
  have ho3 := ownsRow_up ho3 U5
  clear hX4 U5 hU4
  go_wp2_with fail
  have hUb := (Up.refl w5).alloc (.cells #[.int .i64 x.k.set.ord, .int .i64 x.k.set.lit, .int .i64 x.k.set.most, .slice a5 x.k.ps.length c5, .int .i64 x.k.base, .int .i64 x.k.last, .string (bs x.pend), .string (bs x.bits), .bool x.beg] 35)
  have hT9 : WrAt w5.heap.size x (.slice a5 x.k.ps.length c5) (w5.alloc (.cells #[.int .i64 x.k.set.ord, .int .i64 x.k.set.lit, .int .i64 x.k.set.most, .slice a5 x.k.ps.length c5, .int .i64 x.k.base, .int .i64 x.k.last, .string (bs x.pend), .string (bs x.bits), .bool x.beg] 35)) := (MapKept.heap_alloc w5 _).1
  have hz56 : w5.heap.size < (w5.alloc (.cells #[.int .i64 x.k.set.ord, .int .i64 x.k.set.lit, .int .i64 x.k.set.most, .slice a5 x.k.ps.length c5, .int .i64 x.k.base, .int .i64 x.k.last, .string (bs x.pend), .string (bs x.bits), .bool x.beg] 35)).heap.size := (Array.getElem?_eq_some_iff.1 hT9).1
  have ho5 := ownsRow_up ho5 hUb
  have ho3 := ownsRow_up ho3 hUb
  have hT6 := hT6.up hUb
  have hX5 := box_up hUb hX5
  have hU6 := hU5.trans hUb
  clear hUb hU5
  generalize w5.alloc (.cells #[.int .i64 x.k.set.ord, .int .i64 x.k.set.lit, .int .i64 x.k.set.most, .slice a5 x.k.ps.length c5, .int .i64 x.k.base, .int .i64 x.k.last, .string (bs x.pend), .string (bs x.bits), .bool x.beg] 35) = W6 at *
  have hr9 : RdP 0 W6 (.slice a5 x.k.ps.length c5) x.k.ps := (RdP.of_own ho5).low (Nat.zero_le _)
  (with_reducible refine (cI' _ _ hr9).mono ?_); rintro e w7 ⟨v7, rfl, ho7, U7⟩
  obtain ⟨a7, c7, rfl⟩ := ownsRow_shape ho7
  have hl7 := Lib.hid ho7.lt
  have hz67 := U7.size
  have hT6 := hT6.up U7
  have hT9 := hT9.up U7
  have hX7 := box_up U7 hX5
  have hU7 := hU6.trans U7
  have ho3 := ownsRow_up ho3 U7
  have ho5 := ownsRow_up ho5 U7
  obtain ⟨hb6, q0, q1, q2, q3, q4, q5, q6, q7, q8⟩ := hT6.cells
  clear hX5 U7 hU6 hr9
  go_wp2_with fail
  have hUc := (Up.refl w7).alloc (.cells #[.int .i64 Y.k.set.ord, .int .i64 Y.k.set.lit, .int .i64 Y.k.set.most, .slice a7 Y.k.ps.length c7, .int .i64 Y.k.base, .int .i64 Y.k.last, .string (bs Y.pend), .string (bs Y.bits), .bool Y.beg] 35)
  have hT10 : WrAt w7.heap.size Y (.slice a7 Y.k.ps.length c7) (w7.alloc (.cells #[.int .i64 Y.k.set.ord, .int .i64 Y.k.set.lit, .int .i64 Y.k.set.most, .slice a7 Y.k.ps.length c7, .int .i64 Y.k.base, .int .i64 Y.k.last, .string (bs Y.pend), .string (bs Y.bits), .bool Y.beg] 35)) := (MapKept.heap_alloc w7 _).1
  have hz78 : w7.heap.size < (w7.alloc (.cells #[.int .i64 Y.k.set.ord, .int .i64 Y.k.set.lit, .int .i64 Y.k.set.most, .slice a7 Y.k.ps.length c7, .int .i64 Y.k.base, .int .i64 Y.k.last, .string (bs Y.pend), .string (bs Y.bits), .bool Y.beg] 35)).heap.size := (Array.getElem?_eq_some_iff.1 hT10).1
  have ho7 := ownsRow_up ho7 hUc
  have ho5 := ownsRow_up ho5 hUc
  have ho3 := ownsRow_up ho3 hUc
  have hT6 := hT6.up hUc
  have hT9 := hT9.up hUc
  have hX8 := box_up hUc hX7
  have hU8 := hU7.trans hUc
  clear hUc hU7 hX7 q0 q1 q2 q3 q4 q5 q6 q7 q8 hb6
  generalize w7.alloc (.cells #[.int .i64 Y.k.set.ord, .int .i64 Y.k.set.lit, .int .i64 Y.k.set.most, .slice a7 Y.k.ps.length c7, .int .i64 Y.k.base, .int .i64 Y.k.last, .string (bs Y.pend), .string (bs Y.bits), .bool Y.beg] 35) = W8 at *
  have cE := fun wq v v' h h' => eqWriter_same Y v v' 0 0 wq h h'
  unfold wrV at cE
  (with_reducible refine (cE _ _ _ ((RdP.of_own ho7).low (Nat.zero_le _)) ((RdP.of_own ho3).low (Nat.zero_le _))).mono ?_); rintro e w9 ⟨rfl, U9⟩
  have hz89 := U9.size
  have ho7 := ownsRow_up ho7 U9
  have ho5 := ownsRow_up ho5 U9
  have ho3 := ownsRow_up ho3 U9
  have hT6 := hT6.up U9
  have hT9 := hT9.up U9
  have hT10 := hT10.up U9
  have hX9 := box_up U9 hX8
  have hU9 := hU8.trans U9
  clear U9 hU8 hX8
  go_wp2_with fail
  have cEx := fun wq v v' h h' => eqWriter_same x v v' 0 0 wq h h'
  unfold wrV at cEx
  have hr9 : RdP 0 w9 (.slice a5 x.k.ps.length c5) x.k.ps := (RdP.of_own ho5).low (Nat.zero_le _)
  have HA := Lib.hid (And.intro ho3 (And.intro ho5 (And.intro ho7 (And.intro hT6 hT10))))
  clear ho3 ho5 ho7 hT6 hT10
  refine wp_region_up 5 (by kernel_rfl) (by kernel_rfl) ?_
  simp only [List.take, List.drop]
  repeat (refine wpUp_step (fun K hK => ?_); go_simp; (try simp only [↓IntWalk.iteOmega]); first
    | (refine hK _ _ ?_; clear hK K)
    | (apply stepU_c
       · intro wq hwq; (have hbq := bcell hwq; (repeat (first | refine fills_no (by rfl) ?_ | refine fills_yes (by rfl) (fun vq hvq => ?_))); simp only [List.filter_nil, fills]; unfold upAt; (try (((try (obtain ⟨v', rfl, hv'⟩ := hvq; unfold wrV)); obtain ⟨-, q0, q1, q2, q3, q4, q5, q6, q7, q8⟩ := (hT9.up hwq).cells; have hXq := box_up hwq hX9; have k0 := box_cell hXq 0; have k1 := box_cell hXq 1; have k2 := box_cell hXq 2; have k3 := box_cell hXq 3; have k4 := box_cell hXq 4; have k5 := box_cell hXq 5; have k6 := box_cell hXq 6; have k7 := box_cell hXq 7; have k8 := box_cell hXq 8; simp at k0 k1 k2 k3 k4 k5 k6 k7 k8))); go_simp; (try go_bits); (try simp only [↓IntWalk.iteOmega]); (try (rw [dif_pos (by omega)]; go_simp; try go_bits)); first | exact upOut_value | (apply upOut_call; (go_at_call 11; with_reducible exact cEx _ _ _ (hr9.up hwq) hv')) | (apply upOut_eq; (go_at_call 11; with_reducible exact cEx _ _ _ (hr9.up hwq) hv')))
       go_simp; refine hK _ _ ?_; clear hK K)
    | (refine stepU_m (by kernel_rfl) (WrT x) (wrT_closed) (fun wq hwq => ?_) ?_
       · (have hbq := bcell hwq; (repeat (first | refine fills_no (by rfl) ?_ | refine fills_yes (by rfl) (fun vq hvq => ?_))); simp only [List.filter_nil, fills]; unfold upAt; (try (((try (obtain ⟨v', rfl, hv'⟩ := hvq; unfold wrV)); obtain ⟨-, q0, q1, q2, q3, q4, q5, q6, q7, q8⟩ := (hT9.up hwq).cells; have hXq := box_up hwq hX9; have k0 := box_cell hXq 0; have k1 := box_cell hXq 1; have k2 := box_cell hXq 2; have k3 := box_cell hXq 3; have k4 := box_cell hXq 4; have k5 := box_cell hXq 5; have k6 := box_cell hXq 6; have k7 := box_cell hXq 7; have k8 := box_cell hXq 8; simp at k0 k1 k2 k3 k4 k5 k6 k7 k8))); go_simp; (try go_bits); (try simp only [↓IntWalk.iteOmega]); (try (rw [dif_pos (by omega)]; go_simp; try go_bits)); ((with_reducible refine upOut_wrT ?_); go_at_call 9; exact cT _ (hrt _ (hU9.trans hwq))))
       refine hK _ _ ?_; clear hK K))
  refine wpUp_nil (fun wq hwq => ?_)
  simp only [fills]
  rintro u60 ⟨vz, rfl, -⟩
  have hz9q := hwq.size
  have hUq := hU9.trans hwq
  have hT9 := hT9.up hwq
  have hXq := box_up hwq hX9
  have ho3 := ownsRow_up HA.out.1 hwq
  have ho5 := ownsRow_up HA.out.2.1 hwq
  have ho7 := ownsRow_up HA.out.2.2.1 hwq
  have hT6 := HA.out.2.2.2.1.up hwq
  have hT10 := HA.out.2.2.2.2.up hwq
  obtain ⟨hb9, q0, q1, q2, q3, q4, q5, q6, q7, q8⟩ := hT9.cells
  have cM := markWr_any x _ _ 1 wq (by omega) (by omega) hn2 ho5
  unfold wrV MkPost at cM
  have HB := Lib.hid (And.intro ho3 (And.intro ho7 (And.intro hT6 (And.intro hT10 (And.intro hXq hUq)))))
  clear hwq HA hX9 hU9 hr9 ho3 ho5 ho7 hT6 hT10 hXq hUq hT9
  unfold wrV
  go_wp2_with fail
  (with_reducible refine cM.mono ?_); rintro e w11 ⟨rfl, -, G1⟩
  obtain ⟨n35, -⟩ := ne_of_lt (va := .slice a3 Y.k.ps.length c3) (vb := .slice a5 x.k.ps.length c5) (n := W4.heap.size) (fun k h => by have := hl3.out k h; omega) (fun k h => (hl5.out k h).1)
  obtain ⟨n57, n75⟩ := ne_of_lt (va := .slice a5 x.k.ps.length c5) (vb := .slice a7 Y.k.ps.length c7) (n := W6.heap.size) (fun k h => by have := (hl5.out k h).2; omega) (fun k h => (hl7.out k h).1)
  obtain ⟨n37, -⟩ := ne_of_lt (va := .slice a3 Y.k.ps.length c3) (vb := .slice a7 Y.k.ps.length c7) (n := W6.heap.size) (fun k h => by have := hl3.out k h; omega) (fun k h => (hl7.out k h).1)
  have ho3 := HB.out.1.kept G1 n35
  have ho7 := HB.out.2.1.kept G1 n75
  have hT6 : WrAt w3.heap.size Y (.slice a3 Y.k.ps.length c3) w11 := gbox G1 HB.out.2.2.1 (fun e => by have := (hl5.out _ e.symm).1; omega)
  have hT10 : WrAt w7.heap.size Y (.slice a7 Y.k.ps.length c7) w11 := gbox G1 HB.out.2.2.2.1 (fun e => by have := (hl5.out _ e.symm).2; omega)
  have hX11 := gbox G1 HB.out.2.2.2.2.1 (fun e => by have := (hl5.out _ e.symm).1; omega)
  have hU11 : Up w w11 := HB.out.2.2.2.2.2.grown G1 (fun k h => by have := (hl5.out k h).1; omega)
  obtain ⟨hb6, q0, q1, q2, q3, q4, q5, q6, q7, q8⟩ := hT6.cells
  obtain ⟨hb10, r0, r1, r2, r3, r4, r5, r6, r7, r8⟩ := hT10.cells
  clear HB G1 cM
  go_wp2_with fail
  (with_reducible refine (cE _ _ _ ((RdP.of_own ho7).low (Nat.zero_le _)) ((RdP.of_own ho3).low (Nat.zero_le _))).mono ?_); rintro e w12 ⟨rfl, U12⟩
  have ho7 := ownsRow_up ho7 U12
  have ho3 := ownsRow_up ho3 U12
  have hT6 := hT6.up U12
  have hT10 := hT10.up U12
  have hX12 := box_up U12 hX11
  have hU12 := hU11.trans U12
  obtain ⟨hb10, r0, r1, r2, r3, r4, r5, r6, r7, r8⟩ := hT10.cells
  clear U12 hU11 hX11 q0 q1 q2 q3 q4 q5 q6 q7 q8
  have cM := markWr_any Y _ _ 1 w12 (by omega) (by omega) hYn ho7
  unfold wrV MkPost at cM
  go_wp2_with fail
  (with_reducible refine cM.mono ?_); rintro e w13 ⟨rfl, ho7, G2⟩
  have ho3 := ho3.kept G2 n37
  have hT6 : WrAt w3.heap.size Y (.slice a3 Y.k.ps.length c3) w13 := gbox G2 hT6 (fun e => by have := (hl7.out _ e.symm).1; omega)
  have hT10 : WrAt w7.heap.size Y (.slice a7 Y.k.ps.length c7) w13 := gbox G2 hT10 (fun e => by have := (hl7.out _ e.symm).2; omega)
  have hX13 := gbox G2 hX12 (fun e => by have := (hl7.out _ e.symm).1; omega)
  have hU13 : Up w w13 := hU12.grown G2 (fun k h => by have := (hl7.out k h).1; omega)
  obtain ⟨hb10, r0, r1, r2, r3, r4, r5, r6, r7, r8⟩ := hT10.cells
  clear hU12 hX12 G2 cM
  have cH := heldWr_any Y _ _ 1 w13 (by omega) (by omega) hYn ho7
  unfold wrV at cH
  go_wp2_with fail
  (with_reducible refine cH.mono ?_); rintro e w14 ⟨rfl, U14⟩
  have ho7 := ownsRow_up ho7 U14
  have ho3 := ownsRow_up ho3 U14
  have hT6 := hT6.up U14
  have hT10 := hT10.up U14
  have HX := box_up U14 hX13
  have hU14 := hU13.trans U14
  have k0 := box_cell HX 0; have k1 := box_cell HX 1; have k2 := box_cell HX 2; have k3 := box_cell HX 3; have k4 := box_cell HX 4; have k5 := box_cell HX 5; have k6 := box_cell HX 6; have k7 := box_cell HX 7; have k8 := box_cell HX 8; simp at k0 k1 k2 k3 k4 k5 k6 k7 k8
  clear U14 hU13 hX13 cH r0 r1 r2 r3 r4 r5 r6 r7 r8
  have hb14 : w.heap.size < w14.heap.size := (Array.getElem?_eq_some_iff.1 HX).1
  go_wp2_with fail
  (with_reducible refine (cT _ (hrt _ hU14)).mono ?_); rintro e w15 ⟨v15, rfl, ho15, U15⟩
  obtain ⟨a15, c15, rfl⟩ := ownsRow_shape ho15
  have HC := Lib.hid (And.intro (ownsRow_up ho3 U15) (And.intro (ownsRow_up ho7 U15) (And.intro (hT6.up U15) (And.intro (hT10.up U15) (hU14.trans U15)))))
  clear k0 k1 k2 k3 k4 k5 k6 k7 k8 HX ho3 ho7 hT6 hT10 hU14 U15
  go_wp2_with fail
  (with_reducible refine (cI' _ _ ((RdP.of_own ho15).low (Nat.zero_le _))).mono ?_); rintro e w16 ⟨v16, rfl, ho16, U16⟩
  obtain ⟨a16, c16, rfl⟩ := ownsRow_shape ho16
  have hT6 := HC.out.2.2.1.up U16
  obtain ⟨hb6, q0, q1, q2, q3, q4, q5, q6, q7, q8⟩ := hT6.cells
  go_wp2_with fail
  have hUd := (Up.refl w16).alloc (.cells #[.int .i64 Y.k.set.ord, .int .i64 Y.k.set.lit, .int .i64 Y.k.set.most, .slice a16 Y.k.ps.length c16, .int .i64 Y.k.base, .int .i64 Y.k.last, .string (bs Y.pend), .string (bs Y.bits), .bool Y.beg] 35)
  have HD := Lib.hid (And.intro (ownsRow_up (ownsRow_up HC.out.1 U16) hUd) (And.intro (ownsRow_up (ownsRow_up HC.out.2.1 U16) hUd) (And.intro (hT6.up hUd) (And.intro ((HC.out.2.2.2.1.up U16).up hUd) (((HC.out.2.2.2.2).trans U16).trans hUd)))))
  have ho16 := ownsRow_up ho16 hUd
  clear hUd HC U16 hT6 q0 q1 q2 q3 q4 q5 q6 q7 q8
  generalize w16.alloc (.cells #[.int .i64 Y.k.set.ord, .int .i64 Y.k.set.lit, .int .i64 Y.k.set.most, .slice a16 Y.k.ps.length c16, .int .i64 Y.k.base, .int .i64 Y.k.last, .string (bs Y.pend), .string (bs Y.bits), .bool Y.beg] 35) = W17 at *
  (with_reducible refine (cE _ _ _ ((RdP.of_own ho16).low (Nat.zero_le _)) ((RdP.of_own HD.out.1).low (Nat.zero_le _))).mono ?_); rintro e w18 ⟨rfl, U18⟩
  have ho7 := ownsRow_up HD.out.2.1 U18
  obtain ⟨hb10, r0, r1, r2, r3, r4, r5, r6, r7, r8⟩ := (HD.out.2.2.2.1.up U18).cells
  have hU18 := HD.out.2.2.2.2.trans U18
  clear HD U18
  have cH := heldWr_any Y _ _ 1 w18 (by omega) (by omega) hYn ho7
  unfold wrV at cH
  go_wp2_with fail
  (with_reducible refine cH.mono ?_); rintro e w19 ⟨rfl, U19⟩
  go_wp2_with fail
  go_ret
  exact ⟨rfl, hU18.trans U19⟩

set_option maxRecDepth 100000 in
theorem lifted (os : Os) (started : os.Started) (H : Type) (enc : TypeId × Value → H) :
    ReturnsInHanded {} Try.checked os 3 .any (Rows.fnExactWriteDataSpec.pre6 enc Try.prog Try.f3 Rows.fnExactWriteDataRow.domain false) (Rows.fnExactWriteDataSpec.post enc Try.prog Try.f3 false true false false) := by
  refine returnsInHanded_of_change (C := Try.checked) own started (by kernel_rfl) Try.func3
    (ChangeSpec.witness6 (enc := enc) (C := Try.checked) false ⟨#[], #[.agg #[.int .i64 0, .int .i64 0, .int .i64 0, .slice none 0 0, .int .i64 0, .int .i64 0, .string ByteArray.empty, .string ByteArray.empty, .bool false], .string ByteArray.empty], []⟩ 8 (by kernel_rfl) (by kernel_rfl) (by kernel_rfl) (by kernel_rfl)) ?_
  intro W base args ds gs before hval0 hW hcnd _
  have hval : ∀ (j : Nat) t v, Try.f3.params[j]? = some t → args[j]? = some v → Value.okWide Try.prog W .any base t v := hval0
  have hW' := hW
  obtain ⟨p, q, hA0, hV, rfl, hfz, hnd⟩ := hW
  have hA : DataW.TrodAll enc Try.prog W 0 (fun _ => true) true Try.f3.params.toList args.toList ds p := hA0
  rw [Try.params3] at hA hval
  obtain ⟨v0, v1, d0, d1, p0, p1, rfl, rfl, rfl, h0, h1⟩ := trodAll_two hA
  have hlt0 : ∀ x ∈ p0, x.block < W.heap.size := fun x hx => by simpa using hW'.lt x (by simp [hx])
  obtain ⟨x, ux, rfl, rx, lx, px, bx, nx⟩ := open_writer (hval 0 28 v0 rfl rfl) h0 hlt0
  obtain ⟨s, rfl, rfl, rfl, hs⟩ := open_string Try.underlying9 (hval 1 9 v1 rfl rfl) h1
  obtain ⟨rfl, rfl⟩ := trodVars_none hV
  refine (walk x ux s W rx lx (by unfold maxLen at hs; exact hs) (by unfold maxLen at px; exact px) (by unfold maxLen at bx; exact bx) (by unfold maxLen at nx; exact nx)).mono fun e W' ⟨he, hu⟩ => ?_
  subst he
  exact ⟨_, rfl, post_law (f := Try.f3) TrylaidOut (by kernel_rfl) rfl Try.underlying4 rfl hW' (fun ds' h => by subst h; exact ⟨rfl, rfl, rfl⟩) hu⟩

set_option maxHeartbeats 80000000 in
theorem closed : joinedFacts Try.checked.prog 3 Try.f3 Rows.fnExactWriteDataSpec Rows.fnExactWriteDataRow = true := by
  unfold joinedFacts
  repeat' (with_reducible refine (Bool.and_eq_true_iff.2 ⟨?_, ?_⟩))
  all_goals (as_aux_lemma => kernel_rfl)

theorem holds : Rows.FnExactWriteDataSaid :=
  OpenClaim.holds_of_wide 3 Try.f3 rfl rfl rfl rfl rfl rfl rfl ⟨rfl, rfl, rfl, rfl, rfl⟩ rfl rfl rfl rfl rfl (by as_aux_lemma => kernel_rfl) Try.func3 closed
    (of_decide_eq_true (by as_aux_lemma => kernel_rfl)) (by unfold Func.isWrapper; first | (rw [if_pos (by decide +kernel)]; kernel_rfl) | (rw [if_neg (by decide +kernel)]; exact ⟨rfl, rfl⟩))
    (fun os started H enc _ => lifted os started H enc)

end Go.Proofs.Ytgbakgaegldomaa.lawWriteData
