/- Texts joined into one: the walks and laws that the last text leans on. Conditions: as each says. -/
import Derived.Test.YtiiahjnfbhcgmaaDoorMFnExactFormatWriterLawF
import Derived.Test.YtiiahjnfbhcgmaaDoorDraw3
import Derived.Test.YtiiahjnfbhcgmaaDoorKV
import Derived.Test.YtiiahjnfbhcgmaaDoorMFnExactFormatWriterLawB
import Derived.Test.YtiiahjnfbhcgmaaDoorMFnExactFormatWriterLawA
import Derived.Test.YtiiahjnfbhcgmaaDoorWa
import Derived.Test.YtiiahjnfbhcgmaaDoorWb
import Derived.Test.YtiiahjnfbhcgmaaDoorTree6
import Derived.Lib.OwnBridge
import Derived.Test.YtiiahjnfbhcgmaaDoorComp
import Derived.SliceStrings
import Derived.Test.YtiiahjnfbhcgmaaDoorMFnExactFormatWriterLawE
import Derived.Deep.SlicePairs

set_option linter.unusedVariables false
set_option linter.unusedSimpArgs false
/- Walks of the reference's draws of dictionaries, settings and containers. Conditions: the reader is one (Rdr), its place is bounded; the setting is valid. -/
namespace Go.Proofs.YtiiahjnfbhcgmaaDoor
set_option linter.unusedVariables false
set_option linter.unusedSimpArgs false
open Go Go.RowKit

theorem RdUp.made {rb : Nat} {B : Value} {w w' : World} {p C M : Nat} (hm : Hid (∀ N', Rdr rb B w N' → p ≤ N')) (hg : w.grownBy w' (some rb)) (hr : Rdr rb B w' M) (hM : M ≤ p + C) : RdUp rb B C w w' :=
  ⟨hg, fun N' h' => hr.mono (by have := hm N' h'; omega)⟩
end Go.Proofs.YtiiahjnfbhcgmaaDoor

/- Walks of the reference's draws of a block, from the bytes of an input. Conditions: the bytes can be read. -/
namespace Go.Proofs.YtiiahjnfbhcgmaaDoor
set_option linter.unusedVariables false
set_option linter.unusedSimpArgs false
open Go Go.RowKit

/-- Bytes that are handed in. -/
def ArgU (w : World) (v : Value) (l : List UInt8) : Prop := ∃ (a : Option Addr) (cap : Nat), v = .slice a l.length cap ∧ l.length ≤ cap ∧ cap ≤ maxLen ∧
  (0 < l.length → ∃ b off, a = some ⟨b, off, none⟩ ∧ b < w.heap.size ∧ ∀ i x, l[i]? = some x → w.cell? ⟨b, off + i, none⟩ = some (.int .u8 x.toNat))
theorem ArgU.up {w w' : World} {v : Value} {l : List UInt8} (h : ArgU w v l) (hu : Up w w') : ArgU w' v l := by
  obtain ⟨a, cap, h1, h2, h3, h4⟩ := h
  refine ⟨a, cap, h1, h2, h3, fun hp => ?_⟩
  obtain ⟨b, off, e1, e2, e3⟩ := h4 hp
  exact ⟨b, off, e1, Nat.lt_of_lt_of_le e2 (Below.size hu), fun i x hi => (Below.cell (p := ⟨b, off + i, none⟩) hu e2).trans (e3 i x hi)⟩
end Go.Proofs.YtiiahjnfbhcgmaaDoor

/- Walks of the laws' eqPair, eqPairS, eqKnown, eqWriter at values that are the same, and of szPairS, szKnown, szWriter. Conditions: the pairs can be read. -/
namespace Go.Proofs.YtiiahjnfbhcgmaaDoor
set_option linter.unusedVariables false
set_option linter.unusedSimpArgs false
open Go Go.RowKit

set_option maxRecDepth 100000 in
set_option maxHeartbeats 1000000 in
theorem eqPair_same (x y : Int) (w : World) :
    Calls Tryd.prog 99  #[.agg #[.int .i64 x, .int .i64 y], .agg #[.int .i64 x, .int .i64 y]] w (Same (.bool true) w) := by
  go_enter Tryd.func99, Tryd.ntmps99
  go_wp2
  go_ret
  refine ⟨rfl, ?_⟩
  (repeat (first | with_reducible exact Up.refl _ | with_reducible assumption | with_reducible refine Up.set ?_ (by first | exact Nat.le_refl _ | (simp only []; omega) | (simp; omega)) _ | with_reducible refine Up.alloc ?_ _ | with_reducible refine Up.drew ?_ | refine Up.trans ?_ (by with_reducible assumption)))
set_option maxRecDepth 100000 in
set_option maxHeartbeats 1000000 in
theorem eqSet_same (o l m : Int) (w : World) :
    Calls Tryd.prog 73  #[.agg #[.int .i64 o, .int .i64 l, .int .i64 m], .agg #[.int .i64 o, .int .i64 l, .int .i64 m]] w (Same (.bool true) w) := by
  go_enter Tryd.func73, Tryd.ntmps73
  go_wp2
  go_ret
  refine ⟨rfl, ?_⟩
  (repeat (first | with_reducible exact Up.refl _ | with_reducible assumption | with_reducible refine Up.set ?_ (by first | exact Nat.le_refl _ | (simp only []; omega) | (simp; omega)) _ | with_reducible refine Up.alloc ?_ _ | with_reducible refine Up.drew ?_ | refine Up.trans ?_ (by with_reducible assumption)))

def RelEp (n : Nat) (w : World) (i : Value) (wr : World) : Prop := ∃ j : Nat, j ≤ n ∧ i = .int .i64 j ∧ Up w wr

set_option maxRecDepth 100000 in
set_option maxHeartbeats 4000000 in
theorem eqPairS_same (v v' : Value) (ps : List PairD) (lo lo' : Nat) (w : World) (hr : RdP lo w v ps) (hr' : RdP lo' w v' ps) :
    Calls Tryd.prog 74  #[v, v'] w (Same (.bool true) w) := by
  obtain ⟨a, cap, rfl, hc1, hc2, hc3, hsome⟩ := hr
  obtain ⟨a', cap', rfl, hc1', hc2', hc3', hsome'⟩ := hr'
  unfold maxLen at hc2 hc2'
  go_enter Tryd.func74, Tryd.ntmps74
  go_wp2_with fail
  go_loopw [5] (fun i wr => RelEp ps.length w i wr) (fun i _ => ps.length - (intOf i).toNat)
  case atStart => exact ⟨0, Nat.zero_le _, rfl, Up.refl _⟩
  case round =>
    obtain ⟨j, hj, rfl, hup⟩ := hrel
    by_cases hlt : j < ps.length
    · obtain ⟨b, off, rfl, hlo, hbl, hcells⟩ := hsome (by omega)
      obtain ⟨b', off', rfl, hlo', hbl', hcells'⟩ := hsome' (by omega)
      obtain ⟨q0, q1⟩ := hcells j ps[j] (List.getElem?_eq_getElem hlt)
      obtain ⟨t0, t1⟩ := hcells' j ps[j] (List.getElem?_eq_getElem hlt)
      clear hcells hcells'
      have p0 := (hup.cell (p := ⟨b, off + j * 2, none⟩) hbl).trans q0
      have p1 := (hup.cell (p := ⟨b, off + j * 2 + 1, none⟩) hbl).trans q1
      have u0 := (hup.cell (p := ⟨b', off' + j * 2, none⟩) hbl').trans t0
      have u1 := (hup.cell (p := ⟨b', off' + j * 2 + 1, none⟩) hbl').trans t1
      have hbw : b < wr.heap.size := Nat.lt_of_lt_of_le hbl hup.size
      have hbw' : b' < wr.heap.size := Nat.lt_of_lt_of_le hbl' hup.size
      have cE := fun wq => eqPair_same ps[j].pre ps[j].byt wq
      go_wp2_with fail
      refine wp_region_up 10 (by kernel_rfl) (by kernel_rfl) ?_
      simp only [List.take, List.drop]
      repeat (refine wpUp_step (fun K hK => ?_); go_simp; (try simp only [↓IntWalk.iteOmega]); first
        | (refine hK _ _ ?_; clear hK K)
        | (apply stepU_c
           · intro wq hwq; (have hbq := bcell hwq; (repeat (first | refine fills_no (by rfl) ?_ | refine fills_yes (by rfl) (fun vq hvq => ?_))); simp only [List.filter_nil, fills]; unfold upAt; go_simp; (try go_bits); (try simp only [↓IntWalk.iteOmega]); (try (rw [dif_pos (by omega)]; go_simp; try go_bits)); first | exact upOut_value | (apply upOut_call; (go_at_call 99; exact cE _)) | (apply upOut_eq; (go_at_call 99; exact cE _)))
           go_simp; refine hK _ _ ?_; clear hK K))
      refine wpUp_nil (fun wq hwq => ?_)
      simp only [fills]
      go_wp2_with fail
      go_roundw
      case rel => exact ⟨j + 1, by omega, by go_num, by (repeat (first | with_reducible exact Up.refl _ | with_reducible assumption | with_reducible refine Up.set ?_ (by first | exact Nat.le_refl _ | (simp only []; omega) | (simp; omega)) _ | with_reducible refine Up.alloc ?_ _ | with_reducible refine Up.drew ?_ | refine Up.trans ?_ (by with_reducible assumption)))⟩
      case measure => simp [intOf]; omega
    · have e : j = ps.length := by omega
      subst e
      go_wp2_with fail
      go_ret
      exact ⟨rfl, hup⟩

set_option maxRecDepth 100000 in
set_option maxHeartbeats 4000000 in
theorem eqKnown_same (k : KnD) (v v' : Value) (lo lo' : Nat) (w : World) (hr : RdP lo w v k.ps) (hr' : RdP lo' w v' k.ps) :
    Calls Tryd.prog 42  #[kV k v, kV k v'] w (Same (.bool true) w) := by
  have cS := fun wq => eqSet_same k.set.ord k.set.lit k.set.most wq
  have cP := fun wq h1 h2 => eqPairS_same v v' k.ps lo lo' wq h1 h2
  have hrt := fun (wq : World) (hu : Up w wq) => hr.up hu
  have hrt' := fun (wq : World) (hu : Up w wq) => hr'.up hu
  obtain ⟨a, cap, rfl, -⟩ := id hr
  obtain ⟨a', cap', rfl, -⟩ := id hr'
  clear hr hr'
  have hX0 : KnAt w.heap.size k (.slice a k.ps.length cap) ((w.alloc (.cells #[.int .i64 k.set.ord, .int .i64 k.set.lit, .int .i64 k.set.most, .slice a k.ps.length cap, .int .i64 k.base, .int .i64 k.last] 41)).alloc (.cells #[.int .i64 k.set.ord, .int .i64 k.set.lit, .int .i64 k.set.most, .slice a' k.ps.length cap', .int .i64 k.base, .int .i64 k.last] 41)) := box_up ((Up.refl _).alloc _) (MapKept.heap_alloc w _).1
  have hX1 : KnAt (w.heap.size + 1) k (.slice a' k.ps.length cap') ((w.alloc (.cells #[.int .i64 k.set.ord, .int .i64 k.set.lit, .int .i64 k.set.most, .slice a k.ps.length cap, .int .i64 k.base, .int .i64 k.last] 41)).alloc (.cells #[.int .i64 k.set.ord, .int .i64 k.set.lit, .int .i64 k.set.most, .slice a' k.ps.length cap', .int .i64 k.base, .int .i64 k.last] 41)) := alloc2 w _ _
  simp only [kV]
  go_enter Tryd.func42, Tryd.ntmps42
  go_wp2_with (first | ((go_at_call 73; (with_reducible refine (cS _).mono ?_); rintro e w1 ⟨rfl, U1⟩; have B1 := bcell U1; have Z1 := U1.size; (try simp at Z1); (try rw [Nat.add_one_le_iff] at Z1)); obtain ⟨b0, r0, r1, r2, r3, r4, r5⟩ := KnAt.cells (box_up U1 hX0); obtain ⟨b1, s0, s1, s2, s3, s4, s5⟩ := KnAt.cells (box_up U1 hX1)) | ((go_at_call 74; (with_reducible refine (cP _ (hrt _ (by (repeat (first | with_reducible exact Up.refl _ | with_reducible assumption | with_reducible refine Up.set ?_ (by first | exact Nat.le_refl _ | (simp only []; omega) | (simp; omega)) _ | with_reducible refine Up.alloc ?_ _ | with_reducible refine Up.drew ?_ | refine Up.trans ?_ (by with_reducible assumption))))) (hrt' _ (by (repeat (first | with_reducible exact Up.refl _ | with_reducible assumption | with_reducible refine Up.set ?_ (by first | exact Nat.le_refl _ | (simp only []; omega) | (simp; omega)) _ | with_reducible refine Up.alloc ?_ _ | with_reducible refine Up.drew ?_ | refine Up.trans ?_ (by with_reducible assumption)))))).mono ?_); rintro e w2 ⟨rfl, U2⟩; have B2 := bcell U2; have Z2 := U2.size; (try simp at Z2); (try rw [Nat.add_one_le_iff] at Z2)); obtain ⟨b0, r0, r1, r2, r3, r4, r5⟩ := KnAt.cells (box_up (U1.trans U2) hX0); obtain ⟨b1, s0, s1, s2, s3, s4, s5⟩ := KnAt.cells (box_up (U1.trans U2) hX1)) | fail)
  go_ret
  refine ⟨rfl, ?_⟩
  (repeat (first | with_reducible exact Up.refl _ | with_reducible assumption | with_reducible refine Up.set ?_ (by first | exact Nat.le_refl _ | (simp only []; omega) | (simp; omega)) _ | with_reducible refine Up.alloc ?_ _ | with_reducible refine Up.drew ?_ | refine Up.trans ?_ (by with_reducible assumption)))

set_option maxRecDepth 100000 in
set_option maxHeartbeats 4000000 in
theorem eqWriter_same (x : WrD) (v v' : Value) (lo lo' : Nat) (w : World) (hr : RdP lo w v x.k.ps) (hr' : RdP lo' w v' x.k.ps) :
    Calls Tryd.prog 16  #[wrV x v, wrV x v'] w (Same (.bool true) w) := by
  have cK := fun wq h1 h2 => eqKnown_same x.k v v' lo lo' wq h1 h2
  have hrt := fun (wq : World) (hu : Up w wq) => hr.up hu
  have hrt' := fun (wq : World) (hu : Up w wq) => hr'.up hu
  obtain ⟨a, cap, rfl, -⟩ := id hr
  obtain ⟨a', cap', rfl, -⟩ := id hr'
  clear hr hr'
  have hX0 : WrAt w.heap.size x (.slice a x.k.ps.length cap) ((w.alloc (.cells #[.int .i64 x.k.set.ord, .int .i64 x.k.set.lit, .int .i64 x.k.set.most, .slice a x.k.ps.length cap, .int .i64 x.k.base, .int .i64 x.k.last, .string (bs x.pend), .string (bs x.bits), .bool x.beg] 43)).alloc (.cells #[.int .i64 x.k.set.ord, .int .i64 x.k.set.lit, .int .i64 x.k.set.most, .slice a' x.k.ps.length cap', .int .i64 x.k.base, .int .i64 x.k.last, .string (bs x.pend), .string (bs x.bits), .bool x.beg] 43)) := box_up ((Up.refl _).alloc _) (MapKept.heap_alloc w _).1
  have hX1 : WrAt (w.heap.size + 1) x (.slice a' x.k.ps.length cap') ((w.alloc (.cells #[.int .i64 x.k.set.ord, .int .i64 x.k.set.lit, .int .i64 x.k.set.most, .slice a x.k.ps.length cap, .int .i64 x.k.base, .int .i64 x.k.last, .string (bs x.pend), .string (bs x.bits), .bool x.beg] 43)).alloc (.cells #[.int .i64 x.k.set.ord, .int .i64 x.k.set.lit, .int .i64 x.k.set.most, .slice a' x.k.ps.length cap', .int .i64 x.k.base, .int .i64 x.k.last, .string (bs x.pend), .string (bs x.bits), .bool x.beg] 43)) := alloc2 w _ _
  unfold wrV
  simp only [kV] at cK
  go_enter Tryd.func16, Tryd.ntmps16
  go_wp2_with (first | ((go_at_call 42; (with_reducible refine (cK _ (hrt _ (by (repeat (first | with_reducible exact Up.refl _ | with_reducible assumption | with_reducible refine Up.set ?_ (by first | exact Nat.le_refl _ | (simp only []; omega) | (simp; omega)) _ | with_reducible refine Up.alloc ?_ _ | with_reducible refine Up.drew ?_ | refine Up.trans ?_ (by with_reducible assumption))))) (hrt' _ (by (repeat (first | with_reducible exact Up.refl _ | with_reducible assumption | with_reducible refine Up.set ?_ (by first | exact Nat.le_refl _ | (simp only []; omega) | (simp; omega)) _ | with_reducible refine Up.alloc ?_ _ | with_reducible refine Up.drew ?_ | refine Up.trans ?_ (by with_reducible assumption)))))).mono ?_); rintro e w1 ⟨rfl, U1⟩; have B1 := bcell U1; have Z1 := U1.size; (try simp at Z1); (try rw [Nat.add_one_le_iff] at Z1)); obtain ⟨b0, r0, r1, r2, r3, r4, r5, r6, r7, r8⟩ := (hX0.up U1).cells; obtain ⟨b1, s0, s1, s2, s3, s4, s5, s6, s7, s8⟩ := (hX1.up U1).cells) | fail)
  go_ret
  refine ⟨rfl, ?_⟩
  (repeat (first | with_reducible exact Up.refl _ | with_reducible assumption | with_reducible refine Up.set ?_ (by first | exact Nat.le_refl _ | (simp only []; omega) | (simp; omega)) _ | with_reducible refine Up.alloc ?_ _ | with_reducible refine Up.drew ?_ | refine Up.trans ?_ (by with_reducible assumption)))

/-- What szPairS, szKnown, szWriter leave of a measure: -1 where it does not reach. -/
def leftI (t n : Int) : Int := if t - n < 0 then -1 else t - n
set_option maxRecDepth 100000 in
theorem szPairS_any (a : Option Addr) (n cap : Nat) (t : Int) (w : World) (hn : n ≤ 9223372036854775807) (h0 : 0 ≤ t) (ht : t ≤ 1048576) :
    Calls Tryd.prog 60  #[.slice a n cap, .int .i64 t] w (Same (.int .i64 (leftI t n)) w) := by
  by_cases h : t - n < 0
  · rw [show leftI t n = -1 by unfold leftI; rw [if_pos h]]
    go_enter Tryd.func60, Tryd.ntmps60
    go_wp2
    go_ret
    exact ⟨rfl, Up.refl _⟩
  · rw [show leftI t n = t - n by unfold leftI; rw [if_neg h]]
    go_enter Tryd.func60, Tryd.ntmps60
    go_wp2
    go_ret
    exact ⟨rfl, Up.refl _⟩

theorem leftI_no {t n : Int} (h : t - n < 0) : leftI t n = -1 := by unfold leftI; rw [if_pos h]
theorem leftI_yes {t n : Int} (h : ¬ t - n < 0) : leftI t n = t - n := by unfold leftI; rw [if_neg h]
set_option maxRecDepth 100000 in
set_option maxHeartbeats 4000000 in
theorem szKnown_any (o l m ba la : Int) (a : Option Addr) (n cap : Nat) (t : Int) (w : World) (hn : n ≤ 9223372036854775807) (h0 : 0 ≤ t) (ht : t ≤ 1048576) :
    Calls Tryd.prog 33  #[.agg #[.int .i64 o, .int .i64 l, .int .i64 m, .slice a n cap, .int .i64 ba, .int .i64 la], .int .i64 t] w (Same (.int .i64 (leftI t n)) w) := by
  have cP := fun wq => szPairS_any a n cap t wq hn h0 ht
  by_cases h : t - n < 0
  · rw [leftI_no h] at cP ⊢
    go_enter Tryd.func33, Tryd.ntmps33
    go_wp2_with (first | (go_at_call 60; (with_reducible refine (cP _).mono ?_); rintro e w1 ⟨rfl, U1⟩; have B1 := bcell U1; have Z1 := U1.size; (try simp at Z1); (try rw [Nat.add_one_le_iff] at Z1)) | fail)
    go_ret
    refine ⟨rfl, ?_⟩
    (repeat (first | with_reducible exact Up.refl _ | with_reducible assumption | with_reducible refine Up.set ?_ (by first | exact Nat.le_refl _ | (simp only []; omega) | (simp; omega)) _ | with_reducible refine Up.alloc ?_ _ | with_reducible refine Up.drew ?_ | refine Up.trans ?_ (by with_reducible assumption)))
  · rw [leftI_yes h] at cP ⊢
    go_enter Tryd.func33, Tryd.ntmps33
    go_wp2_with (first | (go_at_call 60; (with_reducible refine (cP _).mono ?_); rintro e w1 ⟨rfl, U1⟩; have B1 := bcell U1; have Z1 := U1.size; (try simp at Z1); (try rw [Nat.add_one_le_iff] at Z1)) | fail)
    go_ret
    refine ⟨rfl, ?_⟩
    (repeat (first | with_reducible exact Up.refl _ | with_reducible assumption | with_reducible refine Up.set ?_ (by first | exact Nat.le_refl _ | (simp only []; omega) | (simp; omega)) _ | with_reducible refine Up.alloc ?_ _ | with_reducible refine Up.drew ?_ | refine Up.trans ?_ (by with_reducible assumption)))
/-- What szWriter gives. -/
def szW (n p b : Int) (t : Int) : Int := if t - n < 0 then -1 else if t - n - p < 0 then -1 else if t - n - p - b < 0 then -1 else t - n - p - b
set_option maxRecDepth 100000 in
set_option maxHeartbeats 4000000 in
theorem szWriter_any (o l m ba la : Int) (a : Option Addr) (n cap : Nat) (pe bi : ByteArray) (be : Bool) (t : Int) (w : World) (hn : n ≤ 9223372036854775807) (hp : pe.size ≤ 9223372036854775807) (hb : bi.size ≤ 9223372036854775807) (h0 : 0 ≤ t) (ht : t ≤ 1048576) :
    Calls Tryd.prog 12  #[.agg #[.int .i64 o, .int .i64 l, .int .i64 m, .slice a n cap, .int .i64 ba, .int .i64 la, .string pe, .string bi, .bool be], .int .i64 t] w (Same (.int .i64 (szW n pe.size bi.size t)) w) := by
  have cK := fun wq => szKnown_any o l m ba la a n cap t wq hn h0 ht
  unfold szW
  by_cases h : t - n < 0
  · rw [leftI_no h] at cK
    rw [if_pos h]
    go_enter Tryd.func12, Tryd.ntmps12
    go_wp2_with (first | (go_at_call 33; (with_reducible refine (cK _).mono ?_); rintro e w1 ⟨rfl, U1⟩; have B1 := bcell U1; have Z1 := U1.size; (try simp at Z1); (try rw [Nat.add_one_le_iff] at Z1)) | fail)
    go_ret
    refine ⟨rfl, ?_⟩
    (repeat (first | with_reducible exact Up.refl _ | with_reducible assumption | with_reducible refine Up.set ?_ (by first | exact Nat.le_refl _ | (simp only []; omega) | (simp; omega)) _ | with_reducible refine Up.alloc ?_ _ | with_reducible refine Up.drew ?_ | refine Up.trans ?_ (by with_reducible assumption)))
  · rw [leftI_yes h] at cK
    rw [if_neg h]
    by_cases h2 : t - n - pe.size < 0
    · rw [if_pos h2]
      go_enter Tryd.func12, Tryd.ntmps12
      go_wp2_with (first | (go_at_call 33; (with_reducible refine (cK _).mono ?_); rintro e w1 ⟨rfl, U1⟩; have B1 := bcell U1; have Z1 := U1.size; (try simp at Z1); (try rw [Nat.add_one_le_iff] at Z1)) | fail)
      go_ret
      refine ⟨rfl, ?_⟩
      (repeat (first | with_reducible exact Up.refl _ | with_reducible assumption | with_reducible refine Up.set ?_ (by first | exact Nat.le_refl _ | (simp only []; omega) | (simp; omega)) _ | with_reducible refine Up.alloc ?_ _ | with_reducible refine Up.drew ?_ | refine Up.trans ?_ (by with_reducible assumption)))
    · rw [if_neg h2]
      by_cases h3 : t - n - pe.size - bi.size < 0
      · rw [if_pos h3]
        go_enter Tryd.func12, Tryd.ntmps12
        go_wp2_with (first | (go_at_call 33; (with_reducible refine (cK _).mono ?_); rintro e w1 ⟨rfl, U1⟩; have B1 := bcell U1; have Z1 := U1.size; (try simp at Z1); (try rw [Nat.add_one_le_iff] at Z1)) | fail)
        go_ret
        refine ⟨rfl, ?_⟩
        (repeat (first | with_reducible exact Up.refl _ | with_reducible assumption | with_reducible refine Up.set ?_ (by first | exact Nat.le_refl _ | (simp only []; omega) | (simp; omega)) _ | with_reducible refine Up.alloc ?_ _ | with_reducible refine Up.drew ?_ | refine Up.trans ?_ (by with_reducible assumption)))
      · rw [if_neg h3]
        go_enter Tryd.func12, Tryd.ntmps12
        go_wp2_with (first | (go_at_call 33; (with_reducible refine (cK _).mono ?_); rintro e w1 ⟨rfl, U1⟩; have B1 := bcell U1; have Z1 := U1.size; (try simp at Z1); (try rw [Nat.add_one_le_iff] at Z1)) | fail)
        go_ret
        refine ⟨rfl, ?_⟩
        (repeat (first | with_reducible exact Up.refl _ | with_reducible assumption | with_reducible refine Up.set ?_ (by first | exact Nat.le_refl _ | (simp only []; omega) | (simp; omega)) _ | with_reducible refine Up.alloc ?_ _ | with_reducible refine Up.drew ?_ | refine Up.trans ?_ (by with_reducible assumption)))

end Go.Proofs.YtiiahjnfbhcgmaaDoor

/- Walks of the laws' toPair, toPairS, toKnown, toWriter: a law's writer as the program's. Conditions: the pairs can be read. -/
namespace Go.Proofs.YtiiahjnfbhcgmaaDoor
set_option linter.unusedVariables false
set_option linter.unusedSimpArgs false
open Go Go.RowKit

set_option maxRecDepth 100000 in
set_option maxHeartbeats 1000000 in
theorem toPair_any (x y : Int) (w : World) :
    Calls Tryd.prog 91  #[.agg #[.int .i64 x, .int .i64 y]] w (Same (.agg #[.int .i64 x, .int .i64 y]) w) := by
  go_enter Tryd.func91, Tryd.ntmps91
  go_wp2
  refine bodyPost_ret (v := .agg #[.int .i64 x, .int .i64 y]) (by simp [results, Tryd.results91, go_sem]; try rfl) rfl ⟨rfl, ?_⟩
  (repeat (first | with_reducible exact Up.refl _ | with_reducible assumption | with_reducible refine Up.set ?_ (by first | exact Nat.le_refl _ | (simp only []; omega) | (simp; omega)) _ | with_reducible refine Up.alloc ?_ _ | with_reducible refine Up.drew ?_ | refine Up.trans ?_ (by with_reducible assumption)))

/-- The first k pairs, then zeros. -/
def midPr (ps : List PairD) (k : Nat) : List PairD := ps.take k ++ List.replicate (ps.length - k) ⟨0, 0⟩
theorem midPr_zero (ps : List PairD) : midPr ps 0 = List.replicate ps.length ⟨0, 0⟩ := by unfold midPr; simp
theorem midPr_all (ps : List PairD) : midPr ps ps.length = ps := by unfold midPr; simp
theorem cellsPr_app (a b : List PairD) : cellsPr (a ++ b) = cellsPr a ++ cellsPr b := by unfold cellsPr; rw [List.flatMap_append]
theorem midPr_step (ps : List PairD) (k : Nat) (h : k < ps.length) : ((cellsPr (midPr ps k)).set (k * 2) (.int .i64 ps[k].pre)).set (k * 2 + 1) (.int .i64 ps[k].byt) = cellsPr (midPr ps (k + 1)) := by
  have hl : (cellsPr (ps.take k)).length = k * 2 := by rw [cellsPr_length, List.length_take]; omega
  have e1 : midPr ps k = ps.take k ++ (⟨0, 0⟩ :: List.replicate (ps.length - (k + 1)) ⟨0, 0⟩) := by
    unfold midPr; rw [← List.replicate_succ]; congr 2; omega
  have e2 : midPr ps (k + 1) = ps.take k ++ (ps[k] :: List.replicate (ps.length - (k + 1)) ⟨0, 0⟩) := by
    unfold midPr
    rw [show ps.take (k + 1) = ps.take k ++ [ps[k]] from (List.take_append_getElem h).symm, List.append_assoc]
    rfl
  rw [e1, e2, cellsPr_app, cellsPr_app, List.set_append_right _ _ (by omega), hl, List.set_append_right _ _ (by omega), hl]
  congr 1
  rw [Nat.sub_self, show k * 2 + 1 - k * 2 = 1 by omega]
  rfl
theorem midPr_at0 {ps : List PairD} {k : Nat} (h : k < ps.length) : ∃ u v, (cellsPr (midPr ps k))[k * 2]? = some (.int .i64 u) ∧ (cellsPr (midPr ps k))[k * 2 + 1]? = some (.int .i64 v) := by
  have hl : (cellsPr (ps.take k)).length = k * 2 := by rw [cellsPr_length, List.length_take]; omega
  have e1 : midPr ps k = ps.take k ++ (⟨0, 0⟩ :: List.replicate (ps.length - (k + 1)) ⟨0, 0⟩) := by
    unfold midPr; rw [← List.replicate_succ]; congr 2; omega
  refine ⟨0, 0, ?_, ?_⟩
  · rw [e1, cellsPr_app, List.getElem?_append_right (by omega), hl, Nat.sub_self]; rfl
  · rw [e1, cellsPr_app, List.getElem?_append_right (by omega), hl, show k * 2 + 1 - k * 2 = 1 by omega]; rfl
theorem cells_rep (n : Nat) : cellsPr (List.replicate n ⟨0, 0⟩) = List.replicate (n * 2) (Value.int .i64 0) := by
  induction n with
  | zero => rfl
  | succ n ih =>
    rw [List.replicate_succ]
    show prC ⟨0, 0⟩ ++ cellsPr (List.replicate n ⟨0, 0⟩) = _
    rw [ih, show (n + 1) * 2 = n * 2 + 1 + 1 by omega, List.replicate_succ, List.replicate_succ]
    rfl
theorem made_list2 (n : Nat) : (madeCells #[Value.int .i64 0, Value.int .i64 0] (n * 2)).toList.take (n * 2) = List.replicate (n * 2) (Value.int .i64 0) := by
  apply List.ext_getElem
  · simp [madeCells]
  · intro i h1 h2
    rcases Nat.mod_two_eq_zero_or_one i with h | h <;> simp [madeCells, h]
theorem made_pairs (w : World) (n : Nat) (hn : n ≤ maxLen) : ownPr (w.alloc (.cells (madeCells #[.int .i64 0, .int .i64 0] (n * 2)) 99)) w.heap.size (.slice (some ⟨w.heap.size, 0, none⟩) n n) (List.replicate n ⟨0, 0⟩) := by
  have hl : (List.replicate n (⟨0, 0⟩ : PairD)).length = n := List.length_replicate
  unfold ownPr
  rw [hl]
  refine ⟨by rw [cellsPr_length, hl], .inr ⟨w.heap.size, n, _, rfl, Nat.le_refl _, (MapKept.heap_alloc w _).1, Nat.le_refl _, hn, ?_, ?_⟩⟩
  · simp [madeCells]
  · rw [made_list2, cells_rep]

def RelTp (ps : List PairD) (w : World) (i : Value) (wr : World) : Prop := ∃ k : Nat, k ≤ ps.length ∧ i = .int .i64 k ∧ Up w wr ∧ wr.ownsRow w.heap.size 99 2 (.slice (some ⟨w.heap.size, 0, none⟩) ps.length ps.length) ps.length (cellsPr (midPr ps k))

set_option maxRecDepth 100000 in
set_option maxHeartbeats 4000000 in
theorem toPairS_any (v : Value) (ps : List PairD) (lo : Nat) (w : World) (hr : RdP lo w v ps) (hn : ps.length ≤ 1048576) :
    Calls Tryd.prog 67  #[v] w (fun e w' => ∃ v', e = .returned v' ∧ ownPr w' w.heap.size v' ps ∧ Up w w') := by
  obtain ⟨i0, hi0, hz0, hz1, hz2⟩ := info_parts infoPair
  have hmk : ∀ (w : World) (n : Nat), n ≤ 1048576 → (Instr.makeSlice 39 (.int .i64 (n : Int)) (.int .i64 (n : Int))).run Tryd.prog w = .ok (.slice (some ⟨w.heap.size, 0, none⟩) n n) (w.alloc (.cells (madeCells #[.int .i64 0, .int .i64 0] (n * 2)) 99)) := fun w n hn => by
    have := run_make (P := Tryd.prog) w 39 99 i0 _ Tryd.underlying39 hi0 hz0 .i64 .i64 n n (by omega) (Int.le_refl _) (by rw [hz2]; omega) (by omega)
    rw [hz1] at this
    simpa [Value.cells] using this
  have hmk' := fun w => hmk w ps.length hn
  clear hmk hz0 hz1 hz2 hi0
  obtain ⟨a, cap, rfl, hc1, hc2, hc3, hsome⟩ := hr
  unfold maxLen at hc2
  go_enter Tryd.func67, Tryd.ntmps67
  go_wp2_with fail
  go_loopw [4] (fun i wr => RelTp ps w i wr) (fun i _ => ps.length - (intOf i).toNat)
  case atStart => exact ⟨0, Nat.zero_le _, rfl, (Up.refl _).alloc _, by rw [midPr_zero]; have := made_pairs w ps.length (by unfold maxLen; omega); unfold ownPr at this; rwa [List.length_replicate] at this⟩
  case round =>
    obtain ⟨j, hj, rfl, hup, ho⟩ := hrel
    by_cases hlt : j < ps.length
    · obtain ⟨b, off, rfl, hlo, hbl, hcells⟩ := hsome (by omega)
      obtain ⟨q0, q1⟩ := hcells j ps[j] (List.getElem?_eq_getElem hlt)
      clear hcells
      have p0 := (hup.cell (p := ⟨b, off + j * 2, none⟩) hbl).trans q0
      have p1 := (hup.cell (p := ⟨b, off + j * 2 + 1, none⟩) hbl).trans q1
      have hrl : w.heap.size < wr.heap.size := (ho.lt _ rfl).2
      obtain ⟨u0, v0, hu0, hv0⟩ := midPr_at0 hlt
      have d0 := ownsRow_cell ho hu0
      have d1 := ownsRow_cell ho hv0
      have f0 := ownsRow_free ho (j * 2)
      have f1 := ownsRow_free ho (j * 2 + 1)
      have cE := fun wq => toPair_any ps[j].pre ps[j].byt wq
      have hbw : b < wr.heap.size := Nat.lt_of_lt_of_le hbl hup.size
      clear hu0 hv0
      go_wp2_with (first | (go_at_call 91; (with_reducible refine (cE _).mono ?_); rintro e w1 ⟨rfl, U1⟩; have B1 := bcell U1; have Z1 := U1.size; (try simp at Z1); (try rw [Nat.add_one_le_iff] at Z1)) | fail)
      have ho1 := ownsRow_up ho U1
      go_roundw
      case rel => exact ⟨j + 1, by omega, by go_num, ((hup.trans U1).set (p := ⟨w.heap.size, j * 2, none⟩) (Nat.le_refl _) _).set (p := ⟨w.heap.size, j * 2 + 1, none⟩) (Nat.le_refl _) _, by rw [← midPr_step ps j hlt]; exact ownsRow_set (ownsRow_set ho1 (j * 2) _) (j * 2 + 1) _⟩
      case measure => simp [intOf]; omega
    · have e : j = ps.length := by omega
      subst e
      go_wp2_with fail
      go_ret
      rw [midPr_all] at ho
      exact ⟨_, rfl, ho, hup⟩

set_option maxRecDepth 100000 in
set_option maxHeartbeats 4000000 in
theorem toKnown_any (k : KnD) (v : Value) (lo : Nat) (w : World) (hr : RdP lo w v k.ps) (hn : k.ps.length ≤ 1048576) :
    Calls Tryd.prog 38  #[kV k v] w (KnPost k w) := by
  have cS := fun wq => toSet_any k.set.ord k.set.lit k.set.most wq
  have cP := fun wq h => toPairS_any v k.ps lo wq h hn
  have hrt := fun (wq : World) (hu : Up w wq) => hr.up hu
  obtain ⟨a, cap, rfl, -⟩ := id hr
  clear hr
  simp only [kV]
  go_enter Tryd.func38, Tryd.ntmps38
  go_wp2_with (first | (go_at_call 66; (with_reducible refine (cS _).mono ?_); rintro e w1 ⟨rfl, U1⟩; have B1 := bcell U1; have Z1 := U1.size; (try simp at Z1); (try rw [Nat.add_one_le_iff] at Z1)) | fail)
  have hK3 : KnAt (w.heap.size + 1 + 1) ⟨k.set, [], 0, 0⟩ (.slice none 0 0) (((w1.setCell ⟨w.heap.size + 1 + 1, 0, none⟩ (.int .i64 k.set.ord)).setCell ⟨w.heap.size + 1 + 1, 1, none⟩ (.int .i64 k.set.lit)).setCell ⟨w.heap.size + 1 + 1, 2, none⟩ (.int .i64 k.set.most)) := by
    have h0 : w1.heap[w.heap.size + 1 + 1]? = some (.cells #[.int .i64 0, .int .i64 0, .int .i64 0, .slice none 0 0, .int .i64 0, .int .i64 0] 41) := box_up U1 (alloc3c w _ _ _)
    have h1 := box_set (box_set (box_set h0 0 (.int .i64 k.set.ord)) 1 (.int .i64 k.set.lit)) 2 (.int .i64 k.set.most)
    unfold KnAt
    simpa using h1
  have hne1 : w.heap.size ≠ w.heap.size + 1 + 1 := by omega
  have hne2 : w.heap.size + 1 ≠ w.heap.size + 1 + 1 := by omega
  have hK1 : w1.heap[w.heap.size]? = some (.cells #[.int .i64 k.set.ord, .int .i64 k.set.lit, .int .i64 k.set.most, .slice a k.ps.length cap, .int .i64 k.base, .int .i64 k.last] 33) := box_up U1 (box_up (((Up.refl _).alloc _).alloc _) (MapKept.heap_alloc w _).1)
  have hK2 : KnAt (w.heap.size + 1) ⟨⟨0, 0, 0⟩, [], 0, 0⟩ (.slice none 0 0) w1 := box_up U1 (box_up ((Up.refl _).alloc _) (alloc2 w _ _))
  have hK1 : (((w1.setCell ⟨w.heap.size + 1 + 1, 0, none⟩ (.int .i64 k.set.ord)).setCell ⟨w.heap.size + 1 + 1, 1, none⟩ (.int .i64 k.set.lit)).setCell ⟨w.heap.size + 1 + 1, 2, none⟩ (.int .i64 k.set.most)).heap[w.heap.size]? = _ := (Below.heap_setCell _ _ _ _ hne1).trans ((Below.heap_setCell _ _ _ _ hne1).trans ((Below.heap_setCell _ _ _ _ hne1).trans hK1))
  have hK2 : KnAt (w.heap.size + 1) ⟨⟨0, 0, 0⟩, [], 0, 0⟩ (.slice none 0 0) (((w1.setCell ⟨w.heap.size + 1 + 1, 0, none⟩ (.int .i64 k.set.ord)).setCell ⟨w.heap.size + 1 + 1, 1, none⟩ (.int .i64 k.set.lit)).setCell ⟨w.heap.size + 1 + 1, 2, none⟩ (.int .i64 k.set.most)) := (Below.heap_setCell _ _ _ _ hne2).trans ((Below.heap_setCell _ _ _ _ hne2).trans ((Below.heap_setCell _ _ _ _ hne2).trans hK2))
  have hU : Up w (((w1.setCell ⟨w.heap.size + 1 + 1, 0, none⟩ (.int .i64 k.set.ord)).setCell ⟨w.heap.size + 1 + 1, 1, none⟩ (.int .i64 k.set.lit)).setCell ⟨w.heap.size + 1 + 1, 2, none⟩ (.int .i64 k.set.most)) := by (repeat (first | with_reducible exact Up.refl _ | with_reducible assumption | with_reducible refine Up.set ?_ (by first | exact Nat.le_refl _ | (simp only []; omega) | (simp; omega)) _ | with_reducible refine Up.alloc ?_ _ | with_reducible refine Up.drew ?_ | refine Up.trans ?_ (by with_reducible assumption)))
  have hzz : w.heap.size + 3 ≤ (((w1.setCell ⟨w.heap.size + 1 + 1, 0, none⟩ (.int .i64 k.set.ord)).setCell ⟨w.heap.size + 1 + 1, 1, none⟩ (.int .i64 k.set.lit)).setCell ⟨w.heap.size + 1 + 1, 2, none⟩ (.int .i64 k.set.most)).heap.size := by have := U1.size; simp at this; simp [World.setCell]; omega
  clear U1 hne1 hne2
  generalize ((w1.setCell ⟨w.heap.size + 1 + 1, 0, none⟩ (.int .i64 k.set.ord)).setCell ⟨w.heap.size + 1 + 1, 1, none⟩ (.int .i64 k.set.lit)).setCell ⟨w.heap.size + 1 + 1, 2, none⟩ (.int .i64 k.set.most) = W at *
  with_reducible refine (cP _ (hrt _ hU)).mono ?_
  rintro e w2 ⟨v2, rfl, ho2, U2⟩
  obtain ⟨a2, c2, rfl⟩ := ownsRow_shape ho2
  have HO := Lib.hid ho2
  have HU := Lib.hid (hU.trans U2)
  have hz2 := U2.size
  have hA1 := box_up U2 hK1
  have c0 := box_cell hA1 0
  have c1 := box_cell hA1 1
  have c2' := box_cell hA1 2
  have c3 := box_cell hA1 3
  have c4 := box_cell hA1 4
  have c5 := box_cell hA1 5
  simp at c0 c1 c2' c3 c4 c5
  obtain ⟨hb1, q0, q1, q2, q3, q4, q5⟩ := KnAt.cells (box_up U2 hK2)
  obtain ⟨hb2, s0, s1, s2, s3, s4, s5⟩ := KnAt.cells (box_up U2 hK3)
  have hfq := box_free (box_up U2 hK2)
  have hfs := box_free (box_up U2 hK3)
  clear hK1 hK2 hK3 hU U2 ho2 hA1
  go_wp2_with fail
  refine bodyPost_ret (v := kV k (.slice a2 k.ps.length c2)) (by simp [results, Tryd.results38, go_sem, q0, q1, q2, q3, q4, q5]; try rfl) rfl ?_
  have hlo := fun b e => (HO.out.lt b e).1
  have hn1 : some (w.heap.size + 1) ≠ Value.ownBlock (.slice a2 k.ps.length c2) := fun e => by have := hlo _ e.symm; omega
  have hn2 : some (w.heap.size + 1 + 1) ≠ Value.ownBlock (.slice a2 k.ps.length c2) := fun e => by have := hlo _ e.symm; omega
  refine ⟨.slice a2 k.ps.length c2, rfl, ?_, ?_⟩
  · have ho := ownsRow_base HO.out (show w.heap.size ≤ W.heap.size by omega)
    repeat (first | with_reducible refine ownsRow_setb ?_ hn1 _ _ | with_reducible refine ownsRow_setb ?_ hn2 _ _)
    exact ho
  · have hU := HU.out
    (repeat (first | with_reducible exact Up.refl _ | with_reducible assumption | with_reducible refine Up.set ?_ (by first | exact Nat.le_refl _ | (simp only []; omega) | (simp; omega)) _ | with_reducible refine Up.alloc ?_ _ | with_reducible refine Up.drew ?_ | refine Up.trans ?_ (by with_reducible assumption)))

set_option maxRecDepth 100000 in
set_option maxHeartbeats 4000000 in
theorem toWriter_any (x : WrD) (v : Value) (lo : Nat) (w : World) (hr : RdP lo w v x.k.ps) (hn : x.k.ps.length ≤ 1048576) :
    Calls Tryd.prog 14  #[wrV x v] w (fun e w' => ∃ v', e = .returned (wrV x v') ∧ ownPr w' w.heap.size v' x.k.ps ∧ Up w w') := by
  have cK := fun wq h => toKnown_any x.k v lo wq h hn
  have hrt := fun (wq : World) (hu : Up w wq) => hr.up hu
  obtain ⟨a, cap, rfl, -⟩ := id hr
  clear hr
  have hK1 : (((w.alloc (.cells #[.int .i64 x.k.set.ord, .int .i64 x.k.set.lit, .int .i64 x.k.set.most, .slice a x.k.ps.length cap, .int .i64 x.k.base, .int .i64 x.k.last, .string (bs x.pend), .string (bs x.bits), .bool x.beg] 35)).alloc (.cells #[.int .i64 0, .int .i64 0, .int .i64 0, .slice none 0 0, .int .i64 0, .int .i64 0, .string ⟨#[]⟩, .string ⟨#[]⟩, .bool false] 43)).alloc (.cells #[.int .i64 0, .int .i64 0, .int .i64 0, .slice none 0 0, .int .i64 0, .int .i64 0, .string ⟨#[]⟩, .string ⟨#[]⟩, .bool false] 43)).heap[w.heap.size]? = some (.cells #[.int .i64 x.k.set.ord, .int .i64 x.k.set.lit, .int .i64 x.k.set.most, .slice a x.k.ps.length cap, .int .i64 x.k.base, .int .i64 x.k.last, .string (bs x.pend), .string (bs x.bits), .bool x.beg] 35) := box_up (((Up.refl _).alloc _).alloc _) (MapKept.heap_alloc w _).1
  have hK2 : WrAt (w.heap.size + 1) wr0 (.slice none 0 0) (((w.alloc (.cells #[.int .i64 x.k.set.ord, .int .i64 x.k.set.lit, .int .i64 x.k.set.most, .slice a x.k.ps.length cap, .int .i64 x.k.base, .int .i64 x.k.last, .string (bs x.pend), .string (bs x.bits), .bool x.beg] 35)).alloc (.cells #[.int .i64 0, .int .i64 0, .int .i64 0, .slice none 0 0, .int .i64 0, .int .i64 0, .string ⟨#[]⟩, .string ⟨#[]⟩, .bool false] 43)).alloc (.cells #[.int .i64 0, .int .i64 0, .int .i64 0, .slice none 0 0, .int .i64 0, .int .i64 0, .string ⟨#[]⟩, .string ⟨#[]⟩, .bool false] 43)) := WrAt.zero (box_up ((Up.refl _).alloc _) (alloc2 w _ _))
  have hK3 : WrAt (w.heap.size + 1 + 1) wr0 (.slice none 0 0) (((w.alloc (.cells #[.int .i64 x.k.set.ord, .int .i64 x.k.set.lit, .int .i64 x.k.set.most, .slice a x.k.ps.length cap, .int .i64 x.k.base, .int .i64 x.k.last, .string (bs x.pend), .string (bs x.bits), .bool x.beg] 35)).alloc (.cells #[.int .i64 0, .int .i64 0, .int .i64 0, .slice none 0 0, .int .i64 0, .int .i64 0, .string ⟨#[]⟩, .string ⟨#[]⟩, .bool false] 43)).alloc (.cells #[.int .i64 0, .int .i64 0, .int .i64 0, .slice none 0 0, .int .i64 0, .int .i64 0, .string ⟨#[]⟩, .string ⟨#[]⟩, .bool false] 43)) := WrAt.zero (alloc3c w _ _ _)
  have hU : Up w (((w.alloc (.cells #[.int .i64 x.k.set.ord, .int .i64 x.k.set.lit, .int .i64 x.k.set.most, .slice a x.k.ps.length cap, .int .i64 x.k.base, .int .i64 x.k.last, .string (bs x.pend), .string (bs x.bits), .bool x.beg] 35)).alloc (.cells #[.int .i64 0, .int .i64 0, .int .i64 0, .slice none 0 0, .int .i64 0, .int .i64 0, .string ⟨#[]⟩, .string ⟨#[]⟩, .bool false] 43)).alloc (.cells #[.int .i64 0, .int .i64 0, .int .i64 0, .slice none 0 0, .int .i64 0, .int .i64 0, .string ⟨#[]⟩, .string ⟨#[]⟩, .bool false] 43)) := by (repeat (first | with_reducible exact Up.refl _ | with_reducible assumption | with_reducible refine Up.set ?_ (by first | exact Nat.le_refl _ | (simp only []; omega) | (simp; omega)) _ | with_reducible refine Up.alloc ?_ _ | with_reducible refine Up.drew ?_ | refine Up.trans ?_ (by with_reducible assumption)))
  have hzz : w.heap.size + 3 ≤ (((w.alloc (.cells #[.int .i64 x.k.set.ord, .int .i64 x.k.set.lit, .int .i64 x.k.set.most, .slice a x.k.ps.length cap, .int .i64 x.k.base, .int .i64 x.k.last, .string (bs x.pend), .string (bs x.bits), .bool x.beg] 35)).alloc (.cells #[.int .i64 0, .int .i64 0, .int .i64 0, .slice none 0 0, .int .i64 0, .int .i64 0, .string ⟨#[]⟩, .string ⟨#[]⟩, .bool false] 43)).alloc (.cells #[.int .i64 0, .int .i64 0, .int .i64 0, .slice none 0 0, .int .i64 0, .int .i64 0, .string ⟨#[]⟩, .string ⟨#[]⟩, .bool false] 43)).heap.size := by simp
  unfold wrV
  simp only [kV] at cK
  go_enter Tryd.func14, Tryd.ntmps14
  go_wp2_with fail
  generalize ((w.alloc (.cells #[.int .i64 x.k.set.ord, .int .i64 x.k.set.lit, .int .i64 x.k.set.most, .slice a x.k.ps.length cap, .int .i64 x.k.base, .int .i64 x.k.last, .string (bs x.pend), .string (bs x.bits), .bool x.beg] 35)).alloc (.cells #[.int .i64 0, .int .i64 0, .int .i64 0, .slice none 0 0, .int .i64 0, .int .i64 0, .string ⟨#[]⟩, .string ⟨#[]⟩, .bool false] 43)).alloc (.cells #[.int .i64 0, .int .i64 0, .int .i64 0, .slice none 0 0, .int .i64 0, .int .i64 0, .string ⟨#[]⟩, .string ⟨#[]⟩, .bool false] 43) = W at *
  with_reducible refine (cK _ (hrt _ hU)).mono ?_
  rintro e w2 ⟨v2, rfl, ho2, U2⟩
  obtain ⟨a2, c2, rfl⟩ := ownsRow_shape ho2
  have HO := Lib.hid ho2
  have HU := Lib.hid (hU.trans U2)
  have hz2 := U2.size
  have hA1 := box_up U2 hK1
  have c6 := box_cell hA1 6
  have c7 := box_cell hA1 7
  have c8 := box_cell hA1 8
  simp at c6 c7 c8
  obtain ⟨hb1, q0, q1, q2, q3, q4, q5, q6, q7, q8⟩ := (hK2.up U2).cells
  obtain ⟨hb2, s0, s1, s2, s3, s4, s5, s6, s7, s8⟩ := (hK3.up U2).cells
  simp only [wr0] at q0 q1 q2 q3 q4 q5 q6 q7 q8 s0 s1 s2 s3 s4 s5 s6 s7 s8
  have hfq := box_free (hK2.up U2)
  have hfs := box_free (hK3.up U2)
  clear hK1 hK2 hK3 hU U2 ho2 hA1
  simp only [kV]
  go_wp2_with fail
  refine bodyPost_ret (v := wrV x (.slice a2 x.k.ps.length c2)) (by simp [results, Tryd.results14, go_sem, q0, q1, q2, q3, q4, q5, q6, q7, q8]; try rfl) rfl ?_
  have hlo := fun b e => (HO.out.lt b e).1
  have hn1 : some (w.heap.size + 1) ≠ Value.ownBlock (.slice a2 x.k.ps.length c2) := fun e => by have := hlo _ e.symm; omega
  have hn2 : some (w.heap.size + 1 + 1) ≠ Value.ownBlock (.slice a2 x.k.ps.length c2) := fun e => by have := hlo _ e.symm; omega
  refine ⟨.slice a2 x.k.ps.length c2, rfl, ?_, ?_⟩
  · have ho := ownsRow_base HO.out (show w.heap.size ≤ W.heap.size by omega)
    repeat (first | with_reducible refine ownsRow_setb ?_ hn1 _ _ | with_reducible refine ownsRow_setb ?_ hn2 _ _)
    exact ho
  · have hU := HU.out
    (repeat (first | with_reducible exact Up.refl _ | with_reducible assumption | with_reducible refine Up.set ?_ (by first | exact Nat.le_refl _ | (simp only []; omega) | (simp; omega)) _ | with_reducible refine Up.alloc ?_ _ | with_reducible refine Up.drew ?_ | refine Up.trans ?_ (by with_reducible assumption)))

end Go.Proofs.YtiiahjnfbhcgmaaDoor

/- Plain: what WriteData leaves, valid or not, as one value; what szWriter says of the sizes. Conditions: none. -/
namespace Go.Proofs.YtiiahjnfbhcgmaaDoor
set_option linter.unusedVariables false
set_option linter.unusedSimpArgs false
open Go Go.RowKit

/-- The writer that WriteData hands back, be there one or not. -/
def oWr (o : Option (WrD × List UInt8)) : WrD := (o.map (·.1)).getD wr0
def oBy (o : Option (WrD × List UInt8)) : List UInt8 := (o.map (·.2)).getD []
theorem szW_no {n p b t : Int} (h : szW n p b t < 0) : szW n p b t = -1 := by
  unfold szW at *
  split at h
  · rw [if_pos (by assumption)]
  · rw [if_neg (by assumption)]
    split at h
    · rw [if_pos (by assumption)]
    · rw [if_neg (by assumption)]
      split at h
      · rw [if_pos (by assumption)]
      · omega
theorem szW_yes {n p b t : Int} (h : ¬ szW n p b t < 0) : szW n p b t = t - n - p - b ∧ 0 ≤ t - n ∧ 0 ≤ t - n - p ∧ 0 ≤ t - n - p - b := by
  unfold szW at *
  split at h
  · omega
  · rw [if_neg (by assumption)]
    split at h
    · omega
    · rw [if_neg (by assumption)]
      split at h
      · omega
      · rw [if_neg (by assumption)]; omega

end Go.Proofs.YtiiahjnfbhcgmaaDoor

/- Walks of the program's learn, LearnKnown, StartWith. Conditions: what is known is valid and can be read. -/
namespace Go.Proofs.YtiiahjnfbhcgmaaDoor
set_option linter.unusedVariables false
set_option linter.unusedSimpArgs false
open Go Go.RowKit

/-- The plain state of learn; its memory. -/
structure LiD (T : KnD) (k0 : KnD) (L : List UInt8) (m : Nat) (k : KnD) (n : Nat) : Prop where
  len : L.length ≤ n + m
  le : n ≤ L.length
  tot : learnN m k (L.drop n) = T
  ok : k.Ok
  set : k.set = k0.set
structure LiW (w : World) (tb : Nat) (k : KnD) (vp vn vi : Value) (wr : World) : Prop where
  tree : TreeAt (w.heap.size + 2) tb k vp vn vi wr
  res : KnAt (w.heap.size + 1) ⟨⟨0, 0, 0⟩, [], 0, 0⟩ (.slice none 0 0) wr
  up : Up w wr
theorem LiW.upd {w : World} {tb : Nat} {k : KnD} {vp vn vi : Value} {wr w' : World} (h : LiW w tb k vp vn vi wr) (hu : Up wr w') : LiW w tb k vp vn vi w' := ⟨h.tree.up hu, h.res.up hu, h.up.trans hu⟩
theorem LiD.step {T k0 : KnD} {L : List UInt8} {m : Nat} {k : KnD} {n : Nat} (h : LiD T k0 L m k n) (hn : n < L.length) (hl : ∀ b ∈ L, b.toNat < k0.c) :
    k.follows (k.find (k.longest (L.drop n))) = true ∧ ¬ k.find (k.longest (L.drop n)) = (k.c : Int) ∧ 1 ≤ (k.longest (L.drop n)).length ∧ n + (k.longest (L.drop n)).length ≤ L.length ∧ LiD T k0 L (m - 1) (k.after (k.find (k.longest (L.drop n)))) (n + (k.longest (L.drop n)).length) := by
  have hde : L.drop n ≠ [] := fun e => by rw [List.drop_eq_nil_iff] at e; omega
  have hll := KnD.longest_le (k := k) (L.drop n)
  have hlp := KnD.longest_pos (k := k) hde
  have hl2 : ∀ b ∈ L.drop n, b.toNat < k.c := fun b hb => by rw [c_of h.set]; exact hl b (List.mem_of_mem_drop hb)
  obtain ⟨hfw, -⟩ := KnD.find_any h.ok hde hl2
  rw [List.length_drop] at hll
  have h1 := h.len; have h4 := h.tot
  obtain ⟨m', rfl⟩ : ∃ m', m = m' + 1 := ⟨m - 1, by omega⟩
  refine ⟨hfw, (KnD.fol_ne h.ok hfw).1, hlp, by omega, by omega, by omega, ?_, KnD.after_ok h.ok hfw, h.set⟩
  rw [learnN_step hde, List.drop_drop] at h4
  exact h4
end Go.Proofs.YtiiahjnfbhcgmaaDoor

/- WriteAll of the reference, for what is known of any kind and any parts. Conditions: the parts are at most 2^20, each of at most 2^20 bytes. -/
namespace Go.Proofs.YtiiahjnfbhcgmaaDoor
set_option linter.unusedVariables false
set_option linter.unusedSimpArgs false
open Go Go.RowKit

/-- All parts, then the end. -/
def waW : WrD → List ByteArray → List UInt8 → Option (List UInt8)
  | w, [], out => (wcO w).map (out ++ ·)
  | w, p :: ps, out => match wdO w p.data.toList with
    | none => none
    | some r => waW r.1 ps (out ++ r.2)
def waG (k : KnD) (ps : List ByteArray) : Option (List UInt8) := if validK k then waW ⟨k, [], [], false⟩ ps [] else none
/-- The writer that NewWriter hands back, be there one or not. -/
def nwX (k : KnD) : WrD := if validK k then ⟨k, [], [], false⟩ else wr0
theorem wdO_case {x : WrD} {d : List UInt8} : (wdO x d = none ∧ oWr (wdO x d) = wr0 ∧ oBy (wdO x d) = []) ∨ (∃ r, wdO x d = some r ∧ oWr (wdO x d) = r.1 ∧ oBy (wdO x d) = r.2 ∧ wrOk r.1 ∧ r.2.length ≤ 41000) := by
  cases hb : (wrvB x && fitsB x.k.set (x.pend ++ d))
  · left
    rw [wdO_none hb]
    exact ⟨rfl, rfl, rfl⟩
  · right
    obtain ⟨h1, h2⟩ := Bool.and_eq_true_iff.1 hb
    obtain ⟨-, h3, h4⟩ := fitsB_lits h2
    have hx := wrvB_ok h1
    have hl : ∀ b ∈ d, b.toNat < clr x.k.set := fun b hb => h4 b (List.mem_append_right _ hb)
    rw [wdO_some hb]
    refine ⟨x.write d, rfl, rfl, rfl, (wrOk_write hx hl h3).1, ?_⟩
    unfold WrD.write
    split
    · exact Nat.zero_le _
    · rename_i h
      have hs := (WlD.outs _ _ _ _ (WlD.start hx h hl h3)).2
      show (packL _ _).length ≤ 41000
      rw [packL_length, List.length_take]
      have hs' : (x.all d).length ≤ 41000 := hs
      omega
theorem wrOk_new {k : KnD} (h : validK k = true) : wrOk ⟨k, [], [], false⟩ := by
  obtain ⟨h1, h2⟩ := ok_of_valid h
  exact ⟨h1, h2, (fun b hb => absurd hb (List.not_mem_nil)), Nat.zero_le _, (fun b hb => absurd hb (List.not_mem_nil)), Nat.zero_le _, .inl rfl, fun _ => ⟨rfl, rfl⟩⟩
structure WaAt (T : Option (List UInt8)) (ps : List ByteArray) (j : Nat) (ok : Bool) (x : WrD) (out : List UInt8) : Prop where
  le : j ≤ ps.length
  len : out.length ≤ 41000 * j
  yes : ok = true → wrOk x ∧ waW x (ps.drop j) out = T
  no : ok = false → x = wr0 ∧ T = none
theorem WaAt.start (k : KnD) (ps : List ByteArray) : WaAt (waG k ps) ps 0 (validK k) (nwX k) [] := by
  unfold waG nwX
  refine WaAt.mk (Nat.zero_le _) (Nat.zero_le _) (fun h => ?_) (fun h => ?_)
  · rw [if_pos h, if_pos h]
    exact ⟨wrOk_new h, rfl⟩
  · rw [if_neg (by rw [h]; simp), if_neg (by rw [h]; simp)]
    exact ⟨rfl, rfl⟩
theorem WaAt.next {T : Option (List UInt8)} {ps : List ByteArray} {j : Nat} {x : WrD} {out : List UInt8} (h : WaAt T ps j true x out) (hj : j < ps.length) :
    WaAt T ps (j + 1) (wdO x ps[j].data.toList).isSome (oWr (wdO x ps[j].data.toList)) (out ++ oBy (wdO x ps[j].data.toList)) ∧ (oBy (wdO x ps[j].data.toList)).length ≤ 41000 := by
  have hT := (h.yes rfl).2
  rw [List.drop_eq_getElem_cons hj, waW] at hT
  have hl := h.len
  generalize ps[j].data.toList = d at *
  obtain h0 | ⟨r, h1, h2, h3, h4, h5⟩ := wdO_case (x := x) (d := d)
  · obtain ⟨h1, h2, h3⟩ := h0
    rw [h2, h3]
    rw [h1] at hT ⊢
    exact ⟨WaAt.mk hj (by rw [List.append_nil]; omega) (fun e => by cases e) (fun _ => ⟨rfl, hT.symm⟩), Nat.zero_le _⟩
  · rw [h2, h3]
    rw [h1] at hT ⊢
    exact ⟨WaAt.mk hj (by rw [List.length_append]; omega) (fun _ => ⟨h4, hT⟩) (fun e => by cases e), h5⟩
end Go.Proofs.YtiiahjnfbhcgmaaDoor

/- Arguments of the laws: what is known, and a writer, handed in as data. Conditions: none. -/
namespace Go.Proofs.YtiiahjnfbhcgmaaDoor
set_option linter.unusedVariables false
set_option linter.unusedSimpArgs false
open Go Go.RowKit Go.ChangeShapes Go.WideShapes Go.ChangeAt Go.Joins Go.Deep

theorem array9 {cs : Array Value} (h : cs.size = 9) : ∃ c0 c1 c2 c3 c4 c5 c6 c7 c8, cs = #[c0, c1, c2, c3, c4, c5, c6, c7, c8] := by
  obtain ⟨l⟩ := cs
  have h : l.length = 9 := h
  match l, h with
  | [c0, c1, c2, c3, c4, c5, c6, c7, c8], _ => exact ⟨_, _, _, _, _, _, _, _, _, rfl⟩
theorem open_argPr {H : Type} {enc : TypeId × Value → H} {W : World} {fuel : Nat} {a0 : Option Addr} {len cap : Nat} {d : DataW H} {p : List MemPlace}
    (h : DataW.trod enc Tryd.prog W 0 (fun _ => true) true fuel 31 [.slice a0 len cap] = some (d, p)) (hlt : ∀ x ∈ p, x.block < W.heap.size) : ∃ ps, RdP 0 W (.slice a0 len cap) ps := by
  rcases open_slice_pairs Tryd.underlying31 Tryd.underlying120 (by kernel_rfl) rfl rfl (by kernel_rfl) (by kernel_rfl) h with ⟨hc, hx⟩ | ⟨a, len', cap', m, k, V0, V1, D0, D1, P0, P1, hc, _, hl, hm, hmm, hx, hall⟩
  · simp only [List.cons.injEq, and_true] at hc
    cases hc
    exact ⟨[], none, 0, rfl, Nat.le_refl _, Nat.zero_le _, fun _ => ⟨rfl, rfl⟩, fun h => absurd h (Nat.lt_irrefl _)⟩
  · simp only [List.cons.injEq, and_true] at hc
    cases hc
    simp only [if_true] at hmm
    subst hmm
    simp only [Prod.mk.injEq] at hx
    obtain ⟨rfl, rfl⟩ := hx
    have hint : ∀ i, i < m → V0 i = .int .i64 (intOf (V0 i)) ∧ V1 i = .int .i64 (intOf (V1 i)) := fun i hi => by
      obtain ⟨-, -, t0, t1⟩ := hall i hi
      obtain ⟨n0, e0, -, -⟩ := DataW.trod_int Tryd.underlying3 t0
      obtain ⟨n1, e1, -, -⟩ := DataW.trod_int Tryd.underlying3 t1
      simp only [List.cons.injEq, and_true] at e0 e1
      rw [e0, e1]; exact ⟨rfl, rfl⟩
    have hlen : ((List.range len).map fun i => (⟨intOf (V0 i), intOf (V1 i)⟩ : PairD)).length = len := by simp
    refine ⟨(List.range len).map fun i => ⟨intOf (V0 i), intOf (V1 i)⟩, some a, m, by rw [hlen], by rw [hlen]; exact hl, hm, (fun e => by cases e), fun hp => ?_⟩
    rw [hlen] at hp
    obtain ⟨b, off, spot⟩ := a
    have hspot : spot = none := by simpa [Addr.add] using World.cell?_spot (hall 0 (by omega)).1
    subst hspot
    refine ⟨b, off, rfl, Nat.zero_le _, hlt (.cell b off) (List.mem_append_left _ (MemPlace.mem_row.2 ⟨0, by omega, by simp⟩)), fun i q hi => ?_⟩
    have hil : i < len := by
      have := (List.getElem?_eq_some_iff.1 hi).1
      rw [hlen] at this; exact this
    have hq : q = ⟨intOf (V0 i), intOf (V1 i)⟩ := by
      simp [hil] at hi; exact hi.symm
    subst hq
    obtain ⟨x0, x1, -, -⟩ := hall i (by omega)
    obtain ⟨y0, y1⟩ := hint i (by omega)
    rw [Addr.add_lit] at x0 x1
    exact ⟨x0.trans (congrArg some y0), (by rw [← Nat.add_assoc] at x1; exact x1.trans (congrArg some y1))⟩

set_option maxRecDepth 100000 in
/-- The cells of what is known. -/
theorem open_kn {H : Type} {enc : TypeId × Value → H} {W : World} {fuel : Nat} {c0 c1 c2 c3 c4 c5 : Value} {y : DataW H × List MemPlace}
    (h : DataW.trod enc Tryd.prog W 0 (fun _ => true) true fuel 33 [c0, c1, c2, c3, c4, c5] = some y) (hlt : ∀ x ∈ y.2, x.block < W.heap.size) :
    ∃ (k : KnD), c0 = .int .i64 k.set.ord ∧ c1 = .int .i64 k.set.lit ∧ c2 = .int .i64 k.set.most ∧ c4 = .int .i64 k.base ∧ c5 = .int .i64 k.last ∧ RdP 0 W c3 k.ps ∧ (-9223372036854775808 ≤ k.set.lit ∧ k.set.lit ≤ 9223372036854775807) := by
  obtain ⟨y0, y1, y2, y3, m, rfl, -, t0, t1, t2, t3⟩ := trod_struct4 Tryd.underlying33 h
  have q1 : Tryd.prog.cellsOf 30 = 3 := by kernel_rfl
  have q2 : Tryd.prog.cellsOf 31 = 1 := by kernel_rfl
  have q3 : Tryd.prog.cellsOf 3 = 1 := by kernel_rfl
  simp only [q1, q2, q3, List.drop, List.take] at t0 t1 t2 t3
  obtain ⟨z0, z1, z2, m', rfl, -, s0, s1, s2⟩ := trod_struct3 Tryd.underlying30 t0
  simp only [q3, List.drop, List.take] at s0 s1 s2
  have hsl : ∃ a n c, c3 = .slice a n c := by
    rcases DataW.trod_slice Tryd.underlying31 t1 with ⟨e, -⟩ | ⟨a, n, c, -, -, -, -, e, -⟩
    · exact ⟨_, _, _, by simpa using e⟩
    · exact ⟨_, _, _, by simpa using e⟩
  obtain ⟨a, n, c, rfl⟩ := hsl
  obtain ⟨o, eo, -, -⟩ := DataW.trod_int Tryd.underlying3 s0
  obtain ⟨l, el, -, gl⟩ := DataW.trod_int Tryd.underlying3 s1
  obtain ⟨q, eq, -, -⟩ := DataW.trod_int Tryd.underlying3 s2
  obtain ⟨b, eb, -, -⟩ := DataW.trod_int Tryd.underlying3 t2
  obtain ⟨la, ela, -, -⟩ := DataW.trod_int Tryd.underlying3 t3
  simp only [List.cons.injEq, and_true] at eo el eq eb ela
  obtain ⟨ps, hps⟩ := open_argPr (p := y1.2) (d := y1.1) t1 (fun x hx => hlt x (List.mem_append_right _ (List.mem_append_left _ hx)))
  refine ⟨⟨⟨o, l, q⟩, ps, b, la⟩, eo, el, eq, eb, ela, hps, ?_⟩
  simpa [Lit.wf, IntKind.min, IntKind.max, IntKind.signed, IntKind.bits] using gl

set_option maxRecDepth 100000 in
/-- A writer that comes in. -/
theorem open_writer {H : Type} {enc : TypeId × Value → H} {W : World} {b0 : Nat} {v : Value} {d : DataW H} {p : List MemPlace}
    (hv : Value.okWide Tryd.prog W .any b0 35 v) (h : DataW.Trod enc Tryd.prog W 0 (fun _ => true) true 35 v d p) (hlt : ∀ x ∈ p, x.block < W.heap.size) :
    ∃ (x : WrD) (u : Value), v = wrV x u ∧ RdP 0 W u x.k.ps ∧ (-9223372036854775808 ≤ x.k.set.lit ∧ x.k.set.lit ≤ 9223372036854775807) ∧ x.pend.length ≤ maxLen ∧ x.bits.length ≤ maxLen ∧ x.k.ps.length ≤ maxLen := by
  have q0 : Tryd.prog.cellsOf 35 = 9 := by kernel_rfl
  have q1 : Tryd.prog.cellsOf 33 = 6 := by kernel_rfl
  have q2 : Tryd.prog.cellsOf 9 = 1 := by kernel_rfl
  have q3 : Tryd.prog.cellsOf 4 = 1 := by kernel_rfl
  obtain ⟨cs, rfl, hsz⟩ := okWide_struct Tryd.underlying35 hv
  obtain ⟨c0, c1, c2, c3, c4, c5, c6, c7, c8, rfl⟩ := array9 (hsz.trans q0)
  obtain ⟨fuel, hf⟩ := h
  obtain ⟨y0, y1, y2, y3, m, hy, -, t0, t1, t2, t3⟩ := trod_struct4 Tryd.underlying35 hf
  simp only [Value.cells, q1, q2, q3, List.drop, List.take] at t0 t1 t2 t3
  obtain ⟨pe, e6, -, h6⟩ := DataW.trod_string Tryd.underlying9 t1
  obtain ⟨bi, e7, -, h7⟩ := DataW.trod_string Tryd.underlying9 t2
  obtain ⟨be, e8, -⟩ := DataW.trod_bool Tryd.underlying4 t3
  simp only [List.cons.injEq, and_true] at e6 e7 e8
  simp only [Prod.mk.injEq] at hy
  obtain ⟨rfl, rfl⟩ := hy
  obtain ⟨k, e0, e1, e2, e4, e5, hr, hl⟩ := open_kn t0 (fun x hx => hlt x (List.mem_append_left _ hx))
  refine ⟨⟨k, pe.data.toList, bi.data.toList, be⟩, c3, ?_, hr, hl, h6, h7, ?_⟩
  · subst e0 e1 e2 e4 e5 e6 e7 e8
    rfl
  · obtain ⟨a, cap, -, g1, g2, -⟩ := hr
    exact Nat.le_trans g1 g2

end Go.Proofs.YtiiahjnfbhcgmaaDoor

