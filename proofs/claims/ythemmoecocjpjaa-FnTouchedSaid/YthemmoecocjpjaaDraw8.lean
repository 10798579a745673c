/- Walks of the reference's draws of a block, from the bytes of an input. Conditions: the bytes can be read. -/
import Derived.Test.YthemmoecocjpjaaDraw7
namespace Go.Proofs.Ythemmoecocjpjaa
set_option linter.unusedVariables false
set_option linter.unusedSimpArgs false
open Go Go.RowKit

/-- Bytes that are handed in. -/
def ArgU (w : World) (v : Value) (l : List UInt8) : Prop := ∃ (a : Option Addr) (cap : Nat), v = .slice a l.length cap ∧ l.length ≤ cap ∧ cap ≤ maxLen ∧
  (0 < l.length → ∃ b off, a = some ⟨b, off, none⟩ ∧ b < w.heap.size ∧ ∀ i x, l[i]? = some x → w.cell? ⟨b, off + i, none⟩ = some (.int .u8 x.toNat))
theorem ArgU.up {w w' : World} {v : Value} {l : List UInt8} (h : ArgU w v l) (hu : Up w w') : ArgU w' v l := by
  obtain ⟨a, cap, h1, h2, h3, h4⟩ := h
  refine ⟨a, cap, h1, h2, h3, fun hp => ?_⟩
  obtain ⟨b, off, e1, e2, e3⟩ := h4 hp
  exact ⟨b, off, e1, Nat.lt_of_lt_of_le e2 (Below.size hu), fun i x hi => (Below.cell (p := ⟨b, off + i, none⟩) hu e2).trans (e3 i x hi)⟩
theorem open_at {w : World} {v : Value} {l : List UInt8} (h : ArgU w v l) : Calls Try.prog 60  #[v] w (fun e w' => ∃ B, e = .returned (.pointer (some ⟨w.heap.size, 0, none⟩)) ∧ Rdr w.heap.size B w' 0 ∧ Up w w') := by
  obtain ⟨a, cap, h1, h2, h3, h4⟩ := h
  exact open_any v l w a cap h1 h2 h3 h4
def isSDB (v : Value) : Prop := ∃ (s : SetD) (d : ByteArray) (b : BlkD), v = .tuple #[setV s, .string d, blkV b] ∧ b.body.size ≤ 1002
def isBlkT (v : Value) : Prop := ∃ (b : BlkD) (ok : Bool), v = .tuple #[blkV b, .bool ok] ∧ (0 ≤ b.size ∧ b.size ≤ 1000) ∧ b.body.size ≤ 1000
def isBlk2 (v : Value) : Prop := ∃ (n : Int) (r : Bool) (z : Int) (d : ByteArray), v = .agg #[.int .i64 n, .bool r, .int .i64 z, .string d] ∧ (0 ≤ z ∧ z ≤ 1000) ∧ d.size ≤ 1000
theorem blkO_T (s : SetD) (dict : List UInt8) (n : Int) (d : ByteArray) (h : d.size ≤ 1000) : isBlkT (blkO s dict n d) := by
  unfold blkO
  split
  · have := blockD_bd s dict n d
    exact ⟨_, _, rfl, by omega, by omega⟩
  · exact ⟨_, _, rfl, by simp, Nat.zero_le _⟩
/-- A block of zeros, of the region's own. -/
def NewB (rb base : Nat) (v : Value) (w : World) : Prop := ∃ b : Nat, v = .pointer (some ⟨b, 0, none⟩) ∧ (rb < b ∧ base ≤ b) ∧ w.heap[b]? = some (.cells #[.int .i64 0, .bool false, .int .i64 0, .string ByteArray.empty] 24)
theorem newB_closed {rb base : Nat} : ∀ (v : Value) (w w' : World), NewB rb base v w → w.grownBy w' (some rb) → NewB rb base v w' := fun v w w' ⟨b, h1, h2, h3⟩ hg => ⟨b, h1, h2, gbox hg h3 (by have := h2.1; simp; omega)⟩

def setB (w : World) (b : Nat) (n : Int) (r : Bool) (z : Int) (d : ByteArray) : World := World.setCell (World.setCell (World.setCell (World.setCell w ⟨b, 0, none⟩ (.int .i64 n)) ⟨b, 1, none⟩ (.bool r)) ⟨b, 2, none⟩ (.int .i64 z)) ⟨b, 3, none⟩ (.string d)
theorem setB_other {W : World} {b b' : Nat} (h : b' ≠ b) (n : Int) (r : Bool) (z : Int) (d : ByteArray) : (setB W b n r z d).heap[b']? = W.heap[b']? := by
  unfold setB
  have hs : ∀ (w : World) (i : Nat) (x : Value), (w.setCell ⟨b, i, none⟩ x).heap[b']? = w.heap[b']? := fun w i x => Below.heap_setCell _ _ _ _ h
  rw [hs, hs, hs, hs]
theorem setB_at {W : World} {b : Nat} (h : W.heap[b]? = some (.cells #[.int .i64 0, .bool false, .int .i64 0, .string ByteArray.empty] 24)) (n : Int) (r : Bool) (z : Int) (d : ByteArray) : (setB W b n r z d).heap[b]? = some (.cells #[.int .i64 n, .bool r, .int .i64 z, .string d] 24) :=
  box_set (box_set (box_set (box_set h 0 (.int .i64 n)) 1 (.bool r)) 2 (.int .i64 z)) 3 (.string d)
def isSetAny (v : Value) : Prop := ∃ s : SetD, v = setV s

set_option maxRecDepth 100000 in
set_option maxHeartbeats 8000000 in
theorem drawBlockData_any (v : Value) (l : List UInt8) (w : World) (h : ArgU w v l) :
    Calls Try.prog 53  #[v] w (fun e w' => ∃ v, e = .returned v ∧ isSDB v ∧ Up w w') := by
  have cO := fun w' hu => open_at (h.up (w' := w') hu)
  clear h
  go_enter Try.func53, Try.ntmps53
  go_wp2_with (go_at_call 60; (with_reducible refine (cO _ (by (repeat (first | with_reducible exact Up.refl _ | with_reducible assumption | with_reducible refine Up.set ?_ (by first | exact Nat.le_refl _ | (simp only []; omega) | (simp; omega)) _ | with_reducible refine Up.alloc ?_ _ | with_reducible refine Up.drew ?_ | refine Up.trans ?_ (by with_reducible assumption))))).mono ?_); rintro e w1 ⟨B, rfl, hr, U1⟩)
  have hR1 : SetAt w.heap.size 0 0 0 w1 := box_up U1 (box_up ((Up.refl _).alloc _) (MapKept.heap_alloc w _).1)
  have hR2 := box_up U1 (alloc2 w _ _)
  have hUp : Up w w1 := by (repeat (first | with_reducible exact Up.refl _ | with_reducible assumption | with_reducible refine Up.set ?_ (by first | exact Nat.le_refl _ | (simp only []; omega) | (simp; omega)) _ | with_reducible refine Up.alloc ?_ _ | with_reducible refine Up.drew ?_ | refine Up.trans ?_ (by with_reducible assumption)))
  rw [size_alloc, size_alloc] at hr
  have hrw : w.heap.size + 1 < w.heap.size + 1 + 1 := by omega
  generalize w.heap.size + 1 + 1 = rb at *
  obtain ⟨p, hp, hr, HM⟩ := hr.least
  have hlt := hr.lt
  have HR := Lib.hid hr
  have hU := RdUp.refl rb B 0 w1
  have cS := fun w N h hN => l5Setup_any rb B w N h hN
  clear cO U1
  go_wp2_with ((go_at_call 93; ((with_reducible refine (draw_atM (cS) HR.out hU (by intro c hU; (repeat (first | with_reducible assumption | refine RdUp.ups ?_ (by with_reducible assumption) | with_reducible refine RdUp.set ?_ (by first | exact Nat.le_refl _ | (simp only []; omega) | (simp; omega)) _ | with_reducible refine RdUp.alloc ?_ _ | with_reducible refine RdUp.drew ?_ | with_reducible exact RdUp.of (Up.refl _)))) (by omega)).mono ?_); rintro e w' ⟨v, rfl, ⟨s, dict, rfl, hs, hdi⟩, hU, U⟩; have D := gcell U.1; have Z := U.1.size; (try simp at Z); (try have Y0 : w.heap.size < w'.heap.size := (by omega)); (try have Y1 : w.heap.size + 1 < w'.heap.size := (by omega)); (try have Y2 : w.heap.size + 1 + 1 < w'.heap.size := (by omega)); (try have X0 : w.heap.size < w'.heap.size + 1 := (by omega)); (try have X1 : w.heap.size + 1 < w'.heap.size + 1 := (by omega)); (try have X2 : w.heap.size + 1 + 1 < w'.heap.size + 1 := (by omega)))))
  have HS := Lib.hid hs
  have hSB : SetAt w'.heap.size s.ord s.lit s.most (w'.alloc (.cells #[.int .i64 s.ord, .int .i64 s.lit, .int .i64 s.most] 58)) := (MapKept.heap_alloc w' _).1
  have hR1 : SetAt w.heap.size 0 0 0 (w'.alloc (.cells #[.int .i64 s.ord, .int .i64 s.lit, .int .i64 s.most] 58)) := box_up ((Up.refl _).alloc _) (gbox U.1 hR1 (by simp; omega))
  have hR2 := box_up ((Up.refl w').alloc (.cells #[.int .i64 s.ord, .int .i64 s.lit, .int .i64 s.most] 58)) (gbox U.1 hR2 (by simp; omega))
  have hU : RdUp rb B 25000 w1 (w'.alloc (.cells #[.int .i64 s.ord, .int .i64 s.lit, .int .i64 s.most] 58)) := by exact RdUp.fin hU (by intro c hU; (repeat (first | with_reducible assumption | refine RdUp.ups ?_ (by with_reducible assumption) | with_reducible refine RdUp.set ?_ (by first | exact Nat.le_refl _ | (simp only []; omega) | (simp; omega)) _ | with_reducible refine RdUp.alloc ?_ _ | with_reducible refine RdUp.drew ?_ | with_reducible exact RdUp.of (Up.refl _)))) (by omega)
  have hne6 : rb < w'.heap.size := by omega
  generalize (w'.alloc (.cells #[.int .i64 s.ord, .int .i64 s.lit, .int .i64 s.most] 58)) = W at *
  generalize w'.heap.size = b6 at *
  obtain ⟨hb6, s0, s1, s2⟩ := hSB.cells
  have hne : ¬ b6 = rb := by omega
  have hr2 := hU.2 _ hr
  have cB := fun i d w (hd : d.size ≤ 1000) => blockOfS_any s dict i d w (by omega) (by omega)
  have cT := fun i (d : ByteArray) (hd : d.size ≤ 1000) => blkO_T s dict.data.toList i d hd
  simp only [setV] at cB
  clear D U Z hs
  refine wp_region_rd 15 rb B 4020 (p + 25000) (by kernel_rfl) (by kernel_rfl) hr2 ?_
  simp only [List.take, List.drop]
  repeat (refine wpR_step (fun K hK => ?_); go_simp; (try simp only [↓IntWalk.iteOmega]); first
    | (refine hK _ _ ?_; clear hK K)
    | (refine stepR_c ?_ ?_ ?_
       rotate_left
       · intro wq hwq hrq; (have hbq := gcell hwq; (repeat (first | refine fills_no (by rfl) ?_ | (refine fills_yes (by rfl) (fun vq hvq => ?_); (try ((first | ((with_reducible have hl : LitR rb vq wq := hvq); obtain ⟨x, hlv⟩ := litR_open hl) | (obtain ⟨b, ok, rfl, hb⟩ := hvq) | (obtain ⟨sb, rfl, hsb⟩ := hvq))))))); simp only [List.filter_nil, fills]; unfold upAt; (try (skip)); go_simp; (try go_bits); (try simp only [↓IntWalk.iteOmega]); (try (rw [dif_pos (by omega)]; go_simp; try go_bits)); first | exact upOut_value)
       go_simp; refine hK _ _ ?_; clear hK K)
    | (refine stepR_m (by kernel_rfl) ?_ ?_ (fun wq hwq hrq => ?_) ?_
       rotate_left 2
       · (have hbq := gcell hwq; (repeat (first | refine fills_no (by rfl) ?_ | (refine fills_yes (by rfl) (fun vq hvq => ?_); (try ((first | ((with_reducible have hl : LitR rb vq wq := hvq); obtain ⟨x, hlv⟩ := litR_open hl) | (obtain ⟨b, ok, rfl, hb⟩ := hvq) | (obtain ⟨sb, rfl, hsb⟩ := hvq))))))); simp only [List.filter_nil, fills]; unfold upAt; (try (skip)); go_simp; (try go_bits); (try simp only [↓IntWalk.iteOmega]); (try (rw [dif_pos (by omega)]; go_simp; try go_bits)); first | ((with_reducible refine upOut_D (LitR rb) ?_); (((with_reducible refine upOut_make ((Up.refl _).alloc _) ?_); exact litR_new hrq.lt (by omega) (by omega)))) | ((with_reducible refine upOut_D (fun v _ => IsStr 1 v) ?_); ((rw [litR_conv hlv]; (try go_simp); (with_reducible refine upOut_make (Up.refl _) ?_); exact ⟨_, rfl, by rw [strOfNums_size]; exact Nat.le_refl _⟩))) | ((with_reducible refine upOut_D (fun v _ => IsStr 37 v) ?_); (((with_reducible refine upOut_make (Up.refl _) ?_); exact ⟨_, rfl, by rw [ByteArray.size_append]; omega⟩))) | ((with_reducible refine upOut_D (fun v _ => isBlkT v) ?_); ((first | ((with_reducible refine upOut_same (cB _ _ _ (by omega)) ?_); exact cT _ _ (by omega)) | ((with_reducible refine upOut_make (Up.refl _) ?_); exact ⟨_, _, rfl, hb⟩)))) | ((with_reducible refine upOut_D (fun v _ => isBlk2 v) ?_); (((with_reducible refine upOut_make (Up.refl _) ?_); exact ⟨_, _, _, _, rfl, hb⟩))) | ((with_reducible refine upOut_D (fun v _ => IsBool v) ?_); (((with_reducible refine upOut_make (Up.refl _) ?_); exact ⟨_, rfl⟩))) | ((with_reducible refine upOut_D (NewB rb w1.heap.size) ?_); (((with_reducible refine upOut_make ((Up.refl _).alloc _) ?_); exact ⟨_, rfl, ⟨hrq.lt, Nat.le_trans hU.1.size hwq.size⟩, (MapKept.heap_alloc _ _).1⟩))))
       rotate_left
       · (first | exact (fun _ _ _ h _ => h) | exact (litR_closed) | exact (newB_closed))
       refine hK _ _ ?_; clear hK K)
    | (refine stepR_d (by rfl) (by kernel_rfl) (fun v _ => pickB 4 v) (fun _ _ _ h _ => h) (fun wq hwq hrq => ?_) ?_
       · (have hbq := gcell hwq; (repeat (first | refine fills_no (by rfl) ?_ | (refine fills_yes (by rfl) (fun vq hvq => ?_); (try ((first | ((with_reducible have hl : LitR rb vq wq := hvq); obtain ⟨x, hlv⟩ := litR_open hl) | (obtain ⟨b, ok, rfl, hb⟩ := hvq) | (obtain ⟨sb, rfl, hsb⟩ := hvq))))))); simp only [List.filter_nil, fills]; unfold gAt; (try (skip)); go_simp; (try go_bits); (try simp only [↓IntWalk.iteOmega]); (try (rw [dif_pos (by omega)]; go_simp; try go_bits)); (with_reducible refine gOut_drawn ((pick_any rb B 4 wq _ hrq (by omega))) ?_); decide)
       refine hK _ _ ?_; clear hK K)
    | (refine stepR_d (by rfl) (by kernel_rfl) (fun v _ => IsStr 36 v) (fun _ _ _ h _ => h) (fun wq hwq hrq => ?_) ?_
       · (have hbq := gcell hwq; (repeat (first | refine fills_no (by rfl) ?_ | (refine fills_yes (by rfl) (fun vq hvq => ?_); (try ((first | ((with_reducible have hl : LitR rb vq wq := hvq); obtain ⟨x, hlv⟩ := litR_open hl) | (obtain ⟨b, ok, rfl, hb⟩ := hvq) | (obtain ⟨sb, rfl, hsb⟩ := hvq))))))); simp only [List.filter_nil, fills]; unfold gAt; (try (skip)); go_simp; (try go_bits); (try simp only [↓IntWalk.iteOmega]); (try (rw [dif_pos (by omega)]; go_simp; try go_bits)); (with_reducible refine gOut_drawn ((l5Wild_any rb B s 30 30 rfl wq _ hrq (by omega) (by omega) HS.out)) ?_); decide)
       refine hK _ _ ?_; clear hK K))
  refine wpR_nil (fun wq hwq hrq => ?_)
  simp only [fills]
  rintro v14 ⟨b8, rfl, ⟨hb8, hb81⟩, hB8⟩ v13 ⟨ok, rfl⟩ v12 ⟨bn, br, bz, bd, rfl, hbk1, hbk2⟩
  intros
  have hU := RdUp.made (C := 100000) HM (grownBy_trans hU.1 hwq) hrq (by omega)
  have hSB := gbox hwq hSB (by simp; omega)
  have hR1 := gbox hwq hR1 (by simp; omega)
  have hR2 := gbox hwq hR2 (by simp; omega)
  have t0 := box_cell hB8 0
  have t1 := box_cell hB8 1
  have t2 := box_cell hB8 2
  have t3 := box_cell hB8 3
  have hfr := box_free hB8
  simp at t0 t1 t2 t3
  have h68 : b6 ≠ b8 := fun e => by
    subst e
    have h9 := hSB.symm.trans hB8
    simp at h9
  clear hwq hrq s0 s1 s2 hb6
  go_wp2
  rw [onlyN_normal]
  go_wp2
  have hSB := (setB_other (W := wq) h68 bn br bz bd).trans hSB
  have hR1 := (setB_other (W := wq) (by omega : w.heap.size ≠ b8) bn br bz bd).trans hR1
  have hR2 := (setB_other (W := wq) (by omega : w.heap.size + 1 ≠ b8) bn br bz bd).trans hR2
  have hB8 := setB_at hB8 bn br bz bd
  have hU : RdUp rb B 100000 w1 (setB wq b8 bn br bz bd) := by unfold setB; exact RdUp.fin hU (by intro c hU; (repeat (first | with_reducible assumption | refine RdUp.ups ?_ (by with_reducible assumption) | with_reducible refine RdUp.set ?_ (by first | exact Nat.le_refl _ | (simp only []; omega) | (simp; omega)) _ | with_reducible refine RdUp.alloc ?_ _ | with_reducible refine RdUp.drew ?_ | with_reducible exact RdUp.of (Up.refl _)))) (by omega)
  rw [show (World.setCell (World.setCell (World.setCell (World.setCell wq ⟨b8, 0, none⟩ (.int .i64 bn)) ⟨b8, 1, none⟩ (.bool br)) ⟨b8, 2, none⟩ (.int .i64 bz)) ⟨b8, 3, none⟩ (.string bd)) = setB wq b8 bn br bz bd from rfl]
  generalize setB wq b8 bn br bz bd = W4 at *
  have s0 := box_cell hSB 0
  have s1 := box_cell hSB 1
  have s2 := box_cell hSB 2
  have t0 := box_cell hB8 0
  have t1 := box_cell hB8 1
  have t2 := box_cell hB8 2
  have t3 := box_cell hB8 3
  simp at s0 s1 s2 t0 t1 t2 t3
  have hb6 := (Array.getElem?_eq_some_iff.1 hSB).1
  have hb88 := (Array.getElem?_eq_some_iff.1 hB8).1
  have hne8 : ¬ b8 = rb := by omega
  have hr2 := hU.2 _ hr
  have cBB := fun wq N h hN => l5BadBlock_any rb B ⟨bn, br, bz, bd⟩ wq N h hN hbk1.1 hbk1.2 hbk2
  simp only [blkV] at cBB
  refine wp_region_rd 7 rb B 7000 (p + 100000) (by kernel_rfl) (by kernel_rfl) hr2 ?_
  simp only [List.take, List.drop]
  repeat (refine wpR_step (fun K hK => ?_); go_simp; (try simp only [↓IntWalk.iteOmega]); first
    | (refine hK _ _ ?_; clear hK K)
    | (refine stepR_c ?_ ?_ ?_
       rotate_left
       · intro wq hwq hrq; (have hbq := gcell hwq; (repeat (first | refine fills_no (by rfl) ?_ | (refine fills_yes (by rfl) (fun vq hvq => ?_)))); simp only [List.filter_nil, fills]; unfold upAt; (try (skip)); go_simp; (try go_bits); (try simp only [↓IntWalk.iteOmega]); (try (rw [dif_pos (by omega)]; go_simp; try go_bits)); first | exact upOut_value)
       go_simp; refine hK _ _ ?_; clear hK K)
    | (refine stepR_d (by rfl) (by kernel_rfl) (fun v _ => isSetAny v) (fun _ _ _ h _ => h) (fun wq hwq hrq => ?_) ?_
       · (have hbq := gcell hwq; (repeat (first | refine fills_no (by rfl) ?_ | (refine fills_yes (by rfl) (fun vq hvq => ?_)))); simp only [List.filter_nil, fills]; unfold gAt; (try (skip)); go_simp; (try go_bits); (try simp only [↓IntWalk.iteOmega]); (try (rw [dif_pos (by omega)]; go_simp; try go_bits)); (with_reducible refine gOut_drawn ((l1Bad_any rb B s wq _ hrq (by omega) HS.out)) ?_); decide)
       refine hK _ _ ?_; clear hK K)
    | (refine stepR_d (by rfl) (by kernel_rfl) (fun v _ => isBlk 1002 v) (fun _ _ _ h _ => h) (fun wq hwq hrq => ?_) ?_
       · (have hbq := gcell hwq; (repeat (first | refine fills_no (by rfl) ?_ | (refine fills_yes (by rfl) (fun vq hvq => ?_)))); simp only [List.filter_nil, fills]; unfold gAt; (try (skip)); go_simp; (try go_bits); (try simp only [↓IntWalk.iteOmega]); (try (rw [dif_pos (by omega)]; go_simp; try go_bits)); (with_reducible refine gOut_drawn ((cBB wq _ hrq (by omega))) ?_); decide)
       refine hK _ _ ?_; clear hK K))
  refine wpR_nil (fun wq hwq hrq => ?_)
  simp only [fills]
  rintro v6 ⟨b9, rfl, hb9⟩ v2 ⟨s9, rfl⟩
  obtain ⟨cn, cr, cz, cd⟩ := b9
  have hUw := up_grownR (hUp.trans (Up.refl _)) hU.1 (by omega)
  have hUf := up_grownR hUw hwq (by omega)
  have hR1 := gbox hwq hR1 (by simp; omega)
  have hR2 := gbox hwq hR2 (by simp; omega)
  have q0 := box_cell hR1 0
  have q1 := box_cell hR1 1
  have q2 := box_cell hR1 2
  have hfr1 := box_free hR1
  have r0 := box_cell hR2 0
  have r1 := box_cell hR2 1
  have r2 := box_cell hR2 2
  have r3 := box_cell hR2 3
  have hfr2 := box_free hR2
  simp at q0 q1 q2 r0 r1 r2 r3
  simp only [blkV, setV] at *
  clear hwq hrq
  go_wp2
  rw [onlyN_normal]
  go_wp2
  refine bodyPost_ret (v := _) (by simp [results, Try.results53, go_sem, q0, q1, q2, r0, r1, r2, r3]; rfl) rfl ?_
  refine ⟨_, rfl, ⟨s9, dict, ⟨cn, cr, cz, cd⟩, rfl, hb9⟩, ?_⟩
  (repeat (first | with_reducible exact Up.refl _ | with_reducible assumption | with_reducible refine Up.set ?_ (by first | exact Nat.le_refl _ | (simp only []; omega) | (simp; omega)) _ | with_reducible refine Up.alloc ?_ _ | with_reducible refine Up.drew ?_ | refine Up.trans ?_ (by with_reducible assumption)))

set_option maxRecDepth 100000 in
set_option maxHeartbeats 4000000 in
theorem drawFormatBlock_any (v : Value) (l : List UInt8) (w : World) (h : ArgU w v l) :
    Calls Try.prog 14  #[v] w (fun e w' => ∃ v, e = .returned v ∧ isBlk 1002 v ∧ Up w w') := by
  have cO := fun w' hu => drawBlockData_any v l w' (h.up (w' := w') hu)
  clear h
  go_enter Try.func14, Try.ntmps14
  go_wp2_with (go_at_call 53; (with_reducible refine (cO _ (by (repeat (first | with_reducible exact Up.refl _ | with_reducible assumption | with_reducible refine Up.set ?_ (by first | exact Nat.le_refl _ | (simp only []; omega) | (simp; omega)) _ | with_reducible refine Up.alloc ?_ _ | with_reducible refine Up.drew ?_ | refine Up.trans ?_ (by with_reducible assumption))))).mono ?_); rintro e w1 ⟨vq, rfl, ⟨s, d, ⟨bn, br, bz, bd⟩, rfl, hb⟩, U1⟩; simp only [blkV, setV]; have B1 := bcell U1; have Z1 : w.heap.size < w1.heap.size := (by have := U1.size; simp at this; omega); have Z2 : w.heap.size < w1.heap.size + 1 := (by omega); have Z3 : w.heap.size < w.heap.size + 1 := (by omega))
  refine bodyPost_ret (v := _) (by simp [results, Try.results14, go_sem, B1, Z1, Z2, Z3]; rfl) rfl ?_
  refine ⟨_, rfl, isBlk_mk _ _ _ _ hb, ?_⟩
  (repeat (first | with_reducible exact Up.refl _ | with_reducible assumption | with_reducible refine Up.set ?_ (by first | exact Nat.le_refl _ | (simp only []; omega) | (simp; omega)) _ | with_reducible refine Up.alloc ?_ _ | with_reducible refine Up.drew ?_ | refine Up.trans ?_ (by with_reducible assumption)))

end Go.Proofs.Ythemmoecocjpjaa
