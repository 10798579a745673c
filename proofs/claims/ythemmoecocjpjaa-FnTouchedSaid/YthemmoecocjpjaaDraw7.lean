/- Walks of the reference's draws of blocks. Conditions: the reader is one (Rdr), its place is bounded. -/
import Derived.Test.YthemmoecocjpjaaDraw6
namespace Go.Proofs.Ythemmoecocjpjaa
set_option linter.unusedVariables false
set_option linter.unusedSimpArgs false
open Go Go.RowKit

def isBlk (n : Nat) (v : Value) : Prop := ∃ b : BlkD, v = blkV b ∧ b.body.size ≤ n
theorem isBlk_mk {n : Nat} (a : Int) (r : Bool) (s : Int) (d : ByteArray) (h : d.size ≤ n) : isBlk n (.agg #[.int .i64 a, .bool r, .int .i64 s, .string d]) := ⟨⟨a, r, s, d⟩, rfl, h⟩

set_option maxRecDepth 100000 in
set_option maxHeartbeats 8000000 in
theorem l5BadBlock_any (rb : Nat) (B : Value) (b : BlkD) (w : World) (N : Nat) (h : Rdr rb B w N) (hN : N ≤ 700000000) (h0 : 0 ≤ b.size) (h1 : b.size ≤ 1000) (hs : b.body.size ≤ 1000) :
    Calls Try.prog 96  #[.pointer (some ⟨rb, 0, none⟩), blkV b] w (Drawn rb B 7000 (isBlk 1002) w) := by
  obtain ⟨p, hp, h, HM⟩ := h.least
  have hlt := h.lt
  have HR := Lib.hid h
  have hne0 : ¬ w.heap.size = rb := by omega
  have hne1 : ¬ w.heap.size + 1 = rb := by omega
  have e1 : w.heap.size < w.heap.size + 1 := by omega
  have e2 : w.heap.size < w.heap.size + 1 + 1 := by omega
  have e3 : w.heap.size + 1 < w.heap.size + 1 + 1 := by omega
  have hU := RdUp.refl rb B 0 w
  have cB := fun w N h hN => l1Bytes_as 2 2 rfl rb B w N h hN (by omega)
  obtain ⟨bn, br, bz, bd⟩ := b
  simp only [blkV] at *
  go_enter Try.func96, Try.ntmps96
  go_wp2_with (first | (go_at_call 62; ((with_reducible refine (pick_at (n := 30) HR.out hU (by intro c hU; (repeat (first | with_reducible assumption | refine RdUp.ups ?_ (by with_reducible assumption) | with_reducible refine RdUp.set ?_ (by first | exact Nat.le_refl _ | (simp only []; omega) | (simp; omega)) _ | with_reducible refine RdUp.alloc ?_ _ | with_reducible refine RdUp.drew ?_ | with_reducible exact RdUp.of (Up.refl _)))) (by omega)).mono ?_); rintro e w' ⟨m, rfl, m0, m1, hU, U⟩; have D := gcell U.1; have Z := U.1.size; (try simp at Z); (try have Y0 : w.heap.size < w'.heap.size := (by omega)); (try have Y1 : w.heap.size + 1 < w'.heap.size := (by omega)); (try have Y2 : w.heap.size + 1 + 1 < w'.heap.size := (by omega)); (try have X0 : w.heap.size < w'.heap.size + 1 := (by omega)); (try have X1 : w.heap.size + 1 < w'.heap.size + 1 := (by omega)); (try have X2 : w.heap.size + 1 + 1 < w'.heap.size + 1 := (by omega)); (skip))) | (go_at_call 63; ((with_reducible refine (num_at ([-1, 39, 40, 65536]) HR.out hU (by intro c hU; (repeat (first | with_reducible assumption | refine RdUp.ups ?_ (by with_reducible assumption) | with_reducible refine RdUp.set ?_ (by first | exact Nat.le_refl _ | (simp only []; omega) | (simp; omega)) _ | with_reducible refine RdUp.alloc ?_ _ | with_reducible refine RdUp.drew ?_ | with_reducible exact RdUp.of (Up.refl _)))) (by omega) (by first | rfl | (simp; done) | fail) (by first | rfl | (simp; done) | fail) (by first | rfl | (simp; done) | fail) (by simp) (by simp) (by first | rfl | (simp; done) | fail)).mono ?_); rintro e w' ⟨i, rfl, hi, hU, U⟩; have D := gcell U.1; have Z := U.1.size; (try simp at Z); (try have Y0 : w.heap.size < w'.heap.size := (by omega)); (try have Y1 : w.heap.size + 1 < w'.heap.size := (by omega)); (try have Y2 : w.heap.size + 1 + 1 < w'.heap.size := (by omega)); (try have X0 : w.heap.size < w'.heap.size + 1 := (by omega)); (try have X1 : w.heap.size + 1 < w'.heap.size + 1 := (by omega)); (try have X2 : w.heap.size + 1 + 1 < w'.heap.size + 1 := (by omega)); (clear hi))) | (go_at_call 63; ((with_reducible refine (num_at ([0, 65, bz + 1, -1]) HR.out hU (by intro c hU; (repeat (first | with_reducible assumption | refine RdUp.ups ?_ (by with_reducible assumption) | with_reducible refine RdUp.set ?_ (by first | exact Nat.le_refl _ | (simp only []; omega) | (simp; omega)) _ | with_reducible refine RdUp.alloc ?_ _ | with_reducible refine RdUp.drew ?_ | with_reducible exact RdUp.of (Up.refl _)))) (by omega) (by first | rfl | (simp; done) | fail) (by first | rfl | (simp; done) | fail) (by first | rfl | (simp; done) | fail) (by simp) (by simp) (by first | rfl | (simp; done) | fail)).mono ?_); rintro e w' ⟨i, rfl, hi, hU, U⟩; have D := gcell U.1; have Z := U.1.size; (try simp at Z); (try have Y0 : w.heap.size < w'.heap.size := (by omega)); (try have Y1 : w.heap.size + 1 < w'.heap.size := (by omega)); (try have Y2 : w.heap.size + 1 + 1 < w'.heap.size := (by omega)); (try have X0 : w.heap.size < w'.heap.size + 1 := (by omega)); (try have X1 : w.heap.size + 1 < w'.heap.size + 1 := (by omega)); (try have X2 : w.heap.size + 1 + 1 < w'.heap.size + 1 := (by omega)); (clear hi))))
  all_goals first
    | (have q0 : w'.cell? ⟨w.heap.size + 1, 0, none⟩ = some (.int .i64 0) := by simp [go_sem, *]
       have q1 : w'.cell? ⟨w.heap.size + 1, 1, none⟩ = some (.bool false) := by simp [go_sem, *]
       have q2 : w'.cell? ⟨w.heap.size + 1, 2, none⟩ = some (.int .i64 0) := by simp [go_sem, *]
       have q3 : w'.cell? ⟨w.heap.size + 1, 3, none⟩ = some (.string ByteArray.empty) := by simp [go_sem, *]; try rfl
       refine bodyPost_ret (v := _) (by simp [results, Try.results96, go_sem, q0, q1, q2, q3]; rfl) rfl ?_
       refine ⟨_, rfl, isBlk_mk _ _ _ _ (by first | omega | exact Nat.zero_le _), ?_⟩
       exact RdUp.fin hU (by intro c hU; (repeat (first | with_reducible assumption | refine RdUp.ups ?_ (by with_reducible assumption) | with_reducible refine RdUp.set ?_ (by first | exact Nat.le_refl _ | (simp only []; omega) | (simp; omega)) _ | with_reducible refine RdUp.alloc ?_ _ | with_reducible refine RdUp.drew ?_ | with_reducible exact RdUp.of (Up.refl _)))) (by omega))
    | skip
  have hr2 := hU.2 _ h
  have hBB := gbox U.1 (box_up ((Up.refl _).alloc _) (MapKept.heap_alloc w _).1) (by simp; omega)
  have hRB := gbox U.1 (alloc2 w _ _) (by simp; omega)
  have s0 := box_cell hBB 0
  have s1 := box_cell hBB 1
  have s2 := box_cell hBB 2
  have s3 := box_cell hBB 3
  have hfr := box_free hBB
  have t0 := box_cell hRB 0
  have t1 := box_cell hRB 1
  have t2 := box_cell hRB 2
  have t3 := box_cell hRB 3
  have hfr2 := box_free hRB
  simp at s0 s1 s2 s3 t0 t1 t2 t3
  clear D U hBB hRB
  refine wp_region_rd 6 rb B 1001 (p + (0 + 1)) (by kernel_rfl) (by kernel_rfl) hr2 ?_
  simp only [List.take, List.drop]
  repeat (refine wpR_step (fun K hK => ?_); go_simp; (try simp only [↓IntWalk.iteOmega]); first
    | (refine hK _ _ ?_; clear hK K)
    | (refine stepR_c ?_ ?_ ?_
       rotate_left
       · intro wq hwq hrq; (have hbq := gcell hwq; (repeat (first | refine fills_no (by rfl) ?_ | (refine fills_yes (by rfl) (fun vq hvq => ?_); (try ((obtain ⟨sb, rfl, hsb⟩ := hvq)))))); simp only [List.filter_nil, fills]; unfold upAt; (try (skip)); go_simp; (try go_bits); (try simp only [↓IntWalk.iteOmega]); (try (rw [dif_pos (by omega)]; go_simp; try go_bits)); first | exact upOut_value)
       go_simp; refine hK _ _ ?_; clear hK K)
    | (refine stepR_m (by kernel_rfl) ?_ ?_ (fun wq hwq hrq => ?_) ?_
       rotate_left 2
       · (have hbq := gcell hwq; (repeat (first | refine fills_no (by rfl) ?_ | (refine fills_yes (by rfl) (fun vq hvq => ?_); (try ((obtain ⟨sb, rfl, hsb⟩ := hvq)))))); simp only [List.filter_nil, fills]; unfold upAt; (try (skip)); go_simp; (try go_bits); (try simp only [↓IntWalk.iteOmega]); (try (rw [dif_pos (by omega)]; go_simp; try go_bits)); first | ((with_reducible refine upOut_D (fun v _ => IsStr 1002 v) ?_); (((with_reducible refine upOut_make (Up.refl _) ?_); exact ⟨_, rfl, by rw [ByteArray.size_append]; (with_reducible refine Nat.le_trans (Nat.add_le_add hs hsb) ?_); decide⟩))))
       rotate_left
       · (first | exact (fun _ _ _ h _ => h))
       refine hK _ _ ?_; clear hK K)
    | (refine stepR_d (by rfl) (by kernel_rfl) (fun v _ => IsStr 2 v) (fun _ _ _ h _ => h) (fun wq hwq hrq => ?_) ?_
       · (have hbq := gcell hwq; (repeat (first | refine fills_no (by rfl) ?_ | (refine fills_yes (by rfl) (fun vq hvq => ?_); (try ((obtain ⟨sb, rfl, hsb⟩ := hvq)))))); simp only [List.filter_nil, fills]; unfold gAt; (try (skip)); go_simp; (try go_bits); (try simp only [↓IntWalk.iteOmega]); (try (rw [dif_pos (by omega)]; go_simp; try go_bits)); (with_reducible refine gOut_drawn ((cB wq _ hrq (by omega))) ?_); decide)
       refine hK _ _ ?_; clear hK K))
  refine wpR_nil (fun wq hwq hrq => ?_)
  simp only [fills]
  rintro v9 ⟨sb, rfl, hsb⟩
  intros
  have hU := RdUp.made (C := 7000) HM (grownBy_trans hU.1 hwq) hrq (by omega)
  have D := gcell hwq
  have Z := hwq.size
  have Y0 : w.heap.size < wq.heap.size := by omega
  have Y1 : w.heap.size + 1 < wq.heap.size := by omega
  go_wp2
  rw [onlyN_normal]
  go_wp2
  have q0 : wq.cell? ⟨w.heap.size + 1, 0, none⟩ = some (.int .i64 0) := by simp [go_sem, *]
  have q1 : wq.cell? ⟨w.heap.size + 1, 1, none⟩ = some (.bool false) := by simp [go_sem, *]
  have q2 : wq.cell? ⟨w.heap.size + 1, 2, none⟩ = some (.int .i64 0) := by simp [go_sem, *]
  have q3 : wq.cell? ⟨w.heap.size + 1, 3, none⟩ = some (.string ByteArray.empty) := by simp [go_sem, *]; try rfl
  refine bodyPost_ret (v := _) (by simp [results, Try.results96, go_sem, q0, q1, q2, q3]; rfl) rfl ?_
  refine ⟨_, rfl, isBlk_mk _ _ _ _ hsb, ?_⟩
  exact RdUp.fin hU (by intro c hU; (repeat (first | with_reducible assumption | refine RdUp.ups ?_ (by with_reducible assumption) | with_reducible refine RdUp.set ?_ (by first | exact Nat.le_refl _ | (simp only []; omega) | (simp; omega)) _ | with_reducible refine RdUp.alloc ?_ _ | with_reducible refine RdUp.drew ?_ | with_reducible exact RdUp.of (Up.refl _)))) (by omega)

end Go.Proofs.Ythemmoecocjpjaa
