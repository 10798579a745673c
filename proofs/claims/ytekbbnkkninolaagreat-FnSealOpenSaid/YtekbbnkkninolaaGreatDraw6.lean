/- Walk of the reference's l5Bad. Conditions: the reader is one (Rdr), its place is bounded. -/
import Derived.Test.YtekbbnkkninolaaGreatDraw5
namespace Go.Proofs.YtekbbnkkninolaaGreat
set_option linter.unusedVariables false
set_option linter.unusedSimpArgs false
open Go Go.RowKit

set_option maxRecDepth 100000 in
set_option maxHeartbeats 8000000 in
theorem l5Bad_any (rb : Nat) (B : Value) (st : ByteArray) (w : World) (N : Nat) (h : Rdr rb B w N) (hN : N ≤ 700000000) (hs : st.size ≤ 5000) :
    Calls Tryz.prog 120  #[.pointer (some ⟨rb, 0, none⟩), .string st] w (Drawn rb B 12000 (IsStr 10002) w) := by
  obtain ⟨p, hp, h, HM⟩ := h.least
  have hlt := h.lt
  have HR := Lib.hid h
  have hU := RdUp.refl rb B 0 w
  have cB := fun w N h hN => l1Bytes_as 2 2 rfl rb B w N h hN (by omega)
  go_enter Tryz.func120, Tryz.ntmps120
  go_wp2_with (first | (go_at_call 89; ((with_reducible refine (pick_at (n := (st.size : Int) + 1) HR.out hU (by intro c hU; (repeat (first | with_reducible assumption | refine RdUp.ups ?_ (by with_reducible assumption) | with_reducible refine RdUp.set ?_ (by first | exact Nat.le_refl _ | (simp only []; omega) | (simp; omega)) _ | with_reducible refine RdUp.alloc ?_ _ | with_reducible refine RdUp.drew ?_ | with_reducible exact RdUp.of (Up.refl _)))) (by omega)).mono ?_); rintro e w' ⟨k, rfl, k0, k1, hU, U⟩; clear U; ((obtain ⟨kn, rfl⟩ := Int.eq_ofNat_of_zero_le k0); (have hk : kn ≤ st.size := (by omega)); (have hx1 := Nat.le_trans (ext_le st 0 kn) hs); (have hx2 := Nat.le_trans (ext_le st kn st.size) hs)))) | (go_at_call 89; ((with_reducible refine (pick_at (n := 24) HR.out hU (by intro c hU; (repeat (first | with_reducible assumption | refine RdUp.ups ?_ (by with_reducible assumption) | with_reducible refine RdUp.set ?_ (by first | exact Nat.le_refl _ | (simp only []; omega) | (simp; omega)) _ | with_reducible refine RdUp.alloc ?_ _ | with_reducible refine RdUp.drew ?_ | with_reducible exact RdUp.of (Up.refl _)))) (by omega)).mono ?_); rintro e w' ⟨m, rfl, m0, m1, hU, U⟩; clear U; (skip))))
  all_goals first
    | (go_ret
       exact ⟨_, rfl, ⟨_, rfl, (by (try rw [ByteArray.size_append]); first | omega | (have := ext_le st 0 kn; omega))⟩, by exact RdUp.fin hU (by intro c hU; (repeat (first | with_reducible assumption | refine RdUp.ups ?_ (by with_reducible assumption) | with_reducible refine RdUp.set ?_ (by first | exact Nat.le_refl _ | (simp only []; omega) | (simp; omega)) _ | with_reducible refine RdUp.alloc ?_ _ | with_reducible refine RdUp.drew ?_ | with_reducible exact RdUp.of (Up.refl _)))) (by omega)⟩)
    | skip
  · have hr2 := hU.2 _ h
    refine wp_region_rd 10 rb B 1001 (p + (0 + 1 + 1)) (by kernel_rfl) (by kernel_rfl) hr2 ?_
    simp only [List.take, List.drop]
    repeat (refine wpR_step (fun K hK => ?_); go_simp; (try simp only [↓IntWalk.iteOmega]); first
      | (refine hK _ _ ?_; clear hK K)
      | (refine stepR_c ?_ ?_ ?_
         rotate_left
         · intro wq hwq hrq; (have hbq := gcell hwq; (repeat (first | refine fills_no (by rfl) ?_ | (refine fills_yes (by rfl) (fun vq hvq => ?_); (try ((obtain ⟨sb, rfl, hsb⟩ := hvq)))))); simp only [List.filter_nil, fills]; unfold upAt; (try (skip)); go_simp; (try go_bits); (try simp only [↓IntWalk.iteOmega]); (try (rw [dif_pos (by omega)]; go_simp; try go_bits)); first | exact upOut_value)
         go_simp; refine hK _ _ ?_; clear hK K)
      | (refine stepR_m (by kernel_rfl) ?_ ?_ (fun wq hwq hrq => ?_) ?_
         rotate_left 2
         · (have hbq := gcell hwq; (repeat (first | refine fills_no (by rfl) ?_ | (refine fills_yes (by rfl) (fun vq hvq => ?_); (try ((obtain ⟨sb, rfl, hsb⟩ := hvq)))))); simp only [List.filter_nil, fills]; unfold upAt; (try (skip)); go_simp; (try go_bits); (try simp only [↓IntWalk.iteOmega]); (try (rw [dif_pos (by omega)]; go_simp; try go_bits)); first | ((with_reducible refine upOut_D (fun v _ => IsStr 5002 v) ?_); (((with_reducible refine upOut_make (Up.refl _) ?_); exact ⟨_, rfl, by rw [ByteArray.size_append]; omega⟩))) | ((with_reducible refine upOut_D (fun v _ => IsStr 10002 v) ?_); (((with_reducible refine upOut_make (Up.refl _) ?_); exact ⟨_, rfl, by rw [ByteArray.size_append]; omega⟩))))
         rotate_left
         · (first | exact (fun _ _ _ h _ => h))
         refine hK _ _ ?_; clear hK K)
      | (refine stepR_d (by rfl) (by kernel_rfl) (fun v _ => IsStr 2 v) (fun _ _ _ h _ => h) (fun wq hwq hrq => ?_) ?_
         · (have hbq := gcell hwq; (repeat (first | refine fills_no (by rfl) ?_ | (refine fills_yes (by rfl) (fun vq hvq => ?_); (try ((obtain ⟨sb, rfl, hsb⟩ := hvq)))))); simp only [List.filter_nil, fills]; unfold gAt; (try (skip)); go_simp; (try go_bits); (try simp only [↓IntWalk.iteOmega]); (try (rw [dif_pos (by omega)]; go_simp; try go_bits)); (with_reducible refine gOut_drawn ((cB wq _ hrq (by omega))) ?_); decide)
         refine hK _ _ ?_; clear hK K))
    refine wpR_nil (fun wq hwq hrq => ?_)
    simp only [fills]
    rintro v9 ⟨sb, rfl, hsb⟩ - - - -
    have hU := RdUp.made (C := 12000) HM (grownBy_trans hU.1 hwq) hrq (by omega)
    go_wp2
    rw [onlyN_normal]
    go_wp2
    go_ret
    exact ⟨_, rfl, ⟨_, rfl, hsb⟩, by exact RdUp.fin hU (by intro c hU; (repeat (first | with_reducible assumption | refine RdUp.ups ?_ (by with_reducible assumption) | with_reducible refine RdUp.set ?_ (by first | exact Nat.le_refl _ | (simp only []; omega) | (simp; omega)) _ | with_reducible refine RdUp.alloc ?_ _ | with_reducible refine RdUp.drew ?_ | with_reducible exact RdUp.of (Up.refl _)))) (by omega)⟩
  · have hr2 := hU.2 _ h
    have hki : (kn : Int) < (st.size : Int) := by omega
    have hki2 : (kn : Int) + 1 ≤ (st.size : Int) := by omega
    have hki3 : kn + 1 ≤ st.size := by omega
    have hkn : ((kn : Int) + 1).toNat = kn + 1 := by omega
    have hx3 := Nat.le_trans (ext_le st (kn + 1) st.size) hs
    refine wp_region_rd 19 rb B 1 (p + (0 + 1 + 1)) (by kernel_rfl) (by kernel_rfl) hr2 ?_
    simp only [List.take, List.drop]
    repeat (refine wpR_step (fun K hK => ?_); go_simp; (try simp only [↓IntWalk.iteOmega]); first
      | (refine hK _ _ ?_; clear hK K)
      | (refine stepR_c ?_ ?_ ?_
         rotate_left
         · intro wq hwq hrq; (have hbq := gcell hwq; (repeat (first | refine fills_no (by rfl) ?_ | (refine fills_yes (by rfl) (fun vq hvq => ?_); (try ((first | (obtain ⟨i, rfl, hi0, hi1⟩ := hvq) | (obtain ⟨sb, rfl, hsb⟩ := hvq) | (obtain ⟨x, hlv⟩ := litR_open hvq))))))); simp only [List.filter_nil, fills]; unfold upAt; (try (skip)); go_simp; (try go_bits); (try simp only [↓IntWalk.iteOmega]); (try (rw [dif_pos (by omega)]; go_simp; try go_bits)); first | exact upOut_value)
         go_simp; refine hK _ _ ?_; clear hK K)
      | (refine stepR_m (by kernel_rfl) ?_ ?_ (fun wq hwq hrq => ?_) ?_
         rotate_left 2
         · (have hbq := gcell hwq; (repeat (first | refine fills_no (by rfl) ?_ | (refine fills_yes (by rfl) (fun vq hvq => ?_); (try ((first | (obtain ⟨i, rfl, hi0, hi1⟩ := hvq) | (obtain ⟨sb, rfl, hsb⟩ := hvq) | (obtain ⟨x, hlv⟩ := litR_open hvq))))))); simp only [List.filter_nil, fills]; unfold upAt; (try (skip)); go_simp; (try go_bits); (try simp only [↓IntWalk.iteOmega]); (try (rw [dif_pos (by omega)]; go_simp; try go_bits)); first | ((with_reducible refine upOut_D (fun v _ => IsU 7 v) ?_); (((with_reducible refine upOut_make (Up.refl _) ?_); exact ⟨_, rfl, by omega, by omega⟩))) | ((with_reducible refine upOut_D (fun v _ => IsByte v) ?_); (((with_reducible refine upOut_make (Up.refl _) ?_); exact isByte_any))) | ((with_reducible refine upOut_D (LitR rb) ?_); (((with_reducible refine upOut_make ((Up.refl _).alloc _) ?_); exact litR_new hrq.lt hi0 hi1))) | ((with_reducible refine upOut_D (fun v _ => IsStr 1 v) ?_); ((rw [litR_conv hlv]; (try go_simp); (with_reducible refine upOut_make (Up.refl _) ?_); exact ⟨_, rfl, by rw [strOfNums_size]; exact Nat.le_refl _⟩))) | ((with_reducible refine upOut_D (fun v _ => IsStr 5001 v) ?_); (((with_reducible refine upOut_make (Up.refl _) ?_); exact ⟨_, rfl, by rw [ByteArray.size_append]; (with_reducible refine Nat.le_trans (Nat.add_le_add hx1 hsb) ?_); decide⟩))) | ((with_reducible refine upOut_D (fun v _ => IsStr 10002 v) ?_); (((with_reducible refine upOut_make (Up.refl _) ?_); exact ⟨_, rfl, by rw [ByteArray.size_append]; (with_reducible refine Nat.le_trans (Nat.add_le_add hsb hx3) ?_); decide⟩))))
         rotate_left
         · (first | exact (fun _ _ _ h _ => h) | exact (litR_closed))
         refine hK _ _ ?_; clear hK K)
      | (refine stepR_d (by rfl) (by kernel_rfl) (fun v _ => pickB 8 v) (fun _ _ _ h _ => h) (fun wq hwq hrq => ?_) ?_
         · (have hbq := gcell hwq; (repeat (first | refine fills_no (by rfl) ?_ | (refine fills_yes (by rfl) (fun vq hvq => ?_); (try ((first | (obtain ⟨i, rfl, hi0, hi1⟩ := hvq) | (obtain ⟨sb, rfl, hsb⟩ := hvq) | (obtain ⟨x, hlv⟩ := litR_open hvq))))))); simp only [List.filter_nil, fills]; unfold gAt; (try (skip)); go_simp; (try go_bits); (try simp only [↓IntWalk.iteOmega]); (try (rw [dif_pos (by omega)]; go_simp; try go_bits)); (with_reducible refine gOut_drawn ((pick_any rb B 8 wq _ hrq (by omega))) ?_); decide)
         refine hK _ _ ?_; clear hK K))
    refine wpR_nil (fun wq hwq hrq => ?_)
    simp only [fills]
    rintro v9 ⟨sb, rfl, hsb⟩
    intros
    have hU := RdUp.made (C := 12000) HM (grownBy_trans hU.1 hwq) hrq (by omega)
    go_wp2
    rw [onlyN_normal]
    go_wp2
    go_ret
    exact ⟨_, rfl, ⟨_, rfl, hsb⟩, by exact RdUp.fin hU (by intro c hU; (repeat (first | with_reducible assumption | refine RdUp.ups ?_ (by with_reducible assumption) | with_reducible refine RdUp.set ?_ (by first | exact Nat.le_refl _ | (simp only []; omega) | (simp; omega)) _ | with_reducible refine RdUp.alloc ?_ _ | with_reducible refine RdUp.drew ?_ | with_reducible exact RdUp.of (Up.refl _)))) (by omega)⟩

end Go.Proofs.YtekbbnkkninolaaGreat
