/- Texts joined into one: the walks and laws that the last text leans on. Conditions: as each says. -/
import Derived.Test.YtgbakgaegldomaaGreatMFnWriterKnownLawU
import Derived.Test.YtgbakgaegldomaaGreatMFnWriterKnownLawV
import Derived.Test.YtgbakgaegldomaaGreatMFnWriterKnownLawN

set_option linter.unusedVariables false
set_option linter.unusedSimpArgs false
/- Walk of the reference's l2Bad. Conditions: the reader is one (Rdr), its place is bounded; what is known is valid and can be read. -/
namespace Go.Proofs.YtgbakgaegldomaaGreat
open Go Go.RowKit
def BadK (k : KnD) : Prop := (-9223372036854775808 ≤ k.set.lit ∧ k.set.lit ≤ 9223372036854775807) ∧ k.ps.length ≤ 1100
def BadPost (rb : Nat) (B : Value) (v : Value) (ps : List PairD) (w : World) (e : Ending) (w' : World) : Prop := ∃ k' v', e = .returned (kV k' v') ∧ BadK k' ∧ ((v' = v ∧ k'.ps = ps) ∨ RdP w.heap.size w' v' k'.ps) ∧ RdUp rb B 40 w w'
theorem badK_of {k : KnD} (hk : k.Ok) : BadK k := by
  have h1 := (setOk_bd hk.set).2.1
  have h2 := hk.nums
  exact ⟨by omega, by omega⟩
set_option maxRecDepth 100000 in
set_option maxHeartbeats 8000000 in
theorem l2BadB_any (k : KnD) (v : Value) (rb : Nat) (B : Value) (w : World) (N : Nat) (h : Rdr rb B w N) (hN : N ≤ 900000000) (hk : k.Ok) (hr : RdP (rb + 1) w v k.ps) :
    Calls Tryz.prog 30  #[.pointer (some ⟨rb, 0, none⟩), kV k v] w (BadPost rb B v k.ps w) := by
  obtain ⟨p, hp, h, HM⟩ := h.least
  have hlt := h.lt
  have HR := Lib.hid h
  have hne0 : ¬ w.heap.size = rb := by omega
  have hne1 : ¬ w.heap.size + 1 = rb := by omega
  have hU := RdUp.refl rb B 0 w
  have e1 : w.heap.size < w.heap.size + 1 := by omega
  have e2 : w.heap.size < w.heap.size + 1 + 1 := by omega
  have e3 : w.heap.size + 1 < w.heap.size + 1 + 1 := by omega
  have hrt := fun (wq : World) (hg : w.grownBy wq (some rb)) => hr.gr hg (Nat.lt_succ_self rb)
  have hbk := badK_of hk
  have hpl := hk.nums.2.2.2.1
  have hcl := hk.nums.2.1
  have hnx : (k.next : Int) ≤ 1024 := by have := KnD.next_bd hk; omega
  have cX := fun wx hr => l2Next_any k v (rb + 1) wx hk hr
  have cK := fun wx => l1Clear_any k.set wx hk.set
  have cE := fun wx => l1End_any k.set wx hk.set
  have cB := fun w N h hN => l1BadB_any rb B k.set w N h hN hk.set
  obtain ⟨a, cap, rfl, hc1, hc2, hc3, -⟩ := id hr
  unfold maxLen at hc2
  have hKB : KnAt w.heap.size k (.slice a k.ps.length cap) ((w.alloc (.cells #[.int .i64 k.set.ord, .int .i64 k.set.lit, .int .i64 k.set.most, .slice a k.ps.length cap, .int .i64 k.base, .int .i64 k.last] 27)).alloc (.cells #[.int .i64 0, .int .i64 0, .int .i64 0, .slice none 0 0, .int .i64 0, .int .i64 0] 27)) := box_up ((Up.refl _).alloc _) (MapKept.heap_alloc w _).1
  have hRB : KnAt (w.heap.size + 1) kn0 (.slice none 0 0) ((w.alloc (.cells #[.int .i64 k.set.ord, .int .i64 k.set.lit, .int .i64 k.set.most, .slice a k.ps.length cap, .int .i64 k.base, .int .i64 k.last] 27)).alloc (.cells #[.int .i64 0, .int .i64 0, .int .i64 0, .slice none 0 0, .int .i64 0, .int .i64 0] 27)) := alloc2 w _ _
  simp only [kV, setV] at *
  clear hk hr
  go_enter Tryz.func30, Tryz.ntmps30
  go_wp2_with (first | (go_at_call 28; ((with_reducible refine (pick_at (n := 40) HR.out hU (by intro c hU; (repeat (first | with_reducible assumption | refine RdUp.ups ?_ (by with_reducible assumption) | with_reducible refine RdUp.set ?_ (by first | exact Nat.le_refl _ | (simp only []; omega) | (simp; omega)) _ | with_reducible refine RdUp.alloc ?_ _ | with_reducible refine RdUp.drew ?_ | with_reducible exact RdUp.of (Up.refl _)))) (by omega)).mono ?_); rintro e w' ⟨x, rfl, x0, x1, hU, U⟩; have D := gcell U.1; have Z := U.1.size; (try simp at Z); (try have Y0 : w.heap.size < w'.heap.size := (by omega)); (try have Y1 : w.heap.size + 1 < w'.heap.size := (by omega)); (try have Y2 : w.heap.size + 1 + 1 < w'.heap.size := (by omega)); (try have X0 : w.heap.size < w'.heap.size + 1 := (by omega)); (try have X1 : w.heap.size + 1 < w'.heap.size + 1 := (by omega)); (try have X2 : w.heap.size + 1 + 1 < w'.heap.size + 1 := (by omega)); ((have hKB := gbox U.1 hKB (by simp; omega); have hRB := gbox U.1 hRB (by simp; omega); obtain ⟨hb1, q0, q1, q2, q3, q4, q5⟩ := KnAt.cells hKB; obtain ⟨hb0, s0, s1, s2, s3, s4, s5⟩ := KnAt.cells hRB; have hfr := box_free hRB; have hfk := box_free hKB)))) | ((go_at_call 71; ((with_reducible refine (draw_at (cB) HR.out hU (by intro c hU; (repeat (first | with_reducible assumption | refine RdUp.ups ?_ (by with_reducible assumption) | with_reducible refine RdUp.set ?_ (by first | exact Nat.le_refl _ | (simp only []; omega) | (simp; omega)) _ | with_reducible refine RdUp.alloc ?_ _ | with_reducible refine RdUp.drew ?_ | with_reducible exact RdUp.of (Up.refl _)))) (by omega)).mono ?_); rintro e w' ⟨v, rfl, ⟨s9, rfl, hs9⟩, hU, U⟩; have D := gcell U.1; have Z := U.1.size; (try simp at Z); (try have Y0 : w.heap.size < w'.heap.size := (by omega)); (try have Y1 : w.heap.size + 1 < w'.heap.size := (by omega)); (try have Y2 : w.heap.size + 1 + 1 < w'.heap.size := (by omega)); (try have X0 : w.heap.size < w'.heap.size + 1 := (by omega)); (try have X1 : w.heap.size + 1 < w'.heap.size + 1 := (by omega)); (try have X2 : w.heap.size + 1 + 1 < w'.heap.size + 1 := (by omega)))); simp only [setV]; (have hKB := gbox U.1 hKB (by simp; omega); have hRB := gbox U.1 hRB (by simp; omega); clear q0 q1 q2 q3 q4 q5 hb1 s0 s1 s2 s3 s4 s5 hb0 hfr hfk; obtain ⟨hb1, q0, q1, q2, q3, q4, q5⟩ := KnAt.cells hKB; obtain ⟨hb0, s0, s1, s2, s3, s4, s5⟩ := KnAt.cells hRB; have hfr := box_free hRB; have hfk := box_free hKB)) | (go_at_call 68; ((with_reducible refine (num_at ([-1, (k.ps.length : Int) + 1, 9223372036854775807]) HR.out hU (by intro c hU; (repeat (first | with_reducible assumption | refine RdUp.ups ?_ (by with_reducible assumption) | with_reducible refine RdUp.set ?_ (by first | exact Nat.le_refl _ | (simp only []; omega) | (simp; omega)) _ | with_reducible refine RdUp.alloc ?_ _ | with_reducible refine RdUp.drew ?_ | with_reducible exact RdUp.of (Up.refl _)))) (by omega) (by first | rfl | (simp; done) | fail) (by first | rfl | (simp; done) | fail) (by first | rfl | (simp; done) | fail) (by simp) (by simp) (by first | rfl | (simp; done) | fail)).mono ?_); rintro e w' ⟨i, rfl, hi, hU, U⟩; have D := gcell U.1; have Z := U.1.size; (try simp at Z); (try have Y0 : w.heap.size < w'.heap.size := (by omega)); (try have Y1 : w.heap.size + 1 < w'.heap.size := (by omega)); (try have Y2 : w.heap.size + 1 + 1 < w'.heap.size := (by omega)); (try have X0 : w.heap.size < w'.heap.size + 1 := (by omega)); (try have X1 : w.heap.size + 1 < w'.heap.size + 1 := (by omega)); (try have X2 : w.heap.size + 1 + 1 < w'.heap.size + 1 := (by omega)); ((have hKB := gbox U.1 (box_up ((Up.refl _).alloc _) hKB) (by simp; omega); have hRB := gbox U.1 (box_up ((Up.refl _).alloc _) hRB) (by simp; omega); clear q0 q1 q2 q3 q4 q5 hb1 s0 s1 s2 s3 s4 s5 hb0 hfr hfk; obtain ⟨hb1, q0, q1, q2, q3, q4, q5⟩ := KnAt.cells hKB; obtain ⟨hb0, s0, s1, s2, s3, s4, s5⟩ := KnAt.cells hRB; have hfr := box_free hRB; have hfk := box_free hKB)))))
  all_goals first
    | (refine bodyPost_ret (v := _) (by simp [results, Tryz.results30, go_sem, hb0, s0, s1, s2, s3, s4, s5]; rfl) rfl ?_
       first
         | (refine ⟨k, .slice a k.ps.length cap, rfl, hbk, .inl ⟨rfl, rfl⟩, ?_⟩ <;> exact RdUp.fin hU (by intro c hU; (repeat (first | with_reducible assumption | refine RdUp.ups ?_ (by with_reducible assumption) | with_reducible refine RdUp.set ?_ (by first | exact Nat.le_refl _ | (simp only []; omega) | (simp; omega)) _ | with_reducible refine RdUp.alloc ?_ _ | with_reducible refine RdUp.drew ?_ | with_reducible exact RdUp.of (Up.refl _)))) (by omega))
         | (refine ⟨⟨s9, k.ps, k.base, k.last⟩, .slice a k.ps.length cap, rfl, ⟨hs9, hbk.2⟩, .inl ⟨rfl, rfl⟩, ?_⟩ <;> exact RdUp.fin hU (by intro c hU; (repeat (first | with_reducible assumption | refine RdUp.ups ?_ (by with_reducible assumption) | with_reducible refine RdUp.set ?_ (by first | exact Nat.le_refl _ | (simp only []; omega) | (simp; omega)) _ | with_reducible refine RdUp.alloc ?_ _ | with_reducible refine RdUp.drew ?_ | with_reducible exact RdUp.of (Up.refl _)))) (by omega))
         | (refine ⟨⟨k.set, k.ps, i, k.last⟩, .slice a k.ps.length cap, rfl, hbk, .inl ⟨rfl, rfl⟩, ?_⟩ <;> exact RdUp.fin hU (by intro c hU; (repeat (first | with_reducible assumption | refine RdUp.ups ?_ (by with_reducible assumption) | with_reducible refine RdUp.set ?_ (by first | exact Nat.le_refl _ | (simp only []; omega) | (simp; omega)) _ | with_reducible refine RdUp.alloc ?_ _ | with_reducible refine RdUp.drew ?_ | with_reducible exact RdUp.of (Up.refl _)))) (by omega)))
    | skip
  · skip
    have hr2 := hU.2 _ h
    refine wp_region_rd 12 rb B 1 _ (by kernel_rfl) (by kernel_rfl) hr2 ?_
    simp only [List.take, List.drop]
    repeat (refine wpR_step (fun K hK => ?_); go_simp; (try simp only [↓IntWalk.iteOmega]); first
      | (refine hK _ _ ?_; clear hK K)
      | (refine stepR_c ?_ ?_ ?_
         rotate_left
         · intro wq hwq hrq; (have hbq := gcell hwq; (repeat (first | refine fills_no (by rfl) ?_ | (refine fills_yes (by rfl) (fun vq hvq => ?_); (try ((with_reducible have hvi : RdInts rb wq vq [-1, -2, ((clr k.set : Nat) : Int), ((clr k.set : Nat) : Int) + 1, ((k.next : Nat) : Int), 9223372036854775807] := hvq)))))); simp only [List.filter_nil, fills]; unfold upAt; (try ((obtain ⟨-, r0, r1, r2, r3, r4, r5⟩ := KnAt.cells (gbox hwq hKB (by simp; omega))))); go_simp; (try go_bits); (try simp only [↓IntWalk.iteOmega]); (try (rw [dif_pos (by omega)]; go_simp; try go_bits)); first | exact upOut_value | (apply upOut_call; (go_at_call 69; exact cK _)) | (apply upOut_eq; (go_at_call 69; exact cK _)) | (apply upOut_call; (go_at_call 72; exact cE _)) | (apply upOut_eq; (go_at_call 72; exact cE _)) | (apply upOut_call; (go_at_call 73; exact cX _ (hrt _ (grownBy_trans hU.1 hwq)))) | (apply upOut_eq; (go_at_call 73; exact cX _ (hrt _ (grownBy_trans hU.1 hwq)))))
         go_simp; refine hK _ _ ?_; clear hK K)
      | (refine stepR_m (by kernel_rfl) ?_ ?_ (fun wq hwq hrq => ?_) ?_
         rotate_left 2
         · (have hbq := gcell hwq; (repeat (first | refine fills_no (by rfl) ?_ | (refine fills_yes (by rfl) (fun vq hvq => ?_); (try ((with_reducible have hvi : RdInts rb wq vq [-1, -2, ((clr k.set : Nat) : Int), ((clr k.set : Nat) : Int) + 1, ((k.next : Nat) : Int), 9223372036854775807] := hvq)))))); simp only [List.filter_nil, fills]; unfold upAt; (try ((obtain ⟨-, r0, r1, r2, r3, r4, r5⟩ := KnAt.cells (gbox hwq hKB (by simp; omega))))); go_simp; (try go_bits); (try simp only [↓IntWalk.iteOmega]); (try (rw [dif_pos (by omega)]; go_simp; try go_bits)); first | ((with_reducible refine upOut_D ((fun v w => RdInts rb w v [-1, -2, ((clr k.set : Nat) : Int), ((clr k.set : Nat) : Int) + 1, ((k.next : Nat) : Int), 9223372036854775807])) ?_); (((with_reducible refine upOut_make ((Up.refl _).alloc _) ?_); exact rdInts_new [-1, -2, ((clr k.set : Nat) : Int), ((clr k.set : Nat) : Int) + 1, ((k.next : Nat) : Int), 9223372036854775807] rfl (by simp) rfl rfl hrq.lt))))
         rotate_left
         · (first | exact (fun _ _ _ h _ => h) | exact ((fun v w w' h hg => RdInts.gr h hg)))
         refine hK _ _ ?_; clear hK K)
      | (refine stepR_d (by rfl) (by kernel_rfl) (fun v _ => oneOf [-1, -2, ((clr k.set : Nat) : Int), ((clr k.set : Nat) : Int) + 1, ((k.next : Nat) : Int), 9223372036854775807] v) (fun _ _ _ h _ => h) (fun wq hwq hrq => ?_) ?_
         · (have hbq := gcell hwq; (repeat (first | refine fills_no (by rfl) ?_ | (refine fills_yes (by rfl) (fun vq hvq => ?_); (try ((with_reducible have hvi : RdInts rb wq vq [-1, -2, ((clr k.set : Nat) : Int), ((clr k.set : Nat) : Int) + 1, ((k.next : Nat) : Int), 9223372036854775807] := hvq)))))); simp only [List.filter_nil, fills]; unfold gAt; (try ((obtain ⟨-, r0, r1, r2, r3, r4, r5⟩ := KnAt.cells (gbox hwq hKB (by simp; omega))))); go_simp; (try go_bits); (try simp only [↓IntWalk.iteOmega]); (try (rw [dif_pos (by omega)]; go_simp; try go_bits)); (with_reducible refine gOut_drawn ((num_any rb B [-1, -2, ((clr k.set : Nat) : Int), ((clr k.set : Nat) : Int) + 1, ((k.next : Nat) : Int), 9223372036854775807] _ wq _ hrq (by omega) hvi (by simp))) ?_); decide)
         refine hK _ _ ?_; clear hK K))
    refine wpR_nil (fun wq hwq hrq => ?_)
    simp only [fills]
    rintro u ⟨i, rfl, hi⟩
    intros
    have hU := RdUp.made (C := 40) HM (grownBy_trans hU.1 hwq) hrq (by omega)
    have hKB := gbox hwq hKB (by simp; omega)
    have hRB := gbox hwq hRB (by simp; omega)
    clear q0 q1 q2 q3 q4 q5 hb1 s0 s1 s2 s3 s4 s5 hb0 hfr hfk
    obtain ⟨hb1, q0, q1, q2, q3, q4, q5⟩ := KnAt.cells hKB; obtain ⟨hb0, s0, s1, s2, s3, s4, s5⟩ := KnAt.cells hRB; have hfr := box_free hRB; have hfk := box_free hKB
    go_wp2
    rw [onlyN_normal]
    go_wp2
    refine bodyPost_ret (v := _) (by simp [results, Tryz.results30, go_sem, hb0, s0, s1, s2, s3, s4, s5]; rfl) rfl ?_
    refine ⟨⟨k.set, k.ps, k.base, i⟩, .slice a k.ps.length cap, rfl, hbk, .inl ⟨rfl, rfl⟩, ?_⟩ <;> exact RdUp.fin hU (by intro c hU; (repeat (first | with_reducible assumption | refine RdUp.ups ?_ (by with_reducible assumption) | with_reducible refine RdUp.set ?_ (by first | exact Nat.le_refl _ | (simp only []; omega) | (simp; omega)) _ | with_reducible refine RdUp.alloc ?_ _ | with_reducible refine RdUp.drew ?_ | with_reducible exact RdUp.of (Up.refl _)))) (by omega)
  · skip
    have hr2 := hU.2 _ h
    have hbw : w.heap.size + 1 < w'.heap.size := by omega
    have hrw : rb < w'.heap.size := by omega
    refine wp_region_rk 10 8 rb B 1 _ (DDp w'.heap.size k.ps (fun _ => True) []) (by kernel_rfl) (by kernel_rfl) hr2 ?_
    simp only [List.take, List.drop]
    iterate 9 (refine wpK_step (fun K hK => ?_); go_simp; (try simp only [↓IntWalk.iteOmega]); first
      | (refine hK _ _ ?_; clear hK K)
      | (refine stepK_own (by rfl) (by kernel_rfl) (DDp w'.heap.size k.ps (fun _ => True) [] 8) (ddp_closed hrw 8 _) (fun wq hwq hrq => ?_) ?_
         · ((repeat (first | refine fills_no (by rfl) ?_ | (refine fills_yes (by rfl) (fun vq hvq => ?_); (try ((first | (with_reducible have h0q : DDp w'.heap.size k.ps (fun _ => True) [] 0 vq wq := hvq) | (with_reducible have h3q : DDp w'.heap.size k.ps (fun _ => True) [] 3 vq wq := hvq) | (with_reducible have h7q : DDp w'.heap.size k.ps (fun _ => True) [] 7 vq wq := hvq))))))); simp only [List.filter_nil, fills]; exact gAt_append_keep (.tmp 43) (.tmp 47) (by rfl) _ _ k.ps (by rfl) h3q (by rfl) h7q (by omega) hrw hwq.size)
         refine hK _ _ ?_; clear hK K)
      | (refine stepK_at 3 (by rfl) (by rfl) (by kernel_rfl) (DDp w'.heap.size k.ps (fun _ => True) [] 3) (ddp_closed hrw 3 _) (fun wq hwq hrq => ?_) ?_
         · (have hbq := gcell hwq; (repeat (first | refine fills_no (by rfl) ?_ | (refine fills_yes (by rfl) (fun vq hvq => ?_); (try ((first | (with_reducible have h0q : DDp w'.heap.size k.ps (fun _ => True) [] 0 vq wq := hvq) | (with_reducible have h3q : DDp w'.heap.size k.ps (fun _ => True) [] 3 vq wq := hvq) | (with_reducible have h7q : DDp w'.heap.size k.ps (fun _ => True) [] 7 vq wq := hvq))))))); simp only [List.filter_nil, fills]; (obtain ⟨gq, eq1, hq1⟩ := h0q; exact upAt_copy (.tmp 40) (.tmp 42) (by rfl) w'.heap.size (rb + 1) (by rfl) (by rfl) eq1 hq1 k.ps (hrt _ (grownBy_trans hU.1 hwq)) (by omega) hwq.size))
         refine hK _ _ ?_; clear hK K)
      | (refine stepK_c (by rfl) ?_ ?_ ?_
         rotate_left
         · intro wq hwq hrq; (have hbq := gcell hwq; (repeat (first | refine fills_no (by rfl) ?_ | (refine fills_yes (by rfl) (fun vq hvq => ?_); (try ((first | (with_reducible have h0q : DDp w'.heap.size k.ps (fun _ => True) [] 0 vq wq := hvq) | (with_reducible have h3q : DDp w'.heap.size k.ps (fun _ => True) [] 3 vq wq := hvq) | (with_reducible have h7q : DDp w'.heap.size k.ps (fun _ => True) [] 7 vq wq := hvq))))))); simp only [List.filter_nil, fills]; unfold upAt; (try ((obtain ⟨-, r0, r1, r2, r3, r4, r5⟩ := KnAt.cells (gbox hwq hKB (by simp; omega))))); go_simp; (try go_bits); (try simp only [↓IntWalk.iteOmega]); (try (rw [dif_pos (by omega)]; go_simp; try go_bits)); first | exact upOut_value | (apply upOut_call; (go_at_call 73; exact cX _ (hrt _ (grownBy_trans hU.1 hwq)))) | (apply upOut_eq; (go_at_call 73; exact cX _ (hrt _ (grownBy_trans hU.1 hwq)))))
         go_simp; refine hK _ _ ?_; clear hK K)
      | (refine stepK_m (by rfl) (by kernel_rfl) (DDp w'.heap.size k.ps (fun _ => True) [] 0) (ddp_closed hrw 0 _) (fun wq hwq hrq => ?_) ?_
         · (have hbq := gcell hwq; (repeat (first | refine fills_no (by rfl) ?_ | (refine fills_yes (by rfl) (fun vq hvq => ?_); (try ((first | (with_reducible have h0q : DDp w'.heap.size k.ps (fun _ => True) [] 0 vq wq := hvq) | (with_reducible have h3q : DDp w'.heap.size k.ps (fun _ => True) [] 3 vq wq := hvq) | (with_reducible have h7q : DDp w'.heap.size k.ps (fun _ => True) [] 7 vq wq := hvq))))))); simp only [List.filter_nil, fills]; unfold upAt; (try ((obtain ⟨-, r0, r1, r2, r3, r4, r5⟩ := KnAt.cells (gbox hwq hKB (by simp; omega))))); go_simp; (try go_bits); (try simp only [↓IntWalk.iteOmega]); (try (rw [dif_pos (by omega)]; go_simp; try go_bits)); (((with_reducible refine upOut_make ((Up.refl _).alloc _) ?_); exact mtP_new hwq.size)))
         refine hK _ _ ?_; clear hK K)
      | (refine stepK_m (by rfl) (by kernel_rfl) (DDp w'.heap.size k.ps (fun _ => True) [] 7) (ddp_closed hrw 7 _) (fun wq hwq hrq => ?_) ?_
         · (have hbq := gcell hwq; (repeat (first | refine fills_no (by rfl) ?_ | (refine fills_yes (by rfl) (fun vq hvq => ?_); (try ((first | (with_reducible have h0q : DDp w'.heap.size k.ps (fun _ => True) [] 0 vq wq := hvq) | (with_reducible have h3q : DDp w'.heap.size k.ps (fun _ => True) [] 3 vq wq := hvq) | (with_reducible have h7q : DDp w'.heap.size k.ps (fun _ => True) [] 7 vq wq := hvq))))))); simp only [List.filter_nil, fills]; unfold upAt; (try ((obtain ⟨-, r0, r1, r2, r3, r4, r5⟩ := KnAt.cells (gbox hwq hKB (by simp; omega))))); go_simp; (try go_bits); (try simp only [↓IntWalk.iteOmega]); (try (rw [dif_pos (by omega)]; go_simp; try go_bits)); (((with_reducible refine upOut_make ((Up.refl _).alloc _) ?_); exact ddp_pair ⟨k.next, 0⟩ trivial hwq.size)))
         refine hK _ _ ?_; clear hK K))
    refine wpK_step (fun K hK => ?_)
    go_simp
    refine stepK_c (by rfl) (.pointer (some ⟨w.heap.size, 3, none⟩)) (fun wq hwq hrq => fills_same 3 _ _ ?_ (fun a' ha => ?_)) ?_
    · refine not_dst ?_
      simp
    · have ha' : a'.tmps.getD 3 undef = .pointer (some ⟨w.heap.size, 0, none⟩) := ha
      unfold upAt execOp
      simp only [Act.eval, ha']
      go_simp
      exact upOut_value
    refine hK _ _ ?_
    clear hK K
    refine wpK_nil (fun wq hwq hrq => ?_)
    simp only [fills]
    rintro u ⟨q, -, hq⟩
    intros
    have hU := RdUp.made (C := 40) HM (grownBy_trans hU.1 hwq) hrq (by omega)
    have hKB := gbox hwq hKB (by simp; omega)
    have hRB := gbox hwq hRB (by simp; omega)
    have hrq9 := RdP.of_own hq
    have hlq : (k.ps ++ [q]).length = k.ps.length + 1 := by simp
    obtain ⟨a9, c9, rfl⟩ := ownsRow_shape hq
    rw [hlq] at hrq9
    clear q0 q1 q2 q3 q4 q5 hb1 s0 s1 s2 s3 s4 s5 hb0 hfr hfk hq
    obtain ⟨hb1, q0, q1, q2, q3, q4, q5⟩ := KnAt.cells hKB; obtain ⟨hb0, s0, s1, s2, s3, s4, s5⟩ := KnAt.cells hRB; have hfr := box_free hRB; have hfk := box_free hKB
    go_wp2
    rw [onlyN_normal]
    go_wp2
    refine bodyPost_ret (v := _) (by simp [results, Tryz.results30, go_sem, hb0, s0, s1, s2, s3, s4, s5]; rfl) rfl ?_
    refine ⟨⟨k.set, k.ps ++ [q], k.base, k.last⟩, _, rfl, ⟨hbk.1, by show (k.ps ++ [q]).length ≤ 1100; omega⟩, .inr (RdP.low (lo := w'.heap.size) ?_ (by omega)), by exact RdUp.fin hU (by intro c hU; (repeat (first | with_reducible assumption | refine RdUp.ups ?_ (by with_reducible assumption) | with_reducible refine RdUp.set ?_ (by first | exact Nat.le_refl _ | (simp only []; omega) | (simp; omega)) _ | with_reducible refine RdUp.alloc ?_ _ | with_reducible refine RdUp.drew ?_ | with_reducible exact RdUp.of (Up.refl _)))) (by omega)⟩
    (repeat (with_reducible refine RdP.set ?_ (by omega) _ _)); exact hrq9
  · skip
    obtain ⟨LL, hLL⟩ : ∃ LL : List Value, Hid (LL = [.int .i64 (-1), .int .i64 ((clr k.set : Nat) : Int)]) := ⟨_, rfl⟩
    have hr2 := hU.2 _ h
    have hbw : w.heap.size + 1 < w'.heap.size := by omega
    have hrw : rb < w'.heap.size := by omega
    refine wp_region_rk 14 12 rb B 1 _ (DDp w'.heap.size k.ps (fun _ => True) LL) (by kernel_rfl) (by kernel_rfl) hr2 ?_
    simp only [List.take, List.drop]
    iterate 12 (refine wpK_step (fun K hK => ?_); go_simp; (try simp only [↓IntWalk.iteOmega]); first
      | (refine hK _ _ ?_; clear hK K)
      | (refine stepK_own (by rfl) (by kernel_rfl) (DDp w'.heap.size k.ps (fun _ => True) LL 8) (ddp_closed hrw 8 _) (fun wq hwq hrq => ?_) ?_
         · ((repeat (first | refine fills_no (by rfl) ?_ | (refine fills_yes (by rfl) (fun vq hvq => ?_); (try ((first | (with_reducible have h1q : DDp w'.heap.size k.ps (fun _ => True) LL 1 vq wq := hvq) | (with_reducible have h0q : DDp w'.heap.size k.ps (fun _ => True) LL 0 vq wq := hvq) | (with_reducible have h3q : DDp w'.heap.size k.ps (fun _ => True) LL 3 vq wq := hvq) | (with_reducible have h7q : DDp w'.heap.size k.ps (fun _ => True) LL 7 vq wq := hvq) | (obtain ⟨y, rfl, hy⟩ := hvq) | (obtain ⟨y, rfl⟩ := hvq))))))); simp only [List.filter_nil, fills]; exact gAt_append_keep (.tmp 55) (.tmp 63) (by rfl) _ _ k.ps (by rfl) h3q (by rfl) h7q (by omega) hrw hwq.size)
         refine hK _ _ ?_; clear hK K)
      | (refine stepK_at 3 (by rfl) (by rfl) (by kernel_rfl) (DDp w'.heap.size k.ps (fun _ => True) LL 3) (ddp_closed hrw 3 _) (fun wq hwq hrq => ?_) ?_
         · (have hbq := gcell hwq; (repeat (first | refine fills_no (by rfl) ?_ | (refine fills_yes (by rfl) (fun vq hvq => ?_); (try ((first | (with_reducible have h1q : DDp w'.heap.size k.ps (fun _ => True) LL 1 vq wq := hvq) | (with_reducible have h0q : DDp w'.heap.size k.ps (fun _ => True) LL 0 vq wq := hvq) | (with_reducible have h3q : DDp w'.heap.size k.ps (fun _ => True) LL 3 vq wq := hvq) | (with_reducible have h7q : DDp w'.heap.size k.ps (fun _ => True) LL 7 vq wq := hvq) | (obtain ⟨y, rfl, hy⟩ := hvq) | (obtain ⟨y, rfl⟩ := hvq))))))); simp only [List.filter_nil, fills]; (obtain ⟨gq, eq1, hq1⟩ := h0q; exact upAt_copy (.tmp 52) (.tmp 54) (by rfl) w'.heap.size (rb + 1) (by rfl) (by rfl) eq1 hq1 k.ps (hrt _ (grownBy_trans hU.1 hwq)) (by omega) hwq.size))
         refine hK _ _ ?_; clear hK K)
      | (refine stepK_c (by rfl) ?_ ?_ ?_
         rotate_left
         · intro wq hwq hrq; (have hbq := gcell hwq; (repeat (first | refine fills_no (by rfl) ?_ | (refine fills_yes (by rfl) (fun vq hvq => ?_); (try ((first | (with_reducible have h1q : DDp w'.heap.size k.ps (fun _ => True) LL 1 vq wq := hvq) | (with_reducible have h0q : DDp w'.heap.size k.ps (fun _ => True) LL 0 vq wq := hvq) | (with_reducible have h3q : DDp w'.heap.size k.ps (fun _ => True) LL 3 vq wq := hvq) | (with_reducible have h7q : DDp w'.heap.size k.ps (fun _ => True) LL 7 vq wq := hvq) | (obtain ⟨y, rfl, hy⟩ := hvq) | (obtain ⟨y, rfl⟩ := hvq))))))); simp only [List.filter_nil, fills]; unfold upAt; (try ((obtain ⟨-, r0, r1, r2, r3, r4, r5⟩ := KnAt.cells (gbox hwq hKB (by simp; omega))))); go_simp; (try go_bits); (try simp only [↓IntWalk.iteOmega]); (try (rw [dif_pos (by omega)]; go_simp; try go_bits)); first | exact upOut_value | (apply upOut_call; (go_at_call 69; exact cK _)) | (apply upOut_eq; (go_at_call 69; exact cK _)))
         go_simp; refine hK _ _ ?_; clear hK K)
      | (refine stepK_m (by rfl) (by kernel_rfl) (DDp w'.heap.size k.ps (fun _ => True) LL 0) (ddp_closed hrw 0 _) (fun wq hwq hrq => ?_) ?_
         · (have hbq := gcell hwq; (repeat (first | refine fills_no (by rfl) ?_ | (refine fills_yes (by rfl) (fun vq hvq => ?_); (try ((first | (with_reducible have h1q : DDp w'.heap.size k.ps (fun _ => True) LL 1 vq wq := hvq) | (with_reducible have h0q : DDp w'.heap.size k.ps (fun _ => True) LL 0 vq wq := hvq) | (with_reducible have h3q : DDp w'.heap.size k.ps (fun _ => True) LL 3 vq wq := hvq) | (with_reducible have h7q : DDp w'.heap.size k.ps (fun _ => True) LL 7 vq wq := hvq) | (obtain ⟨y, rfl, hy⟩ := hvq) | (obtain ⟨y, rfl⟩ := hvq))))))); simp only [List.filter_nil, fills]; unfold upAt; (try ((obtain ⟨-, r0, r1, r2, r3, r4, r5⟩ := KnAt.cells (gbox hwq hKB (by simp; omega))))); go_simp; (try go_bits); (try simp only [↓IntWalk.iteOmega]); (try (rw [dif_pos (by omega)]; go_simp; try go_bits)); (((with_reducible refine upOut_make ((Up.refl _).alloc _) ?_); exact mtP_new hwq.size)))
         refine hK _ _ ?_; clear hK K)
      | (refine stepK_m (by rfl) (by kernel_rfl) (DDp w'.heap.size k.ps (fun _ => True) LL 7) (ddp_closed hrw 7 _) (fun wq hwq hrq => ?_) ?_
         · (have hbq := gcell hwq; (repeat (first | refine fills_no (by rfl) ?_ | (refine fills_yes (by rfl) (fun vq hvq => ?_); (try ((first | (with_reducible have h1q : DDp w'.heap.size k.ps (fun _ => True) LL 1 vq wq := hvq) | (with_reducible have h0q : DDp w'.heap.size k.ps (fun _ => True) LL 0 vq wq := hvq) | (with_reducible have h3q : DDp w'.heap.size k.ps (fun _ => True) LL 3 vq wq := hvq) | (with_reducible have h7q : DDp w'.heap.size k.ps (fun _ => True) LL 7 vq wq := hvq) | (obtain ⟨y, rfl, hy⟩ := hvq) | (obtain ⟨y, rfl⟩ := hvq))))))); simp only [List.filter_nil, fills]; unfold upAt; (try ((obtain ⟨-, r0, r1, r2, r3, r4, r5⟩ := KnAt.cells (gbox hwq hKB (by simp; omega))))); go_simp; (try go_bits); (try simp only [↓IntWalk.iteOmega]); (try (rw [dif_pos (by omega)]; go_simp; try go_bits)); (((with_reducible refine upOut_make ((Up.refl _).alloc _) ?_); exact ddp_pair ⟨0, y⟩ trivial hwq.size)))
         refine hK _ _ ?_; clear hK K)
      | (refine stepK_m (by rfl) (by kernel_rfl) (DDp w'.heap.size k.ps (fun _ => True) LL 1) (ddp_closed hrw 1 _) (fun wq hwq hrq => ?_) ?_
         · (have hbq := gcell hwq; (repeat (first | refine fills_no (by rfl) ?_ | (refine fills_yes (by rfl) (fun vq hvq => ?_); (try ((first | (with_reducible have h1q : DDp w'.heap.size k.ps (fun _ => True) LL 1 vq wq := hvq) | (with_reducible have h0q : DDp w'.heap.size k.ps (fun _ => True) LL 0 vq wq := hvq) | (with_reducible have h3q : DDp w'.heap.size k.ps (fun _ => True) LL 3 vq wq := hvq) | (with_reducible have h7q : DDp w'.heap.size k.ps (fun _ => True) LL 7 vq wq := hvq) | (obtain ⟨y, rfl, hy⟩ := hvq) | (obtain ⟨y, rfl⟩ := hvq))))))); simp only [List.filter_nil, fills]; unfold upAt; (try ((obtain ⟨-, r0, r1, r2, r3, r4, r5⟩ := KnAt.cells (gbox hwq hKB (by simp; omega))))); go_simp; (try go_bits); (try simp only [↓IntWalk.iteOmega]); (try (rw [dif_pos (by omega)]; go_simp; try go_bits)); (((with_reducible refine upOut_make ((Up.refl _).alloc _) ?_); rw [hLL.out]; exact ddp_ints (-1) ((clr k.set : Nat) : Int) hwq.size)))
         refine hK _ _ ?_; clear hK K)
      | (refine stepK_m (by rfl) (by kernel_rfl) ((fun v _ => ∃ y : Int, v = .agg #[.int .i64 0, .int .i64 y])) ((fun _ _ _ h _ => h)) (fun wq hwq hrq => ?_) ?_
         · (have hbq := gcell hwq; (repeat (first | refine fills_no (by rfl) ?_ | (refine fills_yes (by rfl) (fun vq hvq => ?_); (try ((first | (with_reducible have h1q : DDp w'.heap.size k.ps (fun _ => True) LL 1 vq wq := hvq) | (with_reducible have h0q : DDp w'.heap.size k.ps (fun _ => True) LL 0 vq wq := hvq) | (with_reducible have h3q : DDp w'.heap.size k.ps (fun _ => True) LL 3 vq wq := hvq) | (with_reducible have h7q : DDp w'.heap.size k.ps (fun _ => True) LL 7 vq wq := hvq) | (obtain ⟨y, rfl, hy⟩ := hvq) | (obtain ⟨y, rfl⟩ := hvq))))))); simp only [List.filter_nil, fills]; unfold upAt; (try ((obtain ⟨-, r0, r1, r2, r3, r4, r5⟩ := KnAt.cells (gbox hwq hKB (by simp; omega))))); go_simp; (try go_bits); (try simp only [↓IntWalk.iteOmega]); (try (rw [dif_pos (by omega)]; go_simp; try go_bits)); (((with_reducible refine upOut_make (Up.refl _) ?_); exact ⟨_, rfl⟩)))
         refine hK _ _ ?_; clear hK K)
      | (refine stepK_d (by rfl) (by rfl) (by kernel_rfl) (fun v _ => oneOf [-1, ((clr k.set : Nat) : Int)] v) (fun _ _ _ h _ => h) (fun wq hwq hrq => ?_) ?_
         · (have hbq := gcell hwq; (repeat (first | refine fills_no (by rfl) ?_ | (refine fills_yes (by rfl) (fun vq hvq => ?_); (try ((first | (with_reducible have h1q : DDp w'.heap.size k.ps (fun _ => True) LL 1 vq wq := hvq) | (with_reducible have h0q : DDp w'.heap.size k.ps (fun _ => True) LL 0 vq wq := hvq) | (with_reducible have h3q : DDp w'.heap.size k.ps (fun _ => True) LL 3 vq wq := hvq) | (with_reducible have h7q : DDp w'.heap.size k.ps (fun _ => True) LL 7 vq wq := hvq) | (obtain ⟨y, rfl, hy⟩ := hvq) | (obtain ⟨y, rfl⟩ := hvq))))))); simp only [List.filter_nil, fills]; unfold gAt; (try ((obtain ⟨-, r0, r1, r2, r3, r4, r5⟩ := KnAt.cells (gbox hwq hKB (by simp; omega))))); go_simp; (try go_bits); (try simp only [↓IntWalk.iteOmega]); (try (rw [dif_pos (by omega)]; go_simp; try go_bits)); (with_reducible refine gOut_drawn ((num_any rb B [-1, ((clr k.set : Nat) : Int)] _ wq _ hrq (by omega) (ddp_rd (x := -1) (y := ((clr k.set : Nat) : Int)) (by rw [← hLL.out]; exact h1q) hrw) (by simp))) ?_); decide)
         refine hK _ _ ?_; clear hK K))
    refine wpK_step (fun K hK => ?_)
    go_simp
    refine stepK_own (by rfl) (by kernel_rfl) (DDp w'.heap.size k.ps (fun _ => True) LL 8) (ddp_closed hrw 8 _) (fun wq hwq hrq => fills_get _ _ ?_ (fun a' h1 h2 => ?_)) ?_
    · refine List.Nodup.sublist (List.Sublist.map _ (List.filter_sublist ..)) ?_
      simp
    · have h3q := h1 (3, some 55, (DDp w'.heap.size k.ps (fun _ => True) LL) 3) (List.mem_filter.2 ⟨by simp, by rfl⟩) 55 rfl (by simp)
      have h7q := h1 (11, some 63, (DDp w'.heap.size k.ps (fun _ => True) LL) 7) (List.mem_filter.2 ⟨by simp, by rfl⟩) 63 rfl (by simp)
      exact gAt_append_keep (.tmp 55) (.tmp 63) (by rfl) _ _ k.ps (by rfl) h3q (by rfl) h7q (by omega) hrw hwq.size
    refine hK _ _ ?_
    clear hK K
    refine wpK_step (fun K hK => ?_)
    go_simp
    with_reducible refine stepK_c ?_ (.pointer (some ⟨w.heap.size, 3, none⟩)) ?_ ?_
    · rfl
    · intro wq hwq hrq
      with_reducible refine fills_same 3 _ _ ?_ ?_
      · with_reducible refine not_dst ?_
        simp
      · intro a' ha
        have ha' : a'.tmps.getD 3 undef = .pointer (some ⟨w.heap.size, 0, none⟩) := ha
        unfold upAt execOp
        simp only [Act.eval, ha']
        go_simp
        exact upOut_value
    refine hK _ _ ?_
    clear hK K
    refine wpK_nil (fun wq hwq hrq => ?_)
    simp only [fills]
    rintro u ⟨q, -, hq⟩
    intros
    have hU := RdUp.made (C := 40) HM (grownBy_trans hU.1 hwq) hrq (by omega)
    have hKB := gbox hwq hKB (by simp; omega)
    have hRB := gbox hwq hRB (by simp; omega)
    have hrq9 := RdP.of_own hq
    have hlq : (k.ps ++ [q]).length = k.ps.length + 1 := by simp
    obtain ⟨a9, c9, rfl⟩ := ownsRow_shape hq
    rw [hlq] at hrq9
    clear q0 q1 q2 q3 q4 q5 hb1 s0 s1 s2 s3 s4 s5 hb0 hfr hfk hq
    obtain ⟨hb1, q0, q1, q2, q3, q4, q5⟩ := KnAt.cells hKB; obtain ⟨hb0, s0, s1, s2, s3, s4, s5⟩ := KnAt.cells hRB; have hfr := box_free hRB; have hfk := box_free hKB
    go_wp2
    rw [onlyN_normal]
    go_wp2
    refine bodyPost_ret (v := _) (by simp [results, Tryz.results30, go_sem, hb0, s0, s1, s2, s3, s4, s5]; rfl) rfl ?_
    refine ⟨⟨k.set, k.ps ++ [q], k.base, k.last⟩, _, rfl, ⟨hbk.1, by show (k.ps ++ [q]).length ≤ 1100; omega⟩, .inr (RdP.low (lo := w'.heap.size) ?_ (by omega)), by exact RdUp.fin hU (by intro c hU; (repeat (first | with_reducible assumption | refine RdUp.ups ?_ (by with_reducible assumption) | with_reducible refine RdUp.set ?_ (by first | exact Nat.le_refl _ | (simp only []; omega) | (simp; omega)) _ | with_reducible refine RdUp.alloc ?_ _ | with_reducible refine RdUp.drew ?_ | with_reducible exact RdUp.of (Up.refl _)))) (by omega)⟩
    (repeat (with_reducible refine RdP.set ?_ (by omega) _ _)); exact hrq9
theorem l2Bad_any (k : KnD) (v : Value) (rb : Nat) (B : Value) (w : World) (N : Nat) (h : Rdr rb B w N) (hN : N ≤ 900000000) (hk : k.Ok) (hr : RdP (rb + 1) w v k.ps) :
    Calls Tryz.prog 30  #[.pointer (some ⟨rb, 0, none⟩), kV k v] w (DrawnK rb B 40 BadK w) :=
  (l2BadB_any k v rb B w N h hN hk hr).mono fun e w' ⟨k', v', he, hb, hp, hu⟩ => ⟨k', v', he, hb, by
    rcases hp with ⟨h1, h2⟩ | h1
    · rw [h1, h2]; exact hr.gr hu.1 (Nat.lt_succ_self rb)
    · exact h1.low h.lt, hu⟩
end Go.Proofs.YtgbakgaegldomaaGreat

/- Walk of the reference's DrawGreedyCodes and DrawCompress. Conditions: the argument can be read. -/
namespace Go.Proofs.YtgbakgaegldomaaGreat
open Go Go.RowKit
theorem RdUp.r {rb : Nat} {B : Value} {c N : Nat} {w w' : World} (h : RdUp rb B c w w') (hr : Rdr rb B w N) : Rdr rb B w' (N + c) := h.2 _ hr
end Go.Proofs.YtgbakgaegldomaaGreat

