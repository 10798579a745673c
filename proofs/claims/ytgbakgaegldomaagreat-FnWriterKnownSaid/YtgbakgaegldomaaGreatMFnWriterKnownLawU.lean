/- Texts joined into one: the walks and laws that the last text leans on. Conditions: as each says. -/
import Derived.Test.YtgbakgaegldomaaGreatMFnWriterKnownLawT
import Derived.Test.YtgbakgaegldomaaGreatMFnWriterKnownLawD
import Derived.Test.YtgbakgaegldomaaGreatMFnWriterKnownLawG
import Derived.Test.YtgbakgaegldomaaGreatMFnWriterKnownLawI
import Derived.Test.YtgbakgaegldomaaGreatMFnWriterKnownLawN

set_option linter.unusedVariables false
set_option linter.unusedSimpArgs false
/- Plain facts: what is valid is what the walks ask; pairs are read on after draws. Conditions: none. -/
namespace Go.Proofs.YtgbakgaegldomaaGreat
open Go Go.RowKit
theorem ok_of_valid {k : KnD} (h : validK k = true) : k.Ok ∧ (k.last = -1 → k.base = k.ps.length) := by
  unfold validK at h
  simp only [Bool.and_eq_true] at h
  obtain ⟨h1, h2, h3, h4, h5⟩ := h
  have hc := clr_bd h1
  unfold roomOk at h2
  rw [decide_eq_true_eq] at h2
  rw [inB_iff] at h4
  refine ⟨⟨h1, fun i hi => ?_, ?_, h4.1, h4.2, ?_⟩, fun hl => ?_⟩
  · rw [prOk_get hi]
    unfold pairsOk at h3
    rw [List.all_eq_true] at h3
    have := h3 i (List.mem_range.2 hi)
    rw [List.getD_eq_getElem?_getD, List.getElem?_eq_getElem hi, Option.getD_some] at this
    exact this
  · show k.ps.length + clr k.set + 1 ≤ lastC k.set
    omega
  · unfold lastOk at h5
    split at h5
    · exact .inl ‹_›
    · exact .inr h5
  · unfold lastOk at h5
    rw [if_pos hl] at h5
    simpa using h5
theorem RdP.gr {lo rb : Nat} {w w' : World} {v : Value} {ps : List PairD} (h : RdP lo w v ps) (hg : w.grownBy w' (some rb)) (hl : rb < lo) : RdP lo w' v ps := by
  obtain ⟨a, cap, h1, h2, h2', h2'', h3⟩ := h
  refine ⟨a, cap, h1, h2, h2', h2'', fun hp => ?_⟩
  obtain ⟨b, off, e1, e2, e4, e5⟩ := h3 hp
  have hne : some b ≠ some rb := fun e => by cases e; omega
  exact ⟨b, off, e1, e2, Nat.lt_of_lt_of_le e4 hg.size, fun i p hi => ⟨((gcell hg).1 b _ e4 hne).trans (e5 i p hi).1, ((gcell hg).1 b _ e4 hne).trans (e5 i p hi).2⟩⟩
theorem RdP.set {lo : Nat} {w : World} {v : Value} {ps : List PairD} (h : RdP lo w v ps) {b : Nat} (hl : b < lo) (i : Nat) (u : Value) : RdP lo (w.setCell ⟨b, i, none⟩ u) v ps :=
  h.gr (grownBy_set (grownBy_refl w (some b)) i u) hl
theorem follows_lit {k : KnD} {x : Int} (h0 : 0 ≤ x) (h1 : x < clr k.set) : k.follows x = true := by
  unfold KnD.follows
  rw [show codeOk k.c k.ps.length x = true from codeOk_iff.2 (.inl ⟨h0, h1⟩)]
  rfl
theorem follows_pair {k : KnD} {x : Int} (h0 : (clr k.set : Int) + 2 ≤ x) (h1 : x < clr k.set + 2 + k.ps.length) : k.follows x = true := by
  unfold KnD.follows
  rw [show codeOk k.c k.ps.length x = true from codeOk_iff.2 (.inr ⟨h0, h1⟩)]
  rfl
theorem follows_next {k : KnD} (h : k.grow = true) : k.follows k.next = true := by
  unfold KnD.follows
  rw [h]
  simp
theorem KnD.Ok.rebase {k : KnD} (h : k.Ok) {b : Int} (h0 : 0 ≤ b) (h1 : b ≤ k.ps.length) : (⟨k.set, k.ps, b, k.last⟩ : KnD).Ok := ⟨h.set, h.ps, h.len, h0, h1, h.last⟩
end Go.Proofs.YtgbakgaegldomaaGreat

/- Walks of the reference's l2Pick and l2Draw. Conditions: the reader is one (Rdr), its place is bounded. -/
namespace Go.Proofs.YtgbakgaegldomaaGreat
open Go Go.RowKit
theorem RdUp.g {rb : Nat} {B : Value} {c : Nat} {w w' : World} (h : RdUp rb B c w w') : w.grownBy w' (some rb) := h.1
def IsFol (k : KnD) (v : Value) : Prop := ∃ x : Int, v = .int .i64 x ∧ k.follows x = true
theorem wrapFol {k : KnD} {c n : Nat} {t : Int} (F : ∀ x : Int, (c : Int) + 2 ≤ x → x < c + 2 + n → k.follows x = true) (hn : 0 < n) (hc : c + n ≤ 2000) : IsFol k (.int .i64 (wrap64 ((c : Int) + 1 + 1 + t % n))) := by
  have h1 := Int.emod_nonneg t (show (n : Int) ≠ 0 by omega)
  have h2 := Int.emod_lt_of_pos t (show (0 : Int) < n by omega)
  generalize t % (n : Int) = m at *
  refine ⟨_, rfl, ?_⟩
  rw [show wrap64 ((c : Int) + 1 + 1 + m) = (c : Int) + 1 + 1 + m by unfold wrap64; omega]
  exact F _ (by omega) (by omega)
theorem remFol {k : KnD} {c : Nat} {t : Int} (F : ∀ x : Int, 0 ≤ x → x < c → k.follows x = true) (hn : 0 < c) : IsFol k (.int .i64 (t % c)) := ⟨_, rfl, F _ (Int.emod_nonneg t (by omega)) (Int.emod_lt_of_pos t (by omega))⟩
set_option maxRecDepth 100000 in
set_option maxHeartbeats 8000000 in
theorem l2Pick_any (k : KnD) (v : Value) (rb : Nat) (B : Value) (w : World) (N : Nat) (h : Rdr rb B w N) (hN : N ≤ 900000000) (hk : k.Ok) (hr : RdP (rb + 1) w v k.ps) :
    Calls Tryz.prog 66  #[.pointer (some ⟨rb, 0, none⟩), kV k v] w (Drawn rb B 8 (IsFol k) w) := by
  obtain ⟨p, hp, h, HM⟩ := h.least
  have hlt := h.lt
  have HR := Lib.hid h
  have hne0 : ¬ w.heap.size = rb := by omega
  have hU := RdUp.refl rb B 0 w
  have hrt := fun (wq : World) (hg : w.grownBy wq (some rb)) => hr.gr hg (Nat.lt_succ_self rb)
  have cG := fun wx hr => l2Grows_any k v (rb + 1) wx hk hr
  have cX := fun wx hr => l2Next_any k v (rb + 1) wx hk hr
  have cK := fun wx => l1Clear_any k.set wx hk.set
  have cE := fun wx => l1End_any k.set wx hk.set
  have F1 := Lib.hid (fun x => @follows_lit k x)
  have F2 := Lib.hid (fun x => @follows_pair k x)
  have F3 := Lib.hid (@follows_next k)
  obtain ⟨hb1, hb2, hb3, hb4, hb5⟩ := hk.nums
  obtain ⟨a, cap, rfl, hc1, hc2, hc3, -⟩ := id hr
  have hKB : KnAt w.heap.size k (.slice a k.ps.length cap) (w.alloc (.cells #[.int .i64 k.set.ord, .int .i64 k.set.lit, .int .i64 k.set.most, .slice a k.ps.length cap, .int .i64 k.base, .int .i64 k.last] 27)) := (MapKept.heap_alloc w _).1
  clear hr hk
  unfold maxLen at hc2
  simp only [kV, setV] at *
  go_enter Tryz.func66, Tryz.ntmps66
  cases hg : k.grow
  all_goals
    rw [hg] at cG F3
    clear hg
    go_wp2_with (first | (go_at_call 28; ((with_reducible refine (pick_at (n := 6) HR.out hU (by intro c hU; (repeat (first | with_reducible assumption | refine RdUp.ups ?_ (by with_reducible assumption) | with_reducible refine RdUp.set ?_ (by first | exact Nat.le_refl _ | (simp only []; omega) | (simp; omega)) _ | with_reducible refine RdUp.alloc ?_ _ | with_reducible refine RdUp.drew ?_ | with_reducible exact RdUp.of (Up.refl _)))) (by omega)).mono ?_); rintro e w' ⟨x, rfl, x0, x1, hU, U⟩; have D := gcell U.1; have Z := U.1.size; (try simp at Z); (try have Y0 : w.heap.size < w'.heap.size := (by omega)); (try have Y1 : w.heap.size + 1 < w'.heap.size := (by omega)); (try have Y2 : w.heap.size + 1 + 1 < w'.heap.size := (by omega)); (try have X0 : w.heap.size < w'.heap.size + 1 := (by omega)); (try have X1 : w.heap.size + 1 < w'.heap.size + 1 := (by omega)); (try have X2 : w.heap.size + 1 + 1 < w'.heap.size + 1 := (by omega)); ((have hKB := gbox U.1 hKB (by simp; omega); obtain ⟨hb0, q0, q1, q2, q3, q4, q5⟩ := KnAt.cells hKB)))) | (go_at_call 113; (with_reducible refine (cG _ (hrt _ hU.g)).mono ?_); rintro e w2 ⟨rfl, U2⟩; have hU := hU.ups U2; have hKB := box_up U2 hKB; clear q0 q1 q2 q3 q4 q5 hb0; obtain ⟨hb0, q0, q1, q2, q3, q4, q5⟩ := KnAt.cells hKB) | (go_at_call 73; (with_reducible refine (cX _ (hrt _ hU.g)).mono ?_); rintro e w3 ⟨rfl, U3⟩; have hU := hU.ups U3) | (go_at_call 72; (with_reducible refine (cE _).mono ?_); rintro e w4 ⟨rfl, U4⟩; have hU := hU.ups U4; have hKB := box_up U4 hKB) | (go_at_call 28; ((with_reducible refine (pick_at (n := 256) HR.out hU (by intro c hU; (repeat (first | with_reducible assumption | refine RdUp.ups ?_ (by with_reducible assumption) | with_reducible refine RdUp.set ?_ (by first | exact Nat.le_refl _ | (simp only []; omega) | (simp; omega)) _ | with_reducible refine RdUp.alloc ?_ _ | with_reducible refine RdUp.drew ?_ | with_reducible exact RdUp.of (Up.refl _)))) (by omega)).mono ?_); rintro e w' ⟨y, rfl, y0, y1, hU, U⟩; have D := gcell U.1; have Z := U.1.size; (try simp at Z); (try have Y0 : w.heap.size < w'.heap.size := (by omega)); (try have Y1 : w.heap.size + 1 < w'.heap.size := (by omega)); (try have Y2 : w.heap.size + 1 + 1 < w'.heap.size := (by omega)); (try have X0 : w.heap.size < w'.heap.size + 1 := (by omega)); (try have X1 : w.heap.size + 1 < w'.heap.size + 1 := (by omega)); (try have X2 : w.heap.size + 1 + 1 < w'.heap.size + 1 := (by omega)); ((have hKB := gbox U.1 hKB (by simp; omega))))))
    all_goals first
      | (go_ret; refine ⟨_, rfl, ⟨k.next, rfl, F3.out (by trivial)⟩, ?_⟩; exact RdUp.fin hU (by intro c hU; (repeat (first | with_reducible assumption | refine RdUp.ups ?_ (by with_reducible assumption) | with_reducible refine RdUp.set ?_ (by first | exact Nat.le_refl _ | (simp only []; omega) | (simp; omega)) _ | with_reducible refine RdUp.alloc ?_ _ | with_reducible refine RdUp.drew ?_ | with_reducible exact RdUp.of (Up.refl _)))) (by omega))
      | (go_ret; exact ⟨_, rfl, wrapFol F2.out (by omega) (by omega), by exact RdUp.fin hU (by intro c hU; (repeat (first | with_reducible assumption | refine RdUp.ups ?_ (by with_reducible assumption) | with_reducible refine RdUp.set ?_ (by first | exact Nat.le_refl _ | (simp only []; omega) | (simp; omega)) _ | with_reducible refine RdUp.alloc ?_ _ | with_reducible refine RdUp.drew ?_ | with_reducible exact RdUp.of (Up.refl _)))) (by omega)⟩)
      | skip
    all_goals
      have hr2 := hU.2 _ h
      refine wp_region_rd 6 rb B 1 _ (by kernel_rfl) (by kernel_rfl) hr2 ?_
      simp only [List.take, List.drop]
      repeat (refine wpR_step (fun K hK => ?_); go_simp; (try simp only [↓IntWalk.iteOmega]); first
        | (refine hK _ _ ?_; clear hK K)
        | (refine stepR_c ?_ ?_ ?_
           rotate_left
           · intro wq hwq hrq; (have hbq := gcell hwq; (repeat (first | refine fills_no (by rfl) ?_ | (refine fills_yes (by rfl) (fun vq hvq => ?_); (try ((obtain ⟨i, rfl, hi0, hi1⟩ := hvq)))))); simp only [List.filter_nil, fills]; unfold upAt; (try ((obtain ⟨-, r0, r1, r2, r3, r4, r5⟩ := KnAt.cells (gbox hwq hKB (by simp; omega))))); go_simp; (try go_bits); (try simp only [↓IntWalk.iteOmega]); (try (rw [dif_pos (by omega)]; go_simp; try go_bits)); first | exact upOut_value | (apply upOut_call; (go_at_call 69; exact cK _)) | (apply upOut_eq; (go_at_call 69; exact cK _)))
           go_simp; refine hK _ _ ?_; clear hK K)
        | (refine stepR_m (by kernel_rfl) ?_ ?_ (fun wq hwq hrq => ?_) ?_
           rotate_left 2
           · (have hbq := gcell hwq; (repeat (first | refine fills_no (by rfl) ?_ | (refine fills_yes (by rfl) (fun vq hvq => ?_); (try ((obtain ⟨i, rfl, hi0, hi1⟩ := hvq)))))); simp only [List.filter_nil, fills]; unfold upAt; (try ((obtain ⟨-, r0, r1, r2, r3, r4, r5⟩ := KnAt.cells (gbox hwq hKB (by simp; omega))))); go_simp; (try go_bits); (try simp only [↓IntWalk.iteOmega]); (try (rw [dif_pos (by omega)]; go_simp; try go_bits)); first | ((with_reducible refine upOut_D (fun v _ => IsFol k v) ?_); (((with_reducible refine upOut_make (Up.refl _) ?_); exact remFol F1.out (by omega)))))
           rotate_left
           · (first | exact (fun _ _ _ h _ => h))
           refine hK _ _ ?_; clear hK K)
        | (refine stepR_d (by rfl) (by kernel_rfl) (fun v _ => pickB 256 v) (fun _ _ _ h _ => h) (fun wq hwq hrq => ?_) ?_
           · (have hbq := gcell hwq; (repeat (first | refine fills_no (by rfl) ?_ | (refine fills_yes (by rfl) (fun vq hvq => ?_); (try ((obtain ⟨i, rfl, hi0, hi1⟩ := hvq)))))); simp only [List.filter_nil, fills]; unfold gAt; (try ((obtain ⟨-, r0, r1, r2, r3, r4, r5⟩ := KnAt.cells (gbox hwq hKB (by simp; omega))))); go_simp; (try go_bits); (try simp only [↓IntWalk.iteOmega]); (try (rw [dif_pos (by omega)]; go_simp; try go_bits)); (with_reducible refine gOut_drawn ((pick_any rb B 256 wq _ hrq (by omega))) ?_); decide)
           refine hK _ _ ?_; clear hK K))
      refine wpR_nil (fun wq hwq hrq => ?_)
      simp only [fills]
      rintro v9 h9
      intros
      have hU := RdUp.made (C := 8) HM (grownBy_trans hU.1 hwq) hrq (by omega)
      go_wp2
      rw [onlyN_normal]
      go_wp2
      go_ret
      exact ⟨_, rfl, h9, by exact RdUp.fin hU (by intro c hU; (repeat (first | with_reducible assumption | refine RdUp.ups ?_ (by with_reducible assumption) | with_reducible refine RdUp.set ?_ (by first | exact Nat.le_refl _ | (simp only []; omega) | (simp; omega)) _ | with_reducible refine RdUp.alloc ?_ _ | with_reducible refine RdUp.drew ?_ | with_reducible exact RdUp.of (Up.refl _)))) (by omega)⟩
end Go.Proofs.YtgbakgaegldomaaGreat

/- Walk of the reference's l2Draw. Conditions: the reader is one (Rdr), its place is bounded. -/
namespace Go.Proofs.YtgbakgaegldomaaGreat
open Go Go.RowKit
def kn0 : KnD := ⟨⟨0, 0, 0⟩, [], 0, 0⟩
def RelDk (rb : Nat) (B : Value) (c : Nat) (w : World) (b : Nat) (i : Value) (wr : World) : Prop := ∃ (n : Nat) (k : KnD) (v : Value), i = .int .i64 n ∧ n ≤ 13 ∧ k.Ok ∧ KnAt b k v wr ∧ RdP (b + 1) wr v k.ps ∧ RdUp rb B (c + 40 * (13 - n)) w wr ∧ KnAt w.heap.size kn0 (.slice none 0 0) wr
theorem rdP_none (lo : Nat) (w : World) : RdP lo w (.slice none 0 0) [] := ⟨none, 0, rfl, Nat.le_refl _, by unfold maxLen; omega, fun _ => ⟨rfl, rfl⟩, fun h => absurd h (Nat.lt_irrefl _)⟩
def AftP (lo : Nat) (k : KnD) (u : Value) (w : World) : Prop := ∃ x v, k.follows x = true ∧ u = kV (k.after x) v ∧ RdP lo w v (k.after x).ps
theorem aftP_closed {rb lo : Nat} {k : KnD} (hl : rb < lo) : ∀ u w w', AftP lo k u w → w.grownBy w' (some rb) → AftP lo k u w' := fun u w w' ⟨x, v, h1, h2, h3⟩ hg => ⟨x, v, h1, h2, h3.gr hg hl⟩
theorem upOut_aft {lo : Nat} {k : KnD} {x : Int} {f : FuncId} {args : Array Value} {w : World} (h : Calls Tryz.prog f args w (KnPost (k.after x) w)) (hx : k.follows x = true) (hb : lo ≤ w.heap.size) : upOut Tryz.prog (AftP lo k) w (.ok (.enter f args) w) :=
  ⟨rfl, h.mono fun e w' ⟨v, he, hp, hu⟩ => ⟨_, he, hu, x, v, hx, rfl, (RdP.of_own hp).low hb⟩⟩
def DrawnK (rb : Nat) (B : Value) (c : Nat) (D : KnD → Prop) (w : World) (e : Ending) (w' : World) : Prop := ∃ k v, e = .returned (kV k v) ∧ D k ∧ RdP (rb + 1) w' v k.ps ∧ RdUp rb B c w w'
set_option maxRecDepth 100000 in
set_option maxHeartbeats 8000000 in
theorem l2Draw_any (rb : Nat) (B : Value) (w : World) (N : Nat) (h : Rdr rb B w N) (hN : N ≤ 800000000) :
    Calls Tryz.prog 25  #[.pointer (some ⟨rb, 0, none⟩)] w (DrawnK rb B 800 KnD.Ok w) := by
  obtain ⟨p, hp, h, HM⟩ := h.least
  have hlt := h.lt
  have HR := Lib.hid h
  have hne0 : ¬ w.heap.size = rb := by omega
  have hU := RdUp.refl rb B 0 w
  have e1 : w.heap.size < w.heap.size + 1 := by omega
  have cS := fun w N h hN => l1Some_any rb B w N h hN
  have hRB : KnAt w.heap.size kn0 (.slice none 0 0) (w.alloc (.cells #[.int .i64 0, .int .i64 0, .int .i64 0, .slice none 0 0, .int .i64 0, .int .i64 0] 27)) := (MapKept.heap_alloc w _).1
  go_enter Tryz.func25, Tryz.ntmps25
  go_wp2_with (first | ((go_at_call 64; ((with_reducible refine (draw_at (cS) HR.out hU (by intro c hU; (repeat (first | with_reducible assumption | refine RdUp.ups ?_ (by with_reducible assumption) | with_reducible refine RdUp.set ?_ (by first | exact Nat.le_refl _ | (simp only []; omega) | (simp; omega)) _ | with_reducible refine RdUp.alloc ?_ _ | with_reducible refine RdUp.drew ?_ | with_reducible exact RdUp.of (Up.refl _)))) (by omega)).mono ?_); rintro e w' ⟨v, rfl, ⟨s, rfl, hs⟩, hU, U⟩; have D := gcell U.1; have Z := U.1.size; (try simp at Z); (try have Y0 : w.heap.size < w'.heap.size := (by omega)); (try have Y1 : w.heap.size + 1 < w'.heap.size := (by omega)); (try have Y2 : w.heap.size + 1 + 1 < w'.heap.size := (by omega)); (try have X0 : w.heap.size < w'.heap.size + 1 := (by omega)); (try have X1 : w.heap.size + 1 < w'.heap.size + 1 := (by omega)); (try have X2 : w.heap.size + 1 + 1 < w'.heap.size + 1 := (by omega)))); have hRB := gbox U.1 hRB (by simp; omega)) | (go_at_call 63; (with_reducible refine (startS_any s _ hs).mono ?_); rintro e w2 ⟨rfl, U2⟩; have hU := hU.ups U2; have hRB := box_up U2 hRB; clear D U cS))
  have hKB : KnAt w2.heap.size ⟨s, [], 0, -1⟩ (.slice none 0 0) (w2.alloc (.cells #[.int .i64 s.ord, .int .i64 s.lit, .int .i64 s.most, .slice none 0 0, .int .i64 0, .int .i64 (-1)] 27)) := (MapKept.heap_alloc w2 _).1
  have hRB : KnAt w.heap.size kn0 (.slice none 0 0) (w2.alloc (.cells #[.int .i64 s.ord, .int .i64 s.lit, .int .i64 s.most, .slice none 0 0, .int .i64 0, .int .i64 (-1)] 27)) := box_up ((Up.refl _).alloc _) hRB
  have hU : RdUp rb B 5 w (w2.alloc (.cells #[.int .i64 s.ord, .int .i64 s.lit, .int .i64 s.most, .slice none 0 0, .int .i64 0, .int .i64 (-1)] 27)) := by exact RdUp.fin hU (by intro c hU; (repeat (first | with_reducible assumption | refine RdUp.ups ?_ (by with_reducible assumption) | with_reducible refine RdUp.set ?_ (by first | exact Nat.le_refl _ | (simp only []; omega) | (simp; omega)) _ | with_reducible refine RdUp.alloc ?_ _ | with_reducible refine RdUp.drew ?_ | with_reducible exact RdUp.of (Up.refl _)))) (by omega)
  have hs2 : w.heap.size < w2.heap.size := by have := U2.size; omega
  have hbr : ¬ w2.heap.size = rb := by omega
  have hbr2 : rb < w2.heap.size := by omega
  have hbr3 : rb < w2.heap.size + 1 := by omega
  have hk0 : (⟨s, [], 0, -1⟩ : KnD).Ok := startK_ok hs
  generalize (w2.alloc (.cells #[.int .i64 s.ord, .int .i64 s.lit, .int .i64 s.most, .slice none 0 0, .int .i64 0, .int .i64 (-1)] 27)) = W at *
  generalize w2.heap.size = b at *
  clear U2 Z Y0 X0 hs
  simp only [kV, setV]
  go_wp2_with ((go_at_call 28; ((with_reducible refine (pick_at (n := 14) HR.out hU (by intro c hU; (repeat (first | with_reducible assumption | refine RdUp.ups ?_ (by with_reducible assumption) | with_reducible refine RdUp.set ?_ (by first | exact Nat.le_refl _ | (simp only []; omega) | (simp; omega)) _ | with_reducible refine RdUp.alloc ?_ _ | with_reducible refine RdUp.drew ?_ | with_reducible exact RdUp.of (Up.refl _)))) (by omega)).mono ?_); rintro e w' ⟨n, rfl, n0, n1, hU, U⟩; have D := gcell U.1; have Z := U.1.size; (try simp at Z); (try have Y0 : w.heap.size < w'.heap.size := (by omega)); (try have Y1 : w.heap.size + 1 < w'.heap.size := (by omega)); (try have Y2 : w.heap.size + 1 + 1 < w'.heap.size := (by omega)); (try have X0 : w.heap.size < w'.heap.size + 1 := (by omega)); (try have X1 : w.heap.size + 1 < w'.heap.size + 1 := (by omega)); (try have X2 : w.heap.size + 1 + 1 < w'.heap.size + 1 := (by omega)); ((have hKB := gbox U.1 hKB (by simp; omega); have hRB := gbox U.1 hRB (by simp; omega))))))
  obtain ⟨n, rfl⟩ := Int.eq_ofNat_of_zero_le n0
  have hn14 : n ≤ 13 := by omega
  have hU0 := RdUp.mono hU (show 5 + 1 ≤ 6 by omega)
  clear hU U D
  go_loopw [5] (fun i wr => RelDk rb B 6 w b i wr) (fun i _ => (intOf i).toNat)
  case atStart => exact ⟨n, _, _, rfl, hn14, hk0, hKB, rdP_none _ _, hU0.mono (by omega), hRB⟩
  case round =>
    clear hKB hRB hU0 hk0
    obtain ⟨n, k, v, rfl, hn, hk, hKB, hr, hU, hRB⟩ := hrel
    have hwz := hU.1.size
    obtain ⟨a, cap, rfl, hc1, hc2, hc3, -⟩ := id hr
    unfold maxLen at hc2
    have hpl := hk.nums.2.2.2.1
    have hfw := box_free hKB
    by_cases hp0 : 0 < n
    · go_wp2
      have hr2 := hU.2 _ h
      refine wp_region_rd 5 rb B 8 _ (by kernel_rfl) (by kernel_rfl) hr2 ?_
      simp only [List.take, List.drop]
      repeat (refine wpR_step (fun K hK => ?_); go_simp; (try simp only [↓IntWalk.iteOmega]); first
        | (refine hK _ _ ?_; clear hK K)
        | (refine stepR_c ?_ ?_ ?_
           rotate_left
           · intro wq hwq hrq; (have hbq := gcell hwq; (repeat (first | refine fills_no (by rfl) ?_ | (refine fills_yes (by rfl) (fun vq hvq => ?_); (try ((obtain ⟨x, rfl, hx⟩ := hvq)))))); simp only [List.filter_nil, fills]; unfold upAt; (try ((obtain ⟨-, r0, r1, r2, r3, r4, r5⟩ := KnAt.cells (gbox hwq hKB (by simp; omega))))); go_simp; (try go_bits); (try simp only [↓IntWalk.iteOmega]); (try (rw [dif_pos (by omega)]; go_simp; try go_bits)); first | exact upOut_value)
           go_simp; refine hK _ _ ?_; clear hK K)
        | (refine stepR_m (by kernel_rfl) ?_ ?_ (fun wq hwq hrq => ?_) ?_
           rotate_left 2
           · (have hbq := gcell hwq; (repeat (first | refine fills_no (by rfl) ?_ | (refine fills_yes (by rfl) (fun vq hvq => ?_); (try ((obtain ⟨x, rfl, hx⟩ := hvq)))))); simp only [List.filter_nil, fills]; unfold upAt; (try ((obtain ⟨-, r0, r1, r2, r3, r4, r5⟩ := KnAt.cells (gbox hwq hKB (by simp; omega))))); go_simp; (try go_bits); (try simp only [↓IntWalk.iteOmega]); (try (rw [dif_pos (by omega)]; go_simp; try go_bits)); first | ((with_reducible refine upOut_D (AftP (b + 1) k) ?_); (((with_reducible refine upOut_aft ?_ hx ?_); (go_at_call 65; exact l2After_any k _ (b + 1) x wq hk (hr.gr hwq (by omega)) hx); (have := (Array.getElem?_eq_some_iff.1 hKB).1; have := hwq.size; omega)))))
           rotate_left
           · (first | exact (fun _ _ _ h _ => h) | exact (aftP_closed (by omega)))
           refine hK _ _ ?_; clear hK K)
        | (refine stepR_d (by rfl) (by kernel_rfl) (fun v _ => IsFol k v) (fun _ _ _ h _ => h) (fun wq hwq hrq => ?_) ?_
           · (have hbq := gcell hwq; (repeat (first | refine fills_no (by rfl) ?_ | (refine fills_yes (by rfl) (fun vq hvq => ?_); (try ((obtain ⟨x, rfl, hx⟩ := hvq)))))); simp only [List.filter_nil, fills]; unfold gAt; (try ((obtain ⟨-, r0, r1, r2, r3, r4, r5⟩ := KnAt.cells (gbox hwq hKB (by simp; omega))))); go_simp; (try go_bits); (try simp only [↓IntWalk.iteOmega]); (try (rw [dif_pos (by omega)]; go_simp; try go_bits)); (with_reducible refine gOut_drawn ((l2Pick_any k _ rb B wq _ hrq (by omega) hk ((hr.gr hwq (by omega)).low (by omega)))) ?_); decide)
           refine hK _ _ ?_; clear hK K))
      refine wpR_nil (fun wq hwq hrq => ?_)
      simp only [fills]
      rintro u ⟨x, v', hx, rfl, hr'⟩
      intros
      obtain ⟨a', c', rfl, -⟩ := id hr'
      generalize hvv : Value.slice a' (k.after x).ps.length c' = v' at *
      have hU := RdUp.made (C := 6 + 40 * (13 - (n - 1))) HM (grownBy_trans hU.1 hwq) hrq (by omega)
      have hK2 := KnAt.store (gbox hwq hKB (by simp; omega)) (k.after x) v'
      have hR2 : KnAt w.heap.size kn0 (.slice none 0 0) (KnW wq b (k.after x) v') := (KnW.other (by omega) _ _).trans (gbox hwq hRB (by simp; omega))
      have hr2' : RdP (b + 1) (KnW wq b (k.after x) v') v' (k.after x).ps := by unfold KnW; exact (((((hr'.set (Nat.lt_succ_self b) _ _).set (Nat.lt_succ_self b) _ _).set (Nat.lt_succ_self b) _ _).set (Nat.lt_succ_self b) _ _).set (Nat.lt_succ_self b) _ _).set (Nat.lt_succ_self b) _ _
      have hU2 : RdUp rb B (6 + 40 * (13 - (n - 1))) w (KnW wq b (k.after x) v') := by unfold KnW; (repeat (first | with_reducible assumption | refine RdUp.ups ?_ (by with_reducible assumption) | with_reducible refine RdUp.set ?_ (by first | exact Nat.le_refl _ | (simp only []; omega) | (simp; omega)) _ | with_reducible refine RdUp.alloc ?_ _ | with_reducible refine RdUp.drew ?_ | with_reducible exact RdUp.of (Up.refl _)))
      have hK := KnD.after_ok hk hx
      have HH := Lib.hid (And.intro hK (And.intro hK2 (And.intro hr2' (And.intro hU2 hR2))))
      obtain ⟨hb1, q0, q1, q2, q3, q4, q5⟩ := KnAt.cells (gbox hwq hKB (by simp; omega))
      have hfr := box_free (gbox hwq hKB (by simp; omega))
      clear hK2 hR2 hr2' hU2 hK hr' hU hKB hRB hr
      generalize k.after x = k2 at *
      subst hvv
      simp only [kV]
      go_wp2
      rw [onlyN_normal]
      go_wp2
      rw [show (World.setCell (World.setCell (World.setCell (World.setCell (World.setCell (World.setCell wq ⟨b, 0, none⟩ (.int .i64 k2.set.ord)) ⟨b, 1, none⟩ (.int .i64 k2.set.lit)) ⟨b, 2, none⟩ (.int .i64 k2.set.most)) ⟨b, 3, none⟩ (.slice a' k2.ps.length c')) ⟨b, 4, none⟩ (.int .i64 k2.base)) ⟨b, 5, none⟩ (.int .i64 k2.last)) = KnW wq b k2 (.slice a' k2.ps.length c') from rfl]
      obtain ⟨hK, hK2, hr2', hU2, hR2⟩ := HH.out
      clear HH q0 q1 q2 q3 q4 q5 hfr
      go_roundw
      case rel => exact ⟨n - 1, k2, _, by go_num, by omega, hK, hK2, hr2', hU2, hR2⟩
      case measure => simp [intOf]; omega
    · have e : n = 0 := by omega
      subst e
      obtain ⟨hb1, q0, q1, q2, q3, q4, q5⟩ := KnAt.cells hKB
      go_wp2_with (first | (go_at_call 28; ((with_reducible refine (pick_at (n := 5) HR.out hU (by intro c hU; (repeat (first | with_reducible assumption | refine RdUp.ups ?_ (by with_reducible assumption) | with_reducible refine RdUp.set ?_ (by first | exact Nat.le_refl _ | (simp only []; omega) | (simp; omega)) _ | with_reducible refine RdUp.alloc ?_ _ | with_reducible refine RdUp.drew ?_ | with_reducible exact RdUp.of (Up.refl _)))) (by omega)).mono ?_); rintro e w' ⟨y, rfl, y0, y1, hU, U⟩; have D := gcell U.1; have Z := U.1.size; (try simp at Z); (try have Y0 : w.heap.size < w'.heap.size := (by omega)); (try have Y1 : w.heap.size + 1 < w'.heap.size := (by omega)); (try have Y2 : w.heap.size + 1 + 1 < w'.heap.size := (by omega)); (try have X0 : w.heap.size < w'.heap.size + 1 := (by omega)); (try have X1 : w.heap.size + 1 < w'.heap.size + 1 := (by omega)); (try have X2 : w.heap.size + 1 + 1 < w'.heap.size + 1 := (by omega)); (((first | (have hKB := gbox U.1 hKB (by simp; omega); have hr := RdP.gr hr U.1 (by omega)) | (have hKB : KnAt b ⟨k.set, k.ps, m, k.last⟩ (.slice a k.ps.length cap) w' := gbox U.1 (box_set hKB 4 (.int .i64 m)) (by simp; omega); have hr := RdP.gr (hr.set (Nat.lt_succ_self b) 4 (.int .i64 m)) U.1 (by omega))); (first | (have hRB := gbox U.1 hRB (by simp; omega)) | (have hRB : KnAt w.heap.size kn0 (.slice none 0 0) w' := gbox U.1 ((Below.heap_setCell _ _ _ _ (show w.heap.size ≠ b by omega)).trans hRB) (by simp; omega)))); (obtain ⟨hb1, q0, q1, q2, q3, q4, q5⟩ := KnAt.cells hKB; obtain ⟨hb0, s0, s1, s2, s3, s4, s5⟩ := KnAt.cells hRB; have hfr := box_free hRB; have hfk := box_free hKB)))) | (go_at_call 28; ((with_reducible refine (pick_at (n := (k.ps.length : Int) + 1) HR.out hU (by intro c hU; (repeat (first | with_reducible assumption | refine RdUp.ups ?_ (by with_reducible assumption) | with_reducible refine RdUp.set ?_ (by first | exact Nat.le_refl _ | (simp only []; omega) | (simp; omega)) _ | with_reducible refine RdUp.alloc ?_ _ | with_reducible refine RdUp.drew ?_ | with_reducible exact RdUp.of (Up.refl _)))) (by omega)).mono ?_); rintro e w' ⟨m, rfl, m0, m1, hU, U⟩; have D := gcell U.1; have Z := U.1.size; (try simp at Z); (try have Y0 : w.heap.size < w'.heap.size := (by omega)); (try have Y1 : w.heap.size + 1 < w'.heap.size := (by omega)); (try have Y2 : w.heap.size + 1 + 1 < w'.heap.size := (by omega)); (try have X0 : w.heap.size < w'.heap.size + 1 := (by omega)); (try have X1 : w.heap.size + 1 < w'.heap.size + 1 := (by omega)); (try have X2 : w.heap.size + 1 + 1 < w'.heap.size + 1 := (by omega)); ((have hKB := gbox U.1 hKB (by simp; omega); have hRB := gbox U.1 hRB (by simp; omega); have hr := RdP.gr hr U.1 (by omega); (obtain ⟨hb1, q0, q1, q2, q3, q4, q5⟩ := KnAt.cells hKB; obtain ⟨hb0, s0, s1, s2, s3, s4, s5⟩ := KnAt.cells hRB; have hfr := box_free hRB; have hfk := box_free hKB))))) | (go_at_call 67; (first | (with_reducible refine (l2Cleared_any k _ (b + 1) _ hk hr).mono ?_) | (with_reducible refine (l2Cleared_any ⟨k.set, k.ps, m, k.last⟩ _ (b + 1) _ (hk.rebase (by omega) (by omega)) hr).mono ?_)); rintro e w9 ⟨v9, rfl, ho9, U9⟩; have hr9 := (RdP.of_own ho9).low (show b + 1 ≤ _ by omega); have hU := hU.ups U9; have hKB := box_up U9 hKB; have hRB := box_up U9 hRB; obtain ⟨a9, c9, rfl⟩ := ownsRow_shape ho9; clear q0 q1 q2 q3 q4 q5 hfr hfk s0 s1 s2 s3 s4 s5; obtain ⟨hb1, q0, q1, q2, q3, q4, q5⟩ := KnAt.cells hKB; obtain ⟨hb0, s0, s1, s2, s3, s4, s5⟩ := KnAt.cells hRB; have hfr := box_free hRB; have hfk := box_free hKB))
      all_goals
        refine bodyPost_ret (v := _) (by simp [results, Tryz.results25, go_sem, hb0, s0, s1, s2, s3, s4, s5]; rfl) rfl ?_
        first
          | (refine ⟨k, .slice a k.ps.length cap, rfl, hk, RdP.low (lo := b + 1) ?_ (by omega), ?_⟩; (repeat (with_reducible refine RdP.set ?_ (by omega) _ _)); exact hr; exact RdUp.fin hU (by intro c hU; (repeat (first | with_reducible assumption | refine RdUp.ups ?_ (by with_reducible assumption) | with_reducible refine RdUp.set ?_ (by first | exact Nat.le_refl _ | (simp only []; omega) | (simp; omega)) _ | with_reducible refine RdUp.alloc ?_ _ | with_reducible refine RdUp.drew ?_ | with_reducible exact RdUp.of (Up.refl _)))) (by omega))
          | (refine ⟨⟨k.set, k.ps, m, k.last⟩, .slice a k.ps.length cap, rfl, hk.rebase (by omega) (by omega), RdP.low (lo := b + 1) ?_ (by omega), ?_⟩; (repeat (with_reducible refine RdP.set ?_ (by omega) _ _)); exact hr; exact RdUp.fin hU (by intro c hU; (repeat (first | with_reducible assumption | refine RdUp.ups ?_ (by with_reducible assumption) | with_reducible refine RdUp.set ?_ (by first | exact Nat.le_refl _ | (simp only []; omega) | (simp; omega)) _ | with_reducible refine RdUp.alloc ?_ _ | with_reducible refine RdUp.drew ?_ | with_reducible exact RdUp.of (Up.refl _)))) (by omega))
          | (refine ⟨k.cleared, .slice a9 _ c9, rfl, KnD.cleared_ok hk, RdP.low (lo := b + 1) ?_ (by omega), ?_⟩; (repeat (with_reducible refine RdP.set ?_ (by omega) _ _)); exact hr9; exact RdUp.fin hU (by intro c hU; (repeat (first | with_reducible assumption | refine RdUp.ups ?_ (by with_reducible assumption) | with_reducible refine RdUp.set ?_ (by first | exact Nat.le_refl _ | (simp only []; omega) | (simp; omega)) _ | with_reducible refine RdUp.alloc ?_ _ | with_reducible refine RdUp.drew ?_ | with_reducible exact RdUp.of (Up.refl _)))) (by omega))
          | (refine ⟨(⟨k.set, k.ps, m, k.last⟩ : KnD).cleared, .slice a9 _ c9, rfl, KnD.cleared_ok (hk.rebase (by omega) (by omega)), RdP.low (lo := b + 1) ?_ (by omega), ?_⟩; (repeat (with_reducible refine RdP.set ?_ (by omega) _ _)); exact hr9; exact RdUp.fin hU (by intro c hU; (repeat (first | with_reducible assumption | refine RdUp.ups ?_ (by with_reducible assumption) | with_reducible refine RdUp.set ?_ (by first | exact Nat.le_refl _ | (simp only []; omega) | (simp; omega)) _ | with_reducible refine RdUp.alloc ?_ _ | with_reducible refine RdUp.drew ?_ | with_reducible exact RdUp.of (Up.refl _)))) (by omega))
end Go.Proofs.YtgbakgaegldomaaGreat

