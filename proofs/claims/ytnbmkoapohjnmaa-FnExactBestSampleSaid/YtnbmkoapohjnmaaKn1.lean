/- Walks of the reference's small functions on what is known. Conditions: what is known is valid (KnD.Ok) and can be read. -/
import Derived.Test.YtnbmkoapohjnmaaSet2
import Derived.Test.YtnbmkoapohjnmaaUg
namespace Go.Proofs.Ytnbmkoapohjnmaa
set_option linter.unusedVariables false
set_option linter.unusedSimpArgs false
open Go.RowKit

/-- A slice of pairs that can be read, from the block lo on. -/
def RdP (lo : Nat) (w : World) (v : Value) (ps : List PairD) : Prop := ∃ a cap, v = .slice a ps.length cap ∧ ps.length ≤ cap ∧ cap ≤ maxLen ∧ (a = none → ps.length = 0 ∧ cap = 0) ∧
  (0 < ps.length → ∃ b off, a = some ⟨b, off, none⟩ ∧ lo ≤ b ∧ b < w.heap.size ∧ ∀ i p, ps[i]? = some p → w.cell? ⟨b, off + i * 2, none⟩ = some (.int .i64 p.pre) ∧ w.cell? ⟨b, off + i * 2 + 1, none⟩ = some (.int .i64 p.byt))
theorem RdP.up {lo : Nat} {w w' : World} {v : Value} {ps : List PairD} (h : RdP lo w v ps) (hu : Up w w') : RdP lo w' v ps := by
  obtain ⟨a, cap, h1, h2, h2', h2'', h3⟩ := h
  refine ⟨a, cap, h1, h2, h2', h2'', fun hp => ?_⟩
  obtain ⟨b, off, e1, e2, e4, e5⟩ := h3 hp
  exact ⟨b, off, e1, e2, Nat.lt_of_lt_of_le e4 hu.size, fun i p hi => ⟨(hu.cell (p := ⟨b, _, none⟩) e4).trans (e5 i p hi).1, (hu.cell (p := ⟨b, _, none⟩) e4).trans (e5 i p hi).2⟩⟩
theorem RdP.low {lo lo' : Nat} {w : World} {v : Value} {ps : List PairD} (h : RdP lo w v ps) (hl : lo' ≤ lo) : RdP lo' w v ps := by
  obtain ⟨a, cap, h1, h2, h2', h2'', h3⟩ := h
  refine ⟨a, cap, h1, h2, h2', h2'', fun hp => ?_⟩
  obtain ⟨b, off, e1, e2, e4, e5⟩ := h3 hp
  exact ⟨b, off, e1, Nat.le_trans hl e2, e4, e5⟩
abbrev kV (k : KnD) (v : Value) : Value := .agg #[.int .i64 k.set.ord, .int .i64 k.set.lit, .int .i64 k.set.most, v, .int .i64 k.base, .int .i64 k.last]
/-- What is known lies in the block b. -/
def KnAt (b : Nat) (k : KnD) (v : Value) (w : World) : Prop := w.heap[b]? = some (.cells #[.int .i64 k.set.ord, .int .i64 k.set.lit, .int .i64 k.set.most, v, .int .i64 k.base, .int .i64 k.last] 54)
theorem KnAt.cells {b : Nat} {k : KnD} {v : Value} {w : World} (h : KnAt b k v w) : b < w.heap.size ∧ w.cell? ⟨b, 0, none⟩ = some (.int .i64 k.set.ord) ∧ w.cell? ⟨b, 1, none⟩ = some (.int .i64 k.set.lit) ∧ w.cell? ⟨b, 2, none⟩ = some (.int .i64 k.set.most) ∧ w.cell? ⟨b, 3, none⟩ = some v ∧ w.cell? ⟨b, 4, none⟩ = some (.int .i64 k.base) ∧ w.cell? ⟨b, 5, none⟩ = some (.int .i64 k.last) :=
  ⟨(Array.getElem?_eq_some_iff.1 h).1, box_cell h 0, box_cell h 1, box_cell h 2, box_cell h 3, box_cell h 4, box_cell h 5⟩

theorem KnD.Ok.nums {k : KnD} (h : k.Ok) : 2 ≤ clr k.set ∧ clr k.set ≤ 256 ∧ lastC k.set ≤ 1023 ∧ k.ps.length ≤ 1022 ∧ k.ps.length + clr k.set + 1 ≤ lastC k.set := by
  have h1 := h.c_bd
  have h2 := h.len
  unfold KnD.c at *
  omega

set_option maxRecDepth 100000 in
set_option maxHeartbeats 1000000 in
theorem l2Next_any (k : KnD) (v : Value) (lo : Nat) (w : World) (h : k.Ok) (hr : RdP lo w v k.ps) :
    Calls Try.prog 125  #[kV k v] w (Same (.int .i64 (k.next : Nat)) w) := by
  obtain ⟨hb1, hb2, hb3, hb4, hb5⟩ := h.nums
  have cE := fun w => l1End_any k.set w h.set
  have e : Hid ((k.next : Int) = clr k.set + 1 + 1 + k.ps.length) := by unfold Hid KnD.next KnD.c; omega
  rw [e.out]
  obtain ⟨⟨o, l, m⟩, ps, ba, la⟩ := k
  simp only at *
  obtain ⟨a, cap, rfl, -, -, -, -⟩ := hr
  generalize clr ⟨o, l, m⟩ = c at *
  generalize lastC ⟨o, l, m⟩ = lc at *
  clear h
  simp only [kV]
  go_enter Try.func125, Try.ntmps125
  go_wp2
  refine wp_region_up 8 (by kernel_rfl) (by kernel_rfl) ?_
  simp only [List.take, List.drop]
  repeat (refine wpUp_step (fun K hK => ?_); go_simp; (try simp only [↓IntWalk.iteOmega]); first
    | (refine hK _ _ ?_; clear hK K)
    | (apply stepU_c
       · intro wq hwq; (have hbq := bcell hwq; (repeat (first | refine fills_no (by rfl) ?_ | refine fills_yes (by rfl) (fun vq hvq => ?_))); simp only [List.filter_nil, fills]; unfold upAt; go_simp; (try go_bits); (try simp only [↓IntWalk.iteOmega]); (try (rw [dif_pos (by omega)]; go_simp; try go_bits)); first | exact upOut_value | (apply upOut_call; (go_at_call 92; exact cE _)) | (apply upOut_eq; (go_at_call 92; exact cE _)))
       go_simp; refine hK _ _ ?_; clear hK K))
  refine wpUp_nil (fun wq hwq => ?_)
  simp only [fills]
  go_wp2
  go_ret
  refine ⟨rfl, ?_⟩
  (repeat (first | exact Up.refl _ | refine Up.alloc ?_ _ | refine Up.drew ?_ | refine Up.set ?_ (by first | exact Nat.le_refl _ | (simp; done) | (simp; omega)) _ | refine Up.trans ?_ (by with_reducible assumption)))

theorem KnD.grow_off {k : KnD} (h : k.last = -1) : k.grow = false := by unfold KnD.grow; rw [h]; rfl
theorem KnD.grow_on {k : KnD} (h : k.last ≠ -1) : k.grow = decide (k.next ≤ lastC k.set) := by unfold KnD.grow; rw [decide_eq_true h, Bool.true_and]
theorem KnD.Ok.last0 {k : KnD} (h : k.Ok) (hl : k.last ≠ -1) : 0 ≤ k.last ∧ k.last ≤ 1023 := by
  have h1 := h.last.resolve_left hl
  have h2 := h.c_bd
  have h3 := h.len
  rw [codeOk_iff] at h1
  omega

set_option maxRecDepth 100000 in
set_option maxHeartbeats 1000000 in
theorem l2Grows_any (k : KnD) (v : Value) (lo : Nat) (w : World) (h : k.Ok) (hr : RdP lo w v k.ps) :
    Calls Try.prog 132  #[kV k v] w (Same (.bool k.grow) w) := by
  obtain ⟨hb1, hb2, hb3, hb4, hb5⟩ := h.nums
  by_cases hla : k.last = -1
  · rw [KnD.grow_off hla]
    obtain ⟨⟨o, l, m⟩, ps, ba, la⟩ := k
    simp only at hla
    subst hla
    obtain ⟨a, cap, rfl, -, -, -, -⟩ := hr
    clear h
    simp only [kV]
    go_enter Try.func132, Try.ntmps132
    go_wp2
    refine wp_region_up 12 (by kernel_rfl) (by kernel_rfl) ?_
    simp only [List.take, List.drop]
    repeat (refine wpUp_step (fun K hK => ?_); go_simp; (try simp only [↓IntWalk.iteOmega]); first
      | (refine hK _ _ ?_; clear hK K)
      | (apply stepU_c
         · intro wq hwq; (have hbq := bcell hwq; (repeat (first | refine fills_no (by rfl) ?_ | refine fills_yes (by rfl) (fun vq hvq => ?_))); simp only [List.filter_nil, fills]; unfold upAt; go_simp; (try go_bits); (try simp only [↓IntWalk.iteOmega]); (try (rw [dif_pos (by omega)]; go_simp; try go_bits)); first | exact upOut_value)
         go_simp; refine hK _ _ ?_; clear hK K))
    refine wpUp_nil (fun wq hwq => ?_)
    simp only [fills]
    go_wp2
    go_ret
    refine ⟨rfl, ?_⟩
    (repeat (first | exact Up.refl _ | refine Up.alloc ?_ _ | refine Up.drew ?_ | refine Up.set ?_ (by first | exact Nat.le_refl _ | (simp; done) | (simp; omega)) _ | refine Up.trans ?_ (by with_reducible assumption)))
  · have e := Lib.hid (KnD.grow_on hla)
    have cN := fun w hr => l2Next_any k v lo w h hr
    have cL := fun w => l1Last_any k.set w h.set
    have hl0 := (h.last0 hla).1
    have hnb := KnD.next_bd h
    rw [e.out]
    generalize k.next = nx at *
    generalize lastC k.set = lc at *
    have hr' := hr
    obtain ⟨⟨o, l, m⟩, ps, ba, la⟩ := k
    simp only at *
    obtain ⟨a, cap, rfl, -, -, -, -⟩ := hr
    clear h e
    simp only [kV] at *
    go_enter Try.func132, Try.ntmps132
    go_wp2
    refine wp_region_up 12 (by kernel_rfl) (by kernel_rfl) ?_
    simp only [List.take, List.drop]
    repeat (refine wpUp_step (fun K hK => ?_); go_simp; (try simp only [↓IntWalk.iteOmega]); first
      | (refine hK _ _ ?_; clear hK K)
      | (apply stepU_c
         · intro wq hwq; (have hbq := bcell hwq; (repeat (first | refine fills_no (by rfl) ?_ | refine fills_yes (by rfl) (fun vq hvq => ?_))); simp only [List.filter_nil, fills]; unfold upAt; go_simp; (try go_bits); (try simp only [↓IntWalk.iteOmega]); (try (rw [dif_pos (by omega)]; go_simp; try go_bits)); first | exact upOut_value | (apply upOut_call; (go_at_call 125; exact cN _ (hr'.up ((Up.alloc (Up.refl _) _).trans hwq)))) | (apply upOut_eq; (go_at_call 125; exact cN _ (hr'.up ((Up.alloc (Up.refl _) _).trans hwq)))) | (apply upOut_call; (go_at_call 91; exact cL _)) | (apply upOut_eq; (go_at_call 91; exact cL _)))
         go_simp; refine hK _ _ ?_; clear hK K))
    refine wpUp_nil (fun wq hwq => ?_)
    simp only [fills]
    go_wp2
    go_ret
    refine ⟨ret_bool (by first | rfl | simp), ?_⟩
    (repeat (first | exact Up.refl _ | refine Up.alloc ?_ _ | refine Up.drew ?_ | refine Up.set ?_ (by first | exact Nat.le_refl _ | (simp; done) | (simp; omega)) _ | refine Up.trans ?_ (by with_reducible assumption)))

set_option maxRecDepth 100000 in
set_option maxHeartbeats 1000000 in
theorem l2Greatest_any (k : KnD) (v : Value) (lo : Nat) (w : World) (h : k.Ok) (hr : RdP lo w v k.ps) :
    Calls Try.prog 131  #[kV k v] w (Same (.int .i64 (k.top : Nat)) w) := by
  have cN := fun w hr => l2Next_any k v lo w h hr
  have cG := fun w hr => l2Grows_any k v lo w h hr
  have hnb := KnD.next_bd h
  have hn2 : 2 ≤ k.next := by unfold KnD.next; omega
  cases hg : k.grow
  · have e : Hid (((k.top : Nat) : Int) = (k.next : Int) - 1) := by unfold Hid KnD.top; rw [hg]; simp; omega
    rw [e.out]
    rw [hg] at cG
    generalize k.next = nx at *
    have hr' := hr
    obtain ⟨⟨o, l, m⟩, ps, ba, la⟩ := k
    simp only at *
    obtain ⟨a, cap, rfl, -, -, -, -⟩ := hr
    clear h e hg
    simp only [kV] at *
    go_enter Try.func131, Try.ntmps131
    go_wp2_with (first | (go_at_call 132; (with_reducible refine (cG _ (hr'.up (Up.alloc (Up.refl _) _))).mono ?_); rintro e w1 ⟨rfl, U1⟩; have B1 := bcell U1; have Z1 := U1.size; (try simp at Z1); (try rw [Nat.add_one_le_iff] at Z1)) | (go_at_call 125; (with_reducible refine (cN _ (hr'.up ((Up.alloc (Up.refl _) _).trans U1))).mono ?_); rintro e w2 ⟨rfl, U2⟩; have B2 := bcell U2; have Z2 := U2.size; (try simp at Z2); (try rw [Nat.add_one_le_iff] at Z2)))
    go_ret
    refine ⟨rfl, ?_⟩
    (repeat (first | exact Up.refl _ | refine Up.alloc ?_ _ | refine Up.drew ?_ | refine Up.set ?_ (by first | exact Nat.le_refl _ | (simp; done) | (simp; omega)) _ | refine Up.trans ?_ (by with_reducible assumption)))
  · have e : Hid (((k.top : Nat) : Int) = (k.next : Int)) := by unfold Hid KnD.top; rw [hg]; simp
    rw [e.out]
    rw [hg] at cG
    generalize k.next = nx at *
    have hr' := hr
    obtain ⟨⟨o, l, m⟩, ps, ba, la⟩ := k
    simp only at *
    obtain ⟨a, cap, rfl, -, -, -, -⟩ := hr
    clear h e hg
    simp only [kV] at *
    go_enter Try.func131, Try.ntmps131
    go_wp2_with (first | (go_at_call 132; (with_reducible refine (cG _ (hr'.up (Up.alloc (Up.refl _) _))).mono ?_); rintro e w1 ⟨rfl, U1⟩; have B1 := bcell U1; have Z1 := U1.size; (try simp at Z1); (try rw [Nat.add_one_le_iff] at Z1)) | (go_at_call 125; (with_reducible refine (cN _ (hr'.up ((Up.alloc (Up.refl _) _).trans U1))).mono ?_); rintro e w2 ⟨rfl, U2⟩; have B2 := bcell U2; have Z2 := U2.size; (try simp at Z2); (try rw [Nat.add_one_le_iff] at Z2)))
    go_ret
    refine ⟨rfl, ?_⟩
    (repeat (first | exact Up.refl _ | refine Up.alloc ?_ _ | refine Up.drew ?_ | refine Up.set ?_ (by first | exact Nat.le_refl _ | (simp; done) | (simp; omega)) _ | refine Up.trans ?_ (by with_reducible assumption)))

end Go.Proofs.Ytnbmkoapohjnmaa
