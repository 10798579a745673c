/- Texts joined into one: Kn1, Kn2, Pr. Conditions: as each says. -/
import Derived.Test.YtmjpopfacagjhaaDoorSets
import Derived.Test.YtmjpopfacagjhaaDoorUg

/- Walks of the reference's small functions on what is known. Conditions: what is known is valid (KnD.Ok) and can be read. -/
namespace Go.Proofs.YtmjpopfacagjhaaDoor
set_option linter.unusedVariables false
set_option linter.unusedSimpArgs false
open Go.RowKit

/-- A slice of pairs that can be read, from the block lo on. -/
def RdP (lo : Nat) (w : World) (v : Value) (ps : List PairD) : Prop := ∃ a cap, v = .slice a ps.length cap ∧ ps.length ≤ cap ∧ cap ≤ maxLen ∧ (a = none → ps.length = 0 ∧ cap = 0) ∧
  (0 < ps.length → ∃ b off, a = some ⟨b, off, none⟩ ∧ lo ≤ b ∧ b < w.heap.size ∧ ∀ i p, ps[i]? = some p → w.cell? ⟨b, off + i * 2, none⟩ = some (.int .i64 p.pre) ∧ w.cell? ⟨b, off + i * 2 + 1, none⟩ = some (.int .i64 p.byt))
theorem RdP.up {lo : Nat} {w w' : World} {v : Value} {ps : List PairD} (h : RdP lo w v ps) (hu : Up w w') : RdP lo w' v ps := by
  obtain ⟨a, cap, h1, h2, h2', h2'', h3⟩ := h
  refine ⟨a, cap, h1, h2, h2', h2'', fun hp => ?_⟩
  obtain ⟨b, off, e1, e2, e4, e5⟩ := h3 hp
  exact ⟨b, off, e1, e2, Nat.lt_of_lt_of_le e4 hu.size, fun i p hi => ⟨(hu.cell (p := ⟨b, _, none⟩) e4).trans (e5 i p hi).1, (hu.cell (p := ⟨b, _, none⟩) e4).trans (e5 i p hi).2⟩⟩
theorem RdP.low {lo lo' : Nat} {w : World} {v : Value} {ps : List PairD} (h : RdP lo w v ps) (hl : lo' ≤ lo) : RdP lo' w v ps := by
  obtain ⟨a, cap, h1, h2, h2', h2'', h3⟩ := h
  refine ⟨a, cap, h1, h2, h2', h2'', fun hp => ?_⟩
  obtain ⟨b, off, e1, e2, e4, e5⟩ := h3 hp
  exact ⟨b, off, e1, Nat.le_trans hl e2, e4, e5⟩
abbrev kV (k : KnD) (v : Value) : Value := .agg #[.int .i64 k.set.ord, .int .i64 k.set.lit, .int .i64 k.set.most, v, .int .i64 k.base, .int .i64 k.last]
/-- What is known lies in the block b. -/
def KnAt (b : Nat) (k : KnD) (v : Value) (w : World) : Prop := w.heap[b]? = some (.cells #[.int .i64 k.set.ord, .int .i64 k.set.lit, .int .i64 k.set.most, v, .int .i64 k.base, .int .i64 k.last] 116)
theorem KnAt.cells {b : Nat} {k : KnD} {v : Value} {w : World} (h : KnAt b k v w) : b < w.heap.size ∧ w.cell? ⟨b, 0, none⟩ = some (.int .i64 k.set.ord) ∧ w.cell? ⟨b, 1, none⟩ = some (.int .i64 k.set.lit) ∧ w.cell? ⟨b, 2, none⟩ = some (.int .i64 k.set.most) ∧ w.cell? ⟨b, 3, none⟩ = some v ∧ w.cell? ⟨b, 4, none⟩ = some (.int .i64 k.base) ∧ w.cell? ⟨b, 5, none⟩ = some (.int .i64 k.last) :=
  ⟨(Array.getElem?_eq_some_iff.1 h).1, box_cell h 0, box_cell h 1, box_cell h 2, box_cell h 3, box_cell h 4, box_cell h 5⟩

theorem KnD.Ok.nums {k : KnD} (h : k.Ok) : 2 ≤ clr k.set ∧ clr k.set ≤ 256 ∧ lastC k.set ≤ 1023 ∧ k.ps.length ≤ 1022 ∧ k.ps.length + clr k.set + 1 ≤ lastC k.set := by
  have h1 := h.c_bd
  have h2 := h.len
  unfold KnD.c at *
  omega

set_option maxRecDepth 100000 in
set_option maxHeartbeats 1000000 in
theorem l2Next_any (k : KnD) (v : Value) (lo : Nat) (w : World) (h : k.Ok) (hr : RdP lo w v k.ps) :
    Calls Tryd.prog 98  #[kV k v] w (Same (.int .i64 (k.next : Nat)) w) := by
  obtain ⟨hb1, hb2, hb3, hb4, hb5⟩ := h.nums
  have cE := fun w => l1End_any k.set w h.set
  have e : Hid ((k.next : Int) = clr k.set + 1 + 1 + k.ps.length) := by unfold Hid KnD.next KnD.c; omega
  rw [e.out]
  obtain ⟨⟨o, l, m⟩, ps, ba, la⟩ := k
  simp only at *
  obtain ⟨a, cap, rfl, -, -, -, -⟩ := hr
  generalize clr ⟨o, l, m⟩ = c at *
  generalize lastC ⟨o, l, m⟩ = lc at *
  clear h
  simp only [kV]
  go_enter Tryd.func98, Tryd.ntmps98
  go_wp2
  refine wp_region_up 8 (by kernel_rfl) (by kernel_rfl) ?_
  simp only [List.take, List.drop]
  repeat (refine wpUp_step (fun K hK => ?_); go_simp; (try simp only [↓IntWalk.iteOmega]); first
    | (refine hK _ _ ?_; clear hK K)
    | (apply stepU_c
       · intro wq hwq; (have hbq := bcell hwq; (repeat (first | refine fills_no (by rfl) ?_ | refine fills_yes (by rfl) (fun vq hvq => ?_))); simp only [List.filter_nil, fills]; unfold upAt; go_simp; (try go_bits); (try simp only [↓IntWalk.iteOmega]); (try (rw [dif_pos (by omega)]; go_simp; try go_bits)); first | exact upOut_value | (apply upOut_call; (go_at_call 85; exact cE _)) | (apply upOut_eq; (go_at_call 85; exact cE _)))
       go_simp; refine hK _ _ ?_; clear hK K))
  refine wpUp_nil (fun wq hwq => ?_)
  simp only [fills]
  go_wp2
  go_ret
  refine ⟨rfl, ?_⟩
  (repeat (first | exact Up.refl _ | refine Up.alloc ?_ _ | refine Up.drew ?_ | refine Up.set ?_ (by first | exact Nat.le_refl _ | (simp; done) | (simp; omega)) _ | refine Up.trans ?_ (by with_reducible assumption)))

theorem KnD.grow_off {k : KnD} (h : k.last = -1) : k.grow = false := by unfold KnD.grow; rw [h]; rfl
theorem KnD.grow_on {k : KnD} (h : k.last ≠ -1) : k.grow = decide (k.next ≤ lastC k.set) := by unfold KnD.grow; rw [decide_eq_true h, Bool.true_and]
theorem KnD.Ok.last0 {k : KnD} (h : k.Ok) (hl : k.last ≠ -1) : 0 ≤ k.last ∧ k.last ≤ 1023 := by
  have h1 := h.last.resolve_left hl
  have h2 := h.c_bd
  have h3 := h.len
  rw [codeOk_iff] at h1
  omega

set_option maxRecDepth 100000 in
set_option maxHeartbeats 1000000 in
theorem l2Grows_any (k : KnD) (v : Value) (lo : Nat) (w : World) (h : k.Ok) (hr : RdP lo w v k.ps) :
    Calls Tryd.prog 101  #[kV k v] w (Same (.bool k.grow) w) := by
  obtain ⟨hb1, hb2, hb3, hb4, hb5⟩ := h.nums
  by_cases hla : k.last = -1
  · rw [KnD.grow_off hla]
    obtain ⟨⟨o, l, m⟩, ps, ba, la⟩ := k
    simp only at hla
    subst hla
    obtain ⟨a, cap, rfl, -, -, -, -⟩ := hr
    clear h
    simp only [kV]
    go_enter Tryd.func101, Tryd.ntmps101
    go_wp2
    refine wp_region_up 12 (by kernel_rfl) (by kernel_rfl) ?_
    simp only [List.take, List.drop]
    repeat (refine wpUp_step (fun K hK => ?_); go_simp; (try simp only [↓IntWalk.iteOmega]); first
      | (refine hK _ _ ?_; clear hK K)
      | (apply stepU_c
         · intro wq hwq; (have hbq := bcell hwq; (repeat (first | refine fills_no (by rfl) ?_ | refine fills_yes (by rfl) (fun vq hvq => ?_))); simp only [List.filter_nil, fills]; unfold upAt; go_simp; (try go_bits); (try simp only [↓IntWalk.iteOmega]); (try (rw [dif_pos (by omega)]; go_simp; try go_bits)); first | exact upOut_value)
         go_simp; refine hK _ _ ?_; clear hK K))
    refine wpUp_nil (fun wq hwq => ?_)
    simp only [fills]
    go_wp2
    go_ret
    refine ⟨rfl, ?_⟩
    (repeat (first | exact Up.refl _ | refine Up.alloc ?_ _ | refine Up.drew ?_ | refine Up.set ?_ (by first | exact Nat.le_refl _ | (simp; done) | (simp; omega)) _ | refine Up.trans ?_ (by with_reducible assumption)))
  · have e := Lib.hid (KnD.grow_on hla)
    have cN := fun w hr => l2Next_any k v lo w h hr
    have cL := fun w => l1Last_any k.set w h.set
    have hl0 := (h.last0 hla).1
    have hnb := KnD.next_bd h
    rw [e.out]
    generalize k.next = nx at *
    generalize lastC k.set = lc at *
    have hr' := hr
    obtain ⟨⟨o, l, m⟩, ps, ba, la⟩ := k
    simp only at *
    obtain ⟨a, cap, rfl, -, -, -, -⟩ := hr
    clear h e
    simp only [kV] at *
    go_enter Tryd.func101, Tryd.ntmps101
    go_wp2
    refine wp_region_up 12 (by kernel_rfl) (by kernel_rfl) ?_
    simp only [List.take, List.drop]
    repeat (refine wpUp_step (fun K hK => ?_); go_simp; (try simp only [↓IntWalk.iteOmega]); first
      | (refine hK _ _ ?_; clear hK K)
      | (apply stepU_c
         · intro wq hwq; (have hbq := bcell hwq; (repeat (first | refine fills_no (by rfl) ?_ | refine fills_yes (by rfl) (fun vq hvq => ?_))); simp only [List.filter_nil, fills]; unfold upAt; go_simp; (try go_bits); (try simp only [↓IntWalk.iteOmega]); (try (rw [dif_pos (by omega)]; go_simp; try go_bits)); first | exact upOut_value | (apply upOut_call; (go_at_call 98; exact cN _ (hr'.up ((Up.alloc (Up.refl _) _).trans hwq)))) | (apply upOut_eq; (go_at_call 98; exact cN _ (hr'.up ((Up.alloc (Up.refl _) _).trans hwq)))) | (apply upOut_call; (go_at_call 84; exact cL _)) | (apply upOut_eq; (go_at_call 84; exact cL _)))
         go_simp; refine hK _ _ ?_; clear hK K))
    refine wpUp_nil (fun wq hwq => ?_)
    simp only [fills]
    go_wp2
    go_ret
    refine ⟨ret_bool (by first | rfl | simp), ?_⟩
    (repeat (first | exact Up.refl _ | refine Up.alloc ?_ _ | refine Up.drew ?_ | refine Up.set ?_ (by first | exact Nat.le_refl _ | (simp; done) | (simp; omega)) _ | refine Up.trans ?_ (by with_reducible assumption)))

set_option maxRecDepth 100000 in
set_option maxHeartbeats 1000000 in
theorem l2Greatest_any (k : KnD) (v : Value) (lo : Nat) (w : World) (h : k.Ok) (hr : RdP lo w v k.ps) :
    Calls Tryd.prog 99  #[kV k v] w (Same (.int .i64 (k.top : Nat)) w) := by
  have cN := fun w hr => l2Next_any k v lo w h hr
  have cG := fun w hr => l2Grows_any k v lo w h hr
  have hnb := KnD.next_bd h
  have hn2 : 2 ≤ k.next := by unfold KnD.next; omega
  cases hg : k.grow
  · have e : Hid (((k.top : Nat) : Int) = (k.next : Int) - 1) := by unfold Hid KnD.top; rw [hg]; simp; omega
    rw [e.out]
    rw [hg] at cG
    generalize k.next = nx at *
    have hr' := hr
    obtain ⟨⟨o, l, m⟩, ps, ba, la⟩ := k
    simp only at *
    obtain ⟨a, cap, rfl, -, -, -, -⟩ := hr
    clear h e hg
    simp only [kV] at *
    go_enter Tryd.func99, Tryd.ntmps99
    go_wp2_with (first | (go_at_call 101; (with_reducible refine (cG _ (hr'.up (Up.alloc (Up.refl _) _))).mono ?_); rintro e w1 ⟨rfl, U1⟩; have B1 := bcell U1; have Z1 := U1.size; (try simp at Z1); (try rw [Nat.add_one_le_iff] at Z1)) | (go_at_call 98; (with_reducible refine (cN _ (hr'.up ((Up.alloc (Up.refl _) _).trans U1))).mono ?_); rintro e w2 ⟨rfl, U2⟩; have B2 := bcell U2; have Z2 := U2.size; (try simp at Z2); (try rw [Nat.add_one_le_iff] at Z2)))
    go_ret
    refine ⟨rfl, ?_⟩
    (repeat (first | exact Up.refl _ | refine Up.alloc ?_ _ | refine Up.drew ?_ | refine Up.set ?_ (by first | exact Nat.le_refl _ | (simp; done) | (simp; omega)) _ | refine Up.trans ?_ (by with_reducible assumption)))
  · have e : Hid (((k.top : Nat) : Int) = (k.next : Int)) := by unfold Hid KnD.top; rw [hg]; simp
    rw [e.out]
    rw [hg] at cG
    generalize k.next = nx at *
    have hr' := hr
    obtain ⟨⟨o, l, m⟩, ps, ba, la⟩ := k
    simp only at *
    obtain ⟨a, cap, rfl, -, -, -, -⟩ := hr
    clear h e hg
    simp only [kV] at *
    go_enter Tryd.func99, Tryd.ntmps99
    go_wp2_with (first | (go_at_call 101; (with_reducible refine (cG _ (hr'.up (Up.alloc (Up.refl _) _))).mono ?_); rintro e w1 ⟨rfl, U1⟩; have B1 := bcell U1; have Z1 := U1.size; (try simp at Z1); (try rw [Nat.add_one_le_iff] at Z1)) | (go_at_call 98; (with_reducible refine (cN _ (hr'.up ((Up.alloc (Up.refl _) _).trans U1))).mono ?_); rintro e w2 ⟨rfl, U2⟩; have B2 := bcell U2; have Z2 := U2.size; (try simp at Z2); (try rw [Nat.add_one_le_iff] at Z2)))
    go_ret
    refine ⟨rfl, ?_⟩
    (repeat (first | exact Up.refl _ | refine Up.alloc ?_ _ | refine Up.drew ?_ | refine Up.set ?_ (by first | exact Nat.le_refl _ | (simp; done) | (simp; omega)) _ | refine Up.trans ?_ (by with_reducible assumption)))

end Go.Proofs.YtmjpopfacagjhaaDoor

/- Walks of the reference's functions on widths and on codes that can follow. Conditions: what is known is valid (KnD.Ok) and can be read. -/
namespace Go.Proofs.YtmjpopfacagjhaaDoor
set_option linter.unusedVariables false
set_option linter.unusedSimpArgs false
open Go.RowKit

/-- The number of binary digits. -/
def needed (n : Nat) : Nat := if h : 1 < n then needed (n / 2) + 1 else 1
  termination_by n
  decreasing_by omega
theorem needed_step {n : Nat} (h : 1 < n) : needed n = needed (n / 2) + 1 := by rw [needed, dif_pos h]
theorem needed_end {n : Nat} (h : ¬ 1 < n) : needed n = 1 := by rw [needed, dif_neg h]
theorem needed_bd (n : Nat) : 1 ≤ needed n ∧ needed n ≤ n + 1 := by
  induction n using Nat.strongRecOn with
  | ind n ih =>
    by_cases h : 1 < n
    · rw [needed_step h]; have := ih (n / 2) (by omega); omega
    · rw [needed_end h]; omega

def RelN (n0 : Nat) (m o : Value) : Prop := ∃ a b : Nat, m = .int .i64 a ∧ o = .int .i64 b ∧ a ≤ n0 ∧ 1 ≤ b ∧ b + needed a = needed n0 + 1

set_option maxRecDepth 100000 in
set_option maxHeartbeats 1000000 in
theorem l1Needed_any (n : Nat) (w : World) (hn : n ≤ 1048576) :
    Calls Tryd.prog 107  #[.int .i64 n] w fun e w' => e = .returned (.int .i64 (needed n : Nat)) ∧ w = w' := by
  have hnb := (needed_bd n).2
  go_enter Tryd.func107, Tryd.ntmps107
  go_wp2
  go_loop [0, 3] (fun m o => RelN n m o) (fun m _ => (intOf m).toNat)
  case atStart => exact ⟨n, 1, rfl, rfl, Nat.le_refl _, Nat.le_refl _, by omega⟩
  case round =>
    obtain ⟨a, b, rfl, rfl, han, hb, he⟩ := hrel
    have hab := (needed_bd a).1
    have HE := Lib.hid he
    have hb2 : b ≤ 1048577 := by omega
    clear he
    by_cases ha : 1 < a
    · have HS := Lib.hid (needed_step ha)
      go_wp2
      go_round
      case rel => exact ⟨a / 2, b + 1, by go_num, by go_num, by omega, by omega, by have := HE.out; have := HS.out; omega⟩
      case measure => simp [intOf]; omega
    · have HS := Lib.hid (needed_end ha)
      go_wp2
      go_ret
      exact ⟨ret_int (by have := HE.out; have := HS.out; omega), rfl⟩

def KnD.width (k : KnD) : Nat := max (k.set.lit.toNat + 1) (needed k.top)
theorem pow_needed (n : Nat) : n < 2 ^ needed n := by
  induction n using Nat.strongRecOn with
  | ind n ih =>
    by_cases h : 1 < n
    · rw [needed_step h, Nat.pow_succ]; have := ih (n / 2) (by omega); omega
    · rw [needed_end h]; omega
theorem needed_le {n m : Nat} (h : n < 2 ^ m) (hm : 1 ≤ m) : needed n ≤ m := by
  induction n using Nat.strongRecOn generalizing m with
  | ind n ih =>
    by_cases h1 : 1 < n
    · rw [needed_step h1]
      obtain ⟨m', rfl⟩ : ∃ m', m = m' + 1 := ⟨m - 1, by omega⟩
      rw [Nat.pow_succ] at h
      have hm' : 1 ≤ m' := by
        rcases Nat.eq_zero_or_pos m' with rfl | hp
        · simp at h; omega
        · exact hp
      have := @ih (n / 2) (by omega) m' (by omega) hm'
      omega
    · rw [needed_end h1]; exact hm
theorem KnD.width_bd {k : KnD} (h : k.Ok) : 2 ≤ k.width ∧ k.width ≤ 10 := by
  obtain ⟨-, ⟨h1, h2⟩, h3, h4⟩ := setOk_bd h.set
  have ht := (KnD.top_bd h).2
  have := h.nums
  have hn : needed k.top ≤ 10 := needed_le (by have : (2 : Nat) ^ 10 = 1024 := rfl; omega) (by omega)
  unfold KnD.width
  omega

set_option maxRecDepth 100000 in
set_option maxHeartbeats 1000000 in
theorem l2Width_any (k : KnD) (v : Value) (lo : Nat) (w : World) (h : k.Ok) (hr : RdP lo w v k.ps) :
    Calls Tryd.prog 103  #[kV k v] w (Same (.int .i64 (k.width : Nat)) w) := by
  have cG := fun w hr => l2Greatest_any k v lo w h hr
  have cN := fun w hn => l1Needed_any k.top w hn
  obtain ⟨-, ⟨h1, h2⟩, -, -⟩ := setOk_bd h.set
  have hnum := h.nums
  have ht := KnD.top_bd h
  have hnd := needed_bd k.top
  have ht1 := ht.1
  have ht2 := ht.2
  have ht3 := hnum.2.2.1
  obtain ⟨hn1, hn2⟩ := hnd
  clear ht hnum
  have e : Hid (((k.width : Nat) : Int) = max (k.set.lit + 1) ((needed k.top : Nat) : Int)) := by unfold Hid KnD.width; omega
  rw [e.out]
  generalize needed k.top = nd at *
  generalize k.top = tp at *
  have hr' := hr
  obtain ⟨⟨o, l, m⟩, ps, ba, la⟩ := k
  simp only at *
  obtain ⟨a, cap, rfl, -, -, -, -⟩ := hr
  clear h e
  simp only [kV] at *
  go_enter Tryd.func103, Tryd.ntmps103
  go_wp2
  refine wp_region_up 9 (by kernel_rfl) (by kernel_rfl) ?_
  simp only [List.take, List.drop]
  repeat (refine wpUp_step (fun K hK => ?_); go_simp; (try simp only [↓IntWalk.iteOmega]); first
    | (refine hK _ _ ?_; clear hK K)
    | (apply stepU_c
       · intro wq hwq; (have hbq := bcell hwq; (repeat (first | refine fills_no (by rfl) ?_ | refine fills_yes (by rfl) (fun vq hvq => ?_))); simp only [List.filter_nil, fills]; unfold upAt; go_simp; (try go_bits); (try simp only [↓IntWalk.iteOmega]); (try (rw [dif_pos (by omega)]; go_simp; try go_bits)); first | exact upOut_value | (apply upOut_call; (go_at_call 99; exact cG _ (hr'.up ((Up.alloc (Up.refl _) _).trans hwq)))) | (apply upOut_eq; (go_at_call 99; exact cG _ (hr'.up ((Up.alloc (Up.refl _) _).trans hwq)))) | (apply upOut_call; (go_at_call 107; exact cN _ (by omega))) | (apply upOut_eq; (go_at_call 107; exact cN _ (by omega))))
       go_simp; refine hK _ _ ?_; clear hK K))
  refine wpUp_nil (fun wq hwq => ?_)
  simp only [fills]
  go_wp2
  all_goals
    go_ret
    refine ⟨ret_int (by first | rfl | omega), ?_⟩
    (repeat (first | exact Up.refl _ | refine Up.alloc ?_ _ | refine Up.drew ?_ | refine Up.set ?_ (by first | exact Nat.le_refl _ | (simp; done) | (simp; omega)) _ | refine Up.trans ?_ (by with_reducible assumption)))

theorem codeOk_inB (c n : Nat) (x : Int) : codeOk c n x = (inB x 0 ((c : Int) - 1) || inB x ((c : Int) + 2) ((c : Int) + 1 + n)) := by
  rw [Bool.eq_iff_iff, codeOk_iff, Bool.or_eq_true, inB_iff, inB_iff]; omega

set_option maxRecDepth 100000 in
set_option maxHeartbeats 1000000 in
theorem l2Code_any (s : SetD) (x : Int) (n : Nat) (w : World) (h : setOk s = true) (hn : n ≤ 1073741824) :
    Calls Tryd.prog 86  #[setV s, .int .i64 x, .int .i64 n] w (Same (.bool (codeOk (clr s) n x)) w) := by
  have cC := fun w => l1Clear_any s w h
  have cE := fun w => l1End_any s w h
  obtain ⟨hb1, hb2, -, -⟩ := clr_bd h
  have e := Lib.hid (codeOk_inB (clr s) n x)
  rw [e.out]
  generalize clr s = c at *
  clear h e
  obtain ⟨o, l, m⟩ := s
  simp only [setV] at *
  cases h1 : inB x 0 ((c : Int) - 1)
  all_goals
    go_enter Tryd.func86, Tryd.ntmps86
    go_wp2
    refine wp_region_up 17 (by kernel_rfl) (by kernel_rfl) ?_
    simp only [List.take, List.drop]
    repeat (refine wpUp_step (fun K hK => ?_); go_simp; (try simp only [↓IntWalk.iteOmega]); first
      | (refine hK _ _ ?_; clear hK K)
      | (apply stepU_c
         · intro wq hwq; (have hbq := bcell hwq; (repeat (first | refine fills_no (by rfl) ?_ | refine fills_yes (by rfl) (fun vq hvq => ?_))); simp only [List.filter_nil, fills]; unfold upAt; go_simp; (try go_bits); (try simp only [↓IntWalk.iteOmega]); (try (rw [dif_pos (by omega)]; go_simp; try go_bits)); first | exact upOut_value | (apply upOut_call; (go_at_call 60; exact cC _)) | (apply upOut_eq; (go_at_call 60; exact cC _)) | (apply upOut_call; (go_at_call 85; exact cE _)) | (apply upOut_eq; (go_at_call 85; exact cE _)) | (apply upOut_call; (go_at_call 27; exact l1In_any _ _ _ _)) | (apply upOut_eq; (go_at_call 27; exact l1In_any _ _ _ _)))
         go_simp; refine hK _ _ ?_; clear hK K))
    refine wpUp_nil (fun wq hwq => ?_)
    simp only [fills]
    go_wp2
    go_ret
    refine ⟨ret_bool (by first | rfl | simp | (simp only [h1]; first | rfl | (congr 1 <;> omega))), ?_⟩
    (repeat (first | exact Up.refl _ | refine Up.alloc ?_ _ | refine Up.drew ?_ | refine Up.set ?_ (by first | exact Nat.le_refl _ | (simp; done) | (simp; omega)) _ | refine Up.trans ?_ (by with_reducible assumption)))

end Go.Proofs.YtmjpopfacagjhaaDoor

/- Rows of pairs: copies of them, and the reference's l2Cleared. Conditions: what is known is valid (KnD.Ok) and can be read. -/
namespace Go.Proofs.YtmjpopfacagjhaaDoor
set_option linter.unusedVariables false
set_option linter.unusedSimpArgs false
open Go Go.RowKit

theorem infoPair : (Tryd.prog.info? 127).map (fun i => (i.zero, i.size, i.bytes)) = some (some (.agg #[.int .i64 0, .int .i64 0]), 2, 16) := by kernel_rfl
def prC (p : PairD) : List Value := [.int .i64 p.pre, .int .i64 p.byt]
def cellsPr (l : List PairD) : List Value := l.flatMap prC
theorem cellsPr_length (l : List PairD) : (cellsPr l).length = l.length * 2 := by
  induction l with
  | nil => rfl
  | cons b l ih => simp only [cellsPr, List.flatMap_cons, List.length_append, List.length_cons] at ih ⊢; simp only [prC, List.length_cons, List.length_nil]; omega
theorem cellsPr_snoc (l : List PairD) (b : PairD) : cellsPr (l ++ [b]) = cellsPr l ++ prC b := by simp [cellsPr]
theorem cellsPr_get (l : List PairD) (i j : Nat) (b : PairD) (hb : l[i]? = some b) (hj : j < 2) : (cellsPr l)[i * 2 + j]? = (prC b)[j]? := by
  induction l generalizing i with
  | nil => simp at hb
  | cons a l ih =>
    have e : cellsPr (a :: l) = prC a ++ cellsPr l := rfl
    rw [e]
    cases i with
    | zero =>
      simp at hb; subst hb
      rw [List.getElem?_append_left (by simp [prC]; omega)]
      simp
    | succ i =>
      rw [List.getElem?_append_right (by simp [prC]; omega)]
      rw [← ih i (by simpa using hb)]
      congr 1
      simp [prC]; omega
theorem prC_one (b : PairD) : ∀ u ∈ prC b, u.oneCell' = true := by
  intro u hu
  simp only [prC, List.mem_cons, List.not_mem_nil, or_false] at hu
  rcases hu with rfl | rfl <;> rfl
theorem cellsPr_one (l : List PairD) : ∀ u ∈ cellsPr l, u.oneCell' = true := by
  intro u hu
  obtain ⟨p, -, hp⟩ := List.mem_flatMap.1 hu
  exact prC_one p u hp
/-- A row of pairs of the call's own. -/
abbrev ownPr (w : World) (base : Nat) (v : Value) (ps : List PairD) : Prop := w.ownsRow base 127 2 v ps.length (cellsPr ps)
theorem RdP.of_own {w : World} {base : Nat} {v : Value} {ps : List PairD} (h : ownPr w base v ps) : RdP base w v ps := by
  rcases ownsRow_read h with ⟨rfl, h2⟩ | ⟨g, cap, rfl, h1, h2, h3, h4, h5⟩
  · exact ⟨none, 0, by rw [h2], by omega, by unfold maxLen; omega, fun _ => ⟨h2, rfl⟩, fun h => by omega⟩
  · refine ⟨some ⟨g, 0, none⟩, cap, rfl, h1, h2, (fun e => by cases e), fun _ => ⟨g, 0, rfl, h3, h4, fun i p hi => ⟨?_, ?_⟩⟩⟩
    · rw [Nat.zero_add]; exact h5 _ _ (cellsPr_get ps i 0 p hi (by omega))
    · rw [Nat.zero_add]; exact h5 _ _ (cellsPr_get ps i 1 p hi (by omega))
theorem RdP.news {lo : Nat} {w : World} {b off n cap : Nat} {ps : List PairD} (h : ∀ i p, ps[i]? = some p → w.cell? ⟨b, off + i * 2, none⟩ = some (.int .i64 p.pre) ∧ w.cell? ⟨b, off + i * 2 + 1, none⟩ = some (.int .i64 p.byt)) :
    ∀ j u, (cellsPr ps)[j]? = some u → w.cell? ((⟨b, off, none⟩ : Addr).add j) = some u := by
  intro j u hu
  have hadd : (⟨b, off, none⟩ : Addr).add j = ⟨b, off + j, none⟩ := by unfold Addr.add; split <;> simp_all
  rw [hadd]
  have hj : j < ps.length * 2 := by rw [← cellsPr_length]; exact (List.getElem?_eq_some_iff.1 hu).1
  obtain ⟨i, r, rfl, hr⟩ : ∃ i r, j = i * 2 + r ∧ r < 2 := ⟨j / 2, j % 2, by omega, by omega⟩
  have hi : i < ps.length := by omega
  rw [cellsPr_get ps i r ps[i] (List.getElem?_eq_getElem hi) hr] at hu
  obtain ⟨h1, h2⟩ := h i _ (List.getElem?_eq_getElem hi)
  rcases (by omega : r = 0 ∨ r = 1) with rfl | rfl
  · simp only [prC, List.getElem?_cons_zero, Option.some.injEq] at hu
    subst hu; exact h1
  · simp only [prC, List.getElem?_cons_succ, List.getElem?_cons_zero, Option.some.injEq] at hu
    subst hu; exact h2

section
variable {P : Program}
theorem upAt_run {o : Oper} {a : Act} {w : World} {D : Value → World → Prop} (s x : Operand) (t : TypeId) (ho : o.op = .call { callee := .builtin .append, args := #[s, x], argTypes := #[t, t] }) {vs vx : Value} (hs : a.eval s = vs) (hx : a.eval x = vx) {v' : Value} {w' : World}
    (hr : (Builtin.append_ #[t, t] o.type #[vs, vx]).run P w = .ok v' w') (hu : Up w w') (hD : D v' w') : upAt P o a w D := by
  unfold upAt execOp
  simp only [ho, resolve, invoke, builtin, Sem.run_bind, Sem.run_pure, Result.andThen_ok, List.map_toArray, List.map_cons, List.map_nil, hs, hx, hr]
  exact ⟨hu, hD⟩
theorem run_append_zero (w : World) (t ty e : TypeId) (i : TypeInfo) (ht : P.underlying t = some (.slice e)) (hi : P.info? e = some i) (g n cap : Nat) (hn : n ≤ cap) (ad : Addr) (c : Nat) :
    (Builtin.append_ #[t, t] ty #[.slice (some ⟨g, 0, none⟩) n cap, .slice (some ad) 0 c]).run P w = .ok (.slice (some ⟨g, 0, none⟩) n cap) w := by
  simp [Builtin.append_, run_underlying ht, sizeOf, typeInfo, hi, Builtin.lenOf, Builtin.firstCells, loadCells, loadCellsFrom, hn, storeCells]
end

/-- An append of pairs that can be read onto an empty row of the call's own. -/
theorem upAt_copy {o : Oper} {a : Act} {w : World} (s x : Operand) (ho : o.op = .call { callee := .builtin .append, args := #[s, x], argTypes := #[114, 114] })
    (base lo : Nat) {vs vx : Value} (hs : a.eval s = vs) (hx : a.eval x = vx) {g : Nat} (hvs : vs = .slice (some ⟨g, 0, none⟩) 0 0) (hown : w.ownsRow base 127 2 vs 0 []) (ps : List PairD) (hr : RdP lo w vx ps) (hl : ps.length ≤ 1048576) (hbase : base ≤ w.heap.size) :
    upAt Tryd.prog o a w (fun v' w' => ownPr w' base v' ps) := by
  obtain ⟨i0, hi, hz0, hz1, hz2⟩ := info_parts infoPair
  subst hvs
  obtain ⟨ad, cap, rfl, hc1, hc2, hc3, hsome⟩ := hr
  cases ad with
  | none =>
    obtain ⟨h1, h2⟩ := hc3 rfl
    have hps : ps = [] := List.length_eq_zero_iff.1 h1
    subst hps
    have hrun := run_append_owned_none (P := Tryd.prog) (w := w) base 114 o.type 127 i0 2 Tryd.underlying114 hi _ 0 [] hown
    rw [h2] at hx
    exact upAt_run s x _ ho hs hx hrun (Up.refl _) hown
  | some ad =>
    by_cases hp : 0 < ps.length
    · obtain ⟨b, off, e1, e2, e3, e4⟩ := hsome hp
      cases e1
      obtain ⟨v', w', hrun, h1, h2⟩ := run_append_new (P := Tryd.prog) base 114 o.type 127 i0 (.agg #[.int .i64 0, .int .i64 0]) 2 16 Tryd.underlying114 hi hz0 hz1 hz2 rfl (by decide) w g 0 0 [] hown ⟨b, off, none⟩ ps.length cap (cellsPr ps) (cellsPr_length ps)
        (RdP.news (lo := lo) (n := 0) (cap := 0) e4) (cellsPr_one ps) (by unfold maxLen; omega) (by omega) hbase (by omega)
      rw [Nat.zero_add, List.nil_append] at h1
      exact upAt_run s x _ ho hs hx hrun h2 h1
    · have hps : ps = [] := List.length_eq_zero_iff.1 (by omega)
      subst hps
      have hrun := run_append_zero (P := Tryd.prog) w 114 o.type 127 i0 Tryd.underlying114 hi g 0 0 (Nat.le_refl _) ad cap
      exact upAt_run s x _ ho hs hx hrun (Up.refl _) hown

/-- An empty slice of pairs, made. -/
def MtP (base : Nat) (v : Value) (w : World) : Prop := ∃ g, v = .slice (some ⟨g, 0, none⟩) 0 0 ∧ w.ownsRow base 127 2 v 0 []
theorem mtP_closed (base : Nat) (v : Value) : UpClosed (MtP base v) := fun w w' ⟨g, h1, h2⟩ hu => ⟨g, h1, ownsRow_up h2 hu⟩
theorem mtP_new {base : Nat} {w : World} (h : base ≤ w.heap.size) : MtP base (.slice (some ⟨w.heap.size, 0, none⟩) 0 0) (w.alloc (.cells #[] 127)) := ⟨_, rfl, World.ownsRow_made _ _ _ h (by unfold maxLen; omega) (by simp)⟩
theorem ownPr_closed (base : Nat) (ps : List PairD) (v : Value) : UpClosed (fun w => ownPr w base v ps) := fun w w' h hu => ownsRow_up h hu
/-- What is known, its pairs a row of the call's own. -/
def KnO (base : Nat) (k : KnD) (u : Value) (w : World) : Prop := ∃ v, u = kV k v ∧ ownPr w base v k.ps
theorem knO_closed (base : Nat) (k : KnD) (u : Value) : UpClosed (KnO base k u) := fun w w' ⟨v, h1, h2⟩ hu => ⟨v, h1, ownsRow_up h2 hu⟩

end Go.Proofs.YtmjpopfacagjhaaDoor
