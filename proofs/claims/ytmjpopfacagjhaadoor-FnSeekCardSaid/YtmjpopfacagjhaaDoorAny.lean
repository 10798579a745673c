/- Walks of the reference's functions that look for words. Conditions: what is known is valid (KnD.Ok) and can be read. -/
import Derived.Test.YtmjpopfacagjhaaDoorWord
namespace Go.Proofs.YtmjpopfacagjhaaDoor
set_option linter.unusedVariables false
set_option linter.unusedSimpArgs false
open Go.RowKit

theorem bs_twice (l : List UInt8) : bs (l ++ l.take 1) = bs l ++ (bs l).extract 0 1 := by rw [bs_ext, List.drop_zero, bs_app]

set_option maxRecDepth 100000 in
set_option maxHeartbeats 1000000 in
theorem l2Any_any (k : KnD) (v : Value) (lo : Nat) (x : Int) (w : World) (h : k.Ok) (hr : RdP lo w v k.ps) (hf : k.follows x = true) :
    Calls Tryd.prog 100  #[kV k v, .int .i64 x] w (Same (.string (bs (k.any x))) w) := by
  have cN := fun w hr => l2Next_any k v lo w h hr
  have cW := fun x w hr hx => l2Word_any k v lo x w h hr hx
  have hnb := KnD.next_bd h
  have hr' := hr
  obtain ⟨a, cap, rfl, -, -, -, -⟩ := hr
  by_cases hx : x = k.next
  · have hl : codeOk k.c k.ps.length k.last = true := by
      rcases KnD.follows_cases h hf with hc | ⟨_, _, hl⟩
      · rw [codeOk_iff, hx] at hc; unfold KnD.next at hc; omega
      · exact hl
    have e : Hid (bs (k.any x) = bs (k.word k.last) ++ (bs (k.word k.last)).extract 0 1) := by
      unfold Hid; rw [← bs_twice]; unfold KnD.any; rw [if_pos hx]
    have hp : 1 ≤ (k.word k.last).length := wordP_pos h.ps hl
    have hp2 : (k.word k.last).length ≤ k.ps.length + 1 := wordP_len h.ps hl
    have hp3 := h.nums.2.2.2.1
    have hbl := bs_size (k.word k.last)
    have HL := Lib.hid hl
    have cW' := fun w hr => cW k.last w hr HL.out
    rw [e.out]
    clear h hf hl cW e
    subst hx
    simp only [kV] at *
    generalize k.word k.last = wl at *
    go_enter Tryd.func100, Tryd.ntmps100
    go_wp2_with (first | (go_at_call 98; (with_reducible refine (cN _ (hr'.up (Up.alloc (Up.refl _) _))).mono ?_); rintro e w1 ⟨rfl, U1⟩; have B1 := bcell U1; have Z1 := U1.size; (try simp at Z1); (try rw [Nat.add_one_le_iff] at Z1)) | (go_at_call 106; (with_reducible refine (cW' _ (hr'.up ((Up.alloc (Up.refl _) _).trans U1))).mono ?_); rintro e w2 ⟨rfl, U2⟩; have B2 := bcell U2; have Z2 := U2.size; (try simp at Z2); (try rw [Nat.add_one_le_iff] at Z2)))
    go_ret
    refine ⟨rfl, ?_⟩
    (repeat (first | exact Up.refl _ | refine Up.alloc ?_ _ | refine Up.drew ?_ | refine Up.set ?_ (by first | exact Nat.le_refl _ | (simp; done) | (simp; omega)) _ | refine Up.trans ?_ (by with_reducible assumption)))
  · have e : Hid (k.any x = k.word x) := by unfold Hid KnD.any; rw [if_neg hx]
    have hl : Hid (codeOk k.c k.ps.length x = true) := by
      rcases KnD.follows_cases h hf with hc | ⟨_, hx', _⟩
      · exact hc
      · exact absurd hx' hx
    rw [e.out]
    clear h hf
    simp only [kV] at *
    go_enter Tryd.func100, Tryd.ntmps100
    go_wp2_with (first | (go_at_call 98; (with_reducible refine (cN _ (hr'.up (Up.alloc (Up.refl _) _))).mono ?_); rintro e w1 ⟨rfl, U1⟩; have B1 := bcell U1; have Z1 := U1.size; (try simp at Z1); (try rw [Nat.add_one_le_iff] at Z1)) | (go_at_call 106; (with_reducible refine (cW _ _ (hr'.up ((Up.alloc (Up.refl _) _).trans U1)) hl.out).mono ?_); rintro e w2 ⟨rfl, U2⟩; have B2 := bcell U2; have Z2 := U2.size; (try simp at Z2); (try rw [Nat.add_one_le_iff] at Z2)))
    go_ret
    refine ⟨rfl, ?_⟩
    (repeat (first | exact Up.refl _ | refine Up.alloc ?_ _ | refine Up.drew ?_ | refine Up.set ?_ (by first | exact Nat.le_refl _ | (simp; done) | (simp; omega)) _ | refine Up.trans ?_ (by with_reducible assumption)))

/-- The number of codes with words behind the end code, and which. -/
def KnD.cnt (k : KnD) : Nat := k.top - (k.c + 1)
theorem KnD.cnt_eq (k : KnD) : k.cnt = k.ps.length + if k.grow then 1 else 0 := by
  unfold KnD.cnt KnD.top KnD.next
  split <;> omega
theorem KnD.fol {k : KnD} {i : Nat} (h : i < k.cnt) : k.follows ((k.c : Int) + 2 + i) = true := by
  rw [KnD.cnt_eq] at h
  unfold KnD.follows
  rw [Bool.or_eq_true]
  by_cases hi : i < k.ps.length
  · left; rw [codeOk_iff]; omega
  · right
    cases hg : k.grow
    · rw [hg] at h; simp at h; omega
    · rw [hg] at h
      simp only [if_true] at h
      simp only [Bool.true_and, decide_eq_true_eq]
      unfold KnD.next; omega
def KnD.find (k : KnD) (w : List UInt8) : Int := if w.length = 1 ∧ (w.getD 0 0).toNat < k.c then (w.getD 0 0).toNat else match (List.range k.cnt).find? (fun (i : Nat) => k.any ((k.c : Int) + 2 + i) == w) with
  | some i => (k.c : Int) + 2 + i
  | none => -1
theorem KnD.find_lit {k : KnD} {w : List UInt8} (h : w.length = 1 ∧ (w.getD 0 0).toNat < k.c) : k.find w = (w.getD 0 0).toNat := by unfold KnD.find; rw [if_pos h]
theorem KnD.find_hit {k : KnD} {w : List UInt8} (h : ¬ (w.length = 1 ∧ (w.getD 0 0).toNat < k.c)) {i : Nat} (hi : i < k.cnt) (he : k.any ((k.c : Int) + 2 + i) = w) (hn : ∀ j, j < i → k.any ((k.c : Int) + 2 + j) ≠ w) : k.find w = (k.c : Int) + 2 + i := by
  unfold KnD.find
  rw [if_neg h]
  have : (List.range k.cnt).find? (fun (i : Nat) => k.any ((k.c : Int) + 2 + i) == w) = some i := by
    rw [List.find?_range_eq_some]
    exact ⟨by simpa using he, by simpa using hi, fun j hj => by simpa using hn j hj⟩
  rw [this]
theorem KnD.find_none {k : KnD} {w : List UInt8} (h : ¬ (w.length = 1 ∧ (w.getD 0 0).toNat < k.c)) (hn : ∀ j, j < k.cnt → k.any ((k.c : Int) + 2 + j) ≠ w) : k.find w = -1 := by
  unfold KnD.find
  rw [if_neg h]
  have : (List.range k.cnt).find? (fun (i : Nat) => k.any ((k.c : Int) + 2 + i) == w) = none := by
    rw [List.find?_range_eq_none]
    intro j hj; simpa using hn j hj
  rw [this]

def KnD.longN (k : KnD) (d : List UInt8) : Nat → List UInt8
  | 0 => d.take 1
  | i + 1 => if (k.longN d i).length < (k.any ((k.c : Int) + 2 + i)).length ∧ (k.any ((k.c : Int) + 2 + i)).length ≤ d.length ∧ d.take (k.any ((k.c : Int) + 2 + i)).length = k.any ((k.c : Int) + 2 + i) then k.any ((k.c : Int) + 2 + i) else k.longN d i
def KnD.longest (k : KnD) (d : List UInt8) : List UInt8 := k.longN d k.cnt
theorem KnD.longN_len {k : KnD} (d : List UInt8) (i : Nat) : (k.longN d i).length ≤ d.length := by
  induction i with
  | zero => unfold KnD.longN; rw [List.length_take]; omega
  | succ i ih =>
    unfold KnD.longN
    split
    · next h => exact h.2.1
    · exact ih

def RelF (k : KnD) (v : Value) (s : List UInt8) (w : World) (x : Value) (wr : World) : Prop := ∃ i : Nat, i ≤ k.cnt ∧ x = .int .i64 ((k.c : Int) + 2 + i) ∧ Up w wr ∧ KnAt w.heap.size k v wr ∧ ∀ j, j < i → k.any ((k.c : Int) + 2 + j) ≠ s

theorem str_ne {l : List UInt8} {s : ByteArray} (h : l ≠ s.data.toList) : ((bs l).toList == s.toList) = false := ba_ne fun e => h (by rw [← e, bs_data])
theorem str_eq {l : List UInt8} {s : ByteArray} (h : l = s.data.toList) : bs l = s := by rw [h, bs_self]

set_option maxRecDepth 100000 in
set_option maxHeartbeats 2000000 in
theorem l2Find_any (k : KnD) (v : Value) (lo : Nat) (s : ByteArray) (w : World) (h : k.Ok) (hr : RdP lo w v k.ps) (hs : s.size ≤ 1073741824) :
    Calls Tryd.prog 93  #[kV k v, .string s] w (Same (.int .i64 (k.find s.data.toList)) w) := by
  have cC := fun w => l1Clear_any k.set w h.set
  have cE := fun w => l1End_any k.set w h.set
  have cG := fun w hr => l2Greatest_any k v lo w h hr
  have cA := fun x w hr hx => l2Any_any k v lo x w h hr hx
  have hcnt : k.top = k.cnt + clr k.set + 1 := by have := (KnD.top_bd h).1; unfold KnD.cnt; have : k.c = clr k.set := rfl; omega
  have htop := (KnD.top_bd h).2
  obtain ⟨hb1, hb2, hb3, hb4, hb5⟩ := h.nums
  have ec : k.c = clr k.set := rfl
  have hr' := hr
  have hlen := ba_len s
  obtain ⟨a, cap, rfl, -, -, -, -⟩ := hr
  by_cases h1 : s.size = 1
  · have hu := u8_bd s[0]
    have hg0 : s.data.toList.getD 0 0 = s[0] := by
      rw [List.getD_eq_getElem?_getD, List.getElem?_eq_getElem (by omega)]; rfl
    by_cases h2 : (s[0].toNat : Int) < clr k.set
    · have e : Hid (k.find s.data.toList = s[0].toNat) := by
        unfold Hid
        rw [KnD.find_lit (by rw [hg0, ec]; omega), hg0]
      rw [e.out]
      clear hg0 h e
      simp only [kV] at *
      go_enter Tryd.func93, Tryd.ntmps93
      go_wp2
      refine wp_region_up 12 (by kernel_rfl) (by kernel_rfl) ?_
      simp only [List.take, List.drop]
      repeat (refine wpUp_step (fun K hK => ?_); go_simp; (try simp only [↓IntWalk.iteOmega]); first
        | (refine hK _ _ ?_; clear hK K)
        | (apply stepU_c
           · intro wq hwq; (have hbq := bcell hwq; (repeat (first | refine fills_no (by rfl) ?_ | refine fills_yes (by rfl) (fun vq hvq => ?_))); simp only [List.filter_nil, fills]; unfold upAt; go_simp; (try go_bits); (try simp only [↓IntWalk.iteOmega]); (try (rw [dif_pos (by omega)]; go_simp; try go_bits)); first | exact upOut_value | (apply upOut_call; (go_at_call 60; exact cC _)) | (apply upOut_eq; (go_at_call 60; exact cC _)))
           go_simp; refine hK _ _ ?_; clear hK K))
      refine wpUp_nil (fun wq hwq => ?_)
      simp only [fills]
      go_wp2
      go_ret
      refine ⟨rfl, ?_⟩
      (repeat (first | exact Up.refl _ | refine Up.alloc ?_ _ | refine Up.drew ?_ | refine Up.set ?_ (by first | exact Nat.le_refl _ | (simp; done) | (simp; omega)) _ | refine Up.trans ?_ (by with_reducible assumption)))
    · have HN : Hid (¬ (s.data.toList.length = 1 ∧ (s.data.toList.getD 0 0).toNat < k.c)) := by
        unfold Hid; rw [hg0, ec]; omega
      clear hg0
      clear h
      simp only [kV] at *
      go_enter Tryd.func93, Tryd.ntmps93
      go_wp2
      refine wp_region_up 12 (by kernel_rfl) (by kernel_rfl) ?_
      simp only [List.take, List.drop]
      repeat (refine wpUp_step (fun K hK => ?_); go_simp; (try simp only [↓IntWalk.iteOmega]); first
        | (refine hK _ _ ?_; clear hK K)
        | (apply stepU_c
           · intro wq hwq; (have hbq := bcell hwq; (repeat (first | refine fills_no (by rfl) ?_ | refine fills_yes (by rfl) (fun vq hvq => ?_))); simp only [List.filter_nil, fills]; unfold upAt; go_simp; (try go_bits); (try simp only [↓IntWalk.iteOmega]); (try (rw [dif_pos (by omega)]; go_simp; try go_bits)); first | exact upOut_value | (apply upOut_call; (go_at_call 60; exact cC _)) | (apply upOut_eq; (go_at_call 60; exact cC _)))
           go_simp; refine hK _ _ ?_; clear hK K))
      refine wpUp_nil (fun wq hwq => ?_)
      simp only [fills]
      have BQ := bcell hwq
      go_wp2_with ((go_at_call 85; (with_reducible refine (cE _).mono ?_); rintro e w1 ⟨rfl, U1⟩; have B1 := bcell U1; have Z1 := U1.size; (try simp at Z1); (try rw [Nat.add_one_le_iff] at Z1)))
      go_loopw [5] (fun x wr => RelF k (.slice a k.ps.length cap) s.data.toList w x wr) (fun x _ => k.top + 1 - (intOf x).toNat)
      case atStart => exact ⟨0, Nat.zero_le _, by rw [ec]; go_num, by (repeat (first | exact Up.refl _ | refine Up.alloc ?_ _ | refine Up.drew ?_ | refine Up.set ?_ (by first | exact Nat.le_refl _ | (simp; done) | (simp; omega)) _ | refine Up.trans ?_ (by with_reducible assumption))), box_up (hwq.trans U1) (MapKept.heap_alloc w _).1, fun j hj => absurd hj (Nat.not_lt_zero _)⟩
      case round =>
        obtain ⟨i, hi, rfl, hup, hkn, hall⟩ := hrel
        obtain ⟨b0, b1, b2, b3, b4, b5, b6⟩ := hkn.cells
        have HKN := Lib.hid hkn
        have HA := Lib.hid hall
        clear hkn hall
        by_cases hlt : i < k.cnt
        · have HF := Lib.hid (KnD.fol hlt)
          by_cases he : k.any ((k.c : Int) + 2 + i) = s.data.toList
          · have e : Hid (k.find s.data.toList = (k.c : Int) + 2 + i) := KnD.find_hit HN.out hlt he HA.out
            have cA' := fun w hr => cA _ w hr HF.out
            rw [he, bs_self] at cA'
            rw [e.out]
            simp only [ec] at cA'
            rw [ec]
            clear he e
            go_wp2_with (first | (go_at_call 99; (with_reducible refine (cG _ (hr'.up hup)).mono ?_); rintro e w2 ⟨rfl, U2⟩; have B2 := bcell U2; have Z2 := U2.size; (try simp at Z2); (try rw [Nat.add_one_le_iff] at Z2)) | (go_at_call 100; (with_reducible refine (cA' _ (hr'.up (hup.trans U2))).mono ?_); rintro e w3 ⟨rfl, U3⟩; have B3 := bcell U3; have Z3 := U3.size; (try simp at Z3); (try rw [Nat.add_one_le_iff] at Z3)))
            go_ret
            refine ⟨rfl, ?_⟩
            (repeat (first | exact Up.refl _ | refine Up.alloc ?_ _ | refine Up.drew ?_ | refine Up.set ?_ (by first | exact Nat.le_refl _ | (simp; done) | (simp; omega)) _ | refine Up.trans ?_ (by with_reducible assumption)))
          · have HE := str_ne he
            have HA2 : Hid (∀ j, j < i + 1 → k.any ((k.c : Int) + 2 + j) ≠ s.data.toList) := fun j hj => by
              rcases Nat.lt_or_ge j i with hl | hl
              · exact HA.out j hl
              · have : j = i := by omega
                subst this; exact he
            have cA' := fun w hr => cA _ w hr HF.out
            generalize k.any ((k.c : Int) + 2 + i) = wd at cA' HE
            simp only [ec] at cA'
            clear he
            go_wp2_with (first | (go_at_call 99; (with_reducible refine (cG _ (hr'.up hup)).mono ?_); rintro e w2 ⟨rfl, U2⟩; have B2 := bcell U2; have Z2 := U2.size; (try simp at Z2); (try rw [Nat.add_one_le_iff] at Z2)) | (go_at_call 100; (with_reducible refine (cA' _ (hr'.up (hup.trans U2))).mono ?_); rintro e w3 ⟨rfl, U3⟩; have B3 := bcell U3; have Z3 := U3.size; (try simp at Z3); (try rw [Nat.add_one_le_iff] at Z3)))
            go_roundw
            case rel => exact ⟨i + 1, by omega, by go_num, by (repeat (first | exact Up.refl _ | refine Up.alloc ?_ _ | refine Up.drew ?_ | refine Up.set ?_ (by first | exact Nat.le_refl _ | (simp; done) | (simp; omega)) _ | refine Up.trans ?_ (by with_reducible assumption))), box_up (U2.trans U3) HKN.out, HA2.out⟩
            case measure => simp [intOf]; omega
        · have e : Hid (k.find s.data.toList = -1) := KnD.find_none HN.out fun j hj => HA.out j (by omega)
          rw [e.out]
          go_wp2_with ((go_at_call 99; (with_reducible refine (cG _ (hr'.up hup)).mono ?_); rintro e w2 ⟨rfl, U2⟩; have B2 := bcell U2; have Z2 := U2.size; (try simp at Z2); (try rw [Nat.add_one_le_iff] at Z2)))
          go_ret
          refine ⟨by first | exact ret_int (by rw [e.out]) | exact ret_int rfl | exact ret_int (by decide) | exact ret_int (by simp) | (simp; done), ?_⟩
          (repeat (first | exact Up.refl _ | refine Up.alloc ?_ _ | refine Up.drew ?_ | refine Up.set ?_ (by first | exact Nat.le_refl _ | (simp; done) | (simp; omega)) _ | refine Up.trans ?_ (by with_reducible assumption)))
  · have HN : Hid (¬ (s.data.toList.length = 1 ∧ (s.data.toList.getD 0 0).toNat < k.c)) := by
      unfold Hid; omega
    clear h
    simp only [kV] at *
    have h1' : ((s.size : Int) == 1) = false := by simp; omega
    go_enter Tryd.func93, Tryd.ntmps93
    go_wp2
    refine wp_region_up 12 (by kernel_rfl) (by kernel_rfl) ?_
    simp only [List.take, List.drop]
    repeat (refine wpUp_step (fun K hK => ?_); go_simp; (try simp only [↓IntWalk.iteOmega]); first
      | (refine hK _ _ ?_; clear hK K)
      | (apply stepU_c
         · intro wq hwq; (have hbq := bcell hwq; (repeat (first | refine fills_no (by rfl) ?_ | refine fills_yes (by rfl) (fun vq hvq => ?_))); simp only [List.filter_nil, fills]; unfold upAt; go_simp; (try go_bits); (try simp only [↓IntWalk.iteOmega]); (try (rw [dif_pos (by omega)]; go_simp; try go_bits)); first | exact upOut_value)
         go_simp; refine hK _ _ ?_; clear hK K))
    refine wpUp_nil (fun wq hwq => ?_)
    simp only [fills]
    have BQ := bcell hwq
    go_wp2_with ((go_at_call 85; (with_reducible refine (cE _).mono ?_); rintro e w1 ⟨rfl, U1⟩; have B1 := bcell U1; have Z1 := U1.size; (try simp at Z1); (try rw [Nat.add_one_le_iff] at Z1)))
    go_loopw [5] (fun x wr => RelF k (.slice a k.ps.length cap) s.data.toList w x wr) (fun x _ => k.top + 1 - (intOf x).toNat)
    case atStart => exact ⟨0, Nat.zero_le _, by rw [ec]; go_num, by (repeat (first | exact Up.refl _ | refine Up.alloc ?_ _ | refine Up.drew ?_ | refine Up.set ?_ (by first | exact Nat.le_refl _ | (simp; done) | (simp; omega)) _ | refine Up.trans ?_ (by with_reducible assumption))), box_up (hwq.trans U1) (MapKept.heap_alloc w _).1, fun j hj => absurd hj (Nat.not_lt_zero _)⟩
    case round =>
      obtain ⟨i, hi, rfl, hup, hkn, hall⟩ := hrel
      obtain ⟨b0, b1, b2, b3, b4, b5, b6⟩ := hkn.cells
      have HKN := Lib.hid hkn
      have HA := Lib.hid hall
      clear hkn hall
      by_cases hlt : i < k.cnt
      · have HF := Lib.hid (KnD.fol hlt)
        by_cases he : k.any ((k.c : Int) + 2 + i) = s.data.toList
        · have e : Hid (k.find s.data.toList = (k.c : Int) + 2 + i) := KnD.find_hit HN.out hlt he HA.out
          have cA' := fun w hr => cA _ w hr HF.out
          rw [he, bs_self] at cA'
          rw [e.out]
          simp only [ec] at cA'
          rw [ec]
          clear he e
          go_wp2_with (first | (go_at_call 99; (with_reducible refine (cG _ (hr'.up hup)).mono ?_); rintro e w2 ⟨rfl, U2⟩; have B2 := bcell U2; have Z2 := U2.size; (try simp at Z2); (try rw [Nat.add_one_le_iff] at Z2)) | (go_at_call 100; (with_reducible refine (cA' _ (hr'.up (hup.trans U2))).mono ?_); rintro e w3 ⟨rfl, U3⟩; have B3 := bcell U3; have Z3 := U3.size; (try simp at Z3); (try rw [Nat.add_one_le_iff] at Z3)))
          go_ret
          refine ⟨rfl, ?_⟩
          (repeat (first | exact Up.refl _ | refine Up.alloc ?_ _ | refine Up.drew ?_ | refine Up.set ?_ (by first | exact Nat.le_refl _ | (simp; done) | (simp; omega)) _ | refine Up.trans ?_ (by with_reducible assumption)))
        · have HE := str_ne he
          have HA2 : Hid (∀ j, j < i + 1 → k.any ((k.c : Int) + 2 + j) ≠ s.data.toList) := fun j hj => by
            rcases Nat.lt_or_ge j i with hl | hl
            · exact HA.out j hl
            · have : j = i := by omega
              subst this; exact he
          have cA' := fun w hr => cA _ w hr HF.out
          generalize k.any ((k.c : Int) + 2 + i) = wd at cA' HE
          simp only [ec] at cA'
          clear he
          go_wp2_with (first | (go_at_call 99; (with_reducible refine (cG _ (hr'.up hup)).mono ?_); rintro e w2 ⟨rfl, U2⟩; have B2 := bcell U2; have Z2 := U2.size; (try simp at Z2); (try rw [Nat.add_one_le_iff] at Z2)) | (go_at_call 100; (with_reducible refine (cA' _ (hr'.up (hup.trans U2))).mono ?_); rintro e w3 ⟨rfl, U3⟩; have B3 := bcell U3; have Z3 := U3.size; (try simp at Z3); (try rw [Nat.add_one_le_iff] at Z3)))
          go_roundw
          case rel => exact ⟨i + 1, by omega, by go_num, by (repeat (first | exact Up.refl _ | refine Up.alloc ?_ _ | refine Up.drew ?_ | refine Up.set ?_ (by first | exact Nat.le_refl _ | (simp; done) | (simp; omega)) _ | refine Up.trans ?_ (by with_reducible assumption))), box_up (U2.trans U3) HKN.out, HA2.out⟩
          case measure => simp [intOf]; omega
      · have e : Hid (k.find s.data.toList = -1) := KnD.find_none HN.out fun j hj => HA.out j (by omega)
        rw [e.out]
        go_wp2_with ((go_at_call 99; (with_reducible refine (cG _ (hr'.up hup)).mono ?_); rintro e w2 ⟨rfl, U2⟩; have B2 := bcell U2; have Z2 := U2.size; (try simp at Z2); (try rw [Nat.add_one_le_iff] at Z2)))
        go_ret
        refine ⟨by first | exact ret_int (by rw [e.out]) | exact ret_int rfl | exact ret_int (by decide) | exact ret_int (by simp) | (simp; done), ?_⟩
        (repeat (first | exact Up.refl _ | refine Up.alloc ?_ _ | refine Up.drew ?_ | refine Up.set ?_ (by first | exact Nat.le_refl _ | (simp; done) | (simp; omega)) _ | refine Up.trans ?_ (by with_reducible assumption)))

def RelG (k : KnD) (v : Value) (d : List UInt8) (w : World) (b x : Value) (wr : World) : Prop := ∃ i : Nat, i ≤ k.cnt ∧ x = .int .i64 ((k.c : Int) + 2 + i) ∧ b = .string (bs (k.longN d i)) ∧ Up w wr ∧ KnAt w.heap.size k v wr

theorem KnD.longN_hit {k : KnD} {d w : List UInt8} {i : Nat} (h1 : k.any ((k.c : Int) + 2 + i) = w) (h2 : (k.longN d i).length < w.length) (h3 : w.length ≤ d.length) (h4 : d.take w.length = w) : k.longN d (i + 1) = w := by
  conv => lhs; unfold KnD.longN
  rw [h1, if_pos ⟨h2, h3, h4⟩]
theorem KnD.longN_miss {k : KnD} {d w : List UInt8} {i : Nat} (h1 : k.any ((k.c : Int) + 2 + i) = w) (h : ¬ ((k.longN d i).length < w.length ∧ w.length ≤ d.length ∧ d.take w.length = w)) : k.longN d (i + 1) = k.longN d i := by
  conv => lhs; unfold KnD.longN
  rw [h1, if_neg h]
theorem ext_take (s : ByteArray) (n : Nat) : s.extract 0 n = bs (s.data.toList.take n) := ba_ext (by rw [Lib.extract_data, bs_data, List.drop_zero, Nat.sub_zero])

set_option maxRecDepth 100000 in
set_option maxHeartbeats 2000000 in
theorem l2Longest_any (k : KnD) (v : Value) (lo : Nat) (s : ByteArray) (w : World) (h : k.Ok) (hr : RdP lo w v k.ps) (hs0 : 0 < s.size) (hs : s.size ≤ 1073741824) :
    Calls Tryd.prog 91  #[kV k v, .string s] w (Same (.string (bs (k.longest s.data.toList))) w) := by
  have cE := fun w => l1End_any k.set w h.set
  have cG := fun w hr => l2Greatest_any k v lo w h hr
  have cA := fun x w hr hx => l2Any_any k v lo x w h hr hx
  have hal := fun x hx => KnD.any_len (x := x) h hx
  have hcnt : k.top = k.cnt + clr k.set + 1 := by have := (KnD.top_bd h).1; unfold KnD.cnt; have : k.c = clr k.set := rfl; omega
  have htop := (KnD.top_bd h).2
  obtain ⟨hb1, hb2, hb3, hb4, hb5⟩ := h.nums
  have ec : k.c = clr k.set := rfl
  have hr' := hr
  have hlen := ba_len s
  obtain ⟨a, cap, rfl, -, -, -, -⟩ := hr
  clear h
  simp only [kV] at *
  have HAL := Lib.hid hal
  clear hal
  go_enter Tryd.func91, Tryd.ntmps91
  go_wp2_with ((go_at_call 85; (with_reducible refine (cE _).mono ?_); rintro e w1 ⟨rfl, U1⟩; have B1 := bcell U1; have Z1 := U1.size; (try simp at Z1); (try rw [Nat.add_one_le_iff] at Z1)))
  go_loopw [5, 6] (fun b x wr => RelG k (.slice a k.ps.length cap) s.data.toList w b x wr) (fun _ x _ => k.top + 1 - (intOf x).toNat)
  case atStart => exact ⟨0, Nat.zero_le _, by rw [ec]; go_num, by rw [ext_take]; rfl, by (repeat (first | exact Up.refl _ | refine Up.alloc ?_ _ | refine Up.drew ?_ | refine Up.set ?_ (by first | exact Nat.le_refl _ | (simp; done) | (simp; omega)) _ | refine Up.trans ?_ (by with_reducible assumption))), box_up U1 (MapKept.heap_alloc w _).1⟩
  case round =>
    obtain ⟨i, hi, rfl, rfl, hup, hkn⟩ := hrel
    obtain ⟨b0, b1, b2, b3, b4, b5, b6⟩ := hkn.cells
    have HKN := Lib.hid hkn
    clear hkn
    by_cases hlt : i < k.cnt
    · have HF := Lib.hid (KnD.fol hlt)
      have hwl := HAL.out _ HF.out
      have cA' := fun w hr => cA _ w hr HF.out
      have hbl := KnD.longN_len (k := k) s.data.toList i
      have HMISS := fun h => Lib.hid (KnD.longN_miss (k := k) (d := s.data.toList) (i := i) rfl h)
      have HHIT := fun h2 h3 h4 => Lib.hid (KnD.longN_hit (k := k) (d := s.data.toList) (i := i) rfl h2 h3 h4)
      generalize k.any ((k.c : Int) + 2 + i) = wd at cA' HMISS HHIT hwl
      generalize hbest : k.longN s.data.toList i = best at *
      simp only [ec] at cA'
      have z1 := bs_size wd
      have z2 := bs_size best
      rw [hlen] at hbl HMISS HHIT
      by_cases e1 : best.length < wd.length
      · by_cases e2 : wd.length ≤ s.size
        · by_cases e3 : s.data.toList.take wd.length = wd
          · have HS := HHIT e1 e2 e3
            have HE : Hid (s.extract 0 wd.length = bs wd) := by unfold Hid; rw [ext_take, e3]
            have HE' := HE.out
            clear e3 HHIT HMISS hbest
            go_wp2_with (first | (go_at_call 99; (with_reducible refine (cG _ (hr'.up hup)).mono ?_); rintro e w2 ⟨rfl, U2⟩; have B2 := bcell U2; have Z2 := U2.size; (try simp at Z2); (try rw [Nat.add_one_le_iff] at Z2)) | (go_at_call 100; (with_reducible refine (cA' _ (hr'.up (hup.trans U2))).mono ?_); rintro e w3 ⟨rfl, U3⟩; have B3 := bcell U3; have Z3 := U3.size; (try simp at Z3); (try rw [Nat.add_one_le_iff] at Z3)))
            go_roundw
            case rel => exact ⟨i + 1, by omega, by go_num, by rw [HS.out], by (repeat (first | exact Up.refl _ | refine Up.alloc ?_ _ | refine Up.drew ?_ | refine Up.set ?_ (by first | exact Nat.le_refl _ | (simp; done) | (simp; omega)) _ | refine Up.trans ?_ (by with_reducible assumption))), box_up (U2.trans U3) HKN.out⟩
            case measure => simp [intOf]; omega
          · have HS := HMISS (fun h => e3 h.2.2)
            have HE : ((s.extract 0 wd.length).toList == (bs wd).toList) = false := ba_ne fun e => e3 (by rw [ext_take] at e; exact bs_inj e)
            clear e3 HHIT HMISS
            go_wp2_with (first | (go_at_call 99; (with_reducible refine (cG _ (hr'.up hup)).mono ?_); rintro e w2 ⟨rfl, U2⟩; have B2 := bcell U2; have Z2 := U2.size; (try simp at Z2); (try rw [Nat.add_one_le_iff] at Z2)) | (go_at_call 100; (with_reducible refine (cA' _ (hr'.up (hup.trans U2))).mono ?_); rintro e w3 ⟨rfl, U3⟩; have B3 := bcell U3; have Z3 := U3.size; (try simp at Z3); (try rw [Nat.add_one_le_iff] at Z3)))
            go_roundw
            case rel => exact ⟨i + 1, by omega, by go_num, by rw [HS.out], by (repeat (first | exact Up.refl _ | refine Up.alloc ?_ _ | refine Up.drew ?_ | refine Up.set ?_ (by first | exact Nat.le_refl _ | (simp; done) | (simp; omega)) _ | refine Up.trans ?_ (by with_reducible assumption))), box_up (U2.trans U3) HKN.out⟩
            case measure => simp [intOf]; omega
        · have HS := HMISS (fun h => e2 h.2.1)
          clear HHIT HMISS
          go_wp2_with (first | (go_at_call 99; (with_reducible refine (cG _ (hr'.up hup)).mono ?_); rintro e w2 ⟨rfl, U2⟩; have B2 := bcell U2; have Z2 := U2.size; (try simp at Z2); (try rw [Nat.add_one_le_iff] at Z2)) | (go_at_call 100; (with_reducible refine (cA' _ (hr'.up (hup.trans U2))).mono ?_); rintro e w3 ⟨rfl, U3⟩; have B3 := bcell U3; have Z3 := U3.size; (try simp at Z3); (try rw [Nat.add_one_le_iff] at Z3)))
          go_roundw
          case rel => exact ⟨i + 1, by omega, by go_num, by rw [HS.out], by (repeat (first | exact Up.refl _ | refine Up.alloc ?_ _ | refine Up.drew ?_ | refine Up.set ?_ (by first | exact Nat.le_refl _ | (simp; done) | (simp; omega)) _ | refine Up.trans ?_ (by with_reducible assumption))), box_up (U2.trans U3) HKN.out⟩
          case measure => simp [intOf]; omega
      · have HS := HMISS (fun h => e1 h.1)
        clear HHIT HMISS
        go_wp2_with (first | (go_at_call 99; (with_reducible refine (cG _ (hr'.up hup)).mono ?_); rintro e w2 ⟨rfl, U2⟩; have B2 := bcell U2; have Z2 := U2.size; (try simp at Z2); (try rw [Nat.add_one_le_iff] at Z2)) | (go_at_call 100; (with_reducible refine (cA' _ (hr'.up (hup.trans U2))).mono ?_); rintro e w3 ⟨rfl, U3⟩; have B3 := bcell U3; have Z3 := U3.size; (try simp at Z3); (try rw [Nat.add_one_le_iff] at Z3)))
        go_roundw
        case rel => exact ⟨i + 1, by omega, by go_num, by rw [HS.out], by (repeat (first | exact Up.refl _ | refine Up.alloc ?_ _ | refine Up.drew ?_ | refine Up.set ?_ (by first | exact Nat.le_refl _ | (simp; done) | (simp; omega)) _ | refine Up.trans ?_ (by with_reducible assumption))), box_up (U2.trans U3) HKN.out⟩
        case measure => simp [intOf]; omega
    · have e : i = k.cnt := by omega
      have HE : Hid (k.longest s.data.toList = k.longN s.data.toList i) := by unfold Hid KnD.longest; rw [e]
      rw [HE.out]
      go_wp2_with ((go_at_call 99; (with_reducible refine (cG _ (hr'.up hup)).mono ?_); rintro e w2 ⟨rfl, U2⟩; have B2 := bcell U2; have Z2 := U2.size; (try simp at Z2); (try rw [Nat.add_one_le_iff] at Z2)))
      go_ret
      refine ⟨rfl, ?_⟩
      (repeat (first | exact Up.refl _ | refine Up.alloc ?_ _ | refine Up.drew ?_ | refine Up.set ?_ (by first | exact Nat.le_refl _ | (simp; done) | (simp; omega)) _ | refine Up.trans ?_ (by with_reducible assumption)))

end Go.Proofs.YtmjpopfacagjhaaDoor
