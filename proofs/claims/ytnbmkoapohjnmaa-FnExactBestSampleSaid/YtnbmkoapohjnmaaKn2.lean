/- Walks of the reference's functions on widths and on codes that can follow. Conditions: what is known is valid (KnD.Ok) and can be read. -/
import Derived.Test.YtnbmkoapohjnmaaKn1
namespace Go.Proofs.Ytnbmkoapohjnmaa
set_option linter.unusedVariables false
set_option linter.unusedSimpArgs false
open Go.RowKit

/-- The number of binary digits. -/
def needed (n : Nat) : Nat := if h : 1 < n then needed (n / 2) + 1 else 1
  termination_by n
  decreasing_by omega
theorem needed_step {n : Nat} (h : 1 < n) : needed n = needed (n / 2) + 1 := by rw [needed, dif_pos h]
theorem needed_end {n : Nat} (h : ¬ 1 < n) : needed n = 1 := by rw [needed, dif_neg h]
theorem needed_bd (n : Nat) : 1 ≤ needed n ∧ needed n ≤ n + 1 := by
  induction n using Nat.strongRecOn with
  | ind n ih =>
    by_cases h : 1 < n
    · rw [needed_step h]; have := ih (n / 2) (by omega); omega
    · rw [needed_end h]; omega

def RelN (n0 : Nat) (m o : Value) : Prop := ∃ a b : Nat, m = .int .i64 a ∧ o = .int .i64 b ∧ a ≤ n0 ∧ 1 ≤ b ∧ b + needed a = needed n0 + 1

set_option maxRecDepth 100000 in
set_option maxHeartbeats 1000000 in
theorem l1Needed_any (n : Nat) (w : World) (hn : n ≤ 1048576) :
    Calls Try.prog 130  #[.int .i64 n] w fun e w' => e = .returned (.int .i64 (needed n : Nat)) ∧ w = w' := by
  have hnb := (needed_bd n).2
  go_enter Try.func130, Try.ntmps130
  go_wp2
  go_loop [0, 3] (fun m o => RelN n m o) (fun m _ => (intOf m).toNat)
  case atStart => exact ⟨n, 1, rfl, rfl, Nat.le_refl _, Nat.le_refl _, by omega⟩
  case round =>
    obtain ⟨a, b, rfl, rfl, han, hb, he⟩ := hrel
    have hab := (needed_bd a).1
    have HE := Lib.hid he
    have hb2 : b ≤ 1048577 := by omega
    clear he
    by_cases ha : 1 < a
    · have HS := Lib.hid (needed_step ha)
      go_wp2
      go_round
      case rel => exact ⟨a / 2, b + 1, by go_num, by go_num, by omega, by omega, by have := HE.out; have := HS.out; omega⟩
      case measure => simp [intOf]; omega
    · have HS := Lib.hid (needed_end ha)
      go_wp2
      go_ret
      exact ⟨ret_int (by have := HE.out; have := HS.out; omega), rfl⟩

def KnD.width (k : KnD) : Nat := max (k.set.lit.toNat + 1) (needed k.top)
theorem pow_needed (n : Nat) : n < 2 ^ needed n := by
  induction n using Nat.strongRecOn with
  | ind n ih =>
    by_cases h : 1 < n
    · rw [needed_step h, Nat.pow_succ]; have := ih (n / 2) (by omega); omega
    · rw [needed_end h]; omega
theorem needed_le {n m : Nat} (h : n < 2 ^ m) (hm : 1 ≤ m) : needed n ≤ m := by
  induction n using Nat.strongRecOn generalizing m with
  | ind n ih =>
    by_cases h1 : 1 < n
    · rw [needed_step h1]
      obtain ⟨m', rfl⟩ : ∃ m', m = m' + 1 := ⟨m - 1, by omega⟩
      rw [Nat.pow_succ] at h
      have hm' : 1 ≤ m' := by
        rcases Nat.eq_zero_or_pos m' with rfl | hp
        · simp at h; omega
        · exact hp
      have := @ih (n / 2) (by omega) m' (by omega) hm'
      omega
    · rw [needed_end h1]; exact hm
theorem KnD.width_bd {k : KnD} (h : k.Ok) : 2 ≤ k.width ∧ k.width ≤ 10 := by
  obtain ⟨-, ⟨h1, h2⟩, h3, h4⟩ := setOk_bd h.set
  have ht := (KnD.top_bd h).2
  have := h.nums
  have hn : needed k.top ≤ 10 := needed_le (by have : (2 : Nat) ^ 10 = 1024 := rfl; omega) (by omega)
  unfold KnD.width
  omega

set_option maxRecDepth 100000 in
set_option maxHeartbeats 1000000 in
theorem l2Width_any (k : KnD) (v : Value) (lo : Nat) (w : World) (h : k.Ok) (hr : RdP lo w v k.ps) :
    Calls Try.prog 103  #[kV k v] w (Same (.int .i64 (k.width : Nat)) w) := by
  have cG := fun w hr => l2Greatest_any k v lo w h hr
  have cN := fun w hn => l1Needed_any k.top w hn
  obtain ⟨-, ⟨h1, h2⟩, -, -⟩ := setOk_bd h.set
  have hnum := h.nums
  have ht := KnD.top_bd h
  have hnd := needed_bd k.top
  have ht1 := ht.1
  have ht2 := ht.2
  have ht3 := hnum.2.2.1
  obtain ⟨hn1, hn2⟩ := hnd
  clear ht hnum
  have e : Hid (((k.width : Nat) : Int) = max (k.set.lit + 1) ((needed k.top : Nat) : Int)) := by unfold Hid KnD.width; omega
  rw [e.out]
  generalize needed k.top = nd at *
  generalize k.top = tp at *
  have hr' := hr
  obtain ⟨⟨o, l, m⟩, ps, ba, la⟩ := k
  simp only at *
  obtain ⟨a, cap, rfl, -, -, -, -⟩ := hr
  clear h e
  simp only [kV] at *
  go_enter Try.func103, Try.ntmps103
  go_wp2
  refine wp_region_up 9 (by kernel_rfl) (by kernel_rfl) ?_
  simp only [List.take, List.drop]
  repeat (refine wpUp_step (fun K hK => ?_); go_simp; (try simp only [↓IntWalk.iteOmega]); first
    | (refine hK _ _ ?_; clear hK K)
    | (apply stepU_c
       · intro wq hwq; (have hbq := bcell hwq; (repeat (first | refine fills_no (by rfl) ?_ | refine fills_yes (by rfl) (fun vq hvq => ?_))); simp only [List.filter_nil, fills]; unfold upAt; go_simp; (try go_bits); (try simp only [↓IntWalk.iteOmega]); (try (rw [dif_pos (by omega)]; go_simp; try go_bits)); first | exact upOut_value | (apply upOut_call; (go_at_call 131; exact cG _ (hr'.up ((Up.alloc (Up.refl _) _).trans hwq)))) | (apply upOut_eq; (go_at_call 131; exact cG _ (hr'.up ((Up.alloc (Up.refl _) _).trans hwq)))) | (apply upOut_call; (go_at_call 130; exact cN _ (by omega))) | (apply upOut_eq; (go_at_call 130; exact cN _ (by omega))))
       go_simp; refine hK _ _ ?_; clear hK K))
  refine wpUp_nil (fun wq hwq => ?_)
  simp only [fills]
  go_wp2
  all_goals
    go_ret
    refine ⟨ret_int (by first | rfl | omega), ?_⟩
    (repeat (first | exact Up.refl _ | refine Up.alloc ?_ _ | refine Up.drew ?_ | refine Up.set ?_ (by first | exact Nat.le_refl _ | (simp; done) | (simp; omega)) _ | refine Up.trans ?_ (by with_reducible assumption)))

theorem codeOk_inB (c n : Nat) (x : Int) : codeOk c n x = (inB x 0 ((c : Int) - 1) || inB x ((c : Int) + 2) ((c : Int) + 1 + n)) := by
  rw [Bool.eq_iff_iff, codeOk_iff, Bool.or_eq_true, inB_iff, inB_iff]; omega

set_option maxRecDepth 100000 in
set_option maxHeartbeats 1000000 in
theorem l2Code_any (s : SetD) (x : Int) (n : Nat) (w : World) (h : setOk s = true) (hn : n ≤ 1073741824) :
    Calls Try.prog 93  #[setV s, .int .i64 x, .int .i64 n] w (Same (.bool (codeOk (clr s) n x)) w) := by
  have cC := fun w => l1Clear_any s w h
  have cE := fun w => l1End_any s w h
  obtain ⟨hb1, hb2, -, -⟩ := clr_bd h
  have e := Lib.hid (codeOk_inB (clr s) n x)
  rw [e.out]
  generalize clr s = c at *
  clear h e
  obtain ⟨o, l, m⟩ := s
  simp only [setV] at *
  cases h1 : inB x 0 ((c : Int) - 1)
  all_goals
    go_enter Try.func93, Try.ntmps93
    go_wp2
    refine wp_region_up 17 (by kernel_rfl) (by kernel_rfl) ?_
    simp only [List.take, List.drop]
    repeat (refine wpUp_step (fun K hK => ?_); go_simp; (try simp only [↓IntWalk.iteOmega]); first
      | (refine hK _ _ ?_; clear hK K)
      | (apply stepU_c
         · intro wq hwq; (have hbq := bcell hwq; (repeat (first | refine fills_no (by rfl) ?_ | refine fills_yes (by rfl) (fun vq hvq => ?_))); simp only [List.filter_nil, fills]; unfold upAt; go_simp; (try go_bits); (try simp only [↓IntWalk.iteOmega]); (try (rw [dif_pos (by omega)]; go_simp; try go_bits)); first | exact upOut_value | (apply upOut_call; (go_at_call 77; exact cC _)) | (apply upOut_eq; (go_at_call 77; exact cC _)) | (apply upOut_call; (go_at_call 92; exact cE _)) | (apply upOut_eq; (go_at_call 92; exact cE _)) | (apply upOut_call; (go_at_call 41; exact l1In_any _ _ _ _)) | (apply upOut_eq; (go_at_call 41; exact l1In_any _ _ _ _)))
         go_simp; refine hK _ _ ?_; clear hK K))
    refine wpUp_nil (fun wq hwq => ?_)
    simp only [fills]
    go_wp2
    go_ret
    refine ⟨ret_bool (by first | rfl | simp | (simp only [h1]; first | rfl | (congr 1 <;> omega))), ?_⟩
    (repeat (first | exact Up.refl _ | refine Up.alloc ?_ _ | refine Up.drew ?_ | refine Up.set ?_ (by first | exact Nat.le_refl _ | (simp; done) | (simp; omega)) _ | refine Up.trans ?_ (by with_reducible assumption)))

end Go.Proofs.Ytnbmkoapohjnmaa
