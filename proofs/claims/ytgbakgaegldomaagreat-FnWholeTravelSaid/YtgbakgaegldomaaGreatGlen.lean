/- Plain law: data that fits has no more than 3002 greedy codes. Conditions: what is known is valid, and the data has only literals. -/
import Derived.Test.YtgbakgaegldomaaGreatGw
namespace Go.Proofs.YtgbakgaegldomaaGreat
set_option linter.unusedVariables false
set_option linter.unusedSimpArgs false
open Go Go.RowKit

theorem KnD.cleared_len {k : KnD} (h : k.Ok) : ((k.cleared.ps.length : Nat) : Int) = k.base := by
  have h0 := h.base0; have h1 := h.base1
  show ((k.ps.take k.base.toNat).length : Int) = k.base
  rw [List.length_take]; omega
theorem greedyN_tight : ∀ (n : Nat) (k : KnD) (d : List UInt8), k.Ok → (∀ b ∈ d, b.toNat < k.c) → d.length ≤ n → (k.last = -1 → (k.ps.length : Int) = k.base) →
    2 * (greedyN n k d).length ≤ 3 * d.length + 2 + (if k.last = -1 then 0 else 1) := by
  intro n
  induction n with
  | zero =>
    intro k d hk hl hd hb
    have : d = [] := List.length_eq_zero_iff.1 (by omega)
    subst this
    simp [greedyN]
  | succ n ih =>
    intro k d hk hl hd hb
    by_cases hde : d = []
    · subst hde; rw [greedyN_nil]; simp
    · have hlp := KnD.longest_pos (k := k) hde
      have hll := KnD.longest_le (k := k) d
      obtain ⟨hfw, -⟩ := KnD.find_any hk hde hl
      have hx := KnD.find_bd hk hfw
      rw [greedyN, if_neg hde]
      generalize k.find (k.longest d) = x at *
      generalize (k.longest d).length = n1 at *
      have hok := KnD.after_ok hk hfw
      have hl2 : ∀ b ∈ d.drop n1, b.toNat < (k.after x).c := fun b hb => hl b (List.mem_of_mem_drop hb)
      have hdl : (d.drop n1).length = d.length - n1 := List.length_drop
      have hla : (k.after x).last = x := rfl
      split
      · next hf =>
        have hne : ¬ k.last = -1 := by
          intro e
          have h1 := hf.1
          unfold KnD.full at h1
          simp only [Bool.and_eq_true, decide_eq_true_eq] at h1
          have hg : k.grow = false := by unfold KnD.grow; rw [e]; rfl
          have h2 : (k.after x).ps = k.ps := by unfold KnD.after; rw [hg]; simp
          have h3 := h1.2
          rw [h2] at h3
          have h4 := hb e
          have h5 : (k.after x).base = k.base := rfl
          omega
        have := ih (k.after x).cleared (d.drop n1) (KnD.cleared_ok hok) hl2 (by omega) (fun _ => KnD.cleared_len hok)
        rw [if_pos (show (k.after x).cleared.last = -1 from rfl)] at this
        rw [if_neg hne, List.length_cons, List.length_cons]
        omega
      · next hf =>
        have := ih (k.after x) (d.drop n1) hok hl2 (by omega) (fun e => by omega)
        rw [if_neg (by omega)] at this
        rw [List.length_cons]
        split <;> omega
theorem greedy_tight {k : KnD} {d : List UInt8} (hk : k.Ok) (hl : ∀ b ∈ d, b.toNat < k.c) (hd : d.length ≤ 2000) : (greedy k d).length ≤ 3002 := by
  have h := greedyN_tight d.length k.cleared d (KnD.cleared_ok hk) hl (Nat.le_refl _) (fun _ => KnD.cleared_len hk)
  rw [if_pos (show k.cleared.last = -1 from rfl)] at h
  unfold greedy
  rw [List.length_cons]; omega

end Go.Proofs.YtgbakgaegldomaaGreat
