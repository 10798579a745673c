/- Walk of the program's ParseBlock. Conditions: the string's length is below the model's bound. -/
import Derived.Test.YtnbmkoapohjnmaaParse1
namespace Go.Proofs.Ytnbmkoapohjnmaa
set_option linter.unusedVariables false
set_option linter.unusedSimpArgs false
open Go.RowKit

theorem headOk_not {s : ByteArray} {k : Nat} (h : headOk s k = false) : parseV s (k : Int) = noBlock := by
  unfold parseV
  rw [if_neg (by omega), show ((k : Int)).toNat = k by omega, if_neg (by unfold parseOk; rw [h]; simp)]
theorem parseV_not {s : ByteArray} {k : Nat} (h : parseOk s k = false) : parseV s (k : Int) = noBlock := by
  unfold parseV
  rw [if_neg (by omega), show ((k : Int)).toNat = k by omega, if_neg (by rw [h]; simp)]
theorem parseV_yes {s : ByteArray} {k : Nat} (h : parseOk s k = true) : parseV s (k : Int) = parsed s k := by
  unfold parseV
  rw [if_neg (by omega), show ((k : Int)).toNat = k by omega, if_pos h]

theorem headOk_yes {s : ByteArray} {k : Nat} (h : headOk s k = true) : k + 10 ≤ s.size ∧ byteAt s k = 181 ∧ byteAt s (k + 1) ≤ 1 := by
  simp only [headOk, Bool.and_eq_true, decide_eq_true_eq, beq_iff_eq] at h
  exact ⟨h.1.1, h.1.2, h.2⟩

end Go.Proofs.Ytnbmkoapohjnmaa
