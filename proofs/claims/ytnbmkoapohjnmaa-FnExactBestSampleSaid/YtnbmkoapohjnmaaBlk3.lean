/- Walks of the functions that write a block's bytes. Conditions: the parts of the block fit together. -/
import Derived.Test.YtnbmkoapohjnmaaBlk2
namespace Go.Proofs.Ytnbmkoapohjnmaa
set_option linter.unusedVariables false
set_option linter.unusedSimpArgs false
open Go.RowKit

def inner (n : Int) (r : Bool) (s : Int) (b : ByteArray) : ByteArray := strOfNums [kindB r] ++ two n ++ two s ++ two b.size ++ b
def textB (n : Int) (r : Bool) (s : Int) (b : ByteArray) : ByteArray := strOfNums [181] ++ inner n r s b ++ two (sumOf (inner n r s b))

theorem formB_bd {n : Int} {r : Bool} {s : Int} {b : ByteArray} (h : formB n r s b = true) : (0 ≤ n ∧ n ≤ 39) ∧ (1 ≤ s ∧ s ≤ 64) ∧ b.size ≤ 64 := by
  unfold formB at h
  simp only [Bool.and_eq_true, inB_iff] at h
  refine ⟨h.1.1, h.1.2, ?_⟩
  have h3 := h.2
  cases r
  · simp [inB] at h3; omega
  · simp at h3; omega

/-- What FormatBlock returns. -/
def fmtB (n : Int) (r : Bool) (s : Int) (b : ByteArray) : Value := if formB n r s b then .tuple #[.string (textB n r s b), .bool true] else .tuple #[.string ByteArray.empty, .bool false]

end Go.Proofs.Ytnbmkoapohjnmaa
