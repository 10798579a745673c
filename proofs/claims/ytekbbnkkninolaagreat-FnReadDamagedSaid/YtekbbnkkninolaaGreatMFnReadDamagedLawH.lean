/- Texts joined into one: the walks and laws that the last text leans on. Conditions: as each says. -/
import Derived.Test.YtekbbnkkninolaaGreatMFnReadDamagedLawG
import Derived.Test.YtekbbnkkninolaaGreatRn
import Derived.Test.YtekbbnkkninolaaGreatGlen

/- Plain: reading the stream of data gives the data again. Conditions: what is known is valid, the data fits. -/
namespace Go.Proofs.YtekbbnkkninolaaGreat
set_option linter.unusedVariables false
set_option linter.unusedSimpArgs false
open Go Go.RowKit

/-! Bits and numbers. -/
theorem numF_fold (l : List UInt8) : ∀ a : Int, l.foldl (fun (n : Int) b => 2 * n + (b.toNat : Int) - 48) a = a * ((2 ^ l.length : Nat) : Int) + numF l := by
  induction l with
  | nil => intro a; simp [numF]
  | cons b l ih =>
    intro a
    have h0 : numF (b :: l) = l.foldl (fun (n : Int) b => 2 * n + (b.toNat : Int) - 48) (2 * 0 + (b.toNat : Int) - 48) := rfl
    rw [h0, List.foldl_cons, ih, ih, List.length_cons, Nat.pow_succ]
    simp only [Int.natCast_mul]
    generalize ((2 ^ l.length : Nat) : Int) = q
    have e : ((2 : Nat) : Int) = 2 := rfl
    rw [e, show (2 * a + (b.toNat : Int) - 48) * q = 2 * a * q + ((b.toNat : Int) - 48) * q by rw [← Int.add_mul]; congr 1; omega, show a * (q * 2) = 2 * a * q by rw [Int.mul_comm q 2, ← Int.mul_assoc, Int.mul_comm a 2], show (2 * 0 + (b.toNat : Int) - 48) * q = ((b.toNat : Int) - 48) * q by rw [show (2 * 0 + (b.toNat : Int) - 48) = (b.toNat : Int) - 48 by omega]]
    omega
theorem numF_cons (b : UInt8) (l : List UInt8) : numF (b :: l) = ((b.toNat : Int) - 48) * ((2 ^ l.length : Nat) : Int) + numF l := by
  have h0 : numF (b :: l) = l.foldl (fun (n : Int) b => 2 * n + (b.toNat : Int) - 48) (2 * 0 + (b.toNat : Int) - 48) := rfl
  rw [h0, numF_fold, show (2 * 0 + (b.toNat : Int) - 48) = (b.toNat : Int) - 48 by omega]
/-! Codes and their bits. -/
theorem KnD.fol_top {k : KnD} {x : Int} (h : k.Ok) (hf : k.follows x = true) : 0 ≤ x ∧ x ≤ (k.top : Int) := by
  have ht := (KnD.top_bd h).1
  rcases KnD.follows_cases h hf with hc | ⟨hg, hxn, _⟩
  · rw [codeOk_iff] at hc
    have : k.next ≤ k.top + 1 := by unfold KnD.top; split <;> omega
    unfold KnD.next at this; omega
  · unfold KnD.top; rw [if_pos hg]; omega
end Go.Proofs.YtekbbnkkninolaaGreat

