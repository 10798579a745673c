/- Plain law: following codes that can follow only adds data. Conditions: as each says. -/
import Derived.Test.YtiiahjnfbhcgmaaGreatDoorWk
namespace Go.Proofs.YtiiahjnfbhcgmaaGreatDoor
set_option linter.unusedVariables false
set_option linter.unusedSimpArgs false
open Go Go.RowKit

theorem walkN_pre : ∀ (xs : List Int) (k : KnD) (ws : List Int) (d : List UInt8), (walkN k xs ws d).ok = true → d.length ≤ (walkN k xs ws d).data.length := by
  intro xs
  induction xs with
  | nil => intro k ws d h; exact Nat.le_refl _
  | cons x xs ih =>
    intro k ws d h
    rw [walkN] at h ⊢
    split at h
    · next h1 => rw [if_pos h1]; exact Nat.le_refl _
    · next h1 =>
      rw [if_neg h1]
      split at h
      · next h2 => rw [if_pos h2]; exact ih _ _ _ h
      · next h2 =>
        rw [if_neg h2]
        split at h
        · cases h
        · next h3 =>
          rw [if_neg h3]
          have := ih _ _ _ h
          rw [List.length_append] at this; omega
/-- A code that can follow, and what is left to follow. -/
theorem walkN_ok {k : KnD} {x : Int} {xs ws : List Int} {d : List UInt8} {T : WkR} (h : walkN k (x :: xs) ws d = T) (hT : T.ok = true) :
    (x = (k.c : Int) + 1 ∧ xs = [] ∧ T = ⟨ws ++ [(k.width : Int)], d, true⟩) ∨ (x = (k.c : Int) ∧ walkN k.cleared xs (ws ++ [(k.width : Int)]) d = T) ∨
    (x ≠ (k.c : Int) + 1 ∧ x ≠ (k.c : Int) ∧ k.follows x = true ∧ walkN (k.after x) xs (ws ++ [(k.width : Int)]) (d ++ k.any x) = T ∧ d.length + (k.any x).length ≤ T.data.length) := by
  by_cases h1 : x = (k.c : Int) + 1
  · rw [walkN_end h1] at h
    subst h
    have : xs = [] := by simpa using hT
    exact .inl ⟨h1, this, by subst this; rfl⟩
  · by_cases h2 : x = (k.c : Int)
    · rw [walkN_clear h2] at h
      exact .inr (.inl ⟨h2, h⟩)
    · by_cases h3 : k.follows x = false ∨ 2000 < d.length
      · rw [walkN_bad h1 h2 h3] at h
        subst h; cases hT
      · have h4 : k.follows x = true := by
          cases e : k.follows x
          · exact absurd (.inl e) h3
          · rfl
        rw [walkN_word h1 h2 h4 (by omega)] at h
        refine .inr (.inr ⟨h1, h2, h4, h, ?_⟩)
        have := walkN_pre xs (k.after x) (ws ++ [(k.width : Int)]) (d ++ k.any x) (by rw [h]; exact hT)
        rw [h, List.length_append] at this
        exact this

end Go.Proofs.YtiiahjnfbhcgmaaGreatDoor
