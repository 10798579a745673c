/- As wp_region_own, but stores, moves, extracts and assignments may stand at the end, each behind all that it needs. Conditions: those of the theorem wp_region_ownf. -/
import Derived.Test.YtiiahjnfbhcgmaaGreatDoorFl
namespace Go.Proofs.YtiiahjnfbhcgmaaGreatDoor
set_option linter.unusedVariables false
set_option linter.unusedSimpArgs false
open Go Go.RowKit

section
variable {P : Program}
theorem wp_region_ownf (n0 j0 : Nat) (row : Option Nat) {id : Nat} {Q : Exit → Act → World → Prop} {a : Act} {w : World} {l : List Oper} (hm : P.follows .mixedOrders = true) (hB : flB l.toArray n0 = true)
    (h : WG P l.toArray w row j0 (fun a' w' => wpList P l.toArray (onlyN Q) (l.drop n0) a' w') (l.take n0) 0 [] a) : (Code.region id l.toArray true).wp P Q a w := by
  have T := flB_text hB
  have hle : n0 ≤ l.length := by simpa using T.le
  obtain ⟨D, hU, hT, hZ⟩ := wpF_text (R := gR row j0) (Kc := gK row j0) (C := gC w row j0) (Z := fun a' w' => wpList P l.toArray (onlyN Q) (l.drop n0) a' w') (a0 := a) (n0 := n0) T (l.take n0) 0 [] a (fun _ => False) (fun _ => undef) (fun _ _ _ => False) (by simp [hle]) (fun j hj => by
    simp only [List.length_take] at hj
    simp [show j < n0 by omega]) ⟨(Desc.refl a (fun _ => undef)).congr (fun i => by simp) (fun _ h => h.elim), fun i hi => absurd hi (Nat.not_lt_zero _), fun m hm => (by cases hm), fun i hi => absurd hi (Nat.not_lt_zero _)⟩
    (fun i hi => absurd hi (Nat.not_lt_zero _)) (fun j o hj => absurd hj (Nat.not_lt_zero _)) h.out
  refine wp_region_any hm (wpAny_gf (R := gR row j0) (Kc := gK row j0) (C := gC w row j0) (I := fun S w' => w.grownBy w' row ∧ (¬ S j0 → Up w w')) (fun S w' j hI hS => ?_) (fun S w1 w2 j hI hS hR => ?_) (fun j w' => ?_) (fun k j w1 w2 hne hR => ?_) (a0 := a) (Q := Q) (Q' := onlyN Q) T (fun _ _ h => h) (fun _ _ _ h => h) onlyN_out hU hT (by simpa using hZ) _ (List.range n0) _ a _ (fun _ => undef) (by simp; omega) (fun i hi _ => List.mem_range.2 hi) (fun i hi => ?_) (by simp) (fun i hi his => by
    have : i < l.length := by simpa using his
    simp [this]) (fun j o ho hj => ?_) ?_ ?_ ?_)
  · unfold gC
    split
    · next e => subst e; exact hI.2 hS
    · exact hI.1
  · unfold gR at hR
    split at hR
    · next e => subst e; exact ⟨grownBy_trans hI.1 hR, fun h => absurd (.inr rfl) h⟩
    · next e => exact ⟨grownBy_up hI.1 hR, fun h => (hI.2 fun h' => h (.inl h')).trans hR⟩
  · unfold gR
    split
    · exact grownBy_refl _ _
    · exact Up.refl _
  · unfold gR at hR
    unfold gK
    split at hR
    · next e => subst e; rw [if_neg (fun e => hne e.symm)]; exact hR
    · split
      · exact hR
      · exact up_grownBy hR _
  · have hin := List.mem_range.1 hi
    have : i < l.length := by omega
    exact ⟨hin, by simp [this]⟩
  · rw [getD_replicate_false] at hj; cases hj
  · exact ⟨up_grownBy (Up.drew (Up.refl w)) _, fun _ => Up.drew (Up.refl w)⟩
  · exact (Desc.refl a (fun _ => undef)).congr (fun i => by rw [getD_replicate_false]; simp) (fun _ h => h.elim)
  · intro i hi; rw [getD_replicate_false] at hi; cases hi
end
end Go.Proofs.YtiiahjnfbhcgmaaGreatDoor
