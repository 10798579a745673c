/- Plain: the codes that a writer writes, part by part, are those of the whole text (for the writers). Conditions: what is known is valid, the data has only literals. -/
import Derived.Test.YtiiahjnfbhcgmaaGreatDoorWrp
namespace Go.Proofs.YtiiahjnfbhcgmaaGreatDoor
set_option linter.unusedVariables false
set_option linter.unusedSimpArgs false
open Go.RowKit

/-- What a writer writes of its text: the codes, what is known behind them, the text that has no code yet. -/
def wrC : Nat → KnD → List UInt8 → List Int × KnD × List UInt8
  | 0, k, d => ([], k, d)
  | n + 1, k, d =>
    if d = [] ∨ k.longest d = d then ([], k, d)
    else if (k.after (k.find (k.longest d))).full = true then
      (k.find (k.longest d) :: (k.c : Int) :: (wrC n (k.after (k.find (k.longest d))).cleared (d.drop (k.longest d).length)).1, (wrC n (k.after (k.find (k.longest d))).cleared (d.drop (k.longest d).length)).2)
    else (k.find (k.longest d) :: (wrC n (k.after (k.find (k.longest d))) (d.drop (k.longest d).length)).1, (wrC n (k.after (k.find (k.longest d))) (d.drop (k.longest d).length)).2)
theorem wrC_stop {n : Nat} {k : KnD} {d : List UInt8} (h : d = [] ∨ k.longest d = d) : wrC n k d = ([], k, d) := by
  cases n with
  | zero => rfl
  | succ n => rw [wrC, if_pos h]
/-- What is left has no code yet: it is empty, or a word. -/
theorem wrC_end : ∀ (n : Nat) (k : KnD) (d : List UInt8), d.length ≤ n → k.Ok → (∀ b ∈ d, b.toNat < k.c) →
    (wrC n k d).2.1.Ok ∧ (wrC n k d).2.1.set = k.set ∧ ((wrC n k d).2.2 = [] ∨ (wrC n k d).2.1.longest (wrC n k d).2.2 = (wrC n k d).2.2) ∧ (d ≠ [] → (wrC n k d).2.2 ≠ []) ∧ (∃ p, d = p ++ (wrC n k d).2.2) := by
  intro n
  induction n with
  | zero =>
    intro k d hd hk _
    have : d = [] := List.eq_nil_of_length_eq_zero (by omega)
    subst this
    exact ⟨hk, rfl, .inl rfl, fun h => absurd rfl h, [], rfl⟩
  | succ n ih =>
    intro k d hd hk hl
    by_cases hs : d = [] ∨ k.longest d = d
    · rw [wrC_stop hs]
      exact ⟨hk, rfl, hs, fun h => h, [], rfl⟩
    · have hd0 : d ≠ [] := fun e => hs (.inl e)
      have hp := KnD.longest_pos (k := k) hd0
      have hle := KnD.longest_le (k := k) d
      have hlt : (k.longest d).length < d.length := by
        rcases Nat.lt_or_ge (k.longest d).length d.length with h | h
        · exact h
        · exfalso
          apply hs
          right
          have ht := KnD.longest_take (k := k) d
          rw [show (k.longest d).length = d.length by omega, List.take_length] at ht
          exact ht.symm
      obtain ⟨hf, -⟩ := KnD.find_any hk hd0 hl
      have hak := KnD.after_ok hk hf
      have hr : d.drop (k.longest d).length ≠ [] := fun e => by
        have := congrArg List.length e
        rw [List.length_drop] at this
        simp at this
        omega
      have hl' : ∀ b ∈ d.drop (k.longest d).length, b.toNat < k.c := fun b hb => hl b (List.mem_of_mem_drop hb)
      have hlen : (d.drop (k.longest d).length).length ≤ n := by rw [List.length_drop]; omega
      rw [wrC, if_neg hs]
      by_cases hfu : (k.after (k.find (k.longest d))).full = true
      · rw [if_pos hfu]
        obtain ⟨h1, h2, h3, h4, p, h5⟩ := ih (k.after (k.find (k.longest d))).cleared _ hlen (KnD.cleared_ok hak) hl'
        exact ⟨h1, h2, h3, fun _ => h4 hr, d.take (k.longest d).length ++ p, by
          rw [List.append_assoc, ← h5, List.take_append_drop]⟩
      · rw [if_neg hfu]
        obtain ⟨h1, h2, h3, h4, p, h5⟩ := ih (k.after (k.find (k.longest d))) _ hlen hak hl'
        exact ⟨h1, h2, h3, fun _ => h4 hr, d.take (k.longest d).length ++ p, by
          rw [List.append_assoc, ← h5, List.take_append_drop]⟩
/-- The codes of a text that goes on begin with those that are written. -/
theorem wrC_greedy : ∀ (n : Nat) (k : KnD) (d e : List UInt8) (m : Nat), d.length ≤ n → (d ++ e).length ≤ m → k.Ok → (∀ b ∈ d, b.toNat < k.c) →
    ∃ m', ((wrC n k d).2.2 ++ e).length ≤ m' ∧ greedyN m k (d ++ e) = (wrC n k d).1 ++ greedyN m' (wrC n k d).2.1 ((wrC n k d).2.2 ++ e) := by
  intro n
  induction n with
  | zero =>
    intro k d e m hd hm hk _
    have : d = [] := List.eq_nil_of_length_eq_zero (by omega)
    subst this
    exact ⟨m, hm, rfl⟩
  | succ n ih =>
    intro k d e m hd hm hk hl
    by_cases hs : d = [] ∨ k.longest d = d
    · rw [wrC_stop hs]
      exact ⟨m, hm, rfl⟩
    · have hd0 : d ≠ [] := fun e => hs (.inl e)
      have hp := KnD.longest_pos (k := k) hd0
      have hle := KnD.longest_le (k := k) d
      have hlo := KnD.longest_more hk e hd0 (fun h => hs (.inr h))
      have hlt : (k.longest d).length < d.length := by
        rcases Nat.lt_or_ge (k.longest d).length d.length with h | h
        · exact h
        · exfalso
          apply hs
          right
          have ht := KnD.longest_take (k := k) d
          rw [show (k.longest d).length = d.length by omega, List.take_length] at ht
          exact ht.symm
      obtain ⟨hf, -⟩ := KnD.find_any hk hd0 hl
      have hak := KnD.after_ok hk hf
      have hl' : ∀ b ∈ d.drop (k.longest d).length, b.toNat < k.c := fun b hb => hl b (List.mem_of_mem_drop hb)
      have hlen : (d.drop (k.longest d).length).length ≤ n := by rw [List.length_drop]; omega
      have hdrop : (d ++ e).drop (k.longest d).length = d.drop (k.longest d).length ++ e := by rw [List.drop_append_of_le_length hle]
      have hde : d ++ e ≠ [] := by simp [hd0]
      have hne : d.drop (k.longest d).length ++ e ≠ [] := fun h => by
        have := congrArg List.length h
        rw [List.length_append, List.length_drop] at this
        simp at this
        omega
      obtain ⟨m, rfl⟩ : ∃ q, m = q + 1 := ⟨m - 1, by rw [List.length_append] at hm; omega⟩
      have hm' : (d.drop (k.longest d).length ++ e).length ≤ m := by rw [List.length_append, List.length_drop]; rw [List.length_append] at hm; omega
      rw [wrC, if_neg hs]
      by_cases hfu : (k.after (k.find (k.longest d))).full = true
      · rw [if_pos hfu]
        obtain ⟨m', h1, h2⟩ := ih (k.after (k.find (k.longest d))).cleared _ e m hlen hm' (KnD.cleared_ok hak) hl'
        refine ⟨m', h1, ?_⟩
        rw [greedyN, if_neg hde, hlo, hdrop, if_pos ⟨hfu, hne⟩, h2]
        rfl
      · rw [if_neg hfu]
        obtain ⟨m', h1, h2⟩ := ih (k.after (k.find (k.longest d))) _ e m hlen hm' hak hl'
        refine ⟨m', h1, ?_⟩
        rw [greedyN, if_neg hde, hlo, hdrop, if_neg (fun h => hfu h.1), h2]
        rfl
/-- The codes that close a text. -/
theorem wrC_close {m : Nat} {k : KnD} {d : List UInt8} (h : d = [] ∨ k.longest d = d) (hm : d.length ≤ m) : greedyN m k d = (if d = [] then [] else [k.find d]) ++ [(k.c : Int) + 1] := by
  by_cases hd : d = []
  · subst hd
    rw [greedyN_nil, if_pos rfl]
    rfl
  · rcases h with h | h
    · exact absurd h hd
    · obtain ⟨m, rfl⟩ : ∃ q, m = q + 1 := ⟨m - 1, by have := List.length_pos_iff.2 hd; omega⟩
      rw [greedyN, if_neg hd, h, List.drop_length, if_neg (fun h => h.2 rfl), greedyN_nil, if_neg hd]
      rfl

end Go.Proofs.YtiiahjnfbhcgmaaGreatDoor
