/- Plain: the words that are known are closed under prefixes, and so the longest word of a text that goes on is that of the text, if that one ends within it (for the writers). Conditions: as each says. -/
import Derived.Test.YtiiahjnfbhcgmaaGreatDoorGw
namespace Go.Proofs.YtiiahjnfbhcgmaaGreatDoor
set_option linter.unusedVariables false
set_option linter.unusedSimpArgs false
open Go.RowKit

/-- A word that is known: one byte, or that of a pair (or of the next one). -/
def KnD.isW (k : KnD) (w : List UInt8) : Prop := w.length = 1 ∨ ∃ j, j < k.cnt ∧ k.any ((k.c : Int) + 2 + j) = w
theorem KnD.any_pair {k : KnD} (h : k.Ok) {j : Nat} (hj : j < k.ps.length) : k.any ((k.c : Int) + 2 + j) = k.word k.ps[j].pre ++ [ub k.ps[j].byt] := by
  rw [KnD.any_word (by rw [codeOk_iff]; omega)]
  exact wordP_pair h.ps hj
theorem KnD.pre_pair {k : KnD} (h : k.Ok) : ∀ (j : Nat), j < k.ps.length → ∀ m, 1 ≤ m → m ≤ (k.any ((k.c : Int) + 2 + j)).length → k.isW ((k.any ((k.c : Int) + 2 + j)).take m) := by
  intro j
  induction j using Nat.strongRecOn with
  | ind j ih =>
    intro hj m h1 hm
    have hcnt : j < k.cnt := by rw [KnD.cnt_eq]; omega
    by_cases hme : m = (k.any ((k.c : Int) + 2 + j)).length
    · exact .inr ⟨j, hcnt, by rw [hme, List.take_length]⟩
    · have ha := KnD.any_pair h hj
      obtain ⟨hp, -, -⟩ := h.ps.get hj
      rw [ha] at hm hme ⊢
      rw [List.length_append] at hm hme
      simp only [List.length_cons, List.length_nil] at hm hme
      rw [List.take_append_of_le_length (by omega)]
      rcases (codeOk_iff.1 hp) with ⟨p0, p1⟩ | ⟨p0, p1⟩
      · have hw : k.word k.ps[j].pre = [ub k.ps[j].pre] := wordP_lit p1
        rw [hw] at hm ⊢
        left
        simp at hm ⊢
        omega
      · obtain ⟨i, hi⟩ : ∃ i : Nat, k.ps[j].pre = (k.c : Int) + 2 + i := ⟨(k.ps[j].pre - ((k.c : Int) + 2)).toNat, by omega⟩
        have hij : i < j := by omega
        have hai : k.any ((k.c : Int) + 2 + i) = k.word ((k.c : Int) + 2 + i) := KnD.any_word (by rw [codeOk_iff]; omega)
        have := ih i hij (by omega) m h1 (by rw [hai, ← hi]; omega)
        rw [hai, ← hi] at this
        exact this
theorem KnD.pre_any {k : KnD} (h : k.Ok) {j : Nat} (hj : j < k.cnt) {m : Nat} (h1 : 1 ≤ m) (hm : m ≤ (k.any ((k.c : Int) + 2 + j)).length) : k.isW ((k.any ((k.c : Int) + 2 + j)).take m) := by
  by_cases hp : j < k.ps.length
  · exact KnD.pre_pair h j hp m h1 hm
  · rw [KnD.cnt_eq] at hj
    have hg : k.grow = true := by
      cases hg : k.grow
      · rw [hg] at hj; simp at hj; omega
      · rfl
    rw [hg] at hj
    simp at hj
    have hjl : j = k.ps.length := by omega
    by_cases hme : m = (k.any ((k.c : Int) + 2 + j)).length
    · exact .inr ⟨j, by rw [KnD.cnt_eq, hg]; simp; omega, by rw [hme, List.take_length]⟩
    · have hn : (k.c : Int) + 2 + j = (k.next : Int) := by unfold KnD.next; omega
      have ha : k.any ((k.c : Int) + 2 + j) = k.word k.last ++ (k.word k.last).take 1 := by
        rw [hn]; unfold KnD.any; rw [if_pos rfl]
      have hlo := h.lastOk hg
      rw [ha] at hm hme ⊢
      rw [List.length_append, List.length_take] at hm hme
      rw [List.take_append_of_le_length (by omega)]
      rcases (codeOk_iff.1 hlo) with ⟨p0, p1⟩ | ⟨p0, p1⟩
      · have hw : k.word k.last = [ub k.last] := wordP_lit p1
        rw [hw] at hm hme ⊢
        left
        simp at hm hme ⊢
        omega
      · obtain ⟨i, hi⟩ : ∃ i : Nat, k.last = (k.c : Int) + 2 + i := ⟨(k.last - ((k.c : Int) + 2)).toNat, by omega⟩
        have hai : k.any ((k.c : Int) + 2 + i) = k.word ((k.c : Int) + 2 + i) := KnD.any_word (by rw [codeOk_iff]; omega)
        have := KnD.pre_pair h i (by omega) m h1 (by rw [hai, ← hi]; omega)
        rw [hai, ← hi] at this
        exact this
/-- No word with which a text begins is longer than the longest. -/
theorem KnD.longN_most {k : KnD} {d : List UInt8} : ∀ (n j : Nat), j < n → (k.any ((k.c : Int) + 2 + j)).length ≤ d.length → d.take (k.any ((k.c : Int) + 2 + j)).length = k.any ((k.c : Int) + 2 + j) → (k.any ((k.c : Int) + 2 + j)).length ≤ (k.longN d n).length := by
  intro n
  induction n with
  | zero => intro j hj; exact absurd hj (Nat.not_lt_zero _)
  | succ n ih =>
    intro j hj h1 h2
    rw [KnD.longN]
    by_cases hjn : j = n
    · subst hjn
      split
      · exact Nat.le_refl _
      · next h => exact Nat.le_of_not_lt fun hlt => h ⟨hlt, h1, h2⟩
    · have := ih j (by omega) h1 h2
      split
      · next h => omega
      · exact this
theorem KnD.longest_isW {k : KnD} {d : List UInt8} (hd : d ≠ []) : k.isW (k.longest d) := by
  unfold KnD.longest
  rcases KnD.longN_cases (k := k) (d := d) k.cnt with h | ⟨j, h1, h2, -, -⟩
  · left
    rw [h, List.length_take]
    cases d with
    | nil => exact absurd rfl hd
    | cons b l => simp
  · exact .inr ⟨j, h1, h2.symm⟩
theorem KnD.isW_le {k : KnD} {d w : List UInt8} (hd : d ≠ []) (hw : k.isW w) (hl : w.length ≤ d.length) (ht : d.take w.length = w) : w.length ≤ (k.longest d).length := by
  rcases hw with h | ⟨j, hj, rfl⟩
  · have := KnD.longest_pos (k := k) hd
    omega
  · exact KnD.longN_most k.cnt j hj hl ht
/-- The longest word of a text that goes on. -/
theorem KnD.longest_more {k : KnD} (h : k.Ok) {d : List UInt8} (e : List UInt8) (hd : d ≠ []) (hn : k.longest d ≠ d) : k.longest (d ++ e) = k.longest d := by
  have hde : d ++ e ≠ [] := by simp [hd]
  have hL := KnD.longest_take (k := k) (d ++ e)
  have hl := KnD.longest_take (k := k) d
  have hle := KnD.longest_le (k := k) d
  have hLe := KnD.longest_le (k := k) (d ++ e)
  have hLp := KnD.longest_pos (k := k) hde
  have h1 : (k.longest d).length ≤ (k.longest (d ++ e)).length := KnD.isW_le hde (KnD.longest_isW hd) (by rw [List.length_append]; omega) (by rw [List.take_append_of_le_length hle]; exact hl)
  by_cases hlt : (k.longest (d ++ e)).length ≤ d.length
  · have hL' : d.take (k.longest (d ++ e)).length = k.longest (d ++ e) := by rw [List.take_append_of_le_length hlt] at hL; exact hL
    have h2 := KnD.isW_le hd (KnD.longest_isW hde) hlt hL'
    have : (k.longest (d ++ e)).length = (k.longest d).length := by omega
    rw [← hL', this, hl]
  · exfalso
    apply hn
    have hdl : d.length ≤ (k.longest (d ++ e)).length := by omega
    have hdt : (k.longest (d ++ e)).take d.length = d := by
      rw [← hL, List.take_take, Nat.min_eq_left hdl, List.take_append_of_le_length (Nat.le_refl _), List.take_length]
    have hW : k.isW d := by
      rcases KnD.longest_isW (k := k) hde with h1 | ⟨j, hj, hje⟩
      · left
        have := List.length_pos_iff.2 hd
        omega
      · have := KnD.pre_any h hj (m := d.length) (List.length_pos_iff.2 hd) (by rw [hje]; exact hdl)
        rw [hje, hdt] at this
        exact this
    have h2 := KnD.isW_le hd hW (Nat.le_refl _) List.take_length
    have : (k.longest d).length = d.length := by omega
    rw [← hl, this, List.take_length]

end Go.Proofs.YtiiahjnfbhcgmaaGreatDoor
