/- Plain facts on the longest word and its code; what is known behind the words of a text. Conditions: as each says. -/
import Derived.Test.YtmjpopfacagjhaaDoorAny
namespace Go.Proofs.YtmjpopfacagjhaaDoor
set_option linter.unusedVariables false
set_option linter.unusedSimpArgs false
open Go.RowKit

theorem KnD.longN_cases {k : KnD} {d : List UInt8} (i : Nat) : k.longN d i = d.take 1 ∨ ∃ j, j < i ∧ k.longN d i = k.any ((k.c : Int) + 2 + j) ∧ (k.longN d i).length ≤ d.length ∧ d.take (k.longN d i).length = k.longN d i := by
  induction i with
  | zero => exact .inl rfl
  | succ i ih =>
    by_cases h : (k.longN d i).length < (k.any ((k.c : Int) + 2 + i)).length ∧ (k.any ((k.c : Int) + 2 + i)).length ≤ d.length ∧ d.take (k.any ((k.c : Int) + 2 + i)).length = k.any ((k.c : Int) + 2 + i)
    · have e : k.longN d (i + 1) = k.any ((k.c : Int) + 2 + i) := by rw [KnD.longN, if_pos h]
      rw [e]
      exact .inr ⟨i, by omega, rfl, h.2.1, h.2.2⟩
    · have e : k.longN d (i + 1) = k.longN d i := by rw [KnD.longN, if_neg h]
      rw [e]
      rcases ih with ih | ⟨j, h1, h2⟩
      · exact .inl ih
      · exact .inr ⟨j, by omega, h2⟩
theorem KnD.longest_take {k : KnD} (d : List UInt8) : d.take (k.longest d).length = k.longest d := by
  unfold KnD.longest
  rcases KnD.longN_cases (k := k) (d := d) k.cnt with h | ⟨j, _, _, _, h⟩
  · rw [h, List.length_take]
    cases d with
    | nil => rfl
    | cons b l => simp
  · exact h
theorem KnD.longest_le {k : KnD} (d : List UInt8) : (k.longest d).length ≤ d.length := KnD.longN_len d _
theorem KnD.longN_pos {k : KnD} {d : List UInt8} (hd : d ≠ []) (i : Nat) : 1 ≤ (k.longN d i).length := by
  induction i with
  | zero =>
    unfold KnD.longN
    cases d with
    | nil => exact absurd rfl hd
    | cons b l => simp
  | succ i ih =>
    rw [KnD.longN]
    split
    · next h => omega
    · exact ih
theorem KnD.longest_pos {k : KnD} {d : List UInt8} (hd : d ≠ []) : 1 ≤ (k.longest d).length := KnD.longN_pos hd _
theorem KnD.any_lit {k : KnD} (h : k.Ok) {x : Int} (h0 : 0 ≤ x) (h1 : x < k.c) : k.any x = [ub x] := by
  rw [KnD.any_word (by rw [codeOk_iff]; omega)]
  exact wordP_lit h1
theorem ub_self (b : UInt8) : ub (b.toNat : Int) = b := by
  unfold ub
  simp
/-- The code that is found has the longest word. -/
theorem KnD.find_any {k : KnD} (h : k.Ok) {d : List UInt8} (hd : d ≠ []) (hl : ∀ b ∈ d, b.toNat < k.c) : k.follows (k.find (k.longest d)) = true ∧ k.any (k.find (k.longest d)) = k.longest d := by
  by_cases hc : (k.longest d).length = 1 ∧ ((k.longest d).getD 0 0).toNat < k.c
  · rw [KnD.find_lit hc]
    have h1 : (((k.longest d).getD 0 0).toNat : Int) < k.c := by omega
    refine ⟨?_, ?_⟩
    · unfold KnD.follows
      rw [Bool.or_eq_true]
      left; rw [codeOk_iff]; omega
    · rw [KnD.any_lit h (by omega) h1, ub_self]
      obtain ⟨b, hb⟩ := List.length_eq_one_iff.1 hc.1
      rw [hb]; rfl
  · have hex : ∃ j, j < k.cnt ∧ k.longest d = k.any ((k.c : Int) + 2 + j) := by
      rcases KnD.longN_cases (k := k) (d := d) k.cnt with h1 | ⟨j, h1, h2, _⟩
      · exfalso
        apply hc
        unfold KnD.longest
        rw [h1]
        cases d with
        | nil => exact absurd rfl hd
        | cons b l => exact ⟨by simp, by simpa using hl b (List.mem_cons_self ..)⟩
      · exact ⟨j, h1, h2⟩
    obtain ⟨j, hj, he⟩ := hex
    -- the least one
    have hleast : ∃ i : Nat, i < k.cnt ∧ k.any ((k.c : Int) + 2 + i) = k.longest d ∧ ∀ m : Nat, m < i → k.any ((k.c : Int) + 2 + m) ≠ k.longest d := by
      have : ∀ n : Nat, (∀ m : Nat, m < n → k.any ((k.c : Int) + 2 + m) ≠ k.longest d) ∨ ∃ i : Nat, i < n ∧ k.any ((k.c : Int) + 2 + i) = k.longest d ∧ ∀ m : Nat, m < i → k.any ((k.c : Int) + 2 + m) ≠ k.longest d := by
        intro n
        induction n with
        | zero => exact .inl fun m hm => absurd hm (Nat.not_lt_zero _)
        | succ n ih =>
          rcases ih with ih | ⟨i, h1, h2⟩
          · by_cases hn : k.any ((k.c : Int) + 2 + n) = k.longest d
            · exact .inr ⟨n, by omega, hn, ih⟩
            · refine .inl fun m hm => ?_
              rcases Nat.lt_or_ge m n with hl | hl
              · exact ih m hl
              · have : m = n := by omega
                subst this; exact hn
          · exact .inr ⟨i, by omega, h2⟩
      rcases this k.cnt with h1 | h1
      · exact absurd he.symm (h1 j hj)
      · exact h1
    obtain ⟨i, hi, h1, h2⟩ := hleast
    rw [KnD.find_hit hc hi h1 h2]
    exact ⟨KnD.fol hi, h1⟩
theorem KnD.find_bd {k : KnD} (h : k.Ok) {x : Int} (hf : k.follows x = true) : 0 ≤ x ∧ x ≤ 1024 := by
  have h1 := h.c_bd
  have h2 := h.len
  rcases KnD.follows_cases h hf with hc | ⟨hg, rfl, hl⟩
  · rw [codeOk_iff] at hc; omega
  · have := KnD.next_bd h; omega
/-- What is known behind the first n words of a text. -/
def learnN : Nat → KnD → List UInt8 → KnD
  | 0, k, _ => k
  | n + 1, k, d => if d = [] then k else learnN n (k.after (k.find (k.longest d))) (d.drop (k.longest d).length)
theorem learnN_nil (n : Nat) (k : KnD) : learnN n k [] = k := by cases n <;> simp [learnN]
theorem learnN_step {n : Nat} {k : KnD} {d : List UInt8} (hd : d ≠ []) : learnN (n + 1) k d = learnN n (k.after (k.find (k.longest d))) (d.drop (k.longest d).length) := by rw [learnN, if_neg hd]
theorem learnN_ok : ∀ (n : Nat) {k : KnD} {d : List UInt8}, k.Ok → (∀ b ∈ d, b.toNat < k.c) → (learnN n k d).Ok ∧ (learnN n k d).set = k.set ∧ (learnN n k d).base = k.base
  | 0, k, d, h, _ => ⟨h, rfl, rfl⟩
  | n + 1, k, d, h, hl => by
    by_cases hd : d = []
    · subst hd; rw [learnN_nil]; exact ⟨h, rfl, rfl⟩
    · rw [learnN_step hd]
      exact learnN_ok n (KnD.after_ok h (KnD.find_any h hd hl).1) (fun b hb => hl b (List.mem_of_mem_drop hb))
/-- What is known behind the words of a text, as a start. -/
def learnK (k : KnD) (d : List UInt8) : KnD := ⟨k.set, (learnN d.length k.cleared d).ps, (learnN d.length k.cleared d).ps.length, -1⟩
theorem learnK_ok {k : KnD} {d : List UInt8} (h : k.Ok) (hl : ∀ b ∈ d, b.toNat < k.c) : (learnK k d).Ok := by
  obtain ⟨h1, h2, h3⟩ := learnN_ok d.length (KnD.cleared_ok h) (d := d) hl
  have e : (learnN d.length k.cleared d).c = k.c := by unfold KnD.c; rw [h2]; rfl
  have hp := h1.ps
  have hn := h1.len
  rw [e] at hp hn
  rw [h2] at hn
  exact ⟨h.set, hp, hn, by unfold learnK; simp, by unfold learnK; simp, .inl rfl⟩
/-- What is known at first. -/
def startK (s : SetD) : KnD := ⟨s, [], 0, -1⟩
theorem startK_ok {s : SetD} (h : setOk s = true) : (startK s).Ok := by
  have := clr_bd h
  exact ⟨h, prsOk_nil _, by show 0 + clr s + 1 ≤ lastC s; omega, Int.le_refl _, Int.le_refl _, .inl rfl⟩

end Go.Proofs.YtmjpopfacagjhaaDoor
