/- Texts joined into one: the walks and laws that the last text leans on. Conditions: as each says. -/
import Derived.Test.YtgbakgaegldomaaGreatMFnWriterKnownLawN
import Derived.Test.YtgbakgaegldomaaGreatMFnWriterKnownLawK
import Derived.Test.YtgbakgaegldomaaGreatMFnWriterKnownLawM

set_option linter.unusedVariables false
set_option linter.unusedSimpArgs false
/- Plain: the words that are known are closed under prefixes, and so the longest word of a text that goes on is that of the text, if that one ends within it (for the writers). Conditions: as each says. -/
namespace Go.Proofs.YtgbakgaegldomaaGreat
open Go.RowKit
def KnD.isW (k : KnD) (w : List UInt8) : Prop := w.length = 1 ∨ ∃ j, j < k.cnt ∧ k.any ((k.c : Int) + 2 + j) = w
theorem KnD.any_pair {k : KnD} (h : k.Ok) {j : Nat} (hj : j < k.ps.length) : k.any ((k.c : Int) + 2 + j) = k.word k.ps[j].pre ++ [ub k.ps[j].byt] := by
  rw [KnD.any_word (by rw [codeOk_iff]; omega)]
  exact wordP_pair h.ps hj
theorem KnD.pre_pair {k : KnD} (h : k.Ok) : ∀ (j : Nat), j < k.ps.length → ∀ m, 1 ≤ m → m ≤ (k.any ((k.c : Int) + 2 + j)).length → k.isW ((k.any ((k.c : Int) + 2 + j)).take m) := by
  intro j
  induction j using Nat.strongRecOn with
  | ind j ih =>
    intro hj m h1 hm
    have hcnt : j < k.cnt := by rw [KnD.cnt_eq]; omega
    by_cases hme : m = (k.any ((k.c : Int) + 2 + j)).length
    · exact .inr ⟨j, hcnt, by rw [hme, List.take_length]⟩
    · have ha := KnD.any_pair h hj
      obtain ⟨hp, -, -⟩ := h.ps.get hj
      rw [ha] at hm hme ⊢
      rw [List.length_append] at hm hme
      simp only [List.length_cons, List.length_nil] at hm hme
      rw [List.take_append_of_le_length (by omega)]
      rcases (codeOk_iff.1 hp) with ⟨p0, p1⟩ | ⟨p0, p1⟩
      · have hw : k.word k.ps[j].pre = [ub k.ps[j].pre] := wordP_lit p1
        rw [hw] at hm ⊢
        left
        simp at hm ⊢
        omega
      · obtain ⟨i, hi⟩ : ∃ i : Nat, k.ps[j].pre = (k.c : Int) + 2 + i := ⟨(k.ps[j].pre - ((k.c : Int) + 2)).toNat, by omega⟩
        have hij : i < j := by omega
        have hai : k.any ((k.c : Int) + 2 + i) = k.word ((k.c : Int) + 2 + i) := KnD.any_word (by rw [codeOk_iff]; omega)
        have := ih i hij (by omega) m h1 (by rw [hai, ← hi]; omega)
        rw [hai, ← hi] at this
        exact this
theorem KnD.pre_any {k : KnD} (h : k.Ok) {j : Nat} (hj : j < k.cnt) {m : Nat} (h1 : 1 ≤ m) (hm : m ≤ (k.any ((k.c : Int) + 2 + j)).length) : k.isW ((k.any ((k.c : Int) + 2 + j)).take m) := by
  by_cases hp : j < k.ps.length
  · exact KnD.pre_pair h j hp m h1 hm
  · rw [KnD.cnt_eq] at hj
    have hg : k.grow = true := by
      cases hg : k.grow
      · rw [hg] at hj; simp at hj; omega
      · rfl
    rw [hg] at hj
    simp at hj
    have hjl : j = k.ps.length := by omega
    by_cases hme : m = (k.any ((k.c : Int) + 2 + j)).length
    · exact .inr ⟨j, by rw [KnD.cnt_eq, hg]; simp; omega, by rw [hme, List.take_length]⟩
    · have hn : (k.c : Int) + 2 + j = (k.next : Int) := by unfold KnD.next; omega
      have ha : k.any ((k.c : Int) + 2 + j) = k.word k.last ++ (k.word k.last).take 1 := by
        rw [hn]; unfold KnD.any; rw [if_pos rfl]
      have hlo := h.lastOk hg
      rw [ha] at hm hme ⊢
      rw [List.length_append, List.length_take] at hm hme
      rw [List.take_append_of_le_length (by omega)]
      rcases (codeOk_iff.1 hlo) with ⟨p0, p1⟩ | ⟨p0, p1⟩
      · have hw : k.word k.last = [ub k.last] := wordP_lit p1
        rw [hw] at hm hme ⊢
        left
        simp at hm hme ⊢
        omega
      · obtain ⟨i, hi⟩ : ∃ i : Nat, k.last = (k.c : Int) + 2 + i := ⟨(k.last - ((k.c : Int) + 2)).toNat, by omega⟩
        have hai : k.any ((k.c : Int) + 2 + i) = k.word ((k.c : Int) + 2 + i) := KnD.any_word (by rw [codeOk_iff]; omega)
        have := KnD.pre_pair h i (by omega) m h1 (by rw [hai, ← hi]; omega)
        rw [hai, ← hi] at this
        exact this
theorem KnD.longN_most {k : KnD} {d : List UInt8} : ∀ (n j : Nat), j < n → (k.any ((k.c : Int) + 2 + j)).length ≤ d.length → d.take (k.any ((k.c : Int) + 2 + j)).length = k.any ((k.c : Int) + 2 + j) → (k.any ((k.c : Int) + 2 + j)).length ≤ (k.longN d n).length := by
  intro n
  induction n with
  | zero => intro j hj; exact absurd hj (Nat.not_lt_zero _)
  | succ n ih =>
    intro j hj h1 h2
    rw [KnD.longN]
    by_cases hjn : j = n
    · subst hjn
      split
      · exact Nat.le_refl _
      · next h => exact Nat.le_of_not_lt fun hlt => h ⟨hlt, h1, h2⟩
    · have := ih j (by omega) h1 h2
      split
      · next h => omega
      · exact this
theorem KnD.longest_isW {k : KnD} {d : List UInt8} (hd : d ≠ []) : k.isW (k.longest d) := by
  unfold KnD.longest
  rcases KnD.longN_cases (k := k) (d := d) k.cnt with h | ⟨j, h1, h2, -, -⟩
  · left
    rw [h, List.length_take]
    cases d with
    | nil => exact absurd rfl hd
    | cons b l => simp
  · exact .inr ⟨j, h1, h2.symm⟩
theorem KnD.isW_le {k : KnD} {d w : List UInt8} (hd : d ≠ []) (hw : k.isW w) (hl : w.length ≤ d.length) (ht : d.take w.length = w) : w.length ≤ (k.longest d).length := by
  rcases hw with h | ⟨j, hj, rfl⟩
  · have := KnD.longest_pos (k := k) hd
    omega
  · exact KnD.longN_most k.cnt j hj hl ht
theorem KnD.longest_more {k : KnD} (h : k.Ok) {d : List UInt8} (e : List UInt8) (hd : d ≠ []) (hn : k.longest d ≠ d) : k.longest (d ++ e) = k.longest d := by
  have hde : d ++ e ≠ [] := by simp [hd]
  have hL := KnD.longest_take (k := k) (d ++ e)
  have hl := KnD.longest_take (k := k) d
  have hle := KnD.longest_le (k := k) d
  have hLe := KnD.longest_le (k := k) (d ++ e)
  have hLp := KnD.longest_pos (k := k) hde
  have h1 : (k.longest d).length ≤ (k.longest (d ++ e)).length := KnD.isW_le hde (KnD.longest_isW hd) (by rw [List.length_append]; omega) (by rw [List.take_append_of_le_length hle]; exact hl)
  by_cases hlt : (k.longest (d ++ e)).length ≤ d.length
  · have hL' : d.take (k.longest (d ++ e)).length = k.longest (d ++ e) := by rw [List.take_append_of_le_length hlt] at hL; exact hL
    have h2 := KnD.isW_le hd (KnD.longest_isW hde) hlt hL'
    have : (k.longest (d ++ e)).length = (k.longest d).length := by omega
    rw [← hL', this, hl]
  · exfalso
    apply hn
    have hdl : d.length ≤ (k.longest (d ++ e)).length := by omega
    have hdt : (k.longest (d ++ e)).take d.length = d := by
      rw [← hL, List.take_take, Nat.min_eq_left hdl, List.take_append_of_le_length (Nat.le_refl _), List.take_length]
    have hW : k.isW d := by
      rcases KnD.longest_isW (k := k) hde with h1 | ⟨j, hj, hje⟩
      · left
        have := List.length_pos_iff.2 hd
        omega
      · have := KnD.pre_any h hj (m := d.length) (List.length_pos_iff.2 hd) (by rw [hje]; exact hdl)
        rw [hje, hdt] at this
        exact this
    have h2 := KnD.isW_le hd hW (Nat.le_refl _) List.take_length
    have : (k.longest d).length = d.length := by omega
    rw [← hl, this, List.take_length]
end Go.Proofs.YtgbakgaegldomaaGreat

/- Plain: the codes that a writer writes, part by part, are those of the whole text (for the writers). Conditions: what is known is valid, the data has only literals. -/
namespace Go.Proofs.YtgbakgaegldomaaGreat
open Go.RowKit
def wrC : Nat → KnD → List UInt8 → List Int × KnD × List UInt8
  | 0, k, d => ([], k, d)
  | n + 1, k, d =>
    if d = [] ∨ k.longest d = d then ([], k, d)
    else if (k.after (k.find (k.longest d))).full = true then
      (k.find (k.longest d) :: (k.c : Int) :: (wrC n (k.after (k.find (k.longest d))).cleared (d.drop (k.longest d).length)).1, (wrC n (k.after (k.find (k.longest d))).cleared (d.drop (k.longest d).length)).2)
    else (k.find (k.longest d) :: (wrC n (k.after (k.find (k.longest d))) (d.drop (k.longest d).length)).1, (wrC n (k.after (k.find (k.longest d))) (d.drop (k.longest d).length)).2)
theorem wrC_stop {n : Nat} {k : KnD} {d : List UInt8} (h : d = [] ∨ k.longest d = d) : wrC n k d = ([], k, d) := by
  cases n with
  | zero => rfl
  | succ n => rw [wrC, if_pos h]
theorem wrC_end : ∀ (n : Nat) (k : KnD) (d : List UInt8), d.length ≤ n → k.Ok → (∀ b ∈ d, b.toNat < k.c) →
    (wrC n k d).2.1.Ok ∧ (wrC n k d).2.1.set = k.set ∧ ((wrC n k d).2.2 = [] ∨ (wrC n k d).2.1.longest (wrC n k d).2.2 = (wrC n k d).2.2) ∧ (d ≠ [] → (wrC n k d).2.2 ≠ []) ∧ (∃ p, d = p ++ (wrC n k d).2.2) := by
  intro n
  induction n with
  | zero =>
    intro k d hd hk _
    have : d = [] := List.eq_nil_of_length_eq_zero (by omega)
    subst this
    exact ⟨hk, rfl, .inl rfl, fun h => absurd rfl h, [], rfl⟩
  | succ n ih =>
    intro k d hd hk hl
    by_cases hs : d = [] ∨ k.longest d = d
    · rw [wrC_stop hs]
      exact ⟨hk, rfl, hs, fun h => h, [], rfl⟩
    · have hd0 : d ≠ [] := fun e => hs (.inl e)
      have hp := KnD.longest_pos (k := k) hd0
      have hle := KnD.longest_le (k := k) d
      have hlt : (k.longest d).length < d.length := by
        rcases Nat.lt_or_ge (k.longest d).length d.length with h | h
        · exact h
        · exfalso
          apply hs
          right
          have ht := KnD.longest_take (k := k) d
          rw [show (k.longest d).length = d.length by omega, List.take_length] at ht
          exact ht.symm
      obtain ⟨hf, -⟩ := KnD.find_any hk hd0 hl
      have hak := KnD.after_ok hk hf
      have hr : d.drop (k.longest d).length ≠ [] := fun e => by
        have := congrArg List.length e
        rw [List.length_drop] at this
        simp at this
        omega
      have hl' : ∀ b ∈ d.drop (k.longest d).length, b.toNat < k.c := fun b hb => hl b (List.mem_of_mem_drop hb)
      have hlen : (d.drop (k.longest d).length).length ≤ n := by rw [List.length_drop]; omega
      rw [wrC, if_neg hs]
      by_cases hfu : (k.after (k.find (k.longest d))).full = true
      · rw [if_pos hfu]
        obtain ⟨h1, h2, h3, h4, p, h5⟩ := ih (k.after (k.find (k.longest d))).cleared _ hlen (KnD.cleared_ok hak) hl'
        exact ⟨h1, h2, h3, fun _ => h4 hr, d.take (k.longest d).length ++ p, by
          rw [List.append_assoc, ← h5, List.take_append_drop]⟩
      · rw [if_neg hfu]
        obtain ⟨h1, h2, h3, h4, p, h5⟩ := ih (k.after (k.find (k.longest d))) _ hlen hak hl'
        exact ⟨h1, h2, h3, fun _ => h4 hr, d.take (k.longest d).length ++ p, by
          rw [List.append_assoc, ← h5, List.take_append_drop]⟩
theorem wrC_greedy : ∀ (n : Nat) (k : KnD) (d e : List UInt8) (m : Nat), d.length ≤ n → (d ++ e).length ≤ m → k.Ok → (∀ b ∈ d, b.toNat < k.c) →
    ∃ m', ((wrC n k d).2.2 ++ e).length ≤ m' ∧ greedyN m k (d ++ e) = (wrC n k d).1 ++ greedyN m' (wrC n k d).2.1 ((wrC n k d).2.2 ++ e) := by
  intro n
  induction n with
  | zero =>
    intro k d e m hd hm hk _
    have : d = [] := List.eq_nil_of_length_eq_zero (by omega)
    subst this
    exact ⟨m, hm, rfl⟩
  | succ n ih =>
    intro k d e m hd hm hk hl
    by_cases hs : d = [] ∨ k.longest d = d
    · rw [wrC_stop hs]
      exact ⟨m, hm, rfl⟩
    · have hd0 : d ≠ [] := fun e => hs (.inl e)
      have hp := KnD.longest_pos (k := k) hd0
      have hle := KnD.longest_le (k := k) d
      have hlo := KnD.longest_more hk e hd0 (fun h => hs (.inr h))
      have hlt : (k.longest d).length < d.length := by
        rcases Nat.lt_or_ge (k.longest d).length d.length with h | h
        · exact h
        · exfalso
          apply hs
          right
          have ht := KnD.longest_take (k := k) d
          rw [show (k.longest d).length = d.length by omega, List.take_length] at ht
          exact ht.symm
      obtain ⟨hf, -⟩ := KnD.find_any hk hd0 hl
      have hak := KnD.after_ok hk hf
      have hl' : ∀ b ∈ d.drop (k.longest d).length, b.toNat < k.c := fun b hb => hl b (List.mem_of_mem_drop hb)
      have hlen : (d.drop (k.longest d).length).length ≤ n := by rw [List.length_drop]; omega
      have hdrop : (d ++ e).drop (k.longest d).length = d.drop (k.longest d).length ++ e := by rw [List.drop_append_of_le_length hle]
      have hde : d ++ e ≠ [] := by simp [hd0]
      have hne : d.drop (k.longest d).length ++ e ≠ [] := fun h => by
        have := congrArg List.length h
        rw [List.length_append, List.length_drop] at this
        simp at this
        omega
      obtain ⟨m, rfl⟩ : ∃ q, m = q + 1 := ⟨m - 1, by rw [List.length_append] at hm; omega⟩
      have hm' : (d.drop (k.longest d).length ++ e).length ≤ m := by rw [List.length_append, List.length_drop]; rw [List.length_append] at hm; omega
      rw [wrC, if_neg hs]
      by_cases hfu : (k.after (k.find (k.longest d))).full = true
      · rw [if_pos hfu]
        obtain ⟨m', h1, h2⟩ := ih (k.after (k.find (k.longest d))).cleared _ e m hlen hm' (KnD.cleared_ok hak) hl'
        refine ⟨m', h1, ?_⟩
        rw [greedyN, if_neg hde, hlo, hdrop, if_pos ⟨hfu, hne⟩, h2]
        rfl
      · rw [if_neg hfu]
        obtain ⟨m', h1, h2⟩ := ih (k.after (k.find (k.longest d))) _ e m hlen hm' hak hl'
        refine ⟨m', h1, ?_⟩
        rw [greedyN, if_neg hde, hlo, hdrop, if_neg (fun h => hfu h.1), h2]
        rfl
theorem wrC_close {m : Nat} {k : KnD} {d : List UInt8} (h : d = [] ∨ k.longest d = d) (hm : d.length ≤ m) : greedyN m k d = (if d = [] then [] else [k.find d]) ++ [(k.c : Int) + 1] := by
  by_cases hd : d = []
  · subst hd
    rw [greedyN_nil, if_pos rfl]
    rfl
  · rcases h with h | h
    · exact absurd h hd
    · obtain ⟨m, rfl⟩ : ∃ q, m = q + 1 := ⟨m - 1, by have := List.length_pos_iff.2 hd; omega⟩
      rw [greedyN, if_neg hd, h, List.drop_length, if_neg (fun h => h.2 rfl), greedyN_nil, if_neg hd]
      rfl
end Go.Proofs.YtgbakgaegldomaaGreat

/- Plain law: following codes that can follow only adds data. Conditions: as each says. -/
namespace Go.Proofs.YtgbakgaegldomaaGreat
open Go Go.RowKit
theorem walkN_pre : ∀ (xs : List Int) (k : KnD) (ws : List Int) (d : List UInt8), (walkN k xs ws d).ok = true → d.length ≤ (walkN k xs ws d).data.length := by
  intro xs
  induction xs with
  | nil => intro k ws d h; exact Nat.le_refl _
  | cons x xs ih =>
    intro k ws d h
    rw [walkN] at h ⊢
    split at h
    · next h1 => rw [if_pos h1]; exact Nat.le_refl _
    · next h1 =>
      rw [if_neg h1]
      split at h
      · next h2 => rw [if_pos h2]; exact ih _ _ _ h
      · next h2 =>
        rw [if_neg h2]
        split at h
        · cases h
        · next h3 =>
          rw [if_neg h3]
          have := ih _ _ _ h
          rw [List.length_append] at this; omega
theorem walkN_ok {k : KnD} {x : Int} {xs ws : List Int} {d : List UInt8} {T : WkR} (h : walkN k (x :: xs) ws d = T) (hT : T.ok = true) :
    (x = (k.c : Int) + 1 ∧ xs = [] ∧ T = ⟨ws ++ [(k.width : Int)], d, true⟩) ∨ (x = (k.c : Int) ∧ walkN k.cleared xs (ws ++ [(k.width : Int)]) d = T) ∨
    (x ≠ (k.c : Int) + 1 ∧ x ≠ (k.c : Int) ∧ k.follows x = true ∧ walkN (k.after x) xs (ws ++ [(k.width : Int)]) (d ++ k.any x) = T ∧ d.length + (k.any x).length ≤ T.data.length) := by
  by_cases h1 : x = (k.c : Int) + 1
  · rw [walkN_end h1] at h
    subst h
    have : xs = [] := by simpa using hT
    exact .inl ⟨h1, this, by subst this; rfl⟩
  · by_cases h2 : x = (k.c : Int)
    · rw [walkN_clear h2] at h
      exact .inr (.inl ⟨h2, h⟩)
    · by_cases h3 : k.follows x = false ∨ 2000 < d.length
      · rw [walkN_bad h1 h2 h3] at h
        subst h; cases hT
      · have h4 : k.follows x = true := by
          cases e : k.follows x
          · exact absurd (.inl e) h3
          · rfl
        rw [walkN_word h1 h2 h4 (by omega)] at h
        refine .inr (.inr ⟨h1, h2, h4, h, ?_⟩)
        have := walkN_pre xs (k.after x) (ws ++ [(k.width : Int)]) (d ++ k.any x) (by rw [h]; exact hT)
        rw [h, List.length_append] at this
        exact this
end Go.Proofs.YtgbakgaegldomaaGreat

/- Plain: the bits of codes from a state, and their bytes when they are put into bytes part by part (for the writers). Conditions: as each says. -/
namespace Go.Proofs.YtgbakgaegldomaaGreat
open Go Go.RowKit
theorem packL_append (o : Int) {a b : List UInt8} (h : a.length % 8 = 0) : packL o (a ++ b) = packL o a ++ packL o b := by
  obtain ⟨n, hn⟩ : ∃ n, a.length = 8 * n := ⟨a.length / 8, by omega⟩
  have hpa : padL a = a := by unfold padL; rw [h]; simp
  have hpab : padL (a ++ b) = a ++ padL b := by
    unfold padL
    rw [List.append_assoc, List.length_append]
    congr 3
    omega
  have hlb := padL_length b
  refine List.ext_getElem? fun i => ?_
  unfold packL
  rw [hpa, hpab, List.length_append, hn, hlb, show (8 * n + 8 * ((b.length + 7) / 8)) / 8 = n + (b.length + 7) / 8 by omega, show 8 * n / 8 = n by omega, show 8 * ((b.length + 7) / 8) / 8 = (b.length + 7) / 8 by omega]
  rcases Nat.lt_or_ge i n with hi | hi
  · rw [List.getElem?_append_left (by simp; omega)]
    simp only [List.getElem?_map]
    rw [List.getElem?_range (by omega), List.getElem?_range (by omega)]
    simp only [Option.map_some]
    congr 1
    unfold byteN
    congr 2
    rw [List.drop_append_of_le_length (by omega), List.take_append_of_le_length (by rw [List.length_drop]; omega)]
  · rw [List.getElem?_append_right (by simp; omega)]
    simp only [List.getElem?_map, List.length_map, List.length_range]
    by_cases hb : i < n + (b.length + 7) / 8
    · rw [List.getElem?_range (by omega), List.getElem?_range (by omega)]
      simp only [Option.map_some]
      congr 1
      unfold byteN
      congr 3
      rw [List.drop_append, List.drop_of_length_le (by omega), List.nil_append]
      congr 1
      omega
    · rw [List.getElem?_eq_none (by simp; omega), List.getElem?_eq_none (by simp; omega)]
      rfl
def KnD.thru (k : KnD) (x : Int) : KnD := if x = (k.c : Int) + 1 then k else if x = (k.c : Int) then k.cleared else k.after x
def KnD.thruN (k : KnD) : List Int → KnD
  | [] => k
  | x :: xs => (k.thru x).thruN xs
def bitsS (o : Int) : KnD → List Int → List UInt8
  | _, [] => []
  | k, x :: xs => codeL o x.toNat k.width ++ bitsS o (k.thru x) xs
theorem thruN_app (k : KnD) : ∀ (xs ys : List Int), k.thruN (xs ++ ys) = (k.thruN xs).thruN ys := by
  intro xs
  induction xs generalizing k with
  | nil => intro ys; rfl
  | cons x xs ih => intro ys; exact ih (k.thru x) ys
theorem bitsS_app (o : Int) : ∀ (xs ys : List Int) (k : KnD), bitsS o k (xs ++ ys) = bitsS o k xs ++ bitsS o (k.thruN xs) ys := by
  intro xs
  induction xs with
  | nil => intro ys k; rfl
  | cons x xs ih =>
    intro ys k
    show codeL o x.toNat k.width ++ bitsS o (k.thru x) (xs ++ ys) = _
    rw [ih ys (k.thru x)]
    show _ = (codeL o x.toNat k.width ++ bitsS o (k.thru x) xs) ++ bitsS o ((k.thru x).thruN xs) ys
    rw [List.append_assoc]
theorem bitsS_walk (o : Int) : ∀ (xs : List Int) (k : KnD) (ws : List Int) (d : List UInt8) (W : List Int) (D : List UInt8), walkN k xs ws d = ⟨ws ++ W, D, true⟩ → bitsS o k xs = packC o xs W := by
  intro xs
  induction xs with
  | nil =>
    intro k ws d W D h
    rfl
  | cons x xs ih =>
    intro k ws d W D h
    rcases walkN_ok h rfl with ⟨h1, h2, h3⟩ | ⟨h1, h2⟩ | ⟨h1, h2, h3, h4, -⟩
    · subst h2
      have hW : W = [(k.width : Int)] := by
        have := congrArg WkR.ws h3
        simpa using this
      subst hW
      simp [bitsS, packC]
    · have hpre : ∀ (zs : List Int) (kk : KnD) (vs : List Int) (dd : List UInt8), ∃ V, (walkN kk zs vs dd).ws = vs ++ V := by
        intro zs
        induction zs with
        | nil => intro kk vs dd; exact ⟨[], by simp [walkN]⟩
        | cons z zs ihz =>
          intro kk vs dd
          rw [walkN]
          split
          · exact ⟨_, rfl⟩
          · split
            · obtain ⟨V, hV⟩ := ihz kk.cleared (vs ++ [(kk.width : Int)]) dd
              exact ⟨(kk.width : Int) :: V, by rw [hV]; simp⟩
            · split
              · exact ⟨_, rfl⟩
              · obtain ⟨V, hV⟩ := ihz (kk.after z) (vs ++ [(kk.width : Int)]) (dd ++ kk.any z)
                exact ⟨(kk.width : Int) :: V, by rw [hV]; simp⟩
      obtain ⟨V, hV⟩ := hpre xs k.cleared (ws ++ [(k.width : Int)]) d
      rw [h2] at hV
      have hW : W = (k.width : Int) :: V := by
        have : ws ++ W = ws ++ (k.width : Int) :: V := by simpa using hV
        exact List.append_cancel_left this
      subst hW
      have := ih k.cleared (ws ++ [(k.width : Int)]) d V D (by rw [h2]; simp)
      show codeL o x.toNat k.width ++ bitsS o (k.thru x) xs = _
      rw [show k.thru x = k.cleared by unfold KnD.thru; rw [if_neg (by omega), if_pos h1], this]
      simp [packC]
    · have hpre : ∀ (zs : List Int) (kk : KnD) (vs : List Int) (dd : List UInt8), ∃ V, (walkN kk zs vs dd).ws = vs ++ V := by
        intro zs
        induction zs with
        | nil => intro kk vs dd; exact ⟨[], by simp [walkN]⟩
        | cons z zs ihz =>
          intro kk vs dd
          rw [walkN]
          split
          · exact ⟨_, rfl⟩
          · split
            · obtain ⟨V, hV⟩ := ihz kk.cleared (vs ++ [(kk.width : Int)]) dd
              exact ⟨(kk.width : Int) :: V, by rw [hV]; simp⟩
            · split
              · exact ⟨_, rfl⟩
              · obtain ⟨V, hV⟩ := ihz (kk.after z) (vs ++ [(kk.width : Int)]) (dd ++ kk.any z)
                exact ⟨(kk.width : Int) :: V, by rw [hV]; simp⟩
      obtain ⟨V, hV⟩ := hpre xs (k.after x) (ws ++ [(k.width : Int)]) (d ++ k.any x)
      rw [h4] at hV
      have hW : W = (k.width : Int) :: V := by
        have : ws ++ W = ws ++ (k.width : Int) :: V := by simpa using hV
        exact List.append_cancel_left this
      subst hW
      have := ih (k.after x) (ws ++ [(k.width : Int)]) (d ++ k.any x) V D (by rw [h4]; simp)
      show codeL o x.toNat k.width ++ bitsS o (k.thru x) xs = _
      rw [show k.thru x = k.after x by unfold KnD.thru; rw [if_neg h1, if_neg h2], this]
      simp [packC]
end Go.Proofs.YtgbakgaegldomaaGreat

/- Plain: a writer that gets data in parts writes the stream of all data (for FnWriteAll and the other writers' laws). Conditions: what is known is valid, the data has only literals. -/
namespace Go.Proofs.YtgbakgaegldomaaGreat
open Go Go.RowKit
theorem KnD.thru_fol {k : KnD} (h : k.Ok) {x : Int} (hf : k.follows x = true) : k.thru x = k.after x := by
  have : x ≠ (k.c : Int) + 1 ∧ x ≠ (k.c : Int) := by
    rcases KnD.follows_cases h hf with hc | ⟨hg, rfl, hl⟩
    · rw [codeOk_iff] at hc; omega
    · unfold KnD.next; omega
  unfold KnD.thru
  rw [if_neg this.1, if_neg this.2]
theorem wrC_thru : ∀ (n : Nat) (k : KnD) (d : List UInt8), k.Ok → (∀ b ∈ d, b.toNat < k.c) → (wrC n k d).2.1 = k.thruN (wrC n k d).1 := by
  intro n
  induction n with
  | zero => intro k d _ _; rfl
  | succ n ih =>
    intro k d hk hl
    by_cases hs : d = [] ∨ k.longest d = d
    · rw [wrC_stop hs]; rfl
    · have hd0 : d ≠ [] := fun e => hs (.inl e)
      obtain ⟨hf, -⟩ := KnD.find_any hk hd0 hl
      have hak := KnD.after_ok hk hf
      have hl' : ∀ b ∈ d.drop (k.longest d).length, b.toNat < k.c := fun b hb => hl b (List.mem_of_mem_drop hb)
      rw [wrC, if_neg hs]
      by_cases hfu : (k.after (k.find (k.longest d))).full = true
      · rw [if_pos hfu]
        show _ = ((k.thru _).thru _).thruN _
        rw [KnD.thru_fol hk hf]
        have hc : (k.after (k.find (k.longest d))).thru (k.c : Int) = (k.after (k.find (k.longest d))).cleared := by
          unfold KnD.thru
          rw [if_neg (by show ¬ ((k.c : Int) = (k.c : Int) + 1); omega)]
          exact if_pos rfl
        rw [hc]
        exact ih _ _ (KnD.cleared_ok hak) hl'
      · rw [if_neg hfu]
        show _ = (k.thru _).thruN _
        rw [KnD.thru_fol hk hf]
        exact ih _ _ hak hl'
structure WrD where
  k : KnD
  pend : List UInt8
  bits : List UInt8
  beg : Bool
def WrD.open (w : WrD) : List UInt8 × KnD := if w.beg then (w.bits, w.k) else (w.bits ++ codeL w.k.set.ord w.k.c w.k.width, w.k.cleared)
def WrD.codes (w : WrD) (d : List UInt8) : List Int × KnD × List UInt8 := wrC (w.pend ++ d).length w.open.2 (w.pend ++ d)
def WrD.all (w : WrD) (d : List UInt8) : List UInt8 := w.open.1 ++ bitsS w.k.set.ord w.open.2 (w.codes d).1
def WrD.write (w : WrD) (d : List UInt8) : WrD × List UInt8 :=
  if d = [] then (w, []) else (⟨(w.codes d).2.1, (w.codes d).2.2, (w.all d).drop ((w.all d).length / 8 * 8), true⟩, packL w.k.set.ord ((w.all d).take ((w.all d).length / 8 * 8)))
def WrD.close (w : WrD) : List UInt8 := packL w.k.set.ord (w.open.1 ++ bitsS w.k.set.ord w.open.2 ((if w.pend = [] then [] else [w.open.2.find w.pend]) ++ [(w.k.c : Int) + 1]))
structure WaInv (k0 : KnD) (d : List UInt8) (w : WrD) (out : List UInt8) : Prop where
  ok : w.k.Ok
  set : w.k.set = k0.set
  lits : ∀ b ∈ w.pend, b.toNat < k0.c
  word : w.pend = [] ∨ w.k.longest w.pend = w.pend
  st : (w.beg = false ∧ d = [] ∧ w.pend = [] ∧ w.bits = [] ∧ w.k = k0 ∧ out = []) ∨
    (w.beg = true ∧ ∃ C P, P.length % 8 = 0 ∧ out = packL k0.set.ord P ∧ P ++ w.bits = bitsS k0.set.ord k0 C ∧ w.k = k0.thruN C ∧
      ∀ e m, (d ++ e).length ≤ m → (∀ b ∈ e, b.toNat < k0.c) → ∃ m', (w.pend ++ e).length ≤ m' ∧ (k0.c : Int) :: greedyN m k0.cleared (d ++ e) = C ++ greedyN m' w.k (w.pend ++ e))
theorem WaInv.start {k : KnD} (h : k.Ok) : WaInv k [] ⟨k, [], [], false⟩ [] := ⟨h, rfl, (fun b hb => absurd hb (List.not_mem_nil)), .inl rfl, .inl ⟨rfl, rfl, rfl, rfl, rfl, rfl⟩⟩
theorem thru_clear (k : KnD) : k.thru (k.c : Int) = k.cleared := by
  unfold KnD.thru
  rw [if_neg (by omega), if_pos rfl]
theorem WaInv.next {k0 : KnD} {d x : List UInt8} {w : WrD} {out : List UInt8} (hk0 : k0.Ok) (h : WaInv k0 d w out) (hx : ∀ b ∈ x, b.toNat < k0.c) : WaInv k0 (d ++ x) (w.write x).1 (out ++ (w.write x).2) := by
  by_cases hx0 : x = []
  · subst hx0
    unfold WrD.write
    rw [if_pos rfl, List.append_nil, List.append_nil]
    exact h
  obtain ⟨hk, hset, hlp, hword, hst⟩ := h
  have hc : w.k.c = k0.c := by unfold KnD.c; rw [hset]
  have hlx : ∀ b ∈ w.pend ++ x, b.toNat < k0.c := fun b hb => (List.mem_append.1 hb).elim (hlp b) (hx b)
  have hB := List.take_append_drop ((w.all x).length / 8 * 8) (w.all x)
  have hT : ((w.all x).take ((w.all x).length / 8 * 8)).length % 8 = 0 := by rw [List.length_take]; omega
  unfold WrD.write
  rw [if_neg hx0]
  rcases hst with ⟨b1, rfl, b3, b4, b5, rfl⟩ | ⟨b1, C, P, p1, p2, p3, p4, p5⟩
  · have ho : w.open = (codeL k0.set.ord k0.c k0.width, k0.cleared) := by unfold WrD.open; rw [b1, b4, b5]; simp
    have hcd : w.codes x = wrC x.length k0.cleared x := by unfold WrD.codes; rw [ho, b3]; rfl
    obtain ⟨q1, q2, q3, q4, q, q5⟩ := wrC_end x.length k0.cleared x (Nat.le_refl _) (KnD.cleared_ok hk0) hx
    have hth := wrC_thru x.length k0.cleared x (KnD.cleared_ok hk0) hx
    have hall : w.all x = bitsS k0.set.ord k0 ((k0.c : Int) :: (wrC x.length k0.cleared x).1) := by
      unfold WrD.all
      rw [hcd, ho, hset]
      show codeL k0.set.ord k0.c k0.width ++ _ = codeL k0.set.ord (k0.c : Int).toNat k0.width ++ bitsS k0.set.ord (k0.thru (k0.c : Int)) _
      rw [thru_clear]
      rfl
    refine ⟨by rw [hcd]; exact q1, by rw [hcd]; exact q2, fun b hb => hx b ?_, by rw [hcd]; exact q3, .inr ⟨rfl, (k0.c : Int) :: (wrC x.length k0.cleared x).1, _, hT, by rw [hset]; rfl, by rw [hB, hall], ?_, fun e m hm he => ?_⟩⟩
    · rw [hcd] at hb
      rw [q5]
      exact List.mem_append_right _ hb
    · rw [hcd, hth]
      show _ = (k0.thru (k0.c : Int)).thruN _
      rw [thru_clear]
    · rw [hcd]
      obtain ⟨m', r1, r2⟩ := wrC_greedy x.length k0.cleared x e m (Nat.le_refl _) hm (KnD.cleared_ok hk0) hx
      exact ⟨m', r1, by
        show (k0.c : Int) :: greedyN m k0.cleared (x ++ e) = _
        rw [r2]; rfl⟩
  · have ho : w.open = (w.bits, w.k) := by unfold WrD.open; rw [b1]; rfl
    have hcd : w.codes x = wrC (w.pend ++ x).length w.k (w.pend ++ x) := by unfold WrD.codes; rw [ho]
    have hlw : ∀ b ∈ w.pend ++ x, b.toNat < w.k.c := fun b hb => by rw [hc]; exact hlx b hb
    obtain ⟨q1, q2, q3, q4, q, q5⟩ := wrC_end (w.pend ++ x).length w.k (w.pend ++ x) (Nat.le_refl _) hk hlw
    have hth := wrC_thru (w.pend ++ x).length w.k (w.pend ++ x) hk hlw
    have hall : P ++ w.all x = bitsS k0.set.ord k0 (C ++ (wrC (w.pend ++ x).length w.k (w.pend ++ x)).1) := by
      unfold WrD.all
      rw [hcd, ho, hset, bitsS_app, ← p3, ← p4, List.append_assoc]
    refine ⟨by rw [hcd]; exact q1, by rw [hcd]; exact q2.trans hset, fun b hb => hlx b ?_, by rw [hcd]; exact q3, .inr ⟨rfl, C ++ (wrC (w.pend ++ x).length w.k (w.pend ++ x)).1, P ++ (w.all x).take ((w.all x).length / 8 * 8), ?_, ?_, ?_, ?_, fun e m hm he => ?_⟩⟩
    · rw [hcd] at hb
      rw [q5]
      exact List.mem_append_right _ hb
    · rw [List.length_append]; omega
    · rw [p2, hset, packL_append _ p1]
    · rw [List.append_assoc, hB, hall]
    · rw [hcd, hth, thruN_app, ← p4]
    · rw [hcd]
      have hxe : ∀ b ∈ x ++ e, b.toNat < k0.c := fun b hb => (List.mem_append.1 hb).elim (hx b) (he b)
      obtain ⟨m1, r1, r2⟩ := p5 (x ++ e) m (by rw [← List.append_assoc]; exact hm) hxe
      rw [show w.pend ++ (x ++ e) = (w.pend ++ x) ++ e from (List.append_assoc ..).symm] at r1 r2
      obtain ⟨m', s1, s2⟩ := wrC_greedy (w.pend ++ x).length w.k (w.pend ++ x) e m1 (Nat.le_refl _) r1 hk hlw
      exact ⟨m', s1, by rw [List.append_assoc d x e, r2, s2]; exact (List.append_assoc ..).symm⟩
theorem WaInv.fin {k0 : KnD} {d : List UInt8} {w : WrD} {out : List UInt8} (hk0 : k0.Ok) (hl : ∀ b ∈ d, b.toNat < k0.c) (hd : d.length ≤ 2000) (h : WaInv k0 d w out) : out ++ w.close = compL k0 d := by
  obtain ⟨g1, g2, g3, g4, g5⟩ := walk_greedy hk0 hl hd
  have hT : walkN k0 (greedy k0 d) [] [] = ⟨[] ++ (walkN k0 (greedy k0 d) [] []).ws, d, true⟩ := by
    generalize walkN k0 (greedy k0 d) [] [] = T at *
    obtain ⟨a, b, c⟩ := T
    simp only at g2 g3
    rw [g2, g3]; rfl
  have hb := bitsS_walk k0.set.ord _ _ _ _ _ _ hT
  have hcomp : compL k0 d = packL k0.set.ord (bitsS k0.set.ord k0 (greedy k0 d)) := by unfold compL; rw [hb]
  obtain ⟨hk, hset, hlp, hword, hst⟩ := h
  have hc : w.k.c = k0.c := by unfold KnD.c; rw [hset]
  rw [hcomp]
  unfold WrD.close
  rcases hst with ⟨b1, rfl, b3, b4, b5, rfl⟩ | ⟨b1, C, P, p1, p2, p3, p4, p5⟩
  · have ho : w.open = (codeL k0.set.ord k0.c k0.width, k0.cleared) := by unfold WrD.open; rw [b1, b4, b5]; simp
    rw [ho, b3, if_pos rfl, hset, hc, List.nil_append, List.nil_append]
    unfold greedy
    rw [greedyN_nil]
    show packL _ (codeL k0.set.ord k0.c k0.width ++ _) = packL _ (codeL k0.set.ord (k0.c : Int).toNat k0.width ++ bitsS k0.set.ord (k0.thru (k0.c : Int)) _)
    rw [thru_clear]
    rfl
  · have ho : w.open = (w.bits, w.k) := by unfold WrD.open; rw [b1]; rfl
    obtain ⟨m', r1, r2⟩ := p5 [] d.length (by simp) (fun b hb => absurd hb (List.not_mem_nil))
    rw [List.append_nil, List.append_nil] at r2
    rw [List.append_nil] at r1
    have hg : greedy k0 d = C ++ greedyN m' w.k w.pend := r2
    rw [wrC_close hword r1, hc] at hg
    rw [ho, hg, bitsS_app k0.set.ord C, ← p3, ← p4, p2, hset, hc, ← packL_append _ p1, List.append_assoc]
end Go.Proofs.YtgbakgaegldomaaGreat

/- Plain: writing in parts is writing at once (for FnWriteParts and FnWriteBits). Conditions: the writer is valid, the data has only literals. -/
namespace Go.Proofs.YtgbakgaegldomaaGreat
open Go Go.RowKit
theorem KnD.longest_lt {k : KnD} {d : List UInt8} (hs : k.longest d ≠ d) : (k.longest d).length < d.length := by
  have hle := KnD.longest_le (k := k) d
  rcases Nat.lt_or_ge (k.longest d).length d.length with h | h
  · exact h
  · exfalso
    apply hs
    have ht := KnD.longest_take (k := k) d
    rw [show (k.longest d).length = d.length by omega, List.take_length] at ht
    exact ht.symm
theorem WrD.open_ok {w : WrD} (h : w.k.Ok) : w.open.2.Ok ∧ w.open.2.set = w.k.set := by
  unfold WrD.open
  split
  · exact ⟨h, rfl⟩
  · exact ⟨KnD.cleared_ok h, rfl⟩
end Go.Proofs.YtgbakgaegldomaaGreat

