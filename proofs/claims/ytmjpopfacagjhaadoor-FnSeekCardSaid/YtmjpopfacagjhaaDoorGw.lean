/- Plain: following the codes of the longest words gives the data again, and one width for each code. Conditions: what is known is valid (KnD.Ok), the data fits. -/
import Derived.Test.YtmjpopfacagjhaaDoorGr
import Derived.Test.YtmjpopfacagjhaaDoorWk
namespace Go.Proofs.YtmjpopfacagjhaaDoor
set_option linter.unusedVariables false
set_option linter.unusedSimpArgs false
open Go.RowKit

theorem KnD.fol_ne {k : KnD} (h : k.Ok) {x : Int} (hf : k.follows x = true) : x ≠ (k.c : Int) ∧ x ≠ (k.c : Int) + 1 := by
  rcases KnD.follows_cases h hf with hc | ⟨hg, rfl, hl⟩
  · rw [codeOk_iff] at hc; omega
  · unfold KnD.next; omega
theorem walk_greedyN : ∀ (n : Nat) (k : KnD) (d : List UInt8) (ws : List Int) (dat : List UInt8), k.Ok → (∀ b ∈ d, b.toNat < k.c) → d.length ≤ n → dat.length + d.length ≤ 2000 →
    ∃ W : List Int, walkN k (greedyN n k d) ws dat = ⟨ws ++ W, dat ++ d, true⟩ ∧ W.length = (greedyN n k d).length ∧ (∀ w ∈ W, 1 ≤ w ∧ w ≤ 10) ∧ (∀ x ∈ greedyN n k d, 0 ≤ x ∧ x ≤ 1024) := by
  intro n
  induction n with
  | zero =>
    intro k d ws dat hk hl hn hd
    have hb := hk.c_bd
    have hw := KnD.width_bd hk
    have e : d = [] := List.length_eq_zero_iff.1 (by omega)
    subst e
    refine ⟨[(k.width : Int)], ?_, rfl, ?_, ?_⟩
    · show walkN k [(k.c : Int) + 1] ws dat = _
      rw [walkN_end rfl]; simp
    · intro w hw'; simp only [List.mem_singleton] at hw'; subst hw'; omega
    · intro x hx; simp only [greedyN, List.mem_singleton] at hx; subst hx; omega
  | succ n ih =>
    intro k d ws dat hk hl hn hd
    have hb := hk.c_bd
    have hw := KnD.width_bd hk
    by_cases e : d = []
    · subst e
      rw [greedyN_nil]
      refine ⟨[(k.width : Int)], ?_, rfl, ?_, ?_⟩
      · rw [walkN_end rfl]; simp
      · intro w hw'; simp only [List.mem_singleton] at hw'; subst hw'; omega
      · intro x hx; simp only [List.mem_singleton] at hx; subst hx; omega
    · obtain ⟨hf, ha⟩ := KnD.find_any hk e hl
      have hfb := KnD.find_bd hk hf
      obtain ⟨n1, n2⟩ := KnD.fol_ne hk hf
      have hp := KnD.longest_pos (k := k) e
      have hle := KnD.longest_le (k := k) d
      have htk := KnD.longest_take (k := k) d
      have hok2 := KnD.after_ok hk hf
      have hjoin : k.longest d ++ d.drop (k.longest d).length = d := by conv => lhs; arg 1; rw [← htk]
                                                                        exact List.take_append_drop _ _
      have hl2 : ∀ b ∈ d.drop (k.longest d).length, b.toNat < k.c := fun b hb => hl b (List.mem_of_mem_drop hb)
      have hln : (d.drop (k.longest d).length).length ≤ n := by rw [List.length_drop]; omega
      have hd2 : (dat ++ k.longest d).length + (d.drop (k.longest d).length).length ≤ 2000 := by rw [List.length_drop, List.length_append]; omega
      by_cases hfull : (k.after (k.find (k.longest d))).full = true ∧ d.drop (k.longest d).length ≠ []
      · rw [greedyN_full e rfl rfl hfull.1 hfull.2]
        obtain ⟨W, h1, h2, h3, h4⟩ := ih (k.after (k.find (k.longest d))).cleared (d.drop (k.longest d).length) (ws ++ [(k.width : Int)] ++ [((k.after (k.find (k.longest d))).width : Int)]) (dat ++ k.longest d) (KnD.cleared_ok hok2) hl2 hln hd2
        have hw2 := KnD.width_bd hok2
        refine ⟨(k.width : Int) :: ((k.after (k.find (k.longest d))).width : Int) :: W, ?_, by simp [h2], ?_, ?_⟩
        · rw [walkN_word n2 n1 hf (by omega), ha, walkN_clear (k := k.after (k.find (k.longest d))) (x := (k.c : Int)) rfl, h1]
          simp [hjoin]
        · intro w hw'
          simp only [List.mem_cons] at hw'
          rcases hw' with rfl | rfl | hw'
          · omega
          · omega
          · exact h3 w hw'
        · intro x hx
          simp only [List.mem_cons] at hx
          rcases hx with rfl | rfl | hx
          · omega
          · omega
          · exact h4 x hx
      · rw [greedyN_more e rfl rfl hfull]
        obtain ⟨W, h1, h2, h3, h4⟩ := ih (k.after (k.find (k.longest d))) (d.drop (k.longest d).length) (ws ++ [(k.width : Int)]) (dat ++ k.longest d) hok2 hl2 hln hd2
        refine ⟨(k.width : Int) :: W, ?_, by simp [h2], ?_, ?_⟩
        · rw [walkN_word n2 n1 hf (by omega), ha, h1]
          simp [hjoin]
        · intro w hw'
          simp only [List.mem_cons] at hw'
          rcases hw' with rfl | hw'
          · omega
          · exact h3 w hw'
        · intro x hx
          simp only [List.mem_cons] at hx
          rcases hx with rfl | hx
          · omega
          · exact h4 x hx
/-- Following the codes of data. -/
theorem walk_greedy {k : KnD} {d : List UInt8} (hk : k.Ok) (hl : ∀ b ∈ d, b.toNat < k.c) (hd : d.length ≤ 2000) :
    (walkN k (greedy k d) [] []).ws.length = (greedy k d).length ∧ (walkN k (greedy k d) [] []).data = d ∧ (walkN k (greedy k d) [] []).ok = true ∧ (∀ w ∈ (walkN k (greedy k d) [] []).ws, 1 ≤ w ∧ w ≤ 10) ∧ (∀ x ∈ greedy k d, 0 ≤ x ∧ x ≤ 1024) := by
  obtain ⟨W, h1, h2, h3, h4⟩ := walk_greedyN d.length k.cleared d [(k.width : Int)] [] (KnD.cleared_ok hk) hl (Nat.le_refl _) (by simpa using hd)
  have hb := hk.c_bd
  have hw := KnD.width_bd hk
  have e : walkN k (greedy k d) [] [] = ⟨[(k.width : Int)] ++ W, [] ++ d, true⟩ := by
    unfold greedy
    rw [walkN_clear rfl, List.nil_append, h1]
  rw [e]
  refine ⟨by simp [greedy, h2], rfl, rfl, fun w hw' => ?_, fun x hx => ?_⟩
  · simp only [List.cons_append, List.nil_append, List.mem_cons] at hw'
    rcases hw' with rfl | hw'
    · omega
    · exact h3 w hw'
  · unfold greedy at hx
    simp only [List.mem_cons] at hx
    rcases hx with rfl | hx
    · omega
    · exact h4 x hx
theorem greedyN_len : ∀ (n : Nat) (k : KnD) (d : List UInt8), d.length ≤ n → (greedyN n k d).length ≤ 2 * d.length + 1
  | 0, k, d, _ => by simp [greedyN]
  | n + 1, k, d, h => by
    by_cases e : d = []
    · subst e; rw [greedyN_nil]; simp
    · have hp := KnD.longest_pos (k := k) e
      have hle := KnD.longest_le (k := k) d
      have hdl : (d.drop (k.longest d).length).length = d.length - (k.longest d).length := List.length_drop
      by_cases hfull : (k.after (k.find (k.longest d))).full = true ∧ d.drop (k.longest d).length ≠ []
      · rw [greedyN_full e rfl rfl hfull.1 hfull.2]
        have := greedyN_len n (k.after (k.find (k.longest d))).cleared (d.drop (k.longest d).length) (by omega)
        simp only [List.length_cons]; omega
      · rw [greedyN_more e rfl rfl hfull]
        have := greedyN_len n (k.after (k.find (k.longest d))) (d.drop (k.longest d).length) (by omega)
        simp only [List.length_cons]; omega
theorem greedy_len (k : KnD) (d : List UInt8) : (greedy k d).length ≤ 2 * d.length + 2 := by
  have := greedyN_len d.length k.cleared d (Nat.le_refl _)
  unfold greedy; rw [List.length_cons]; omega

end Go.Proofs.YtmjpopfacagjhaaDoor
