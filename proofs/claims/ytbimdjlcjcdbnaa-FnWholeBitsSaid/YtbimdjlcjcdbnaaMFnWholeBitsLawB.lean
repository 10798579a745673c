/- Texts joined into one: the walks and laws that the last text leans on. Conditions: as each says. -/
import Derived.Test.YtbimdjlcjcdbnaaKvG
import Derived.Test.YtbimdjlcjcdbnaaRd
import Derived.Test.YtbimdjlcjcdbnaaCleared

/- Plain facts: what is valid is what the walks ask; pairs are read on after draws. Conditions: none. -/
namespace Go.Proofs.Ytbimdjlcjcdbnaa
set_option linter.unusedVariables false
set_option linter.unusedSimpArgs false
open Go Go.RowKit

theorem ok_of_valid {k : KnD} (h : validK k = true) : k.Ok ∧ (k.last = -1 → k.base = k.ps.length) := by
  unfold validK at h
  simp only [Bool.and_eq_true] at h
  obtain ⟨h1, h2, h3, h4, h5⟩ := h
  have hc := clr_bd h1
  unfold roomOk at h2
  rw [decide_eq_true_eq] at h2
  rw [inB_iff] at h4
  refine ⟨⟨h1, fun i hi => ?_, ?_, h4.1, h4.2, ?_⟩, fun hl => ?_⟩
  · rw [prOk_get hi]
    unfold pairsOk at h3
    rw [List.all_eq_true] at h3
    have := h3 i (List.mem_range.2 hi)
    rw [List.getD_eq_getElem?_getD, List.getElem?_eq_getElem hi, Option.getD_some] at this
    exact this
  · show k.ps.length + clr k.set + 1 ≤ lastC k.set
    omega
  · unfold lastOk at h5
    split at h5
    · exact .inl ‹_›
    · exact .inr h5
  · unfold lastOk at h5
    rw [if_pos hl] at h5
    simpa using h5

theorem RdP.gr {lo rb : Nat} {w w' : World} {v : Value} {ps : List PairD} (h : RdP lo w v ps) (hg : w.grownBy w' (some rb)) (hl : rb < lo) : RdP lo w' v ps := by
  obtain ⟨a, cap, h1, h2, h2', h2'', h3⟩ := h
  refine ⟨a, cap, h1, h2, h2', h2'', fun hp => ?_⟩
  obtain ⟨b, off, e1, e2, e4, e5⟩ := h3 hp
  have hne : some b ≠ some rb := fun e => by cases e; omega
  exact ⟨b, off, e1, e2, Nat.lt_of_lt_of_le e4 hg.size, fun i p hi => ⟨((gcell hg).1 b _ e4 hne).trans (e5 i p hi).1, ((gcell hg).1 b _ e4 hne).trans (e5 i p hi).2⟩⟩
theorem RdP.set {lo : Nat} {w : World} {v : Value} {ps : List PairD} (h : RdP lo w v ps) {b : Nat} (hl : b < lo) (i : Nat) (u : Value) : RdP lo (w.setCell ⟨b, i, none⟩ u) v ps :=
  h.gr (grownBy_set (grownBy_refl w (some b)) i u) hl

/-- What the law's arms ask of a code that is picked. -/
theorem follows_lit {k : KnD} {x : Int} (h0 : 0 ≤ x) (h1 : x < clr k.set) : k.follows x = true := by
  unfold KnD.follows
  rw [show codeOk k.c k.ps.length x = true from codeOk_iff.2 (.inl ⟨h0, h1⟩)]
  rfl
theorem follows_pair {k : KnD} {x : Int} (h0 : (clr k.set : Int) + 2 ≤ x) (h1 : x < clr k.set + 2 + k.ps.length) : k.follows x = true := by
  unfold KnD.follows
  rw [show codeOk k.c k.ps.length x = true from codeOk_iff.2 (.inr ⟨h0, h1⟩)]
  rfl
theorem follows_next {k : KnD} (h : k.grow = true) : k.follows k.next = true := by
  unfold KnD.follows
  rw [h]
  simp

theorem KnD.Ok.rebase {k : KnD} (h : k.Ok) {b : Int} (h0 : 0 ≤ b) (h1 : b ≤ k.ps.length) : (⟨k.set, k.ps, b, k.last⟩ : KnD).Ok := ⟨h.set, h.ps, h.len, h0, h1, h.last⟩

end Go.Proofs.Ytbimdjlcjcdbnaa

