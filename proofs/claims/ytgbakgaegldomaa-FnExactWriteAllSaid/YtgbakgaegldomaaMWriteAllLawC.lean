/- Texts joined into one: the walks and laws that the last text leans on. Conditions: as each says. -/
import Derived.Test.YtgbakgaegldomaaKvG
import Derived.Test.YtgbakgaegldomaaRd
import Derived.Test.YtgbakgaegldomaaCleared
import Derived.Test.YtgbakgaegldomaaMWriteAllLawB
import Derived.Test.YtgbakgaegldomaaStartW

/- Plain facts: what is valid is what the walks ask; pairs are read on after draws. Conditions: none. -/
namespace Go.Proofs.Ytgbakgaegldomaa
set_option linter.unusedVariables false
set_option linter.unusedSimpArgs false
open Go Go.RowKit

theorem ok_of_valid {k : KnD} (h : validK k = true) : k.Ok ∧ (k.last = -1 → k.base = k.ps.length) := by
  unfold validK at h
  simp only [Bool.and_eq_true] at h
  obtain ⟨h1, h2, h3, h4, h5⟩ := h
  have hc := clr_bd h1
  unfold roomOk at h2
  rw [decide_eq_true_eq] at h2
  rw [inB_iff] at h4
  refine ⟨⟨h1, fun i hi => ?_, ?_, h4.1, h4.2, ?_⟩, fun hl => ?_⟩
  · rw [prOk_get hi]
    unfold pairsOk at h3
    rw [List.all_eq_true] at h3
    have := h3 i (List.mem_range.2 hi)
    rw [List.getD_eq_getElem?_getD, List.getElem?_eq_getElem hi, Option.getD_some] at this
    exact this
  · show k.ps.length + clr k.set + 1 ≤ lastC k.set
    omega
  · unfold lastOk at h5
    split at h5
    · exact .inl ‹_›
    · exact .inr h5
  · unfold lastOk at h5
    rw [if_pos hl] at h5
    simpa using h5

theorem RdP.gr {lo rb : Nat} {w w' : World} {v : Value} {ps : List PairD} (h : RdP lo w v ps) (hg : w.grownBy w' (some rb)) (hl : rb < lo) : RdP lo w' v ps := by
  obtain ⟨a, cap, h1, h2, h2', h2'', h3⟩ := h
  refine ⟨a, cap, h1, h2, h2', h2'', fun hp => ?_⟩
  obtain ⟨b, off, e1, e2, e4, e5⟩ := h3 hp
  have hne : some b ≠ some rb := fun e => by cases e; omega
  exact ⟨b, off, e1, e2, Nat.lt_of_lt_of_le e4 hg.size, fun i p hi => ⟨((gcell hg).1 b _ e4 hne).trans (e5 i p hi).1, ((gcell hg).1 b _ e4 hne).trans (e5 i p hi).2⟩⟩
theorem RdP.set {lo : Nat} {w : World} {v : Value} {ps : List PairD} (h : RdP lo w v ps) {b : Nat} (hl : b < lo) (i : Nat) (u : Value) : RdP lo (w.setCell ⟨b, i, none⟩ u) v ps :=
  h.gr (grownBy_set (grownBy_refl w (some b)) i u) hl

end Go.Proofs.Ytgbakgaegldomaa

/- Plain: which writers are valid; what is written by a valid one is valid (for FnWriteParts, FnWriteBits). Conditions: as each says. -/
namespace Go.Proofs.Ytgbakgaegldomaa
set_option linter.unusedVariables false
set_option linter.unusedSimpArgs false
open Go Go.RowKit

def KnD.vl (k : KnD) : Prop := k.last = -1 → k.base = k.ps.length
theorem valid_of_ok {k : KnD} (h : k.Ok) (hv : k.vl) : validK k = true := by
  have hb0 := h.base0
  have hb1 := h.base1
  have hln := h.len
  have hc : k.c = clr k.set := rfl
  unfold validK
  simp only [Bool.and_eq_true]
  refine ⟨h.set, ?_, ?_, ?_, ?_⟩
  · unfold roomOk
    rw [decide_eq_true_eq]
    omega
  · refine pairsOk_yes fun j hj => ?_
    have := h.ps j hj
    rw [prOk_get hj] at this
    exact this
  · rw [inB_iff]
    exact ⟨hb0, hb1⟩
  · unfold lastOk
    split
    · next hl => rw [hv hl]; simp
    · next hl =>
      rcases h.last with h | h
      · exact absurd h hl
      · exact h
theorem vl_cleared {k : KnD} (h : k.Ok) : k.cleared.vl := fun _ => by
  have hb0 := h.base0
  have hb1 := h.base1
  show k.base = ((k.ps.take k.base.toNat).length : Int)
  rw [List.length_take]; omega
theorem vl_after {k : KnD} (h : k.Ok) {x : Int} (hf : k.follows x = true) : (k.after x).vl := fun hl => by
  have hl : x = -1 := hl
  have := (KnD.find_bd h hf).1
  omega
theorem wrC_vl : ∀ (n : Nat) (k : KnD) (d : List UInt8), k.Ok → k.vl → (∀ b ∈ d, b.toNat < k.c) → (wrC n k d).2.1.vl := by
  intro n
  induction n with
  | zero => intro k d _ hv _; exact hv
  | succ n ih =>
    intro k d hk hv hl
    by_cases hs : d = [] ∨ k.longest d = d
    · rw [wrC_stop hs]; exact hv
    · have hd0 : d ≠ [] := fun e => hs (.inl e)
      obtain ⟨hf, -⟩ := KnD.find_any hk hd0 hl
      have hak := KnD.after_ok hk hf
      have hl' : ∀ b ∈ d.drop (k.longest d).length, b.toNat < k.c := fun b hb => hl b (List.mem_of_mem_drop hb)
      rw [wrC, if_neg hs]
      split
      · exact ih _ _ (KnD.cleared_ok hak) (vl_cleared hak) hl'
      · exact ih _ _ hak (vl_after hk hf) hl'
/-- A word that has a code is the longest of itself. -/
theorem KnD.find_word {k : KnD} {d : List UInt8} (hd : d ≠ []) (h : 0 ≤ k.find d) : k.longest d = d := by
  have hW : k.isW d := by
    by_cases hc : d.length = 1 ∧ (d.getD 0 0).toNat < k.c
    · exact .inl hc.1
    · unfold KnD.find at h
      rw [if_neg hc] at h
      split at h
      · next i hi =>
        right
        have h1 := List.find?_some hi
        have h2 := List.mem_of_find?_eq_some hi
        exact ⟨i, List.mem_range.1 h2, by simpa using h1⟩
      · omega
  have h2 := KnD.isW_le hd hW (Nat.le_refl _) List.take_length
  have h3 := KnD.longest_le (k := k) d
  have ht := KnD.longest_take (k := k) d
  rw [show (k.longest d).length = d.length by omega, List.take_length] at ht
  exact ht.symm
theorem KnD.word_find {k : KnD} (hk : k.Ok) {d : List UInt8} (hd : d ≠ []) (hl : ∀ b ∈ d, b.toNat < k.c) (h : k.longest d = d) : 0 ≤ k.find d := by
  obtain ⟨hf, -⟩ := KnD.find_any hk hd hl
  rw [h] at hf
  exact (KnD.find_bd hk hf).1

/-- Whether a writer is valid. -/
def wrOk (w : WrD) : Prop := w.k.Ok ∧ w.k.vl ∧ (∀ b ∈ w.pend, b.toNat < w.k.c) ∧ w.pend.length ≤ 2000 ∧ isBits w.bits ∧ w.bits.length ≤ 7 ∧ (w.pend = [] ∨ w.k.longest w.pend = w.pend) ∧ (w.beg = false → w.pend = [] ∧ w.bits = [])
theorem isBits_codes (o : Int) : ∀ (xs : List Int) (k : KnD), isBits (bitsS o k xs) := by
  intro xs
  induction xs with
  | nil => intro k b hb; cases hb
  | cons x xs ih =>
    intro k b hb
    rcases List.mem_append.1 hb with hb | hb
    · have := isBits_packC o [x] [(k.width : Int)]
      simp only [packC, List.append_nil, Int.toNat_natCast] at this
      exact this b hb
    · exact ih (k.thru x) b hb
/-- What further data makes of a valid writer. -/
theorem wrOk_write {w : WrD} {d : List UInt8} (h : wrOk w) (hl : ∀ b ∈ d, b.toNat < w.k.c) (hd : (w.pend ++ d).length ≤ 2000) : wrOk (w.write d).1 ∧ (w.write d).1.k.set = w.k.set ∧ (d ≠ [] → (w.write d).1.beg = true ∧ (w.write d).1.pend ≠ []) ∧ ∃ p, w.pend ++ d = p ++ (w.write d).1.pend := by
  obtain ⟨hk, hv, hp, h2, hb, h7, hw, hn⟩ := h
  by_cases hd0 : d = []
  · subst hd0
    unfold WrD.write
    rw [if_pos rfl]
    exact ⟨⟨hk, hv, hp, h2, hb, h7, hw, hn⟩, rfl, fun h => absurd rfl h, [], by simp⟩
  obtain ⟨hok, hos⟩ := WrD.open_ok hk
  have hoc : w.open.2.c = w.k.c := by unfold KnD.c; rw [hos]
  have hov : w.open.2.vl := by
    unfold WrD.open
    split
    · exact hv
    · exact vl_cleared hk
  have hlo : ∀ x ∈ w.pend ++ d, x.toNat < w.open.2.c := fun x hx => by
    rw [hoc]
    exact (List.mem_append.1 hx).elim (hp x) (hl x)
  obtain ⟨q1, q2, q3, q4, p, q5⟩ := wrC_end (w.pend ++ d).length w.open.2 (w.pend ++ d) (Nat.le_refl _) hok hlo
  have q6 := wrC_vl (w.pend ++ d).length w.open.2 (w.pend ++ d) hok hov hlo
  have hcc : (w.codes d).2.1.c = w.k.c := by unfold KnD.c; rw [show (w.codes d).2.1.set = w.open.2.set from q2, hos]
  have q5' : w.pend ++ d = p ++ (w.codes d).2.2 := q5
  have hob : isBits w.open.1 := by
    unfold WrD.open
    split
    · exact hb
    · intro b hb'
      rcases List.mem_append.1 hb' with h | h
      · exact hb b h
      · have := isBits_packC w.k.set.ord [(w.k.c : Int)] [(w.k.width : Int)]
        simp only [packC, List.append_nil, Int.toNat_natCast] at this
        exact this b h
  have hall : isBits (w.all d) := fun b hb' => by
    rcases List.mem_append.1 hb' with h | h
    · exact hob b h
    · exact isBits_codes _ _ _ b h
  unfold WrD.write
  rw [if_neg hd0]
  refine ⟨⟨q1, q6, fun b hb' => ?_, ?_, fun b hb' => hall b (List.mem_of_mem_drop hb'), ?_, q3, fun h => by cases h⟩, q2.trans hos, fun _ => ⟨rfl, q4 (by simp [hd0])⟩, p, q5'⟩
  · show b.toNat < (w.codes d).2.1.c
    rw [hcc, ← hoc]
    exact hlo b (by rw [q5']; exact List.mem_append_right _ hb')
  · have := congrArg List.length q5'
    have h9 : (p ++ (w.codes d).2.2).length = p.length + (w.codes d).2.2.length := List.length_append
    rw [h9] at this
    show (w.codes d).2.2.length ≤ 2000
    omega
  · show ((w.all d).drop ((w.all d).length / 8 * 8)).length ≤ 7
    rw [List.length_drop]; omega

end Go.Proofs.Ytgbakgaegldomaa

/- Plain: all data written in parts and closed is the stream of Compress, and fails exactly if that does (for FnWriteAll). Conditions: what is known is valid, the data is no longer than 2000 bytes. -/
namespace Go.Proofs.Ytgbakgaegldomaa
set_option linter.unusedVariables false
set_option linter.unusedSimpArgs false
open Go Go.RowKit

theorem fitsB_iff {s : SetD} {d : List UInt8} (h : setOk s = true) (hd : d.length ≤ 2000) : fitsB s d = litsL (clr s) d := by
  unfold fitsB
  rw [h, decide_eq_true hd]
  rfl
end Go.Proofs.Ytgbakgaegldomaa

/- Plain: whether a writer is valid, what WriteData makes of a writer of any kind, and the rounds of its loop (for the writers' laws). Conditions: as each says. -/
namespace Go.Proofs.Ytgbakgaegldomaa
set_option linter.unusedVariables false
set_option linter.unusedSimpArgs false
open Go Go.RowKit

def bitsB (l : List UInt8) : Bool := l.all fun b => decide (b.toNat = 48 ∨ b.toNat = 49)
theorem bitsB_iff {l : List UInt8} : bitsB l = true ↔ isBits l := by
  unfold bitsB isBits
  simp only [List.all_eq_true, decide_eq_true_eq]
/-- What is asked of a writer's text, bits and beginning beside what is known. -/
def wrsB (w : WrD) : Bool := (w.beg || (decide (w.pend = []) && decide (w.bits = []))) && (decide (w.pend = []) || decide (w.k.longest w.pend = w.pend))
def wrvB (w : WrD) : Bool := validK w.k && (fitsB w.k.set w.pend && ((bitsB w.bits && decide (w.bits.length ≤ 7)) && wrsB w))
theorem wrvB_ok {w : WrD} (h : wrvB w = true) : wrOk w := by
  unfold wrvB wrsB at h
  simp only [Bool.and_eq_true, Bool.or_eq_true, decide_eq_true_eq] at h
  obtain ⟨h1, h2, ⟨h3, h4⟩, h5, h6⟩ := h
  obtain ⟨g1, g2⟩ := ok_of_valid h1
  obtain ⟨f1, f2, f3⟩ := fitsB_lits h2
  refine ⟨g1, g2, f3, f2, bitsB_iff.1 h3, h4, h6, fun hb => ?_⟩
  rcases h5 with h5 | h5
  · rw [hb] at h5; cases h5
  · exact h5
theorem wrvB_of {w : WrD} (h : wrOk w) : wrvB w = true := by
  obtain ⟨h1, h2, h3, h4, h5, h6, h7, h8⟩ := h
  unfold wrvB wrsB
  rw [valid_of_ok h1 h2, fitsB_iff h1.set h4, bitsB_iff.2 h5, decide_eq_true h6]
  have hl : litsL (clr w.k.set) w.pend = true := by
    simp only [litsL, List.all_eq_true, decide_eq_true_eq]
    exact h3
  rw [hl]
  simp only [Bool.and_eq_true, Bool.or_eq_true, decide_eq_true_eq, true_and]
  refine ⟨?_, h7⟩
  cases hb : w.beg
  · exact .inr (h8 hb)
  · exact .inl rfl
/-- What WriteData makes of a writer of any kind: a writer and bytes, if the writer is valid and the data fits. -/
def wdO (w : WrD) (d : List UInt8) : Option (WrD × List UInt8) := if wrvB w && fitsB w.k.set (w.pend ++ d) then some (w.write d) else none
/-- The bytes that CloseWriter gives. -/
def wcO (w : WrD) : Option (List UInt8) := if wrvB w then some w.close else none
theorem wdO_none {w : WrD} {d : List UInt8} (h : (wrvB w && fitsB w.k.set (w.pend ++ d)) = false) : wdO w d = none := by unfold wdO; rw [h]; rfl
theorem wdO_some {w : WrD} {d : List UInt8} (h : (wrvB w && fitsB w.k.set (w.pend ++ d)) = true) : wdO w d = some (w.write d) := by unfold wdO; rw [h]; rfl

/-- The loop of WriteData at a round's beginning: what is known, the text that has no code yet, the bits. -/
structure WlD (T : List UInt8 × KnD × List UInt8) (s : SetD) (m : Nat) (k : KnD) (d b : List UInt8) : Prop where
  len : d.length ≤ m
  le : d.length ≤ 2000
  ne : d ≠ []
  sum : b.length + 20 * d.length ≤ 41000
  bit : isBits b
  tot : (b ++ bitsS s.ord k (wrC m k d).1, (wrC m k d).2) = T
  ok : k.Ok
  set : k.set = s
  lit : ∀ x ∈ d, x.toNat < clr s
theorem WlD.stop {T : List UInt8 × KnD × List UInt8} {s : SetD} {m : Nat} {k : KnD} {d b : List UInt8} (h : WlD T s m k d b) (hl : k.longest d = d) : T = (b, k, d) := by
  rw [← h.tot, wrC_stop (.inr hl)]
  show (b ++ [], k, d) = _
  rw [List.append_nil]
theorem WlD.lits {T : List UInt8 × KnD × List UInt8} {s : SetD} {m : Nat} {k : KnD} {d b : List UInt8} (h : WlD T s m k d b) : ∀ x ∈ d, x.toNat < k.c := by
  unfold KnD.c
  rw [h.set]
  exact h.lit
theorem WlD.step {T : List UInt8 × KnD × List UInt8} {s : SetD} {m : Nat} {k : KnD} {d b : List UInt8} (h : WlD T s m k d b) (hl : k.longest d ≠ d) :
    (k.follows (k.find (k.longest d)) = true ∧ k.find (k.longest d) ≠ (k.c : Int) ∧ k.find (k.longest d) ≠ (k.c : Int) + 1 ∧ 1 ≤ (k.longest d).length ∧ (k.longest d).length < d.length) ∧
    ((k.after (k.find (k.longest d))).full = true → WlD T s (m - 1) (k.after (k.find (k.longest d))).cleared (d.drop (k.longest d).length) ((b ++ codeL s.ord (k.find (k.longest d)).toNat k.width) ++ codeL s.ord (clr s) (k.after (k.find (k.longest d))).width)) ∧
    ((k.after (k.find (k.longest d))).full = false → WlD T s (m - 1) (k.after (k.find (k.longest d))) (d.drop (k.longest d).length) (b ++ codeL s.ord (k.find (k.longest d)).toNat k.width)) := by
  have hp := KnD.longest_pos (k := k) h.ne
  have hlt := KnD.longest_lt (k := k) (d := d) hl
  obtain ⟨hf, -⟩ := KnD.find_any h.ok h.ne h.lits
  have hak := KnD.after_ok h.ok hf
  have hc : k.c = clr s := by unfold KnD.c; rw [h.set]
  have hne : k.find (k.longest d) ≠ (k.c : Int) ∧ k.find (k.longest d) ≠ (k.c : Int) + 1 := by
    rcases KnD.follows_cases h.ok hf with hc | ⟨hg, e, hl⟩
    · rw [codeOk_iff] at hc; omega
    · rw [e]; unfold KnD.next; omega
  have h1 := h.len; have h2 := h.le; have h3 := h.sum; have h4 := h.tot
  obtain ⟨n, rfl⟩ : ∃ n, m = n + 1 := ⟨m - 1, by omega⟩
  have hs : ¬ (d = [] ∨ k.longest d = d) := fun e => e.elim h.ne hl
  have hr : d.drop (k.longest d).length ≠ [] := fun e => by
    have := congrArg List.length e
    rw [List.length_drop] at this
    simp at this
    omega
  have hth := KnD.thru_fol h.ok hf
  have hw := KnD.width_bd h.ok
  have hwa := KnD.width_bd hak
  refine ⟨⟨hf, hne.1, hne.2, hp, hlt⟩, fun hfu => ?_, fun hfu => ?_⟩
  · rw [wrC, if_neg hs, if_pos hfu] at h4
    refine ⟨by rw [List.length_drop]; omega, by rw [List.length_drop]; omega, hr, ?_, (h.bit.app (isBits_code _ _ _)).app (isBits_code _ _ _), ?_, KnD.cleared_ok hak, h.set, fun x hx => h.lit x (List.mem_of_mem_drop hx)⟩
    · rw [List.length_append, List.length_append, codeL_length, codeL_length, List.length_drop]; omega
    · rw [← h4]
      show _ = (b ++ (codeL s.ord _ k.width ++ (codeL s.ord (k.c : Int).toNat (k.thru _).width ++ bitsS s.ord ((k.thru _).thru (k.c : Int)) _)), _)
      rw [hth]
      have hcc : (k.after (k.find (k.longest d))).thru (k.c : Int) = (k.after (k.find (k.longest d))).cleared := thru_clear _
      rw [hcc, List.append_assoc, List.append_assoc, Int.toNat_natCast, hc]
      rfl
  · rw [wrC, if_neg hs, if_neg (by rw [hfu]; simp)] at h4
    refine ⟨by rw [List.length_drop]; omega, by rw [List.length_drop]; omega, hr, ?_, h.bit.app (isBits_code _ _ _), ?_, hak, h.set, fun x hx => h.lit x (List.mem_of_mem_drop hx)⟩
    · rw [List.length_append, codeL_length, List.length_drop]; omega
    · rw [← h4]
      show _ = (b ++ (codeL s.ord _ k.width ++ bitsS s.ord (k.thru _) _), _)
      rw [hth, List.append_assoc]
      rfl
theorem open_len {w : WrD} (h : wrOk w) : w.open.1.length ≤ 17 ∧ isBits w.open.1 := by
  have hw := KnD.width_bd h.1
  have h7 := h.2.2.2.2.2.1
  have hb := h.2.2.2.2.1
  unfold WrD.open
  split
  · exact ⟨by show w.bits.length ≤ 17; omega, hb⟩
  · refine ⟨?_, hb.app (isBits_code _ _ _)⟩
    show (w.bits ++ codeL _ _ _).length ≤ 17
    rw [List.length_append, codeL_length]; omega
theorem WlD.start {w : WrD} {d : List UInt8} (h : wrOk w) (hd : d ≠ []) (hl : ∀ x ∈ d, x.toNat < clr w.k.set) (hn : (w.pend ++ d).length ≤ 2000) :
    WlD (w.all d, (w.codes d).2) w.k.set (w.pend ++ d).length w.open.2 (w.pend ++ d) w.open.1 := by
  obtain ⟨hok, hos⟩ := WrD.open_ok h.1
  obtain ⟨o1, o2⟩ := open_len h
  exact ⟨Nat.le_refl _, hn, by simp [hd], by omega, o2, rfl, hok, hos, fun x hx => (List.mem_append.1 hx).elim (h.2.2.1 x) (hl x)⟩

/-- A writer's value. -/
def wrV (w : WrD) (v : Value) : Value := .agg #[.int .i64 w.k.set.ord, .int .i64 w.k.set.lit, .int .i64 w.k.set.most, v, .int .i64 w.k.base, .int .i64 w.k.last, .string (bs w.pend), .string (bs w.bits), .bool w.beg]
def noWr : Value := .agg #[.int .i64 0, .int .i64 0, .int .i64 0, .slice none 0 0, .int .i64 0, .int .i64 0, .string ⟨#[]⟩, .string ⟨#[]⟩, .bool false]
/-- What WriteData leaves. -/
def WdPost (o : Option (WrD × List UInt8)) (w : World) (e : Ending) (w' : World) : Prop := match o with
  | some (x, by') => ∃ v, e = .returned (.tuple #[wrV x v, .string (bs by'), .bool true]) ∧ ownPr w' w.heap.size v x.k.ps ∧ Up w w'
  | none => e = .returned (.tuple #[noWr, .string ⟨#[]⟩, .bool false]) ∧ Up w w'

end Go.Proofs.Ytgbakgaegldomaa

