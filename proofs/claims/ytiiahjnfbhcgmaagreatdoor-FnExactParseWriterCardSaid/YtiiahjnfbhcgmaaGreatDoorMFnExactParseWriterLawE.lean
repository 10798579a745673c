/- Texts joined into one: the walks and laws that the last text leans on. Conditions: as each says. -/
import Derived.Test.YtiiahjnfbhcgmaaGreatDoorKvG
import Derived.Test.YtiiahjnfbhcgmaaGreatDoorRd
import Derived.Test.YtiiahjnfbhcgmaaGreatDoorCleared
import Derived.Test.YtiiahjnfbhcgmaaGreatDoorMFnExactParseWriterLawD
import Derived.Test.YtiiahjnfbhcgmaaGreatDoorMFnExactParseWriterLawB
import Derived.Deep.DeepCutAuto
import Derived.Test.YtiiahjnfbhcgmaaGreatDoorShelf
import Derived.Test.YtiiahjnfbhcgmaaGreatDoorAfter
import Derived.Test.YtiiahjnfbhcgmaaGreatDoorSets
import Derived.Test.YtiiahjnfbhcgmaaGreatDoorUg
import Derived.Test.YtiiahjnfbhcgmaaGreatDoorWk
import Derived.Test.YtiiahjnfbhcgmaaGreatDoorMFnExactParseWriterLawA
import Derived.Test.YtiiahjnfbhcgmaaGreatDoorWrc
import Derived.Test.YtiiahjnfbhcgmaaGreatDoorGw2
import Derived.Test.YtiiahjnfbhcgmaaGreatDoorPk2
import Derived.Test.YtiiahjnfbhcgmaaGreatDoorComp
import Derived.Test.YtiiahjnfbhcgmaaGreatDoorStartW

set_option linter.unusedVariables false
set_option linter.unusedSimpArgs false
/- Plain facts: what is valid is what the walks ask; pairs are read on after draws. Conditions: none. -/
namespace Go.Proofs.YtiiahjnfbhcgmaaGreatDoor
set_option linter.unusedVariables false
set_option linter.unusedSimpArgs false
open Go Go.RowKit

theorem ok_of_valid {k : KnD} (h : validK k = true) : k.Ok ∧ (k.last = -1 → k.base = k.ps.length) := by
  unfold validK at h
  simp only [Bool.and_eq_true] at h
  obtain ⟨h1, h2, h3, h4, h5⟩ := h
  have hc := clr_bd h1
  unfold roomOk at h2
  rw [decide_eq_true_eq] at h2
  rw [inB_iff] at h4
  refine ⟨⟨h1, fun i hi => ?_, ?_, h4.1, h4.2, ?_⟩, fun hl => ?_⟩
  · rw [prOk_get hi]
    unfold pairsOk at h3
    rw [List.all_eq_true] at h3
    have := h3 i (List.mem_range.2 hi)
    rw [List.getD_eq_getElem?_getD, List.getElem?_eq_getElem hi, Option.getD_some] at this
    exact this
  · show k.ps.length + clr k.set + 1 ≤ lastC k.set
    omega
  · unfold lastOk at h5
    split at h5
    · exact .inl ‹_›
    · exact .inr h5
  · unfold lastOk at h5
    rw [if_pos hl] at h5
    simpa using h5

theorem RdP.gr {lo rb : Nat} {w w' : World} {v : Value} {ps : List PairD} (h : RdP lo w v ps) (hg : w.grownBy w' (some rb)) (hl : rb < lo) : RdP lo w' v ps := by
  obtain ⟨a, cap, h1, h2, h2', h2'', h3⟩ := h
  refine ⟨a, cap, h1, h2, h2', h2'', fun hp => ?_⟩
  obtain ⟨b, off, e1, e2, e4, e5⟩ := h3 hp
  have hne : some b ≠ some rb := fun e => by cases e; omega
  exact ⟨b, off, e1, e2, Nat.lt_of_lt_of_le e4 hg.size, fun i p hi => ⟨((gcell hg).1 b _ e4 hne).trans (e5 i p hi).1, ((gcell hg).1 b _ e4 hne).trans (e5 i p hi).2⟩⟩
theorem RdP.set {lo : Nat} {w : World} {v : Value} {ps : List PairD} (h : RdP lo w v ps) {b : Nat} (hl : b < lo) (i : Nat) (u : Value) : RdP lo (w.setCell ⟨b, i, none⟩ u) v ps :=
  h.gr (grownBy_set (grownBy_refl w (some b)) i u) hl

end Go.Proofs.YtiiahjnfbhcgmaaGreatDoor

/- Plain: the texts of settings and of what is known, and reading them. Conditions: none. -/
namespace Go.Proofs.YtiiahjnfbhcgmaaGreatDoor
set_option linter.unusedVariables false
set_option linter.unusedSimpArgs false
open Go

def ordT (o : Int) : List UInt8 := if o = 1 then [104, 105, 103, 104] else [108, 111, 119]
def setL (s : SetD) : List UInt8 := Lib.join [ordT s.ord, Lib.itoa s.lit, Lib.itoa s.most] [32]
theorem joinTail_no {c s : UInt8} (hs : c ≠ s) : ∀ {t : List (List UInt8)}, (∀ x ∈ t, c ∉ x) → c ∉ Lib.joinTail [s] t
  | [], _ => by simp [Lib.joinTail]
  | y :: t, h => by
    rw [joinTail_cons]
    intro hm
    rcases List.mem_cons.1 hm with hm | hm
    · exact hs hm
    · rcases List.mem_append.1 hm with hm | hm
      · exact h y (List.mem_cons_self ..) hm
      · exact joinTail_no hs (fun z hz => h z (List.mem_cons_of_mem _ hz)) hm
theorem join_no {c s : UInt8} {xs : List (List UInt8)} (h : ∀ x ∈ xs, c ∉ x) (hs : c ≠ s) : c ∉ Lib.join xs [s] := by
  cases xs with
  | nil => simp [Lib.join_nil]
  | cons x t =>
    rw [Lib.join_cons]
    intro hm
    rcases List.mem_append.1 hm with hm | hm
    · exact h x (List.mem_cons_self ..) hm
    · exact joinTail_no hs (fun y hy => h y (List.mem_cons_of_mem _ hy)) hm
theorem join3_len (a b c : List UInt8) (s : UInt8) : (Lib.join [a, b, c] [s]).length = a.length + b.length + c.length + 2 := by
  simp [Lib.join_cons, Lib.joinTail]; omega
theorem join4_len (a b c d : List UInt8) (s : UInt8) : (Lib.join [a, b, c, d] [s]).length = a.length + b.length + c.length + d.length + 3 := by
  simp [Lib.join_cons, Lib.joinTail]; omega
/-- What FormatSetting returns. -/
def fmtSet (s : SetD) : List UInt8 := if setOk s then setL s else []
def ordP (l : List UInt8) : Option Int := if l = [108, 111, 119] then some 0 else if l = [104, 105, 103, 104] then some 1 else none
def set3 (a b c : List UInt8) : Option SetD := match ordP a, numP b, numP c with
  | some o, some l, some m => if setOk ⟨o, l, m⟩ then some ⟨o, l, m⟩ else none
  | _, _, _ => none
/-- What ParseSetting returns. -/
def prsSet (t : List UInt8) : Option SetD := match splL 32 t with
  | [a, b, c] => set3 a b c
  | _ => none
theorem ordP_text {l : List UInt8} {o : Int} (h : ordP l = some o) : l = ordT o := by
  unfold ordP at h
  split at h
  · rename_i e; simp only [Option.some.injEq] at h; subst h; rw [e]; rfl
  · split at h
    · rename_i e; simp only [Option.some.injEq] at h; subst h; rw [e]; rfl
    · cases h
theorem ordP_fmt {o : Int} (h : o = 0 ∨ o = 1) : ordP (ordT o) = some o := by
  rcases h with rfl | rfl <;> rfl
theorem itoa_no' {c : UInt8} (n : Int) (h : (c == 45 || (decide (48 ≤ c.toNat) && decide (c.toNat ≤ 57))) = false) : c ∉ Lib.itoa n := by
  simp only [Bool.or_eq_false_iff, Bool.and_eq_false_iff, beq_eq_false_iff_ne, decide_eq_false_iff_not] at h
  exact itoa_no n h.1 (by omega)
theorem fmtSet_prs {t : List UInt8} {s : SetD} (h : prsSet t = some s) : fmtSet s = t ∧ setOk s = true := by
  unfold prsSet at h
  split at h
  · rename_i a b c hx
    unfold set3 at h
    split at h
    · rename_i o l m h1 h2 h3
      split at h
      · rename_i hv
        simp only [Option.some.injEq] at h
        subst h
        refine ⟨?_, hv⟩
        unfold fmtSet
        rw [hv, if_pos rfl]
        unfold setL
        rw [← ordP_text h1, ← numP_text h2, ← numP_text h3, ← hx]
        exact join_splL 32 t
      · cases h
    · cases h
  · cases h
theorem setOk_small {s : SetD} (h : setOk s = true) : (s.ord = 0 ∨ s.ord = 1) ∧ 1 ≤ s.lit ∧ s.lit ≤ 8 ∧ 3 ≤ s.most ∧ s.most ≤ 10 := by
  obtain ⟨h1, h2, h3, h4⟩ := setOk_bd h
  exact ⟨h1, h2.1, h2.2, by omega, h4⟩
theorem fmtSet_spl {s : SetD} (h : setOk s = true) : splL 32 (fmtSet s) = [ordT s.ord, Lib.itoa s.lit, Lib.itoa s.most] := by
  unfold fmtSet
  rw [h, if_pos rfl]
  unfold setL
  refine splL_join (by simp) fun x hx => ?_
  simp only [List.mem_cons, List.not_mem_nil, or_false] at hx
  rcases hx with rfl | rfl | rfl
  · unfold ordT; split <;> decide
  · exact itoa_no' _ (by decide)
  · exact itoa_no' _ (by decide)
theorem prsSet_fmt {s : SetD} (h : setOk s = true) : prsSet (fmtSet s) = some s := by
  obtain ⟨h1, h2, h3, h4, h5⟩ := setOk_small h
  unfold prsSet
  rw [fmtSet_spl h]
  simp only [set3, ordP_fmt h1, numP_itoa (n := s.lit) (by omega) (by omega), numP_itoa (n := s.most) (by omega) (by omega)]
  rw [if_pos h]
theorem fmtSet_no {s : SetD} {c : UInt8} (hc : (c == 45 || (decide (48 ≤ c.toNat) && decide (c.toNat ≤ 57))) = false) (h1 : c ∉ ordT 0) (h2 : c ∉ ordT 1) (h3 : c ≠ 32) : c ∉ fmtSet s := by
  unfold fmtSet
  split
  · have ho : c ∉ ordT s.ord := by unfold ordT at *; split <;> assumption
    unfold setL
    refine join_no (fun x hx => ?_) h3
    simp only [List.mem_cons, List.not_mem_nil, or_false] at hx
    rcases hx with rfl | rfl | rfl
    · exact ho
    · exact itoa_no' _ hc
    · exact itoa_no' _ hc
  · simp
theorem fmtSet_le (s : SetD) : (fmtSet s).length ≤ 50 := by
  unfold fmtSet
  split
  · rename_i h
    obtain ⟨h1, h2, h3, h4, h5⟩ := setOk_small h
    have e1 := itoa_le (n := s.lit) (by omega) (by omega)
    have e2 := itoa_le (n := s.most) (by omega) (by omega)
    have e3 : (ordT s.ord).length ≤ 4 := by unfold ordT; split <;> decide
    unfold setL
    rw [join3_len]
    omega
  · simp

/-- The text of a pair. -/
def pairT (p : PairD) : List UInt8 := Lib.itoa p.pre ++ 46 :: Lib.itoa p.byt
def prsT (ps : List PairD) : List UInt8 := Lib.join (ps.map pairT) [44]
def knL (k : KnD) : List UInt8 := Lib.join [fmtSet k.set, Lib.itoa k.base, Lib.itoa k.last, someL (prsT k.ps)] [59]
/-- What FormatKnown returns. -/
def fmtK (k : KnD) : List UInt8 := if validK k then knL k else []
def prP (l : List UInt8) : Option PairD := (pairP 46 l).map fun p => ⟨p.1, p.2⟩
def prsP (d : List UInt8) : Option (List PairD) := if d = [45] then some [] else allP prP (splL 44 d)
def kn4 (a b c d : List UInt8) : Option KnD := match prsSet a, numP b, numP c with
  | some s, some ba, some la => match prsP d with
    | some ps => if validK ⟨s, ps, ba, la⟩ then some ⟨s, ps, ba, la⟩ else none
    | none => none
  | _, _, _ => none
/-- What ParseKnown returns. -/
def prsK (t : List UInt8) : Option KnD := match splL 59 t with
  | [a, b, c, d] => kn4 a b c d
  | _ => none
theorem prP_text {l : List UInt8} {p : PairD} (h : prP l = some p) : l = pairT p := by
  unfold prP at h
  obtain ⟨⟨a, b⟩, h1, rfl⟩ := Option.map_eq_some_iff.1 h
  exact pairP_text h1
theorem prsP_text {d : List UInt8} {ps : List PairD} (h : prsP d = some ps) : d = someL (prsT ps) := by
  unfold prsP at h
  split at h
  · rename_i e
    simp only [Option.some.injEq] at h
    subst h; rw [e]; rfl
  · have ht := allP_text h (fun x y => prP_text)
    have hj : prsT ps = d := by unfold prsT; rw [← ht]; exact join_splL 44 d
    rw [hj]
    unfold someL
    rw [if_neg]
    rintro rfl
    have := allP_iff.1 h
    cases ps with
    | nil => simp [splL] at this
    | cons p r =>
      simp only [splL, List.map_cons, List.map_nil, List.cons.injEq] at this
      exact absurd this.1 (by simp [prP, pairP, cutL])
theorem fmtK_prs {t : List UInt8} {k : KnD} (h : prsK t = some k) : fmtK k = t ∧ validK k = true := by
  unfold prsK at h
  split at h
  · rename_i a b c d hx
    unfold kn4 at h
    split at h
    · rename_i s ba la h1 h2 h3
      split at h
      · rename_i ps h4
        split at h
        · rename_i hv
          simp only [Option.some.injEq] at h
          subst h
          refine ⟨?_, hv⟩
          unfold fmtK
          rw [hv, if_pos rfl]
          unfold knL
          simp only []
          rw [(fmtSet_prs h1).1, ← numP_text h2, ← numP_text h3, ← prsP_text h4, ← hx]
          exact join_splL 59 t
        · cases h
      · cases h
    · cases h
  · cases h
/-- The bounds of what is known and valid. -/
theorem validK_small {k : KnD} (h : validK k = true) : setOk k.set = true ∧ k.ps.length ≤ 1024 ∧ (0 ≤ k.base ∧ k.base ≤ 1024) ∧ (-1 ≤ k.last ∧ k.last ≤ 2000) ∧ ∀ p ∈ k.ps, 0 ≤ p.pre ∧ p.pre ≤ 2000 ∧ 0 ≤ p.byt ∧ p.byt ≤ 255 := by
  obtain ⟨hok, -⟩ := ok_of_valid h
  have h1 := hok.c_bd
  have h2 := hok.len
  have h3 := hok.base0
  have h4 := hok.base1
  have hcb := clr_bd hok.set
  refine ⟨hok.set, by omega, by omega, ?_, fun p hp => ?_⟩
  · rcases hok.last with e | e
    · omega
    · rw [codeOk_iff] at e; omega
  · obtain ⟨i, hi, rfl⟩ := List.getElem_of_mem hp
    obtain ⟨a, b, c⟩ := hok.ps.get hi
    rw [codeOk_iff] at a
    omega
theorem pairT_chr {c : UInt8} (p : PairD) (hc : (c == 45 || (decide (48 ≤ c.toNat) && decide (c.toNat ≤ 57))) = false) (h : c ≠ 46) : c ∉ pairT p := by
  intro hm
  rcases List.mem_append.1 hm with hm | hm
  · exact itoa_no' _ hc hm
  · rcases List.mem_cons.1 hm with hm | hm
    · exact h hm
    · exact itoa_no' _ hc hm
theorem prsT_dot {p : PairD} {r : List PairD} : (46 : UInt8) ∈ prsT (p :: r) := by
  unfold prsT
  rw [List.map_cons, Lib.join_cons]
  exact List.mem_append_left _ (by simp [pairT])
theorem prsT_some {p : PairD} {r : List PairD} : someL (prsT (p :: r)) = prsT (p :: r) ∧ prsT (p :: r) ≠ [45] := by
  have hd := @prsT_dot p r
  refine ⟨?_, fun e => ?_⟩
  · unfold someL
    rw [if_neg]
    intro e
    rw [e] at hd; simp at hd
  · rw [e] at hd
    exact absurd hd (by decide)
theorem prsT_spl {p : PairD} {r : List PairD} : splL 44 (prsT (p :: r)) = (p :: r).map pairT :=
  splL_join (by simp) (fun x hx => by
    obtain ⟨q, -, rfl⟩ := List.mem_map.1 hx
    exact pairT_chr q (by decide) (by decide))
theorem prsP_fmt {ps : List PairD} (h : ∀ p ∈ ps, 0 ≤ p.pre ∧ p.pre ≤ 2000 ∧ 0 ≤ p.byt ∧ p.byt ≤ 255) : prsP (someL (prsT ps)) = some ps := by
  cases ps with
  | nil => rfl
  | cons p r =>
    obtain ⟨e1, e2⟩ := @prsT_some p r
    rw [e1]
    unfold prsP
    rw [if_neg e2, prsT_spl, allP_map (q := fun p => p) (fun q hq => by
      obtain ⟨a, b, c, d⟩ := h q hq
      unfold prP pairT
      rw [pairP_fmt (by decide) (.inl (by decide)) (by omega) (by omega) (by omega) (by omega)]
      rfl)]
    simp
theorem someL_no {c : UInt8} {l : List UInt8} (h : c ∉ l) (hc : c ≠ 45) : c ∉ someL l := by
  unfold someL
  split
  · intro e; exact hc (by simpa using e)
  · exact h
theorem prsT_no {c : UInt8} {ps : List PairD} (hc : (c == 45 || (decide (48 ≤ c.toNat) && decide (c.toNat ≤ 57))) = false) (h : c ≠ 46) (h2 : c ≠ 44) : c ∉ prsT ps :=
  join_no (fun x hx => by
    obtain ⟨q, -, rfl⟩ := List.mem_map.1 hx
    exact pairT_chr q hc h) h2
theorem knL_spl (k : KnD) : splL 59 (knL k) = [fmtSet k.set, Lib.itoa k.base, Lib.itoa k.last, someL (prsT k.ps)] := by
  unfold knL
  refine splL_join (by simp) fun x hx => ?_
  simp only [List.mem_cons, List.not_mem_nil, or_false] at hx
  rcases hx with rfl | rfl | rfl | rfl
  · exact fmtSet_no (by decide) (by decide) (by decide) (by decide)
  · exact itoa_no' _ (by decide)
  · exact itoa_no' _ (by decide)
  · exact someL_no (prsT_no (by decide) (by decide) (by decide)) (by decide)
theorem fmtK_spl {k : KnD} (h : validK k = true) : splL 59 (fmtK k) = [fmtSet k.set, Lib.itoa k.base, Lib.itoa k.last, someL (prsT k.ps)] := by
  unfold fmtK
  rw [h, if_pos rfl]
  exact knL_spl k
theorem prsK_fmt {k : KnD} (h : validK k = true) : prsK (fmtK k) = some k := by
  obtain ⟨h1, h2, h3, h4, h5⟩ := validK_small h
  unfold prsK
  rw [fmtK_spl h]
  simp only [kn4, prsSet_fmt h1, numP_itoa (n := k.base) (by omega) (by omega), numP_itoa (n := k.last) (by omega) (by omega), prsP_fmt h5]
  rw [if_pos h]

/-- A pair as the reference reads it. -/
def prR (l : List UInt8) : PairD := match cutL 46 l with
  | none => ⟨-1, 0⟩
  | some (x, y) => match numR x, numR y with
    | some a, some b => ⟨a, b⟩
    | _, _ => ⟨-1, 0⟩
def lenP (d : List UInt8) : List PairD := if d = [45] then [] else (splL 44 d).map prR
/-- What the reference's ParseKnown reads before it asks whether the text is that of what it has read. -/
def lenK (t : List UInt8) : Option KnD := match splL 59 t with
  | [a, b, c, d] => some ⟨(prsSet a).getD ⟨0, 0, 0⟩, lenP d, (numR b).getD 0, (numR c).getD 0⟩
  | _ => none
theorem lenP_fmt {ps : List PairD} (h : ∀ p ∈ ps, 0 ≤ p.pre ∧ p.pre ≤ 2000 ∧ 0 ≤ p.byt ∧ p.byt ≤ 255) : lenP (someL (prsT ps)) = ps := by
  cases ps with
  | nil => rfl
  | cons p r =>
    obtain ⟨e1, e2⟩ := @prsT_some p r
    rw [e1]
    unfold lenP
    rw [if_neg e2, prsT_spl, List.map_map]
    conv => rhs; rw [← List.map_id (p :: r)]
    refine List.map_congr_left fun q hq => ?_
    obtain ⟨a, b, c, d⟩ := h q hq
    simp only [Function.comp, prR, pairT, cutL_app (itoa_no' q.pre (c := 46) (by decide)), numR_itoa (n := q.pre) (by omega) (by omega), numR_itoa (n := q.byt) (by omega) (by omega)]
    rfl
theorem lenK_fmt {k : KnD} (h : validK k = true) : lenK (fmtK k) = some k := by
  obtain ⟨h1, h2, h3, h4, h5⟩ := validK_small h
  unfold lenK
  rw [fmtK_spl h]
  simp only [prsSet_fmt h1, numR_itoa (n := k.base) (by omega) (by omega), numR_itoa (n := k.last) (by omega) (by omega), lenP_fmt h5, Option.getD_some]
theorem prsK_len (t : List UInt8) : prsK t = match lenK t with
    | some k => if fmtK k = t then some k else none
    | none => none := by
  cases hp : prsK t with
  | some k =>
    obtain ⟨h1, h2⟩ := fmtK_prs hp
    subst h1
    rw [lenK_fmt h2]
    simp
  | none =>
    cases hl : lenK t with
    | none => rfl
    | some k =>
      simp only []
      split
      · rename_i he
        subst he
        cases hv : validK k with
        | true => rw [prsK_fmt hv] at hp; cases hp
        | false =>
          have : fmtK k = [] := by unfold fmtK; rw [hv]; rfl
          rw [this] at hl
          cases hl
      · rfl


end Go.Proofs.YtiiahjnfbhcgmaaGreatDoor

/- FormatSetting and FormatKnown of the reference. Conditions: the pairs can be read, at most 2^30. -/
namespace Go.Proofs.YtiiahjnfbhcgmaaGreatDoor
set_option linter.unusedVariables false
set_option linter.unusedSimpArgs false
open Go Go.RowKit

theorem setL_bs (s : SetD) : ((bs (ordT s.ord) ++ (⟨#[32]⟩ : ByteArray)) ++ bs (Lib.itoa s.lit) ++ (⟨#[32]⟩ : ByteArray)) ++ bs (Lib.itoa s.most) = bs (setL s) := by
  rw [show (⟨#[32]⟩ : ByteArray) = bs [32] from rfl]
  simp [bs_app, setL, Lib.join_cons, Lib.joinTail]
set_option maxRecDepth 100000 in
set_option maxHeartbeats 1000000 in
theorem fsetS_any (s : SetD) (w : World) : Calls Tryz.prog 141  #[setV s] w (Same (.string (bs (fmtSet s))) w) := by
  have cS := fun w => setS_any s.ord s.lit s.most w
  rw [setD_eta] at cS
  cases h : setOk s
  · have e : Hid (fmtSet s = []) := by unfold Hid fmtSet; rw [h]; rfl
    rw [h] at cS
    rw [e.out]
    clear h
    simp only [setV] at *
    go_enter Tryz.func141, Tryz.ntmps141
    go_wp2_with ((go_at_call 126; (with_reducible refine (cS _).mono ?_); rintro e w1 ⟨rfl, U1⟩; have B1 := bcell U1; have Z1 := U1.size; (try simp at Z1); (try rw [Nat.add_one_le_iff] at Z1)))
    go_ret
    exact ⟨rfl, by (repeat (first | with_reducible exact Up.refl _ | with_reducible assumption | with_reducible refine Up.set ?_ (by first | exact Nat.le_refl _ | (simp only []; omega) | (simp; omega)) _ | with_reducible refine Up.alloc ?_ _ | with_reducible refine Up.drew ?_ | refine Up.trans ?_ (by with_reducible assumption)))⟩
  · obtain ⟨h1, h2, h3, h4, h5⟩ := setOk_small h
    have e : Hid (fmtSet s = setL s) := by unfold Hid fmtSet; rw [h]; rfl
    rw [h] at cS
    rw [e.out]
    have HX := Lib.hid (setL_bs s)
    have cA := fun wx => dec_any s.lit wx (by omega) (by omega)
    have cB := fun wx => dec_any s.most wx (by omega) (by omega)
    have lA := itoa_le (n := s.lit) (by omega) (by omega)
    have lB := itoa_le (n := s.most) (by omega) (by omega)
    have zA := bs_size (Lib.itoa s.lit)
    have zB := bs_size (Lib.itoa s.most)
    clear h e
    generalize Lib.itoa s.lit = A at *
    generalize Lib.itoa s.most = B at *
    simp only [setV] at *
    rcases h1 with ho | ho
    all_goals
      first
        | have HO : Hid (bs (ordT s.ord) ++ (⟨#[32]⟩ : ByteArray) = (⟨#[108, 111, 119, 32]⟩ : ByteArray)) := by unfold Hid; rw [ho]; rfl
        | have HO : Hid (bs (ordT s.ord) ++ (⟨#[32]⟩ : ByteArray) = (⟨#[104, 105, 103, 104, 32]⟩ : ByteArray)) := by unfold Hid; rw [ho]; rfl
      rw [ho] at cS
      rw [ho]
      go_enter Tryz.func141, Tryz.ntmps141
      go_wp2_with ((go_at_call 126; (with_reducible refine (cS _).mono ?_); rintro e w1 ⟨rfl, U1⟩; have B1 := bcell U1; have Z1 := U1.size; (try simp at Z1); (try rw [Nat.add_one_le_iff] at Z1)))
      refine wp_region_up 10 (by kernel_rfl) (by kernel_rfl) ?_
      simp only [List.take, List.drop]
      repeat (refine wpUp_step (fun K hK => ?_); go_simp; (try simp only [↓IntWalk.iteOmega]); first
        | (refine hK _ _ ?_; clear hK K)
        | (apply stepU_c
           · intro wq hwq; (have hbq := bcell hwq; (repeat (first | refine fills_no (by rfl) ?_ | refine fills_yes (by rfl) (fun vq hvq => ?_))); simp only [List.filter_nil, fills]; unfold upAt; go_simp; (try go_bits); (try simp only [↓IntWalk.iteOmega]); (try (rw [dif_pos (by omega)]; go_simp; try go_bits)); first | exact upOut_value | (apply upOut_call; (go_at_call 105; first | with_reducible exact cA _ | with_reducible exact cB _)) | (apply upOut_eq; (go_at_call 105; first | with_reducible exact cA _ | with_reducible exact cB _)))
           go_simp; refine hK _ _ ?_; clear hK K))
      refine wpUp_nil (fun wq hwq => ?_)
      simp only [fills]
      go_wp2
      go_ret
      exact ⟨by rw [← HX.out, HO.out]; rfl, by (repeat (first | with_reducible exact Up.refl _ | with_reducible assumption | with_reducible refine Up.set ?_ (by first | exact Nat.le_refl _ | (simp only []; omega) | (simp; omega)) _ | with_reducible refine Up.alloc ?_ _ | with_reducible refine Up.drew ?_ | refine Up.trans ?_ (by with_reducible assumption)))⟩
theorem prsT_one {ps : List PairD} (h : 0 < ps.length) : prsT (ps.take (0 + 1)) = pairT ps[0] := by
  rw [List.take_succ_eq_append_getElem h]
  simp [prsT, Lib.join_one]
theorem prsT_succ {ps : List PairD} {k : Nat} (h0 : 0 < k) (h : k < ps.length) : prsT (ps.take (k + 1)) = prsT (ps.take k) ++ [44] ++ pairT ps[k] := by
  rw [List.take_succ_eq_append_getElem h]
  unfold prsT
  rw [List.map_append, List.map_singleton, join_snoc _ _ _ (by intro e; have := congrArg List.length e; simp only [List.length_map, List.length_take, List.length_nil] at this; omega)]
theorem pairT_le {p : PairD} (h : 0 ≤ p.pre ∧ p.pre ≤ 2000 ∧ 0 ≤ p.byt ∧ p.byt ≤ 255) : (pairT p).length ≤ 43 := by
  have h1 := itoa_le (n := p.pre) (by omega) (by omega)
  have h2 := itoa_le (n := p.byt) (by omega) (by omega)
  simp only [pairT, List.length_append, List.length_cons]
  omega
theorem prsT_le {ps : List PairD} (hl : ps.length ≤ 1024) (h : ∀ p ∈ ps, 0 ≤ p.pre ∧ p.pre ≤ 2000 ∧ 0 ≤ p.byt ∧ p.byt ≤ 255) (k : Nat) : (prsT (ps.take k)).length ≤ 45056 := by
  have h1 := join_le 43 ((ps.take k).map pairT) 44 (fun x hx => by
    obtain ⟨p, hp, rfl⟩ := List.mem_map.1 hx
    exact pairT_le (h p (List.mem_of_mem_take hp)))
  have h3 : ((ps.take k).map pairT).length ≤ 1024 := by rw [List.length_map, List.length_take]; omega
  unfold prsT
  have := Nat.mul_le_mul_left 44 h3
  omega
theorem someL_le {l : List UInt8} {n : Nat} (h : l.length ≤ n) (hn : 1 ≤ n) : (someL l).length ≤ n := by
  unfold someL; split
  · exact hn
  · exact h
theorem fmtK_le (k : KnD) : (fmtK k).length ≤ 46000 := by
  unfold fmtK
  split
  · rename_i hv
    obtain ⟨h1, h2, h3, h4, h5⟩ := validK_small hv
    have e1 := fmtSet_le k.set
    have e2 := itoa_le (n := k.base) (by omega) (by omega)
    have e3 := itoa_le (n := k.last) (by omega) (by omega)
    have e4 := prsT_le h2 h5 k.ps.length
    rw [List.take_length] at e4
    have e5 := someL_le e4 (by omega)
    unfold knL
    rw [join4_len]
    omega
  · simp
theorem knL_bs (k : KnD) : ((bs (fmtSet k.set) ++ (⟨#[59]⟩ : ByteArray)) ++ bs (Lib.itoa k.base) ++ (⟨#[59]⟩ : ByteArray) ++ bs (Lib.itoa k.last) ++ (⟨#[59]⟩ : ByteArray)) ++ bs (someL (prsT k.ps)) = bs (knL k) := by
  rw [show (⟨#[59]⟩ : ByteArray) = bs [59] from rfl]
  simp [bs_app, knL, Lib.join_cons, Lib.joinTail]
def RelFk (k : KnD) (v : Value) (w : World) (b : Nat) (out i : Value) (wr : World) : Prop := ∃ j : Nat, j ≤ k.ps.length ∧ i = .int .i64 j ∧ out = .string (bs (prsT (k.ps.take j))) ∧ Up w wr ∧ KnAt b k v wr

set_option maxRecDepth 100000 in
set_option maxHeartbeats 8000000 in
theorem fkS_any (k : KnD) (v : Value) (lo : Nat) (w : World) (hr : RdP lo w v k.ps) (hps : k.ps.length ≤ 1073741824) :
    Calls Tryz.prog 72  #[kV k v] w (Same (.string (bs (fmtK k))) w) := by
  have cV := fun wx h => kvS_gen k v lo wx h hps
  have hrt := fun (wq : World) (hu : Up w wq) => hr.up hu
  obtain ⟨a, cap, rfl, hc1, hc2, hc3, hsome⟩ := hr
  unfold maxLen at hc2
  cases hv : validK k
  · have e : Hid (fmtK k = []) := by unfold Hid fmtK; rw [hv]; rfl
    rw [hv] at cV
    rw [e.out]
    clear hv hsome hc3
    simp only [kV] at *
    go_enter Tryz.func72, Tryz.ntmps72
    go_wp2_with ((go_at_call 123; (with_reducible refine (cV _ (hrt _ (by (repeat (first | with_reducible exact Up.refl _ | with_reducible assumption | with_reducible refine Up.set ?_ (by first | exact Nat.le_refl _ | (simp only []; omega) | (simp; omega)) _ | with_reducible refine Up.alloc ?_ _ | with_reducible refine Up.drew ?_ | refine Up.trans ?_ (by with_reducible assumption)))))).mono ?_); rintro e w1 ⟨rfl, U1⟩; have B1 := bcell U1; have Z1 := U1.size; (try simp at Z1); (try rw [Nat.add_one_le_iff] at Z1)))
    go_ret
    exact ⟨rfl, by (repeat (first | with_reducible exact Up.refl _ | with_reducible assumption | with_reducible refine Up.set ?_ (by first | exact Nat.le_refl _ | (simp only []; omega) | (simp; omega)) _ | with_reducible refine Up.alloc ?_ _ | with_reducible refine Up.drew ?_ | refine Up.trans ?_ (by with_reducible assumption)))⟩
  · obtain ⟨h1, h2, h3, h4, h5⟩ := validK_small hv
    have e : Hid (fmtK k = knL k) := by unfold Hid fmtK; rw [hv]; rfl
    have hr := Lib.hid h5
    have hle := Lib.hid (prsT_le h2 h5)
    have cF := fun wx => fsetS_any k.set wx
    have zF := fmtSet_le k.set
    rw [hv] at cV
    rw [e.out]
    have HX := Lib.hid (knL_bs k)
    clear hv h5
    simp only [kV, setV] at *
    go_enter Tryz.func72, Tryz.ntmps72
    go_wp2_with ((go_at_call 123; (with_reducible refine (cV _ (hrt _ (by (repeat (first | with_reducible exact Up.refl _ | with_reducible assumption | with_reducible refine Up.set ?_ (by first | exact Nat.le_refl _ | (simp only []; omega) | (simp; omega)) _ | with_reducible refine Up.alloc ?_ _ | with_reducible refine Up.drew ?_ | refine Up.trans ?_ (by with_reducible assumption)))))).mono ?_); rintro e w1 ⟨rfl, U1⟩; have B1 := bcell U1; have Z1 := U1.size; (try simp at Z1); (try rw [Nat.add_one_le_iff] at Z1)))
    have hU1 : Up w w1 := by (repeat (first | with_reducible exact Up.refl _ | with_reducible assumption | with_reducible refine Up.set ?_ (by first | exact Nat.le_refl _ | (simp only []; omega) | (simp; omega)) _ | with_reducible refine Up.alloc ?_ _ | with_reducible refine Up.drew ?_ | refine Up.trans ?_ (by with_reducible assumption)))
    have hKA : KnAt w.heap.size k (.slice a k.ps.length cap) w1 := box_up U1 (MapKept.heap_alloc w _).1
    clear cV B1 Z1 U1
    go_loopw [3, 4] (fun out i wr => RelFk k (.slice a k.ps.length cap) w w.heap.size out i wr) (fun _ i _ => k.ps.length - (intOf i).toNat)
    case atStart => exact ⟨0, Nat.zero_le _, rfl, rfl, hU1, hKA⟩
    case round =>
      clear hU1 hKA
      obtain ⟨j, hj, rfl, rfl, hup, hkn⟩ := hrel
      have hJ := hle.out j
      have zJ := bs_size (prsT (k.ps.take j))
      obtain ⟨b0, r0, r1, r2, r3, r4, r5⟩ := hkn.cells
      have HKN := Lib.hid hkn
      clear hkn
      by_cases hlt : j < k.ps.length
      · obtain ⟨b, off, rfl, hlo, hbl, hcells⟩ := hsome (by omega)
        obtain ⟨q0, q1⟩ := hcells j k.ps[j] (List.getElem?_eq_getElem hlt)
        have p0 := (hup.cell (p := ⟨b, off + j * 2, none⟩) hbl).trans q0
        have p1 := (hup.cell (p := ⟨b, off + j * 2 + 1, none⟩) hbl).trans q1
        have hbw := Nat.lt_of_lt_of_le hbl hup.size
        obtain ⟨n1, n2, n3, n4⟩ := hr.out k.ps[j] (List.getElem_mem _)
        have cA := fun wx => dec_any k.ps[j].pre wx (by omega) (by omega)
        have cB := fun wx => dec_any k.ps[j].byt wx (by omega) (by omega)
        have lA := itoa_le (n := k.ps[j].pre) (by omega) (by omega)
        have lB := itoa_le (n := k.ps[j].byt) (by omega) (by omega)
        have zA := bs_size (Lib.itoa k.ps[j].pre)
        have zB := bs_size (Lib.itoa k.ps[j].byt)
        clear hcells q0 q1
        by_cases h0 : 0 < j
        · have HY : Hid (((bs (prsT (k.ps.take j)) ++ (⟨#[44]⟩ : ByteArray)) ++ bs (Lib.itoa k.ps[j].pre) ++ (⟨#[46]⟩ : ByteArray)) ++ bs (Lib.itoa k.ps[j].byt) = bs (prsT (k.ps.take (j + 1)))) := by
            unfold Hid
            rw [prsT_succ h0 hlt, show (⟨#[44]⟩ : ByteArray) = bs [44] from rfl, show (⟨#[46]⟩ : ByteArray) = bs [46] from rfl]
            simp [bs_app, pairT]
          generalize prsT (k.ps.take j) = J at *
          generalize Lib.itoa k.ps[j].pre = A at *
          generalize Lib.itoa k.ps[j].byt = B at *
          generalize k.ps[j].pre = x at *
          generalize k.ps[j].byt = y at *
          clear hr hle cF HX
          go_wp2
          refine wp_region_up 18 (by kernel_rfl) (by kernel_rfl) ?_
          simp only [List.take, List.drop]
          repeat (refine wpUp_step (fun K hK => ?_); go_simp; (try simp only [↓IntWalk.iteOmega]); first
            | (refine hK _ _ ?_; clear hK K)
            | (apply stepU_c
               · intro wq hwq; (have hbq := bcell hwq; (repeat (first | refine fills_no (by rfl) ?_ | refine fills_yes (by rfl) (fun vq hvq => ?_))); simp only [List.filter_nil, fills]; unfold upAt; go_simp; (try go_bits); (try simp only [↓IntWalk.iteOmega]); (try (rw [dif_pos (by omega)]; go_simp; try go_bits)); first | exact upOut_value | (apply upOut_call; (go_at_call 105; first | with_reducible exact cA _ | with_reducible exact cB _)) | (apply upOut_eq; (go_at_call 105; first | with_reducible exact cA _ | with_reducible exact cB _)))
               go_simp; refine hK _ _ ?_; clear hK K))
          refine wpUp_nil (fun wq hwq => ?_)
          simp only [fills]
          go_wp2
          go_roundw
          case rel => exact ⟨j + 1, by omega, by go_num, by rw [← HY.out], by (repeat (first | with_reducible exact Up.refl _ | with_reducible assumption | with_reducible refine Up.set ?_ (by first | exact Nat.le_refl _ | (simp only []; omega) | (simp; omega)) _ | with_reducible refine Up.alloc ?_ _ | with_reducible refine Up.drew ?_ | refine Up.trans ?_ (by with_reducible assumption))), box_up hwq HKN.out⟩
          case measure => simp [intOf]; omega
        · have hj0 : j = 0 := by omega
          subst hj0
          simp only [Nat.zero_mul, Nat.add_zero] at p0 p1
          have HY : Hid ((bs (prsT (k.ps.take 0)) ++ bs (Lib.itoa k.ps[0].pre) ++ (⟨#[46]⟩ : ByteArray)) ++ bs (Lib.itoa k.ps[0].byt) = bs (prsT (k.ps.take (0 + 1)))) := by
            unfold Hid
            rw [prsT_one hlt, show (⟨#[46]⟩ : ByteArray) = bs [46] from rfl]
            simp [bs_app, pairT, prsT, Lib.join_nil]
          generalize prsT (k.ps.take 0) = J at *
          generalize Lib.itoa k.ps[0].pre = A at *
          generalize Lib.itoa k.ps[0].byt = B at *
          generalize k.ps[0].pre = x at *
          generalize k.ps[0].byt = y at *
          clear hr hle cF HX
          go_wp2
          refine wp_region_up 18 (by kernel_rfl) (by kernel_rfl) ?_
          simp only [List.take, List.drop]
          repeat (refine wpUp_step (fun K hK => ?_); go_simp; (try simp only [↓IntWalk.iteOmega]); first
            | (refine hK _ _ ?_; clear hK K)
            | (apply stepU_c
               · intro wq hwq; (have hbq := bcell hwq; (repeat (first | refine fills_no (by rfl) ?_ | refine fills_yes (by rfl) (fun vq hvq => ?_))); simp only [List.filter_nil, fills]; unfold upAt; go_simp; (try go_bits); (try simp only [↓IntWalk.iteOmega]); (try (rw [dif_pos (by omega)]; go_simp; try go_bits)); first | exact upOut_value | (apply upOut_call; (go_at_call 105; first | with_reducible exact cA _ | with_reducible exact cB _)) | (apply upOut_eq; (go_at_call 105; first | with_reducible exact cA _ | with_reducible exact cB _)))
               go_simp; refine hK _ _ ?_; clear hK K))
          refine wpUp_nil (fun wq hwq => ?_)
          simp only [fills]
          go_wp2
          go_roundw
          case rel => exact ⟨0 + 1, by omega, by go_num, by rw [← HY.out], by (repeat (first | with_reducible exact Up.refl _ | with_reducible assumption | with_reducible refine Up.set ?_ (by first | exact Nat.le_refl _ | (simp only []; omega) | (simp; omega)) _ | with_reducible refine Up.alloc ?_ _ | with_reducible refine Up.drew ?_ | refine Up.trans ?_ (by with_reducible assumption))), box_up hwq HKN.out⟩
          case measure => simp [intOf]; omega
      · have hjl : j = k.ps.length := by omega
        have HP : Hid (prsT (k.ps.take j) = prsT k.ps) := by unfold Hid; rw [hjl, List.take_length]
        rw [HP.out] at hJ zJ ⊢
        have cS := fun wx => l3Some_any (prsT k.ps) wx
        have lS := someL_le hJ (by omega)
        have zS := bs_size (someL (prsT k.ps))
        have cA := fun wx => dec_any k.base wx (by omega) (by omega)
        have cB := fun wx => dec_any k.last wx (by omega) (by omega)
        have lA := itoa_le (n := k.base) (by omega) (by omega)
        have lB := itoa_le (n := k.last) (by omega) (by omega)
        have zA := bs_size (Lib.itoa k.base)
        have zB := bs_size (Lib.itoa k.last)
        have zG := bs_size (fmtSet k.set)
        clear hr hle HP hsome hc3
        generalize Lib.itoa k.base = A at *
        generalize Lib.itoa k.last = B at *
        generalize someL (prsT k.ps) = S at *
        generalize prsT k.ps = J at *
        generalize fmtSet k.set = F at *
        go_wp2
        refine wp_region_up 17 (by kernel_rfl) (by kernel_rfl) ?_
        simp only [List.take, List.drop]
        repeat (refine wpUp_step (fun K hK => ?_); go_simp; (try simp only [↓IntWalk.iteOmega]); first
          | (refine hK _ _ ?_; clear hK K)
          | (apply stepU_c
             · intro wq hwq; (have hbq := bcell hwq; (repeat (first | refine fills_no (by rfl) ?_ | refine fills_yes (by rfl) (fun vq hvq => ?_))); simp only [List.filter_nil, fills]; unfold upAt; go_simp; (try go_bits); (try simp only [↓IntWalk.iteOmega]); (try (rw [dif_pos (by omega)]; go_simp; try go_bits)); first | exact upOut_value | (apply upOut_call; (go_at_call 105; first | with_reducible exact cA _ | with_reducible exact cB _)) | (apply upOut_eq; (go_at_call 105; first | with_reducible exact cA _ | with_reducible exact cB _)) | (apply upOut_call; (go_at_call 141; with_reducible exact cF _)) | (apply upOut_eq; (go_at_call 141; with_reducible exact cF _)) | (apply upOut_call; (go_at_call 73; with_reducible exact cS _)) | (apply upOut_eq; (go_at_call 73; with_reducible exact cS _)))
             go_simp; refine hK _ _ ?_; clear hK K))
        refine wpUp_nil (fun wq hwq => ?_)
        simp only [fills]
        go_wp2
        go_ret
        exact ⟨by rw [← HX.out]; rfl, by (repeat (first | with_reducible exact Up.refl _ | with_reducible assumption | with_reducible refine Up.set ?_ (by first | exact Nat.le_refl _ | (simp only []; omega) | (simp; omega)) _ | with_reducible refine Up.alloc ?_ _ | with_reducible refine Up.drew ?_ | refine Up.trans ?_ (by with_reducible assumption)))⟩

end Go.Proofs.YtiiahjnfbhcgmaaGreatDoor

/- The reference's l9Num. Conditions: fewer than 2^20 bytes. -/
namespace Go.Proofs.YtiiahjnfbhcgmaaGreatDoor
set_option linter.unusedVariables false
set_option linter.unusedSimpArgs false
open Go Go.RowKit

theorem numU_nil (neg : Bool) : numU neg [] = none := by unfold numU; rw [if_pos (.inl rfl)]
theorem numU_long {neg : Bool} {r : List UInt8} (h : 17 < r.length) : numU neg r = none := by unfold numU; rw [if_pos (.inr (.inl h))]
theorem numU_zero {neg : Bool} {r : List UInt8} (h : r.head? = some 48 ∧ (1 < r.length ∨ neg = true)) : numU neg r = none := by unfold numU; rw [if_pos (.inr (.inr h))]
theorem numU_go {neg : Bool} {r : List UInt8} (h0 : r ≠ []) (h1 : ¬ 17 < r.length) (h2 : ¬ (r.head? = some 48 ∧ (1 < r.length ∨ neg = true))) : numU neg r = (Lib.decFrom 0 r).map fun m => if neg then -(m : Int) else m := by
  unfold numU
  rw [if_neg]
  rintro (h | h | h)
  · exact h0 h
  · exact h1 h
  · exact h2 h
theorem decFrom_bad : ∀ (r : List UInt8) (acc k : Nat) (hk : k < r.length), Lib.digitVal r[k] = none → Lib.decFrom acc r = none
  | [], _, k, hk, _ => absurd hk (Nat.not_lt_zero _)
  | b :: r, acc, 0, _, h => by unfold Lib.decFrom; rw [show Lib.digitVal b = none from h]
  | b :: r, acc, k + 1, hk, h => by
    unfold Lib.decFrom
    cases hb : Lib.digitVal b with
    | none => rfl
    | some d => exact decFrom_bad r _ k (by simpa using hk) h
theorem decFrom_take {r : List UInt8} {k m d : Nat} (hk : k < r.length) (h : Lib.decFrom 0 (r.take k) = some m) (hd : Lib.digitVal r[k] = some d) : Lib.decFrom 0 (r.take (k + 1)) = some (m * 10 + d) := by
  rw [List.take_succ_eq_append_getElem hk]
  exact decFrom_snoc _ _ _ _ _ h hd
theorem digitVal_yes {b : UInt8} (h : 48 ≤ b.toNat ∧ b.toNat ≤ 57) : Lib.digitVal b = some (b.toNat - 48) := by unfold Lib.digitVal; rw [if_pos h]
theorem digitVal_no {b : UInt8} (h : b.toNat < 48 ∨ 57 < b.toNat) : Lib.digitVal b = none := by unfold Lib.digitVal; rw [if_neg (by omega)]
theorem bs_at {l : List UInt8} {k : Nat} (h : k < l.length) (h' : k < (bs l).size) : (bs l)[k] = l[k] := rfl
/-- How a text begins, for l9Num. -/
theorem num_form (l : List UInt8) : ∃ (neg : Bool) (r : List UInt8), numR l = numU neg r ∧ r.length ≤ l.length ∧ (neg = true ∧ l = 45 :: r ∨ neg = false ∧ l = r ∧ r.head? ≠ some 45) := by
  by_cases h : l.head? = some 45
  · cases l with
    | nil => cases h
    | cons b r =>
      simp only [List.head?_cons, Option.some.injEq] at h
      subst h
      exact ⟨true, r, by unfold numR; rfl, by simp, .inl ⟨rfl, rfl⟩⟩
  · exact ⟨false, l, by unfold numR; rw [if_neg h], Nat.le_refl _, .inr ⟨rfl, rfl, h⟩⟩
def RelNm (r : List UInt8) (w : World) (n i : Value) (wr : World) : Prop := ∃ k m : Nat, k ≤ r.length ∧ i = .int .i64 k ∧ n = .int .i64 m ∧ Lib.decFrom 0 (r.take k) = some m ∧ m < 10 ^ k ∧ w = wr
theorem pow17 {k : Nat} (h : k ≤ 17) : 10 ^ k ≤ 100000000000000000 := Nat.pow_le_pow_right (n := 10) (by decide) h

theorem num_cases (neg : Bool) (r : List UInt8) : r = [] ∨ 17 < r.length ∨ (∃ h : 1 < r.length, r.length ≤ 17 ∧ r[0] = 48) ∨ (r = [48] ∧ neg = true) ∨ (r = [48] ∧ neg = false) ∨ ∃ h : 0 < r.length, r.length ≤ 17 ∧ r[0] ≠ 48 := by
  cases r with
  | nil => exact .inl rfl
  | cons b t =>
    by_cases h1 : 17 < (b :: t).length
    · exact .inr (.inl h1)
    · by_cases h2 : b = 48
      · subst h2
        cases t with
        | nil => cases neg <;> simp
        | cons c t => exact .inr (.inr (.inl ⟨by simp, by omega, rfl⟩))
      · exact .inr (.inr (.inr (.inr (.inr ⟨by simp, by omega, h2⟩))))
theorem numU_go' {neg : Bool} {r : List UInt8} (h : 0 < r.length) (h1 : r.length ≤ 17) (h2 : r[0] ≠ 48) : numU neg r = (Lib.decFrom 0 r).map fun m => if neg then -(m : Int) else m := by
  refine numU_go (by intro e; subst e; simp at h) (by omega) (fun h3 => h2 ?_)
  have := h3.1
  rw [List.head?_eq_getElem?, List.getElem?_eq_getElem h] at this
  exact Option.some.inj this

set_option maxRecDepth 100000 in
set_option maxHeartbeats 1000000 in
theorem l9Num_any (l : List UInt8) (w : World) (hl : l.length ≤ 1048576) :
    Calls Tryz.prog 108  #[.string (bs l)] w (fun e w' => e = .returned (.tuple #[.int .i64 ((numR l).getD 0), .bool (numR l).isSome]) ∧ w = w') := by
  obtain ⟨neg, r, hnr, hrl, hf⟩ := num_form l
  rw [hnr]
  have hz := bs_size l
  have hzr := bs_size r
  clear hnr
  rcases hf with ⟨rfl, hlr⟩ | ⟨rfl, hlr, hh⟩
  · have hlr := hlr.symm
    subst hlr
    have h1 : 0 < (bs (45 :: r)).size := by rw [hz]; simp
    have h2 : ((bs (45 :: r))[0].toNat : Int) = 45 := rfl
    have h3 : (bs (45 :: r)).extract 1 (r.length + 1) = bs r := by rw [bs_ext]; simp
    have h4 : (bs (45 :: r)).size = r.length + 1 := by rw [hz]; simp
    obtain ⟨neg, hneg⟩ : ∃ neg, Hid (true = neg) := ⟨true, rfl⟩
    rw [show numU true r = numU neg r from by rw [hneg.out]]
    clear hz
    rcases num_cases neg r with hc | hc | ⟨hc, hc1, hc2⟩ | ⟨hc, hc1⟩ | ⟨hc, hc1⟩ | ⟨hc, hc1, hc2⟩
    · have e : Hid (numU neg r = none) := by rw [hc]; exact numU_nil _
      have hz0 : (bs r).size = 0 := by rw [hzr, hc]; rfl
      have hz1 : r.length = 0 := by rw [hc]; rfl
      have HC := Lib.hid hc
      have hB0 : ((r.length : Int) == 0) = true := by rw [beq_iff_eq]; omega
      clear hc
      go_enter Tryz.func108, Tryz.ntmps108
      go_wp2
      ((try simp only [Exit.inBlock, Exit.then]); refine bodyPost_ret (v := _) (by simp [results, Tryz.results108, go_sem]; rfl) rfl ?_)
      exact ⟨by rw [e.out]; rfl, rfl⟩
    · have e : Hid (numU neg r = none) := numU_long hc
      have hB0 : ((r.length : Int) == 0) = false := by rw [beq_eq_false_iff_ne]; omega
      have hB17 : decide (17 < (r.length : Int)) = true := decide_eq_true (by omega)
      have hs0 : 0 < (bs r).size := by omega
      go_enter Tryz.func108, Tryz.ntmps108
      go_wp2
      ((try simp only [Exit.inBlock, Exit.then]); refine bodyPost_ret (v := _) (by simp [results, Tryz.results108, go_sem]; rfl) rfl ?_)
      exact ⟨by rw [e.out]; rfl, rfl⟩
    · have e : Hid (numU neg r = none) := numU_zero ⟨by rw [List.head?_eq_getElem?, List.getElem?_eq_getElem (by omega), hc2], .inl hc⟩
      have hs0 : 0 < (bs r).size := by omega
      have hb : (((bs r)[0]'hs0).toNat : Int) = 48 := by show ((r[0]'(by omega)).toNat : Int) = 48; rw [hc2]; rfl
      have hB48 : ((((bs r)[0]'hs0).toNat : Int) == 48) = true := by rw [beq_iff_eq]; exact hb
      have hB0 : ((r.length : Int) == 0) = false := by rw [beq_eq_false_iff_ne]; omega
      have hB17 : decide (17 < (r.length : Int)) = false := decide_eq_false (by omega)
      have hB1 : decide (1 < (r.length : Int)) = true := decide_eq_true (by omega)
      clear hc2
      go_enter Tryz.func108, Tryz.ntmps108
      go_wp2
      ((try simp only [Exit.inBlock, Exit.then]); refine bodyPost_ret (v := _) (by simp [results, Tryz.results108, go_sem]; rfl) rfl ?_)
      exact ⟨by rw [e.out]; rfl, rfl⟩
    · have e : Hid (numU neg r = none) := numU_zero ⟨by rw [hc]; rfl, .inr hc1⟩
      have hz0 : (bs r).size = 1 := by rw [hzr, hc]; rfl
      have hs0 : 0 < (bs r).size := by omega
      have hb : (((bs r)[0]'hs0).toNat : Int) = 48 := by subst hc; rfl
      have hz1 : r.length = 1 := by rw [hc]; rfl
      have h5 : (bs (45 :: r)).extract 1 2 = bs r := by rw [← h3, hz1]
      have hB48 : ((((bs r)[0]'hs0).toNat : Int) == 48) = true := by rw [beq_iff_eq]; exact hb
      have hB0 : ((r.length : Int) == 0) = false := by rw [beq_eq_false_iff_ne]; omega
      have hB17 : decide (17 < (r.length : Int)) = false := decide_eq_false (by omega)
      have hB1 : decide (1 < (r.length : Int)) = false := decide_eq_false (by omega)
      clear hc hc1
      go_enter Tryz.func108, Tryz.ntmps108
      go_wp2
      ((try simp only [Exit.inBlock, Exit.then]); refine bodyPost_ret (v := _) (by simp [results, Tryz.results108, go_sem]; rfl) rfl ?_)
      exact ⟨by rw [e.out]; rfl, rfl⟩
    · have hn2 := hneg.out; rw [hc1] at hn2; cases hn2
    · have hgo := numU_go' (neg := neg) hc hc1 hc2
      have hs0 : 0 < (bs r).size := by omega
      have hb : (((bs r)[0]'hs0).toNat : Int) ≠ 48 := fun e => hc2 (UInt8.toNat_inj.1 (by have e2 : ((r[0]'(by omega)).toNat : Int) = 48 := e; show (r[0]'(by omega)).toNat = 48; omega))
      have hB48 : ((((bs r)[0]'hs0).toNat : Int) == 48) = false := by rw [beq_eq_false_iff_ne]; exact hb
      have hB0 : ((r.length : Int) == 0) = false := by rw [beq_eq_false_iff_ne]; omega
      have hB17 : decide (17 < (r.length : Int)) = false := decide_eq_false (by omega)
      clear hc2
      have HG := Lib.hid hgo
      clear hgo
      go_enter Tryz.func108, Tryz.ntmps108
      go_wp2
      go_loopw [5, 6] (fun n i wr => RelNm r w n i wr) (fun _ i _ => r.length - (intOf i).toNat)
      case atStart => exact ⟨0, 0, Nat.zero_le _, rfl, rfl, rfl, by simp, rfl⟩
      case round =>
        obtain ⟨k, m, hk, rfl, rfl, hdec, hm, rfl⟩ := hrel
        have HD := Lib.hid hdec
        have hp := pow17 (k := k) (by omega)
        have hmb : m ≤ 100000000000000000 := by omega
        have HM := Lib.hid hm
        clear hdec hm hp
        by_cases hlt : k < r.length
        · have hlt2 : k < (bs r).size := by omega
          have hu := u8_bd (bs r)[k]
          have hbk : (bs r)[k] = r[k] := bs_at hlt hlt2
          have HBK := Lib.hid hbk
          clear hbk
          by_cases hd : 48 ≤ (bs r)[k].toNat ∧ (bs r)[k].toNat ≤ 57
          · obtain ⟨hd1, hd2⟩ := hd
            have HS : Hid (Lib.decFrom 0 (r.take (k + 1)) = some (m * 10 + ((bs r)[k].toNat - 48))) := decFrom_take hlt HD.out (by show Lib.digitVal ((bs r)[k]'hlt2) = _; exact digitVal_yes ⟨hd1, hd2⟩)
            go_wp2
            go_roundw
            case rel => exact ⟨k + 1, m * 10 + ((bs r)[k].toNat - 48), by omega, by go_num, by go_num, HS.out, by have := HM.out; rw [Nat.pow_succ]; omega, rfl⟩
            case measure => simp [intOf]; omega
          · have e : Hid (numU neg r = none) := by
              unfold Hid
              rw [HG.out, decFrom_bad r 0 k hlt (by show Lib.digitVal ((bs r)[k]'hlt2) = none; exact digitVal_no (by omega))]
              rfl
            by_cases hd1 : (bs r)[k].toNat < 48
            all_goals
              go_wp2
              ((try simp only [Exit.inBlock, Exit.then]); refine bodyPost_ret (v := _) (by simp [results, Tryz.results108, go_sem]; rfl) rfl ?_)
              exact ⟨by rw [e.out]; rfl, rfl⟩
        · have hkr : k = r.length := by omega
          subst hkr
          have hd := HD.out
          rw [List.take_length] at hd
          have e : Hid (numU neg r = some (if neg then -(m : Int) else m)) := by unfold Hid; rw [HG.out, hd]; rfl
          clear hd
          go_wp2
          ((try simp only [Exit.inBlock, Exit.then]); refine bodyPost_ret (v := _) (by simp [results, Tryz.results108, go_sem]; rfl) rfl ?_)
          exact ⟨by rw [e.out, ← hneg.out]; rfl, rfl⟩
  · have hlr := hlr.symm
    subst hlr
    obtain ⟨neg, hneg⟩ : ∃ neg, Hid (false = neg) := ⟨false, rfl⟩
    rw [show numU false r = numU neg r from by rw [hneg.out]]
    have hq : ∀ h : 0 < (bs r).size, (((bs r)[0]'h).toNat : Int) ≠ 45 := fun h e => hh (by
      rw [List.head?_eq_getElem?, List.getElem?_eq_getElem (by omega)]
      congr 1
      exact UInt8.toNat_inj.1 (by have e2 : ((r[0]'(by omega)).toNat : Int) = 45 := e; show (r[0]'(by omega)).toNat = 45; omega))
    clear hh hz
    rcases num_cases neg r with hc | hc | ⟨hc, hc1, hc2⟩ | ⟨hc, hc1⟩ | ⟨hc, hc1⟩ | ⟨hc, hc1, hc2⟩
    · have e : Hid (numU neg r = none) := by rw [hc]; exact numU_nil _
      have hz0 : (bs r).size = 0 := by rw [hzr, hc]; rfl
      have hz1 : r.length = 0 := by rw [hc]; rfl
      have HC := Lib.hid hc
      have hB0 : ((r.length : Int) == 0) = true := by rw [beq_iff_eq]; omega
      clear hc
      go_enter Tryz.func108, Tryz.ntmps108
      go_wp2
      ((try simp only [Exit.inBlock, Exit.then]); refine bodyPost_ret (v := _) (by simp [results, Tryz.results108, go_sem]; rfl) rfl ?_)
      exact ⟨by rw [e.out]; rfl, rfl⟩
    · have e : Hid (numU neg r = none) := numU_long hc
      have hB0 : ((r.length : Int) == 0) = false := by rw [beq_eq_false_iff_ne]; omega
      have hB17 : decide (17 < (r.length : Int)) = true := decide_eq_true (by omega)
      have hs0 : 0 < (bs r).size := by omega
      have hq1 : (((bs r)[0]'hs0).toNat : Int) ≠ 45 := hq hs0
      have hB45 : ((((bs r)[0]'hs0).toNat : Int) == 45) = false := by rw [beq_eq_false_iff_ne]; exact hq1
      go_enter Tryz.func108, Tryz.ntmps108
      go_wp2
      ((try simp only [Exit.inBlock, Exit.then]); refine bodyPost_ret (v := _) (by simp [results, Tryz.results108, go_sem]; rfl) rfl ?_)
      exact ⟨by rw [e.out]; rfl, rfl⟩
    · have e : Hid (numU neg r = none) := numU_zero ⟨by rw [List.head?_eq_getElem?, List.getElem?_eq_getElem (by omega), hc2], .inl hc⟩
      have hs0 : 0 < (bs r).size := by omega
      have hb : (((bs r)[0]'hs0).toNat : Int) = 48 := by show ((r[0]'(by omega)).toNat : Int) = 48; rw [hc2]; rfl
      have hB48 : ((((bs r)[0]'hs0).toNat : Int) == 48) = true := by rw [beq_iff_eq]; exact hb
      have hB0 : ((r.length : Int) == 0) = false := by rw [beq_eq_false_iff_ne]; omega
      have hB17 : decide (17 < (r.length : Int)) = false := decide_eq_false (by omega)
      have hB1 : decide (1 < (r.length : Int)) = true := decide_eq_true (by omega)
      clear hc2
      go_enter Tryz.func108, Tryz.ntmps108
      go_wp2
      ((try simp only [Exit.inBlock, Exit.then]); refine bodyPost_ret (v := _) (by simp [results, Tryz.results108, go_sem]; rfl) rfl ?_)
      exact ⟨by rw [e.out]; rfl, rfl⟩
    · have hn2 := hneg.out; rw [hc1] at hn2; cases hn2
    · have hgo : numU neg r = (Lib.decFrom 0 r).map fun m => if neg then -(m : Int) else m := numU_go (by rw [hc]; simp) (by rw [hc]; simp) (by rw [hc, hc1]; simp)
      have hz0 : (bs r).size = 1 := by rw [hzr, hc]; rfl
      have hs0 : 0 < (bs r).size := by omega
      have hb : (((bs r)[0]'hs0).toNat : Int) = 48 := by subst hc; rfl
      have hz1 : r.length = 1 := by rw [hc]; rfl
      have hB48 : ((((bs r)[0]'hs0).toNat : Int) == 48) = true := by rw [beq_iff_eq]; exact hb
      have hB0 : ((r.length : Int) == 0) = false := by rw [beq_eq_false_iff_ne]; omega
      have hB17 : decide (17 < (r.length : Int)) = false := decide_eq_false (by omega)
      have hB1 : decide (1 < (r.length : Int)) = false := decide_eq_false (by omega)
      clear hc hc1
      have HG := Lib.hid hgo
      clear hgo
      go_enter Tryz.func108, Tryz.ntmps108
      go_wp2
      go_loopw [5, 6] (fun n i wr => RelNm r w n i wr) (fun _ i _ => r.length - (intOf i).toNat)
      case atStart => exact ⟨0, 0, Nat.zero_le _, rfl, rfl, rfl, by simp, rfl⟩
      case round =>
        obtain ⟨k, m, hk, rfl, rfl, hdec, hm, rfl⟩ := hrel
        have HD := Lib.hid hdec
        have hp := pow17 (k := k) (by omega)
        have hmb : m ≤ 100000000000000000 := by omega
        have HM := Lib.hid hm
        clear hdec hm hp
        by_cases hlt : k < r.length
        · have hlt2 : k < (bs r).size := by omega
          have hu := u8_bd (bs r)[k]
          have hbk : (bs r)[k] = r[k] := bs_at hlt hlt2
          have HBK := Lib.hid hbk
          clear hbk
          by_cases hd : 48 ≤ (bs r)[k].toNat ∧ (bs r)[k].toNat ≤ 57
          · obtain ⟨hd1, hd2⟩ := hd
            have HS : Hid (Lib.decFrom 0 (r.take (k + 1)) = some (m * 10 + ((bs r)[k].toNat - 48))) := decFrom_take hlt HD.out (by show Lib.digitVal ((bs r)[k]'hlt2) = _; exact digitVal_yes ⟨hd1, hd2⟩)
            go_wp2
            go_roundw
            case rel => exact ⟨k + 1, m * 10 + ((bs r)[k].toNat - 48), by omega, by go_num, by go_num, HS.out, by have := HM.out; rw [Nat.pow_succ]; omega, rfl⟩
            case measure => simp [intOf]; omega
          · have e : Hid (numU neg r = none) := by
              unfold Hid
              rw [HG.out, decFrom_bad r 0 k hlt (by show Lib.digitVal ((bs r)[k]'hlt2) = none; exact digitVal_no (by omega))]
              rfl
            by_cases hd1 : (bs r)[k].toNat < 48
            all_goals
              go_wp2
              ((try simp only [Exit.inBlock, Exit.then]); refine bodyPost_ret (v := _) (by simp [results, Tryz.results108, go_sem]; rfl) rfl ?_)
              exact ⟨by rw [e.out]; rfl, rfl⟩
        · have hkr : k = r.length := by omega
          subst hkr
          have hd := HD.out
          rw [List.take_length] at hd
          have e : Hid (numU neg r = some (if neg then -(m : Int) else m)) := by unfold Hid; rw [HG.out, hd]; rfl
          clear hd
          go_wp2
          ((try simp only [Exit.inBlock, Exit.then]); refine bodyPost_ret (v := _) (by simp [results, Tryz.results108, go_sem]; rfl) rfl ?_)
          exact ⟨by rw [e.out, ← hneg.out]; rfl, rfl⟩
    · have hgo := numU_go' (neg := neg) hc hc1 hc2
      have hs0 : 0 < (bs r).size := by omega
      have hq1 : (((bs r)[0]'hs0).toNat : Int) ≠ 45 := hq hs0
      have hB45 : ((((bs r)[0]'hs0).toNat : Int) == 45) = false := by rw [beq_eq_false_iff_ne]; exact hq1
      have hb : (((bs r)[0]'hs0).toNat : Int) ≠ 48 := fun e => hc2 (UInt8.toNat_inj.1 (by have e2 : ((r[0]'(by omega)).toNat : Int) = 48 := e; show (r[0]'(by omega)).toNat = 48; omega))
      have hB48 : ((((bs r)[0]'hs0).toNat : Int) == 48) = false := by rw [beq_eq_false_iff_ne]; exact hb
      have hB0 : ((r.length : Int) == 0) = false := by rw [beq_eq_false_iff_ne]; omega
      have hB17 : decide (17 < (r.length : Int)) = false := decide_eq_false (by omega)
      clear hc2
      have HG := Lib.hid hgo
      clear hgo
      go_enter Tryz.func108, Tryz.ntmps108
      go_wp2
      go_loopw [5, 6] (fun n i wr => RelNm r w n i wr) (fun _ i _ => r.length - (intOf i).toNat)
      case atStart => exact ⟨0, 0, Nat.zero_le _, rfl, rfl, rfl, by simp, rfl⟩
      case round =>
        obtain ⟨k, m, hk, rfl, rfl, hdec, hm, rfl⟩ := hrel
        have HD := Lib.hid hdec
        have hp := pow17 (k := k) (by omega)
        have hmb : m ≤ 100000000000000000 := by omega
        have HM := Lib.hid hm
        clear hdec hm hp
        by_cases hlt : k < r.length
        · have hlt2 : k < (bs r).size := by omega
          have hu := u8_bd (bs r)[k]
          have hbk : (bs r)[k] = r[k] := bs_at hlt hlt2
          have HBK := Lib.hid hbk
          clear hbk
          by_cases hd : 48 ≤ (bs r)[k].toNat ∧ (bs r)[k].toNat ≤ 57
          · obtain ⟨hd1, hd2⟩ := hd
            have HS : Hid (Lib.decFrom 0 (r.take (k + 1)) = some (m * 10 + ((bs r)[k].toNat - 48))) := decFrom_take hlt HD.out (by show Lib.digitVal ((bs r)[k]'hlt2) = _; exact digitVal_yes ⟨hd1, hd2⟩)
            go_wp2
            go_roundw
            case rel => exact ⟨k + 1, m * 10 + ((bs r)[k].toNat - 48), by omega, by go_num, by go_num, HS.out, by have := HM.out; rw [Nat.pow_succ]; omega, rfl⟩
            case measure => simp [intOf]; omega
          · have e : Hid (numU neg r = none) := by
              unfold Hid
              rw [HG.out, decFrom_bad r 0 k hlt (by show Lib.digitVal ((bs r)[k]'hlt2) = none; exact digitVal_no (by omega))]
              rfl
            by_cases hd1 : (bs r)[k].toNat < 48
            all_goals
              go_wp2
              ((try simp only [Exit.inBlock, Exit.then]); refine bodyPost_ret (v := _) (by simp [results, Tryz.results108, go_sem]; rfl) rfl ?_)
              exact ⟨by rw [e.out]; rfl, rfl⟩
        · have hkr : k = r.length := by omega
          subst hkr
          have hd := HD.out
          rw [List.take_length] at hd
          have e : Hid (numU neg r = some (if neg then -(m : Int) else m)) := by unfold Hid; rw [HG.out, hd]; rfl
          clear hd
          go_wp2
          ((try simp only [Exit.inBlock, Exit.then]); refine bodyPost_ret (v := _) (by simp [results, Tryz.results108, go_sem]; rfl) rfl ?_)
          exact ⟨by rw [e.out, ← hneg.out]; rfl, rfl⟩

end Go.Proofs.YtiiahjnfbhcgmaaGreatDoor

/- The reference's l9Cut; strings.Split and strings.Cut at one byte. Conditions: fewer than 2^20 bytes; bytealg.MaxLen holds an int. -/
namespace Go.Proofs.YtiiahjnfbhcgmaaGreatDoor
set_option linter.unusedVariables false
set_option linter.unusedSimpArgs false
open Go Go.RowKit

def bL (b : ByteArray) : List UInt8 := b.data.toList
theorem own_noC {w' : World} {base g : Nat} (hg : g = w'.heap.size) (hb : base ≤ w'.heap.size) : ownS (w'.alloc (.cells #[] 9)) base (.slice (some ⟨g, 0, none⟩) 0 0) [] := by
  subst hg
  exact World.ownsRow_made _ _ _ hb (by unfold maxLen; omega) rfl
theorem own_addC {w : World} {base : Nat} {v : Value} {l : List ByteArray} {t : ByteArray} (h : w.ownsRow base 9 1 v (l.length + 1) (cellsS l ++ [.string t])) : ownS w base v (l ++ [t]) := by
  have e1 : (l ++ [t]).length = l.length + 1 := by simp
  have e2 : cellsS (l ++ [t]) = cellsS l ++ [.string t] := by simp [cellsS]
  unfold ownS
  rw [e1, e2]
  exact h
def RelCt (s : ByteArray) (c : UInt8) (w : World) (out frm i : Value) (wr : World) : Prop := ∃ (k f : Nat) (P : List ByteArray), k ≤ s.size + 1 ∧ f ≤ k ∧ P.length ≤ k ∧ i = .int .i64 k ∧ frm = .int .i64 f ∧ ownS wr w.heap.size out P ∧ Up w wr ∧ (k ≤ s.size → IsSpl c ((bL s).take k) (P.map bL ++ [((bL s).take k).drop f])) ∧ (s.size < k → IsSpl c (bL s) (P.map bL))
theorem bL_ext (s : ByteArray) (f k : Nat) : bL (s.extract f k) = ((bL s).take k).drop f := by
  unfold bL
  rw [Lib.extract_data, List.drop_take]
theorem bL_map (P : List ByteArray) : (P.map bL).map bs = P := by
  rw [List.map_map]
  conv => rhs; rw [← List.map_id P]
  exact List.map_congr_left fun x _ => bs_self x

set_option maxRecDepth 100000 in
set_option maxHeartbeats 1000000 in
theorem l9Cut_any (s : ByteArray) (c : UInt8) (w : World) (hs : s.size ≤ 1048576) :
    Calls Tryz.prog 80  #[.string s, .int .u8 c.toNat] w (fun e w' => ∃ v, e = .returned v ∧ ownS w' w.heap.size v ((splL c s.data.toList).map bs) ∧ Up w w') := by
  obtain ⟨i0, hib, hz0, hz1, hz2⟩ := info_parts infoStr
  go_enter Tryz.func80, Tryz.ntmps80
  go_wp2
  go_loopw [5, 6, 7] (fun out f i wr => RelCt s c w out f i wr) (fun _ _ i _ => s.size + 1 - (intOf i).toNat)
  case atStart => exact ⟨0, 0, [], Nat.zero_le _, Nat.le_refl _, Nat.le_refl _, rfl, rfl, own_noC rfl (Nat.le_refl _), by (repeat (first | with_reducible exact Up.refl _ | with_reducible assumption | with_reducible refine Up.set ?_ (by first | exact Nat.le_refl _ | (simp only []; omega) | (simp; omega)) _ | with_reducible refine Up.alloc ?_ _ | with_reducible refine Up.drew ?_ | refine Up.trans ?_ (by with_reducible assumption))), fun _ => by simpa using IsSpl.nil c, fun h => absurd h (Nat.not_lt_zero _)⟩
  case round =>
    obtain ⟨k, f, P, hk, hf, hP, rfl, rfl, ho, hup, hA, hB⟩ := hrel
    obtain ⟨a, cp, rfl⟩ := ownsRow_shape ho
    have HO := Lib.hid ho
    have HA := Lib.hid hA
    have HB := Lib.hid hB
    have hln := ba_len s
    have HLN := Lib.hid hln
    clear ho hA hB hln
    have hwz := hup.size
    by_cases hlt : k < s.size
    · have hu := u8_bd s[k]
      have hl : k < (bL s).length := by have := HLN.out; unfold bL; omega
      have et : Hid ((bL s).take (k + 1) = (bL s).take k ++ [s[k]]) := by unfold Hid; rw [List.take_succ_eq_append_getElem hl]; rfl
      have ht : ((bL s).take k).length = k := by rw [List.length_take]; omega
      have HT := Lib.hid ht
      clear ht
      by_cases hc : s[k] = c
      · have hq : ((s[k].toNat : Int) == (c.toNat : Int)) = true := by rw [hc]; simp
        have hq2 : (s[k].toNat : Int) = c.toNat := by rw [hc]
        have hkn : ((k : Int) == (s.size : Int)) = false := by rw [beq_eq_false_iff_ne]; omega
        have HC := Lib.hid hc
        clear hc
        go_wp2_with (first | (at_builtin; refine wpList_append_own _ rfl _ _ 45 rfl (w.heap.size) 9 i0 (.string ByteArray.empty) 1 16 Tryz.underlying45 hib hz0 hz1 hz2 rfl (by decide) _ _ _ rfl ((HO.out).alloc _) ⟨(wr).heap.size, 0, none⟩ 1 1 [.string (s.extract f k)] rfl rfl (new_cells [.string (s.extract f k)] _ rfl) (by intro u hu; simp at hu; subst hu; rfl) (by unfold maxLen; omega) (by omega) (by simp; omega) ?_; rintro v2 w2 hown2 hgr2 -) | fail)
        go_roundw
        case rel => exact ⟨k + 1, k + 1, P ++ [s.extract f k], by omega, Nat.le_refl _, by rw [List.length_append, List.length_singleton]; omega, by go_num, by go_num, own_addC hown2, (hup.alloc _).grown hgr2 (fun x hx => (HO.out.lt x hx).1), fun h => by
          have h1 := (HA.out (by omega)).cut
          rw [← HC.out, ← et.out] at h1
          rw [List.map_append, List.map_singleton, bL_ext, ← HC.out]
          rw [List.drop_of_length_le (l := (bL s).take (k + 1)) (by rw [List.length_take]; omega)]
          exact h1, fun h => by omega⟩
        case measure => simp [intOf]; omega
      · have hq : ((s[k].toNat : Int) == (c.toNat : Int)) = false := by
          rw [beq_eq_false_iff_ne]
          intro e
          exact hc (UInt8.toNat_inj.1 (by omega))
        have hkn : ((k : Int) == (s.size : Int)) = false := by rw [beq_eq_false_iff_ne]; omega
        have HC := Lib.hid hc
        clear hc
        go_wp2
        go_roundw
        case rel => exact ⟨k + 1, f, P, by omega, by omega, by omega, by go_num, rfl, HO.out, hup, fun h => by
          have h1 := (HA.out (by omega)).grow (b := s[k]) HC.out
          rw [et.out, List.drop_append_of_le_length (by rw [HT.out]; exact hf)]
          exact h1, fun h => by omega⟩
        case measure => simp [intOf]; omega
    · by_cases he : k = s.size
      · subst he
        have hkn : ((s.size : Int) == (s.size : Int)) = true := by simp
        go_wp2_with (first | (at_builtin; refine wpList_append_own _ rfl _ _ 45 rfl (w.heap.size) 9 i0 (.string ByteArray.empty) 1 16 Tryz.underlying45 hib hz0 hz1 hz2 rfl (by decide) _ _ _ rfl ((HO.out).alloc _) ⟨(wr).heap.size, 0, none⟩ 1 1 [.string (s.extract f s.size)] rfl rfl (new_cells [.string (s.extract f s.size)] _ rfl) (by intro u hu; simp at hu; subst hu; rfl) (by unfold maxLen; omega) (by omega) (by simp; omega) ?_; rintro v2 w2 hown2 hgr2 -) | fail)
        go_roundw
        case rel => exact ⟨s.size + 1, s.size + 1, P ++ [s.extract f s.size], by omega, Nat.le_refl _, by rw [List.length_append, List.length_singleton]; omega, by go_num, by go_num, own_addC hown2, (hup.alloc _).grown hgr2 (fun x hx => (HO.out.lt x hx).1), fun h => by omega, fun h => by
          have h1 := HA.out (by omega)
          rw [List.map_append, List.map_singleton, bL_ext]
          rw [List.take_of_length_le (l := bL s) (by have := HLN.out; unfold bL; omega)] at h1 ⊢
          exact h1⟩
        case measure => simp [intOf]
      · go_wp2
        go_ret
        have e := splL_eq (HB.out (by omega))
        exact ⟨_, rfl, by rw [show splL c s.data.toList = P.map bL from e, bL_map]; exact HO.out, hup⟩

/-- strings.Split at one byte. -/
theorem split_any (s : ByteArray) (c : UInt8) (w : World) (hm : ∃ m, w.cell? ⟨0, 0, none⟩ = some (.int .i64 m)) (hs : s.size ≤ 1048576) :
    Calls Tryz.prog 61 #[.string s, .string ⟨#[c]⟩] w (fun e w' => ∃ v, e = .returned v ∧ ownS w' w.heap.size v ((splL c s.data.toList).map bs) ∧ Up w w') := by
  obtain ⟨m, hm⟩ := hm
  have hk : Lib.countB s ⟨#[c]⟩ = s.data.toList.count c := by
    show Lib.count s.data.toList [c] = _
    exact Lib.count_one c _
  have hd := Lib.splitB_data ⟨#[c]⟩ 0 (s.data.toList.count c) s
  have hd2 : (Lib.splitB ⟨#[c]⟩ 0 (s.data.toList.count c) s).map bL = splL c s.data.toList := by
    rw [← splitK_splL]; exact hd
  have hB : Lib.splitB ⟨#[c]⟩ 0 (s.data.toList.count c) s = (splL c s.data.toList).map bs := by rw [← hd2, bL_map]
  refine (Tryz.strings_Split s ⟨#[c]⟩ m w (by omega) hm (Nat.le_refl _)).mono fun e w' ⟨he, hw⟩ => ?_
  rw [hk, hB] at hw
  have hlen : (splL c s.data.toList).length = s.data.toList.count c + 1 := by
    have := Lib.splitB_all ⟨#[c]⟩ (Nat.le_refl _) 0 _ s hk
    rw [hB, List.length_map] at this; exact this
  have hle := splL_length_le c s.data.toList
  have hln := ba_len s
  refine ⟨_, he, ?_, ?_⟩
  · subst hw
    rw [hk, ← hlen]
    unfold ownS
    rw [List.length_map]
    exact ⟨by simp [cellsS], .inr ⟨w.heap.size, _, _, rfl, Nat.le_refl _, (MapKept.heap_alloc w _).1, Nat.le_refl _, by unfold maxLen; omega, by simp, by rw [Nat.mul_one]; unfold cellsS; rw [List.take_of_length_le (by simp)]⟩⟩
  · subst hw; exact (Up.refl _).alloc _
/-- strings.Cut at one byte. -/
theorem cut_any (l : List UInt8) (c : UInt8) (w : World) (hm : ∃ m, w.cell? ⟨0, 0, none⟩ = some (.int .i64 m)) (hs : l.length ≤ 1048576) :
    Calls Tryz.prog 106 #[.string (bs l), .string ⟨#[c]⟩] w (fun e w' => e = .returned (.tuple #[.string (bs (match cutL c l with | some p => p.1 | none => l)), .string (bs (match cutL c l with | some p => p.2 | none => [])), .bool (cutL c l).isSome]) ∧ Up w w') := by
  obtain ⟨m, hm⟩ := hm
  have hz := bs_size l
  refine (Tryz.strings_Cut (bs l) ⟨#[c]⟩ m w (by omega) hm).mono fun e w' ⟨he, n, hw⟩ => ⟨?_, ?_⟩
  · rw [he]
    have e1 : Lib.cut (bs l).data.toList (⟨#[c]⟩ : ByteArray).data.toList = Lib.cut l [c] := by rw [bs_data]
    rw [e1, cut_cutL]
    cases cutL c l <;> rfl
  · subst hw
    exact ⟨rfl, rfl, rfl, Nat.le_refl _, fun i hi => rfl⟩

end Go.Proofs.YtiiahjnfbhcgmaaGreatDoor

/- The reference's ParseIndex. Conditions: fewer than 2^20 bytes. -/
namespace Go.Proofs.YtiiahjnfbhcgmaaGreatDoor
set_option linter.unusedVariables false
set_option linter.unusedSimpArgs false
open Go Go.RowKit

theorem rowsX_ne {w : World} {b1 b2 : Nat} {e1 e2 : TypeId} {s1 s2 n1 n2 : Nat} {v1 v2 : Value} {x1 x2 : List Value} (h1 : w.ownsRow b1 e1 s1 v1 n1 x1) (h2 : w.ownsRow b2 e2 s2 v2 n2 x2) (hne : e1 ≠ e2) : v1.ownBlock = none ∨ v1.ownBlock ≠ v2.ownBlock := by
  rcases h1.2 with ⟨rfl, _⟩ | ⟨g, cap, cur, rfl, _, hg, _⟩
  · exact .inl rfl
  · refine .inr fun e => ?_
    rcases h2.2 with ⟨rfl, _⟩ | ⟨g2, cap2, cur2, rfl, _, hg2, _⟩
    · cases e
    · cases e
      rw [hg] at hg2
      cases hg2
      exact hne rfl
theorem own_strs {w : World} {base : Nat} {a : Option Addr} {n c : Nat} {xs : List (List UInt8)} (h : ownS w base (.slice a n c) (xs.map bs)) {k : Nat} (hk : k < xs.length) : ∃ g, a = some ⟨g, 0, none⟩ ∧ g < w.heap.size ∧ n = xs.length ∧ n ≤ c ∧ c ≤ maxLen ∧ w.cell? ⟨g, k, none⟩ = some (.string (bs xs[k])) := by
  unfold ownS at h
  rw [List.length_map] at h
  rcases ownsRow_read h with ⟨e, h2⟩ | ⟨g, cap, e, h1, h2, h3, h4, h5⟩
  · omega
  · cases e
    exact ⟨g, rfl, h4, rfl, h1, h2, h5 k _ (by simp [cellsS, hk])⟩

theorem l9Cut_n (l : List UInt8) (c : UInt8) (n : Int) (hn : (c.toNat : Int) = n) (w : World) (hs : l.length ≤ 1048576) :
    Calls Tryz.prog 80  #[.string (bs l), .int .u8 n] w (fun e w' => ∃ v, e = .returned v ∧ ownS w' w.heap.size v ((splL c l).map bs) ∧ Up w w') := by
  subst hn
  have := l9Cut_any (bs l) c w (by rw [bs_size]; exact hs)
  rw [bs_data] at this
  exact this
theorem l9Find_n (l : List UInt8) (c : UInt8) (n : Int) (hn : (c.toNat : Int) = n) (w : World) (hs : l.length ≤ 1048576) :
    Calls Tryz.prog 107  #[.string (bs l), .int .u8 n] w (fun e w' => e = .returned (.int .i64 (findL l c)) ∧ w = w') := by
  subst hn
  have := l9Find_any (bs l) c w (by rw [bs_size]; omega)
  rw [bs_data] at this
  exact this

end Go.Proofs.YtiiahjnfbhcgmaaGreatDoor

/- The reference's l3Pair, the program's parsePair. Conditions: fewer than 2^20 bytes; the listed variables lie as they were laid. -/
namespace Go.Proofs.YtiiahjnfbhcgmaaGreatDoor
set_option linter.unusedVariables false
set_option linter.unusedSimpArgs false
open Go Go.RowKit

abbrev prV (p : PairD) : Value := .agg #[.int .i64 p.pre, .int .i64 p.byt]
set_option maxRecDepth 100000 in
set_option maxHeartbeats 1000000 in
theorem l3Pair_any (t : List UInt8) (w : World) (ht : t.length ≤ 1048576) :
    Calls Tryz.prog 144  #[.string (bs t)] w (Same (prV (prR t)) w) := by
  have cC := fun wx => l9Find_n t 46 46 rfl wx ht
  have zT := bs_size t
  cases hcut : cutL 46 t with
  | none =>
    have e : Hid (prR t = ⟨-1, 0⟩) := by unfold Hid prR; rw [hcut]
    rw [findL_cut_none hcut] at cC
    rw [e.out]
    clear hcut
    go_enter Tryz.func144, Tryz.ntmps144
    go_wp2_with (go_at_call 107; (with_reducible refine (cC _).mono ?_); rintro e w3 ⟨rfl, rfl⟩)
    ((try simp only [Exit.inBlock, Exit.then]); refine bodyPost_ret (v := _) (by simp [results, Tryz.results144, go_sem]; rfl) rfl ?_)
    exact ⟨rfl, by (repeat (first | with_reducible exact Up.refl _ | with_reducible assumption | with_reducible refine Up.set ?_ (by first | exact Nat.le_refl _ | (simp only []; omega) | (simp; omega)) _ | with_reducible refine Up.alloc ?_ _ | with_reducible refine Up.drew ?_ | refine Up.trans ?_ (by with_reducible assumption)))⟩
  | some p =>
    obtain ⟨x, y⟩ := p
    obtain ⟨hxy, -⟩ := cutL_some hcut
    rw [findL_cut hcut] at cC
    have hlen : t.length = x.length + (y.length + 1) := by have := congrArg List.length hxy; simpa using this
    have cA := fun wx => l9Num_any x wx (by omega)
    have cB := fun wx => l9Num_any y wx (by omega)
    have hE1 : (bs t).extract 0 x.length = bs x := by rw [bs_ext, hxy]; simp
    have hE2 : (bs t).extract (x.length + 1) (x.length + (y.length + 1)) = bs y := by rw [bs_ext, hxy, show x.length + (y.length + 1) - (x.length + 1) = y.length by omega]; simp
    have HV : Hid (prR t = match numR x, numR y with | some a, some b => ⟨a, b⟩ | _, _ => ⟨-1, 0⟩) := by unfold Hid prR; rw [hcut]; try (simp only [] <;> cases numR x <;> cases numR y <;> rfl)
    rw [HV.out]
    clear hcut hxy HV
    cases hx : numR x with
    | none =>
      rw [hx] at cA
      simp only [Option.getD_none, Option.isSome_none] at cA
      clear hx
      have e : Hid ((match (none : Option Int), numR y with | some a, some b => (⟨a, b⟩ : PairD) | _, _ => ⟨-1, 0⟩) = ⟨-1, 0⟩) := rfl
      rw [e.out]
      generalize (numR y).getD 0 = n2 at *
      generalize (numR y).isSome = b2 at *
      go_enter Tryz.func144, Tryz.ntmps144
      go_wp2_with (first | (go_at_call 107; (with_reducible refine (cC _).mono ?_); rintro e w3 ⟨rfl, rfl⟩) | (go_at_call 108; first | ((with_reducible refine (cA _).mono ?_); rintro e w4 ⟨rfl, rfl⟩) | ((with_reducible refine (cB _).mono ?_); rintro e w5 ⟨rfl, rfl⟩)))
      ((try simp only [Exit.inBlock, Exit.then]); refine bodyPost_ret (v := _) (by simp [results, Tryz.results144, go_sem]; rfl) rfl ?_)
      exact ⟨rfl, by (repeat (first | with_reducible exact Up.refl _ | with_reducible assumption | with_reducible refine Up.set ?_ (by first | exact Nat.le_refl _ | (simp only []; omega) | (simp; omega)) _ | with_reducible refine Up.alloc ?_ _ | with_reducible refine Up.drew ?_ | refine Up.trans ?_ (by with_reducible assumption)))⟩
    | some a =>
      rw [hx] at cA
      simp only [Option.getD_some, Option.isSome_some] at cA
      cases hy : numR y with
      | none =>
        rw [hy] at cB
        simp only [Option.getD_none, Option.isSome_none] at cB
        clear hx hy
        go_enter Tryz.func144, Tryz.ntmps144
        go_wp2_with (first | (go_at_call 107; (with_reducible refine (cC _).mono ?_); rintro e w3 ⟨rfl, rfl⟩) | (go_at_call 108; first | ((with_reducible refine (cA _).mono ?_); rintro e w4 ⟨rfl, rfl⟩) | ((with_reducible refine (cB _).mono ?_); rintro e w5 ⟨rfl, rfl⟩)))
        ((try simp only [Exit.inBlock, Exit.then]); refine bodyPost_ret (v := _) (by simp [results, Tryz.results144, go_sem]; rfl) rfl ?_)
        exact ⟨rfl, by (repeat (first | with_reducible exact Up.refl _ | with_reducible assumption | with_reducible refine Up.set ?_ (by first | exact Nat.le_refl _ | (simp only []; omega) | (simp; omega)) _ | with_reducible refine Up.alloc ?_ _ | with_reducible refine Up.drew ?_ | refine Up.trans ?_ (by with_reducible assumption)))⟩
      | some b =>
        rw [hy] at cB
        simp only [Option.getD_some, Option.isSome_some] at cB
        clear hx hy
        go_enter Tryz.func144, Tryz.ntmps144
        go_wp2_with (first | (go_at_call 107; (with_reducible refine (cC _).mono ?_); rintro e w3 ⟨rfl, rfl⟩) | (go_at_call 108; first | ((with_reducible refine (cA _).mono ?_); rintro e w4 ⟨rfl, rfl⟩) | ((with_reducible refine (cB _).mono ?_); rintro e w5 ⟨rfl, rfl⟩)))
        ((try simp only [Exit.inBlock, Exit.then]); refine bodyPost_ret (v := _) (by simp [results, Tryz.results144, go_sem]; rfl) rfl ?_)
        exact ⟨rfl, by (repeat (first | with_reducible exact Up.refl _ | with_reducible assumption | with_reducible refine Up.set ?_ (by first | exact Nat.le_refl _ | (simp only []; omega) | (simp; omega)) _ | with_reducible refine Up.alloc ?_ _ | with_reducible refine Up.drew ?_ | refine Up.trans ?_ (by with_reducible assumption)))⟩

/-- What parsePair leaves. -/
def PpPost (t : List UInt8) (w : World) (e : Ending) (w' : World) : Prop := ∃ a b : Int, e = .returned (.tuple #[.agg #[.int .i64 a, .int .i64 b], .bool (prP t).isSome]) ∧ (∀ p, prP t = some p → p = ⟨a, b⟩) ∧ Up w w'
def PrAt (b : Nat) (x y : Int) (w : World) : Prop := w.heap[b]? = some (.cells #[.int .i64 x, .int .i64 y] 149)
theorem PrAt.cells {b : Nat} {x y : Int} {w : World} (h : PrAt b x y w) : b < w.heap.size ∧ w.cell? ⟨b, 0, none⟩ = some (.int .i64 x) ∧ w.cell? ⟨b, 1, none⟩ = some (.int .i64 y) := ⟨(Array.getElem?_eq_some_iff.1 h).1, box_cell h 0, box_cell h 1⟩

set_option maxRecDepth 100000 in
set_option maxHeartbeats 1000000 in
theorem parsePair_any (t : List UInt8) (w : World) (hL : Lay w) (ht : t.length ≤ 1048576) :
    Calls Tryz.prog 137  #[.string (bs t)] w (PpPost t w) := by
  unfold PpPost
  have cC := fun wx (hx : Up w wx) => cut_any t 46 wx (hL.up hx).max ht
  cases hcut : cutL 46 t with
  | none =>
    have e : Hid (prP t = none) := by unfold Hid prP pairP; rw [hcut]; rfl
    rw [hcut] at cC
    rw [e.out]
    simp only [Option.isSome_none] at cC ⊢
    clear hcut
    go_enter Tryz.func137, Tryz.ntmps137
    go_wp2_with fail
    (with_reducible refine (cC _ (by (repeat (first | with_reducible exact Up.refl _ | with_reducible assumption | with_reducible refine Up.set ?_ (by first | exact Nat.le_refl _ | (simp only []; omega) | (simp; omega)) _ | with_reducible refine Up.alloc ?_ _ | with_reducible refine Up.drew ?_ | refine Up.trans ?_ (by with_reducible assumption))))).mono ?_); rintro e w3 ⟨rfl, U3⟩
    have hRB : PrAt w.heap.size 0 0 w3 := box_up U3 (MapKept.heap_alloc w _).1
    obtain ⟨hb0, q0, q1⟩ := hRB.cells
    have hf := box_free hRB
    have hU3 : Up w w3 := by (repeat (first | with_reducible exact Up.refl _ | with_reducible assumption | with_reducible refine Up.set ?_ (by first | exact Nat.le_refl _ | (simp only []; omega) | (simp; omega)) _ | with_reducible refine Up.alloc ?_ _ | with_reducible refine Up.drew ?_ | refine Up.trans ?_ (by with_reducible assumption)))
    clear U3
    go_wp2
    refine bodyPost_ret (v := .tuple #[.agg #[.int .i64 0, .int .i64 0], .bool false]) (by simp [results, Tryz.results137, go_sem, q0, q1]) rfl ⟨0, 0, rfl, (fun p h => nomatch h), ?_⟩
    (repeat (first | with_reducible exact Up.refl _ | with_reducible assumption | with_reducible refine Up.set ?_ (by first | exact Nat.le_refl _ | (simp only []; omega) | (simp; omega)) _ | with_reducible refine Up.alloc ?_ _ | with_reducible refine Up.drew ?_ | refine Up.trans ?_ (by with_reducible assumption)))
  | some p =>
    obtain ⟨x, y⟩ := p
    obtain ⟨hxy, -⟩ := cutL_some hcut
    have hxl1 : x.length ≤ t.length := by have := congrArg List.length hxy; simp at this; omega
    have hyl1 : y.length ≤ t.length := by have := congrArg List.length hxy; simp at this; omega
    have cP := fun wx (hx : Up w wx) => pnum_any x wx (hL.up hx) (by omega)
    have cQ := fun wx (hx : Up w wx) => pnum_any y wx (hL.up hx) (by omega)
    have HV : Hid (prP t = match numP x, numP y with | some a, some b => some ⟨a, b⟩ | _, _ => none) := by unfold Hid prP pairP; rw [hcut]; simp only []; cases numP x <;> cases numP y <;> rfl
    rw [hcut] at cC
    simp only [Option.isSome_some] at cC
    have HS : Hid ((prP t).isSome = ((numP x).isSome && (numP y).isSome)) := by unfold Hid; rw [HV.out]; cases numP x <;> cases numP y <;> rfl
    have HW : Hid (∀ p, prP t = some p → p = ⟨(numP x).getD 0, (numP y).getD 0⟩) := fun p h => by
      rw [HV.out] at h
      cases hx : numP x <;> cases hy : numP y <;> rw [hx, hy] at h
      · cases h
      · cases h
      · cases h
      · exact (Option.some.inj h).symm
    rw [HS.out]
    clear hcut hxy HV hL
    generalize (numP x).getD 0 = n1 at *
    generalize (numP x).isSome = b1 at *
    generalize (numP y).getD 0 = n2 at *
    generalize (numP y).isSome = b2 at *
    go_enter Tryz.func137, Tryz.ntmps137
    go_wp2_with fail
    (with_reducible refine (cC _ (by (repeat (first | with_reducible exact Up.refl _ | with_reducible assumption | with_reducible refine Up.set ?_ (by first | exact Nat.le_refl _ | (simp only []; omega) | (simp; omega)) _ | with_reducible refine Up.alloc ?_ _ | with_reducible refine Up.drew ?_ | refine Up.trans ?_ (by with_reducible assumption))))).mono ?_); rintro e w3 ⟨rfl, U3⟩
    have hRB : PrAt w.heap.size 0 0 w3 := box_up U3 (MapKept.heap_alloc w _).1
    have hU3 : Up w w3 := by (repeat (first | with_reducible exact Up.refl _ | with_reducible assumption | with_reducible refine Up.set ?_ (by first | exact Nat.le_refl _ | (simp only []; omega) | (simp; omega)) _ | with_reducible refine Up.alloc ?_ _ | with_reducible refine Up.drew ?_ | refine Up.trans ?_ (by with_reducible assumption)))
    have hb3 := hRB.cells.1
    clear U3
    go_wp2_with fail
    (with_reducible refine (cP _ (by (repeat (first | with_reducible exact Up.refl _ | with_reducible assumption | with_reducible refine Up.set ?_ (by first | exact Nat.le_refl _ | (simp only []; omega) | (simp; omega)) _ | with_reducible refine Up.alloc ?_ _ | with_reducible refine Up.drew ?_ | refine Up.trans ?_ (by with_reducible assumption))))).mono ?_); rintro e w4 ⟨rfl, U4⟩
    have hRB4 : PrAt w.heap.size 0 0 w4 := box_up U4 (box_up ((Up.refl _).alloc _) hRB)
    have hPB4 : PrAt w3.heap.size 0 0 w4 := box_up U4 (MapKept.heap_alloc w3 _).1
    have hU4 : Up w w4 := by (repeat (first | with_reducible exact Up.refl _ | with_reducible assumption | with_reducible refine Up.set ?_ (by first | exact Nat.le_refl _ | (simp only []; omega) | (simp; omega)) _ | with_reducible refine Up.alloc ?_ _ | with_reducible refine Up.drew ?_ | refine Up.trans ?_ (by with_reducible assumption)))
    obtain ⟨hb4, q0, q1⟩ := hPB4.cells
    have hf4 := box_free hPB4
    have hne : w.heap.size ≠ w3.heap.size := Nat.ne_of_lt hb3
    clear U4 hRB hU3
    go_wp2_with fail
    (with_reducible refine (cQ _ (by (repeat (first | with_reducible exact Up.refl _ | with_reducible assumption | with_reducible refine Up.set ?_ (by first | exact Nat.le_refl _ | (simp only []; omega) | (simp; omega)) _ | with_reducible refine Up.alloc ?_ _ | with_reducible refine Up.drew ?_ | refine Up.trans ?_ (by with_reducible assumption))))).mono ?_); rintro e w5 ⟨rfl, U5⟩
    have hPB5 : PrAt w3.heap.size n1 0 w5 := box_up U5 (box_set hPB4 0 (.int .i64 n1))
    have hRB5 : PrAt w.heap.size 0 0 w5 := box_up U5 (box_other hRB4 (p := ⟨w3.heap.size, 0, none⟩) hne _)
    have hU5 : Up w w5 := by (repeat (first | with_reducible exact Up.refl _ | with_reducible assumption | with_reducible refine Up.set ?_ (by first | exact Nat.le_refl _ | (simp only []; omega) | (simp; omega)) _ | with_reducible refine Up.alloc ?_ _ | with_reducible refine Up.drew ?_ | refine Up.trans ?_ (by with_reducible assumption)))
    clear U5 hPB4 hRB4 hU4 q0 q1 hf4
    obtain ⟨hb5, q0, q1⟩ := hPB5.cells
    have hf5 := box_free hPB5
    obtain ⟨hb6, r0, r1⟩ := hRB5.cells
    have hf6 := box_free hRB5
    cases b1 <;> cases b2
    all_goals
      go_wp2
      refine bodyPost_ret (v := .tuple #[.agg #[.int .i64 n1, .int .i64 n2], .bool _]) (by simp [results, Tryz.results137, go_sem, q0, q1, r0, r1, hne]) rfl ⟨n1, n2, rfl, HW.out, ?_⟩
      (repeat (first | with_reducible exact Up.refl _ | with_reducible assumption | with_reducible refine Up.set ?_ (by first | exact Nat.le_refl _ | (simp only []; omega) | (simp; omega)) _ | with_reducible refine Up.alloc ?_ _ | with_reducible refine Up.drew ?_ | refine Up.trans ?_ (by with_reducible assumption)))

end Go.Proofs.YtiiahjnfbhcgmaaGreatDoor

/- ParseSetting of both sides. Conditions: fewer than 2^20 bytes; the listed variables lie as they were laid. -/
namespace Go.Proofs.YtiiahjnfbhcgmaaGreatDoor
set_option linter.unusedVariables false
set_option linter.unusedSimpArgs false
open Go Go.RowKit

theorem own_strC {w : World} {base g : Nat} {n c : Nat} {xs : List (List UInt8)} (h : ownS w base (.slice (some ⟨g, 0, none⟩) n c) (xs.map bs)) {k : Nat} (hk : k < xs.length) : w.cell? ⟨g, k, none⟩ = some (.string (bs xs[k])) := by
  obtain ⟨g', e, -, -, -, -, h6⟩ := own_strs h hk
  cases e
  exact h6
def st0 : SetD := ⟨0, 0, 0⟩
/-- What ParseSetting returns, as a value. -/
abbrev psV (o : Option SetD) : Value := .tuple #[setV (o.getD st0), .bool o.isSome]
theorem prsSet_len3 {t : List UInt8} (h : (splL 32 t).length ≠ 3) : prsSet t = none := by
  unfold prsSet
  split
  · rename_i a b c e; rw [e] at h; exact absurd rfl h
  · rfl
theorem prsSet_3 {t a b c : List UInt8} (h : splL 32 t = [a, b, c]) : prsSet t = set3 a b c := by unfold prsSet; rw [h]
theorem len3 {α : Type} {xs : List α} (h : xs.length = 3) : ∃ a b c, xs = [a, b, c] := by
  match xs, h with
  | [a, b, c], _ => exact ⟨a, b, c, rfl⟩
theorem len4 {α : Type} {xs : List α} (h : xs.length = 4) : ∃ a b c d, xs = [a, b, c, d] := by
  match xs, h with
  | [a, b, c, d], _ => exact ⟨a, b, c, d, rfl⟩
theorem numP_bd {l : List UInt8} {n : Int} (h : numP l = some n) : -9223372036854775808 ≤ n ∧ n ≤ 9223372036854775807 := by
  unfold numP at h
  split at h
  · rename_i v hv
    split at h
    · cases h; exact Lib.atoiAll_bounds hv
    · cases h
  · cases h
theorem bs_eq {l m : List UInt8} (h : l = m) : ((bs l).toList == (bs m).toList) = true := by rw [h]; simp
theorem bs_dif {l m : List UInt8} (h : l ≠ m) : ((bs l).toList == (bs m).toList) = false := by rw [Lib.toList_data, Lib.toList_data, bs_data, bs_data]; simpa using h
theorem bl_eq {l m : List UInt8} (h : l = m) : ((bs l).toList == m) = true := by rw [Lib.toList_data, bs_data]; simpa using h
theorem bl_ne {l m : List UInt8} (h : l ≠ m) : ((bs l).toList == m) = false := by rw [Lib.toList_data, bs_data]; simpa using h

set_option maxRecDepth 100000 in
set_option maxHeartbeats 8000000 in
theorem psI_any (t : List UInt8) (w : World) (hL : Lay w) (ht : t.length ≤ 1048576) :
    Calls Tryz.prog 136  #[.string (bs t)] w (Same (psV (prsSet t)) w) := by
  have zT := bs_size t
  have cS := fun wx (hx : Up w wx) => split_any (bs t) 32 wx (hL.up hx).max (by omega)
  rw [bs_data] at cS
  have hxp := splL_piece_le 32 t
  have hxl := splL_length_le 32 t
  obtain ⟨xs, hxs⟩ : ∃ xs, xs = splL 32 t := ⟨_, rfl⟩
  rw [← hxs] at cS hxp hxl
  have HL := Lib.hid hL
  clear hL
  by_cases h3 : xs.length = 3
  case' neg =>
    have e : Hid (prsSet t = none) := prsSet_len3 (by rw [← hxs]; exact h3)
    have hB3 : ((xs.length : Int) == 3) = false := by rw [beq_eq_false_iff_ne]; omega
    rw [e.out]
    clear hxs hxp
    go_enter Tryz.func136, Tryz.ntmps136
    go_wp2_with fail
    (with_reducible refine (cS _ (by (repeat (first | with_reducible exact Up.refl _ | with_reducible assumption | with_reducible refine Up.set ?_ (by first | exact Nat.le_refl _ | (simp only []; omega) | (simp; omega)) _ | with_reducible refine Up.alloc ?_ _ | with_reducible refine Up.drew ?_ | refine Up.trans ?_ (by with_reducible assumption))))).mono ?_); rintro e w1 ⟨vp, rfl, ho, U1⟩
    obtain ⟨av, cv, rfl⟩ := ownsRow_shape ho
    simp only [List.length_map] at ho ⊢
    have hR1 : SetAt w.heap.size 0 0 0 w1 := box_up U1 (MapKept.heap_alloc w _).1
    have hU1 : Up w w1 := by (repeat (first | with_reducible exact Up.refl _ | with_reducible assumption | with_reducible refine Up.set ?_ (by first | exact Nat.le_refl _ | (simp only []; omega) | (simp; omega)) _ | with_reducible refine Up.alloc ?_ _ | with_reducible refine Up.drew ?_ | refine Up.trans ?_ (by with_reducible assumption)))
    obtain ⟨hb1, q0, q1, q2⟩ := hR1.cells
    have hf1 := box_free hR1
    clear U1 cS
    go_wp2
    refine bodyPost_ret (v := psV none) (by simp [results, Tryz.results136, go_sem, q0, q1, q2, psV, st0]) rfl ⟨rfl, ?_⟩
    (repeat (first | with_reducible exact Up.refl _ | with_reducible assumption | with_reducible refine Up.set ?_ (by first | exact Nat.le_refl _ | (simp only []; omega) | (simp; omega)) _ | with_reducible refine Up.alloc ?_ _ | with_reducible refine Up.drew ?_ | refine Up.trans ?_ (by with_reducible assumption)))
  obtain ⟨a, b, c, hx⟩ := len3 h3
  rw [hx] at cS hxp hxs
  have hal := hxp a (by simp)
  have hbl := hxp b (by simp)
  have hcl := hxp c (by simp)
  have HE : Hid (prsSet t = set3 a b c) := prsSet_3 hxs.symm
  rw [HE.out]
  have cB := fun wx (hx : Up w wx) => pnum_any b wx (HL.out.up hx) (by omega)
  have cC := fun wx (hx : Up w wx) => pnum_any c wx (HL.out.up hx) (by omega)
  clear hxp hxl hxs h3 hx xs
  by_cases hlow : a = [108, 111, 119]
  case' pos =>
    have HQ : Hid (ordP a = some 0) := by rw [hlow]; rfl
    have hb1 : ((bs a).toList == (⟨#[108, 111, 119]⟩ : ByteArray).toList) = true := bs_eq hlow
    have hb3 := bl_eq hlow
    clear hlow
  case' neg =>
    by_cases hhigh : a = [104, 105, 103, 104]
    case' pos =>
      have HQ : Hid (ordP a = some 1) := by rw [hhigh]; rfl
      have hb1 : ((bs a).toList == (⟨#[108, 111, 119]⟩ : ByteArray).toList) = false := bs_dif hlow
      have hb2 : ((bs a).toList == (⟨#[104, 105, 103, 104]⟩ : ByteArray).toList) = true := bs_eq hhigh
      have hb3 := bl_ne hlow
      have hb4 := bl_eq hhigh
      clear hlow hhigh
    case' neg =>
      have HQ : Hid (ordP a = none) := by unfold Hid ordP; rw [if_neg hlow, if_neg hhigh]
      have hb1 : ((bs a).toList == (⟨#[108, 111, 119]⟩ : ByteArray).toList) = false := bs_dif hlow
      have hb2 : ((bs a).toList == (⟨#[104, 105, 103, 104]⟩ : ByteArray).toList) = false := bs_dif hhigh
      have e : Hid (set3 a b c = none) := by unfold Hid set3; rw [HQ.out]
      rw [e.out]
      have hb3 := bl_ne hlow
      have hb4 := bl_ne hhigh
      clear hlow hhigh
  all_goals
    go_enter Tryz.func136, Tryz.ntmps136
    go_wp2_with fail
    (with_reducible refine (cS _ (by (repeat (first | with_reducible exact Up.refl _ | with_reducible assumption | with_reducible refine Up.set ?_ (by first | exact Nat.le_refl _ | (simp only []; omega) | (simp; omega)) _ | with_reducible refine Up.alloc ?_ _ | with_reducible refine Up.drew ?_ | refine Up.trans ?_ (by with_reducible assumption))))).mono ?_); rintro e w1 ⟨vp, rfl, ho, U1⟩
    obtain ⟨av, cv, rfl⟩ := ownsRow_shape ho
    simp only [List.length_map, List.length_cons, List.length_nil, Nat.zero_add] at ho ⊢
    have hR1 : SetAt w.heap.size 0 0 0 w1 := box_up U1 (MapKept.heap_alloc w _).1
    have hU1 : Up w w1 := by (repeat (first | with_reducible exact Up.refl _ | with_reducible assumption | with_reducible refine Up.set ?_ (by first | exact Nat.le_refl _ | (simp only []; omega) | (simp; omega)) _ | with_reducible refine Up.alloc ?_ _ | with_reducible refine Up.drew ?_ | refine Up.trans ?_ (by with_reducible assumption)))
    obtain ⟨g, rfl, hg, -, hcc1, hcc2, c0⟩ := own_strs ho (k := 0) (by simp)
    have c1 := own_strC ho (k := 1) (by simp)
    have c2 := own_strC ho (k := 2) (by simp)
    simp only [List.getElem_cons_zero, List.getElem_cons_succ] at c0 c1 c2
    obtain ⟨hb0, q0, q1, q2⟩ := hR1.cells
    have hf1 := box_free hR1
    clear U1 cS
  · have hn1 : ¬ w.heap.size = w1.heap.size := by omega
    have hn2 : ¬ w1.heap.size = w.heap.size := by omega
    go_wp2
    refine bodyPost_ret (v := psV none) (by simp [results, Tryz.results136, go_sem, q0, q1, q2, psV, st0, hn1, hn2, hb0]) rfl ⟨rfl, ?_⟩
    (repeat (first | with_reducible exact Up.refl _ | with_reducible assumption | with_reducible refine Up.set ?_ (by first | exact Nat.le_refl _ | (simp only []; omega) | (simp; omega)) _ | with_reducible refine Up.alloc ?_ _ | with_reducible refine Up.drew ?_ | refine Up.trans ?_ (by with_reducible assumption)))
  all_goals
    go_wp2_with fail
    (with_reducible refine (cB _ (by (repeat (first | with_reducible exact Up.refl _ | with_reducible assumption | with_reducible refine Up.set ?_ (by first | exact Nat.le_refl _ | (simp only []; omega) | (simp; omega)) _ | with_reducible refine Up.alloc ?_ _ | with_reducible refine Up.drew ?_ | refine Up.trans ?_ (by with_reducible assumption))))).mono ?_); rintro e w2 ⟨rfl, U2⟩
    have hn1 : ¬ w.heap.size = w1.heap.size := by omega
    have hn2 : ¬ w1.heap.size = w.heap.size := by omega
    have ho2 := ownsRow_up ho (((Up.refl _).alloc _).trans U2)
    first
      | (obtain ⟨o, hoo⟩ : ∃ o, Hid (o = (0 : Int)) := ⟨0, rfl⟩
         have hS2 : SetAt w1.heap.size o 0 0 w2 := by rw [hoo.out]; exact box_up U2 (MapKept.heap_alloc w1 _).1
         have HQ : Hid (ordP a = some o) := by unfold Hid; rw [hoo.out]; exact HQ.out)
      | (obtain ⟨o, hoo⟩ : ∃ o, Hid (o = (1 : Int)) := ⟨1, rfl⟩
         have hS2 : SetAt w1.heap.size o 0 0 w2 := by rw [hoo.out]; exact box_up U2 (MapKept.heap_alloc w1 _).1
         have HQ : Hid (ordP a = some o) := by unfold Hid; rw [hoo.out]; exact HQ.out)
    have hR2 : SetAt w.heap.size 0 0 0 w2 := box_up U2 (box_up ((Up.refl _).alloc _) hR1)
    have hU2 : Up w w2 := by (repeat (first | with_reducible exact Up.refl _ | with_reducible assumption | with_reducible refine Up.set ?_ (by first | exact Nat.le_refl _ | (simp only []; omega) | (simp; omega)) _ | with_reducible refine Up.alloc ?_ _ | with_reducible refine Up.drew ?_ | refine Up.trans ?_ (by with_reducible assumption)))
    have d2 := own_strC ho2 (k := 2) (by simp)
    simp only [List.getElem_cons_zero, List.getElem_cons_succ] at d2
    clear c0 c1 c2 q0 q1 q2 hf1 ho hR1 hU1 U2 ho2 hoo
    obtain ⟨hs2, q0, q1, q2⟩ := hS2.cells
    have hf2 := box_free hS2
    have HG : Hid (g < w2.heap.size) := World.block_lt_of_cell? _ _ d2
    go_wp2_with fail
    (with_reducible refine (cC _ (by (repeat (first | with_reducible exact Up.refl _ | with_reducible assumption | with_reducible refine Up.set ?_ (by first | exact Nat.le_refl _ | (simp only []; omega) | (simp; omega)) _ | with_reducible refine Up.alloc ?_ _ | with_reducible refine Up.drew ?_ | refine Up.trans ?_ (by with_reducible assumption))))).mono ?_); rintro e w3 ⟨rfl, U3⟩
    have hS3 : SetAt w1.heap.size o ((numP b).getD 0) 0 w3 := box_up U3 (box_set hS2 1 (.int .i64 ((numP b).getD 0)))
    have hR3 : SetAt w.heap.size 0 0 0 w3 := box_up U3 (box_other hR2 (p := ⟨w1.heap.size, 1, none⟩) hn1 _)
    have hU3 : Up w w3 := by (repeat (first | with_reducible exact Up.refl _ | with_reducible assumption | with_reducible refine Up.set ?_ (by first | exact Nat.le_refl _ | (simp only []; omega) | (simp; omega)) _ | with_reducible refine Up.alloc ?_ _ | with_reducible refine Up.drew ?_ | refine Up.trans ?_ (by with_reducible assumption)))
    clear U3 hS2 hR2 hU2 q0 q1 q2 hs2 hf2 HG d2
    obtain ⟨hs3, q0, q1, q2⟩ := hS3.cells
    have hf3 := box_free hS3
    obtain ⟨hr3, r0, r1, r2⟩ := hR3.cells
    have hg3 := box_free hR3
    cases hb : numP b with
    | none =>
      have e : Hid (set3 a b c = none) := by unfold Hid set3; rw [HQ.out, hb]
      rw [hb] at q1
      simp only [Option.getD_none, Option.isSome_none] at q1 ⊢
      generalize (numP c).getD 0 = nc at *
      generalize (numP c).isSome = bc at *
      go_wp2
      refine bodyPost_ret (v := psV none) (by simp [results, Tryz.results136, go_sem, q0, q1, q2, r0, r1, r2, psV, st0, hn1, hn2, hb0]) rfl ⟨by rw [e.out], ?_⟩
      (repeat (first | with_reducible exact Up.refl _ | with_reducible assumption | with_reducible refine Up.set ?_ (by first | exact Nat.le_refl _ | (simp only []; omega) | (simp; omega)) _ | with_reducible refine Up.alloc ?_ _ | with_reducible refine Up.drew ?_ | refine Up.trans ?_ (by with_reducible assumption)))
    | some l =>
      rw [hb] at q1 hS3
      simp only [Option.getD_some, Option.isSome_some] at q1 hS3 ⊢
      cases hc : numP c with
      | none =>
        have e : Hid (set3 a b c = none) := by unfold Hid set3; rw [HQ.out, hb, hc]
        simp only [Option.getD_none, Option.isSome_none]
        go_wp2
        refine bodyPost_ret (v := psV none) (by simp [results, Tryz.results136, go_sem, q0, q1, q2, r0, r1, r2, psV, st0, hn1, hn2, hb0]) rfl ⟨by rw [e.out], ?_⟩
        (repeat (first | with_reducible exact Up.refl _ | with_reducible assumption | with_reducible refine Up.set ?_ (by first | exact Nat.le_refl _ | (simp only []; omega) | (simp; omega)) _ | with_reducible refine Up.alloc ?_ _ | with_reducible refine Up.drew ?_ | refine Up.trans ?_ (by with_reducible assumption)))
      | some m =>
        have cV := fun wx => setI_any o l m wx (numP_bd hb)
        simp only [Option.getD_some, Option.isSome_some]
        cases hv : setOk ⟨o, l, m⟩
        · have e : Hid (set3 a b c = none) := by unfold Hid set3; rw [HQ.out, hb, hc]; simp only []; rw [hv]; rfl
          rw [hv] at cV
          clear hv hb hc
          go_wp2_with (go_at_call 112; (with_reducible refine (cV _).mono ?_); rintro e w4 ⟨rfl, U4⟩; have hU4 : Up w w4 := (by (repeat (first | with_reducible exact Up.refl _ | with_reducible assumption | with_reducible refine Up.set ?_ (by first | exact Nat.le_refl _ | (simp only []; omega) | (simp; omega)) _ | with_reducible refine Up.alloc ?_ _ | with_reducible refine Up.drew ?_ | refine Up.trans ?_ (by with_reducible assumption)))); have hR4 : SetAt w.heap.size 0 0 0 w4 := box_up U4 (box_other hR3 (p := ⟨w1.heap.size, 2, none⟩) hn1 _); clear U4; obtain ⟨hr4, r0, r1, r2⟩ := hR4.cells; have hg4 := box_free hR4)
          refine bodyPost_ret (v := psV none) (by simp [results, Tryz.results136, go_sem, r0, r1, r2, psV, st0]) rfl ⟨by rw [e.out], ?_⟩
          (repeat (first | with_reducible exact Up.refl _ | with_reducible assumption | with_reducible refine Up.set ?_ (by first | exact Nat.le_refl _ | (simp only []; omega) | (simp; omega)) _ | with_reducible refine Up.alloc ?_ _ | with_reducible refine Up.drew ?_ | refine Up.trans ?_ (by with_reducible assumption)))
        · have e : Hid (set3 a b c = some ⟨o, l, m⟩) := by unfold Hid set3; rw [HQ.out, hb, hc]; simp only []; rw [if_pos hv]
          rw [hv] at cV
          clear hv hb hc
          go_wp2_with (go_at_call 112; (with_reducible refine (cV _).mono ?_); rintro e w4 ⟨rfl, U4⟩; have hU4 : Up w w4 := (by (repeat (first | with_reducible exact Up.refl _ | with_reducible assumption | with_reducible refine Up.set ?_ (by first | exact Nat.le_refl _ | (simp only []; omega) | (simp; omega)) _ | with_reducible refine Up.alloc ?_ _ | with_reducible refine Up.drew ?_ | refine Up.trans ?_ (by with_reducible assumption)))); have hR4 : SetAt w.heap.size 0 0 0 w4 := box_up U4 (box_other hR3 (p := ⟨w1.heap.size, 2, none⟩) hn1 _); have hS4 : SetAt w1.heap.size o l m w4 := box_up U4 (box_set hS3 2 (.int .i64 m)); clear U4; obtain ⟨hr4, r0, r1, r2⟩ := hR4.cells; have hg4 := box_free hR4; obtain ⟨hs4, s0, s1, s2⟩ := hS4.cells)
          refine bodyPost_ret (v := psV (some ⟨o, l, m⟩)) (by simp [results, Tryz.results136, go_sem, r0, r1, r2, psV, st0]) rfl ⟨by rw [e.out], ?_⟩
          (repeat (first | with_reducible exact Up.refl _ | with_reducible assumption | with_reducible refine Up.set ?_ (by first | exact Nat.le_refl _ | (simp only []; omega) | (simp; omega)) _ | with_reducible refine Up.alloc ?_ _ | with_reducible refine Up.drew ?_ | refine Up.trans ?_ (by with_reducible assumption)))

/-- No setting ahead of (o, l, m) has the text t. -/
def NoSet (t : List UInt8) (o l m : Int) : Prop := ∀ s : SetD, setOk s = true → (s.ord < o ∨ (s.ord = o ∧ s.lit < l) ∨ (s.ord = o ∧ s.lit = l ∧ s.most < m)) → fmtSet s ≠ t
def RelO (t : List UInt8) (w : World) (o : Value) (wr : World) : Prop := ∃ k : Nat, k ≤ 2 ∧ o = .int .i64 k ∧ NoSet t k 1 1 ∧ SetAt w.heap.size 0 0 0 wr ∧ Up w wr
def RelLt (t : List UInt8) (w : World) (k : Nat) (l : Value) (wr : World) : Prop := ∃ j : Nat, 1 ≤ j ∧ j ≤ 9 ∧ l = .int .i64 j ∧ NoSet t k j 1 ∧ SetAt w.heap.size 0 0 0 wr ∧ Up w wr
def RelMo (t : List UInt8) (w : World) (k j : Nat) (m : Value) (wr : World) : Prop := ∃ i : Nat, 1 ≤ i ∧ i ≤ 11 ∧ m = .int .i64 i ∧ NoSet t k j i ∧ SetAt w.heap.size 0 0 0 wr ∧ Up w wr
theorem NoSet.next {t : List UInt8} {o l m : Int} (h : NoSet t o l m) (hn : setOk ⟨o, l, m⟩ = true → fmtSet ⟨o, l, m⟩ ≠ t) : NoSet t o l (m + 1) := by
  intro s hs hlt
  by_cases e : s.ord = o ∧ s.lit = l ∧ s.most = m
  · obtain ⟨e1, e2, e3⟩ := e
    have : s = ⟨o, l, m⟩ := by rw [← e1, ← e2, ← e3]
    rw [this] at hs ⊢
    exact hn hs
  · exact h s hs (by omega)
theorem NoSet.lit {t : List UInt8} {o l : Int} (h : NoSet t o l 11) : NoSet t o (l + 1) 1 := by
  intro s hs hlt
  obtain ⟨h1, h2, h3, h4, h5⟩ := setOk_small hs
  exact h s hs (by omega)
theorem NoSet.ord {t : List UInt8} {o : Int} (h : NoSet t o 9 1) : NoSet t (o + 1) 1 1 := by
  intro s hs hlt
  obtain ⟨h1, h2, h3, h4, h5⟩ := setOk_small hs
  exact h s hs (by omega)
theorem NoSet.end {t : List UInt8} (h : NoSet t 2 1 1) : prsSet t = none := by
  cases hp : prsSet t with
  | none => rfl
  | some s =>
    obtain ⟨h1, h2⟩ := fmtSet_prs hp
    obtain ⟨h3, -⟩ := setOk_small h2
    exact absurd h1 (h s h2 (by omega))
theorem noSet_zero (t : List UInt8) : NoSet t 0 1 1 := by
  intro s hs hlt
  obtain ⟨h1, h2, h3, h4, h5⟩ := setOk_small hs
  omega

set_option maxRecDepth 100000 in
set_option maxHeartbeats 8000000 in
theorem psS_any (t : List UInt8) (w : World) :
    Calls Tryz.prog 143  #[.string (bs t)] w (Same (psV (prsSet t)) w) := by
  have zT := bs_size t
  go_enter Tryz.func143, Tryz.ntmps143
  go_wp2
  go_loopw [4, 7] (fun o _ wr => RelO t w o wr) (fun o _ _ => 2 - (intOf o).toNat)
  case atStart => exact ⟨0, by omega, rfl, noSet_zero t, (MapKept.heap_alloc w _).1, (Up.refl _).alloc _⟩
  case round =>
    obtain ⟨k, hk, rfl, hno, hR, hup⟩ := hrel
    by_cases hlt : k < 2
    · have HUP := Lib.hid hup
      have HNO := Lib.hid hno
      have hd1 : decide ((k : Int) ≤ 1) = true := decide_eq_true (by omega)
      clear hup hno
      go_wp2
      go_loopw [5, 7] (fun l _ wr => RelLt t w k l wr) (fun l _ _ => 9 - (intOf l).toNat)
      case atStart => exact ⟨1, Nat.le_refl _, by omega, rfl, HNO.out, hR, HUP.out⟩
      case round =>
        clear hR HUP HNO
        obtain ⟨j, hj1, hj, rfl, hno, hR, hup⟩ := hrel
        have HUP := Lib.hid hup
        have HNO := Lib.hid hno
        clear hup hno
        by_cases hlt2 : j < 9
        · have hd2 : decide ((j : Int) ≤ 8) = true := decide_eq_true (by omega)
          go_wp2
          go_loopw [6, 7] (fun m _ wr => RelMo t w k j m wr) (fun m _ _ => 11 - (intOf m).toNat)
          case atStart => exact ⟨1, Nat.le_refl _, by omega, rfl, HNO.out, hR, HUP.out⟩
          case round =>
            clear hR HUP HNO
            obtain ⟨i, hi1, hi, rfl, hno, hR, hup⟩ := hrel
            have HUP := Lib.hid hup
            have HNO := Lib.hid hno
            clear hup hno
            by_cases hlt3 : i < 11
            · have hup := HUP.out
              have cV := fun wx => setS_any (k : Int) (j : Int) (i : Int) wx
              have cF := fun wx => fsetS_any ⟨(k : Int), (j : Int), (i : Int)⟩ wx
              simp only [setV] at cF
              cases hv : setOk ⟨(k : Int), (j : Int), (i : Int)⟩
              · have HNX : Hid (NoSet t k j ((i : Int) + 1)) := HNO.out.next (fun h => by rw [hv] at h; cases h)
                rw [hv] at cV
                clear hv cF
                go_wp2_with ((go_at_call 126; (with_reducible refine (cV _).mono ?_); rintro e w1 ⟨rfl, U1⟩; have B1 := bcell U1; have Z1 := U1.size; (try simp at Z1); (try rw [Nat.add_one_le_iff] at Z1)))
                have hR1 : SetAt w.heap.size 0 0 0 w1 := box_up U1 (box_up ((Up.refl _).alloc _) hR)
                go_roundw
                case rel => exact ⟨i + 1, by omega, by omega, by go_num, HNX.out, hR1, by (repeat (first | with_reducible exact Up.refl _ | with_reducible assumption | with_reducible refine Up.set ?_ (by first | exact Nat.le_refl _ | (simp only []; omega) | (simp; omega)) _ | with_reducible refine Up.alloc ?_ _ | with_reducible refine Up.drew ?_ | refine Up.trans ?_ (by with_reducible assumption)))⟩
                case measure => simp [intOf]; omega
              · have HV := Lib.hid hv
                have hle := fmtSet_le ⟨(k : Int), (j : Int), (i : Int)⟩
                have hsz := bs_size (fmtSet ⟨(k : Int), (j : Int), (i : Int)⟩)
                rw [hv] at cV
                clear hv
                by_cases hq : fmtSet ⟨(k : Int), (j : Int), (i : Int)⟩ = t
                · have e : Hid (prsSet t = some ⟨(k : Int), (j : Int), (i : Int)⟩) := by unfold Hid; rw [← hq]; exact prsSet_fmt HV.out
                  have hE := bs_eq hq
                  generalize fmtSet ⟨(k : Int), (j : Int), (i : Int)⟩ = F at *
                  clear hq
                  go_wp2_with (first | ((go_at_call 126; (with_reducible refine (cV _).mono ?_); rintro e w1 ⟨rfl, U1⟩; have B1 := bcell U1; have Z1 := U1.size; (try simp at Z1); (try rw [Nat.add_one_le_iff] at Z1)); have hR1 : SetAt w.heap.size 0 0 0 w1 := box_up U1 (box_up ((Up.refl _).alloc _) hR)) | ((go_at_call 141; (with_reducible refine (cF _).mono ?_); rintro e w2 ⟨rfl, U2⟩; have B2 := bcell U2; have Z2 := U2.size; (try simp at Z2); (try rw [Nat.add_one_le_iff] at Z2)); have hR2 := box_up U2 hR1; obtain ⟨hb1, q0, q1, q2⟩ := SetAt.cells hR2; have hf1 := box_free hR2))
                  refine bodyPost_ret (v := psV (some ⟨(k : Int), (j : Int), (i : Int)⟩)) (by simp [results, Tryz.results143, go_sem, q0, q1, q2, psV, st0]) rfl ⟨by rw [e.out], ?_⟩
                  (repeat (first | with_reducible exact Up.refl _ | with_reducible assumption | with_reducible refine Up.set ?_ (by first | exact Nat.le_refl _ | (simp only []; omega) | (simp; omega)) _ | with_reducible refine Up.alloc ?_ _ | with_reducible refine Up.drew ?_ | refine Up.trans ?_ (by with_reducible assumption)))
                · have HNX : Hid (NoSet t k j ((i : Int) + 1)) := HNO.out.next (fun _ => hq)
                  have hE := bs_dif hq
                  generalize fmtSet ⟨(k : Int), (j : Int), (i : Int)⟩ = F at *
                  clear hq
                  go_wp2_with (first | ((go_at_call 126; (with_reducible refine (cV _).mono ?_); rintro e w1 ⟨rfl, U1⟩; have B1 := bcell U1; have Z1 := U1.size; (try simp at Z1); (try rw [Nat.add_one_le_iff] at Z1)); have hR1 : SetAt w.heap.size 0 0 0 w1 := box_up U1 (box_up ((Up.refl _).alloc _) hR)) | ((go_at_call 141; (with_reducible refine (cF _).mono ?_); rintro e w2 ⟨rfl, U2⟩; have B2 := bcell U2; have Z2 := U2.size; (try simp at Z2); (try rw [Nat.add_one_le_iff] at Z2)); have hR2 := box_up U2 hR1))
                  go_roundw
                  case rel => exact ⟨i + 1, by omega, by omega, by go_num, HNX.out, hR2, by (repeat (first | with_reducible exact Up.refl _ | with_reducible assumption | with_reducible refine Up.set ?_ (by first | exact Nat.le_refl _ | (simp only []; omega) | (simp; omega)) _ | with_reducible refine Up.alloc ?_ _ | with_reducible refine Up.drew ?_ | refine Up.trans ?_ (by with_reducible assumption)))⟩
                  case measure => simp [intOf]; omega
            · have hi11 : i = 11 := by omega
              subst hi11
              go_wp2
              go_roundw
              case rel => exact ⟨j + 1, by omega, by omega, by go_num, HNO.out.lit, hR, HUP.out⟩
              case measure => simp [intOf]; omega
        · have hj9 : j = 9 := by omega
          subst hj9
          go_wp2
          go_roundw
          case rel => exact ⟨k + 1, by omega, by go_num, HNO.out.ord, hR, HUP.out⟩
          case measure => simp [intOf]; omega
    · have hk2 : k = 2 := by omega
      subst hk2
      have e : Hid (prsSet t = none) := NoSet.end hno
      obtain ⟨hb1, q0, q1, q2⟩ := hR.cells
      have hf1 := box_free hR
      go_wp2
      refine bodyPost_ret (v := psV none) (by simp [results, Tryz.results143, go_sem, q0, q1, q2, psV, st0]) rfl ⟨by rw [e.out], ?_⟩
      (repeat (first | with_reducible exact Up.refl _ | with_reducible assumption | with_reducible refine Up.set ?_ (by first | exact Nat.le_refl _ | (simp only []; omega) | (simp; omega)) _ | with_reducible refine Up.alloc ?_ _ | with_reducible refine Up.drew ?_ | refine Up.trans ?_ (by with_reducible assumption)))

end Go.Proofs.YtiiahjnfbhcgmaaGreatDoor

/- The reference's ParseKnown. Conditions: fewer than 2^20 bytes. -/
namespace Go.Proofs.YtiiahjnfbhcgmaaGreatDoor
set_option linter.unusedVariables false
set_option linter.unusedSimpArgs false
open Go Go.RowKit

def knZ : KnD := ⟨st0, [], 0, 0⟩
/-- What ParseKnown leaves. -/
def PkPost (o : Option KnD) (w : World) (e : Ending) (w' : World) : Prop := ∃ v, e = .returned (.tuple #[kV (o.getD knZ) v, .bool o.isSome]) ∧ ownPr w' w.heap.size v (o.getD knZ).ps ∧ Up w w'
theorem prsK_len4 {t : List UInt8} (h : (splL 59 t).length ≠ 4) : prsK t = none := by
  unfold prsK
  split
  · rename_i a b c d e; rw [e] at h; exact absurd rfl h
  · rfl
theorem prsK_4 {t a b c d : List UInt8} (h : splL 59 t = [a, b, c, d]) : prsK t = kn4 a b c d := by unfold prsK; rw [h]
theorem lenK_4 {t a b c d : List UInt8} (h : splL 59 t = [a, b, c, d]) : lenK t = some ⟨(prsSet a).getD st0, lenP d, (numR b).getD 0, (numR c).getD 0⟩ := by unfold lenK; rw [h]; rfl
theorem lenP_dash : lenP [45] = [] := rfl
theorem lenP_cut {d : List UInt8} (h : d ≠ [45]) : lenP d = (splL 44 d).map prR := by unfold lenP; rw [if_neg h]
def RelPkn (ys : List (List UInt8)) (vp : Value) (s : SetD) (ba la : Int) (kb : Nat) (w : World) (i : Value) (wr : World) : Prop := ∃ (j : Nat) (v : Value) (ps : List PairD), j ≤ ys.length ∧ i = .int .i64 j ∧ ps = (ys.take j).map prR ∧ KnAt kb ⟨s, ps, ba, la⟩ v wr ∧ ownPr wr w.heap.size v ps ∧ ownS wr w.heap.size vp (ys.map bs) ∧ KnAt w.heap.size knZ (.slice none 0 0) wr ∧ Up w wr

set_option maxRecDepth 100000 in
set_option maxHeartbeats 8000000 in
theorem pkS_any (t : List UInt8) (w : World) (ht : t.length ≤ 1048576) :
    Calls Tryz.prog 81  #[.string (bs t)] w (PkPost (prsK t) w) := by
  unfold PkPost
  have zT := bs_size t
  have cS := fun wx => l9Cut_n t 59 59 rfl wx ht
  have hxp := splL_piece_le 59 t
  obtain ⟨xs, hxs⟩ : ∃ xs, xs = splL 59 t := ⟨_, rfl⟩
  rw [← hxs] at cS hxp
  by_cases h4 : xs.length = 4
  case' neg =>
    have e : Hid (prsK t = none) := prsK_len4 (by rw [← hxs]; exact h4)
    have hB4 : ((xs.length : Int) == 4) = false := by rw [beq_eq_false_iff_ne]; omega
    rw [e.out]
    clear hxs hxp
    go_enter Tryz.func81, Tryz.ntmps81
    go_wp2_with fail
    (with_reducible refine (cS _).mono ?_); rintro e w1 ⟨vp, rfl, ho, U1⟩
    obtain ⟨av, cv, rfl⟩ := ownsRow_shape ho
    simp only [List.length_map] at ho ⊢
    have hR1 : KnAt w.heap.size knZ (.slice none 0 0) w1 := box_up U1 (MapKept.heap_alloc w _).1
    have hU1 : Up w w1 := by (repeat (first | with_reducible exact Up.refl _ | with_reducible assumption | with_reducible refine Up.set ?_ (by first | exact Nat.le_refl _ | (simp only []; omega) | (simp; omega)) _ | with_reducible refine Up.alloc ?_ _ | with_reducible refine Up.drew ?_ | refine Up.trans ?_ (by with_reducible assumption)))
    obtain ⟨hb1, q0, q1, q2, q3, q4, q5⟩ := hR1.cells
    have hf1 := box_free hR1
    simp only [knZ, st0] at q0 q1 q2 q3 q4 q5
    clear U1 cS
    go_wp2
    refine bodyPost_ret (v := .tuple #[kV knZ (.slice none 0 0), .bool false]) (by simp [results, Tryz.results81, go_sem, q0, q1, q2, q3, q4, q5, knZ, st0]) rfl ⟨_, rfl, World.ownsRow_nil _ _ _ _, ?_⟩
    (repeat (first | with_reducible exact Up.refl _ | with_reducible assumption | with_reducible refine Up.set ?_ (by first | exact Nat.le_refl _ | (simp only []; omega) | (simp; omega)) _ | with_reducible refine Up.alloc ?_ _ | with_reducible refine Up.drew ?_ | refine Up.trans ?_ (by with_reducible assumption)))
  obtain ⟨a, b, c, d, hx⟩ := len4 h4
  rw [hx] at cS hxp hxs
  have hal := hxp a (by simp)
  have hbl := hxp b (by simp)
  have hcl := hxp c (by simp)
  have hdl := hxp d (by simp)
  have HLK := Lib.hid (lenK_4 hxs.symm)
  have HPK := Lib.hid (prsK_len t)
  have cA := fun wx => psS_any a wx
  have cB := fun wx => l9Num_any b wx (by omega)
  have cC := fun wx => l9Num_any c wx (by omega)
  have cD := fun wx => l9Cut_n d 44 44 rfl wx (by omega)
  clear hxp hxs h4 hx xs
  obtain ⟨s, hs⟩ : ∃ s, s = (prsSet a).getD st0 := ⟨_, rfl⟩
  obtain ⟨ba, hba⟩ : ∃ ba, ba = (numR b).getD 0 := ⟨_, rfl⟩
  obtain ⟨la, hla⟩ : ∃ la, la = (numR c).getD 0 := ⟨_, rfl⟩
  unfold psV at cA
  rw [← hs] at cA HLK
  rw [← hba] at cB HLK
  rw [← hla] at cC HLK
  clear hs hba hla
  generalize (prsSet a).isSome = bA at *
  generalize (numR b).isSome = bB at *
  generalize (numR c).isSome = bC at *
  simp only [setV] at cA
  go_enter Tryz.func81, Tryz.ntmps81
  go_wp2_with fail
  (with_reducible refine (cS _).mono ?_); rintro e w1 ⟨vp, rfl, ho, U1⟩
  obtain ⟨av, cv, rfl⟩ := ownsRow_shape ho
  simp only [List.length_map, List.length_cons, List.length_nil, Nat.zero_add] at ho ⊢
  have hR1 : KnAt w.heap.size knZ (.slice none 0 0) w1 := box_up U1 (MapKept.heap_alloc w _).1
  have hU1 : Up w w1 := by (repeat (first | with_reducible exact Up.refl _ | with_reducible assumption | with_reducible refine Up.set ?_ (by first | exact Nat.le_refl _ | (simp only []; omega) | (simp; omega)) _ | with_reducible refine Up.alloc ?_ _ | with_reducible refine Up.drew ?_ | refine Up.trans ?_ (by with_reducible assumption)))
  obtain ⟨g, rfl, hg, -, hcc1, hcc2, c0⟩ := own_strs ho (k := 0) (by simp)
  have c1 := own_strC ho (k := 1) (by simp)
  have c2 := own_strC ho (k := 2) (by simp)
  have c3 := own_strC ho (k := 3) (by simp)
  simp only [List.getElem_cons_zero, List.getElem_cons_succ] at c0 c1 c2 c3
  clear U1 cS
  go_wp2_with fail
  (with_reducible refine (cA _).mono ?_); rintro e w2 ⟨rfl, U2⟩
  have d1 := (U2.cell (p := ⟨g, 1, none⟩) hg).trans c1
  have d2 := (U2.cell (p := ⟨g, 2, none⟩) hg).trans c2
  have d3 := (U2.cell (p := ⟨g, 3, none⟩) hg).trans c3
  have hg2 := Nat.lt_of_lt_of_le hg U2.size
  have hR2 : KnAt w.heap.size knZ (.slice none 0 0) w2 := box_up U2 hR1
  have hU2 := hU1.trans U2
  clear c0 c1 c2 c3 hR1 hU1 U2 ho
  go_wp2_with fail
  (with_reducible refine (cB _).mono ?_); rintro e w3 ⟨rfl, rfl⟩
  go_wp2_with fail
  (with_reducible refine (cC _).mono ?_); rintro e w3 ⟨rfl, rfl⟩
  obtain ⟨W, hW⟩ : ∃ W, Hid (W = (w2.alloc (.cells #[.int .i64 s.ord, .int .i64 s.lit, .int .i64 s.most] 24)).alloc (.cells #[.int .i64 s.ord, .int .i64 s.lit, .int .i64 s.most, .slice none 0 0, .int .i64 ba, .int .i64 la] 27)) := ⟨_, rfl⟩
  have HWU : Hid (Up w2 W) := by rw [hW.out]; exact ((Up.refl _).alloc _).alloc _
  have HK : Hid (KnAt (w2.heap.size + 1) ⟨s, [], ba, la⟩ (.slice none 0 0) W) := by rw [hW.out, ← size_alloc w2 (.cells #[.int .i64 s.ord, .int .i64 s.lit, .int .i64 s.most] 24)]; exact (MapKept.heap_alloc _ _).1
  by_cases hd : d = [45]
  · have hb1 := bl_eq hd
    obtain ⟨ps, hps⟩ : ∃ ps : List PairD, ps = [] := ⟨_, rfl⟩
    have HLP : Hid (lenK t = some ⟨s, ps, ba, la⟩) := by unfold Hid; rw [HLK.out, hd, lenP_dash, hps]
    clear hd cD
    go_wp2_with fail
    rw [← hW.out]
    have hK : KnAt (w2.heap.size + 1) ⟨s, ps, ba, la⟩ (.slice none 0 0) W := by rw [hps]; exact HK.out
    have hR := hR2.up HWU.out
    have hO : ownPr W w.heap.size (.slice none 0 0) ps := by rw [hps]; exact World.ownsRow_nil _ _ _ _
    have hU := hU2.trans HWU.out
    have hpl : ps.length ≤ 1073741824 := by rw [hps]; exact Nat.zero_le _
    clear hps d1 d2 d3 HK hR2 hU2 hW HWU
    (with_reducible refine (fkS_any ⟨s, ps, ba, la⟩ (.slice none 0 0) 0 _ ((RdP.of_own hO).low (Nat.zero_le _)) hpl).mono ?_); rintro e w5 ⟨rfl, U5⟩
    have hK5 := hK.up U5
    have hR5 := hR.up U5
    have hO5 := ownsRow_up hO U5
    have hU5 := hU.trans U5
    clear U5 hK hR hO hU
    obtain ⟨hb5, r0, r1, r2, r3, r4, r5⟩ := hK5.cells
    obtain ⟨hb6, q0, q1, q2, q3, q4, q5⟩ := hR5.cells
    simp only [knZ, st0] at q0 q1 q2 q3 q4 q5
    have hf6 := box_free hR5
    by_cases hq : fmtK ⟨s, ps, ba, la⟩ = t
    · have e : Hid (prsK t = some ⟨s, ps, ba, la⟩) := by unfold Hid; rw [HPK.out, HLP.out]; simp only []; rw [if_pos hq]
      have hE := bs_eq hq
      generalize fmtK ⟨s, ps, ba, la⟩ = F at *
      have HB := Lib.hid (box_ne hR5 hO5 (by decide))
      clear hq HPK HLP HLK
      go_wp2
      refine bodyPost_ret (v := .tuple #[kV ⟨s, ps, ba, la⟩ ((.slice none 0 0)), .bool true]) (by simp [results, Tryz.results81, go_sem, q0, q1, q2, q3, q4, q5]) rfl ⟨(.slice none 0 0), by rw [e.out]; rfl, ?_, ?_⟩
      · rw [e.out]
        exact KnW.own hO5 HB.out ⟨s, ps, ba, la⟩ ((.slice none 0 0))
      · exact KnW.up hU5 (Nat.le_refl _) ⟨s, ps, ba, la⟩ ((.slice none 0 0))
    · have e : Hid (prsK t = none) := by unfold Hid; rw [HPK.out, HLP.out]; simp only []; rw [if_neg hq]
      have hE := bs_dif hq
      generalize fmtK ⟨s, ps, ba, la⟩ = F at *
      clear hq HPK HLP HLK
      go_wp2
      refine bodyPost_ret (v := .tuple #[kV knZ (.slice none 0 0), .bool false]) (by simp [results, Tryz.results81, go_sem, q0, q1, q2, q3, q4, q5, knZ, st0]) rfl ⟨_, by rw [e.out]; rfl, by rw [e.out]; exact World.ownsRow_nil _ _ _ _, ?_⟩
      (repeat (first | with_reducible exact Up.refl _ | with_reducible assumption | with_reducible refine Up.set ?_ (by first | exact Nat.le_refl _ | (simp only []; omega) | (simp; omega)) _ | with_reducible refine Up.alloc ?_ _ | with_reducible refine Up.drew ?_ | refine Up.trans ?_ (by with_reducible assumption)))
  · have hb1 := bl_ne hd
    have hyp := splL_piece_le 44 d
    have hyl := splL_length_le 44 d
    obtain ⟨ys, hys⟩ : ∃ ys, ys = splL 44 d := ⟨_, rfl⟩
    rw [← hys] at hyp hyl cD
    have HLY : Hid (lenK t = some ⟨s, ys.map prR, ba, la⟩) := by unfold Hid; rw [HLK.out, lenP_cut hd, hys]
    have d3' := (HWU.out.cell (p := ⟨g, 3, none⟩) hg2).trans d3
    obtain ⟨i0, hi, hz0, hz1, hz2⟩ := info_parts infoPair
    clear hd hys HLK
    go_wp2_with fail
    rw [← hW.out]
    have hR := hR2.up HWU.out
    have hU := hU2.trans HWU.out
    (with_reducible refine (cD _).mono ?_); rintro e w4 ⟨vy, rfl, ho4, U4⟩
    obtain ⟨ay, cy, rfl⟩ := ownsRow_shape ho4
    simp only [List.length_map] at ho4 ⊢
    have hK4 := HK.out.up U4
    have hR4 := hR.up U4
    have hU4 := hU.trans U4
    have ho4 := ownsRow_base ho4 hU.size
    have hne : ¬ w2.heap.size + 1 = w.heap.size := by have := hU2.size; omega
    have hwk : w.heap.size ≤ w2.heap.size + 1 := by have := hU2.size; omega
    clear d1 d2 d3 d3' HK hR2 hU2 hW HWU U4 hR hU
    generalize w2.heap.size + 1 = kb at *
    go_wp2
    go_loopw [13] (fun i wr => RelPkn ys (.slice ay ys.length cy) s ba la kb w i wr) (fun i _ => ys.length - (intOf i).toNat)
    case atStart => exact ⟨0, _, [], Nat.zero_le _, rfl, rfl, hK4, World.ownsRow_nil _ _ _ _, ho4, hR4, hU4⟩
    case round =>
      clear hK4 hR4 hU4 ho4
      obtain ⟨j, v, ps, hj, rfl, hps, hK, hO, ho, hR, hU⟩ := hrel
      obtain ⟨a', c', rfl⟩ := ownsRow_shape hO
      have hpj : ps.length = j := by rw [hps, List.length_map, List.length_take]; omega
      have HPS := Lib.hid hps
      have hpl : ps.length ≤ 1073741824 := by omega
      have HPJ := Lib.hid hpj
      clear hps hpj
      by_cases hlt : j < ys.length
      · obtain ⟨g, rfl, hgy, -, hy1, hy2, -⟩ := own_strs ho hlt
        have hyj : (ys[j]).length ≤ t.length := by have := hyp _ (List.getElem_mem hlt); omega
        have cP := fun wx => l3Pair_any ys[j] wx (by omega)
        have HN : Hid (ps ++ [prR ys[j]] = (ys.take (j + 1)).map prR) := by unfold Hid; rw [HPS.out, List.take_succ_eq_append_getElem hlt, List.map_append]; rfl
        have HKO := Lib.hid hK
        have HOO := Lib.hid hO
        have HRO := Lib.hid hR
        have HYO := Lib.hid ho
        have HUO := Lib.hid hU
        have HN1 := Lib.hid (box_ne hK hO (by decide))
        have HN2 := Lib.hid (rowsX_ne ho hO (by decide))
        have HN3 := Lib.hid (box_ne hR hO (by decide))
        have HN4 := Lib.hid (box_ne hK ho (by decide))
        have HRW : Hid (∀ y, Value.ownBlock (.slice a' ps.length c') = some y → w.heap.size ≤ y) := fun y hy => (HOO.out.lt y hy).1
        obtain ⟨hb0, r0, r1, r2, r3, r4, r5⟩ := hK.cells
        have hwz := hU.size
        have hpl2 : ps.length ≤ 1048577 := by have := HPJ.out; omega
        generalize prR ys[j] = p at *
        clear hK hO hR ho hU
        go_wp2
        refine wp_region_own 10 8 (Value.ownBlock (.slice a' ps.length c')) (by kernel_rfl) (by kernel_rfl) ?_
        simp only [List.take, List.drop]
        repeat (refine wpG_step (fun K hK => ?_); go_simp; (try simp only [↓IntWalk.iteOmega]); first
          | (refine hK _ _ ?_; clear hK K)
          | (refine stepG_own (by rfl) (by kernel_rfl) ((fun v w' => w'.ownsRow w.heap.size 149 2 v (ps.length + 1) (cellsPr ps ++ prC p))) ((fun v w w' h hu => ownsRow_up h hu)) (fun wq hwq => ?_) ?_
             · ((repeat (first | refine fills_no (by rfl) ?_ | refine fills_yes (by rfl) (fun vq hvq => ?_))); simp only [List.filter_nil, fills]; (obtain ⟨bq, eqb, nb, hcb⟩ := hvq; exact gAt_append (.tmp 60) (.tmp 66) 25 (by rfl) w.heap.size 149 i0 (.agg #[.int .i64 0, .int .i64 0]) 2 16 Tryz.underlying25 hi hz0 hz1 hz2 rfl (by decide) (.slice a' ps.length c') ps.length (cellsPr ps) (by rfl) (ownsRow_up HOO.out hwq) ⟨bq, 0, none⟩ 1 1 (prC p) (by exact eqb) rfl (newP_cells hcb) (prC_one _) (by unfold maxLen; omega) (by omega) (by have := hwq.size; omega) _ rfl))
             refine hK _ _ ?_; clear hK K)
          | (refine stepG_c (by rfl) ?_ ?_ ?_
             rotate_left
             · intro wq hwq; (have hbq := gcell hwq; (repeat (first | refine fills_no (by rfl) ?_ | refine fills_yes (by rfl) (fun vq hvq => ?_))); simp only [List.filter_nil, fills]; unfold upAt; (try ((obtain ⟨-, r0, r1, r2, r3, r4, r5⟩ := KnAt.cells (HKO.out.gr hwq HN1.out); have x0 := own_strC (World.ownsRow.kept HYO.out hwq HN2.out) hlt))); go_simp; (try go_bits); (try simp only [↓IntWalk.iteOmega]); (try (rw [dif_pos (by omega)]; go_simp; try go_bits)); first | exact upOut_value | (apply upOut_call; (go_at_call 144; with_reducible exact cP _)) | (apply upOut_eq; (go_at_call 144; with_reducible exact cP _)))
             go_simp; refine hK _ _ ?_; clear hK K)
          | (refine stepG_m (by rfl) (by kernel_rfl) (NewP (Value.ownBlock (.slice a' ps.length c')) p) (newP_closed) (fun wq hwq => ?_) ?_
             · (have hbq := gcell hwq; (repeat (first | refine fills_no (by rfl) ?_ | refine fills_yes (by rfl) (fun vq hvq => ?_))); simp only [List.filter_nil, fills]; unfold upAt; (try ((obtain ⟨-, r0, r1, r2, r3, r4, r5⟩ := KnAt.cells (HKO.out.gr hwq HN1.out); have x0 := own_strC (World.ownsRow.kept HYO.out hwq HN2.out) hlt))); go_simp; (try go_bits); (try simp only [↓IntWalk.iteOmega]); (try (rw [dif_pos (by omega)]; go_simp; try go_bits)); exact upOut_make ((Up.refl _).alloc _) ⟨_, rfl, own_ne HOO.out hwq.size, (MapKept.heap_alloc _ _).1⟩)
             refine hK _ _ ?_; clear hK K))
        refine wpG_nil (by rfl) (fun wq hwq => ?_)
        simp only [fills]
        rintro v11 h11 v10 -
        obtain ⟨a3, c3, rfl⟩ := ownsRow_shape h11
        have hKp := HKO.out.gr hwq HN1.out
        have hRp := HRO.out.gr hwq HN3.out
        have hYp := World.ownsRow.kept HYO.out hwq HN2.out
        have hUp : Up w wq := Up.grown HUO.out hwq HRW.out
        have HZ := Lib.hid (And.intro hKp (And.intro hRp (And.intro hYp (And.intro hUp h11))))
        have HNB := Lib.hid (box_ne hKp h11 (by decide))
        obtain ⟨hpz, r0, r1, r2, r3, r4, r5⟩ := KnAt.cells hKp
        have hfp := box_free hKp
        clear hKp hRp hYp hUp h11 hwq
        go_wp2
        go_roundw
        case rel =>
          obtain ⟨z1, z2, z3, z4, z5⟩ := HZ.out
          refine ⟨j + 1, .slice a3 (ps.length + 1) c3, ps ++ [p], by omega, by go_num, HN.out, box_set z1 3 (.slice a3 (ps.length + 1) c3), ?_, ownsRow_setb z3 HN4.out _ _, box_other z2 (p := ⟨kb, 3, none⟩) (fun h => hne h.symm) _, z4.set (p := ⟨kb, 3, none⟩) hwk _⟩
          unfold ownPr
          rw [cellsPr_snoc, List.length_append]
          exact ownsRow_setb z5 HNB.out _ _
        case measure => simp [intOf]; omega
      · have hjl : j = ys.length := by omega
        have HLP : Hid (lenK t = some ⟨s, ps, ba, la⟩) := by unfold Hid; rw [HLY.out, HPS.out, hjl, List.take_length]
        have HLK := HLP
        obtain ⟨hb0, r0, r1, r2, r3, r4, r5⟩ := hK.cells
        clear hjl cD
        go_wp2_with fail
        clear hb0 r0 r1 r2 r3 r4 r5
        (with_reducible refine (fkS_any ⟨s, ps, ba, la⟩ (.slice a' ps.length c') 0 _ ((RdP.of_own hO).low (Nat.zero_le _)) hpl).mono ?_); rintro e w5 ⟨rfl, U5⟩
        have hK5 := hK.up U5
        have hR5 := hR.up U5
        have hO5 := ownsRow_up hO U5
        have hU5 := hU.trans U5
        clear U5 hK hR hO hU
        obtain ⟨hb5, r0, r1, r2, r3, r4, r5⟩ := hK5.cells
        obtain ⟨hb6, q0, q1, q2, q3, q4, q5⟩ := hR5.cells
        simp only [knZ, st0] at q0 q1 q2 q3 q4 q5
        have hf6 := box_free hR5
        by_cases hq : fmtK ⟨s, ps, ba, la⟩ = t
        · have e : Hid (prsK t = some ⟨s, ps, ba, la⟩) := by unfold Hid; rw [HPK.out, HLP.out]; simp only []; rw [if_pos hq]
          have hE := bs_eq hq
          generalize fmtK ⟨s, ps, ba, la⟩ = F at *
          have HB := Lib.hid (box_ne hR5 hO5 (by decide))
          clear hq HPK HLP HLK
          go_wp2
          refine bodyPost_ret (v := .tuple #[kV ⟨s, ps, ba, la⟩ ((.slice a' ps.length c')), .bool true]) (by simp [results, Tryz.results81, go_sem, q0, q1, q2, q3, q4, q5]) rfl ⟨(.slice a' ps.length c'), by rw [e.out]; rfl, ?_, ?_⟩
          · rw [e.out]
            exact KnW.own hO5 HB.out ⟨s, ps, ba, la⟩ ((.slice a' ps.length c'))
          · exact KnW.up hU5 (Nat.le_refl _) ⟨s, ps, ba, la⟩ ((.slice a' ps.length c'))
        · have e : Hid (prsK t = none) := by unfold Hid; rw [HPK.out, HLP.out]; simp only []; rw [if_neg hq]
          have hE := bs_dif hq
          generalize fmtK ⟨s, ps, ba, la⟩ = F at *
          clear hq HPK HLP HLK
          go_wp2
          refine bodyPost_ret (v := .tuple #[kV knZ (.slice none 0 0), .bool false]) (by simp [results, Tryz.results81, go_sem, q0, q1, q2, q3, q4, q5, knZ, st0]) rfl ⟨_, by rw [e.out]; rfl, by rw [e.out]; exact World.ownsRow_nil _ _ _ _, ?_⟩
          (repeat (first | with_reducible exact Up.refl _ | with_reducible assumption | with_reducible refine Up.set ?_ (by first | exact Nat.le_refl _ | (simp only []; omega) | (simp; omega)) _ | with_reducible refine Up.alloc ?_ _ | with_reducible refine Up.drew ?_ | refine Up.trans ?_ (by with_reducible assumption)))

end Go.Proofs.YtiiahjnfbhcgmaaGreatDoor

/- Plain: text of bytes in hexadecimal. Conditions: none. -/
namespace Go.Proofs.YtiiahjnfbhcgmaaGreatDoor
set_option linter.unusedVariables false
set_option linter.unusedSimpArgs false
open Go

def hexD (n : Nat) : UInt8 := if n < 10 then UInt8.ofNat (48 + n) else UInt8.ofNat (87 + n)
def hexV (b : UInt8) : Option Nat := if 48 ≤ b.toNat ∧ b.toNat ≤ 57 then some (b.toNat - 48) else if 97 ≤ b.toNat ∧ b.toNat ≤ 102 then some (b.toNat - 87) else none
def hexL : List UInt8 → List UInt8
  | [] => []
  | b :: r => hexD (b.toNat / 16) :: hexD (b.toNat % 16) :: hexL r
/-- What FormatHex returns. -/
def fmtHex (l : List UInt8) : List UInt8 := if l.length ≤ 4000 then hexL l else []
def unhex : List UInt8 → Option (List UInt8)
  | [] => some []
  | [_] => none
  | a :: b :: r => match hexV a, hexV b with
    | some x, some y => (unhex r).map (UInt8.ofNat (16 * x + y) :: ·)
    | _, _ => none
/-- What ParseHex returns. -/
def prsHex (t : List UInt8) : Option (List UInt8) := if t.length ≤ 8000 then unhex t else none
theorem hexV_hexD {n : Nat} (h : n < 16) : hexV (hexD n) = some n := by
  have : ∀ m : Fin 16, hexV (hexD m.1) = some m.1 := by decide
  exact this ⟨n, h⟩
theorem hexV_lt {b : UInt8} {n : Nat} (h : hexV b = some n) : n < 16 := by
  unfold hexV at h
  split at h
  · simp only [Option.some.injEq] at h; omega
  · split at h
    · simp only [Option.some.injEq] at h; omega
    · cases h
theorem hexD_hexV {b : UInt8} {n : Nat} (h : hexV b = some n) : hexD n = b := by
  unfold hexV at h
  apply UInt8.toNat_inj.1
  split at h
  · simp only [Option.some.injEq] at h; unfold hexD; rw [if_pos (by omega), UInt8.toNat_ofNat']; omega
  · split at h
    · simp only [Option.some.injEq] at h; unfold hexD; rw [if_neg (by omega), UInt8.toNat_ofNat']; omega
    · cases h
theorem hexL_len : ∀ l, (hexL l).length = 2 * l.length
  | [] => rfl
  | b :: r => by
    have := hexL_len r
    simp only [hexL, List.length_cons]; omega
theorem hexL_app : ∀ a b, hexL (a ++ b) = hexL a ++ hexL b
  | [], b => rfl
  | x :: a, b => by simp [hexL, hexL_app a b]
theorem unhex_hexL : ∀ l, unhex (hexL l) = some l
  | [] => rfl
  | b :: r => by
    have hb := b.toNat_lt
    have h1 : b.toNat / 16 < 16 := by omega
    have h2 : b.toNat % 16 < 16 := by omega
    simp only [hexL, unhex, hexV_hexD h1, hexV_hexD h2, unhex_hexL r, Option.map_some]
    congr 2
    apply UInt8.toNat_inj.1
    rw [UInt8.toNat_ofNat']; omega
theorem hexL_unhex : ∀ {t l : List UInt8}, unhex t = some l → hexL l = t
  | [], l, h => by simp only [unhex, Option.some.injEq] at h; subst h; rfl
  | [_], l, h => by simp [unhex] at h
  | a :: b :: r, l, h => by
    unfold unhex at h
    split at h
    · rename_i x y hx hy
      obtain ⟨l', h1, rfl⟩ := Option.map_eq_some_iff.1 h
      have q1 := hexV_lt hx
      have q2 := hexV_lt hy
      have e : (UInt8.ofNat (16 * x + y)).toNat = 16 * x + y := by rw [UInt8.toNat_ofNat']; omega
      rw [hexL, hexL_unhex h1, e, show (16 * x + y) / 16 = x by omega, show (16 * x + y) % 16 = y by omega, hexD_hexV hx, hexD_hexV hy]
    · cases h
theorem prsHex_fmt {l : List UInt8} (h : l.length ≤ 4000) : prsHex (fmtHex l) = some l := by
  unfold prsHex fmtHex
  rw [if_pos h, if_pos (by rw [hexL_len]; omega), unhex_hexL]
theorem fmtHex_prs {t l : List UInt8} (h : prsHex t = some l) : fmtHex l = t := by
  unfold prsHex at h
  split at h
  · rename_i hl
    have e := hexL_unhex h
    have hn := hexL_len l
    rw [e] at hn
    unfold fmtHex
    rw [if_pos (by omega), e]
  · cases h
theorem hexD_chr : ∀ n, n < 16 → (48 ≤ (hexD n).toNat ∧ (hexD n).toNat ≤ 57) ∨ (97 ≤ (hexD n).toNat ∧ (hexD n).toNat ≤ 102) := by
  have : ∀ m : Fin 16, (48 ≤ (hexD m.1).toNat ∧ (hexD m.1).toNat ≤ 57) ∨ (97 ≤ (hexD m.1).toNat ∧ (hexD m.1).toNat ≤ 102) := by decide
  exact fun n h => this ⟨n, h⟩
theorem hexL_chr : ∀ {l : List UInt8}, ∀ b ∈ hexL l, (48 ≤ b.toNat ∧ b.toNat ≤ 57) ∨ (97 ≤ b.toNat ∧ b.toNat ≤ 102)
  | [], b, h => by simp [hexL] at h
  | x :: r, b, h => by
    have hx := x.toNat_lt
    simp only [hexL, List.mem_cons] at h
    rcases h with rfl | rfl | h
    · exact hexD_chr _ (by omega)
    · exact hexD_chr _ (by omega)
    · exact hexL_chr b h
theorem fmtHex_chr {l : List UInt8} : ∀ b ∈ fmtHex l, (48 ≤ b.toNat ∧ b.toNat ≤ 57) ∨ (97 ≤ b.toNat ∧ b.toNat ≤ 102) := by
  unfold fmtHex
  split
  · exact hexL_chr
  · simp


end Go.Proofs.YtiiahjnfbhcgmaaGreatDoor

/- FormatHex of both sides. Conditions: at most 4000 bytes. -/
namespace Go.Proofs.YtiiahjnfbhcgmaaGreatDoor
set_option linter.unusedVariables false
set_option linter.unusedSimpArgs false
open Go Go.RowKit

theorem hexL_succ {l : List UInt8} {k : Nat} (h : k < l.length) : hexL (l.take (k + 1)) = hexL (l.take k) ++ [hexD (l[k].toNat / 16), hexD (l[k].toNat % 16)] := by
  rw [List.take_succ_eq_append_getElem h, hexL_app]; rfl
/-- A made slice of two bytes, whose block is not the row's. -/
def NewU (row : Option Nat) (n : Nat) (v : Value) (w : World) : Prop := ∃ q, v = .slice (some ⟨q, 0, none⟩) 2 2 ∧ some q ≠ row ∧ w.heap[q]? = some (.cells #[.int .u8 ((hexD (n / 16)).toNat : Int), .int .u8 ((hexD (n % 16)).toNat : Int)] 5)
theorem newU_closed {row : Option Nat} {n : Nat} : ∀ v (w w' : World), NewU row n v w → w.grownBy w' row → NewU row n v w' := fun v w w' ⟨q, h1, h2, h3⟩ hg => ⟨q, h1, h2, gbox hg h3 h2⟩
theorem newU_cells {w : World} {x : Nat} {n : Nat} (h : w.heap[x]? = some (.cells #[.int .u8 ((hexD (n / 16)).toNat : Int), .int .u8 ((hexD (n % 16)).toNat : Int)] 5)) : ∀ j u, ([.int .u8 ((hexD (n / 16)).toNat : Int), .int .u8 ((hexD (n % 16)).toNat : Int)] : List Value)[j]? = some u → w.cell? ((⟨x, 0, none⟩ : Addr).add j) = some u := by
  intro j u hu
  have hadd : (⟨x, 0, none⟩ : Addr).add j = ⟨x, j, none⟩ := by unfold Addr.add; split <;> simp_all
  rw [hadd, box_cell h]
  simpa using hu
theorem hexAt : ∀ (n : Nat) (h : n < 16) (h' : n < (⟨#[48, 49, 50, 51, 52, 53, 54, 55, 56, 57, 97, 98, 99, 100, 101, 102]⟩ : ByteArray).size), (⟨#[48, 49, 50, 51, 52, 53, 54, 55, 56, 57, 97, 98, 99, 100, 101, 102]⟩ : ByteArray)[n] = hexD n := by
  have : ∀ m : Fin 16, (⟨#[48, 49, 50, 51, 52, 53, 54, 55, 56, 57, 97, 98, 99, 100, 101, 102]⟩ : ByteArray)[m.1]'(by have := m.2; show m.1 < 16; omega) = hexD m.1 := by decide
  exact fun n h h' => this ⟨n, h⟩
theorem hex_cells (l : List UInt8) (n : Nat) : cellsU (l ++ [hexD (n / 16), hexD (n % 16)]) = cellsU l ++ [.int .u8 ((hexD (n / 16)).toNat : Int), .int .u8 ((hexD (n % 16)).toNat : Int)] := by simp [cellsU]
def RelFh (l : List UInt8) (w : World) (out i : Value) (wr : World) : Prop := ∃ k : Nat, k ≤ l.length ∧ i = .int .i64 k ∧ ownU wr w.heap.size out (hexL (l.take k)) ∧ Up w wr

set_option maxRecDepth 100000 in
set_option maxHeartbeats 4000000 in
theorem fhS_any (l : List UInt8) (w : World) (hl : l.length ≤ 4000) :
    Calls Tryz.prog 74  #[.string (bs l)] w (Same (.string (bs (fmtHex l))) w) := by
  obtain ⟨i0, hib, hz0, hz1, hz2⟩ := info_parts infoByte
  have hz := bs_size l
  rw [show fmtHex l = hexL l from if_pos hl]
  have hmk : ∀ w : World, (Instr.makeSlice 22 (.int .i64 0) (.int .i64 (2 * (l.length : Int)))).run Tryz.prog w = .ok (.slice (some ⟨w.heap.size, 0, none⟩) 0 (2 * l.length)) (w.alloc (.cells (madeCells #[.int .u8 0] (2 * l.length)) 5)) := fun w => by
    have := run_make (P := Tryz.prog) w 22 5 i0 _ Tryz.underlying22 hib hz0 .i64 .i64 0 (2 * l.length : Nat) (by omega) (by omega) (by rw [hz2]; omega) (by omega)
    rw [hz1] at this
    have hn : (2 * (l.length : Int)).toNat = 2 * l.length := by omega
    simpa [Value.cells, hn] using this
  go_enter Tryz.func74, Tryz.ntmps74
  go_wp2
  go_loopw [4, 5] (fun out i wr => RelFh l w out i wr) (fun _ i _ => l.length - (intOf i).toNat)
  case atStart => exact ⟨0, Nat.zero_le _, rfl, ⟨rfl, .inr ⟨w.heap.size, 2 * l.length, _, rfl, Nat.le_refl _, (MapKept.heap_alloc w _).1, Nat.zero_le _, by unfold maxLen; omega, by simp [madeCells], rfl⟩⟩, (Up.refl _).alloc _⟩
  case round =>
    obtain ⟨k, hk, rfl, ho, hup⟩ := hrel
    have hpl := hexL_len (l.take k)
    rw [List.length_take, Nat.min_eq_left hk] at hpl
    unfold ownU at ho
    obtain ⟨a, c, rfl⟩ := ownsRow_shape ho
    rw [hpl] at ho ⊢
    have HO := Lib.hid ho
    have HPL := Lib.hid hpl
    clear ho hpl
    have hsz := hup.size
    by_cases hlt : k < l.length
    · have hlt2 : k < (bs l).size := by omega
      have hu := u8_bd (bs l)[k]
      have HX := Lib.hid (hexL_succ hlt)
      have hn16 : (bs l)[k].toNat / 16 < 16 := by omega
      have hm16 : (bs l)[k].toNat % 16 < 16 := by omega
      have hx1 := hexAt ((bs l)[k].toNat / 16) hn16 hn16
      have hx2 := hexAt ((bs l)[k].toNat % 16) hm16 hm16
      go_wp2
      refine wp_region_own 15 14 (Value.ownBlock (.slice a (2 * k) c)) (by kernel_rfl) (by kernel_rfl) ?_
      simp only [List.take, List.drop]
      repeat (refine wpG_step (fun K hK => ?_); go_simp; (try simp only [↓IntWalk.iteOmega]); first
        | (refine hK _ _ ?_; clear hK K)
        | (refine stepG_own (by rfl) (by kernel_rfl) ((fun v w' => w'.ownsRow w.heap.size 5 1 v (2 * k + 2) (cellsU (hexL (l.take k)) ++ [.int .u8 ((hexD ((bs l)[k].toNat / 16)).toNat : Int), .int .u8 ((hexD ((bs l)[k].toNat % 16)).toNat : Int)]))) ((fun v w w' h hu => ownsRow_up h hu)) (fun wq hwq => ?_) ?_
           · ((repeat (first | refine fills_no (by rfl) ?_ | refine fills_yes (by rfl) (fun vq hvq => ?_))); simp only [List.filter_nil, fills]; (obtain ⟨bq, eqb, nb, hcb⟩ := hvq; exact gAt_append (.tmp 19) (.tmp 32) 22 (by rfl) w.heap.size 5 i0 (.int .u8 0) 1 1 Tryz.underlying22 hib hz0 hz1 hz2 rfl (by decide) (.slice a (2 * k) c) (2 * k) (cellsU (hexL (l.take k))) (by rfl) (ownsRow_up HO.out hwq) ⟨bq, 0, none⟩ 2 2 [.int .u8 ((hexD ((bs l)[k].toNat / 16)).toNat : Int), .int .u8 ((hexD ((bs l)[k].toNat % 16)).toNat : Int)] (by exact eqb) rfl (newU_cells hcb) (by intro u hu; simp at hu; rcases hu with rfl | rfl <;> rfl) (by unfold maxLen; omega) (by omega) (by have := hwq.size; omega) _ rfl))
           refine hK _ _ ?_; clear hK K)
        | (refine stepG_c (by rfl) ?_ ?_ ?_
           rotate_left
           · intro wq hwq; (have hbq := gcell hwq; (repeat (first | refine fills_no (by rfl) ?_ | refine fills_yes (by rfl) (fun vq hvq => ?_))); simp only [List.filter_nil, fills]; unfold upAt; (try (skip)); go_simp; (try go_bits); (try simp only [↓IntWalk.iteOmega]); (try (rw [dif_pos (by omega)]; go_simp; try go_bits)); first | exact upOut_value | (apply upOut_call; fail) | (apply upOut_eq; fail))
           go_simp; refine hK _ _ ?_; clear hK K)
        | (refine stepG_m (by rfl) (by kernel_rfl) (NewU (Value.ownBlock (.slice a (2 * k) c)) (bs l)[k].toNat) (newU_closed) (fun wq hwq => ?_) ?_
           · (have hbq := gcell hwq; (repeat (first | refine fills_no (by rfl) ?_ | refine fills_yes (by rfl) (fun vq hvq => ?_))); simp only [List.filter_nil, fills]; unfold upAt; (try (skip)); go_simp; (try go_bits); (try simp only [↓IntWalk.iteOmega]); (try (rw [dif_pos (by omega)]; go_simp; try go_bits)); exact upOut_make ((Up.refl _).alloc _) ⟨_, rfl, own_ne HO.out hwq.size, (MapKept.heap_alloc _ _).1⟩)
           refine hK _ _ ?_; clear hK K))
      refine wpG_nil (by rfl) (fun wq hwq => ?_)
      simp only [fills]
      rintro v11 h11 v10 -
      have hU : Up w wq := hup.grown hwq (fun y hy => (HO.out.lt y hy).1)
      obtain ⟨a3, c3, rfl⟩ := ownsRow_shape h11
      have H9 := Lib.hid (And.intro hU h11)
      clear hU h11 hwq
      go_wp2
      go_roundw
      case rel => exact ⟨k + 1, by omega, by go_num, by
        have h1 := H9.out.2
        rw [← hex_cells] at h1
        have e : hexL (l.take (k + 1)) = hexL (l.take k) ++ [hexD ((bs l)[k].toNat / 16), hexD ((bs l)[k].toNat % 16)] := HX.out
        unfold ownU
        rw [e, List.length_append, HPL.out]
        exact h1, H9.out.1⟩
      case measure => simp [intOf]; omega
    · have HKL : Hid (l.take k = l) := List.take_of_length_le (by omega)
      rw [HKL.out] at HO HPL
      have hcv : ∀ n, n = 2 * k → (convert 22 9 (.slice a n c)).run Tryz.prog wr = .ok (.string (bs (hexL l))) wr := fun n hn => by
        subst hn
        exact conv_any HO.out HPL.out.symm
      have hcv1 := hcv _ rfl
      go_wp2
      go_ret
      exact ⟨rfl, hup⟩

end Go.Proofs.YtiiahjnfbhcgmaaGreatDoor

/- ParseHex of both sides. Conditions: fewer than 2^20 bytes. -/
namespace Go.Proofs.YtiiahjnfbhcgmaaGreatDoor
set_option linter.unusedVariables false
set_option linter.unusedSimpArgs false
open Go Go.RowKit

def hexs : List UInt8 := [48, 49, 50, 51, 52, 53, 54, 55, 56, 57, 97, 98, 99, 100, 101, 102]
def hexI (c : UInt8) : Int := match hexV c with
  | some n => (n : Int)
  | none => -1
set_option maxRecDepth 100000 in
theorem findHex (c : UInt8) : findL hexs c = hexI c := by
  have : ∀ m : Fin 256, findL hexs (UInt8.ofNat m.1) = hexI (UInt8.ofNat m.1) := by decide +kernel
  have h := this ⟨c.toNat, c.toNat_lt⟩
  simpa using h
set_option maxRecDepth 100000 in
theorem indexHex (c : UInt8) : Lib.indexByte hexs c = hexI c := by
  have : ∀ m : Fin 256, Lib.indexByte hexs (UInt8.ofNat m.1) = hexI (UInt8.ofNat m.1) := by decide +kernel
  have h := this ⟨c.toNat, c.toNat_lt⟩
  simpa using h
theorem hexI_yes {c : UInt8} {n : Nat} (h : hexV c = some n) : hexI c = n := by unfold hexI; rw [h]
theorem hexI_no {c : UInt8} (h : hexV c = none) : hexI c = -1 := by unfold hexI; rw [h]
theorem findHex_any (c : UInt8) (w : World) : Calls Tryz.prog 107  #[.string ⟨#[48, 49, 50, 51, 52, 53, 54, 55, 56, 57, 97, 98, 99, 100, 101, 102]⟩, .int .u8 c.toNat] w (fun e w' => e = .returned (.int .i64 (hexI c)) ∧ w = w') := by
  rw [← findHex]
  exact l9Find_any ⟨#[48, 49, 50, 51, 52, 53, 54, 55, 56, 57, 97, 98, 99, 100, 101, 102]⟩ c w (by decide)
theorem indexHex_any (c : UInt8) (w : World) : Calls Tryz.prog 138 #[.string ⟨#[48, 49, 50, 51, 52, 53, 54, 55, 56, 57, 97, 98, 99, 100, 101, 102]⟩, .int .u8 c.toNat] w (fun e w' => e = .returned (.int .i64 (hexI c)) ∧ w = w') := by
  refine (Tryz.strings_IndexByte ⟨#[48, 49, 50, 51, 52, 53, 54, 55, 56, 57, 97, 98, 99, 100, 101, 102]⟩ (c.toNat : Int) w).mono fun e w' ⟨he, hw⟩ => ⟨?_, hw.symm⟩
  rw [he, ← indexHex]
  simp [hexs]
theorem drop_two {t : List UInt8} {k : Nat} (h : k + 1 < t.length) : t.drop k = t[k] :: t[k + 1] :: t.drop (k + 2) := by
  rw [List.drop_eq_getElem_cons (by omega), List.drop_eq_getElem_cons (i := k + 1) (by omega)]
theorem unhex_two (a b : UInt8) (r : List UInt8) : unhex (a :: b :: r) = match hexV a, hexV b with
    | some x, some y => (unhex r).map (UInt8.ofNat (16 * x + y) :: ·)
    | _, _ => none := by rw [unhex]; try (cases hexV a <;> cases hexV b <;> rfl)
theorem unhex_odd : ∀ {t : List UInt8}, t.length % 2 ≠ 0 → unhex t = none
  | [], h => by simp at h
  | [_], _ => rfl
  | a :: b :: r, h => by
    rw [unhex_two, unhex_odd (t := r) (by simp at h; omega)]
    cases hexV a <;> cases hexV b <;> rfl
theorem cellsU_add (acc : List UInt8) {x y : Nat} (hx : x < 16) (hy : y < 16) : cellsU (acc ++ [UInt8.ofNat (16 * x + y)]) = cellsU acc ++ [.int .u8 (16 * (x : Int) + y)] := by
  have : (UInt8.ofNat (16 * x + y)).toNat = 16 * x + y := by rw [UInt8.toNat_ofNat']; omega
  simp [cellsU, this]
  omega
theorem or_hex {x y : Nat} (hx : x < 16) (hy : y < 16) : bits .or .i64 ((x : Int) * 16) (y : Int) = 16 * (x : Int) + y := by
  have : ∀ a b : Fin 16, bits .or .i64 ((a.1 : Int) * 16) (b.1 : Int) = 16 * (a.1 : Int) + b.1 := by decide +kernel
  exact this ⟨x, hx⟩ ⟨y, hy⟩
def RelPh (t : List UInt8) (w : World) (out i : Value) (wr : World) : Prop := ∃ (k : Nat) (acc : List UInt8), i = .int .i64 k ∧ 2 * acc.length = k ∧ k ≤ t.length ∧ unhex t = (unhex (t.drop k)).map (acc ++ ·) ∧ ownU wr w.heap.size out acc ∧ Up w wr

set_option maxRecDepth 100000 in
set_option maxHeartbeats 4000000 in
theorem phS_any (t : List UInt8) (w : World) (ht : t.length ≤ 1048576) :
    Calls Tryz.prog 82  #[.string (bs t)] w (Same (.tuple #[.string (bs ((prsHex t).getD [])), .bool (prsHex t).isSome]) w) := by
  obtain ⟨i0, hib, hz0, hz1, hz2⟩ := info_parts infoByte
  have hz := bs_size t
  have hmk : ∀ w : World, (Instr.makeSlice 22 (.int .i64 0) (.int .i64 ((t.length : Int) / 2))).run Tryz.prog w = .ok (.slice (some ⟨w.heap.size, 0, none⟩) 0 (t.length / 2)) (w.alloc (.cells (madeCells #[.int .u8 0] (t.length / 2)) 5)) := fun w => by
    have := run_make (P := Tryz.prog) w 22 5 i0 _ Tryz.underlying22 hib hz0 .i64 .i64 0 (t.length / 2 : Nat) (by omega) (by omega) (by rw [hz2]; omega) (by omega)
    rw [hz1] at this
    have hn : ((t.length : Int) / 2).toNat = t.length / 2 := by omega
    simpa [Value.cells, hn] using this
  by_cases hodd : t.length % 2 ≠ 0 ∨ 8000 < t.length
  · have e : Hid (prsHex t = none) := by
      unfold Hid prsHex
      rcases hodd with h | h
      · rw [unhex_odd h]; split <;> rfl
      · rw [if_neg (by omega)]
    rcases hodd with h | h
    · have hb : ((t.length : Int) % 2 == 0) = false := by rw [beq_eq_false_iff_ne]; omega
      go_enter Tryz.func82, Tryz.ntmps82
      go_wp2
      ((try simp only [Exit.inBlock, Exit.then]); refine bodyPost_ret (v := _) (by simp [results, Tryz.results82, go_sem]; rfl) rfl ?_)
      exact ⟨by rw [e.out]; rfl, by (repeat (first | with_reducible exact Up.refl _ | with_reducible assumption | with_reducible refine Up.set ?_ (by first | exact Nat.le_refl _ | (simp only []; omega) | (simp; omega)) _ | with_reducible refine Up.alloc ?_ _ | with_reducible refine Up.drew ?_ | refine Up.trans ?_ (by with_reducible assumption)))⟩
    · go_enter Tryz.func82, Tryz.ntmps82
      go_wp2
      all_goals
        ((try simp only [Exit.inBlock, Exit.then]); refine bodyPost_ret (v := _) (by simp [results, Tryz.results82, go_sem]; rfl) rfl ?_)
        exact ⟨by rw [e.out]; rfl, by (repeat (first | with_reducible exact Up.refl _ | with_reducible assumption | with_reducible refine Up.set ?_ (by first | exact Nat.le_refl _ | (simp only []; omega) | (simp; omega)) _ | with_reducible refine Up.alloc ?_ _ | with_reducible refine Up.drew ?_ | refine Up.trans ?_ (by with_reducible assumption)))⟩
  · have hev : t.length % 2 = 0 := by omega
    have h8 : t.length ≤ 8000 := by omega
    have hb : ((t.length : Int) % 2 == 0) = true := by rw [beq_iff_eq]; omega
    have HP : Hid (prsHex t = unhex t) := if_pos h8
    clear hodd
    go_enter Tryz.func82, Tryz.ntmps82
    go_wp2
    go_loopw [4, 5] (fun out i wr => RelPh t w out i wr) (fun _ i _ => t.length - (intOf i).toNat)
    case atStart => exact ⟨0, [], rfl, rfl, Nat.zero_le _, by simp, ⟨rfl, .inr ⟨w.heap.size, t.length / 2, _, rfl, Nat.le_refl _, (MapKept.heap_alloc w _).1, Nat.zero_le _, by unfold maxLen; omega, by simp [madeCells], rfl⟩⟩, (Up.refl _).alloc _⟩
    case round =>
      obtain ⟨k, acc, rfl, hak, hk, hun, ho, hup⟩ := hrel
      unfold ownU at ho
      obtain ⟨a, c, rfl⟩ := ownsRow_shape ho
      have HO := Lib.hid ho
      have HUN := Lib.hid hun
      have HAK := Lib.hid hak
      have hal : acc.length ≤ 4000 := by omega
      clear ho hun
      have hsz := hup.size
      by_cases hlt : k < t.length
      · have hk1 : k + 1 < t.length := by omega
        have hka : k < (bs t).size := by omega
        have hkb : k + 1 < (bs t).size := by omega
        have hu := u8_bd (bs t)[k]
        have hv := u8_bd (bs t)[k + 1]
        have cA := fun wx => findHex_any (bs t)[k] wx
        have cB := fun wx => findHex_any (bs t)[k + 1] wx
        have HD : Hid (unhex (t.drop k) = match hexV (bs t)[k], hexV (bs t)[k + 1] with | some x, some y => (unhex (t.drop (k + 2))).map (UInt8.ofNat (16 * x + y) :: ·) | _, _ => none) := by
          unfold Hid
          rw [drop_two hk1, unhex_two]; rfl
        clear hak
        cases hx : hexV (bs t)[k] with
        | none =>
          have e : Hid (prsHex t = none) := by unfold Hid; rw [HP.out, HUN.out, HD.out, hx]; rfl
          rw [hexI_no hx] at cA
          clear hx HD
          generalize hexI (bs t)[k + 1] = y at *
          go_wp2_with (go_at_call 107; first | ((with_reducible refine (cA _).mono ?_); rintro e w3 ⟨rfl, rfl⟩) | ((with_reducible refine (cB _).mono ?_); rintro e w3 ⟨rfl, rfl⟩))
          ((try simp only [Exit.inBlock, Exit.then]); refine bodyPost_ret (v := _) (by simp [results, Tryz.results82, go_sem]; rfl) rfl ?_)
          exact ⟨by rw [e.out]; rfl, hup⟩
        | some x =>
          rw [hexI_yes hx] at cA
          have hx16 := hexV_lt hx
          cases hy : hexV (bs t)[k + 1] with
          | none =>
            have e : Hid (prsHex t = none) := by unfold Hid; rw [HP.out, HUN.out, HD.out, hx, hy]; rfl
            rw [hexI_no hy] at cB
            clear hx hy HD
            go_wp2_with (go_at_call 107; first | ((with_reducible refine (cA _).mono ?_); rintro e w3 ⟨rfl, rfl⟩) | ((with_reducible refine (cB _).mono ?_); rintro e w3 ⟨rfl, rfl⟩))
            ((try simp only [Exit.inBlock, Exit.then]); refine bodyPost_ret (v := _) (by simp [results, Tryz.results82, go_sem]; rfl) rfl ?_)
            exact ⟨by rw [e.out]; rfl, hup⟩
          | some y =>
            rw [hexI_yes hy] at cB
            have hy16 := hexV_lt hy
            have HN : Hid (unhex t = (unhex (t.drop (k + 2))).map ((acc ++ [UInt8.ofNat (16 * x + y)]) ++ ·)) := by
              unfold Hid
              rw [HUN.out, HD.out, hx, hy, Option.map_map]
              congr 1
              funext l
              simp
            clear hx hy HD
            go_wp2_with (first | (go_at_call 107; first | ((with_reducible refine (cA _).mono ?_); rintro e w3 ⟨rfl, rfl⟩) | ((with_reducible refine (cB _).mono ?_); rintro e w3 ⟨rfl, rfl⟩)) | (at_builtin; refine wpList_append_own _ rfl _ _ 22 rfl (w.heap.size) 5 i0 (.int .u8 0) 1 1 Tryz.underlying22 hib hz0 hz1 hz2 rfl (by decide) _ _ _ rfl ((HO.out).alloc _) ⟨(wr).heap.size, 0, none⟩ 1 1 [.int .u8 (16 * (x : Int) + y)] rfl rfl (new_cells [.int .u8 (16 * (x : Int) + y)] _ rfl) (by intro u hu; simp at hu; subst hu; rfl) (by unfold maxLen; omega) (by omega) (by simp; omega) ?_; rintro v2 w2 hown2 hgr2 -; skip))
            go_roundw
            case rel => exact ⟨k + 2, acc ++ [UInt8.ofNat (16 * x + y)], by go_num, by have := HAK.out; rw [List.length_append, List.length_singleton]; omega, by omega, HN.out, by unfold ownU; rw [cellsU_add acc hx16 hy16, List.length_append]; exact hown2, (hup.alloc _).grown hgr2 (fun z hz => (HO.out.lt z hz).1)⟩
            case measure => simp [intOf]; omega
      · have hkl : k = t.length := by omega
        have e : Hid (prsHex t = some acc) := by unfold Hid; rw [HP.out, HUN.out, hkl]; simp [unhex]
        have hcv := conv_any HO.out rfl
        go_wp2
        ((try simp only [Exit.inBlock, Exit.then]); refine bodyPost_ret (v := _) (by simp [results, Tryz.results82, go_sem]; rfl) rfl ?_)
        exact ⟨by rw [e.out]; rfl, hup⟩

set_option maxRecDepth 100000 in
set_option maxHeartbeats 4000000 in
theorem phI_any (t : List UInt8) (w : World) (ht : t.length ≤ 1048576) :
    Calls Tryz.prog 64  #[.string (bs t)] w (Same (.tuple #[.string (bs ((prsHex t).getD [])), .bool (prsHex t).isSome]) w) := by
  obtain ⟨i0, hib, hz0, hz1, hz2⟩ := info_parts infoByte
  have hz := bs_size t
  have hmk : ∀ w : World, (Instr.makeSlice 22 (.int .i64 0) (.int .i64 ((t.length : Int) / 2))).run Tryz.prog w = .ok (.slice (some ⟨w.heap.size, 0, none⟩) 0 (t.length / 2)) (w.alloc (.cells (madeCells #[.int .u8 0] (t.length / 2)) 5)) := fun w => by
    have := run_make (P := Tryz.prog) w 22 5 i0 _ Tryz.underlying22 hib hz0 .i64 .i64 0 (t.length / 2 : Nat) (by omega) (by omega) (by rw [hz2]; omega) (by omega)
    rw [hz1] at this
    have hn : ((t.length : Int) / 2).toNat = t.length / 2 := by omega
    simpa [Value.cells, hn] using this
  by_cases hodd : t.length % 2 ≠ 0 ∨ 8000 < t.length
  · have e : Hid (prsHex t = none) := by
      unfold Hid prsHex
      rcases hodd with h | h
      · rw [unhex_odd h]; split <;> rfl
      · rw [if_neg (by omega)]
    rcases hodd with h | h
    · have hb : ((t.length : Int) % 2 == 0) = false := by rw [beq_eq_false_iff_ne]; omega
      go_enter Tryz.func64, Tryz.ntmps64
      go_wp2
      ((try simp only [Exit.inBlock, Exit.then]); refine bodyPost_ret (v := _) (by simp [results, Tryz.results64, go_sem]; rfl) rfl ?_)
      exact ⟨by rw [e.out]; rfl, by (repeat (first | with_reducible exact Up.refl _ | with_reducible assumption | with_reducible refine Up.set ?_ (by first | exact Nat.le_refl _ | (simp only []; omega) | (simp; omega)) _ | with_reducible refine Up.alloc ?_ _ | with_reducible refine Up.drew ?_ | refine Up.trans ?_ (by with_reducible assumption)))⟩
    · go_enter Tryz.func64, Tryz.ntmps64
      go_wp2
      all_goals
        ((try simp only [Exit.inBlock, Exit.then]); refine bodyPost_ret (v := _) (by simp [results, Tryz.results64, go_sem]; rfl) rfl ?_)
        exact ⟨by rw [e.out]; rfl, by (repeat (first | with_reducible exact Up.refl _ | with_reducible assumption | with_reducible refine Up.set ?_ (by first | exact Nat.le_refl _ | (simp only []; omega) | (simp; omega)) _ | with_reducible refine Up.alloc ?_ _ | with_reducible refine Up.drew ?_ | refine Up.trans ?_ (by with_reducible assumption)))⟩
  · have hev : t.length % 2 = 0 := by omega
    have h8 : t.length ≤ 8000 := by omega
    have hb : ((t.length : Int) % 2 == 0) = true := by rw [beq_iff_eq]; omega
    have HP : Hid (prsHex t = unhex t) := if_pos h8
    clear hodd
    go_enter Tryz.func64, Tryz.ntmps64
    go_wp2
    go_loopw [4, 5] (fun out i wr => RelPh t w out i wr) (fun _ i _ => t.length - (intOf i).toNat)
    case atStart => exact ⟨0, [], rfl, rfl, Nat.zero_le _, by simp, ⟨rfl, .inr ⟨w.heap.size, t.length / 2, _, rfl, Nat.le_refl _, (MapKept.heap_alloc w _).1, Nat.zero_le _, by unfold maxLen; omega, by simp [madeCells], rfl⟩⟩, (Up.refl _).alloc _⟩
    case round =>
      obtain ⟨k, acc, rfl, hak, hk, hun, ho, hup⟩ := hrel
      unfold ownU at ho
      obtain ⟨a, c, rfl⟩ := ownsRow_shape ho
      have HO := Lib.hid ho
      have HUN := Lib.hid hun
      have HAK := Lib.hid hak
      have hal : acc.length ≤ 4000 := by omega
      clear ho hun
      have hsz := hup.size
      by_cases hlt : k < t.length
      · have hk1 : k + 1 < t.length := by omega
        have hka : k < (bs t).size := by omega
        have hkb : k + 1 < (bs t).size := by omega
        have hu := u8_bd (bs t)[k]
        have hv := u8_bd (bs t)[k + 1]
        have cA := fun wx => indexHex_any (bs t)[k] wx
        have cB := fun wx => indexHex_any (bs t)[k + 1] wx
        have HD : Hid (unhex (t.drop k) = match hexV (bs t)[k], hexV (bs t)[k + 1] with | some x, some y => (unhex (t.drop (k + 2))).map (UInt8.ofNat (16 * x + y) :: ·) | _, _ => none) := by
          unfold Hid
          rw [drop_two hk1, unhex_two]; rfl
        clear hak
        cases hx : hexV (bs t)[k] with
        | none =>
          have e : Hid (prsHex t = none) := by unfold Hid; rw [HP.out, HUN.out, HD.out, hx]; rfl
          rw [hexI_no hx] at cA
          clear hx HD
          generalize hexI (bs t)[k + 1] = y at *
          go_wp2_with (go_at_call 138; first | ((with_reducible refine (cA _).mono ?_); rintro e w3 ⟨rfl, rfl⟩) | ((with_reducible refine (cB _).mono ?_); rintro e w3 ⟨rfl, rfl⟩))
          ((try simp only [Exit.inBlock, Exit.then]); refine bodyPost_ret (v := _) (by simp [results, Tryz.results64, go_sem]; rfl) rfl ?_)
          exact ⟨by rw [e.out]; rfl, hup⟩
        | some x =>
          rw [hexI_yes hx] at cA
          have hx16 := hexV_lt hx
          cases hy : hexV (bs t)[k + 1] with
          | none =>
            have e : Hid (prsHex t = none) := by unfold Hid; rw [HP.out, HUN.out, HD.out, hx, hy]; rfl
            rw [hexI_no hy] at cB
            clear hx hy HD
            go_wp2_with (go_at_call 138; first | ((with_reducible refine (cA _).mono ?_); rintro e w3 ⟨rfl, rfl⟩) | ((with_reducible refine (cB _).mono ?_); rintro e w3 ⟨rfl, rfl⟩))
            ((try simp only [Exit.inBlock, Exit.then]); refine bodyPost_ret (v := _) (by simp [results, Tryz.results64, go_sem]; rfl) rfl ?_)
            exact ⟨by rw [e.out]; rfl, hup⟩
          | some y =>
            rw [hexI_yes hy] at cB
            have hy16 := hexV_lt hy
            have hor := or_hex hx16 hy16
            have hmd : (16 * (x : Int) + y) % 256 = 16 * (x : Int) + y := by omega
            have HN : Hid (unhex t = (unhex (t.drop (k + 2))).map ((acc ++ [UInt8.ofNat (16 * x + y)]) ++ ·)) := by
              unfold Hid
              rw [HUN.out, HD.out, hx, hy, Option.map_map]
              congr 1
              funext l
              simp
            clear hx hy HD
            go_wp2_with (first | (go_at_call 138; first | ((with_reducible refine (cA _).mono ?_); rintro e w3 ⟨rfl, rfl⟩) | ((with_reducible refine (cB _).mono ?_); rintro e w3 ⟨rfl, rfl⟩)) | (at_builtin; refine wpList_append_own _ rfl _ _ 22 rfl (w.heap.size) 5 i0 (.int .u8 0) 1 1 Tryz.underlying22 hib hz0 hz1 hz2 rfl (by decide) _ _ _ rfl ((HO.out).alloc _) ⟨(wr).heap.size, 0, none⟩ 1 1 [.int .u8 (16 * (x : Int) + y)] rfl rfl (new_cells [.int .u8 (16 * (x : Int) + y)] _ rfl) (by intro u hu; simp at hu; subst hu; rfl) (by unfold maxLen; omega) (by omega) (by simp; omega) ?_; rintro v2 w2 hown2 hgr2 -; skip))
            go_roundw
            case rel => exact ⟨k + 2, acc ++ [UInt8.ofNat (16 * x + y)], by go_num, by have := HAK.out; rw [List.length_append, List.length_singleton]; omega, by omega, HN.out, by unfold ownU; rw [cellsU_add acc hx16 hy16, List.length_append]; exact hown2, (hup.alloc _).grown hgr2 (fun z hz => (HO.out.lt z hz).1)⟩
            case measure => simp [intOf]; omega
      · have hkl : k = t.length := by omega
        have e : Hid (prsHex t = some acc) := by unfold Hid; rw [HP.out, HUN.out, hkl]; simp [unhex]
        have hcv := conv_any HO.out rfl
        go_wp2
        ((try simp only [Exit.inBlock, Exit.then]); refine bodyPost_ret (v := _) (by simp [results, Tryz.results64, go_sem]; rfl) rfl ?_)
        exact ⟨by rw [e.out]; rfl, hup⟩

end Go.Proofs.YtiiahjnfbhcgmaaGreatDoor

/- Plain: the bits of codes from a state, and their bytes when they are put into bytes part by part (for the writers). Conditions: as each says. -/
namespace Go.Proofs.YtiiahjnfbhcgmaaGreatDoor
set_option linter.unusedVariables false
set_option linter.unusedSimpArgs false
open Go Go.RowKit

/-- Whole bytes, then the rest. -/
theorem packL_append (o : Int) {a b : List UInt8} (h : a.length % 8 = 0) : packL o (a ++ b) = packL o a ++ packL o b := by
  obtain ⟨n, hn⟩ : ∃ n, a.length = 8 * n := ⟨a.length / 8, by omega⟩
  have hpa : padL a = a := by unfold padL; rw [h]; simp
  have hpab : padL (a ++ b) = a ++ padL b := by
    unfold padL
    rw [List.append_assoc, List.length_append]
    congr 3
    omega
  have hlb := padL_length b
  refine List.ext_getElem? fun i => ?_
  unfold packL
  rw [hpa, hpab, List.length_append, hn, hlb, show (8 * n + 8 * ((b.length + 7) / 8)) / 8 = n + (b.length + 7) / 8 by omega, show 8 * n / 8 = n by omega, show 8 * ((b.length + 7) / 8) / 8 = (b.length + 7) / 8 by omega]
  rcases Nat.lt_or_ge i n with hi | hi
  · rw [List.getElem?_append_left (by simp; omega)]
    simp only [List.getElem?_map]
    rw [List.getElem?_range (by omega), List.getElem?_range (by omega)]
    simp only [Option.map_some]
    congr 1
    unfold byteN
    congr 2
    rw [List.drop_append_of_le_length (by omega), List.take_append_of_le_length (by rw [List.length_drop]; omega)]
  · rw [List.getElem?_append_right (by simp; omega)]
    simp only [List.getElem?_map, List.length_map, List.length_range]
    by_cases hb : i < n + (b.length + 7) / 8
    · rw [List.getElem?_range (by omega), List.getElem?_range (by omega)]
      simp only [Option.map_some]
      congr 1
      unfold byteN
      congr 3
      rw [List.drop_append, List.drop_of_length_le (by omega), List.nil_append]
      congr 1
      omega
    · rw [List.getElem?_eq_none (by simp; omega), List.getElem?_eq_none (by simp; omega)]
      rfl

/-- What is known behind a code. -/
def KnD.thru (k : KnD) (x : Int) : KnD := if x = (k.c : Int) + 1 then k else if x = (k.c : Int) then k.cleared else k.after x
def KnD.thruN (k : KnD) : List Int → KnD
  | [] => k
  | x :: xs => (k.thru x).thruN xs
/-- The bits of codes. -/
def bitsS (o : Int) : KnD → List Int → List UInt8
  | _, [] => []
  | k, x :: xs => codeL o x.toNat k.width ++ bitsS o (k.thru x) xs
theorem thruN_app (k : KnD) : ∀ (xs ys : List Int), k.thruN (xs ++ ys) = (k.thruN xs).thruN ys := by
  intro xs
  induction xs generalizing k with
  | nil => intro ys; rfl
  | cons x xs ih => intro ys; exact ih (k.thru x) ys
theorem bitsS_app (o : Int) : ∀ (xs ys : List Int) (k : KnD), bitsS o k (xs ++ ys) = bitsS o k xs ++ bitsS o (k.thruN xs) ys := by
  intro xs
  induction xs with
  | nil => intro ys k; rfl
  | cons x xs ih =>
    intro ys k
    show codeL o x.toNat k.width ++ bitsS o (k.thru x) (xs ++ ys) = _
    rw [ih ys (k.thru x)]
    show _ = (codeL o x.toNat k.width ++ bitsS o (k.thru x) xs) ++ bitsS o ((k.thru x).thruN xs) ys
    rw [List.append_assoc]
end Go.Proofs.YtiiahjnfbhcgmaaGreatDoor

/- Plain: a writer that gets data in parts writes the stream of all data (for FnWriteAll and the other writers' laws). Conditions: what is known is valid, the data has only literals. -/
namespace Go.Proofs.YtiiahjnfbhcgmaaGreatDoor
set_option linter.unusedVariables false
set_option linter.unusedSimpArgs false
open Go Go.RowKit

theorem KnD.thru_fol {k : KnD} (h : k.Ok) {x : Int} (hf : k.follows x = true) : k.thru x = k.after x := by
  have : x ≠ (k.c : Int) + 1 ∧ x ≠ (k.c : Int) := by
    rcases KnD.follows_cases h hf with hc | ⟨hg, rfl, hl⟩
    · rw [codeOk_iff] at hc; omega
    · unfold KnD.next; omega
  unfold KnD.thru
  rw [if_neg this.1, if_neg this.2]
theorem wrC_thru : ∀ (n : Nat) (k : KnD) (d : List UInt8), k.Ok → (∀ b ∈ d, b.toNat < k.c) → (wrC n k d).2.1 = k.thruN (wrC n k d).1 := by
  intro n
  induction n with
  | zero => intro k d _ _; rfl
  | succ n ih =>
    intro k d hk hl
    by_cases hs : d = [] ∨ k.longest d = d
    · rw [wrC_stop hs]; rfl
    · have hd0 : d ≠ [] := fun e => hs (.inl e)
      obtain ⟨hf, -⟩ := KnD.find_any hk hd0 hl
      have hak := KnD.after_ok hk hf
      have hl' : ∀ b ∈ d.drop (k.longest d).length, b.toNat < k.c := fun b hb => hl b (List.mem_of_mem_drop hb)
      rw [wrC, if_neg hs]
      by_cases hfu : (k.after (k.find (k.longest d))).full = true
      · rw [if_pos hfu]
        show _ = ((k.thru _).thru _).thruN _
        rw [KnD.thru_fol hk hf]
        have hc : (k.after (k.find (k.longest d))).thru (k.c : Int) = (k.after (k.find (k.longest d))).cleared := by
          unfold KnD.thru
          rw [if_neg (by show ¬ ((k.c : Int) = (k.c : Int) + 1); omega)]
          exact if_pos rfl
        rw [hc]
        exact ih _ _ (KnD.cleared_ok hak) hl'
      · rw [if_neg hfu]
        show _ = (k.thru _).thruN _
        rw [KnD.thru_fol hk hf]
        exact ih _ _ hak hl'

/-- A writer. -/
structure WrD where
  k : KnD
  pend : List UInt8
  bits : List UInt8
  beg : Bool
/-- The bits ahead of the further data's, and what is known there. -/
def WrD.open (w : WrD) : List UInt8 × KnD := if w.beg then (w.bits, w.k) else (w.bits ++ codeL w.k.set.ord w.k.c w.k.width, w.k.cleared)
def WrD.codes (w : WrD) (d : List UInt8) : List Int × KnD × List UInt8 := wrC (w.pend ++ d).length w.open.2 (w.pend ++ d)
def WrD.all (w : WrD) (d : List UInt8) : List UInt8 := w.open.1 ++ bitsS w.k.set.ord w.open.2 (w.codes d).1
/-- What further data makes of a writer, and the bytes that it writes. -/
def WrD.write (w : WrD) (d : List UInt8) : WrD × List UInt8 :=
  if d = [] then (w, []) else (⟨(w.codes d).2.1, (w.codes d).2.2, (w.all d).drop ((w.all d).length / 8 * 8), true⟩, packL w.k.set.ord ((w.all d).take ((w.all d).length / 8 * 8)))
structure WaInv (k0 : KnD) (d : List UInt8) (w : WrD) (out : List UInt8) : Prop where
  ok : w.k.Ok
  set : w.k.set = k0.set
  lits : ∀ b ∈ w.pend, b.toNat < k0.c
  word : w.pend = [] ∨ w.k.longest w.pend = w.pend
  st : (w.beg = false ∧ d = [] ∧ w.pend = [] ∧ w.bits = [] ∧ w.k = k0 ∧ out = []) ∨
    (w.beg = true ∧ ∃ C P, P.length % 8 = 0 ∧ out = packL k0.set.ord P ∧ P ++ w.bits = bitsS k0.set.ord k0 C ∧ w.k = k0.thruN C ∧
      ∀ e m, (d ++ e).length ≤ m → (∀ b ∈ e, b.toNat < k0.c) → ∃ m', (w.pend ++ e).length ≤ m' ∧ (k0.c : Int) :: greedyN m k0.cleared (d ++ e) = C ++ greedyN m' w.k (w.pend ++ e))
theorem WaInv.start {k : KnD} (h : k.Ok) : WaInv k [] ⟨k, [], [], false⟩ [] := ⟨h, rfl, (fun b hb => absurd hb (List.not_mem_nil)), .inl rfl, .inl ⟨rfl, rfl, rfl, rfl, rfl, rfl⟩⟩
theorem thru_clear (k : KnD) : k.thru (k.c : Int) = k.cleared := by
  unfold KnD.thru
  rw [if_neg (by omega), if_pos rfl]
theorem WaInv.next {k0 : KnD} {d x : List UInt8} {w : WrD} {out : List UInt8} (hk0 : k0.Ok) (h : WaInv k0 d w out) (hx : ∀ b ∈ x, b.toNat < k0.c) : WaInv k0 (d ++ x) (w.write x).1 (out ++ (w.write x).2) := by
  by_cases hx0 : x = []
  · subst hx0
    unfold WrD.write
    rw [if_pos rfl, List.append_nil, List.append_nil]
    exact h
  obtain ⟨hk, hset, hlp, hword, hst⟩ := h
  have hc : w.k.c = k0.c := by unfold KnD.c; rw [hset]
  have hlx : ∀ b ∈ w.pend ++ x, b.toNat < k0.c := fun b hb => (List.mem_append.1 hb).elim (hlp b) (hx b)
  have hB := List.take_append_drop ((w.all x).length / 8 * 8) (w.all x)
  have hT : ((w.all x).take ((w.all x).length / 8 * 8)).length % 8 = 0 := by rw [List.length_take]; omega
  unfold WrD.write
  rw [if_neg hx0]
  rcases hst with ⟨b1, rfl, b3, b4, b5, rfl⟩ | ⟨b1, C, P, p1, p2, p3, p4, p5⟩
  · have ho : w.open = (codeL k0.set.ord k0.c k0.width, k0.cleared) := by unfold WrD.open; rw [b1, b4, b5]; simp
    have hcd : w.codes x = wrC x.length k0.cleared x := by unfold WrD.codes; rw [ho, b3]; rfl
    obtain ⟨q1, q2, q3, q4, q, q5⟩ := wrC_end x.length k0.cleared x (Nat.le_refl _) (KnD.cleared_ok hk0) hx
    have hth := wrC_thru x.length k0.cleared x (KnD.cleared_ok hk0) hx
    have hall : w.all x = bitsS k0.set.ord k0 ((k0.c : Int) :: (wrC x.length k0.cleared x).1) := by
      unfold WrD.all
      rw [hcd, ho, hset]
      show codeL k0.set.ord k0.c k0.width ++ _ = codeL k0.set.ord (k0.c : Int).toNat k0.width ++ bitsS k0.set.ord (k0.thru (k0.c : Int)) _
      rw [thru_clear]
      rfl
    refine ⟨by rw [hcd]; exact q1, by rw [hcd]; exact q2, fun b hb => hx b ?_, by rw [hcd]; exact q3, .inr ⟨rfl, (k0.c : Int) :: (wrC x.length k0.cleared x).1, _, hT, by rw [hset]; rfl, by rw [hB, hall], ?_, fun e m hm he => ?_⟩⟩
    · rw [hcd] at hb
      rw [q5]
      exact List.mem_append_right _ hb
    · rw [hcd, hth]
      show _ = (k0.thru (k0.c : Int)).thruN _
      rw [thru_clear]
    · rw [hcd]
      obtain ⟨m', r1, r2⟩ := wrC_greedy x.length k0.cleared x e m (Nat.le_refl _) hm (KnD.cleared_ok hk0) hx
      exact ⟨m', r1, by
        show (k0.c : Int) :: greedyN m k0.cleared (x ++ e) = _
        rw [r2]; rfl⟩
  · have ho : w.open = (w.bits, w.k) := by unfold WrD.open; rw [b1]; rfl
    have hcd : w.codes x = wrC (w.pend ++ x).length w.k (w.pend ++ x) := by unfold WrD.codes; rw [ho]
    have hlw : ∀ b ∈ w.pend ++ x, b.toNat < w.k.c := fun b hb => by rw [hc]; exact hlx b hb
    obtain ⟨q1, q2, q3, q4, q, q5⟩ := wrC_end (w.pend ++ x).length w.k (w.pend ++ x) (Nat.le_refl _) hk hlw
    have hth := wrC_thru (w.pend ++ x).length w.k (w.pend ++ x) hk hlw
    have hall : P ++ w.all x = bitsS k0.set.ord k0 (C ++ (wrC (w.pend ++ x).length w.k (w.pend ++ x)).1) := by
      unfold WrD.all
      rw [hcd, ho, hset, bitsS_app, ← p3, ← p4, List.append_assoc]
    refine ⟨by rw [hcd]; exact q1, by rw [hcd]; exact q2.trans hset, fun b hb => hlx b ?_, by rw [hcd]; exact q3, .inr ⟨rfl, C ++ (wrC (w.pend ++ x).length w.k (w.pend ++ x)).1, P ++ (w.all x).take ((w.all x).length / 8 * 8), ?_, ?_, ?_, ?_, fun e m hm he => ?_⟩⟩
    · rw [hcd] at hb
      rw [q5]
      exact List.mem_append_right _ hb
    · rw [List.length_append]; omega
    · rw [p2, hset, packL_append _ p1]
    · rw [List.append_assoc, hB, hall]
    · rw [hcd, hth, thruN_app, ← p4]
    · rw [hcd]
      have hxe : ∀ b ∈ x ++ e, b.toNat < k0.c := fun b hb => (List.mem_append.1 hb).elim (hx b) (he b)
      obtain ⟨m1, r1, r2⟩ := p5 (x ++ e) m (by rw [← List.append_assoc]; exact hm) hxe
      rw [show w.pend ++ (x ++ e) = (w.pend ++ x) ++ e from (List.append_assoc ..).symm] at r1 r2
      obtain ⟨m', s1, s2⟩ := wrC_greedy (w.pend ++ x).length w.k (w.pend ++ x) e m1 (Nat.le_refl _) r1 hk hlw
      exact ⟨m', s1, by rw [List.append_assoc d x e, r2, s2]; exact (List.append_assoc ..).symm⟩

end Go.Proofs.YtiiahjnfbhcgmaaGreatDoor

/- Plain: writing in parts is writing at once (for FnWriteParts and FnWriteBits). Conditions: the writer is valid, the data has only literals. -/
namespace Go.Proofs.YtiiahjnfbhcgmaaGreatDoor
set_option linter.unusedVariables false
set_option linter.unusedSimpArgs false
open Go Go.RowKit

theorem KnD.longest_lt {k : KnD} {d : List UInt8} (hs : k.longest d ≠ d) : (k.longest d).length < d.length := by
  have hle := KnD.longest_le (k := k) d
  rcases Nat.lt_or_ge (k.longest d).length d.length with h | h
  · exact h
  · exfalso
    apply hs
    have ht := KnD.longest_take (k := k) d
    rw [show (k.longest d).length = d.length by omega, List.take_length] at ht
    exact ht.symm
theorem WrD.open_ok {w : WrD} (h : w.k.Ok) : w.open.2.Ok ∧ w.open.2.set = w.k.set := by
  unfold WrD.open
  split
  · exact ⟨h, rfl⟩
  · exact ⟨KnD.cleared_ok h, rfl⟩
end Go.Proofs.YtiiahjnfbhcgmaaGreatDoor

/- Plain: which writers are valid; what is written by a valid one is valid (for FnWriteParts, FnWriteBits). Conditions: as each says. -/
namespace Go.Proofs.YtiiahjnfbhcgmaaGreatDoor
set_option linter.unusedVariables false
set_option linter.unusedSimpArgs false
open Go Go.RowKit

def KnD.vl (k : KnD) : Prop := k.last = -1 → k.base = k.ps.length
/-- A word that has a code is the longest of itself. -/
theorem KnD.find_word {k : KnD} {d : List UInt8} (hd : d ≠ []) (h : 0 ≤ k.find d) : k.longest d = d := by
  have hW : k.isW d := by
    by_cases hc : d.length = 1 ∧ (d.getD 0 0).toNat < k.c
    · exact .inl hc.1
    · unfold KnD.find at h
      rw [if_neg hc] at h
      split at h
      · next i hi =>
        right
        have h1 := List.find?_some hi
        have h2 := List.mem_of_find?_eq_some hi
        exact ⟨i, List.mem_range.1 h2, by simpa using h1⟩
      · omega
  have h2 := KnD.isW_le hd hW (Nat.le_refl _) List.take_length
  have h3 := KnD.longest_le (k := k) d
  have ht := KnD.longest_take (k := k) d
  rw [show (k.longest d).length = d.length by omega, List.take_length] at ht
  exact ht.symm
theorem KnD.word_find {k : KnD} (hk : k.Ok) {d : List UInt8} (hd : d ≠ []) (hl : ∀ b ∈ d, b.toNat < k.c) (h : k.longest d = d) : 0 ≤ k.find d := by
  obtain ⟨hf, -⟩ := KnD.find_any hk hd hl
  rw [h] at hf
  exact (KnD.find_bd hk hf).1

/-- Whether a writer is valid. -/
def wrOk (w : WrD) : Prop := w.k.Ok ∧ w.k.vl ∧ (∀ b ∈ w.pend, b.toNat < w.k.c) ∧ w.pend.length ≤ 2000 ∧ isBits w.bits ∧ w.bits.length ≤ 7 ∧ (w.pend = [] ∨ w.k.longest w.pend = w.pend) ∧ (w.beg = false → w.pend = [] ∧ w.bits = [])
end Go.Proofs.YtiiahjnfbhcgmaaGreatDoor

/- Plain: whether a writer is valid, what WriteData makes of a writer of any kind, and the rounds of its loop (for the writers' laws). Conditions: as each says. -/
namespace Go.Proofs.YtiiahjnfbhcgmaaGreatDoor
set_option linter.unusedVariables false
set_option linter.unusedSimpArgs false
open Go Go.RowKit

def bitsB (l : List UInt8) : Bool := l.all fun b => decide (b.toNat = 48 ∨ b.toNat = 49)
theorem bitsB_iff {l : List UInt8} : bitsB l = true ↔ isBits l := by
  unfold bitsB isBits
  simp only [List.all_eq_true, decide_eq_true_eq]
/-- What is asked of a writer's text, bits and beginning beside what is known. -/
def wrsB (w : WrD) : Bool := (w.beg || (decide (w.pend = []) && decide (w.bits = []))) && (decide (w.pend = []) || decide (w.k.longest w.pend = w.pend))
def wrvB (w : WrD) : Bool := validK w.k && (fitsB w.k.set w.pend && ((bitsB w.bits && decide (w.bits.length ≤ 7)) && wrsB w))
theorem wrvB_ok {w : WrD} (h : wrvB w = true) : wrOk w := by
  unfold wrvB wrsB at h
  simp only [Bool.and_eq_true, Bool.or_eq_true, decide_eq_true_eq] at h
  obtain ⟨h1, h2, ⟨h3, h4⟩, h5, h6⟩ := h
  obtain ⟨g1, g2⟩ := ok_of_valid h1
  obtain ⟨f1, f2, f3⟩ := fitsB_lits h2
  refine ⟨g1, g2, f3, f2, bitsB_iff.1 h3, h4, h6, fun hb => ?_⟩
  rcases h5 with h5 | h5
  · rw [hb] at h5; cases h5
  · exact h5
/-- The loop of WriteData at a round's beginning: what is known, the text that has no code yet, the bits. -/
structure WlD (T : List UInt8 × KnD × List UInt8) (s : SetD) (m : Nat) (k : KnD) (d b : List UInt8) : Prop where
  len : d.length ≤ m
  le : d.length ≤ 2000
  ne : d ≠ []
  sum : b.length + 20 * d.length ≤ 41000
  bit : isBits b
  tot : (b ++ bitsS s.ord k (wrC m k d).1, (wrC m k d).2) = T
  ok : k.Ok
  set : k.set = s
  lit : ∀ x ∈ d, x.toNat < clr s
theorem WlD.lits {T : List UInt8 × KnD × List UInt8} {s : SetD} {m : Nat} {k : KnD} {d b : List UInt8} (h : WlD T s m k d b) : ∀ x ∈ d, x.toNat < k.c := by
  unfold KnD.c
  rw [h.set]
  exact h.lit
theorem WlD.step {T : List UInt8 × KnD × List UInt8} {s : SetD} {m : Nat} {k : KnD} {d b : List UInt8} (h : WlD T s m k d b) (hl : k.longest d ≠ d) :
    (k.follows (k.find (k.longest d)) = true ∧ k.find (k.longest d) ≠ (k.c : Int) ∧ k.find (k.longest d) ≠ (k.c : Int) + 1 ∧ 1 ≤ (k.longest d).length ∧ (k.longest d).length < d.length) ∧
    ((k.after (k.find (k.longest d))).full = true → WlD T s (m - 1) (k.after (k.find (k.longest d))).cleared (d.drop (k.longest d).length) ((b ++ codeL s.ord (k.find (k.longest d)).toNat k.width) ++ codeL s.ord (clr s) (k.after (k.find (k.longest d))).width)) ∧
    ((k.after (k.find (k.longest d))).full = false → WlD T s (m - 1) (k.after (k.find (k.longest d))) (d.drop (k.longest d).length) (b ++ codeL s.ord (k.find (k.longest d)).toNat k.width)) := by
  have hp := KnD.longest_pos (k := k) h.ne
  have hlt := KnD.longest_lt (k := k) (d := d) hl
  obtain ⟨hf, -⟩ := KnD.find_any h.ok h.ne h.lits
  have hak := KnD.after_ok h.ok hf
  have hc : k.c = clr s := by unfold KnD.c; rw [h.set]
  have hne : k.find (k.longest d) ≠ (k.c : Int) ∧ k.find (k.longest d) ≠ (k.c : Int) + 1 := by
    rcases KnD.follows_cases h.ok hf with hc | ⟨hg, e, hl⟩
    · rw [codeOk_iff] at hc; omega
    · rw [e]; unfold KnD.next; omega
  have h1 := h.len; have h2 := h.le; have h3 := h.sum; have h4 := h.tot
  obtain ⟨n, rfl⟩ : ∃ n, m = n + 1 := ⟨m - 1, by omega⟩
  have hs : ¬ (d = [] ∨ k.longest d = d) := fun e => e.elim h.ne hl
  have hr : d.drop (k.longest d).length ≠ [] := fun e => by
    have := congrArg List.length e
    rw [List.length_drop] at this
    simp at this
    omega
  have hth := KnD.thru_fol h.ok hf
  have hw := KnD.width_bd h.ok
  have hwa := KnD.width_bd hak
  refine ⟨⟨hf, hne.1, hne.2, hp, hlt⟩, fun hfu => ?_, fun hfu => ?_⟩
  · rw [wrC, if_neg hs, if_pos hfu] at h4
    refine ⟨by rw [List.length_drop]; omega, by rw [List.length_drop]; omega, hr, ?_, (h.bit.app (isBits_code _ _ _)).app (isBits_code _ _ _), ?_, KnD.cleared_ok hak, h.set, fun x hx => h.lit x (List.mem_of_mem_drop hx)⟩
    · rw [List.length_append, List.length_append, codeL_length, codeL_length, List.length_drop]; omega
    · rw [← h4]
      show _ = (b ++ (codeL s.ord _ k.width ++ (codeL s.ord (k.c : Int).toNat (k.thru _).width ++ bitsS s.ord ((k.thru _).thru (k.c : Int)) _)), _)
      rw [hth]
      have hcc : (k.after (k.find (k.longest d))).thru (k.c : Int) = (k.after (k.find (k.longest d))).cleared := thru_clear _
      rw [hcc, List.append_assoc, List.append_assoc, Int.toNat_natCast, hc]
      rfl
  · rw [wrC, if_neg hs, if_neg (by rw [hfu]; simp)] at h4
    refine ⟨by rw [List.length_drop]; omega, by rw [List.length_drop]; omega, hr, ?_, h.bit.app (isBits_code _ _ _), ?_, hak, h.set, fun x hx => h.lit x (List.mem_of_mem_drop hx)⟩
    · rw [List.length_append, codeL_length, List.length_drop]; omega
    · rw [← h4]
      show _ = (b ++ (codeL s.ord _ k.width ++ bitsS s.ord (k.thru _) _), _)
      rw [hth, List.append_assoc]
      rfl
theorem open_len {w : WrD} (h : wrOk w) : w.open.1.length ≤ 17 ∧ isBits w.open.1 := by
  have hw := KnD.width_bd h.1
  have h7 := h.2.2.2.2.2.1
  have hb := h.2.2.2.2.1
  unfold WrD.open
  split
  · exact ⟨by show w.bits.length ≤ 17; omega, hb⟩
  · refine ⟨?_, hb.app (isBits_code _ _ _)⟩
    show (w.bits ++ codeL _ _ _).length ≤ 17
    rw [List.length_append, codeL_length]; omega
theorem WlD.start {w : WrD} {d : List UInt8} (h : wrOk w) (hd : d ≠ []) (hl : ∀ x ∈ d, x.toNat < clr w.k.set) (hn : (w.pend ++ d).length ≤ 2000) :
    WlD (w.all d, (w.codes d).2) w.k.set (w.pend ++ d).length w.open.2 (w.pend ++ d) w.open.1 := by
  obtain ⟨hok, hos⟩ := WrD.open_ok h.1
  obtain ⟨o1, o2⟩ := open_len h
  exact ⟨Nat.le_refl _, hn, by simp [hd], by omega, o2, rfl, hok, hos, fun x hx => (List.mem_append.1 hx).elim (h.2.2.1 x) (hl x)⟩

/-- A writer's value. -/
def wrV (w : WrD) (v : Value) : Value := .agg #[.int .i64 w.k.set.ord, .int .i64 w.k.set.lit, .int .i64 w.k.set.most, v, .int .i64 w.k.base, .int .i64 w.k.last, .string (bs w.pend), .string (bs w.bits), .bool w.beg]
end Go.Proofs.YtiiahjnfbhcgmaaGreatDoor

/- Plain: the texts of settings, of what is known, of writers, and reading them. Conditions: none. -/
namespace Go.Proofs.YtiiahjnfbhcgmaaGreatDoor
set_option linter.unusedVariables false
set_option linter.unusedSimpArgs false
open Go

def begT (b : Bool) : List UInt8 := if b then [98, 101, 103, 117, 110] else [110, 101, 119]
def wrL (w : WrD) : List UInt8 := Lib.join [fmtK w.k, someL (fmtHex w.pend), someL w.bits, begT w.beg] [124]
/-- What FormatWriter returns. -/
def fmtW (w : WrD) : List UInt8 := if wrvB w then wrL w else []
/-- What withoutDash returns. -/
def dashP (l : List UInt8) : Option (List UInt8) := if l = [45] then some [] else if l = [] then none else some l
def begP (l : List UInt8) : Option Bool := if l = [110, 101, 119] then some false else if l = [98, 101, 103, 117, 110] then some true else none
def wr4 (a b c d : List UInt8) : Option WrD := match begP d, prsK a, (dashP b).bind prsHex, dashP c with
  | some g, some k, some p, some q => if wrvB ⟨k, p, q, g⟩ then some ⟨k, p, q, g⟩ else none
  | _, _, _, _ => none
/-- What ParseWriter returns. -/
def prsW (t : List UInt8) : Option WrD := match splL 124 t with
  | [a, b, c, d] => wr4 a b c d
  | _ => none
theorem dashP_text {l x : List UInt8} (h : dashP l = some x) : someL x = l := by
  unfold dashP at h
  split at h
  · rename_i e; simp only [Option.some.injEq] at h; subst h; rw [e]; rfl
  · split at h
    · cases h
    · rename_i e
      simp only [Option.some.injEq] at h
      subst h
      exact if_neg e
theorem begP_text {l : List UInt8} {b : Bool} (h : begP l = some b) : l = begT b := by
  unfold begP at h
  split at h
  · rename_i e; simp only [Option.some.injEq] at h; subst h; rw [e]; rfl
  · split at h
    · rename_i e; simp only [Option.some.injEq] at h; subst h; rw [e]; rfl
    · cases h
theorem begP_fmt (b : Bool) : begP (begT b) = some b := by cases b <;> rfl
theorem someL_ne {l : List UInt8} (h : (45 : UInt8) ∉ l) : (someL l = [45] ↔ l = []) ∧ someL l ≠ [] := by
  unfold someL
  split
  · rename_i e; subst e; simp
  · rename_i e
    refine ⟨⟨fun e2 => absurd (by rw [e2]; simp) h, fun e2 => absurd e2 e⟩, e⟩
theorem dashP_fmt {l : List UInt8} (h : (45 : UInt8) ∉ l) : dashP (someL l) = some l := by
  obtain ⟨h1, h2⟩ := someL_ne h
  unfold dashP
  by_cases e : l = []
  · subst e; rfl
  · rw [if_neg (fun e2 => e (h1.1 e2)), if_neg h2]
    unfold someL; rw [if_neg e]
theorem noneL_fmt {l : List UInt8} (h : (45 : UInt8) ∉ l) : noneL (someL l) = l := by
  obtain ⟨h1, h2⟩ := someL_ne h
  unfold noneL
  by_cases e : l = []
  · subst e; rfl
  · rw [if_neg (fun e2 => e (h1.1 e2))]
    unfold someL; rw [if_neg e]
theorem hex_dash {l : List UInt8} : (45 : UInt8) ∉ fmtHex l := fun h => by
  rcases fmtHex_chr _ h with e | e <;> simp at e
theorem bit_dash {l : List UInt8} (h : bitsB l = true) : (45 : UInt8) ∉ l := fun hm => by
  have := bitsB_iff.1 h _ hm
  simp at this
theorem fmtW_prs {t : List UInt8} {w : WrD} (h : prsW t = some w) : fmtW w = t ∧ wrvB w = true := by
  unfold prsW at h
  split at h
  · rename_i a b c d hx
    unfold wr4 at h
    split at h
    · rename_i g k p q h1 h2 h3 h4
      split at h
      · rename_i hv
        simp only [Option.some.injEq] at h
        subst h
        refine ⟨?_, hv⟩
        obtain ⟨x, hx1, hx2⟩ := Option.bind_eq_some_iff.1 h3
        unfold fmtW
        rw [hv, if_pos rfl]
        unfold wrL
        simp only []
        rw [(fmtK_prs h2).1, fmtHex_prs hx2, dashP_text hx1, dashP_text h4, ← begP_text h1, ← hx]
        exact join_splL 124 t
      · cases h
    · cases h
  · cases h
theorem wrvB_parts {w : WrD} (h : wrvB w = true) : validK w.k = true ∧ w.pend.length ≤ 2000 ∧ bitsB w.bits = true ∧ w.bits.length ≤ 7 := by
  have ho := wrvB_ok h
  unfold wrvB at h
  simp only [Bool.and_eq_true, decide_eq_true_eq] at h
  exact ⟨h.1, ho.2.2.2.1, h.2.2.1.1, h.2.2.1.2⟩
theorem fmtK_no {k : KnD} : (124 : UInt8) ∉ fmtK k := by
  unfold fmtK
  split
  · unfold knL
    refine join_no (fun x hx => ?_) (by decide)
    simp only [List.mem_cons, List.not_mem_nil, or_false] at hx
    rcases hx with rfl | rfl | rfl | rfl
    · exact fmtSet_no (by decide) (by decide) (by decide) (by decide)
    · exact itoa_no' _ (by decide)
    · exact itoa_no' _ (by decide)
    · exact someL_no (prsT_no (by decide) (by decide) (by decide)) (by decide)
  · simp
theorem fmtW_spl {w : WrD} (h : wrvB w = true) : splL 124 (fmtW w) = [fmtK w.k, someL (fmtHex w.pend), someL w.bits, begT w.beg] := by
  obtain ⟨h1, h2, h3, h4⟩ := wrvB_parts h
  unfold fmtW
  rw [h, if_pos rfl]
  unfold wrL
  refine splL_join (by simp) fun x hx => ?_
  simp only [List.mem_cons, List.not_mem_nil, or_false] at hx
  rcases hx with rfl | rfl | rfl | rfl
  · exact fmtK_no
  · exact someL_no (fun hm => by rcases fmtHex_chr _ hm with e | e <;> simp at e) (by decide)
  · exact someL_no (fun hm => by have := bitsB_iff.1 h3 _ hm; simp at this) (by decide)
  · unfold begT; split <;> decide
theorem prsW_fmt {w : WrD} (h : wrvB w = true) : prsW (fmtW w) = some w := by
  obtain ⟨h1, h2, h3, h4⟩ := wrvB_parts h
  unfold prsW
  rw [fmtW_spl h]
  simp only [wr4, begP_fmt, prsK_fmt h1, dashP_fmt hex_dash, Option.bind_some, prsHex_fmt (l := w.pend) (by omega), dashP_fmt (bit_dash h3)]
  rw [if_pos h]
def kn00 : KnD := ⟨⟨0, 0, 0⟩, [], 0, 0⟩
/-- What the reference's ParseWriter reads before it asks whether the text is that of what it has read. -/
def lenW (t : List UInt8) : Option WrD := match splL 124 t with
  | [a, b, c, d] => some ⟨(prsK a).getD kn00, (prsHex (noneL b)).getD [], noneL c, decide (d = [98, 101, 103, 117, 110])⟩
  | _ => none
theorem lenW_fmt {w : WrD} (h : wrvB w = true) : lenW (fmtW w) = some w := by
  obtain ⟨h1, h2, h3, h4⟩ := wrvB_parts h
  have hb : decide (begT w.beg = [98, 101, 103, 117, 110]) = w.beg := by cases w.beg <;> rfl
  unfold lenW
  rw [fmtW_spl h]
  simp only [prsK_fmt h1, noneL_fmt hex_dash, prsHex_fmt (l := w.pend) (by omega), noneL_fmt (bit_dash h3), Option.getD_some, hb]
theorem prsW_len (t : List UInt8) : prsW t = match lenW t with
    | some w => if fmtW w = t then some w else none
    | none => none := by
  cases hp : prsW t with
  | some w =>
    obtain ⟨h1, h2⟩ := fmtW_prs hp
    subst h1
    rw [lenW_fmt h2]
    simp
  | none =>
    cases hl : lenW t with
    | none => rfl
    | some w =>
      simp only []
      split
      · rename_i he
        subst he
        cases hv : wrvB w with
        | true => rw [prsW_fmt hv] at hp; cases hp
        | false =>
          have : fmtW w = [] := by unfold fmtW; rw [hv]; rfl
          rw [this] at hl
          cases hl
      · rfl

end Go.Proofs.YtiiahjnfbhcgmaaGreatDoor

