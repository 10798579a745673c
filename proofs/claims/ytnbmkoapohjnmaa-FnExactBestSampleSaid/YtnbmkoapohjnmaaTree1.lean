/- Plain model of the program's tree of words: its nodes, in the order of their making, and the nodes of the pairs. Conditions: the pairs may stand where they stand (PrsOk). -/
import Derived.Test.YtnbmkoapohjnmaaLz2
namespace Go.Proofs.Ytnbmkoapohjnmaa
set_option linter.unusedVariables false
set_option linter.unusedSimpArgs false
open Go.RowKit

/-- A node, without its links to children. -/
structure NodD where
  par : Int
  las : Int
  fir : Int
  cod : Int
def nod0 : NodD := ⟨-1, 0, 0, 0⟩
def nodAt (ns : List NodD) (i : Nat) : NodD := ns.getD i nod0
theorem nodAt_app (ns : List NodD) (x : NodD) {i : Nat} (h : i < ns.length) : nodAt (ns ++ [x]) i = nodAt ns i := by
  unfold nodAt; rw [List.getD_eq_getElem?_getD, List.getD_eq_getElem?_getD, List.getElem?_append_left h]
theorem nodAt_new (ns : List NodD) (x : NodD) : nodAt (ns ++ [x]) ns.length = x := by
  unfold nodAt; rw [List.getD_eq_getElem?_getD, List.getElem?_append_right (Nat.le_refl _)]; simp
theorem nodAt_out {ns : List NodD} {i : Nat} (h : ns.length ≤ i) : nodAt ns i = nod0 := by
  unfold nodAt; rw [List.getD_eq_getElem?_getD, List.getElem?_eq_none h]; rfl
theorem nodAt_take (ns : List NodD) {i m : Nat} (h : i < m) : nodAt (ns.take m) i = nodAt ns i := by
  unfold nodAt; rw [List.getD_eq_getElem?_getD, List.getD_eq_getElem?_getD, List.getElem?_take, if_pos h]
theorem nodAt_get {ns : List NodD} {i : Nat} (h : i < ns.length) : nodAt ns i = ns[i] := by
  unfold nodAt; rw [List.getD_eq_getElem?_getD, List.getElem?_eq_getElem h]; rfl

/-- The last child of node n among the first m nodes; -1 if there is none. -/
def lastCh (ns : List NodD) (n : Int) : Nat → Int
  | 0 => -1
  | m + 1 => if (nodAt ns m).par = n then m else lastCh ns n m
/-- The child of node n with a byte among the first m nodes; -1 if there is none. -/
def findCh (ns : List NodD) (n b : Int) : Nat → Int
  | 0 => -1
  | m + 1 => if (nodAt ns m).par = n ∧ (nodAt ns m).las = b then m else findCh ns n b m
theorem lastCh_bd (ns : List NodD) (n : Int) (m : Nat) : -1 ≤ lastCh ns n m ∧ lastCh ns n m < m := by
  induction m with
  | zero => simp [lastCh]
  | succ m ih => unfold lastCh; split <;> omega
theorem findCh_bd (ns : List NodD) (n b : Int) (m : Nat) : -1 ≤ findCh ns n b m ∧ findCh ns n b m < m := by
  induction m with
  | zero => simp [findCh]
  | succ m ih => unfold findCh; split <;> omega
theorem lastCh_cases (ns : List NodD) (n : Int) (m : Nat) : (lastCh ns n m = -1 ∧ ∀ j, j < m → (nodAt ns j).par ≠ n) ∨ ∃ j : Nat, j < m ∧ lastCh ns n m = j ∧ (nodAt ns j).par = n ∧ ∀ i, j < i → i < m → (nodAt ns i).par ≠ n := by
  induction m with
  | zero => exact .inl ⟨rfl, fun j hj => absurd hj (Nat.not_lt_zero _)⟩
  | succ m ih =>
    by_cases h : (nodAt ns m).par = n
    · refine .inr ⟨m, by omega, by rw [lastCh, if_pos h], h, fun i h1 h2 => by omega⟩
    · have e : lastCh ns n (m + 1) = lastCh ns n m := by rw [lastCh, if_neg h]
      rw [e]
      rcases ih with ⟨h1, h2⟩ | ⟨j, h1, h2, h3, h4⟩
      · refine .inl ⟨h1, fun j hj => ?_⟩
        rcases Nat.lt_or_ge j m with hl | hl
        · exact h2 j hl
        · have : j = m := by omega
          subst this; exact h
      · refine .inr ⟨j, by omega, h2, h3, fun i hi hi2 => ?_⟩
        rcases Nat.lt_or_ge i m with hl | hl
        · exact h4 i hi hl
        · have : i = m := by omega
          subst this; exact h
theorem findCh_cases (ns : List NodD) (n b : Int) (m : Nat) : (findCh ns n b m = -1 ∧ ∀ j, j < m → ¬ ((nodAt ns j).par = n ∧ (nodAt ns j).las = b)) ∨ ∃ j : Nat, j < m ∧ findCh ns n b m = j ∧ (nodAt ns j).par = n ∧ (nodAt ns j).las = b := by
  induction m with
  | zero => exact .inl ⟨rfl, fun j hj => absurd hj (Nat.not_lt_zero _)⟩
  | succ m ih =>
    by_cases h : (nodAt ns m).par = n ∧ (nodAt ns m).las = b
    · exact .inr ⟨m, by omega, by rw [findCh, if_pos h], h⟩
    · have e : findCh ns n b (m + 1) = findCh ns n b m := by rw [findCh, if_neg h]
      rw [e]
      rcases ih with ⟨h1, h2⟩ | ⟨j, h1, h2⟩
      · refine .inl ⟨h1, fun j hj => ?_⟩
        rcases Nat.lt_or_ge j m with hl | hl
        · exact h2 j hl
        · have : j = m := by omega
          subst this; exact h
      · exact .inr ⟨j, by omega, h2⟩
/-- The search goes from child to child. -/
theorem find_none_last {ns : List NodD} {n : Int} {m : Nat} (h : lastCh ns n m = -1) (b : Int) : findCh ns n b m = -1 := by
  rcases findCh_cases ns n b m with ⟨h1, _⟩ | ⟨j, h1, _, h3, _⟩
  · exact h1
  · rcases lastCh_cases ns n m with ⟨_, h5⟩ | ⟨i, _, h6, _⟩
    · exact absurd h3 (h5 j h1)
    · omega
theorem find_last {ns : List NodD} {n : Int} {m j : Nat} (h : lastCh ns n m = j) (b : Int) : findCh ns n b m = if (nodAt ns j).las = b then (j : Int) else findCh ns n b j := by
  induction m with
  | zero => simp [lastCh] at h
  | succ m ih =>
    by_cases hp : (nodAt ns m).par = n
    · have e : lastCh ns n (m + 1) = m := by rw [lastCh, if_pos hp]
      have : j = m := by omega
      subst this
      rw [findCh]
      by_cases hl : (nodAt ns j).las = b
      · rw [if_pos ⟨hp, hl⟩, if_pos hl]
      · rw [if_neg (fun h => hl h.2), if_neg hl]
    · have e : lastCh ns n (m + 1) = lastCh ns n m := by rw [lastCh, if_neg hp]
      rw [e] at h
      rw [findCh, if_neg (fun h => hp h.1)]
      exact ih h
theorem lastCh_app (ns : List NodD) (x : NodD) (n : Int) : ∀ m, m ≤ ns.length → lastCh (ns ++ [x]) n m = lastCh ns n m
  | 0, _ => rfl
  | m + 1, h => by rw [lastCh, lastCh, nodAt_app ns x (by omega), lastCh_app ns x n m (by omega)]
theorem findCh_app (ns : List NodD) (x : NodD) (n b : Int) : ∀ m, m ≤ ns.length → findCh (ns ++ [x]) n b m = findCh ns n b m
  | 0, _ => rfl
  | m + 1, h => by rw [findCh, findCh, nodAt_app ns x (by omega), findCh_app ns x n b m (by omega)]
theorem lastCh_take (ns : List NodD) (n : Int) (t : Nat) : ∀ m, m ≤ t → lastCh (ns.take t) n m = lastCh ns n m
  | 0, _ => rfl
  | m + 1, h => by rw [lastCh, lastCh, nodAt_take ns (by omega), lastCh_take ns n t m (by omega)]
theorem lastCh_new (ns : List NodD) (x : NodD) (n : Int) : lastCh (ns ++ [x]) n (ns.length + 1) = if x.par = n then (ns.length : Int) else lastCh ns n ns.length := by
  rw [lastCh, nodAt_new, lastCh_app ns x n _ (Nat.le_refl _)]

/-- The tree: its nodes, and the nodes of the pairs. -/
structure TreD where
  ns : List NodD
  ix : List Nat
def litsN (c : Nat) : List NodD := (List.range c).map fun (b : Nat) => ⟨-1, b, b, b⟩
/-- The node of a code. -/
def nodeOf (c : Nat) (t : TreD) (x : Int) : Nat := if x < c then x.toNat else t.ix.getD (x.toNat - (c + 2)) 0
def learnT (c : Nat) (t : TreD) (p : PairD) : TreD :=
  if findCh t.ns (nodeOf c t p.pre) p.byt t.ns.length < 0 then ⟨t.ns ++ [⟨nodeOf c t p.pre, p.byt, (nodAt t.ns (nodeOf c t p.pre)).fir, (c : Int) + 2 + t.ix.length⟩], t.ix ++ [t.ns.length]⟩
  else ⟨t.ns, t.ix ++ [(findCh t.ns (nodeOf c t p.pre) p.byt t.ns.length).toNat]⟩
def treeF (c : Nat) (ps : List PairD) : TreD := ps.foldl (learnT c) ⟨litsN c, []⟩
theorem treeF_snoc (c : Nat) (ps : List PairD) (p : PairD) : treeF c (ps ++ [p]) = learnT c (treeF c ps) p := by simp [treeF, List.foldl_append]
theorem litsN_length (c : Nat) : (litsN c).length = c := by simp [litsN]
theorem litsN_at {c i : Nat} (h : i < c) : nodAt (litsN c) i = ⟨-1, i, i, i⟩ := by
  rw [nodAt_get (by rw [litsN_length]; exact h)]; simp [litsN]
theorem nodeOf_app {c : Nat} {ns ns' : List NodD} {ix : List Nat} {n : Nat} {x : Int} (h : codeOk c ix.length x = true) : nodeOf c ⟨ns', ix ++ [n]⟩ x = nodeOf c ⟨ns, ix⟩ x := by
  rw [codeOk_iff] at h
  unfold nodeOf
  split
  · rfl
  · simp only []
    rw [List.getD_eq_getElem?_getD, List.getD_eq_getElem?_getD, List.getElem?_append_left (by omega)]
theorem nodeOf_new {c : Nat} {ns : List NodD} {ix : List Nat} {n : Nat} : nodeOf c ⟨ns, ix ++ [n]⟩ ((c : Int) + 2 + ix.length) = n := by
  unfold nodeOf
  rw [if_neg (by omega)]
  simp only []
  rw [List.getD_eq_getElem?_getD, List.getElem?_append_right (by omega), show ((c : Int) + 2 + ix.length).toNat - (c + 2) - ix.length = 0 by omega]
  rfl

/-- What holds of a tree. -/
structure TrOk (c : Nat) (ps : List PairD) (t : TreD) : Prop where
  ixl : t.ix.length = ps.length
  lo : c ≤ t.ns.length
  hi : t.ns.length ≤ c + ps.length
  lit : ∀ i : Nat, i < c → nodAt t.ns i = ⟨-1, i, i, i⟩
  par : ∀ i : Nat, c ≤ i → i < t.ns.length → ∃ p : Nat, (nodAt t.ns i).par = p ∧ p < i
  bytes : ∀ i : Nat, i < t.ns.length → 0 ≤ (nodAt t.ns i).las ∧ (nodAt t.ns i).las < c ∧ 0 ≤ (nodAt t.ns i).fir ∧ (nodAt t.ns i).fir < c
  code : ∀ i : Nat, i < t.ns.length → codeOk c ps.length (nodAt t.ns i).cod = true ∧ (c ≤ i → (c : Int) + 2 ≤ (nodAt t.ns i).cod)
  back : ∀ i : Nat, i < t.ns.length → nodeOf c t (nodAt t.ns i).cod = i
  inc : ∀ i j : Nat, i < j → j < t.ns.length → (nodAt t.ns i).cod < (nodAt t.ns j).cod
  node : ∀ x : Int, codeOk c ps.length x = true → nodeOf c t x < t.ns.length ∧ (nodAt t.ns (nodeOf c t x)).cod ≤ x ∧ wordP c ps (nodAt t.ns (nodeOf c t x)).cod = wordP c ps x
  word : ∀ i : Nat, c ≤ i → i < t.ns.length → wordP c ps (nodAt t.ns i).cod = wordP c ps (nodAt t.ns (nodAt t.ns i).par.toNat).cod ++ [ub (nodAt t.ns i).las]
  first : ∀ i : Nat, i < t.ns.length → (wordP c ps (nodAt t.ns i).cod).getD 0 0 = ub (nodAt t.ns i).fir
  inj : ∀ i j : Nat, i < t.ns.length → j < t.ns.length → wordP c ps (nodAt t.ns i).cod = wordP c ps (nodAt t.ns j).cod → i = j

theorem ub_inj {c : Nat} (hc : c ≤ 256) {a b : Int} (ha : 0 ≤ a ∧ a < c) (hb : 0 ≤ b ∧ b < c) (h : ub a = ub b) : a = b := by
  have h1 := ub_nat ha.1 (by omega)
  have h2 := ub_nat hb.1 (by omega)
  rw [h] at h1; omega
theorem trOk_nil {c : Nat} (hc : c ≤ 256) : TrOk c [] ⟨litsN c, []⟩ := by
  have hl := litsN_length c
  refine ⟨rfl, by simp only []; omega, by simp only []; omega, fun i hi => litsN_at hi, fun i h1 h2 => ?_, fun i hi => ?_, fun i hi => ?_, fun i hi => ?_, fun i j h1 h2 => ?_, fun x hx => ?_, fun i h1 h2 => ?_, fun i hi => ?_, fun i j hi hj h => ?_⟩
  all_goals simp only [hl] at *
  · omega
  · rw [litsN_at hi]; simp only []; omega
  · rw [litsN_at hi]; simp only []; rw [codeOk_iff]; omega
  · rw [litsN_at hi]; simp only [nodeOf]; rw [if_pos (by omega)]; omega
  · rw [litsN_at (by omega : i < c), litsN_at h2]; simp only []; omega
  · rw [codeOk_iff] at hx
    simp only [List.length_nil] at hx
    have e : nodeOf c ⟨litsN c, []⟩ x = x.toNat := by unfold nodeOf; rw [if_pos (by omega)]
    rw [e, litsN_at (by omega : x.toNat < c)]
    simp only []
    have : ((x.toNat : Nat) : Int) = x := by omega
    rw [this]
    exact ⟨by omega, by omega, rfl⟩
  · omega
  · rw [litsN_at hi]; simp only []; rw [wordP_lit (by omega)]; rfl
  · rw [litsN_at hi, litsN_at hj] at h
    simp only [] at h
    rw [wordP_lit (by omega), wordP_lit (by omega)] at h
    have := ub_inj hc (a := i) (b := j) (by omega) (by omega) (by simpa using h)
    omega

theorem wordP_ne {c : Nat} {ps : List PairD} (hok : PrsOk c ps) {x : Int} (hx : codeOk c ps.length x = true) : wordP c ps x ≠ [] := by
  have := wordP_pos hok hx
  intro e; rw [e] at this; simp at this

/-- Words of more than one byte are a shorter word and a byte. -/
theorem word_split {c : Nat} {ps : List PairD} {t : TreD} (h : TrOk c ps t) {i : Nat} (hi : i < t.ns.length) : (i < c ∧ wordP c ps (nodAt t.ns i).cod = [ub i]) ∨ ∃ p : Nat, c ≤ i ∧ (nodAt t.ns i).par = p ∧ p < i ∧ wordP c ps (nodAt t.ns i).cod = wordP c ps (nodAt t.ns p).cod ++ [ub (nodAt t.ns i).las] := by
  by_cases hc : i < c
  · left
    refine ⟨hc, ?_⟩
    rw [h.lit i hc]; exact wordP_lit (by simp only []; omega)
  · right
    obtain ⟨p, h1, h2⟩ := h.par i (by omega) hi
    refine ⟨p, by omega, h1, h2, ?_⟩
    have := h.word i (by omega) hi
    rw [h1] at this
    exact this

theorem learnT_new {c : Nat} {t : TreD} {p : PairD} (h : findCh t.ns (nodeOf c t p.pre) p.byt t.ns.length < 0) : learnT c t p = ⟨t.ns ++ [⟨nodeOf c t p.pre, p.byt, (nodAt t.ns (nodeOf c t p.pre)).fir, (c : Int) + 2 + t.ix.length⟩], t.ix ++ [t.ns.length]⟩ := by
  unfold learnT; rw [if_pos h]
theorem learnT_old {c : Nat} {t : TreD} {p : PairD} (h : ¬ findCh t.ns (nodeOf c t p.pre) p.byt t.ns.length < 0) : learnT c t p = ⟨t.ns, t.ix ++ [(findCh t.ns (nodeOf c t p.pre) p.byt t.ns.length).toNat]⟩ := by
  unfold learnT; rw [if_neg h]

theorem codeOk_new {c n : Nat} {x : Int} (h : codeOk c (n + 1) x = true) : codeOk c n x = true ∨ x = (c : Int) + 2 + n := by
  rw [codeOk_iff] at *; omega

theorem trOk_learn {c : Nat} (hc : c ≤ 256) {ps : List PairD} {t : TreD} (h : TrOk c ps t) (hok : PrsOk c ps) {p : PairD} (h1 : codeOk c ps.length p.pre = true) (h2 : 0 ≤ p.byt) (h3 : p.byt < c) : TrOk c (ps ++ [p]) (learnT c t p) := by
  have hok' : PrsOk c (ps ++ [p]) := hok.snoc h1 h2 h3
  have hw : ∀ x, codeOk c ps.length x = true → wordP c (ps ++ [p]) x = wordP c ps x := fun x hx => wordP_app hx
  have hwn : wordP c (ps ++ [p]) ((c : Int) + 2 + ps.length) = wordP c ps p.pre ++ [ub p.byt] := by
    have := wordP_pair hok' (i := ps.length) (by simp)
    rw [this]
    simp only [List.getElem_append_right (Nat.le_refl _), Nat.sub_self, List.getElem_cons_zero]
    rw [hw _ h1]
  obtain ⟨hn1, hn2, hn3⟩ := h.node p.pre h1
  have hlen : (ps ++ [p]).length = ps.length + 1 := by simp
  have hcm : ∀ x, codeOk c ps.length x = true → codeOk c (ps ++ [p]).length x = true := fun x hx => codeOk_mono hx (by rw [hlen]; omega)
  obtain ⟨ns, ix⟩ := t
  have hixl : ix.length = ps.length := h.ixl
  by_cases hf : findCh ns (nodeOf c ⟨ns, ix⟩ p.pre) p.byt ns.length < 0
  · -- a new node
    rw [learnT_new (t := ⟨ns, ix⟩) hf]
    simp only [] at *
    have hnone : ∀ j, j < ns.length → ¬ ((nodAt ns j).par = (nodeOf c ⟨ns, ix⟩ p.pre : Nat) ∧ (nodAt ns j).las = p.byt) := by
      rcases findCh_cases ns (nodeOf c ⟨ns, ix⟩ p.pre) p.byt ns.length with ⟨_, hj⟩ | ⟨j, _, hj, _⟩
      · exact hj
      · omega
    generalize hP : nodeOf c ⟨ns, ix⟩ p.pre = P at *
    generalize hx : (⟨(P : Int), p.byt, (nodAt ns P).fir, (c : Int) + 2 + ix.length⟩ : NodD) = X at *
    have hX1 : X.par = P := by rw [← hx]
    have hX2 : X.las = p.byt := by rw [← hx]
    have hX3 : X.fir = (nodAt ns P).fir := by rw [← hx]
    have hX4 : X.cod = (c : Int) + 2 + ps.length := by rw [← hx, hixl]
    have hl : (ns ++ [X]).length = ns.length + 1 := by simp
    have hold : ∀ i, i < ns.length → nodAt (ns ++ [X]) i = nodAt ns i := fun i hi => nodAt_app ns X hi
    have hnew : nodAt (ns ++ [X]) ns.length = X := nodAt_new ns X
    have hcod : ∀ i, i < ns.length → codeOk c ps.length (nodAt ns i).cod = true := fun i hi => (h.code i hi).1
    have hPw : wordP c (ps ++ [p]) (nodAt ns P).cod = wordP c ps p.pre := by rw [hw _ (hcod P hn1), hn3]
    have hXw : wordP c (ps ++ [p]) X.cod = wordP c ps p.pre ++ [ub p.byt] := by rw [hX4, hwn]
    have hcas : ∀ i, i < ns.length + 1 → i < ns.length ∨ i = ns.length := fun i hi => by omega
    -- no old node has the new word
    have hfresh : ∀ i, i < ns.length → wordP c ps (nodAt ns i).cod ≠ wordP c ps p.pre ++ [ub p.byt] := fun i hi e => by
      rcases word_split h hi with ⟨_, e2⟩ | ⟨q, hq1, hq2, hq3, e2⟩
      · simp only [] at e2
        rw [e2] at e
        have := congrArg List.length e
        have hne := wordP_pos hok h1
        rw [List.length_append] at this
        simp only [List.length_cons, List.length_nil] at this
        omega
      · simp only [] at e2 hq2
        rw [e2] at e
        obtain ⟨ea, eb⟩ := List.append_inj' e rfl
        have hqP : q = P := h.inj q P (by simp only []; omega) hn1 (by simp only []; rw [ea, hn3])
        obtain ⟨b1, b2, -, -⟩ := h.bytes i hi
        have hb := ub_inj hc (a := (nodAt ns i).las) (b := p.byt) ⟨b1, b2⟩ ⟨h2, h3⟩ (by simpa using eb)
        exact hnone i hi ⟨by rw [hq2, hqP], hb⟩
    refine ⟨by simp [hixl], by simp only [hl]; have := h.lo; simp only [] at this; omega, by simp only [hl, hlen]; have := h.hi; simp only [] at this; omega, fun i hi => ?_, fun i hi1 hi2 => ?_, fun i hi => ?_, fun i hi => ?_, fun i hi => ?_, fun i j hi hj => ?_, fun x hxo => ?_, fun i hi1 hi2 => ?_, fun i hi => ?_, fun i j hi hj e => ?_⟩
    all_goals simp only [hl] at *
    · have := h.lo; simp only [] at this
      rw [hold i (by omega)]; exact h.lit i hi
    · rcases hcas i hi2 with hi | rfl
      · rw [hold i hi]; exact h.par i hi1 hi
      · rw [hnew]; exact ⟨P, hX1, hn1⟩
    · rcases hcas i hi with hi | rfl
      · rw [hold i hi]; exact h.bytes i hi
      · rw [hnew, hX2, hX3]; have := h.bytes P hn1; exact ⟨h2, h3, this.2.2.1, this.2.2.2⟩
    · rcases hcas i hi with hi | rfl
      · rw [hold i hi]; exact ⟨hcm _ (hcod i hi), (h.code i hi).2⟩
      · rw [hnew, hX4, codeOk_iff, hlen]; omega
    · rcases hcas i hi with hi | rfl
      · rw [hold i hi, nodeOf_app (ns := ns) (by rw [hixl]; exact hcod i hi)]; exact h.back i hi
      · rw [hnew, hX4, ← hixl]; exact nodeOf_new
    · rcases hcas j hj with hj | rfl
      · rw [hold i (by omega), hold j hj]; exact h.inc i j hi hj
      · rw [hold i hi, hnew, hX4]; have := hcod i hi; rw [codeOk_iff] at this; omega
    · rw [hlen] at hxo
      rcases codeOk_new hxo with hxo | rfl
      · rw [nodeOf_app (ns := ns) (by rw [hixl]; exact hxo)]
        obtain ⟨a1, a2, a3⟩ := h.node x hxo
        simp only [] at a1 a2 a3
        rw [hold _ a1, hw _ (hcod _ a1), hw _ hxo]
        exact ⟨by omega, a2, a3⟩
      · have e : nodeOf c ⟨ns ++ [X], ix ++ [ns.length]⟩ ((c : Int) + 2 + ps.length) = ns.length := by rw [← hixl]; exact nodeOf_new
        rw [e, hnew, hX4]
        exact ⟨by omega, by omega, rfl⟩
    · rcases hcas i hi2 with hi | rfl
      · obtain ⟨q, hq1, hq2⟩ := h.par i hi1 hi
        have := h.word i hi1 hi
        simp only [] at this hq1
        rw [hold i hi, hw _ (hcod i hi), this, hq1, Int.toNat_natCast, hold q (by omega), hw _ (hcod q (by omega))]
      · rw [hnew, hXw, hX1, hX2, Int.toNat_natCast, hold P hn1, hPw]
    · rcases hcas i hi with hi | rfl
      · rw [hold i hi, hw _ (hcod i hi)]; exact h.first i hi
      · rw [hnew, hXw, hX3]
        have := h.first P hn1
        simp only [] at this
        rw [hn3] at this
        rw [← this]
        have hne := wordP_pos hok h1
        rw [List.getD_eq_getElem?_getD, List.getD_eq_getElem?_getD, List.getElem?_append_left (by omega)]
    · rcases hcas i hi with hi | rfl <;> rcases hcas j hj with hj | rfl
      · rw [hold i hi, hold j hj, hw _ (hcod i hi), hw _ (hcod j hj)] at e; exact h.inj i j hi hj e
      · rw [hold i hi, hnew, hXw, hw _ (hcod i hi)] at e; exact absurd e (hfresh i hi)
      · rw [hold j hj, hnew, hXw, hw _ (hcod j hj)] at e; exact absurd e.symm (hfresh j hj)
      · rfl
  · -- a node that is there
    rw [learnT_old (t := ⟨ns, ix⟩) hf]
    simp only [] at *
    obtain ⟨j, hj, hje, hj1, hj2⟩ : ∃ j : Nat, j < ns.length ∧ findCh ns (nodeOf c ⟨ns, ix⟩ p.pre) p.byt ns.length = j ∧ (nodAt ns j).par = (nodeOf c ⟨ns, ix⟩ p.pre : Nat) ∧ (nodAt ns j).las = p.byt := by
      rcases findCh_cases ns (nodeOf c ⟨ns, ix⟩ p.pre) p.byt ns.length with ⟨hj, _⟩ | hj
      · omega
      · exact hj
    rw [hje, Int.toNat_natCast]
    have hcod : ∀ i, i < ns.length → codeOk c ps.length (nodAt ns i).cod = true := fun i hi => (h.code i hi).1
    have hjc : c ≤ j := by
      rcases Nat.lt_or_ge j c with hl | hl
      · have := h.lit j hl
        simp only [] at this
        rw [this] at hj1
        simp only [] at hj1; omega
      · exact hl
    have hjw : wordP c ps (nodAt ns j).cod = wordP c ps p.pre ++ [ub p.byt] := by
      have := h.word j hjc hj
      simp only [] at this
      rw [this, hj1, hj2, Int.toNat_natCast, hn3]
    refine ⟨by simp [hixl], h.lo, by simp only [hlen]; have := h.hi; simp only [] at this; omega, h.lit, h.par, h.bytes, fun i hi => ⟨hcm _ (hcod i hi), (h.code i hi).2⟩, fun i hi => ?_, h.inc, fun x hxo => ?_, fun i hi1 hi2 => ?_, fun i hi => ?_, fun a b ha hb e => ?_⟩
    all_goals simp only [] at *
    · rw [nodeOf_app (ns := ns) (by rw [hixl]; exact hcod i hi)]; exact h.back i hi
    · rw [hlen] at hxo
      rcases codeOk_new hxo with hxo | rfl
      · rw [nodeOf_app (ns := ns) (by rw [hixl]; exact hxo)]
        obtain ⟨a1, a2, a3⟩ := h.node x hxo
        simp only [] at a1 a2 a3
        rw [hw _ (hcod _ a1), hw _ hxo]
        exact ⟨a1, a2, a3⟩
      · have e : nodeOf c ⟨ns, ix ++ [j]⟩ ((c : Int) + 2 + ps.length) = j := by rw [← hixl]; exact nodeOf_new
        rw [e, hw _ (hcod j hj), hjw, hwn]
        have := hcod j hj
        rw [codeOk_iff] at this
        exact ⟨hj, by omega, rfl⟩
    · obtain ⟨q, hq1, hq2⟩ := h.par i hi1 hi2
      have := h.word i hi1 hi2
      simp only [] at this hq1
      rw [hw _ (hcod i hi2), this, hq1, Int.toNat_natCast, hw _ (hcod q (by omega))]
    · rw [hw _ (hcod i hi)]; exact h.first i hi
    · rw [hw _ (hcod a ha), hw _ (hcod b hb)] at e; exact h.inj a b ha hb e

theorem treeF_ok {c : Nat} (hc : c ≤ 256) {ps : List PairD} (hok : PrsOk c ps) : TrOk c ps (treeF c ps) := by
  induction ps using snoc_ind with
  | h0 => exact trOk_nil hc
  | h1 l a ih =>
    have hl : PrsOk c l := by have := hok.take l.length; rwa [List.take_left] at this
    have ha := hok.get (i := l.length) (by simp)
    simp only [List.getElem_append_right (Nat.le_refl _), Nat.sub_self, List.getElem_cons_zero] at ha
    rw [treeF_snoc]
    exact trOk_learn hc (ih hl) hl ha.1 ha.2.1 ha.2.2

end Go.Proofs.Ytnbmkoapohjnmaa
