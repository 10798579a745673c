/- Texts joined into one: Tree1, Tree2. Conditions: as each says. -/
import Derived.Test.YtiiahjnfbhcgmaaGreatDoorLz2

/- Plain model of the program's tree of words: its nodes, in the order of their making, and the nodes of the pairs. Conditions: the pairs may stand where they stand (PrsOk). -/
namespace Go.Proofs.YtiiahjnfbhcgmaaGreatDoor
set_option linter.unusedVariables false
set_option linter.unusedSimpArgs false
open Go.RowKit

/-- A node, without its links to children. -/
structure NodD where
  par : Int
  las : Int
  fir : Int
  cod : Int
def nod0 : NodD := ⟨-1, 0, 0, 0⟩
def nodAt (ns : List NodD) (i : Nat) : NodD := ns.getD i nod0
theorem nodAt_app (ns : List NodD) (x : NodD) {i : Nat} (h : i < ns.length) : nodAt (ns ++ [x]) i = nodAt ns i := by
  unfold nodAt; rw [List.getD_eq_getElem?_getD, List.getD_eq_getElem?_getD, List.getElem?_append_left h]
theorem nodAt_new (ns : List NodD) (x : NodD) : nodAt (ns ++ [x]) ns.length = x := by
  unfold nodAt; rw [List.getD_eq_getElem?_getD, List.getElem?_append_right (Nat.le_refl _)]; simp
theorem nodAt_out {ns : List NodD} {i : Nat} (h : ns.length ≤ i) : nodAt ns i = nod0 := by
  unfold nodAt; rw [List.getD_eq_getElem?_getD, List.getElem?_eq_none h]; rfl
theorem nodAt_take (ns : List NodD) {i m : Nat} (h : i < m) : nodAt (ns.take m) i = nodAt ns i := by
  unfold nodAt; rw [List.getD_eq_getElem?_getD, List.getD_eq_getElem?_getD, List.getElem?_take, if_pos h]
theorem nodAt_get {ns : List NodD} {i : Nat} (h : i < ns.length) : nodAt ns i = ns[i] := by
  unfold nodAt; rw [List.getD_eq_getElem?_getD, List.getElem?_eq_getElem h]; rfl

/-- The last child of node n among the first m nodes; -1 if there is none. -/
def lastCh (ns : List NodD) (n : Int) : Nat → Int
  | 0 => -1
  | m + 1 => if (nodAt ns m).par = n then m else lastCh ns n m
/-- The child of node n with a byte among the first m nodes; -1 if there is none. -/
def findCh (ns : List NodD) (n b : Int) : Nat → Int
  | 0 => -1
  | m + 1 => if (nodAt ns m).par = n ∧ (nodAt ns m).las = b then m else findCh ns n b m
theorem lastCh_bd (ns : List NodD) (n : Int) (m : Nat) : -1 ≤ lastCh ns n m ∧ lastCh ns n m < m := by
  induction m with
  | zero => simp [lastCh]
  | succ m ih => unfold lastCh; split <;> omega
theorem findCh_bd (ns : List NodD) (n b : Int) (m : Nat) : -1 ≤ findCh ns n b m ∧ findCh ns n b m < m := by
  induction m with
  | zero => simp [findCh]
  | succ m ih => unfold findCh; split <;> omega
theorem lastCh_cases (ns : List NodD) (n : Int) (m : Nat) : (lastCh ns n m = -1 ∧ ∀ j, j < m → (nodAt ns j).par ≠ n) ∨ ∃ j : Nat, j < m ∧ lastCh ns n m = j ∧ (nodAt ns j).par = n ∧ ∀ i, j < i → i < m → (nodAt ns i).par ≠ n := by
  induction m with
  | zero => exact .inl ⟨rfl, fun j hj => absurd hj (Nat.not_lt_zero _)⟩
  | succ m ih =>
    by_cases h : (nodAt ns m).par = n
    · refine .inr ⟨m, by omega, by rw [lastCh, if_pos h], h, fun i h1 h2 => by omega⟩
    · have e : lastCh ns n (m + 1) = lastCh ns n m := by rw [lastCh, if_neg h]
      rw [e]
      rcases ih with ⟨h1, h2⟩ | ⟨j, h1, h2, h3, h4⟩
      · refine .inl ⟨h1, fun j hj => ?_⟩
        rcases Nat.lt_or_ge j m with hl | hl
        · exact h2 j hl
        · have : j = m := by omega
          subst this; exact h
      · refine .inr ⟨j, by omega, h2, h3, fun i hi hi2 => ?_⟩
        rcases Nat.lt_or_ge i m with hl | hl
        · exact h4 i hi hl
        · have : i = m := by omega
          subst this; exact h
theorem findCh_cases (ns : List NodD) (n b : Int) (m : Nat) : (findCh ns n b m = -1 ∧ ∀ j, j < m → ¬ ((nodAt ns j).par = n ∧ (nodAt ns j).las = b)) ∨ ∃ j : Nat, j < m ∧ findCh ns n b m = j ∧ (nodAt ns j).par = n ∧ (nodAt ns j).las = b := by
  induction m with
  | zero => exact .inl ⟨rfl, fun j hj => absurd hj (Nat.not_lt_zero _)⟩
  | succ m ih =>
    by_cases h : (nodAt ns m).par = n ∧ (nodAt ns m).las = b
    · exact .inr ⟨m, by omega, by rw [findCh, if_pos h], h⟩
    · have e : findCh ns n b (m + 1) = findCh ns n b m := by rw [findCh, if_neg h]
      rw [e]
      rcases ih with ⟨h1, h2⟩ | ⟨j, h1, h2⟩
      · refine .inl ⟨h1, fun j hj => ?_⟩
        rcases Nat.lt_or_ge j m with hl | hl
        · exact h2 j hl
        · have : j = m := by omega
          subst this; exact h
      · exact .inr ⟨j, by omega, h2⟩
/-- The search goes from child to child. -/
theorem find_none_last {ns : List NodD} {n : Int} {m : Nat} (h : lastCh ns n m = -1) (b : Int) : findCh ns n b m = -1 := by
  rcases findCh_cases ns n b m with ⟨h1, _⟩ | ⟨j, h1, _, h3, _⟩
  · exact h1
  · rcases lastCh_cases ns n m with ⟨_, h5⟩ | ⟨i, _, h6, _⟩
    · exact absurd h3 (h5 j h1)
    · omega
theorem find_last {ns : List NodD} {n : Int} {m j : Nat} (h : lastCh ns n m = j) (b : Int) : findCh ns n b m = if (nodAt ns j).las = b then (j : Int) else findCh ns n b j := by
  induction m with
  | zero => simp [lastCh] at h
  | succ m ih =>
    by_cases hp : (nodAt ns m).par = n
    · have e : lastCh ns n (m + 1) = m := by rw [lastCh, if_pos hp]
      have : j = m := by omega
      subst this
      rw [findCh]
      by_cases hl : (nodAt ns j).las = b
      · rw [if_pos ⟨hp, hl⟩, if_pos hl]
      · rw [if_neg (fun h => hl h.2), if_neg hl]
    · have e : lastCh ns n (m + 1) = lastCh ns n m := by rw [lastCh, if_neg hp]
      rw [e] at h
      rw [findCh, if_neg (fun h => hp h.1)]
      exact ih h
theorem lastCh_app (ns : List NodD) (x : NodD) (n : Int) : ∀ m, m ≤ ns.length → lastCh (ns ++ [x]) n m = lastCh ns n m
  | 0, _ => rfl
  | m + 1, h => by rw [lastCh, lastCh, nodAt_app ns x (by omega), lastCh_app ns x n m (by omega)]
theorem findCh_app (ns : List NodD) (x : NodD) (n b : Int) : ∀ m, m ≤ ns.length → findCh (ns ++ [x]) n b m = findCh ns n b m
  | 0, _ => rfl
  | m + 1, h => by rw [findCh, findCh, nodAt_app ns x (by omega), findCh_app ns x n b m (by omega)]
theorem lastCh_take (ns : List NodD) (n : Int) (t : Nat) : ∀ m, m ≤ t → lastCh (ns.take t) n m = lastCh ns n m
  | 0, _ => rfl
  | m + 1, h => by rw [lastCh, lastCh, nodAt_take ns (by omega), lastCh_take ns n t m (by omega)]
theorem lastCh_new (ns : List NodD) (x : NodD) (n : Int) : lastCh (ns ++ [x]) n (ns.length + 1) = if x.par = n then (ns.length : Int) else lastCh ns n ns.length := by
  rw [lastCh, nodAt_new, lastCh_app ns x n _ (Nat.le_refl _)]

/-- The tree: its nodes, and the nodes of the pairs. -/
structure TreD where
  ns : List NodD
  ix : List Nat
def litsN (c : Nat) : List NodD := (List.range c).map fun (b : Nat) => ⟨-1, b, b, b⟩
/-- The node of a code. -/
def nodeOf (c : Nat) (t : TreD) (x : Int) : Nat := if x < c then x.toNat else t.ix.getD (x.toNat - (c + 2)) 0
def learnT (c : Nat) (t : TreD) (p : PairD) : TreD :=
  if findCh t.ns (nodeOf c t p.pre) p.byt t.ns.length < 0 then ⟨t.ns ++ [⟨nodeOf c t p.pre, p.byt, (nodAt t.ns (nodeOf c t p.pre)).fir, (c : Int) + 2 + t.ix.length⟩], t.ix ++ [t.ns.length]⟩
  else ⟨t.ns, t.ix ++ [(findCh t.ns (nodeOf c t p.pre) p.byt t.ns.length).toNat]⟩
def treeF (c : Nat) (ps : List PairD) : TreD := ps.foldl (learnT c) ⟨litsN c, []⟩
theorem treeF_snoc (c : Nat) (ps : List PairD) (p : PairD) : treeF c (ps ++ [p]) = learnT c (treeF c ps) p := by simp [treeF, List.foldl_append]
theorem litsN_length (c : Nat) : (litsN c).length = c := by simp [litsN]
theorem litsN_at {c i : Nat} (h : i < c) : nodAt (litsN c) i = ⟨-1, i, i, i⟩ := by
  rw [nodAt_get (by rw [litsN_length]; exact h)]; simp [litsN]
theorem nodeOf_app {c : Nat} {ns ns' : List NodD} {ix : List Nat} {n : Nat} {x : Int} (h : codeOk c ix.length x = true) : nodeOf c ⟨ns', ix ++ [n]⟩ x = nodeOf c ⟨ns, ix⟩ x := by
  rw [codeOk_iff] at h
  unfold nodeOf
  split
  · rfl
  · simp only []
    rw [List.getD_eq_getElem?_getD, List.getD_eq_getElem?_getD, List.getElem?_append_left (by omega)]
theorem nodeOf_new {c : Nat} {ns : List NodD} {ix : List Nat} {n : Nat} : nodeOf c ⟨ns, ix ++ [n]⟩ ((c : Int) + 2 + ix.length) = n := by
  unfold nodeOf
  rw [if_neg (by omega)]
  simp only []
  rw [List.getD_eq_getElem?_getD, List.getElem?_append_right (by omega), show ((c : Int) + 2 + ix.length).toNat - (c + 2) - ix.length = 0 by omega]
  rfl

/-- What holds of a tree. -/
structure TrOk (c : Nat) (ps : List PairD) (t : TreD) : Prop where
  ixl : t.ix.length = ps.length
  lo : c ≤ t.ns.length
  hi : t.ns.length ≤ c + ps.length
  lit : ∀ i : Nat, i < c → nodAt t.ns i = ⟨-1, i, i, i⟩
  par : ∀ i : Nat, c ≤ i → i < t.ns.length → ∃ p : Nat, (nodAt t.ns i).par = p ∧ p < i
  bytes : ∀ i : Nat, i < t.ns.length → 0 ≤ (nodAt t.ns i).las ∧ (nodAt t.ns i).las < c ∧ 0 ≤ (nodAt t.ns i).fir ∧ (nodAt t.ns i).fir < c
  code : ∀ i : Nat, i < t.ns.length → codeOk c ps.length (nodAt t.ns i).cod = true ∧ (c ≤ i → (c : Int) + 2 ≤ (nodAt t.ns i).cod)
  back : ∀ i : Nat, i < t.ns.length → nodeOf c t (nodAt t.ns i).cod = i
  inc : ∀ i j : Nat, i < j → j < t.ns.length → (nodAt t.ns i).cod < (nodAt t.ns j).cod
  node : ∀ x : Int, codeOk c ps.length x = true → nodeOf c t x < t.ns.length ∧ (nodAt t.ns (nodeOf c t x)).cod ≤ x ∧ wordP c ps (nodAt t.ns (nodeOf c t x)).cod = wordP c ps x
  word : ∀ i : Nat, c ≤ i → i < t.ns.length → wordP c ps (nodAt t.ns i).cod = wordP c ps (nodAt t.ns (nodAt t.ns i).par.toNat).cod ++ [ub (nodAt t.ns i).las]
  first : ∀ i : Nat, i < t.ns.length → (wordP c ps (nodAt t.ns i).cod).getD 0 0 = ub (nodAt t.ns i).fir
  inj : ∀ i j : Nat, i < t.ns.length → j < t.ns.length → wordP c ps (nodAt t.ns i).cod = wordP c ps (nodAt t.ns j).cod → i = j

theorem ub_inj {c : Nat} (hc : c ≤ 256) {a b : Int} (ha : 0 ≤ a ∧ a < c) (hb : 0 ≤ b ∧ b < c) (h : ub a = ub b) : a = b := by
  have h1 := ub_nat ha.1 (by omega)
  have h2 := ub_nat hb.1 (by omega)
  rw [h] at h1; omega
theorem trOk_nil {c : Nat} (hc : c ≤ 256) : TrOk c [] ⟨litsN c, []⟩ := by
  have hl := litsN_length c
  refine ⟨rfl, by simp only []; omega, by simp only []; omega, fun i hi => litsN_at hi, fun i h1 h2 => ?_, fun i hi => ?_, fun i hi => ?_, fun i hi => ?_, fun i j h1 h2 => ?_, fun x hx => ?_, fun i h1 h2 => ?_, fun i hi => ?_, fun i j hi hj h => ?_⟩
  all_goals simp only [hl] at *
  · omega
  · rw [litsN_at hi]; simp only []; omega
  · rw [litsN_at hi]; simp only []; rw [codeOk_iff]; omega
  · rw [litsN_at hi]; simp only [nodeOf]; rw [if_pos (by omega)]; omega
  · rw [litsN_at (by omega : i < c), litsN_at h2]; simp only []; omega
  · rw [codeOk_iff] at hx
    simp only [List.length_nil] at hx
    have e : nodeOf c ⟨litsN c, []⟩ x = x.toNat := by unfold nodeOf; rw [if_pos (by omega)]
    rw [e, litsN_at (by omega : x.toNat < c)]
    simp only []
    have : ((x.toNat : Nat) : Int) = x := by omega
    rw [this]
    exact ⟨by omega, by omega, rfl⟩
  · omega
  · rw [litsN_at hi]; simp only []; rw [wordP_lit (by omega)]; rfl
  · rw [litsN_at hi, litsN_at hj] at h
    simp only [] at h
    rw [wordP_lit (by omega), wordP_lit (by omega)] at h
    have := ub_inj hc (a := i) (b := j) (by omega) (by omega) (by simpa using h)
    omega

theorem wordP_ne {c : Nat} {ps : List PairD} (hok : PrsOk c ps) {x : Int} (hx : codeOk c ps.length x = true) : wordP c ps x ≠ [] := by
  have := wordP_pos hok hx
  intro e; rw [e] at this; simp at this

/-- Words of more than one byte are a shorter word and a byte. -/
theorem word_split {c : Nat} {ps : List PairD} {t : TreD} (h : TrOk c ps t) {i : Nat} (hi : i < t.ns.length) : (i < c ∧ wordP c ps (nodAt t.ns i).cod = [ub i]) ∨ ∃ p : Nat, c ≤ i ∧ (nodAt t.ns i).par = p ∧ p < i ∧ wordP c ps (nodAt t.ns i).cod = wordP c ps (nodAt t.ns p).cod ++ [ub (nodAt t.ns i).las] := by
  by_cases hc : i < c
  · left
    refine ⟨hc, ?_⟩
    rw [h.lit i hc]; exact wordP_lit (by simp only []; omega)
  · right
    obtain ⟨p, h1, h2⟩ := h.par i (by omega) hi
    refine ⟨p, by omega, h1, h2, ?_⟩
    have := h.word i (by omega) hi
    rw [h1] at this
    exact this

theorem learnT_new {c : Nat} {t : TreD} {p : PairD} (h : findCh t.ns (nodeOf c t p.pre) p.byt t.ns.length < 0) : learnT c t p = ⟨t.ns ++ [⟨nodeOf c t p.pre, p.byt, (nodAt t.ns (nodeOf c t p.pre)).fir, (c : Int) + 2 + t.ix.length⟩], t.ix ++ [t.ns.length]⟩ := by
  unfold learnT; rw [if_pos h]
theorem learnT_old {c : Nat} {t : TreD} {p : PairD} (h : ¬ findCh t.ns (nodeOf c t p.pre) p.byt t.ns.length < 0) : learnT c t p = ⟨t.ns, t.ix ++ [(findCh t.ns (nodeOf c t p.pre) p.byt t.ns.length).toNat]⟩ := by
  unfold learnT; rw [if_neg h]

theorem codeOk_new {c n : Nat} {x : Int} (h : codeOk c (n + 1) x = true) : codeOk c n x = true ∨ x = (c : Int) + 2 + n := by
  rw [codeOk_iff] at *; omega

theorem trOk_learn {c : Nat} (hc : c ≤ 256) {ps : List PairD} {t : TreD} (h : TrOk c ps t) (hok : PrsOk c ps) {p : PairD} (h1 : codeOk c ps.length p.pre = true) (h2 : 0 ≤ p.byt) (h3 : p.byt < c) : TrOk c (ps ++ [p]) (learnT c t p) := by
  have hok' : PrsOk c (ps ++ [p]) := hok.snoc h1 h2 h3
  have hw : ∀ x, codeOk c ps.length x = true → wordP c (ps ++ [p]) x = wordP c ps x := fun x hx => wordP_app hx
  have hwn : wordP c (ps ++ [p]) ((c : Int) + 2 + ps.length) = wordP c ps p.pre ++ [ub p.byt] := by
    have := wordP_pair hok' (i := ps.length) (by simp)
    rw [this]
    simp only [List.getElem_append_right (Nat.le_refl _), Nat.sub_self, List.getElem_cons_zero]
    rw [hw _ h1]
  obtain ⟨hn1, hn2, hn3⟩ := h.node p.pre h1
  have hlen : (ps ++ [p]).length = ps.length + 1 := by simp
  have hcm : ∀ x, codeOk c ps.length x = true → codeOk c (ps ++ [p]).length x = true := fun x hx => codeOk_mono hx (by rw [hlen]; omega)
  obtain ⟨ns, ix⟩ := t
  have hixl : ix.length = ps.length := h.ixl
  by_cases hf : findCh ns (nodeOf c ⟨ns, ix⟩ p.pre) p.byt ns.length < 0
  · -- a new node
    rw [learnT_new (t := ⟨ns, ix⟩) hf]
    simp only [] at *
    have hnone : ∀ j, j < ns.length → ¬ ((nodAt ns j).par = (nodeOf c ⟨ns, ix⟩ p.pre : Nat) ∧ (nodAt ns j).las = p.byt) := by
      rcases findCh_cases ns (nodeOf c ⟨ns, ix⟩ p.pre) p.byt ns.length with ⟨_, hj⟩ | ⟨j, _, hj, _⟩
      · exact hj
      · omega
    generalize hP : nodeOf c ⟨ns, ix⟩ p.pre = P at *
    generalize hx : (⟨(P : Int), p.byt, (nodAt ns P).fir, (c : Int) + 2 + ix.length⟩ : NodD) = X at *
    have hX1 : X.par = P := by rw [← hx]
    have hX2 : X.las = p.byt := by rw [← hx]
    have hX3 : X.fir = (nodAt ns P).fir := by rw [← hx]
    have hX4 : X.cod = (c : Int) + 2 + ps.length := by rw [← hx, hixl]
    have hl : (ns ++ [X]).length = ns.length + 1 := by simp
    have hold : ∀ i, i < ns.length → nodAt (ns ++ [X]) i = nodAt ns i := fun i hi => nodAt_app ns X hi
    have hnew : nodAt (ns ++ [X]) ns.length = X := nodAt_new ns X
    have hcod : ∀ i, i < ns.length → codeOk c ps.length (nodAt ns i).cod = true := fun i hi => (h.code i hi).1
    have hPw : wordP c (ps ++ [p]) (nodAt ns P).cod = wordP c ps p.pre := by rw [hw _ (hcod P hn1), hn3]
    have hXw : wordP c (ps ++ [p]) X.cod = wordP c ps p.pre ++ [ub p.byt] := by rw [hX4, hwn]
    have hcas : ∀ i, i < ns.length + 1 → i < ns.length ∨ i = ns.length := fun i hi => by omega
    -- no old node has the new word
    have hfresh : ∀ i, i < ns.length → wordP c ps (nodAt ns i).cod ≠ wordP c ps p.pre ++ [ub p.byt] := fun i hi e => by
      rcases word_split h hi with ⟨_, e2⟩ | ⟨q, hq1, hq2, hq3, e2⟩
      · simp only [] at e2
        rw [e2] at e
        have := congrArg List.length e
        have hne := wordP_pos hok h1
        rw [List.length_append] at this
        simp only [List.length_cons, List.length_nil] at this
        omega
      · simp only [] at e2 hq2
        rw [e2] at e
        obtain ⟨ea, eb⟩ := List.append_inj' e rfl
        have hqP : q = P := h.inj q P (by simp only []; omega) hn1 (by simp only []; rw [ea, hn3])
        obtain ⟨b1, b2, -, -⟩ := h.bytes i hi
        have hb := ub_inj hc (a := (nodAt ns i).las) (b := p.byt) ⟨b1, b2⟩ ⟨h2, h3⟩ (by simpa using eb)
        exact hnone i hi ⟨by rw [hq2, hqP], hb⟩
    refine ⟨by simp [hixl], by simp only [hl]; have := h.lo; simp only [] at this; omega, by simp only [hl, hlen]; have := h.hi; simp only [] at this; omega, fun i hi => ?_, fun i hi1 hi2 => ?_, fun i hi => ?_, fun i hi => ?_, fun i hi => ?_, fun i j hi hj => ?_, fun x hxo => ?_, fun i hi1 hi2 => ?_, fun i hi => ?_, fun i j hi hj e => ?_⟩
    all_goals simp only [hl] at *
    · have := h.lo; simp only [] at this
      rw [hold i (by omega)]; exact h.lit i hi
    · rcases hcas i hi2 with hi | rfl
      · rw [hold i hi]; exact h.par i hi1 hi
      · rw [hnew]; exact ⟨P, hX1, hn1⟩
    · rcases hcas i hi with hi | rfl
      · rw [hold i hi]; exact h.bytes i hi
      · rw [hnew, hX2, hX3]; have := h.bytes P hn1; exact ⟨h2, h3, this.2.2.1, this.2.2.2⟩
    · rcases hcas i hi with hi | rfl
      · rw [hold i hi]; exact ⟨hcm _ (hcod i hi), (h.code i hi).2⟩
      · rw [hnew, hX4, codeOk_iff, hlen]; omega
    · rcases hcas i hi with hi | rfl
      · rw [hold i hi, nodeOf_app (ns := ns) (by rw [hixl]; exact hcod i hi)]; exact h.back i hi
      · rw [hnew, hX4, ← hixl]; exact nodeOf_new
    · rcases hcas j hj with hj | rfl
      · rw [hold i (by omega), hold j hj]; exact h.inc i j hi hj
      · rw [hold i hi, hnew, hX4]; have := hcod i hi; rw [codeOk_iff] at this; omega
    · rw [hlen] at hxo
      rcases codeOk_new hxo with hxo | rfl
      · rw [nodeOf_app (ns := ns) (by rw [hixl]; exact hxo)]
        obtain ⟨a1, a2, a3⟩ := h.node x hxo
        simp only [] at a1 a2 a3
        rw [hold _ a1, hw _ (hcod _ a1), hw _ hxo]
        exact ⟨by omega, a2, a3⟩
      · have e : nodeOf c ⟨ns ++ [X], ix ++ [ns.length]⟩ ((c : Int) + 2 + ps.length) = ns.length := by rw [← hixl]; exact nodeOf_new
        rw [e, hnew, hX4]
        exact ⟨by omega, by omega, rfl⟩
    · rcases hcas i hi2 with hi | rfl
      · obtain ⟨q, hq1, hq2⟩ := h.par i hi1 hi
        have := h.word i hi1 hi
        simp only [] at this hq1
        rw [hold i hi, hw _ (hcod i hi), this, hq1, Int.toNat_natCast, hold q (by omega), hw _ (hcod q (by omega))]
      · rw [hnew, hXw, hX1, hX2, Int.toNat_natCast, hold P hn1, hPw]
    · rcases hcas i hi with hi | rfl
      · rw [hold i hi, hw _ (hcod i hi)]; exact h.first i hi
      · rw [hnew, hXw, hX3]
        have := h.first P hn1
        simp only [] at this
        rw [hn3] at this
        rw [← this]
        have hne := wordP_pos hok h1
        rw [List.getD_eq_getElem?_getD, List.getD_eq_getElem?_getD, List.getElem?_append_left (by omega)]
    · rcases hcas i hi with hi | rfl <;> rcases hcas j hj with hj | rfl
      · rw [hold i hi, hold j hj, hw _ (hcod i hi), hw _ (hcod j hj)] at e; exact h.inj i j hi hj e
      · rw [hold i hi, hnew, hXw, hw _ (hcod i hi)] at e; exact absurd e (hfresh i hi)
      · rw [hold j hj, hnew, hXw, hw _ (hcod j hj)] at e; exact absurd e.symm (hfresh j hj)
      · rfl
  · -- a node that is there
    rw [learnT_old (t := ⟨ns, ix⟩) hf]
    simp only [] at *
    obtain ⟨j, hj, hje, hj1, hj2⟩ : ∃ j : Nat, j < ns.length ∧ findCh ns (nodeOf c ⟨ns, ix⟩ p.pre) p.byt ns.length = j ∧ (nodAt ns j).par = (nodeOf c ⟨ns, ix⟩ p.pre : Nat) ∧ (nodAt ns j).las = p.byt := by
      rcases findCh_cases ns (nodeOf c ⟨ns, ix⟩ p.pre) p.byt ns.length with ⟨hj, _⟩ | hj
      · omega
      · exact hj
    rw [hje, Int.toNat_natCast]
    have hcod : ∀ i, i < ns.length → codeOk c ps.length (nodAt ns i).cod = true := fun i hi => (h.code i hi).1
    have hjc : c ≤ j := by
      rcases Nat.lt_or_ge j c with hl | hl
      · have := h.lit j hl
        simp only [] at this
        rw [this] at hj1
        simp only [] at hj1; omega
      · exact hl
    have hjw : wordP c ps (nodAt ns j).cod = wordP c ps p.pre ++ [ub p.byt] := by
      have := h.word j hjc hj
      simp only [] at this
      rw [this, hj1, hj2, Int.toNat_natCast, hn3]
    refine ⟨by simp [hixl], h.lo, by simp only [hlen]; have := h.hi; simp only [] at this; omega, h.lit, h.par, h.bytes, fun i hi => ⟨hcm _ (hcod i hi), (h.code i hi).2⟩, fun i hi => ?_, h.inc, fun x hxo => ?_, fun i hi1 hi2 => ?_, fun i hi => ?_, fun a b ha hb e => ?_⟩
    all_goals simp only [] at *
    · rw [nodeOf_app (ns := ns) (by rw [hixl]; exact hcod i hi)]; exact h.back i hi
    · rw [hlen] at hxo
      rcases codeOk_new hxo with hxo | rfl
      · rw [nodeOf_app (ns := ns) (by rw [hixl]; exact hxo)]
        obtain ⟨a1, a2, a3⟩ := h.node x hxo
        simp only [] at a1 a2 a3
        rw [hw _ (hcod _ a1), hw _ hxo]
        exact ⟨a1, a2, a3⟩
      · have e : nodeOf c ⟨ns, ix ++ [j]⟩ ((c : Int) + 2 + ps.length) = j := by rw [← hixl]; exact nodeOf_new
        rw [e, hw _ (hcod j hj), hjw, hwn]
        have := hcod j hj
        rw [codeOk_iff] at this
        exact ⟨hj, by omega, rfl⟩
    · obtain ⟨q, hq1, hq2⟩ := h.par i hi1 hi2
      have := h.word i hi1 hi2
      simp only [] at this hq1
      rw [hw _ (hcod i hi2), this, hq1, Int.toNat_natCast, hw _ (hcod q (by omega))]
    · rw [hw _ (hcod i hi)]; exact h.first i hi
    · rw [hw _ (hcod a ha), hw _ (hcod b hb)] at e; exact h.inj a b ha hb e

theorem treeF_ok {c : Nat} (hc : c ≤ 256) {ps : List PairD} (hok : PrsOk c ps) : TrOk c ps (treeF c ps) := by
  induction ps using snoc_ind with
  | h0 => exact trOk_nil hc
  | h1 l a ih =>
    have hl : PrsOk c l := by have := hok.take l.length; rwa [List.take_left] at this
    have ha := hok.get (i := l.length) (by simp)
    simp only [List.getElem_append_right (Nat.le_refl _), Nat.sub_self, List.getElem_cons_zero] at ha
    rw [treeF_snoc]
    exact trOk_learn hc (ih hl) hl ha.1 ha.2.1 ha.2.2

end Go.Proofs.YtiiahjnfbhcgmaaGreatDoor

/- Plain facts on the program's tree of words: what a clear code leaves of it, and that the deepest node that begins data gives the longest word and its code. Conditions: what is known is valid (KnD.Ok). -/
namespace Go.Proofs.YtiiahjnfbhcgmaaGreatDoor
set_option linter.unusedVariables false
set_option linter.unusedSimpArgs false
open Go.RowKit

theorem learnT_app (c : Nat) (t : TreD) (p : PairD) : ∃ N X, (learnT c t p).ns = t.ns ++ N ∧ (learnT c t p).ix = t.ix ++ X ∧ X.length = 1 ∧ ∀ x ∈ N, x.cod = (c : Int) + 2 + t.ix.length := by
  by_cases hf : findCh t.ns (nodeOf c t p.pre) p.byt t.ns.length < 0
  · rw [learnT_new hf]
    exact ⟨_, _, rfl, rfl, rfl, fun x hx => by simp only [List.mem_singleton] at hx; rw [hx]⟩
  · rw [learnT_old hf]
    exact ⟨[], _, by simp, rfl, rfl, fun x hx => by cases hx⟩
theorem treeF_ixl (c : Nat) (ps : List PairD) : (treeF c ps).ix.length = ps.length := by
  induction ps using snoc_ind with
  | h0 => rfl
  | h1 l a ih =>
    obtain ⟨N, X, _, h2, h3, _⟩ := learnT_app c (treeF c l) a
    rw [treeF_snoc, h2, List.length_append, ih, h3]; simp
theorem treeF_app (c : Nat) (ps qs : List PairD) : ∃ N X, (treeF c (ps ++ qs)).ns = (treeF c ps).ns ++ N ∧ (treeF c (ps ++ qs)).ix = (treeF c ps).ix ++ X ∧ ∀ x ∈ N, (c : Int) + 2 + ps.length ≤ x.cod := by
  induction qs using snoc_ind with
  | h0 => exact ⟨[], [], by simp, by simp, fun x hx => by cases hx⟩
  | h1 l a ih =>
    obtain ⟨N, X, h1, h2, h3⟩ := ih
    obtain ⟨N', X', g1, g2, g3, g4⟩ := learnT_app c (treeF c (ps ++ l)) a
    refine ⟨N ++ N', X ++ X', ?_, ?_, fun x hx => ?_⟩
    · rw [← List.append_assoc, treeF_snoc, g1, h1, List.append_assoc]
    · rw [← List.append_assoc, treeF_snoc, g2, h2, List.append_assoc]
    · rcases List.mem_append.1 hx with hx | hx
      · exact h3 x hx
      · rw [g4 x hx, treeF_ixl, List.length_append]; omega
/-- What is left of the tree when the pairs behind the first b are forgotten. -/
theorem treeF_take {c : Nat} (hc : c ≤ 256) {ps : List PairD} (hok : PrsOk c ps) (b : Nat) (hb : b ≤ ps.length) :
    (treeF c (ps.take b)).ns = (treeF c ps).ns.take (treeF c (ps.take b)).ns.length ∧ (treeF c (ps.take b)).ix = (treeF c ps).ix.take b ∧ (treeF c (ps.take b)).ns.length ≤ (treeF c ps).ns.length ∧
    (∀ i, (treeF c (ps.take b)).ns.length ≤ i → i < (treeF c ps).ns.length → (c : Int) + 2 + b ≤ (nodAt (treeF c ps).ns i).cod) ∧ (∀ i, i < (treeF c (ps.take b)).ns.length → (nodAt (treeF c ps).ns i).cod < (c : Int) + 2 + b) := by
  obtain ⟨N, X, h1, h2, h3⟩ := treeF_app c (ps.take b) (ps.drop b)
  rw [List.take_append_drop] at h1 h2
  have hlb : (ps.take b).length = b := by rw [List.length_take]; omega
  have hT := treeF_ok hc (hok.take b)
  have hixl : (treeF c (ps.take b)).ix.length = b := by rw [treeF_ixl, hlb]
  refine ⟨by rw [h1, List.take_left], by rw [h2]; conv => rhs; arg 1; rw [← hixl]
                                         rw [List.take_left], by rw [h1, List.length_append]; omega, fun i h4 h5 => ?_, fun i hi => ?_⟩
  · rw [h1, List.length_append] at h5
    rw [h1]
    unfold nodAt
    rw [List.getD_eq_getElem?_getD, List.getElem?_append_right h4, List.getElem?_eq_getElem (by omega), Option.getD_some]
    have := h3 _ (List.getElem_mem (by omega : i - (treeF c (ps.take b)).ns.length < N.length))
    rw [hlb] at this; exact this
  · have := (hT.code i hi).1
    rw [hlb] at this
    rw [h1]
    have e : nodAt ((treeF c (ps.take b)).ns ++ N) i = nodAt (treeF c (ps.take b)).ns i := by
      unfold nodAt; rw [List.getD_eq_getElem?_getD, List.getD_eq_getElem?_getD, List.getElem?_append_left hi]
    rw [e]
    rw [codeOk_iff] at this; omega

namespace KnD
def tree (k : KnD) : TreD := treeF k.c k.ps
end KnD
theorem KnD.Ok.tree {k : KnD} (h : k.Ok) : TrOk k.c k.ps k.tree := treeF_ok h.c_bd.2.1 h.ps
theorem KnD.longN_max {k : KnD} {d : List UInt8} {n : Nat} : ∀ i, i < n → (k.any ((k.c : Int) + 2 + i)).length ≤ d.length → d.take (k.any ((k.c : Int) + 2 + i)).length = k.any ((k.c : Int) + 2 + i) → (k.any ((k.c : Int) + 2 + i)).length ≤ (k.longN d n).length := by
  induction n with
  | zero => intro i hi; exact absurd hi (Nat.not_lt_zero _)
  | succ n ih =>
    intro i hi h1 h2
    have hmono : (k.longN d n).length ≤ (k.longN d (n + 1)).length := by
      rw [KnD.longN]
      split
      · next h => omega
      · exact Nat.le_refl _
    rcases Nat.lt_or_ge i n with hl | hl
    · exact Nat.le_trans (ih i hl h1 h2) hmono
    · have e : i = n := by omega
      subst e
      rw [KnD.longN]
      split
      · exact Nat.le_refl _
      · next h =>
        rcases Nat.lt_or_ge (k.longN d i).length (k.any ((k.c : Int) + 2 + i)).length with h4 | h4
        · exact absurd ⟨h4, h1, h2⟩ h
        · exact h4
/-- No word of a code that can follow and begins data is longer than the longest. -/
theorem KnD.longest_max {k : KnD} (hk : k.Ok) {d : List UInt8} (hd : d ≠ []) {x : Int} (hf : k.follows x = true) {m : Nat} (hm : m ≤ d.length) (hw : k.any x = d.take m) : m ≤ (k.longest d).length := by
  have hl : (k.any x).length = m := by rw [hw, List.length_take]; omega
  rcases (by
    rcases KnD.follows_cases hk hf with hc | ⟨hg, rfl, _⟩
    · rcases codeOk_iff.1 hc with h | h
      · exact .inl h
      · refine .inr ⟨(x - k.c - 2).toNat, ?_, by omega⟩
        rw [KnD.cnt_eq]; omega
    · refine .inr ⟨k.ps.length, ?_, by unfold KnD.next; omega⟩
      rw [KnD.cnt_eq, hg]; simp : (0 ≤ x ∧ x < k.c) ∨ ∃ i : Nat, i < k.cnt ∧ x = (k.c : Int) + 2 + i) with h | ⟨i, h1, rfl⟩
  · rw [KnD.any_lit hk h.1 h.2] at hl
    have := KnD.longest_pos (k := k) hd
    simp at hl; omega
  · have := KnD.longN_max (k := k) (d := d) (n := k.cnt) i h1 (by omega) (by rw [hl, hw])
    unfold KnD.longest; omega
/-- The code that is found is the least one. -/
theorem KnD.find_least {k : KnD} (hk : k.Ok) {w : List UInt8} {y : Int} (hf : k.follows y = true) (hy : k.any y = w) : k.find w ≤ y := by
  have hy2 : (0 ≤ y ∧ y < k.c) ∨ ∃ i : Nat, i < k.cnt ∧ y = (k.c : Int) + 2 + i := by
    rcases KnD.follows_cases hk hf with hc | ⟨hg, rfl, _⟩
    · rcases codeOk_iff.1 hc with h | h
      · exact .inl h
      · refine .inr ⟨(y - k.c - 2).toNat, ?_, by omega⟩
        rw [KnD.cnt_eq]; omega
    · refine .inr ⟨k.ps.length, ?_, by unfold KnD.next; omega⟩
      rw [KnD.cnt_eq, hg]; simp
  have hcb := hk.c_bd
  by_cases hl : w.length = 1 ∧ (w.getD 0 0).toNat < k.c
  · rw [KnD.find_lit hl]
    rcases hy2 with h | ⟨i, h1, rfl⟩
    · rw [KnD.any_lit hk h.1 h.2] at hy
      rw [← hy]
      have := ub_nat h.1 (by omega : y < 256)
      simp only [List.getD_cons_zero]; omega
    · omega
  · have hyc : ∃ i : Nat, i < k.cnt ∧ y = (k.c : Int) + 2 + i := by
      rcases hy2 with h | h
      · exfalso
        apply hl
        rw [← hy, KnD.any_lit hk h.1 h.2]
        have := ub_nat h.1 (by omega : y < 256)
        exact ⟨rfl, by simp only [List.getD_cons_zero]; omega⟩
      · exact h
    obtain ⟨i, hi, rfl⟩ := hyc
    unfold KnD.find
    rw [if_neg hl]
    cases hq : (List.range k.cnt).find? (fun (i : Nat) => k.any ((k.c : Int) + 2 + i) == w) with
    | none => show (-1 : Int) ≤ _; omega
    | some j =>
      rw [List.find?_range_eq_some] at hq
      obtain ⟨-, -, h3⟩ := hq
      simp only []
      rcases Nat.lt_or_ge i j with h4 | h4
      · have := h3 i h4
        simp [hy] at this
      · omega

/-- No node's word goes on along the data behind the deepest one. -/
theorem deep_none {c : Nat} (hc : c ≤ 256) {ps : List PairD} {t : TreD} (h : TrOk c ps t) {d : List UInt8} (hl : ∀ b ∈ d, b.toNat < c) {n size : Nat} (hn : n < t.ns.length) (hs1 : 1 ≤ size) (hw : wordP c ps (nodAt t.ns n).cod = d.take size)
    (hstop : size = d.length ∨ ∃ b, d[size]? = some b ∧ findCh t.ns n (b.toNat : Int) t.ns.length = -1) : ∀ m, size < m → m ≤ d.length → ∀ i, i < t.ns.length → wordP c ps (nodAt t.ns i).cod ≠ d.take m := by
  intro m
  induction m with
  | zero => intro hm; omega
  | succ m ih =>
    intro hm1 hm2 i hi e
    have hdm : d.take (m + 1) = d.take m ++ [d[m]'(by omega)] := List.take_succ_eq_append_getElem (by omega)
    rcases word_split h hi with ⟨_, e2⟩ | ⟨p, hp1, hp2, hp3, e2⟩
    · rw [e2] at e
      have := congrArg List.length e
      rw [List.length_take] at this
      simp at this; omega
    · rw [e2, hdm] at e
      obtain ⟨ea, eb⟩ := List.append_inj' e rfl
      rcases Nat.lt_or_ge size m with hl2 | hl2
      · exact ih hl2 (by omega) p (by omega) ea
      · have hms : m = size := by omega
        subst hms
        rcases hstop with hst | ⟨b, hb1, hb2⟩
        · omega
        · have hpn : p = n := h.inj p n (by omega) hn (by rw [ea, hw])
          have hbd : d[m]'(by omega) = b := by rw [List.getElem?_eq_getElem (by omega)] at hb1; exact Option.some.inj hb1
          have hbl := hl b (List.mem_of_getElem? hb1)
          obtain ⟨b1, b2, -, -⟩ := h.bytes i hi
          have hlas : (nodAt t.ns i).las = (b.toNat : Int) := by
            rw [hbd] at eb
            have h5 : ub (nodAt t.ns i).las = ub (b.toNat : Int) := by rw [ub_self]; simpa using eb
            exact ub_inj hc ⟨b1, b2⟩ ⟨by omega, by omega⟩ h5
          rcases findCh_cases t.ns n (b.toNat : Int) t.ns.length with ⟨_, h6⟩ | ⟨j, h6, h7, _⟩
          · exact h6 i hi ⟨by rw [hp2, hpn], hlas⟩
          · omega

/-- What the search for the longest word finds. -/
theorem KnD.deep_longest {k : KnD} (hk : k.Ok) {d : List UInt8} (hl : ∀ b ∈ d, b.toNat < k.c) {n size : Nat} (hn : n < k.tree.ns.length) (hs1 : 1 ≤ size) (hs2 : size ≤ d.length) (hw : k.word (nodAt k.tree.ns n).cod = d.take size)
    (hstop : size = d.length ∨ ∃ b, d[size]? = some b ∧ findCh k.tree.ns n (b.toNat : Int) k.tree.ns.length = -1) :
    if ∃ b, d[size]? = some b ∧ k.grow = true ∧ n = nodeOf k.c k.tree k.last ∧ (b.toNat : Int) = (nodAt k.tree.ns n).fir then k.find (k.longest d) = k.next ∧ (k.longest d).length = size + 1
    else k.find (k.longest d) = (nodAt k.tree.ns n).cod ∧ (k.longest d).length = size := by
  have hT := hk.tree
  have hcb := hk.c_bd
  have hd : d ≠ [] := by intro e; subst e; simp at hs2; omega
  have hnone := deep_none hcb.2.1 hT hl hn hs1 hw hstop
  obtain ⟨hf, ha⟩ := KnD.find_any hk hd hl
  have htk := KnD.longest_take (k := k) d
  have hle := KnD.longest_le (k := k) d
  have hcn := (hT.code n hn).1
  have hfn : k.follows (nodAt k.tree.ns n).cod = true := by unfold KnD.follows; rw [hcn]; rfl
  have han : k.any (nodAt k.tree.ns n).cod = d.take size := by rw [KnD.any_word hcn, hw]
  have hge : size ≤ (k.longest d).length := KnD.longest_max hk hd hfn hs2 han
  -- a code whose word has been learned has a node
  have hcode : ∀ x m, codeOk k.c k.ps.length x = true → m ≤ d.length → k.word x = d.take m → m ≤ size := fun x m hx hm he => by
    rcases Nat.lt_or_ge size m with h | h
    · obtain ⟨a1, a2, a3⟩ := hT.node x hx
      exact absurd (a3.trans he) (hnone m h hm _ a1)
    · exact h
  have hgrow : ∀ hg : k.grow = true, codeOk k.c k.ps.length k.last = true := fun hg => hk.lastOk hg
  split
  · next hA =>
    obtain ⟨b, hb1, hg, hnl, hbf⟩ := hA
    have hlast := hgrow hg
    have hsd : size < d.length := (List.getElem?_eq_some_iff.1 hb1).1
    obtain ⟨a1, a2, a3⟩ := hT.node k.last hlast
    rw [← hnl] at a3
    have hlw : k.word k.last = d.take size := by rw [← hw]; exact a3.symm
    have hbe : d[size]'hsd = b := by rw [List.getElem?_eq_getElem hsd] at hb1; exact Option.some.inj hb1
    have hfst := hT.first n hn
    have hany : k.any k.next = d.take (size + 1) := by
      unfold KnD.any
      rw [if_pos rfl, hlw, List.take_succ_eq_append_getElem hsd, hbe]
      congr 1
      have h1 : (k.word (nodAt k.tree.ns n).cod).getD 0 0 = ub (nodAt k.tree.ns n).fir := hfst
      rw [hw, ← hbf, ub_self] at h1
      cases hds : d.take size with
      | nil =>
        have := congrArg List.length hds
        rw [List.length_take, List.length_nil] at this; omega
      | cons y l =>
        rw [hds] at h1
        simp at h1
        simp [h1]
    have hfx : k.follows k.next = true := by unfold KnD.follows; rw [hg]; simp
    have hge2 : size + 1 ≤ (k.longest d).length := KnD.longest_max hk hd hfx (by omega) hany
    have hnx : k.find (k.longest d) = k.next := by
      rcases KnD.follows_cases hk hf with hc | ⟨_, he, _⟩
      · have := hcode _ (k.longest d).length hc hle (by rw [← KnD.any_word hc, ha, htk])
        omega
      · exact he
    refine ⟨hnx, ?_⟩
    rw [← ha, hnx, hany, List.length_take]; omega
  · next hA =>
    have hlen : (k.longest d).length = size := by
      rcases KnD.follows_cases hk hf with hc | ⟨hg, he, hlast⟩
      · have := hcode _ (k.longest d).length hc hle (by rw [← KnD.any_word hc, ha, htk])
        omega
      · -- the word to come
        rw [he] at ha
        have ha2 : k.word k.last ++ (k.word k.last).take 1 = k.longest d := by rw [← ha]; unfold KnD.any; rw [if_pos rfl]
        have hp : 1 ≤ (k.word k.last).length := wordP_pos hk.ps hlast
        have hL : (k.longest d).length = (k.word k.last).length + 1 := by rw [← ha2, List.length_append, List.length_take]; omega
        have hlw : k.word k.last = d.take (k.word k.last).length := by
          have h1 : k.word k.last = (k.longest d).take (k.word k.last).length := by rw [← ha2, List.take_left]
          rw [← htk, List.take_take, Nat.min_eq_left (by omega)] at h1
          exact h1
        have hls := hcode k.last _ hlast (by omega) hlw
        rcases Nat.lt_or_ge (k.word k.last).length size with h | h
        · omega
        · exfalso
          have hes : (k.word k.last).length = size := by omega
          have hsd : size < d.length := by omega
          apply hA
          obtain ⟨a1, a2, a3⟩ := hT.node k.last hlast
          have hnl : n = nodeOf k.c k.tree k.last := hT.inj n _ hn a1 (by rw [a3]; show k.word (nodAt k.tree.ns n).cod = k.word k.last; rw [hw, hlw, hes])
          refine ⟨d[size]'hsd, List.getElem?_eq_getElem hsd, hg, hnl, ?_⟩
          have hfst := hT.first n hn
          obtain ⟨-, -, f1, f2⟩ := hT.bytes n hn
          have h1 : (k.word (nodAt k.tree.ns n).cod).getD 0 0 = ub (nodAt k.tree.ns n).fir := hfst
          rw [hw, ← hes, ← hlw] at h1
          -- the last byte of the longest word is the first one
          have h2 : (k.longest d)[size]? = some (d[size]'hsd) := by
            rw [← htk, List.getElem?_take, if_pos (by omega), List.getElem?_eq_getElem hsd]
          rw [← ha2, List.getElem?_append_right (by omega), hes, Nat.sub_self] at h2
          have h3 : (k.word k.last).getD 0 0 = d[size]'hsd := by
            cases hwl : k.word k.last with
            | nil => rw [hwl] at hp; simp at hp
            | cons y l => rw [hwl] at h2; simpa using h2
          rw [h3] at h1
          have h4 := hl _ (List.getElem_mem hsd)
          rw [h1]
          exact ub_nat f1 (by omega)
    refine ⟨?_, hlen⟩
    have hL : k.longest d = d.take size := by rw [← htk, hlen]
    have h1 := KnD.find_least hk hfn (han.trans hL.symm)
    rcases KnD.follows_cases hk hf with hc | ⟨hg, he, hlast⟩
    · obtain ⟨a1, a2, a3⟩ := hT.node _ hc
      have h2 : k.word (k.find (k.longest d)) = d.take size := by rw [← KnD.any_word hc, ha, hL]
      have h3 : nodeOf k.c k.tree (k.find (k.longest d)) = n := hT.inj _ n a1 hn (by rw [a3]; exact h2.trans hw.symm)
      rw [h3] at a2
      omega
    · rw [codeOk_iff] at hcn
      rw [he] at h1 ⊢
      unfold KnD.next at *; omega

end Go.Proofs.YtiiahjnfbhcgmaaGreatDoor
