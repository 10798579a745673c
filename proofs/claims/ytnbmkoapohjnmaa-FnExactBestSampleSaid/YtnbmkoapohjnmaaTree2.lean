/- Plain facts on the program's tree of words: what a clear code leaves of it, and that the deepest node that begins data gives the longest word and its code. Conditions: what is known is valid (KnD.Ok). -/
import Derived.Test.YtnbmkoapohjnmaaTree1
namespace Go.Proofs.Ytnbmkoapohjnmaa
set_option linter.unusedVariables false
set_option linter.unusedSimpArgs false
open Go.RowKit

theorem learnT_app (c : Nat) (t : TreD) (p : PairD) : ∃ N X, (learnT c t p).ns = t.ns ++ N ∧ (learnT c t p).ix = t.ix ++ X ∧ X.length = 1 ∧ ∀ x ∈ N, x.cod = (c : Int) + 2 + t.ix.length := by
  by_cases hf : findCh t.ns (nodeOf c t p.pre) p.byt t.ns.length < 0
  · rw [learnT_new hf]
    exact ⟨_, _, rfl, rfl, rfl, fun x hx => by simp only [List.mem_singleton] at hx; rw [hx]⟩
  · rw [learnT_old hf]
    exact ⟨[], _, by simp, rfl, rfl, fun x hx => by cases hx⟩
theorem treeF_ixl (c : Nat) (ps : List PairD) : (treeF c ps).ix.length = ps.length := by
  induction ps using snoc_ind with
  | h0 => rfl
  | h1 l a ih =>
    obtain ⟨N, X, _, h2, h3, _⟩ := learnT_app c (treeF c l) a
    rw [treeF_snoc, h2, List.length_append, ih, h3]; simp
theorem treeF_app (c : Nat) (ps qs : List PairD) : ∃ N X, (treeF c (ps ++ qs)).ns = (treeF c ps).ns ++ N ∧ (treeF c (ps ++ qs)).ix = (treeF c ps).ix ++ X ∧ ∀ x ∈ N, (c : Int) + 2 + ps.length ≤ x.cod := by
  induction qs using snoc_ind with
  | h0 => exact ⟨[], [], by simp, by simp, fun x hx => by cases hx⟩
  | h1 l a ih =>
    obtain ⟨N, X, h1, h2, h3⟩ := ih
    obtain ⟨N', X', g1, g2, g3, g4⟩ := learnT_app c (treeF c (ps ++ l)) a
    refine ⟨N ++ N', X ++ X', ?_, ?_, fun x hx => ?_⟩
    · rw [← List.append_assoc, treeF_snoc, g1, h1, List.append_assoc]
    · rw [← List.append_assoc, treeF_snoc, g2, h2, List.append_assoc]
    · rcases List.mem_append.1 hx with hx | hx
      · exact h3 x hx
      · rw [g4 x hx, treeF_ixl, List.length_append]; omega
/-- What is left of the tree when the pairs behind the first b are forgotten. -/
theorem treeF_take {c : Nat} (hc : c ≤ 256) {ps : List PairD} (hok : PrsOk c ps) (b : Nat) (hb : b ≤ ps.length) :
    (treeF c (ps.take b)).ns = (treeF c ps).ns.take (treeF c (ps.take b)).ns.length ∧ (treeF c (ps.take b)).ix = (treeF c ps).ix.take b ∧ (treeF c (ps.take b)).ns.length ≤ (treeF c ps).ns.length ∧
    (∀ i, (treeF c (ps.take b)).ns.length ≤ i → i < (treeF c ps).ns.length → (c : Int) + 2 + b ≤ (nodAt (treeF c ps).ns i).cod) ∧ (∀ i, i < (treeF c (ps.take b)).ns.length → (nodAt (treeF c ps).ns i).cod < (c : Int) + 2 + b) := by
  obtain ⟨N, X, h1, h2, h3⟩ := treeF_app c (ps.take b) (ps.drop b)
  rw [List.take_append_drop] at h1 h2
  have hlb : (ps.take b).length = b := by rw [List.length_take]; omega
  have hT := treeF_ok hc (hok.take b)
  have hixl : (treeF c (ps.take b)).ix.length = b := by rw [treeF_ixl, hlb]
  refine ⟨by rw [h1, List.take_left], by rw [h2]; conv => rhs; arg 1; rw [← hixl]
                                         rw [List.take_left], by rw [h1, List.length_append]; omega, fun i h4 h5 => ?_, fun i hi => ?_⟩
  · rw [h1, List.length_append] at h5
    rw [h1]
    unfold nodAt
    rw [List.getD_eq_getElem?_getD, List.getElem?_append_right h4, List.getElem?_eq_getElem (by omega), Option.getD_some]
    have := h3 _ (List.getElem_mem (by omega : i - (treeF c (ps.take b)).ns.length < N.length))
    rw [hlb] at this; exact this
  · have := (hT.code i hi).1
    rw [hlb] at this
    rw [h1]
    have e : nodAt ((treeF c (ps.take b)).ns ++ N) i = nodAt (treeF c (ps.take b)).ns i := by
      unfold nodAt; rw [List.getD_eq_getElem?_getD, List.getD_eq_getElem?_getD, List.getElem?_append_left hi]
    rw [e]
    rw [codeOk_iff] at this; omega

namespace KnD
def tree (k : KnD) : TreD := treeF k.c k.ps
end KnD
theorem KnD.Ok.tree {k : KnD} (h : k.Ok) : TrOk k.c k.ps k.tree := treeF_ok h.c_bd.2.1 h.ps
theorem KnD.longN_max {k : KnD} {d : List UInt8} {n : Nat} : ∀ i, i < n → (k.any ((k.c : Int) + 2 + i)).length ≤ d.length → d.take (k.any ((k.c : Int) + 2 + i)).length = k.any ((k.c : Int) + 2 + i) → (k.any ((k.c : Int) + 2 + i)).length ≤ (k.longN d n).length := by
  induction n with
  | zero => intro i hi; exact absurd hi (Nat.not_lt_zero _)
  | succ n ih =>
    intro i hi h1 h2
    have hmono : (k.longN d n).length ≤ (k.longN d (n + 1)).length := by
      rw [KnD.longN]
      split
      · next h => omega
      · exact Nat.le_refl _
    rcases Nat.lt_or_ge i n with hl | hl
    · exact Nat.le_trans (ih i hl h1 h2) hmono
    · have e : i = n := by omega
      subst e
      rw [KnD.longN]
      split
      · exact Nat.le_refl _
      · next h =>
        rcases Nat.lt_or_ge (k.longN d i).length (k.any ((k.c : Int) + 2 + i)).length with h4 | h4
        · exact absurd ⟨h4, h1, h2⟩ h
        · exact h4
/-- No word of a code that can follow and begins data is longer than the longest. -/
theorem KnD.longest_max {k : KnD} (hk : k.Ok) {d : List UInt8} (hd : d ≠ []) {x : Int} (hf : k.follows x = true) {m : Nat} (hm : m ≤ d.length) (hw : k.any x = d.take m) : m ≤ (k.longest d).length := by
  have hl : (k.any x).length = m := by rw [hw, List.length_take]; omega
  rcases (by
    rcases KnD.follows_cases hk hf with hc | ⟨hg, rfl, _⟩
    · rcases codeOk_iff.1 hc with h | h
      · exact .inl h
      · refine .inr ⟨(x - k.c - 2).toNat, ?_, by omega⟩
        rw [KnD.cnt_eq]; omega
    · refine .inr ⟨k.ps.length, ?_, by unfold KnD.next; omega⟩
      rw [KnD.cnt_eq, hg]; simp : (0 ≤ x ∧ x < k.c) ∨ ∃ i : Nat, i < k.cnt ∧ x = (k.c : Int) + 2 + i) with h | ⟨i, h1, rfl⟩
  · rw [KnD.any_lit hk h.1 h.2] at hl
    have := KnD.longest_pos (k := k) hd
    simp at hl; omega
  · have := KnD.longN_max (k := k) (d := d) (n := k.cnt) i h1 (by omega) (by rw [hl, hw])
    unfold KnD.longest; omega
/-- The code that is found is the least one. -/
theorem KnD.find_least {k : KnD} (hk : k.Ok) {w : List UInt8} {y : Int} (hf : k.follows y = true) (hy : k.any y = w) : k.find w ≤ y := by
  have hy2 : (0 ≤ y ∧ y < k.c) ∨ ∃ i : Nat, i < k.cnt ∧ y = (k.c : Int) + 2 + i := by
    rcases KnD.follows_cases hk hf with hc | ⟨hg, rfl, _⟩
    · rcases codeOk_iff.1 hc with h | h
      · exact .inl h
      · refine .inr ⟨(y - k.c - 2).toNat, ?_, by omega⟩
        rw [KnD.cnt_eq]; omega
    · refine .inr ⟨k.ps.length, ?_, by unfold KnD.next; omega⟩
      rw [KnD.cnt_eq, hg]; simp
  have hcb := hk.c_bd
  by_cases hl : w.length = 1 ∧ (w.getD 0 0).toNat < k.c
  · rw [KnD.find_lit hl]
    rcases hy2 with h | ⟨i, h1, rfl⟩
    · rw [KnD.any_lit hk h.1 h.2] at hy
      rw [← hy]
      have := ub_nat h.1 (by omega : y < 256)
      simp only [List.getD_cons_zero]; omega
    · omega
  · have hyc : ∃ i : Nat, i < k.cnt ∧ y = (k.c : Int) + 2 + i := by
      rcases hy2 with h | h
      · exfalso
        apply hl
        rw [← hy, KnD.any_lit hk h.1 h.2]
        have := ub_nat h.1 (by omega : y < 256)
        exact ⟨rfl, by simp only [List.getD_cons_zero]; omega⟩
      · exact h
    obtain ⟨i, hi, rfl⟩ := hyc
    unfold KnD.find
    rw [if_neg hl]
    cases hq : (List.range k.cnt).find? (fun (i : Nat) => k.any ((k.c : Int) + 2 + i) == w) with
    | none => show (-1 : Int) ≤ _; omega
    | some j =>
      rw [List.find?_range_eq_some] at hq
      obtain ⟨-, -, h3⟩ := hq
      simp only []
      rcases Nat.lt_or_ge i j with h4 | h4
      · have := h3 i h4
        simp [hy] at this
      · omega

/-- No node's word goes on along the data behind the deepest one. -/
theorem deep_none {c : Nat} (hc : c ≤ 256) {ps : List PairD} {t : TreD} (h : TrOk c ps t) {d : List UInt8} (hl : ∀ b ∈ d, b.toNat < c) {n size : Nat} (hn : n < t.ns.length) (hs1 : 1 ≤ size) (hw : wordP c ps (nodAt t.ns n).cod = d.take size)
    (hstop : size = d.length ∨ ∃ b, d[size]? = some b ∧ findCh t.ns n (b.toNat : Int) t.ns.length = -1) : ∀ m, size < m → m ≤ d.length → ∀ i, i < t.ns.length → wordP c ps (nodAt t.ns i).cod ≠ d.take m := by
  intro m
  induction m with
  | zero => intro hm; omega
  | succ m ih =>
    intro hm1 hm2 i hi e
    have hdm : d.take (m + 1) = d.take m ++ [d[m]'(by omega)] := List.take_succ_eq_append_getElem (by omega)
    rcases word_split h hi with ⟨_, e2⟩ | ⟨p, hp1, hp2, hp3, e2⟩
    · rw [e2] at e
      have := congrArg List.length e
      rw [List.length_take] at this
      simp at this; omega
    · rw [e2, hdm] at e
      obtain ⟨ea, eb⟩ := List.append_inj' e rfl
      rcases Nat.lt_or_ge size m with hl2 | hl2
      · exact ih hl2 (by omega) p (by omega) ea
      · have hms : m = size := by omega
        subst hms
        rcases hstop with hst | ⟨b, hb1, hb2⟩
        · omega
        · have hpn : p = n := h.inj p n (by omega) hn (by rw [ea, hw])
          have hbd : d[m]'(by omega) = b := by rw [List.getElem?_eq_getElem (by omega)] at hb1; exact Option.some.inj hb1
          have hbl := hl b (List.mem_of_getElem? hb1)
          obtain ⟨b1, b2, -, -⟩ := h.bytes i hi
          have hlas : (nodAt t.ns i).las = (b.toNat : Int) := by
            rw [hbd] at eb
            have h5 : ub (nodAt t.ns i).las = ub (b.toNat : Int) := by rw [ub_self]; simpa using eb
            exact ub_inj hc ⟨b1, b2⟩ ⟨by omega, by omega⟩ h5
          rcases findCh_cases t.ns n (b.toNat : Int) t.ns.length with ⟨_, h6⟩ | ⟨j, h6, h7, _⟩
          · exact h6 i hi ⟨by rw [hp2, hpn], hlas⟩
          · omega

/-- What the search for the longest word finds. -/
theorem KnD.deep_longest {k : KnD} (hk : k.Ok) {d : List UInt8} (hl : ∀ b ∈ d, b.toNat < k.c) {n size : Nat} (hn : n < k.tree.ns.length) (hs1 : 1 ≤ size) (hs2 : size ≤ d.length) (hw : k.word (nodAt k.tree.ns n).cod = d.take size)
    (hstop : size = d.length ∨ ∃ b, d[size]? = some b ∧ findCh k.tree.ns n (b.toNat : Int) k.tree.ns.length = -1) :
    if ∃ b, d[size]? = some b ∧ k.grow = true ∧ n = nodeOf k.c k.tree k.last ∧ (b.toNat : Int) = (nodAt k.tree.ns n).fir then k.find (k.longest d) = k.next ∧ (k.longest d).length = size + 1
    else k.find (k.longest d) = (nodAt k.tree.ns n).cod ∧ (k.longest d).length = size := by
  have hT := hk.tree
  have hcb := hk.c_bd
  have hd : d ≠ [] := by intro e; subst e; simp at hs2; omega
  have hnone := deep_none hcb.2.1 hT hl hn hs1 hw hstop
  obtain ⟨hf, ha⟩ := KnD.find_any hk hd hl
  have htk := KnD.longest_take (k := k) d
  have hle := KnD.longest_le (k := k) d
  have hcn := (hT.code n hn).1
  have hfn : k.follows (nodAt k.tree.ns n).cod = true := by unfold KnD.follows; rw [hcn]; rfl
  have han : k.any (nodAt k.tree.ns n).cod = d.take size := by rw [KnD.any_word hcn, hw]
  have hge : size ≤ (k.longest d).length := KnD.longest_max hk hd hfn hs2 han
  -- a code whose word has been learned has a node
  have hcode : ∀ x m, codeOk k.c k.ps.length x = true → m ≤ d.length → k.word x = d.take m → m ≤ size := fun x m hx hm he => by
    rcases Nat.lt_or_ge size m with h | h
    · obtain ⟨a1, a2, a3⟩ := hT.node x hx
      exact absurd (a3.trans he) (hnone m h hm _ a1)
    · exact h
  have hgrow : ∀ hg : k.grow = true, codeOk k.c k.ps.length k.last = true := fun hg => hk.lastOk hg
  split
  · next hA =>
    obtain ⟨b, hb1, hg, hnl, hbf⟩ := hA
    have hlast := hgrow hg
    have hsd : size < d.length := (List.getElem?_eq_some_iff.1 hb1).1
    obtain ⟨a1, a2, a3⟩ := hT.node k.last hlast
    rw [← hnl] at a3
    have hlw : k.word k.last = d.take size := by rw [← hw]; exact a3.symm
    have hbe : d[size]'hsd = b := by rw [List.getElem?_eq_getElem hsd] at hb1; exact Option.some.inj hb1
    have hfst := hT.first n hn
    have hany : k.any k.next = d.take (size + 1) := by
      unfold KnD.any
      rw [if_pos rfl, hlw, List.take_succ_eq_append_getElem hsd, hbe]
      congr 1
      have h1 : (k.word (nodAt k.tree.ns n).cod).getD 0 0 = ub (nodAt k.tree.ns n).fir := hfst
      rw [hw, ← hbf, ub_self] at h1
      cases hds : d.take size with
      | nil =>
        have := congrArg List.length hds
        rw [List.length_take, List.length_nil] at this; omega
      | cons y l =>
        rw [hds] at h1
        simp at h1
        simp [h1]
    have hfx : k.follows k.next = true := by unfold KnD.follows; rw [hg]; simp
    have hge2 : size + 1 ≤ (k.longest d).length := KnD.longest_max hk hd hfx (by omega) hany
    have hnx : k.find (k.longest d) = k.next := by
      rcases KnD.follows_cases hk hf with hc | ⟨_, he, _⟩
      · have := hcode _ (k.longest d).length hc hle (by rw [← KnD.any_word hc, ha, htk])
        omega
      · exact he
    refine ⟨hnx, ?_⟩
    rw [← ha, hnx, hany, List.length_take]; omega
  · next hA =>
    have hlen : (k.longest d).length = size := by
      rcases KnD.follows_cases hk hf with hc | ⟨hg, he, hlast⟩
      · have := hcode _ (k.longest d).length hc hle (by rw [← KnD.any_word hc, ha, htk])
        omega
      · -- the word to come
        rw [he] at ha
        have ha2 : k.word k.last ++ (k.word k.last).take 1 = k.longest d := by rw [← ha]; unfold KnD.any; rw [if_pos rfl]
        have hp : 1 ≤ (k.word k.last).length := wordP_pos hk.ps hlast
        have hL : (k.longest d).length = (k.word k.last).length + 1 := by rw [← ha2, List.length_append, List.length_take]; omega
        have hlw : k.word k.last = d.take (k.word k.last).length := by
          have h1 : k.word k.last = (k.longest d).take (k.word k.last).length := by rw [← ha2, List.take_left]
          rw [← htk, List.take_take, Nat.min_eq_left (by omega)] at h1
          exact h1
        have hls := hcode k.last _ hlast (by omega) hlw
        rcases Nat.lt_or_ge (k.word k.last).length size with h | h
        · omega
        · exfalso
          have hes : (k.word k.last).length = size := by omega
          have hsd : size < d.length := by omega
          apply hA
          obtain ⟨a1, a2, a3⟩ := hT.node k.last hlast
          have hnl : n = nodeOf k.c k.tree k.last := hT.inj n _ hn a1 (by rw [a3]; show k.word (nodAt k.tree.ns n).cod = k.word k.last; rw [hw, hlw, hes])
          refine ⟨d[size]'hsd, List.getElem?_eq_getElem hsd, hg, hnl, ?_⟩
          have hfst := hT.first n hn
          obtain ⟨-, -, f1, f2⟩ := hT.bytes n hn
          have h1 : (k.word (nodAt k.tree.ns n).cod).getD 0 0 = ub (nodAt k.tree.ns n).fir := hfst
          rw [hw, ← hes, ← hlw] at h1
          -- the last byte of the longest word is the first one
          have h2 : (k.longest d)[size]? = some (d[size]'hsd) := by
            rw [← htk, List.getElem?_take, if_pos (by omega), List.getElem?_eq_getElem hsd]
          rw [← ha2, List.getElem?_append_right (by omega), hes, Nat.sub_self] at h2
          have h3 : (k.word k.last).getD 0 0 = d[size]'hsd := by
            cases hwl : k.word k.last with
            | nil => rw [hwl] at hp; simp at hp
            | cons y l => rw [hwl] at h2; simpa using h2
          rw [h3] at h1
          have h4 := hl _ (List.getElem_mem hsd)
          rw [h1]
          exact ub_nat f1 (by omega)
    refine ⟨?_, hlen⟩
    have hL : k.longest d = d.take size := by rw [← htk, hlen]
    have h1 := KnD.find_least hk hfn (han.trans hL.symm)
    rcases KnD.follows_cases hk hf with hc | ⟨hg, he, hlast⟩
    · obtain ⟨a1, a2, a3⟩ := hT.node _ hc
      have h2 : k.word (k.find (k.longest d)) = d.take size := by rw [← KnD.any_word hc, ha, hL]
      have h3 : nodeOf k.c k.tree (k.find (k.longest d)) = n := hT.inj _ n a1 hn (by rw [a3]; exact h2.trans hw.symm)
      rw [h3] at a2
      omega
    · rw [codeOk_iff] at hcn
      rw [he] at h1 ⊢
      unfold KnD.next at *; omega

end Go.Proofs.Ytnbmkoapohjnmaa
