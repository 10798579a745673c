/- Walk of the program's forget, which takes the pairs behind the base out of the tree of words. Conditions: the tree lies in memory, what is known is valid. -/
import Derived.Test.YtiiahjnfbhcgmaaDoorTree4
import Derived.Test.YtiiahjnfbhcgmaaDoorFo
namespace Go.Proofs.YtiiahjnfbhcgmaaDoor
set_option linter.unusedVariables false
set_option linter.unusedSimpArgs false
open Go Go.RowKit

/-- The cells of all nodes, the links of the first m among the first m alone. -/
def HoldsN (ns : List NodD) (m : Nat) (xs : List Value) : Prop := ∀ i, i < ns.length → xs[i * 6]? = some (.int .i64 (nodAt ns i).par) ∧ (i < m → xs[i * 6 + 1]? = some (.int .i64 (lastCh ns i m))) ∧ xs[i * 6 + 2]? = some (.int .i64 (if (nodAt ns i).par < 0 then -1 else lastCh ns (nodAt ns i).par i)) ∧
      xs[i * 6 + 3]? = some (.int .u8 (nodAt ns i).las) ∧ xs[i * 6 + 4]? = some (.int .u8 (nodAt ns i).fir) ∧ xs[i * 6 + 5]? = some (.int .i64 (nodAt ns i).cod)
theorem holdsN_all (ns : List NodD) : HoldsN ns ns.length (cellsN ns) := fun i hi =>
  ⟨by have := cellsN_get ns hi (j := 0) (by omega); rw [Nat.add_zero] at this; exact this, fun _ => cellsN_get ns hi (j := 1) (by omega), cellsN_get ns hi (j := 2) (by omega), cellsN_get ns hi (j := 3) (by omega), cellsN_get ns hi (j := 4) (by omega), cellsN_get ns hi (j := 5) (by omega)⟩
/-- A node is taken out: its parent's link goes to the child before. -/
theorem HoldsN.pop {ns : List NodD} {m p : Nat} {xs : List Value} (h : HoldsN ns (m + 1) xs) (hm : m < ns.length) (hp : (nodAt ns m).par = p) (hpm : p < m) : HoldsN ns m (xs.set (p * 6 + 1) (.int .i64 (lastCh ns p m))) := by
  intro i hi
  obtain ⟨h0, h1, h2, h3, h4, h5⟩ := h i hi
  have hs : ∀ o, o ≠ p * 6 + 1 → (xs.set (p * 6 + 1) (.int .i64 (lastCh ns p m)))[o]? = xs[o]? := fun o ho => List.getElem?_set_ne (Ne.symm ho)
  refine ⟨by rw [hs _ (by omega)]; exact h0, fun him => ?_, by rw [hs _ (by omega)]; exact h2, by rw [hs _ (by omega)]; exact h3, by rw [hs _ (by omega)]; exact h4, by rw [hs _ (by omega)]; exact h5⟩
  by_cases hip : i = p
  · subst hip
    have h6 := (List.getElem?_eq_some_iff.1 (h1 (by omega))).1
    rw [List.getElem?_set_self h6]
  · rw [hs _ (by omega), h1 (by omega)]
    rw [lastCh, if_neg (by omega)]
theorem HoldsN.take {ns : List NodD} {m : Nat} {xs : List Value} (h : HoldsN ns m xs) (hm : m ≤ ns.length) (hx : xs.length = ns.length * 6) : xs.take (m * 6) = cellsN (ns.take m) := by
  have hl : (ns.take m).length = m := by rw [List.length_take]; omega
  have hL := cellsN_length (ns.take m)
  rw [hl] at hL
  apply List.ext_getElem?
  intro q
  by_cases hq : q < m * 6
  · rw [List.getElem?_take, if_pos hq, cellsN_at (ns.take m) (by rw [hl]; exact hq), hl]
    obtain ⟨h0, h1, h2, h3, h4, h5⟩ := h (q / 6) (by omega)
    have h1 := h1 (by omega)
    unfold nodC
    rw [nodAt_take ns (by omega : q / 6 < m), lastCh_take ns _ m m (Nat.le_refl _), lastCh_take ns _ m (q / 6) (by omega)]
    have e : q = q / 6 * 6 + q % 6 := by omega
    rcases (by omega : q % 6 = 0 ∨ q % 6 = 1 ∨ q % 6 = 2 ∨ q % 6 = 3 ∨ q % 6 = 4 ∨ q % 6 = 5) with r | r | r | r | r | r
    all_goals rw [r] at e ⊢; conv => lhs; rw [e]
    · exact h0
    · exact h1
    · exact h2
    · exact h3
    · exact h4
    · exact h5
  · rw [List.getElem?_eq_none (by rw [List.length_take]; omega), List.getElem?_eq_none (by omega)]
theorem HoldsN.cells {ns : List NodD} {m g cap n base : Nat} {xs : List Value} {w : World} (h : HoldsN ns m xs) (hr : w.ownsRow base 150 6 (.slice (some ⟨g, 0, none⟩) n cap) n xs) {i : Nat} (hi : i < ns.length) : w.cell? ⟨g, i * 6, none⟩ = some (.int .i64 (nodAt ns i).par) ∧ w.cell? ⟨g, i * 6 + 2, none⟩ = some (.int .i64 (if (nodAt ns i).par < 0 then -1 else lastCh ns (nodAt ns i).par i)) ∧ w.cell? ⟨g, i * 6 + 5, none⟩ = some (.int .i64 (nodAt ns i).cod) := by
  obtain ⟨h0, h1, h2, h3, h4, h5⟩ := h i hi
  exact ⟨ownsRow_cell hr h0, ownsRow_cell hr h2, ownsRow_cell hr h5⟩
theorem ownsRow_cut {w : World} {base : Nat} {e : TypeId} {size n m c : Nat} {a : Option Addr} {xs : List Value} (h : w.ownsRow base e size (.slice a n c) n xs) (hm : m ≤ n) : w.ownsRow base e size (.slice a m c) m (xs.take (m * size)) := by
  have hx := h.1
  have hmn : m * size ≤ n * size := Nat.mul_le_mul_right _ hm
  refine ⟨by rw [List.length_take, hx]; omega, ?_⟩
  rcases h.2 with ⟨hv, hn⟩ | ⟨g, cap, cur, hv, hb, hg, hnc, hcm, hsz, ht⟩
  · cases hv
    exact .inl ⟨by rw [show m = 0 by omega], by omega⟩
  · cases hv
    refine .inr ⟨g, c, cur, rfl, hb, hg, by omega, hcm, hsz, ?_⟩
    rw [← ht, List.take_take, Nat.min_eq_left hmn]

theorem box_oth {w : World} {b : Nat} {o : Obj} (h : w.heap[b]? = some o) {p : Addr} (hp : b ≠ p.block) (u : Value) : (w.setCell p u).heap[b]? = some o := by
  rw [Below.heap_setCell _ _ _ _ hp]; exact h
theorem cellsPr_take (l : List PairD) (b : Nat) : (cellsPr l).take (b * 2) = cellsPr (l.take b) := by
  induction l generalizing b with
  | nil => simp [cellsPr]
  | cons p l ih =>
    cases b with
    | zero => simp [cellsPr]
    | succ b =>
      show (prC p ++ cellsPr l).take ((b + 1) * 2) = prC p ++ cellsPr (l.take b)
      rw [← ih, show (b + 1) * 2 = (prC p).length + b * 2 by simp [prC]; omega, List.take_length_add_append]
theorem ownsRow_cap {w : World} {base : Nat} {e : TypeId} {size n c : Nat} {a : Option Addr} {xs : List Value} (h : w.ownsRow base e size (.slice a n c) n xs) : n ≤ c ∧ c ≤ 9223372036854775807 := by
  rcases h.2 with ⟨hv, hn⟩ | ⟨g, cap, cur, hv, _, _, h1, h2, _⟩
  · cases hv; exact ⟨Nat.le_refl _, by omega⟩
  · cases hv; unfold maxLen at h2; exact ⟨h1, by omega⟩
def KnD.cut (k : KnD) : KnD := ⟨k.set, k.ps.take k.base.toNat, k.base, k.last⟩
theorem KnD.cut_tr {k : KnD} (h : k.Tr) : k.cut.Tr := by
  refine ⟨h.set, h.ps.take _, ?_⟩
  have := h.len
  show (k.ps.take k.base.toNat).length + k.c + 1 ≤ lastC k.set
  rw [List.length_take]; omega

structure FgAt (lo tb : Nat) (k : KnD) (vp vi : Value) (O : Nat → Prop) (g cap M : Nat) (w : World) (m : Nat) (xs : List Value) (wr : World) : Prop where
  ge : M ≤ m
  le : m ≤ k.tree.ns.length
  box : TrBox tb k vp (.slice (some ⟨g, 0, none⟩) k.tree.ns.length cap) vi wr
  prs : wr.ownsRow lo 99 2 vp k.ps.length (cellsPr k.ps)
  idx : wr.ownsRow lo 3 1 vi k.tree.ix.length (cellsI (k.tree.ix.map Int.ofNat))
  row : wr.ownsRow lo 150 6 (.slice (some ⟨g, 0, none⟩) k.tree.ns.length cap) k.tree.ns.length xs
  hold : HoldsN k.tree.ns m xs
  fr : Fr O w wr
def RelFg (lo tb : Nat) (k : KnD) (vp vi : Value) (O : Nat → Prop) (g cap M : Nat) (w : World) (n : Value) (wr : World) : Prop := ∃ (m : Nat) (xs : List Value), n = .int .i64 m ∧ FgAt lo tb k vp vi O g cap M w m xs wr

end Go.Proofs.YtiiahjnfbhcgmaaDoor
