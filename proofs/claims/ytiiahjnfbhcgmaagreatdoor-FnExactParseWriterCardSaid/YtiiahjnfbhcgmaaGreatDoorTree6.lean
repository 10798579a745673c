/- Walk of the program's forget, which takes the pairs behind the base out of the tree of words. Conditions: the tree lies in memory, what is known is valid. -/
import Derived.Test.YtiiahjnfbhcgmaaGreatDoorTree4
import Derived.Test.YtiiahjnfbhcgmaaGreatDoorFo
namespace Go.Proofs.YtiiahjnfbhcgmaaGreatDoor
set_option linter.unusedVariables false
set_option linter.unusedSimpArgs false
open Go Go.RowKit

/-- The cells of all nodes, the links of the first m among the first m alone. -/
def HoldsN (ns : List NodD) (m : Nat) (xs : List Value) : Prop := ∀ i, i < ns.length → xs[i * 6]? = some (.int .i64 (nodAt ns i).par) ∧ (i < m → xs[i * 6 + 1]? = some (.int .i64 (lastCh ns i m))) ∧ xs[i * 6 + 2]? = some (.int .i64 (if (nodAt ns i).par < 0 then -1 else lastCh ns (nodAt ns i).par i)) ∧
      xs[i * 6 + 3]? = some (.int .u8 (nodAt ns i).las) ∧ xs[i * 6 + 4]? = some (.int .u8 (nodAt ns i).fir) ∧ xs[i * 6 + 5]? = some (.int .i64 (nodAt ns i).cod)
theorem holdsN_all (ns : List NodD) : HoldsN ns ns.length (cellsN ns) := fun i hi =>
  ⟨by have := cellsN_get ns hi (j := 0) (by omega); rw [Nat.add_zero] at this; exact this, fun _ => cellsN_get ns hi (j := 1) (by omega), cellsN_get ns hi (j := 2) (by omega), cellsN_get ns hi (j := 3) (by omega), cellsN_get ns hi (j := 4) (by omega), cellsN_get ns hi (j := 5) (by omega)⟩
/-- A node is taken out: its parent's link goes to the child before. -/
theorem HoldsN.pop {ns : List NodD} {m p : Nat} {xs : List Value} (h : HoldsN ns (m + 1) xs) (hm : m < ns.length) (hp : (nodAt ns m).par = p) (hpm : p < m) : HoldsN ns m (xs.set (p * 6 + 1) (.int .i64 (lastCh ns p m))) := by
  intro i hi
  obtain ⟨h0, h1, h2, h3, h4, h5⟩ := h i hi
  have hs : ∀ o, o ≠ p * 6 + 1 → (xs.set (p * 6 + 1) (.int .i64 (lastCh ns p m)))[o]? = xs[o]? := fun o ho => List.getElem?_set_ne (Ne.symm ho)
  refine ⟨by rw [hs _ (by omega)]; exact h0, fun him => ?_, by rw [hs _ (by omega)]; exact h2, by rw [hs _ (by omega)]; exact h3, by rw [hs _ (by omega)]; exact h4, by rw [hs _ (by omega)]; exact h5⟩
  by_cases hip : i = p
  · subst hip
    have h6 := (List.getElem?_eq_some_iff.1 (h1 (by omega))).1
    rw [List.getElem?_set_self h6]
  · rw [hs _ (by omega), h1 (by omega)]
    rw [lastCh, if_neg (by omega)]
theorem HoldsN.take {ns : List NodD} {m : Nat} {xs : List Value} (h : HoldsN ns m xs) (hm : m ≤ ns.length) (hx : xs.length = ns.length * 6) : xs.take (m * 6) = cellsN (ns.take m) := by
  have hl : (ns.take m).length = m := by rw [List.length_take]; omega
  have hL := cellsN_length (ns.take m)
  rw [hl] at hL
  apply List.ext_getElem?
  intro q
  by_cases hq : q < m * 6
  · rw [List.getElem?_take, if_pos hq, cellsN_at (ns.take m) (by rw [hl]; exact hq), hl]
    obtain ⟨h0, h1, h2, h3, h4, h5⟩ := h (q / 6) (by omega)
    have h1 := h1 (by omega)
    unfold nodC
    rw [nodAt_take ns (by omega : q / 6 < m), lastCh_take ns _ m m (Nat.le_refl _), lastCh_take ns _ m (q / 6) (by omega)]
    have e : q = q / 6 * 6 + q % 6 := by omega
    rcases (by omega : q % 6 = 0 ∨ q % 6 = 1 ∨ q % 6 = 2 ∨ q % 6 = 3 ∨ q % 6 = 4 ∨ q % 6 = 5) with r | r | r | r | r | r
    all_goals rw [r] at e ⊢; conv => lhs; rw [e]
    · exact h0
    · exact h1
    · exact h2
    · exact h3
    · exact h4
    · exact h5
  · rw [List.getElem?_eq_none (by rw [List.length_take]; omega), List.getElem?_eq_none (by omega)]
theorem HoldsN.cells {ns : List NodD} {m g cap n base : Nat} {xs : List Value} {w : World} (h : HoldsN ns m xs) (hr : w.ownsRow base 141 6 (.slice (some ⟨g, 0, none⟩) n cap) n xs) {i : Nat} (hi : i < ns.length) : w.cell? ⟨g, i * 6, none⟩ = some (.int .i64 (nodAt ns i).par) ∧ w.cell? ⟨g, i * 6 + 2, none⟩ = some (.int .i64 (if (nodAt ns i).par < 0 then -1 else lastCh ns (nodAt ns i).par i)) ∧ w.cell? ⟨g, i * 6 + 5, none⟩ = some (.int .i64 (nodAt ns i).cod) := by
  obtain ⟨h0, h1, h2, h3, h4, h5⟩ := h i hi
  exact ⟨ownsRow_cell hr h0, ownsRow_cell hr h2, ownsRow_cell hr h5⟩
theorem ownsRow_cut {w : World} {base : Nat} {e : TypeId} {size n m c : Nat} {a : Option Addr} {xs : List Value} (h : w.ownsRow base e size (.slice a n c) n xs) (hm : m ≤ n) : w.ownsRow base e size (.slice a m c) m (xs.take (m * size)) := by
  have hx := h.1
  have hmn : m * size ≤ n * size := Nat.mul_le_mul_right _ hm
  refine ⟨by rw [List.length_take, hx]; omega, ?_⟩
  rcases h.2 with ⟨hv, hn⟩ | ⟨g, cap, cur, hv, hb, hg, hnc, hcm, hsz, ht⟩
  · cases hv
    exact .inl ⟨by rw [show m = 0 by omega], by omega⟩
  · cases hv
    refine .inr ⟨g, c, cur, rfl, hb, hg, by omega, hcm, hsz, ?_⟩
    rw [← ht, List.take_take, Nat.min_eq_left hmn]

theorem box_oth {w : World} {b : Nat} {o : Obj} (h : w.heap[b]? = some o) {p : Addr} (hp : b ≠ p.block) (u : Value) : (w.setCell p u).heap[b]? = some o := by
  rw [Below.heap_setCell _ _ _ _ hp]; exact h
theorem cellsPr_take (l : List PairD) (b : Nat) : (cellsPr l).take (b * 2) = cellsPr (l.take b) := by
  induction l generalizing b with
  | nil => simp [cellsPr]
  | cons p l ih =>
    cases b with
    | zero => simp [cellsPr]
    | succ b =>
      show (prC p ++ cellsPr l).take ((b + 1) * 2) = prC p ++ cellsPr (l.take b)
      rw [← ih, show (b + 1) * 2 = (prC p).length + b * 2 by simp [prC]; omega, List.take_length_add_append]
theorem ownsRow_cap {w : World} {base : Nat} {e : TypeId} {size n c : Nat} {a : Option Addr} {xs : List Value} (h : w.ownsRow base e size (.slice a n c) n xs) : n ≤ c ∧ c ≤ 9223372036854775807 := by
  rcases h.2 with ⟨hv, hn⟩ | ⟨g, cap, cur, hv, _, _, h1, h2, _⟩
  · cases hv; exact ⟨Nat.le_refl _, by omega⟩
  · cases hv; unfold maxLen at h2; exact ⟨h1, by omega⟩
def KnD.cut (k : KnD) : KnD := ⟨k.set, k.ps.take k.base.toNat, k.base, k.last⟩
theorem KnD.cut_tr {k : KnD} (h : k.Tr) : k.cut.Tr := by
  refine ⟨h.set, h.ps.take _, ?_⟩
  have := h.len
  show (k.ps.take k.base.toNat).length + k.c + 1 ≤ lastC k.set
  rw [List.length_take]; omega

structure FgAt (lo tb : Nat) (k : KnD) (vp vi : Value) (O : Nat → Prop) (g cap M : Nat) (w : World) (m : Nat) (xs : List Value) (wr : World) : Prop where
  ge : M ≤ m
  le : m ≤ k.tree.ns.length
  box : TrBox tb k vp (.slice (some ⟨g, 0, none⟩) k.tree.ns.length cap) vi wr
  prs : wr.ownsRow lo 149 2 vp k.ps.length (cellsPr k.ps)
  idx : wr.ownsRow lo 3 1 vi k.tree.ix.length (cellsI (k.tree.ix.map Int.ofNat))
  row : wr.ownsRow lo 141 6 (.slice (some ⟨g, 0, none⟩) k.tree.ns.length cap) k.tree.ns.length xs
  hold : HoldsN k.tree.ns m xs
  fr : Fr O w wr
def RelFg (lo tb : Nat) (k : KnD) (vp vi : Value) (O : Nat → Prop) (g cap M : Nat) (w : World) (n : Value) (wr : World) : Prop := ∃ (m : Nat) (xs : List Value), n = .int .i64 m ∧ FgAt lo tb k vp vi O g cap M w m xs wr

set_option maxRecDepth 100000 in
set_option maxHeartbeats 8000000 in
theorem forget_any (lo tb : Nat) (k : KnD) (vp vn vi : Value) (w : World) (h : TreeAt lo tb k vp vn vi w) (hk : k.Tr) (hb0 : 0 ≤ k.base) (hb1 : k.base ≤ k.ps.length) :
    Calls Tryz.prog 175  #[.pointer (some ⟨tb, 0, none⟩)] w (fun e w' => (∃ v, e = .returned v) ∧ TrPost lo tb k.cut vp vn vi w w') := by
  have cE := fun w => endI_any k.set w hk.set
  obtain ⟨b, hb⟩ : ∃ b : Nat, k.base = b := ⟨k.base.toNat, by omega⟩
  have hbl : b ≤ k.ps.length := by omega
  obtain ⟨hb2, hb3, hb4⟩ := clr_le hk.set
  have hlen := hk.len
  have hns2 : k.tree.ns.length ≤ 2000 := by have := hk.tree.hi; have := hk.c_bd; omega
  obtain ⟨t1, t2, t3, t4, t5⟩ := treeF_take hk.c_bd.2.1 hk.ps b hbl
  have hM := (treeF_ok hk.c_bd.2.1 (hk.ps.take b)).lo
  have hpar := hk.tree.par
  have hcut : Hid (k.cut.tree = treeF k.c (k.ps.take b)) := by unfold Hid KnD.cut KnD.tree; rw [hb]; rfl
  have HT := Lib.hid (And.intro t1 t2)
  have hixl : k.tree.ix.length = k.ps.length := treeF_ixl _ _
  change (treeF k.c (k.ps.take b)).ns.length ≤ k.tree.ns.length at t3
  change ∀ i, (treeF k.c (k.ps.take b)).ns.length ≤ i → i < k.tree.ns.length → (k.c : Int) + 2 + b ≤ (nodAt k.tree.ns i).cod at t4
  change ∀ i, i < (treeF k.c (k.ps.take b)).ns.length → (nodAt k.tree.ns i).cod < (k.c : Int) + 2 + b at t5
  generalize hMe : (treeF k.c (k.ps.take b)).ns.length = M at *
  have ec : k.c = clr k.set := rfl
  rw [ec] at t4 t5
  obtain ⟨c0, c1, c2, c3, c4, c5, c6, c7⟩ := h.cells
  have hfr := box_free h.box
  have htb := h.lt
  obtain ⟨g, cap, rfl, hg1, hg2, hg3, hg4, hg5, -⟩ := h.nodes hk
  obtain ⟨ap, cp, rfl⟩ := h.shape
  obtain ⟨ai, ci, rfl⟩ := ownsRow_shape h.idx
  have H := Lib.hid h
  have hlo := h.low
  obtain ⟨hcap1, hcap2⟩ := ownsRow_cap h.prs
  obtain ⟨hcap3, hcap4⟩ := ownsRow_cap h.idx
  have hcap5 : b ≤ cp := by omega
  have hcap6 : b ≤ ci := by omega
  clear hcap1 hcap3
  have hbp : (k.ps.length : Int) ≤ 2000 := by omega
  rw [hb] at c4
  clear h t1 t2
  unfold maxLen at hg2
  have hcb : (clr k.set : Int) + 1 + 1 + b = clr k.set + 2 + b := by omega
  go_enter Tryz.func175, Tryz.ntmps175
  go_wp2_with (first | ((go_at_call 70; (with_reducible refine (cE _).mono ?_); rintro e w1 ⟨rfl, U1⟩; have B1 := bcell U1; have Z1 := U1.size; (try simp at Z1); (try rw [Nat.add_one_le_iff] at Z1)); clear B1; obtain ⟨c0, c1, c2, c3, c4, c5, c6, c7⟩ := (H.out.up U1).cells; have hfr := box_free (H.out.up U1).box))
  have hT1 := H.out.up U1
  clear c0 c1 c2 c3 c4 c5 c6 c7 hfr cE
  go_loopw [4] (fun n wr => RelFg lo tb k (.slice ap k.ps.length cp) (.slice ai k.tree.ix.length ci) (Own tb (.slice ap k.ps.length cp) (.slice (some ⟨g, 0, none⟩) k.tree.ns.length cap) (.slice ai k.tree.ix.length ci)) g cap M w1 n wr) (fun n _ => (intOf n).toNat)
  case atStart => exact ⟨k.tree.ns.length, cellsN k.tree.ns, rfl, t3, Nat.le_refl _, hT1.box, hT1.prs, hT1.idx, hT1.nod, holdsN_all _, Fr.refl _ _⟩
  case round =>
    clear hT1
    obtain ⟨m, xs, rfl, hF⟩ := hrel
    have HF := Lib.hid hF
    obtain ⟨hge, hle, hbox, -, -, hrow, hhold, hfr2⟩ := hF
    obtain ⟨q, rfl⟩ : ∃ q, m = q + 1 := ⟨m - 1, by omega⟩
    obtain ⟨d0, d2, d5⟩ := hhold.cells hrow (i := q) (by omega)
    obtain ⟨c0, c1, c2, c3, c4, c5, c6, c7⟩ := hbox.cells
    have hfr := box_free hbox
    have hfg := fun j => ownsRow_free hrow j
    have htb1 := (Array.getElem?_eq_some_iff.1 hbox).1
    have hgl := (hrow.lt g rfl).2
    rw [hb] at c4
    have hq1 : (((q + 1 : Nat) : Int) - 1) = q := by omega
    by_cases hmM : q + 1 = M
    · have hc := t5 q (by omega)
      have HM := Lib.hid hmM
      clear hmM hbox hrow hhold hfr2 t4 t5
      go_wp2
      go_end0
      clear c0 c1 c2 c3 c4 c5 c6 c7 hfr d0 d2 d5 hfg hc
      have R3 : ∀ {e : TypeId} {size n : Nat} {v : Value} {ys : List Value} (x y z : Value), wr.ownsRow lo e size v n ys → 89 ≠ e → (((wr.setCell ⟨tb, 6, none⟩ x).setCell ⟨tb, 7, none⟩ y).setCell ⟨tb, 3, none⟩ z).ownsRow lo e size v n ys := fun x y z hr hne =>
        ownsRow_setb (ownsRow_setb (ownsRow_setb hr (box_ne HF.out.box hr hne) 6 x) (box_ne HF.out.box hr hne) 7 y) (box_ne HF.out.box hr hne) 3 z
      have hbl2 : (k.ps.take b).length = b := by rw [List.length_take]; omega
      have hcp : k.cut.ps = k.ps.take b := by unfold KnD.cut; rw [hb]; rfl
      have e1 := HT.out.1
      have e2 := HT.out.2
      try rw [hMe] at e1
      change (treeF k.c (k.ps.take b)).ns = k.tree.ns.take M at e1
      change (treeF k.c (k.ps.take b)).ix = k.tree.ix.take b at e2
      have hnl : (k.tree.ns.take M).length = M := by rw [List.length_take]; omega
      have hil : (k.tree.ix.take b).length = b := by rw [List.length_take]; omega
      refine ⟨⟨_, rfl⟩, .slice ap b cp, .slice (some ⟨g, 0, none⟩) M cap, .slice ai b ci, ⟨?_, hlo, ?_, ?_, ?_⟩, ?_, ?_⟩
      · rw [← HM.out]
        have hbe : (Value.int .i64 k.cut.base) = .int .i64 (b : Int) := by show (Value.int .i64 k.base) = _; rw [hb]
        exact box_set (box_set (box_set HF.out.box 6 _) 7 _) 3 _
      · rw [hcp, hbl2]
        have := R3 (.slice (some ⟨g, 0, none⟩) (q + 1) cap) (.slice ai b ci) (.slice ap b cp) (ownsRow_cut HF.out.prs hbl) (by decide)
        rw [cellsPr_take] at this
        exact this
      · rw [hcut.out, e1, hnl]
        have := R3 (.slice (some ⟨g, 0, none⟩) (q + 1) cap) (.slice ai b ci) (.slice ap b cp) (ownsRow_cut HF.out.row (m := M) (by omega)) (by decide)
        have hh := HF.out.hold
        rw [HM.out] at hh
        rw [hh.take (by omega) HF.out.row.1] at this
        exact this
      · rw [hcut.out, e2, hil]
        have := R3 (.slice (some ⟨g, 0, none⟩) (q + 1) cap) (.slice ai b ci) (.slice ap b cp) (ownsRow_cut HF.out.idx (m := b) (by omega)) (by decide)
        rw [Nat.mul_one] at this
        unfold cellsI at this ⊢
        rw [List.map_take, List.map_take]
        exact this
      · exact (((((Fr.of _ U1).trans HF.out.fr (fun _ h => .inl h)).set (p := ⟨tb, 6, none⟩) (.inl (.inl rfl)) _).set (p := ⟨tb, 7, none⟩) (.inl (.inl rfl)) _).set (p := ⟨tb, 3, none⟩) (.inl (.inl rfl)) _)
      · rintro x (h | h | h | h)
        · exact .inl (.inl h)
        · exact .inl (.inr (.inl (by cases ap <;> exact h)))
        · exact .inl (.inr (.inr (.inl h)))
        · exact .inl (.inr (.inr (.inr (by cases ai <;> exact h))))
    · have hc := t4 q (by omega) (by omega)
      obtain ⟨p, hp1, hp2⟩ := hpar q (by omega) (by omega)
      have HP3 : Hid (¬ ((p : Nat) : Int) < 0) := by unfold Hid; omega
      rw [hp1] at d0 d2
      rw [if_neg HP3.out] at d2
      clear hbox hrow hhold hfr2
      go_wp2
      clear t4 t5
      refine wp_region_upf 22 (by kernel_rfl) (by kernel_rfl) ?_
      simp only [List.take, List.drop]
      repeat (refine wpUp_step (fun K hK => ?_); go_simp; (try simp only [↓IntWalk.iteOmega]); first
        | (refine hK _ _ ?_; clear hK K)
        | (apply stepU_c
           · intro wq hwq; (have hbq := bcell hwq; (repeat (first | refine fills_no (by rfl) ?_ | refine fills_yes (by rfl) (fun vq hvq => ?_))); simp only [List.filter_nil, fills]; unfold upAt; go_simp; (try go_bits); (try simp only [↓IntWalk.iteOmega]); (try (rw [dif_pos (by omega)]; go_simp; try go_bits)); first | exact upOut_value)
           go_simp; refine hK _ _ ?_; clear hK K))
      refine wpUp_nil (fun wq hwq => ?_)
      simp only [fills]
      have hfg2 := fun j => ownsRow_free (ownsRow_up HF.out.row hwq) j
      have hcg2 := ownsRow_cell (ownsRow_up HF.out.row hwq) ((HF.out.hold p (by omega)).2.1 (by omega))
      go_wp2
      rw [onlyN_normal]
      go_wp2
      go_roundw
      case rel =>
        have hrow := ownsRow_up HF.out.row hwq
        refine ⟨q, xs.set (p * 6 + 1) (.int .i64 (lastCh k.tree.ns p q)), rfl, by omega, by omega, box_oth (box_up hwq HF.out.box) (p := ⟨g, p * 6 + 1, none⟩) (Ne.symm hg5) _, ownsRow_setb (ownsRow_up HF.out.prs hwq) (row_ne HF.out.prs HF.out.row (by decide)) _ _, ownsRow_setb (ownsRow_up HF.out.idx hwq) (row_ne HF.out.idx HF.out.row (by decide)) _ _, ownsRow_set hrow _ _, HF.out.hold.pop (by omega) hp1 hp2, (HF.out.fr.up hwq).set (p := ⟨g, p * 6 + 1, none⟩) (.inl (.inr (.inr (.inl rfl)))) _⟩
      case measure => simp [intOf]

end Go.Proofs.YtiiahjnfbhcgmaaGreatDoor
