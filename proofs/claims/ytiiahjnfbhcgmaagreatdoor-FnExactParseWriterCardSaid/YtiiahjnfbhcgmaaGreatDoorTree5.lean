/- Walk of the program's learn, which adds a pair to the tree of words. Conditions: the tree lies in memory, the pair may stand behind its pairs. -/
import Derived.Test.YtiiahjnfbhcgmaaGreatDoorTree4
import Derived.Test.YtiiahjnfbhcgmaaGreatDoorFo
namespace Go.Proofs.YtiiahjnfbhcgmaaGreatDoor
set_option linter.unusedVariables false
set_option linter.unusedSimpArgs false
open Go Go.RowKit

theorem infoNode : (Tryz.prog.info? 141).map (fun i => (i.zero, i.size, i.bytes)) = some (some (.agg #[.int .i64 0, .int .i64 0, .int .i64 0, .int .u8 0, .int .u8 0, .int .i64 0]), 6, 40) := by kernel_rfl
theorem box_oth {w : World} {b : Nat} {o : Obj} (h : w.heap[b]? = some o) {p : Addr} (hp : b ≠ p.block) (u : Value) : (w.setCell p u).heap[b]? = some o := by
  rw [Below.heap_setCell _ _ _ _ hp]; exact h
theorem ownsRow_n {w : World} {base : Nat} {e : TypeId} {size n n' : Nat} {v : Value} {xs : List Value} (h : w.ownsRow base e size v n xs) (hn : n = n') : w.ownsRow base e size v n' xs := hn ▸ h
/-- A new slice of one element, in a block that is not the row's. -/
def NewL (row : Option Nat) (T : TypeId) (cs : List Value) (v : Value) (w : World) : Prop := ∃ b, v = .slice (some ⟨b, 0, none⟩) 1 1 ∧ some b ≠ row ∧ w.heap[b]? = some (.cells cs.toArray T)
theorem newL_closed {row : Option Nat} {T : TypeId} {cs : List Value} : ∀ (v : Value) (w w' : World), NewL row T cs v w → w.grownBy w' row → NewL row T cs v w' := fun v w w' ⟨b, h1, h2, h3⟩ hg => ⟨b, h1, h2, gbox hg h3 h2⟩
theorem newL_cells {w : World} {b : Nat} {T : TypeId} {cs : List Value} (h : w.heap[b]? = some (.cells cs.toArray T)) : ∀ j u, cs[j]? = some u → w.cell? ((⟨b, 0, none⟩ : Addr).add j) = some u := by
  intro j u hu
  have hadd : (⟨b, 0, none⟩ : Addr).add j = ⟨b, j, none⟩ := by unfold Addr.add; split <;> simp_all
  rw [hadd, box_cell h]
  simpa using hu
def KnD.add (k : KnD) (p : PairD) : KnD := ⟨k.set, k.ps ++ [p], k.base, k.last⟩
theorem KnD.add_tr {k : KnD} (h : k.Tr) {p : PairD} (h1 : codeOk k.c k.ps.length p.pre = true) (h2 : 0 ≤ p.byt) (h3 : p.byt < k.c) (hn : k.next ≤ lastC k.set) : (k.add p).Tr := by
  refine ⟨h.set, h.ps.snoc h1 h2 h3, ?_⟩
  show (k.ps ++ [p]).length + k.c + 1 ≤ lastC k.set
  unfold KnD.next at hn
  simp; omega

set_option maxRecDepth 100000 in
set_option maxHeartbeats 8000000 in
theorem learnT_any (lo tb : Nat) (k : KnD) (vp vn vi : Value) (p : PairD) (w : World) (h : TreeAt lo tb k vp vn vi w) (hk : k.Tr) (hp : codeOk k.c k.ps.length p.pre = true) (hb0 : 0 ≤ p.byt) (hb1 : p.byt < k.c) (hn : k.next ≤ lastC k.set) :
    Calls Tryz.prog 174  #[.pointer (some ⟨tb, 0, none⟩), .agg #[.int .i64 p.pre, .int .i64 p.byt]] w (fun e w' => (∃ v, e = .returned v) ∧ TrPost lo tb (k.add p) vp vn vi w w') := by
  obtain ⟨iN, hiN, hzN0, hzN1, hzN2⟩ := info_parts infoNode
  obtain ⟨iP, hiP, hzP0, hzP1, hzP2⟩ := info_parts infoPair
  obtain ⟨iI, hiI, hzI0, hzI1, hzI2⟩ := info_parts infoIntG
  have cN := fun wx hT => nodeOf_any lo tb k vp vn vi p.pre wx hT hk hp
  have cC := fun wx hT P hP => child_any lo tb k vp vn vi P p.byt wx hT hk hP
  obtain ⟨hP1, -, -⟩ := hk.tree.node p.pre hp
  have hcb := hk.c_bd
  have hpw : p.byt % 256 = p.byt := by omega
  have hhi := hk.tree.hi
  have hlen := hk.len
  have htb := h.lt
  generalize hP : nodeOf k.c k.tree p.pre = P at *
  have cCP := fun wx hT => cC wx hT P hP1
  have hlo := h.low
  have HLT : Hid (∀ b, vp.ownBlock = some b → b < w.heap.size) := fun b hb => (h.prs.lt b hb).2
  clear cC
  obtain ⟨hb2, hb3, hb4⟩ := clr_le hk.set
  have hns2 : k.tree.ns.length ≤ 2000 := by unfold KnD.c at *; omega
  by_cases hf : findCh k.tree.ns P p.byt k.tree.ns.length < 0
  · go_enter Tryz.func174, Tryz.ntmps174
    go_wp2_with (first | ((go_at_call 116; (with_reducible refine (cN _ (h.up (by (repeat (first | with_reducible exact Up.refl _ | with_reducible assumption | with_reducible refine Up.set ?_ (by first | exact Nat.le_refl _ | (simp only []; omega) | (simp; omega)) _ | with_reducible refine Up.alloc ?_ _ | with_reducible refine Up.drew ?_ | refine Up.trans ?_ (by with_reducible assumption)))))).mono ?_); rintro e w1 ⟨rfl, U1⟩; have B1 := bcell U1; have Z1 := U1.size; (try simp at Z1); (try rw [Nat.add_one_le_iff] at Z1)); clear B1; have hT1 := (h.up (Up.alloc (Up.refl w) (.cells #[.int .i64 p.pre, .int .i64 p.byt] 149))).up U1; have hpb : w1.heap[w.heap.size]? = some (.cells #[.int .i64 p.pre, .int .i64 p.byt] 149) := box_up U1 (MapKept.heap_alloc w _).1; obtain ⟨c0, c1, c2, c3, c4, c5, c6, c7⟩ := hT1.cells; obtain ⟨g, cap, nx, rfl, hg1, hg2, hg3, hg4, hg5, d0, d1, d2, d3, d4, d5⟩ := hT1.node1 hk hP1; obtain ⟨ap, cp, rfl⟩ := hT1.shape; have htb1 := hT1.lt; have hpl := (Array.getElem?_eq_some_iff.1 hpb).1; have hpb0 := box_cell hpb 0; have hpb1 := box_cell hpb 1; have hfp := box_free hpb; have hft := box_free hT1.box; (simp at hpb0 hpb1)) | (go_at_call 114; (with_reducible refine (cCP _ hT1).mono ?_); rintro e w' ⟨rfl, rfl⟩))
    obtain ⟨X, hX⟩ : ∃ X : NodD, X = ⟨(P : Int), p.byt, (nodAt k.tree.ns P).fir, (k.c : Int) + 2 + k.ps.length⟩ := ⟨_, rfl⟩
    have hX2 : Hid (newC k.tree.ns X P = [.int .i64 (P : Int), .int .i64 (-1), .int .i64 (lastCh k.tree.ns P k.tree.ns.length), .int .u8 p.byt, .int .u8 (nodAt k.tree.ns P).fir, .int .i64 ((clr k.set : Int) + 2 + k.ps.length)]) := by unfold Hid; rw [hX]; rfl
    have HX := Lib.hid hX
    clear hX
    obtain ⟨W6, hW6⟩ : ∃ W, W = w1.alloc (.cells #[.int .i64 (nodAt k.tree.ns P).par, .int .i64 (lastCh k.tree.ns P k.tree.ns.length), .int .i64 nx, .int .u8 (nodAt k.tree.ns P).las, .int .u8 (nodAt k.tree.ns P).fir, .int .i64 (nodAt k.tree.ns P).cod] 141) := ⟨_, rfl⟩
    rw [← hW6]
    have hT6 := hT1.up (Up.alloc (Up.refl w1) (.cells #[.int .i64 (nodAt k.tree.ns P).par, .int .i64 (lastCh k.tree.ns P k.tree.ns.length), .int .i64 nx, .int .u8 (nodAt k.tree.ns P).las, .int .u8 (nodAt k.tree.ns P).fir, .int .i64 (nodAt k.tree.ns P).cod] 141))
    rw [← hW6] at hT6
    have hub6 : W6.heap[w1.heap.size]? = some (.cells #[.int .i64 (nodAt k.tree.ns P).par, .int .i64 (lastCh k.tree.ns P k.tree.ns.length), .int .i64 nx, .int .u8 (nodAt k.tree.ns P).las, .int .u8 (nodAt k.tree.ns P).fir, .int .i64 (nodAt k.tree.ns P).cod] 141) := by rw [hW6]; exact (MapKept.heap_alloc w1 _).1
    have hU16 : Up w1 W6 := by rw [hW6]; exact Up.alloc (Up.refl w1) _
    have hpb6 := box_up hU16 hpb
    have hU6 : Up w W6 := ((Up.alloc (Up.refl w) _).trans U1).trans hU16
    have hne1 : some tb ≠ some g := box_ne hT6.box hT6.nod (by decide)
    have hne2 : some w.heap.size ≠ some g := box_ne hpb6 hT6.nod (by decide)
    have hne3 : some w1.heap.size ≠ some g := fun e => by have := Option.some.inj e; omega
    have hz6 := hU6.size
    have hz16 := hU16.size
    have cX := fun wx => nextI_any k.set k.base k.last ap k.ps.length cp wx hk.set (by omega)
    have HT := Lib.hid (And.intro hT6 (And.intro hub6 hpb6))
    have HW := Lib.hid hW6
    have HU6 := Lib.hid hU6
    simp only [knV] at cX
    clear hT1 hpb c0 c1 c2 c3 c4 c5 c6 c7 d0 d1 d2 d3 d4 d5 hpb0 hpb1 hfp hft hT6 hub6 hpb6 U1 hW6 hU16 hU6
    refine wp_region_ownf 23 20 (some g) (by kernel_rfl) (by kernel_rfl) ?_
    simp only [List.take, List.drop]
    repeat (refine wpG_step (fun K hK => ?_); go_simp; (try simp only [↓IntWalk.iteOmega]); first
      | (refine hK _ _ ?_; clear hK K)
      | (refine stepG_own (by rfl) (by kernel_rfl) ((fun v w' => w'.ownsRow lo 141 6 v (k.tree.ns.length + 1) (cellsN k.tree.ns ++ newC k.tree.ns X P) ∧ NewOr w.heap.size (.slice (some ⟨g, 0, none⟩) k.tree.ns.length cap) v)) ((fun v w w' h hu => ⟨ownsRow_up h.1 hu, h.2⟩)) (fun wq hwq => ?_) ?_
         · ((repeat (first | refine fills_no (by rfl) ?_ | refine fills_yes (by rfl) (fun vq hvq => ?_))); simp only [List.filter_nil, fills]; (obtain ⟨bq, eqb, nb, hcb⟩ := hvq; exact gAt_append2 (.tmp 35) (.tmp 50) 86 (by rfl) lo 141 iN (.agg #[.int .i64 0, .int .i64 0, .int .i64 0, .int .u8 0, .int .u8 0, .int .i64 0]) 6 40 Tryz.underlying86 hiN hzN0 hzN1 hzN2 rfl (by decide) (.slice (some ⟨g, 0, none⟩) k.tree.ns.length cap) k.tree.ns.length (cellsN k.tree.ns) (by rfl) (ownsRow_up HT.out.1.nod hwq) ⟨bq, 0, none⟩ 1 1 (newC k.tree.ns X P) (by exact eqb) rfl (newL_cells hcb) (newC_one _ _ _) (by unfold maxLen; omega) (by omega) (by have := hwq.size; omega) w.heap.size (by have := hwq.size; omega) _ rfl))
         refine hK _ _ ?_; clear hK K)
      | (refine stepG_c (by rfl) ?_ ?_ ?_
         rotate_left
         · intro wq hwq; (have hbq := gcell hwq; (repeat (first | refine fills_no (by rfl) ?_ | refine fills_yes (by rfl) (fun vq hvq => ?_))); simp only [List.filter_nil, fills]; unfold upAt; (try ((obtain ⟨c0, c1, c2, c3, c4, c5, c6, c7⟩ := TrBox.cells (gbox hwq HT.out.1.box hne1); have e1 := box_cell (gbox hwq HT.out.2.1 hne3) 1; have e4 := box_cell (gbox hwq HT.out.2.1 hne3) 4; have p1 := box_cell (gbox hwq HT.out.2.2 hne2) 1; simp at e1 e4 p1))); go_simp; (try go_bits); (try simp only [↓IntWalk.iteOmega]); (try (rw [dif_pos (by omega)]; go_simp; try go_bits)); first | exact upOut_value | (apply upOut_call; (go_at_call 117; exact cX _)) | (apply upOut_eq; (go_at_call 117; exact cX _)))
         go_simp; refine hK _ _ ?_; clear hK K)
      | (refine stepG_m (by rfl) (by kernel_rfl) (NewL (some g) 141 (newC k.tree.ns X P)) (newL_closed) (fun wq hwq => ?_) ?_
         · (have hbq := gcell hwq; (repeat (first | refine fills_no (by rfl) ?_ | refine fills_yes (by rfl) (fun vq hvq => ?_))); simp only [List.filter_nil, fills]; unfold upAt; (try ((obtain ⟨c0, c1, c2, c3, c4, c5, c6, c7⟩ := TrBox.cells (gbox hwq HT.out.1.box hne1); have e1 := box_cell (gbox hwq HT.out.2.1 hne3) 1; have e4 := box_cell (gbox hwq HT.out.2.1 hne3) 4; have p1 := box_cell (gbox hwq HT.out.2.2 hne2) 1; simp at e1 e4 p1))); go_simp; (try go_bits); (try simp only [↓IntWalk.iteOmega]); (try (rw [dif_pos (by omega)]; go_simp; try go_bits)); (rw [hX2.out]; exact upOut_make ((Up.refl _).alloc _) ⟨_, rfl, own_ne HT.out.1.nod hwq.size, (MapKept.heap_alloc _ _).1⟩))
         refine hK _ _ ?_; clear hK K))
    refine wpG_nil (by rfl) (fun wq hwq => ?_)
    simp only [fills]
    rintro v20 ⟨hv20, hnew⟩ v19 -
    rcases ownsRow_read hv20 with ⟨_, e20⟩ | ⟨g2, cap2, rfl, h21, h22, h23, h24, -⟩
    · omega
    have hbox : TrBox tb k (.slice ap k.ps.length cp) (.slice (some ⟨g, 0, none⟩) k.tree.ns.length cap) vi wq := gbox hwq HT.out.1.box hne1
    have hprs := HT.out.1.prs.kept hwq (ownsRow_ne HT.out.1.prs HT.out.1.nod (by decide))
    have hidx := HT.out.1.idx.kept hwq (ownsRow_ne HT.out.1.idx HT.out.1.nod (by decide))
    have hpb := gbox hwq HT.out.2.2 hne2
    have hFr : Fr (Own tb (.slice ap k.ps.length cp) (.slice (some ⟨g, 0, none⟩) k.tree.ns.length cap) vi) w wq := (Fr.of _ HU6.out).gr hwq (fun b hb => .inl (.inr (.inr (.inl hb))))
    have hne20 : ¬ g2 = tb := fun e => box_ne hbox hv20 (by decide) (by rw [e]; rfl)
    have hne21 : ¬ tb = g2 := fun e => hne20 e.symm
    have hne22 : ¬ w.heap.size = g2 := fun e => box_ne hpb hv20 (by decide) (by rw [e]; rfl)
    obtain ⟨c0, c1, c2, c3, c4, c5, c6, c7⟩ := hbox.cells
    have hfb := box_free hbox
    have f2 := ownsRow_free hv20 (P * 6 + 1)
    have f3 : wq.cell? ⟨g2, P * 6 + 1, none⟩ = some (.int .i64 (lastCh k.tree.ns P k.tree.ns.length)) := ownsRow_cell hv20 (by rw [List.getElem?_append_left (by rw [cellsN_length]; omega)]; exact cellsN_get _ hP1 (j := 1) (by omega))
    have htb2 := (Array.getElem?_eq_some_iff.1 hbox).1
    have hpl2 := (Array.getElem?_eq_some_iff.1 hpb).1
    have hwz := hwq.size
    have hpar : ∀ i, i < k.tree.ns.length → (nodAt k.tree.ns i).par < (k.tree.ns.length : Int) := fun i hi => by
      rcases Nat.lt_or_ge i k.c with h1 | h1
      · rw [hk.tree.lit i h1]; simp only []; omega
      · obtain ⟨q, e1, e2⟩ := hk.tree.par i h1 hi
        omega
    obtain ⟨W7, hW7⟩ : ∃ W, W = (wq.setCell ⟨tb, 6, none⟩ (.slice (some ⟨g2, 0, none⟩) (k.tree.ns.length + 1) cap2)).setCell ⟨g2, P * 6 + 1, none⟩ (.int .i64 k.tree.ns.length) := ⟨_, rfl⟩
    have hbox7 : TrBox tb k (.slice ap k.ps.length cp) (.slice (some ⟨g2, 0, none⟩) (k.tree.ns.length + 1) cap2) vi W7 := by rw [hW7]; exact box_oth (box_set hbox 6 (.slice (some ⟨g2, 0, none⟩) (k.tree.ns.length + 1) cap2)) (p := ⟨g2, P * 6 + 1, none⟩) hne21 _
    have hprs7 := ownsRow_setb (ownsRow_setb hprs (box_ne hbox hprs (by decide)) 6 (.slice (some ⟨g2, 0, none⟩) (k.tree.ns.length + 1) cap2)) (b := g2) (row_ne hprs hv20 (by decide)) (P * 6 + 1) (.int .i64 k.tree.ns.length)
    have hidx7 := ownsRow_setb (ownsRow_setb hidx (box_ne hbox hidx (by decide)) 6 (.slice (some ⟨g2, 0, none⟩) (k.tree.ns.length + 1) cap2)) (b := g2) (row_ne hidx hv20 (by decide)) (P * 6 + 1) (.int .i64 k.tree.ns.length)
    have hnod7 := ownsRow_set (ownsRow_setb hv20 (box_ne hbox hv20 (by decide)) 6 (.slice (some ⟨g2, 0, none⟩) (k.tree.ns.length + 1) cap2)) (P * 6 + 1) (.int .i64 k.tree.ns.length)
    rw [cellsN_snoc (by rw [HX.out]) hP1 hpar] at hnod7
    have hnod7 := ownsRow_n hnod7 (show k.tree.ns.length + 1 = (k.tree.ns ++ [X]).length from by rw [List.length_append]; rfl)
    have hpb7 := box_oth (box_oth hpb (p := ⟨tb, 6, none⟩) (Nat.ne_of_gt htb) (.slice (some ⟨g2, 0, none⟩) (k.tree.ns.length + 1) cap2)) (p := ⟨g2, P * 6 + 1, none⟩) hne22 (.int .i64 k.tree.ns.length)
    have hfr7 := (hFr.set (p := ⟨tb, 6, none⟩) (.inl (.inl rfl)) (.slice (some ⟨g2, 0, none⟩) (k.tree.ns.length + 1) cap2)).set (p := ⟨g2, P * 6 + 1, none⟩) ((hnew g2 rfl).imp (fun h => .inr (.inr (.inl h))) id) (.int .i64 k.tree.ns.length)
    rw [← hW7] at hprs7 hidx7 hnod7 hpb7 hfr7
    have HNE : Hid (¬ some w.heap.size = Value.ownBlock (.slice ap k.ps.length cp)) := fun e => by have := HLT.out _ e.symm; omega
    have HS7 := Lib.hid (And.intro hbox7 (And.intro hprs7 (And.intro hidx7 (And.intro hnod7 (And.intro hpb7 (And.intro hfr7 hnew))))))
    have HW7 := Lib.hid hW7
    have hz76 : wq.heap.size = W7.heap.size := by rw [hW7]; simp [World.setCell]
    have HTR : Hid ((k.add p).tree = ⟨k.tree.ns ++ [X], k.tree.ix ++ [k.tree.ns.length]⟩) := by
      unfold Hid
      show treeF k.c (k.ps ++ [p]) = _
      rw [treeF_snoc]
      have h1 := learnT_new (c := k.c) (t := k.tree) (p := p) (by rw [hP]; exact hf)
      have h2 : k.tree.ix.length = k.ps.length := treeF_ixl _ _
      rw [hP, h2, ← HX.out] at h1
      exact h1
    clear hbox hprs hidx hpb hFr hv20 hwq HT HU6 HW hW7 hbox7 hprs7 hidx7 hnod7 hpb7 hfr7
    unfold maxLen at h22
    go_wp2
    rw [onlyN_normal]
    obtain ⟨ai, ci, rfl⟩ := ownsRow_shape HS7.out.2.2.1
    obtain ⟨c0, c1, c2, c3, c4, c5, c6, c7⟩ := HS7.out.1.cells
    have hfb := box_free HS7.out.1
    have htb7 := (Array.getElem?_eq_some_iff.1 HS7.out.1).1
    have hz7 := HS7.out.2.2.2.2.2.1.size
    have hne71 : Hid (some tb ≠ Value.ownBlock (.slice ai k.tree.ix.length ci)) := box_ne HS7.out.1 HS7.out.2.2.1 (by decide)
    have hne72 : Hid (some w.heap.size ≠ Value.ownBlock (.slice ai k.tree.ix.length ci)) := box_ne HS7.out.2.2.2.2.1 HS7.out.2.2.1 (by decide)
    have hixl : Hid (k.tree.ix.length = k.ps.length) := treeF_ixl _ _
    have hixl2 : k.tree.ix.length ≤ 2000 := by rw [hixl.out]; omega
    go_wp2_with (at_builtin; rw [← HW7.out]; refine wpList_append2 rfl _ _ 87 rfl lo 3 iI (.int .i64 0) 1 8 Tryz.underlying87 hiI hzI0 hzI1 hzI2 rfl (by decide) _ _ _ rfl (HS7.out.2.2.1.alloc _) ⟨W7.heap.size, 0, none⟩ 1 1 [.int .i64 ((k.tree.ns.length : Int))] rfl rfl (new_cells [.int .i64 ((k.tree.ns.length : Int))] _ rfl) (by intro u hu; simp at hu; subst hu; rfl) (by unfold maxLen; omega) (by omega) (by simp; omega) ?_; rintro v8 W8 hv8 hg8 hn8; obtain ⟨a8, c8, rfl⟩ := ownsRow_shape hv8; obtain ⟨c0, c1, c2, c3, c4, c5, c6, c7⟩ := TrBox.cells (gbox hg8 (box_up ((Up.refl _).alloc _) HS7.out.1) hne71.out); have hfb := box_free (gbox hg8 (box_up ((Up.refl _).alloc _) HS7.out.1) hne71.out); have HV8 := Lib.hid (And.intro hv8 (And.intro hg8 hn8)); clear hv8 hg8 hn8)
    have hU78 := Up.alloc (Up.refl W7) (.cells #[.int .i64 ((k.tree.ns.length : Int))] 3)
    have hbox8 : TrBox tb k (.slice ap k.ps.length cp) (.slice (some ⟨g2, 0, none⟩) (k.tree.ns.length + 1) cap2) (.slice ai k.tree.ix.length ci) W8 := gbox HV8.out.2.1 (box_up hU78 HS7.out.1) hne71.out
    have hprs8 := (ownsRow_up HS7.out.2.1 hU78).kept HV8.out.2.1 (ownsRow_ne HS7.out.2.1 HS7.out.2.2.1 (by decide))
    have hnod8 := (ownsRow_up HS7.out.2.2.2.1 hU78).kept HV8.out.2.1 (ownsRow_ne HS7.out.2.2.2.1 HS7.out.2.2.1 (by decide))
    have hpb8 := gbox HV8.out.2.1 (box_up hU78 HS7.out.2.2.2.2.1) hne72.out
    have hfr8 := (HS7.out.2.2.2.2.2.1.up hU78).gr HV8.out.2.1 (fun b hb => .inl (.inr (.inr (.inr hb))))
    obtain ⟨W9, hW9⟩ : ∃ W, W = W8.setCell ⟨tb, 7, none⟩ (.slice a8 (k.tree.ix.length + 1) c8) := ⟨_, rfl⟩
    rw [← hW9]
    have hbox9 : TrBox tb k (.slice ap k.ps.length cp) (.slice (some ⟨g2, 0, none⟩) (k.tree.ns.length + 1) cap2) (.slice a8 (k.tree.ix.length + 1) c8) W9 := by rw [hW9]; exact box_set hbox8 7 (.slice a8 (k.tree.ix.length + 1) c8)
    have hprs9 := ownsRow_setb hprs8 (box_ne hbox8 hprs8 (by decide)) 7 (.slice a8 (k.tree.ix.length + 1) c8)
    have hnod9 := ownsRow_setb hnod8 (box_ne hbox8 hnod8 (by decide)) 7 (.slice a8 (k.tree.ix.length + 1) c8)
    have hidx9 := ownsRow_setb HV8.out.1 (box_ne hbox8 HV8.out.1 (by decide)) 7 (.slice a8 (k.tree.ix.length + 1) c8)
    have hpb9 := box_oth hpb8 (p := ⟨tb, 7, none⟩) (Nat.ne_of_gt htb) (.slice a8 (k.tree.ix.length + 1) c8)
    have hfr9 := hfr8.set (p := ⟨tb, 7, none⟩) (.inl (.inl rfl)) (.slice a8 (k.tree.ix.length + 1) c8)
    rw [← hW9] at hprs9 hnod9 hidx9 hpb9 hfr9
    have hnw9 : NewOr w.heap.size (.slice ai k.tree.ix.length ci) (.slice a8 (k.tree.ix.length + 1) c8) := fun b hb => (HV8.out.2.2 b hb).imp id (fun h => by have := hU78.size; omega)
    have HS9 := Lib.hid (And.intro hbox9 (And.intro hprs9 (And.intro hidx9 (And.intro hnod9 (And.intro hpb9 (And.intro hfr9 hnw9))))))
    have hne91 : Hid (some tb ≠ Value.ownBlock (.slice ap k.ps.length cp)) := box_ne hbox9 hprs9 (by decide)
    have hne92 : Hid (some w.heap.size ≠ Value.ownBlock (.slice ap k.ps.length cp)) := fun e => HNE.out e
    have hz9 := hfr9.size
    clear hbox8 hprs8 hnod8 hpb8 hfr8 hbox9 hprs9 hnod9 hidx9 hpb9 hfr9 hnw9 hW9 c0 c1 c2 c3 c4 c5 c6 c7 hfb hU78 HV8
    refine wp_region_ownf 12 8 (Value.ownBlock (.slice ap k.ps.length cp)) (by kernel_rfl) (by kernel_rfl) ?_
    simp only [List.take, List.drop]
    repeat (refine wpG_step (fun K hK => ?_); go_simp; (try simp only [↓IntWalk.iteOmega]); first
      | (refine hK _ _ ?_; clear hK K)
      | (refine stepG_own (by rfl) (by kernel_rfl) ((fun v w' => w'.ownsRow lo 149 2 v (k.ps.length + 1) (cellsPr k.ps ++ prC p) ∧ NewOr w.heap.size (.slice ap k.ps.length cp) v)) ((fun v w w' h hu => ⟨ownsRow_up h.1 hu, h.2⟩)) (fun wq hwq => ?_) ?_
         · ((repeat (first | refine fills_no (by rfl) ?_ | refine fills_yes (by rfl) (fun vq hvq => ?_))); simp only [List.filter_nil, fills]; (obtain ⟨bq, eqb, nb, hcb⟩ := hvq; exact gAt_append2 (.tmp 77) (.tmp 79) 25 (by rfl) lo 149 iP (.agg #[.int .i64 0, .int .i64 0]) 2 16 Tryz.underlying25 hiP hzP0 hzP1 hzP2 rfl (by decide) (.slice ap k.ps.length cp) k.ps.length (cellsPr k.ps) (by rfl) (ownsRow_up HS9.out.2.1 hwq) ⟨bq, 0, none⟩ 1 1 (prC p) (by exact eqb) rfl (newL_cells hcb) (prC_one _) (by unfold maxLen; omega) (by omega) (by have := hwq.size; omega) w.heap.size (by have := hwq.size; omega) _ rfl))
         refine hK _ _ ?_; clear hK K)
      | (refine stepG_c (by rfl) ?_ ?_ ?_
         rotate_left
         · intro wq hwq; (have hbq := gcell hwq; (repeat (first | refine fills_no (by rfl) ?_ | refine fills_yes (by rfl) (fun vq hvq => ?_))); simp only [List.filter_nil, fills]; unfold upAt; (try ((obtain ⟨c0, c1, c2, c3, c4, c5, c6, c7⟩ := TrBox.cells (gbox hwq HS9.out.1 hne91.out); have p0 := box_cell (gbox hwq HS9.out.2.2.2.2.1 hne92.out) 0; have p1 := box_cell (gbox hwq HS9.out.2.2.2.2.1 hne92.out) 1; simp at p0 p1))); go_simp; (try go_bits); (try simp only [↓IntWalk.iteOmega]); (try (rw [dif_pos (by omega)]; go_simp; try go_bits)); first | exact upOut_value)
         go_simp; refine hK _ _ ?_; clear hK K)
      | (refine stepG_m (by rfl) (by kernel_rfl) (NewL (Value.ownBlock (.slice ap k.ps.length cp)) 149 (prC p)) (newL_closed) (fun wq hwq => ?_) ?_
         · (have hbq := gcell hwq; (repeat (first | refine fills_no (by rfl) ?_ | refine fills_yes (by rfl) (fun vq hvq => ?_))); simp only [List.filter_nil, fills]; unfold upAt; (try ((obtain ⟨c0, c1, c2, c3, c4, c5, c6, c7⟩ := TrBox.cells (gbox hwq HS9.out.1 hne91.out); have p0 := box_cell (gbox hwq HS9.out.2.2.2.2.1 hne92.out) 0; have p1 := box_cell (gbox hwq HS9.out.2.2.2.2.1 hne92.out) 1; simp at p0 p1))); go_simp; (try go_bits); (try simp only [↓IntWalk.iteOmega]); (try (rw [dif_pos (by omega)]; go_simp; try go_bits)); (exact upOut_make ((Up.refl _).alloc _) ⟨_, rfl, own_ne HS9.out.2.1 hwq.size, (MapKept.heap_alloc _ _).1⟩))
         refine hK _ _ ?_; clear hK K))
    refine wpG_nil (by rfl) (fun wq hwq => ?_)
    simp only [fills]
    rintro v80 ⟨hv80, hn80⟩ v79 -
    obtain ⟨a80, c80, rfl⟩ := ownsRow_shape hv80
    have hbox10 : TrBox tb k (.slice ap k.ps.length cp) (.slice (some ⟨g2, 0, none⟩) (k.tree.ns.length + 1) cap2) (.slice a8 (k.tree.ix.length + 1) c8) wq := gbox hwq HS9.out.1 hne91.out
    have hnod10 := HS9.out.2.2.2.1.kept hwq (ownsRow_ne HS9.out.2.2.2.1 HS9.out.2.1 (by decide))
    have hidx10 := HS9.out.2.2.1.kept hwq (ownsRow_ne HS9.out.2.2.1 HS9.out.2.1 (by decide))
    have hfr10 := HS9.out.2.2.2.2.2.1.gr hwq (fun b hb => .inl (.inr (.inl hb)))
    obtain ⟨c0, c1, c2, c3, c4, c5, c6, c7⟩ := hbox10.cells
    have hfb := box_free hbox10
    have HF := Lib.hid (And.intro hbox10 (And.intro hnod10 (And.intro hidx10 (And.intro hfr10 (And.intro hv80 hn80)))))
    clear hbox10 hnod10 hidx10 hfr10 hv80 hn80 hwq
    go_wp2
    rw [onlyN_normal]
    go_wp2
    go_end0
    refine ⟨⟨_, rfl⟩, (.slice a80 (k.ps.length + 1) c80), .slice (some ⟨g2, 0, none⟩) (k.tree.ns.length + 1) cap2, (.slice a8 (k.tree.ix.length + 1) c8), ⟨?_, hlo, ?_, ?_, ?_⟩, ?_, ?_⟩
    · exact box_set HF.out.1 3 (.slice a80 (k.ps.length + 1) c80)
    · have := ownsRow_setb HF.out.2.2.2.2.1 (box_ne HF.out.1 HF.out.2.2.2.2.1 (by decide)) 3 (.slice a80 (k.ps.length + 1) c80)
      rw [← cellsPr_snoc] at this
      exact ownsRow_n this (by show k.ps.length + 1 = (k.ps ++ [p]).length; simp)
    · have := ownsRow_setb HF.out.2.1 (box_ne HF.out.1 HF.out.2.1 (by decide)) 3 (.slice a80 (k.ps.length + 1) c80)
      rw [HTR.out]
      exact this
    · have := ownsRow_setb HF.out.2.2.1 (box_ne HF.out.1 HF.out.2.2.1 (by decide)) 3 (.slice a80 (k.ps.length + 1) c80)
      rw [HTR.out]
      simpa [cellsI] using this
    · exact HF.out.2.2.2.1.set (p := ⟨tb, 3, none⟩) (.inl (.inl rfl)) (.slice a80 (k.ps.length + 1) c80)
    · rintro b (rfl | hb | hb | hb)
      · exact .inl (.inl rfl)
      · rcases HF.out.2.2.2.2.2 b hb with h | h
        · exact .inl (.inr (.inl h))
        · exact .inr h
      · rcases HS7.out.2.2.2.2.2.2 b hb with h | h
        · exact .inl (.inr (.inr (.inl h)))
        · exact .inr h
      · rcases HS9.out.2.2.2.2.2.2 b hb with h | h
        · exact .inl (.inr (.inr (.inr h)))
        · exact .inr h
    
  · obtain ⟨j, hj, hje⟩ : ∃ j : Nat, j < k.tree.ns.length ∧ findCh k.tree.ns P p.byt k.tree.ns.length = j := by
      rcases findCh_cases k.tree.ns P p.byt k.tree.ns.length with ⟨h1, _⟩ | ⟨j, h1, h2, _⟩
      · omega
      · exact ⟨j, h1, h2⟩
    have HTR : Hid ((k.add p).tree = ⟨k.tree.ns, k.tree.ix ++ [j]⟩) := by
      unfold Hid
      show treeF k.c (k.ps ++ [p]) = _
      rw [treeF_snoc]
      have h1 := learnT_old (c := k.c) (t := k.tree) (p := p) (by rw [hP]; exact hf)
      rw [hP, hje] at h1
      exact h1
    simp only [hje] at cCP
    clear hf hje
    go_enter Tryz.func174, Tryz.ntmps174
    go_wp2_with (first | ((go_at_call 116; (with_reducible refine (cN _ (h.up (by (repeat (first | with_reducible exact Up.refl _ | with_reducible assumption | with_reducible refine Up.set ?_ (by first | exact Nat.le_refl _ | (simp only []; omega) | (simp; omega)) _ | with_reducible refine Up.alloc ?_ _ | with_reducible refine Up.drew ?_ | refine Up.trans ?_ (by with_reducible assumption)))))).mono ?_); rintro e w1 ⟨rfl, U1⟩; have B1 := bcell U1; have Z1 := U1.size; (try simp at Z1); (try rw [Nat.add_one_le_iff] at Z1)); clear B1; have hT1 := (h.up (Up.alloc (Up.refl w) (.cells #[.int .i64 p.pre, .int .i64 p.byt] 149))).up U1; have hpb : w1.heap[w.heap.size]? = some (.cells #[.int .i64 p.pre, .int .i64 p.byt] 149) := box_up U1 (MapKept.heap_alloc w _).1; obtain ⟨ap, cp, rfl⟩ := hT1.shape; have hpb0 := box_cell hpb 0; have hpb1 := box_cell hpb 1; have hfp := box_free hpb; have hpl := (Array.getElem?_eq_some_iff.1 hpb).1; (simp at hpb0 hpb1)) | fail)
    (with_reducible refine (cCP _ hT1).mono ?_); rintro e w' ⟨rfl, rfl⟩
    have hfr7 : Fr (Own tb (.slice ap k.ps.length cp) vn vi) w w1 := (Fr.of _ ((Up.alloc (Up.refl w) _).trans U1))
    have hnew : NewOr w.heap.size vn vn := fun b hb => .inl hb
    have HNE : Hid (¬ some w.heap.size = Value.ownBlock (.slice ap k.ps.length cp)) := fun e => by have := HLT.out _ e.symm; omega
    have HS7 := Lib.hid (And.intro hT1.box (And.intro hT1.prs (And.intro hT1.idx (And.intro hT1.nod (And.intro hpb (And.intro hfr7 hnew))))))
    clear hT1 hpb U1 hpb0 hpb1 hfp hfr7 hnew
    obtain ⟨ai, ci, rfl⟩ := ownsRow_shape HS7.out.2.2.1
    obtain ⟨c0, c1, c2, c3, c4, c5, c6, c7⟩ := HS7.out.1.cells
    have hfb := box_free HS7.out.1
    have htb7 := (Array.getElem?_eq_some_iff.1 HS7.out.1).1
    have hz7 := HS7.out.2.2.2.2.2.1.size
    have hne71 : Hid (some tb ≠ Value.ownBlock (.slice ai k.tree.ix.length ci)) := box_ne HS7.out.1 HS7.out.2.2.1 (by decide)
    have hne72 : Hid (some w.heap.size ≠ Value.ownBlock (.slice ai k.tree.ix.length ci)) := box_ne HS7.out.2.2.2.2.1 HS7.out.2.2.1 (by decide)
    have hixl : Hid (k.tree.ix.length = k.ps.length) := treeF_ixl _ _
    have hixl2 : k.tree.ix.length ≤ 2000 := by rw [hixl.out]; omega
    go_wp2_with (at_builtin; skip; refine wpList_append2 rfl _ _ 87 rfl lo 3 iI (.int .i64 0) 1 8 Tryz.underlying87 hiI hzI0 hzI1 hzI2 rfl (by decide) _ _ _ rfl (HS7.out.2.2.1.alloc _) ⟨w1.heap.size, 0, none⟩ 1 1 [.int .i64 ((j : Int))] rfl rfl (new_cells [.int .i64 ((j : Int))] _ rfl) (by intro u hu; simp at hu; subst hu; rfl) (by unfold maxLen; omega) (by omega) (by simp; omega) ?_; rintro v8 W8 hv8 hg8 hn8; obtain ⟨a8, c8, rfl⟩ := ownsRow_shape hv8; obtain ⟨c0, c1, c2, c3, c4, c5, c6, c7⟩ := TrBox.cells (gbox hg8 (box_up ((Up.refl _).alloc _) HS7.out.1) hne71.out); have hfb := box_free (gbox hg8 (box_up ((Up.refl _).alloc _) HS7.out.1) hne71.out); have HV8 := Lib.hid (And.intro hv8 (And.intro hg8 hn8)); clear hv8 hg8 hn8)
    have hU78 := Up.alloc (Up.refl w1) (.cells #[.int .i64 ((j : Int))] 3)
    have hbox8 : TrBox tb k (.slice ap k.ps.length cp) (vn) (.slice ai k.tree.ix.length ci) W8 := gbox HV8.out.2.1 (box_up hU78 HS7.out.1) hne71.out
    have hprs8 := (ownsRow_up HS7.out.2.1 hU78).kept HV8.out.2.1 (ownsRow_ne HS7.out.2.1 HS7.out.2.2.1 (by decide))
    have hnod8 := (ownsRow_up HS7.out.2.2.2.1 hU78).kept HV8.out.2.1 (ownsRow_ne HS7.out.2.2.2.1 HS7.out.2.2.1 (by decide))
    have hpb8 := gbox HV8.out.2.1 (box_up hU78 HS7.out.2.2.2.2.1) hne72.out
    have hfr8 := (HS7.out.2.2.2.2.2.1.up hU78).gr HV8.out.2.1 (fun b hb => .inl (.inr (.inr (.inr hb))))
    obtain ⟨W9, hW9⟩ : ∃ W, W = W8.setCell ⟨tb, 7, none⟩ (.slice a8 (k.tree.ix.length + 1) c8) := ⟨_, rfl⟩
    rw [← hW9]
    have hbox9 : TrBox tb k (.slice ap k.ps.length cp) (vn) (.slice a8 (k.tree.ix.length + 1) c8) W9 := by rw [hW9]; exact box_set hbox8 7 (.slice a8 (k.tree.ix.length + 1) c8)
    have hprs9 := ownsRow_setb hprs8 (box_ne hbox8 hprs8 (by decide)) 7 (.slice a8 (k.tree.ix.length + 1) c8)
    have hnod9 := ownsRow_setb hnod8 (box_ne hbox8 hnod8 (by decide)) 7 (.slice a8 (k.tree.ix.length + 1) c8)
    have hidx9 := ownsRow_setb HV8.out.1 (box_ne hbox8 HV8.out.1 (by decide)) 7 (.slice a8 (k.tree.ix.length + 1) c8)
    have hpb9 := box_oth hpb8 (p := ⟨tb, 7, none⟩) (Nat.ne_of_gt htb) (.slice a8 (k.tree.ix.length + 1) c8)
    have hfr9 := hfr8.set (p := ⟨tb, 7, none⟩) (.inl (.inl rfl)) (.slice a8 (k.tree.ix.length + 1) c8)
    rw [← hW9] at hprs9 hnod9 hidx9 hpb9 hfr9
    have hnw9 : NewOr w.heap.size (.slice ai k.tree.ix.length ci) (.slice a8 (k.tree.ix.length + 1) c8) := fun b hb => (HV8.out.2.2 b hb).imp id (fun h => by have := hU78.size; omega)
    have HS9 := Lib.hid (And.intro hbox9 (And.intro hprs9 (And.intro hidx9 (And.intro hnod9 (And.intro hpb9 (And.intro hfr9 hnw9))))))
    have hne91 : Hid (some tb ≠ Value.ownBlock (.slice ap k.ps.length cp)) := box_ne hbox9 hprs9 (by decide)
    have hne92 : Hid (some w.heap.size ≠ Value.ownBlock (.slice ap k.ps.length cp)) := fun e => HNE.out e
    have hz9 := hfr9.size
    clear hbox8 hprs8 hnod8 hpb8 hfr8 hbox9 hprs9 hnod9 hidx9 hpb9 hfr9 hnw9 hW9 c0 c1 c2 c3 c4 c5 c6 c7 hfb hU78 HV8
    refine wp_region_ownf 12 8 (Value.ownBlock (.slice ap k.ps.length cp)) (by kernel_rfl) (by kernel_rfl) ?_
    simp only [List.take, List.drop]
    repeat (refine wpG_step (fun K hK => ?_); go_simp; (try simp only [↓IntWalk.iteOmega]); first
      | (refine hK _ _ ?_; clear hK K)
      | (refine stepG_own (by rfl) (by kernel_rfl) ((fun v w' => w'.ownsRow lo 149 2 v (k.ps.length + 1) (cellsPr k.ps ++ prC p) ∧ NewOr w.heap.size (.slice ap k.ps.length cp) v)) ((fun v w w' h hu => ⟨ownsRow_up h.1 hu, h.2⟩)) (fun wq hwq => ?_) ?_
         · ((repeat (first | refine fills_no (by rfl) ?_ | refine fills_yes (by rfl) (fun vq hvq => ?_))); simp only [List.filter_nil, fills]; (obtain ⟨bq, eqb, nb, hcb⟩ := hvq; exact gAt_append2 (.tmp 77) (.tmp 79) 25 (by rfl) lo 149 iP (.agg #[.int .i64 0, .int .i64 0]) 2 16 Tryz.underlying25 hiP hzP0 hzP1 hzP2 rfl (by decide) (.slice ap k.ps.length cp) k.ps.length (cellsPr k.ps) (by rfl) (ownsRow_up HS9.out.2.1 hwq) ⟨bq, 0, none⟩ 1 1 (prC p) (by exact eqb) rfl (newL_cells hcb) (prC_one _) (by unfold maxLen; omega) (by omega) (by have := hwq.size; omega) w.heap.size (by have := hwq.size; omega) _ rfl))
         refine hK _ _ ?_; clear hK K)
      | (refine stepG_c (by rfl) ?_ ?_ ?_
         rotate_left
         · intro wq hwq; (have hbq := gcell hwq; (repeat (first | refine fills_no (by rfl) ?_ | refine fills_yes (by rfl) (fun vq hvq => ?_))); simp only [List.filter_nil, fills]; unfold upAt; (try ((obtain ⟨c0, c1, c2, c3, c4, c5, c6, c7⟩ := TrBox.cells (gbox hwq HS9.out.1 hne91.out); have p0 := box_cell (gbox hwq HS9.out.2.2.2.2.1 hne92.out) 0; have p1 := box_cell (gbox hwq HS9.out.2.2.2.2.1 hne92.out) 1; simp at p0 p1))); go_simp; (try go_bits); (try simp only [↓IntWalk.iteOmega]); (try (rw [dif_pos (by omega)]; go_simp; try go_bits)); first | exact upOut_value)
         go_simp; refine hK _ _ ?_; clear hK K)
      | (refine stepG_m (by rfl) (by kernel_rfl) (NewL (Value.ownBlock (.slice ap k.ps.length cp)) 149 (prC p)) (newL_closed) (fun wq hwq => ?_) ?_
         · (have hbq := gcell hwq; (repeat (first | refine fills_no (by rfl) ?_ | refine fills_yes (by rfl) (fun vq hvq => ?_))); simp only [List.filter_nil, fills]; unfold upAt; (try ((obtain ⟨c0, c1, c2, c3, c4, c5, c6, c7⟩ := TrBox.cells (gbox hwq HS9.out.1 hne91.out); have p0 := box_cell (gbox hwq HS9.out.2.2.2.2.1 hne92.out) 0; have p1 := box_cell (gbox hwq HS9.out.2.2.2.2.1 hne92.out) 1; simp at p0 p1))); go_simp; (try go_bits); (try simp only [↓IntWalk.iteOmega]); (try (rw [dif_pos (by omega)]; go_simp; try go_bits)); (exact upOut_make ((Up.refl _).alloc _) ⟨_, rfl, own_ne HS9.out.2.1 hwq.size, (MapKept.heap_alloc _ _).1⟩))
         refine hK _ _ ?_; clear hK K))
    refine wpG_nil (by rfl) (fun wq hwq => ?_)
    simp only [fills]
    rintro v80 ⟨hv80, hn80⟩ v79 -
    obtain ⟨a80, c80, rfl⟩ := ownsRow_shape hv80
    have hbox10 : TrBox tb k (.slice ap k.ps.length cp) (vn) (.slice a8 (k.tree.ix.length + 1) c8) wq := gbox hwq HS9.out.1 hne91.out
    have hnod10 := HS9.out.2.2.2.1.kept hwq (ownsRow_ne HS9.out.2.2.2.1 HS9.out.2.1 (by decide))
    have hidx10 := HS9.out.2.2.1.kept hwq (ownsRow_ne HS9.out.2.2.1 HS9.out.2.1 (by decide))
    have hfr10 := HS9.out.2.2.2.2.2.1.gr hwq (fun b hb => .inl (.inr (.inl hb)))
    obtain ⟨c0, c1, c2, c3, c4, c5, c6, c7⟩ := hbox10.cells
    have hfb := box_free hbox10
    have HF := Lib.hid (And.intro hbox10 (And.intro hnod10 (And.intro hidx10 (And.intro hfr10 (And.intro hv80 hn80)))))
    clear hbox10 hnod10 hidx10 hfr10 hv80 hn80 hwq
    go_wp2
    rw [onlyN_normal]
    go_wp2
    go_end0
    refine ⟨⟨_, rfl⟩, (.slice a80 (k.ps.length + 1) c80), vn, (.slice a8 (k.tree.ix.length + 1) c8), ⟨?_, hlo, ?_, ?_, ?_⟩, ?_, ?_⟩
    · exact box_set HF.out.1 3 (.slice a80 (k.ps.length + 1) c80)
    · have := ownsRow_setb HF.out.2.2.2.2.1 (box_ne HF.out.1 HF.out.2.2.2.2.1 (by decide)) 3 (.slice a80 (k.ps.length + 1) c80)
      rw [← cellsPr_snoc] at this
      exact ownsRow_n this (by show k.ps.length + 1 = (k.ps ++ [p]).length; simp)
    · have := ownsRow_setb HF.out.2.1 (box_ne HF.out.1 HF.out.2.1 (by decide)) 3 (.slice a80 (k.ps.length + 1) c80)
      rw [HTR.out]
      exact this
    · have := ownsRow_setb HF.out.2.2.1 (box_ne HF.out.1 HF.out.2.2.1 (by decide)) 3 (.slice a80 (k.ps.length + 1) c80)
      rw [HTR.out]
      simpa [cellsI] using this
    · exact HF.out.2.2.2.1.set (p := ⟨tb, 3, none⟩) (.inl (.inl rfl)) (.slice a80 (k.ps.length + 1) c80)
    · rintro b (rfl | hb | hb | hb)
      · exact .inl (.inl rfl)
      · rcases HF.out.2.2.2.2.2 b hb with h | h
        · exact .inl (.inr (.inl h))
        · exact .inr h
      · rcases HS7.out.2.2.2.2.2.2 b hb with h | h
        · exact .inl (.inr (.inr (.inl h)))
        · exact .inr h
      · rcases HS9.out.2.2.2.2.2.2 b hb with h | h
        · exact .inl (.inr (.inr (.inr h)))
        · exact .inr h
    
end Go.Proofs.YtiiahjnfbhcgmaaGreatDoor
