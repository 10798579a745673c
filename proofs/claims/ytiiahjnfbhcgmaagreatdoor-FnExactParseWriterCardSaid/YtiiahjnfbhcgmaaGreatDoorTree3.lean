/- The program's tree of words in memory; walks of the functions that only read it. Conditions: the tree lies in memory (TreeAt). -/
import Derived.Test.YtiiahjnfbhcgmaaGreatDoorImps
import Derived.Test.YtiiahjnfbhcgmaaGreatDoorTrs
namespace Go.Proofs.YtiiahjnfbhcgmaaGreatDoor
set_option linter.unusedVariables false
set_option linter.unusedSimpArgs false
open Go Go.RowKit

/-- A node's cells, its links among the first m nodes. -/
def nodC (ns : List NodD) (m i : Nat) : List Value :=
  [.int .i64 (nodAt ns i).par, .int .i64 (lastCh ns i m), .int .i64 (if (nodAt ns i).par < 0 then -1 else lastCh ns (nodAt ns i).par i), .int .u8 (nodAt ns i).las, .int .u8 (nodAt ns i).fir, .int .i64 (nodAt ns i).cod]
def cellsN (ns : List NodD) : List Value := (List.range ns.length).flatMap (nodC ns ns.length)
theorem flat_len {α : Type} (f : α → List Value) (k : Nat) (h : ∀ a, (f a).length = k) (l : List α) : (l.flatMap f).length = l.length * k := by
  induction l with
  | nil => simp
  | cons a l ih => rw [List.flatMap_cons, List.length_append, ih, h, List.length_cons, Nat.add_mul]; omega
theorem flat_get {α : Type} (f : α → List Value) (k : Nat) (h : ∀ a, (f a).length = k) (l : List α) (i j : Nat) (a : α) (ha : l[i]? = some a) (hj : j < k) : (l.flatMap f)[i * k + j]? = (f a)[j]? := by
  induction l generalizing i with
  | nil => simp at ha
  | cons b l ih =>
    rw [List.flatMap_cons]
    cases i with
    | zero =>
      simp at ha; subst ha
      rw [List.getElem?_append_left (by rw [h]; omega)]
      simp
    | succ i =>
      rw [List.getElem?_append_right (by rw [h, Nat.add_mul]; omega), h, ← ih i (by simpa using ha)]
      congr 1
      rw [Nat.add_mul]; omega
theorem nodC_length (ns : List NodD) (m i : Nat) : (nodC ns m i).length = 6 := rfl
theorem cellsN_length (ns : List NodD) : (cellsN ns).length = ns.length * 6 := by
  unfold cellsN; rw [flat_len _ 6 (nodC_length ns ns.length)]; simp
theorem cellsN_get (ns : List NodD) {i j : Nat} (hi : i < ns.length) (hj : j < 6) : (cellsN ns)[i * 6 + j]? = (nodC ns ns.length i)[j]? :=
  flat_get _ 6 (nodC_length ns ns.length) _ i j i (by simp [hi]) hj

/-- The tree's own block: what is known, the row of nodes, the row of the pairs' nodes. -/
def TrBox (tb : Nat) (k : KnD) (vp vn vi : Value) (w : World) : Prop := w.heap[tb]? = some (.cells #[.int .i64 k.set.ord, .int .i64 k.set.lit, .int .i64 k.set.most, vp, .int .i64 k.base, .int .i64 k.last, vn, vi] 89)
/-- The tree of what is known lies in the block tb; all its memory from lo on. -/
structure TreeAt (lo tb : Nat) (k : KnD) (vp vn vi : Value) (w : World) : Prop where
  box : TrBox tb k vp vn vi w
  low : lo ≤ tb
  prs : w.ownsRow lo 149 2 vp k.ps.length (cellsPr k.ps)
  nod : w.ownsRow lo 141 6 vn k.tree.ns.length (cellsN k.tree.ns)
  idx : w.ownsRow lo 3 1 vi k.tree.ix.length (cellsI (k.tree.ix.map Int.ofNat))
/-- What holds of a known thing of which a tree is made: its pairs may stand where they stand. -/
structure KnD.Tr (k : KnD) : Prop where
  set : setOk k.set = true
  ps : PrsOk k.c k.ps
  len : k.ps.length + k.c + 1 ≤ lastC k.set
theorem KnD.Ok.tr {k : KnD} (h : k.Ok) : k.Tr := ⟨h.set, h.ps, h.len⟩
theorem KnD.Tr.c_bd {k : KnD} (h : k.Tr) : 2 ≤ k.c ∧ k.c ≤ 256 ∧ 4 * k.c ≤ lastC k.set + 1 ∧ lastC k.set ≤ 1023 := clr_bd h.set
theorem KnD.Tr.tree {k : KnD} (h : k.Tr) : TrOk k.c k.ps k.tree := treeF_ok h.c_bd.2.1 h.ps
theorem TreeAt.up {lo tb : Nat} {k : KnD} {vp vn vi : Value} {w w' : World} (h : TreeAt lo tb k vp vn vi w) (hu : Up w w') : TreeAt lo tb k vp vn vi w' :=
  ⟨box_up hu h.box, h.low, ownsRow_up h.prs hu, ownsRow_up h.nod hu, ownsRow_up h.idx hu⟩
theorem TreeAt.lt {lo tb : Nat} {k : KnD} {vp vn vi : Value} {w : World} (h : TreeAt lo tb k vp vn vi w) : tb < w.heap.size := (Array.getElem?_eq_some_iff.1 h.box).1
theorem TreeAt.shape {lo tb : Nat} {k : KnD} {vp vn vi : Value} {w : World} (h : TreeAt lo tb k vp vn vi w) : ∃ a c, vp = .slice a k.ps.length c := by
  rcases h.prs.2 with ⟨rfl, e⟩ | ⟨g, cap, cur, rfl, _⟩
  · exact ⟨_, _, by rw [e]⟩
  · exact ⟨_, _, rfl⟩
theorem TreeAt.cells {lo tb : Nat} {k : KnD} {vp vn vi : Value} {w : World} (h : TreeAt lo tb k vp vn vi w) :
    w.cell? ⟨tb, 0, none⟩ = some (.int .i64 k.set.ord) ∧ w.cell? ⟨tb, 1, none⟩ = some (.int .i64 k.set.lit) ∧ w.cell? ⟨tb, 2, none⟩ = some (.int .i64 k.set.most) ∧ w.cell? ⟨tb, 3, none⟩ = some vp ∧ w.cell? ⟨tb, 4, none⟩ = some (.int .i64 k.base) ∧ w.cell? ⟨tb, 5, none⟩ = some (.int .i64 k.last) ∧ w.cell? ⟨tb, 6, none⟩ = some vn ∧ w.cell? ⟨tb, 7, none⟩ = some vi :=
  ⟨box_cell h.box 0, box_cell h.box 1, box_cell h.box 2, box_cell h.box 3, box_cell h.box 4, box_cell h.box 5, box_cell h.box 6, box_cell h.box 7⟩
/-- The nodes' row: where it lies, and what it holds. -/
theorem TreeAt.nodes {lo tb : Nat} {k : KnD} {vp vn vi : Value} {w : World} (h : TreeAt lo tb k vp vn vi w) (hk : k.Tr) : ∃ g cap, vn = .slice (some ⟨g, 0, none⟩) k.tree.ns.length cap ∧ k.tree.ns.length ≤ cap ∧ cap ≤ maxLen ∧ lo ≤ g ∧ g < w.heap.size ∧ g ≠ tb ∧
    ∀ i, i < k.tree.ns.length → w.cell? ⟨g, i * 6, none⟩ = some (.int .i64 (nodAt k.tree.ns i).par) ∧ w.cell? ⟨g, i * 6 + 1, none⟩ = some (.int .i64 (lastCh k.tree.ns i k.tree.ns.length)) ∧ w.cell? ⟨g, i * 6 + 2, none⟩ = some (.int .i64 (if (nodAt k.tree.ns i).par < 0 then -1 else lastCh k.tree.ns (nodAt k.tree.ns i).par i)) ∧
      w.cell? ⟨g, i * 6 + 3, none⟩ = some (.int .u8 (nodAt k.tree.ns i).las) ∧ w.cell? ⟨g, i * 6 + 4, none⟩ = some (.int .u8 (nodAt k.tree.ns i).fir) ∧ w.cell? ⟨g, i * 6 + 5, none⟩ = some (.int .i64 (nodAt k.tree.ns i).cod) := by
  have hlo := hk.tree.lo
  have hc := hk.c_bd
  rcases ownsRow_read h.nod with ⟨_, h2⟩ | ⟨g, cap, rfl, h1, h2, h3, h4, h5⟩
  · omega
  · refine ⟨g, cap, rfl, h1, h2, h3, h4, fun e => box_ne h.box h.nod (by decide) (by rw [e]; rfl), fun i hi => ?_⟩
    have c0 := cellsN_get k.tree.ns hi (j := 0) (by omega)
    exact ⟨h5 _ _ (by have := cellsN_get k.tree.ns hi (j := 0) (by omega); rw [Nat.add_zero] at this; exact this), h5 _ _ (cellsN_get _ hi (j := 1) (by omega)), h5 _ _ (cellsN_get _ hi (j := 2) (by omega)), h5 _ _ (cellsN_get _ hi (j := 3) (by omega)), h5 _ _ (cellsN_get _ hi (j := 4) (by omega)), h5 _ _ (cellsN_get _ hi (j := 5) (by omega))⟩
theorem TreeAt.index {lo tb : Nat} {k : KnD} {vp vn vi : Value} {w : World} (h : TreeAt lo tb k vp vn vi w) : ∃ a cap, vi = .slice a k.ps.length cap ∧ k.ps.length ≤ maxLen ∧ (0 < k.ps.length → ∃ g, a = some ⟨g, 0, none⟩ ∧ k.ps.length ≤ cap ∧ cap ≤ maxLen ∧ lo ≤ g ∧ g < w.heap.size ∧ g ≠ tb ∧
    ∀ i, i < k.ps.length → w.cell? ⟨g, i, none⟩ = some (.int .i64 (k.tree.ix.getD i 0 : Nat))) := by
  have hl : k.tree.ix.length = k.ps.length := treeF_ixl _ _
  obtain ⟨a, cap, e, h1, h2⟩ := ownsRow_any h.idx
  rw [hl] at e h1 h2
  refine ⟨a, cap, e, h1, fun hp => ?_⟩
  obtain ⟨g, rfl, h3, h4, h5, h6, h7⟩ := h2 hp
  refine ⟨g, rfl, h3, h4, h5, h6, fun eg => box_ne h.box h.idx (by decide) (by rw [e, eg]; rfl), fun i hi => ?_⟩
  refine h7 i _ ?_
  have : i < k.tree.ix.length := by omega
  simp [cellsI, this]

set_option maxRecDepth 100000 in
set_option maxHeartbeats 1000000 in
theorem nodeOf_any (lo tb : Nat) (k : KnD) (vp vn vi : Value) (x : Int) (w : World) (h : TreeAt lo tb k vp vn vi w) (hk : k.Tr) (hx : codeOk k.c k.ps.length x = true) :
    Calls Tryz.prog 116  #[.pointer (some ⟨tb, 0, none⟩), .int .i64 x] w (Same (.int .i64 (nodeOf k.c k.tree x : Nat)) w) := by
  have cE := fun w => endI_any k.set w hk.set
  obtain ⟨c0, c1, c2, c3, c4, c5, c6, c7⟩ := h.cells
  have hfr := box_free h.box
  have htb := h.lt
  obtain ⟨a, cap, rfl, hm, hsome⟩ := h.index
  obtain ⟨hb1, hb2, hb3⟩ := clr_le hk.set
  have ec : k.c = clr k.set := rfl
  have hlen := hk.len
  have hcx := codeOk_iff.1 hx
  unfold nodeOf
  rw [ec] at *
  by_cases hxc : x < clr k.set
  · rw [if_pos hxc]
    have h0 : 0 ≤ x := by omega
    have e : ((x.toNat : Nat) : Int) = x := by omega
    rw [e]
    clear hsome
    go_enter Tryz.func116, Tryz.ntmps116
    go_wp2_with ((go_at_call 70; (with_reducible refine (cE _).mono ?_); rintro e w1 ⟨rfl, U1⟩; have B1 := bcell U1; have Z1 := U1.size; (try simp at Z1); (try rw [Nat.add_one_le_iff] at Z1)))
    go_ret
    exact ⟨rfl, by (repeat (first | with_reducible exact Up.refl _ | with_reducible assumption | with_reducible refine Up.set ?_ (by first | exact Nat.le_refl _ | (simp only []; omega) | (simp; omega)) _ | with_reducible refine Up.alloc ?_ _ | with_reducible refine Up.drew ?_ | refine Up.trans ?_ (by with_reducible assumption)))⟩
  · rw [if_neg hxc]
    obtain ⟨i, rfl⟩ : ∃ i : Nat, x = (clr k.set : Int) + 2 + i := ⟨(x - clr k.set - 2).toNat, by omega⟩
    have hi : i < k.ps.length := by omega
    obtain ⟨g, rfl, h1, h2, h3, h4, h5, h6⟩ := hsome (by omega)
    have d0 := h6 i hi
    have e : ((clr k.set : Int) + 2 + i).toNat - (clr k.set + 2) = i := by omega
    rw [e]
    clear hsome h6 hcx hx
    generalize k.tree.ix.getD i 0 = r at *
    generalize clr k.set = c at *
    unfold maxLen at h2
    have e1 : ((c : Int) + 2 + i - (c + 1) - 1) = i := by omega
    go_enter Tryz.func116, Tryz.ntmps116
    go_wp2_with ((go_at_call 70; (with_reducible refine (cE _).mono ?_); rintro e w1 ⟨rfl, U1⟩; have B1 := bcell U1; have Z1 := U1.size; (try simp at Z1); (try rw [Nat.add_one_le_iff] at Z1)); have d1 := (U1.cell (p := ⟨g, i, none⟩) h4).trans d0)
    go_ret
    exact ⟨rfl, by (repeat (first | with_reducible exact Up.refl _ | with_reducible assumption | with_reducible refine Up.set ?_ (by first | exact Nat.le_refl _ | (simp only []; omega) | (simp; omega)) _ | with_reducible refine Up.alloc ?_ _ | with_reducible refine Up.drew ?_ | refine Up.trans ?_ (by with_reducible assumption)))⟩

def RelCh (ns : List NodD) (p : Nat) (b : Int) (w : World) (n : Value) (wr : World) : Prop := ∃ m : Nat, m ≤ ns.length ∧ n = .int .i64 (lastCh ns p m) ∧ findCh ns p b m = findCh ns p b ns.length ∧ w = wr

set_option maxRecDepth 100000 in
set_option maxHeartbeats 1000000 in
theorem child_any (lo tb : Nat) (k : KnD) (vp vn vi : Value) (p : Nat) (b : Int) (w : World) (h : TreeAt lo tb k vp vn vi w) (hk : k.Tr) (hp : p < k.tree.ns.length) :
    Calls Tryz.prog 114  #[.pointer (some ⟨tb, 0, none⟩), .int .i64 p, .int .u8 b] w (fun e w' => e = .returned (.int .i64 (findCh k.tree.ns p b k.tree.ns.length)) ∧ w = w') := by
  obtain ⟨c0, c1, c2, c3, c4, c5, c6, c7⟩ := h.cells
  have hfr := box_free h.box
  have htb := h.lt
  obtain ⟨g, cap, rfl, h1, h2, h3, h4, h5, h6⟩ := h.nodes hk
  obtain ⟨hb1, hb2, hb3⟩ := clr_le hk.set
  have hhi := hk.tree.hi
  have hlen := hk.len
  have hns : k.tree.ns.length ≤ 2000 := by unfold KnD.c at *; omega
  clear hhi hlen hk h
  unfold maxLen at h2
  generalize k.tree.ns = ns at *
  have hp0 := (h6 p hp).2.1
  go_enter Tryz.func114, Tryz.ntmps114
  go_wp2
  go_loopw [7] (fun n wr => RelCh ns p b w n wr) (fun n _ => (intOf n + 1).toNat)
  case atStart => exact ⟨ns.length, Nat.le_refl _, rfl, rfl, rfl⟩
  case round =>
    obtain ⟨m, hm, rfl, hf, rfl⟩ := hrel
    have HF := Lib.hid hf
    clear hf
    rcases lastCh_cases ns p m with ⟨hl, -⟩ | ⟨j, hj, hl, hpj, -⟩
    · have HE := Lib.hid (find_none_last hl b)
      rw [hl]
      go_wp2
      go_ret
      exact ⟨ret_int (by rw [← HF.out, HE.out]), rfl⟩
    · have HL := Lib.hid (find_last hl b)
      obtain ⟨d0, d1, d2, d3, d4, d5⟩ := h6 j (by omega)
      have hjn : j < ns.length := by omega
      have hpn : ¬ (nodAt ns j).par < 0 := by omega
      rw [if_neg hpn, hpj] at d2
      rw [hl]
      by_cases hb : (nodAt ns j).las = b
      · rw [hb] at d3
        go_wp2
        go_ret
        exact ⟨ret_int (by rw [← HF.out, HL.out, if_pos hb]), rfl⟩
      · have hbd := lastCh_bd ns p j
        have HB := Lib.hid hb
        go_wp2
        go_roundw
        case rel => exact ⟨j, by omega, rfl, by rw [← HF.out, HL.out, if_neg hb], rfl⟩
        case measure => simp [intOf]; omega

end Go.Proofs.YtiiahjnfbhcgmaaGreatDoor
