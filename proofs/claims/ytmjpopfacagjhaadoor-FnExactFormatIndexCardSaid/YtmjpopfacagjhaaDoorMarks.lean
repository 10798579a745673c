/- Walks of the laws' own functions on slices of places and of blocks: marks, and the look at them. Conditions: the rows are owned; the numbers are small. -/
import Derived.Test.YtmjpopfacagjhaaDoorEqs
namespace Go.Proofs.YtmjpopfacagjhaaDoor
set_option linter.unusedVariables false
set_option linter.unusedSimpArgs false
open Go.RowKit

/-- The text of a mark. -/
def mtLoop (k : Nat) (out : ByteArray) : ByteArray := if h : 0 < k then mtLoop (k / 10) (strOfNums [48 + (k % 10 : Nat)] ++ out) else out
  termination_by k
  decreasing_by omega
theorem mt_step {k : Nat} {out : ByteArray} (h : 0 < k) : mtLoop (k / 10) (strOfNums [48 + (k % 10 : Nat)] ++ out) = mtLoop k out := by
  conv => rhs; rw [mtLoop]
  rw [dif_pos h]
theorem mt_end {k : Nat} {out : ByteArray} (h : ¬ 0 < k) : mtLoop k out = out := by rw [mtLoop, dif_neg h]
def markT (k : Int) : ByteArray := ⟨#[109]⟩ ++ mtLoop k.toNat ByteArray.empty

def RelMT (k0 : Nat) (w : World) (k out : Value) (wr : World) : Prop := ∃ (j : Nat) (o : ByteArray), k = .int .i64 j ∧ out = .string o ∧ j + o.size ≤ k0 ∧ mtLoop j o = mtLoop k0 ByteArray.empty ∧ Up w wr

theorem set2 (A B : List Value) (c d x y : Value) (m : Nat) (h : A.length = m) : ((A ++ ([c, d] ++ B)).set m x).set (m + 1) y = A ++ ([x, y] ++ B) := by
  subst h
  rw [List.set_append_right _ _ (Nat.le_refl _), List.set_append_right _ _ (by omega)]
  simp
theorem set4 (A B : List Value) (c d e f x y z u : Value) (m : Nat) (h : A.length = m) : ((((A ++ ([c, d, e, f] ++ B)).set m x).set (m + 1) y).set (m + 2) z).set (m + 3) u = A ++ ([x, y, z, u] ++ B) := by
  subst h
  rw [List.set_append_right _ _ (Nat.le_refl _), List.set_append_right _ _ (by omega), List.set_append_right _ _ (by omega), List.set_append_right _ _ (by omega)]
  simp

def mkP (K : Int) : PlaceD := ⟨K, K + 1⟩
def marksP (k : Int) (n : Nat) : List PlaceD := (List.range n).map fun (i : Nat) => mkP (k + 2 * (i : Int))
theorem marksP_length (k : Int) (n : Nat) : (marksP k n).length = n := by simp [marksP]
theorem marksP_get (k : Int) (n i : Nat) (h : i < n) : (marksP k n)[i]'(by rw [marksP_length]; exact h) = mkP (k + 2 * i) := by simp [marksP]
def midP (k : Int) (l : List PlaceD) (i : Nat) : List PlaceD := marksP k i ++ l.drop i
theorem midP_zero (k : Int) (l : List PlaceD) : midP k l 0 = l := by simp [midP, marksP]
theorem midP_all (k : Int) (l : List PlaceD) : midP k l l.length = marksP k l.length := by simp [midP]
theorem midP_len (k : Int) (l : List PlaceD) (i : Nat) (h : i ≤ l.length) : (midP k l i).length = l.length := by simp [midP, marksP_length]; omega
theorem midP_cells (k : Int) (l : List PlaceD) (i : Nat) (h : i < l.length) : cellsP (midP k l i) = cellsP (marksP k i) ++ (plcC l[i] ++ cellsP (l.drop (i + 1))) := by
  rw [midP, List.drop_eq_getElem_cons h]; simp only [cellsP, List.flatMap_append, List.flatMap_cons]
theorem midP_next (k : Int) (l : List PlaceD) (i : Nat) (h : i < l.length) : cellsP (midP k l (i + 1)) = cellsP (marksP k i) ++ (plcC (mkP (k + 2 * i)) ++ cellsP (l.drop (i + 1))) := by
  have e1 : marksP k (i + 1) = marksP k i ++ [mkP (k + 2 * (i : Int))] := by simp [marksP, List.range_succ]
  rw [midP, e1]; simp only [cellsP, List.flatMap_append, List.flatMap_cons, List.flatMap_nil, List.append_nil, List.append_assoc]
theorem midP_at (k : Int) (l : List PlaceD) (i : Nat) (h : i < l.length) : (midP k l i)[i]? = some l[i] := by
  rw [midP, List.getElem?_append_right (by rw [marksP_length]; exact Nat.le_refl _), marksP_length, Nat.sub_self, List.getElem?_drop, Nat.add_zero, List.getElem?_eq_getElem h]

def RelMP (k0 : Int) (l : List PlaceD) (base : Nat) (v : Value) (w : World) (k i : Value) (wr : World) : Prop := ∃ j : Nat, j ≤ l.length ∧ i = .int .i64 j ∧ k = .int .i64 (k0 + 2 * j) ∧ wr.ownsRow base 34 2 v l.length (cellsP (midP k0 l j)) ∧ w.grownBy wr v.ownBlock

def RelHP (k0 : Int) (n : Nat) (w : World) (k i : Value) (wr : World) : Prop := ∃ j : Nat, j ≤ n ∧ i = .int .i64 j ∧ k = .int .i64 (k0 + 2 * j) ∧ Up w wr

theorem blk_cellsQ {w : World} {l : List BlkD} {g : Nat} (hc : ∀ j u, (cellsB l)[j]? = some u → w.cell? ⟨g, j, none⟩ = some u) {k : Nat} {b : BlkD} (hb : l[k]? = some b) :
    w.cell? ⟨g, k * 4, none⟩ = some (.int .i64 b.num) ∧ w.cell? ⟨g, k * 4 + 1, none⟩ = some (.bool b.raw) ∧ w.cell? ⟨g, k * 4 + 2, none⟩ = some (.int .i64 b.size) ∧ w.cell? ⟨g, k * 4 + 3, none⟩ = some (.string b.body) :=
  ⟨hc _ _ (cellsB_get l k 0 _ hb (by omega)), hc _ _ (cellsB_get l k 1 _ hb (by omega)), hc _ _ (cellsB_get l k 2 _ hb (by omega)), hc _ _ (cellsB_get l k 3 _ hb (by omega))⟩
theorem size_set (w : World) (a : Addr) (u : Value) : (w.setCell a u).heap.size = w.heap.size := by simp [World.setCell]

def mkBm (K : Int) : BlkD := ⟨K, ((K + 1) % 3 == 0), K + 1 + 1, markT (K + 1 + 1 + 1)⟩
def marksB (k : Int) (n : Nat) : List BlkD := (List.range n).map fun (i : Nat) => mkBm (k + 4 * (i : Int))
theorem marksB_length (k : Int) (n : Nat) : (marksB k n).length = n := by simp [marksB]
theorem marksB_get (k : Int) (n i : Nat) (h : i < n) : (marksB k n)[i]'(by rw [marksB_length]; exact h) = mkBm (k + 4 * i) := by simp [marksB]
def midB (k : Int) (l : List BlkD) (i : Nat) : List BlkD := marksB k i ++ l.drop i
theorem midB_zero (k : Int) (l : List BlkD) : midB k l 0 = l := by simp [midB, marksB]
theorem midB_all (k : Int) (l : List BlkD) : midB k l l.length = marksB k l.length := by simp [midB]
theorem midB_len (k : Int) (l : List BlkD) (i : Nat) (h : i ≤ l.length) : (midB k l i).length = l.length := by simp [midB, marksB_length]; omega
theorem midB_cells (k : Int) (l : List BlkD) (i : Nat) (h : i < l.length) : cellsB (midB k l i) = cellsB (marksB k i) ++ (blkC l[i] ++ cellsB (l.drop (i + 1))) := by
  rw [midB, List.drop_eq_getElem_cons h]; simp only [cellsB, List.flatMap_append, List.flatMap_cons]
theorem midB_next (k : Int) (l : List BlkD) (i : Nat) (h : i < l.length) : cellsB (midB k l (i + 1)) = cellsB (marksB k i) ++ (blkC (mkBm (k + 4 * i)) ++ cellsB (l.drop (i + 1))) := by
  have e1 : marksB k (i + 1) = marksB k i ++ [mkBm (k + 4 * (i : Int))] := by simp [marksB, List.range_succ]
  rw [midB, e1]; simp only [cellsB, List.flatMap_append, List.flatMap_cons, List.flatMap_nil, List.append_nil, List.append_assoc]
theorem midB_at (k : Int) (l : List BlkD) (i : Nat) (h : i < l.length) : (midB k l i)[i]? = some l[i] := by
  rw [midB, List.getElem?_append_right (by rw [marksB_length]; exact Nat.le_refl _), marksB_length, Nat.sub_self, List.getElem?_drop, Nat.add_zero, List.getElem?_eq_getElem h]

def RelMB (k0 : Int) (l : List BlkD) (base : Nat) (v : Value) (w : World) (k i : Value) (wr : World) : Prop := ∃ j : Nat, j ≤ l.length ∧ i = .int .i64 j ∧ k = .int .i64 (k0 + 4 * j) ∧ wr.ownsRow base 94 4 v l.length (cellsB (midB k0 l j)) ∧ w.grownBy wr v.ownBlock

def RelHB (k0 : Int) (n : Nat) (w : World) (k i : Value) (wr : World) : Prop := ∃ j : Nat, j ≤ n ∧ i = .int .i64 j ∧ k = .int .i64 (k0 + 4 * j) ∧ Up w wr

end Go.Proofs.YtmjpopfacagjhaaDoor
