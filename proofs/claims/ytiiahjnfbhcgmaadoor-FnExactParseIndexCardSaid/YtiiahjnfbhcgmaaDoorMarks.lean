/- Walks of the laws' own functions on slices of places and of blocks: marks, and the look at them. Conditions: the rows are owned; the numbers are small. -/
import Derived.Test.YtiiahjnfbhcgmaaDoorEqs
namespace Go.Proofs.YtiiahjnfbhcgmaaDoor
set_option linter.unusedVariables false
set_option linter.unusedSimpArgs false
open Go.RowKit

/-- The text of a mark. -/
def mtLoop (k : Nat) (out : ByteArray) : ByteArray := if h : 0 < k then mtLoop (k / 10) (strOfNums [48 + (k % 10 : Nat)] ++ out) else out
  termination_by k
  decreasing_by omega
theorem mt_step {k : Nat} {out : ByteArray} (h : 0 < k) : mtLoop (k / 10) (strOfNums [48 + (k % 10 : Nat)] ++ out) = mtLoop k out := by
  conv => rhs; rw [mtLoop]
  rw [dif_pos h]
theorem mt_end {k : Nat} {out : ByteArray} (h : ¬ 0 < k) : mtLoop k out = out := by rw [mtLoop, dif_neg h]
def markT (k : Int) : ByteArray := ⟨#[109]⟩ ++ mtLoop k.toNat ByteArray.empty

def RelMT (k0 : Nat) (w : World) (k out : Value) (wr : World) : Prop := ∃ (j : Nat) (o : ByteArray), k = .int .i64 j ∧ out = .string o ∧ j + o.size ≤ k0 ∧ mtLoop j o = mtLoop k0 ByteArray.empty ∧ Up w wr

theorem set2 (A B : List Value) (c d x y : Value) (m : Nat) (h : A.length = m) : ((A ++ ([c, d] ++ B)).set m x).set (m + 1) y = A ++ ([x, y] ++ B) := by
  subst h
  rw [List.set_append_right _ _ (Nat.le_refl _), List.set_append_right _ _ (by omega)]
  simp
theorem set4 (A B : List Value) (c d e f x y z u : Value) (m : Nat) (h : A.length = m) : ((((A ++ ([c, d, e, f] ++ B)).set m x).set (m + 1) y).set (m + 2) z).set (m + 3) u = A ++ ([x, y, z, u] ++ B) := by
  subst h
  rw [List.set_append_right _ _ (Nat.le_refl _), List.set_append_right _ _ (by omega), List.set_append_right _ _ (by omega), List.set_append_right _ _ (by omega)]
  simp

def mkP (K : Int) : PlaceD := ⟨K, K + 1⟩
def marksP (k : Int) (n : Nat) : List PlaceD := (List.range n).map fun (i : Nat) => mkP (k + 2 * (i : Int))
theorem marksP_length (k : Int) (n : Nat) : (marksP k n).length = n := by simp [marksP]
theorem marksP_get (k : Int) (n i : Nat) (h : i < n) : (marksP k n)[i]'(by rw [marksP_length]; exact h) = mkP (k + 2 * i) := by simp [marksP]
def midP (k : Int) (l : List PlaceD) (i : Nat) : List PlaceD := marksP k i ++ l.drop i
theorem midP_zero (k : Int) (l : List PlaceD) : midP k l 0 = l := by simp [midP, marksP]
theorem midP_all (k : Int) (l : List PlaceD) : midP k l l.length = marksP k l.length := by simp [midP]
theorem midP_len (k : Int) (l : List PlaceD) (i : Nat) (h : i ≤ l.length) : (midP k l i).length = l.length := by simp [midP, marksP_length]; omega
theorem midP_cells (k : Int) (l : List PlaceD) (i : Nat) (h : i < l.length) : cellsP (midP k l i) = cellsP (marksP k i) ++ (plcC l[i] ++ cellsP (l.drop (i + 1))) := by
  rw [midP, List.drop_eq_getElem_cons h]; simp only [cellsP, List.flatMap_append, List.flatMap_cons]
theorem midP_next (k : Int) (l : List PlaceD) (i : Nat) (h : i < l.length) : cellsP (midP k l (i + 1)) = cellsP (marksP k i) ++ (plcC (mkP (k + 2 * i)) ++ cellsP (l.drop (i + 1))) := by
  have e1 : marksP k (i + 1) = marksP k i ++ [mkP (k + 2 * (i : Int))] := by simp [marksP, List.range_succ]
  rw [midP, e1]; simp only [cellsP, List.flatMap_append, List.flatMap_cons, List.flatMap_nil, List.append_nil, List.append_assoc]
theorem midP_at (k : Int) (l : List PlaceD) (i : Nat) (h : i < l.length) : (midP k l i)[i]? = some l[i] := by
  rw [midP, List.getElem?_append_right (by rw [marksP_length]; exact Nat.le_refl _), marksP_length, Nat.sub_self, List.getElem?_drop, Nat.add_zero, List.getElem?_eq_getElem h]

def RelMP (k0 : Int) (l : List PlaceD) (base : Nat) (v : Value) (w : World) (k i : Value) (wr : World) : Prop := ∃ j : Nat, j ≤ l.length ∧ i = .int .i64 j ∧ k = .int .i64 (k0 + 2 * j) ∧ wr.ownsRow base 52 2 v l.length (cellsP (midP k0 l j)) ∧ w.grownBy wr v.ownBlock

set_option maxRecDepth 100000 in
set_option maxHeartbeats 2000000 in
theorem markPS_any (l : List PlaceD) (v : Value) (base : Nat) (k0 : Int) (w : World) (h0 : 0 ≤ k0) (h1 : k0 ≤ 1048576) (hn : l.length ≤ 1048576) (hown : w.ownsRow base 52 2 v l.length (cellsP l)) :
    Calls Tryd.prog 22 #[v, .int .i64 k0] w (fun e w' => e = .returned (.int .i64 (k0 + 2 * l.length)) ∧ w'.ownsRow base 52 2 v l.length (cellsP (marksP k0 l.length)) ∧ w.grownBy w' v.ownBlock) := by
  obtain ⟨a, ca, rfl, hm, -⟩ := ownsRow_any hown
  go_enter Tryd.func22, Tryd.ntmps22
  go_wp2
  go_loopw [1, 5] (fun k i wr => RelMP k0 l base (.slice a l.length ca) w k i wr) (fun _ i _ => l.length - (intOf i).toNat)
  case atStart => exact ⟨0, Nat.zero_le _, rfl, by rw [Int.natCast_zero, Int.mul_zero, Int.add_zero], by rw [midP_zero]; exact hown, grownBy_refl _ _⟩
  case round =>
    obtain ⟨j, hj, rfl, rfl, ho, hg⟩ := hrel
    by_cases hlt : j < l.length
    · obtain ⟨g, rfl, hc1, hc2, -, hgl⟩ := ownsRow_slot ho (by omega)
      obtain ⟨c0, c1⟩ := plc_cells (read_cells ho) (midP_at k0 l j hlt)
      have f0 := ownsRow_free ho (j * 2); have f1 := ownsRow_free ho (j * 2 + 1)
      have HN := Lib.hid (midP_next k0 l j hlt)
      have HC := Lib.hid (midP_cells k0 l j hlt)
      generalize hK : k0 + 2 * (j : Int) = K at *
      have hK0 : 0 ≤ K := by omega
      have hK1 : K ≤ 8388608 := by omega
      have HK := Lib.hid hK
      clear hK
      go_wp2
      go_roundw
      case rel => exact ⟨j + 1, by omega, by go_num, by have := HK.out; congr 1; omega, by have e : ((cellsP (midP k0 l j)).set (j * 2) (.int .i64 K)).set (j * 2 + 1) (.int .i64 (K + 1)) = cellsP (midP k0 l (j + 1)) := (by rw [HC.out, HN.out]; exact set2 _ _ _ _ _ _ _ (by rw [cellsP_length, marksP_length])); rw [← e]; exact ownsRow_set (ownsRow_set ho (j * 2) _) (j * 2 + 1) _, grownBy_set (grownBy_set hg (j * 2) _) (j * 2 + 1) _⟩
      case measure => simp [intOf]; omega
    · have e : j = l.length := by omega
      subst e
      rw [midP_all] at ho
      go_wp2
      go_ret
      exact ⟨rfl, ho, hg⟩

def RelHP (k0 : Int) (n : Nat) (w : World) (k i : Value) (wr : World) : Prop := ∃ j : Nat, j ≤ n ∧ i = .int .i64 j ∧ k = .int .i64 (k0 + 2 * j) ∧ Up w wr

set_option maxRecDepth 100000 in
set_option maxHeartbeats 2000000 in
theorem heldPS_any (n : Nat) (v : Value) (base : Nat) (k0 : Int) (w : World) (h0 : 0 ≤ k0) (h1 : k0 ≤ 1048576) (hn : n ≤ 1048576) (hown : w.ownsRow base 52 2 v n (cellsP (marksP k0 n))) :
    Calls Tryd.prog 23 #[v, .int .i64 k0] w (Same (.int .i64 (k0 + 2 * n)) w) := by
  obtain ⟨a, ca, rfl, hm, -⟩ := ownsRow_any hown
  go_enter Tryd.func23, Tryd.ntmps23
  go_wp2
  go_loopw [1, 5] (fun k i wr => RelHP k0 n w k i wr) (fun _ i _ => n - (intOf i).toNat)
  case atStart => exact ⟨0, Nat.zero_le _, rfl, by rw [Int.natCast_zero, Int.mul_zero, Int.add_zero], Up.refl _⟩
  case round =>
    obtain ⟨j, hj, rfl, rfl, hup⟩ := hrel
    by_cases hlt : j < n
    · obtain ⟨g, rfl, hc1, hc2, -, hgl⟩ := ownsRow_slot hown (by omega)
      have hat : (marksP k0 n)[j]? = some (mkP (k0 + 2 * j)) := by rw [List.getElem?_eq_getElem (by rw [marksP_length]; exact hlt), marksP_get k0 n j hlt]
      obtain ⟨c0, c1⟩ := plc_cells (read_cells (ownsRow_up hown hup)) hat
      clear hat
      generalize hK : k0 + 2 * (j : Int) = K at *
      have hK0 : 0 ≤ K := by omega
      have hK1 : K ≤ 8388608 := by omega
      have HK := Lib.hid hK
      clear hK
      unfold mkP at c0 c1
      simp only at c0 c1
      go_wp2
      go_roundw
      case rel => exact ⟨j + 1, by omega, by go_num, by have := HK.out; congr 1; omega, hup⟩
      case measure => simp [intOf]; omega
    · have e : j = n := by omega
      subst e
      go_wp2
      go_ret
      exact ⟨rfl, hup⟩

theorem blk_cellsQ {w : World} {l : List BlkD} {g : Nat} (hc : ∀ j u, (cellsB l)[j]? = some u → w.cell? ⟨g, j, none⟩ = some u) {k : Nat} {b : BlkD} (hb : l[k]? = some b) :
    w.cell? ⟨g, k * 4, none⟩ = some (.int .i64 b.num) ∧ w.cell? ⟨g, k * 4 + 1, none⟩ = some (.bool b.raw) ∧ w.cell? ⟨g, k * 4 + 2, none⟩ = some (.int .i64 b.size) ∧ w.cell? ⟨g, k * 4 + 3, none⟩ = some (.string b.body) :=
  ⟨hc _ _ (cellsB_get l k 0 _ hb (by omega)), hc _ _ (cellsB_get l k 1 _ hb (by omega)), hc _ _ (cellsB_get l k 2 _ hb (by omega)), hc _ _ (cellsB_get l k 3 _ hb (by omega))⟩
theorem size_set (w : World) (a : Addr) (u : Value) : (w.setCell a u).heap.size = w.heap.size := by simp [World.setCell]

def mkBm (K : Int) : BlkD := ⟨K, ((K + 1) % 3 == 0), K + 1 + 1, markT (K + 1 + 1 + 1)⟩
def marksB (k : Int) (n : Nat) : List BlkD := (List.range n).map fun (i : Nat) => mkBm (k + 4 * (i : Int))
theorem marksB_length (k : Int) (n : Nat) : (marksB k n).length = n := by simp [marksB]
theorem marksB_get (k : Int) (n i : Nat) (h : i < n) : (marksB k n)[i]'(by rw [marksB_length]; exact h) = mkBm (k + 4 * i) := by simp [marksB]
def midB (k : Int) (l : List BlkD) (i : Nat) : List BlkD := marksB k i ++ l.drop i
theorem midB_zero (k : Int) (l : List BlkD) : midB k l 0 = l := by simp [midB, marksB]
theorem midB_all (k : Int) (l : List BlkD) : midB k l l.length = marksB k l.length := by simp [midB]
theorem midB_len (k : Int) (l : List BlkD) (i : Nat) (h : i ≤ l.length) : (midB k l i).length = l.length := by simp [midB, marksB_length]; omega
theorem midB_cells (k : Int) (l : List BlkD) (i : Nat) (h : i < l.length) : cellsB (midB k l i) = cellsB (marksB k i) ++ (blkC l[i] ++ cellsB (l.drop (i + 1))) := by
  rw [midB, List.drop_eq_getElem_cons h]; simp only [cellsB, List.flatMap_append, List.flatMap_cons]
theorem midB_next (k : Int) (l : List BlkD) (i : Nat) (h : i < l.length) : cellsB (midB k l (i + 1)) = cellsB (marksB k i) ++ (blkC (mkBm (k + 4 * i)) ++ cellsB (l.drop (i + 1))) := by
  have e1 : marksB k (i + 1) = marksB k i ++ [mkBm (k + 4 * (i : Int))] := by simp [marksB, List.range_succ]
  rw [midB, e1]; simp only [cellsB, List.flatMap_append, List.flatMap_cons, List.flatMap_nil, List.append_nil, List.append_assoc]
theorem midB_at (k : Int) (l : List BlkD) (i : Nat) (h : i < l.length) : (midB k l i)[i]? = some l[i] := by
  rw [midB, List.getElem?_append_right (by rw [marksB_length]; exact Nat.le_refl _), marksB_length, Nat.sub_self, List.getElem?_drop, Nat.add_zero, List.getElem?_eq_getElem h]

def RelMB (k0 : Int) (l : List BlkD) (base : Nat) (v : Value) (w : World) (k i : Value) (wr : World) : Prop := ∃ j : Nat, j ≤ l.length ∧ i = .int .i64 j ∧ k = .int .i64 (k0 + 4 * j) ∧ wr.ownsRow base 159 4 v l.length (cellsB (midB k0 l j)) ∧ w.grownBy wr v.ownBlock

def RelHB (k0 : Int) (n : Nat) (w : World) (k i : Value) (wr : World) : Prop := ∃ j : Nat, j ≤ n ∧ i = .int .i64 j ∧ k = .int .i64 (k0 + 4 * j) ∧ Up w wr

end Go.Proofs.YtiiahjnfbhcgmaaDoor
