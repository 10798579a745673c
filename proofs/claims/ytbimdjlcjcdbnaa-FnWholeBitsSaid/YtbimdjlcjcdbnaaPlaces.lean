/- Walk of the reference's l5Places. Conditions: the blocks are those of a string (accOk) and can be read. -/
import Derived.Test.YtbimdjlcjcdbnaaBa
namespace Go.Proofs.Ytbimdjlcjcdbnaa
set_option linter.unusedVariables false
set_option linter.unusedSimpArgs false
open Go.RowKit

structure PlaceD where
  place : Int
  start : Int
def plcC (p : PlaceD) : List Value := [.int .i64 p.place, .int .i64 p.start]
def cellsP (l : List PlaceD) : List Value := l.flatMap plcC
theorem cellsP_length (l : List PlaceD) : (cellsP l).length = l.length * 2 := by
  induction l with
  | nil => rfl
  | cons b l ih => simp only [cellsP, List.flatMap_cons, List.length_append, List.length_cons] at ih ⊢; simp only [plcC, List.length_cons, List.length_nil]; omega
theorem cellsP_snoc (l : List PlaceD) (b : PlaceD) : cellsP (l ++ [b]) = cellsP l ++ plcC b := by simp [cellsP]
theorem cellsP_get (l : List PlaceD) (i j : Nat) (b : PlaceD) (hb : l[i]? = some b) (hj : j < 2) : (cellsP l)[i * 2 + j]? = (plcC b)[j]? := by
  induction l generalizing i with
  | nil => simp at hb
  | cons a l ih =>
    have e : cellsP (a :: l) = plcC a ++ cellsP l := rfl
    rw [e]
    cases i with
    | zero =>
      simp at hb; subst hb
      rw [List.getElem?_append_left (by simp [plcC]; omega)]
      simp
    | succ i =>
      rw [List.getElem?_append_right (by simp [plcC]; omega)]
      rw [← ih i (by simpa using hb)]
      congr 1
      simp [plcC]; omega
theorem plcC_one (b : PlaceD) : ∀ u ∈ plcC b, u.oneCell' = true := by
  intro u hu
  simp only [plcC, List.mem_cons, List.not_mem_nil, or_false] at hu
  rcases hu with rfl | rfl <;> rfl

def bytesSum (l : List BlkD) : Int := (l.map fun b => 10 + (b.body.size : Int)).sum
theorem bytesSum_take {l : List BlkD} {k : Nat} (h : k < l.length) : bytesSum (l.take (k + 1)) = bytesSum (l.take k) + 10 + l[k].body.size := by
  rw [List.take_succ_eq_append_getElem h]; simp only [bytesSum, List.map_append, List.sum_append, List.map_cons, List.map_nil, List.sum_cons, List.sum_nil]; omega
theorem bytesSum_bd {l : List BlkD} (h : accOk l) : 0 ≤ bytesSum l ∧ bytesSum l ≤ 74 * l.length := by
  replace h := h.2
  induction l with
  | nil => simp [bytesSum]
  | cons b l ih =>
    have := h b (List.mem_cons_self ..)
    have := ih fun b hb => h b (List.mem_cons_of_mem _ hb)
    simp only [bytesSum, List.map_cons, List.sum_cons, List.length_cons] at *
    omega
/-- The first k places of blocks. -/
def placesK (l : List BlkD) (k : Nat) : List PlaceD := (List.range k).map fun i => ⟨bytesSum (l.take i), sizeSum (l.take i)⟩
theorem placesK_length (l : List BlkD) (k : Nat) : (placesK l k).length = k := by simp [placesK]
theorem placesK_succ (l : List BlkD) (k : Nat) : placesK l (k + 1) = placesK l k ++ [⟨bytesSum (l.take k), sizeSum (l.take k)⟩] := by simp [placesK, List.range_succ]
theorem placesK_get (l : List BlkD) (n k : Nat) (h : k < n) : (placesK l n)[k]? = some ⟨bytesSum (l.take k), sizeSum (l.take k)⟩ := by simp [placesK, h]
theorem plc_cells {w : World} {l : List PlaceD} {g : Nat} (hc : ∀ j u, (cellsP l)[j]? = some u → w.cell? ⟨g, j, none⟩ = some u) {k : Nat} {p : PlaceD} (hk : l[k]? = some p) :
    w.cell? ⟨g, k * 2, none⟩ = some (.int .i64 p.place) ∧ w.cell? ⟨g, k * 2 + 1, none⟩ = some (.int .i64 p.start) :=
  ⟨hc _ _ (cellsP_get l k 0 _ hk (by omega)), hc _ _ (cellsP_get l k 1 _ hk (by omega))⟩

end Go.Proofs.Ytbimdjlcjcdbnaa
