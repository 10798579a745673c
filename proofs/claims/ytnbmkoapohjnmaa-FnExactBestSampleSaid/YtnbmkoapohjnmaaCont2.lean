/- Walks of the functions that add up the sizes of blocks. Conditions: the blocks are those of a string (accOk), and can be read. -/
import Derived.Test.YtnbmkoapohjnmaaCont0
namespace Go.Proofs.Ytnbmkoapohjnmaa
set_option linter.unusedVariables false
set_option linter.unusedSimpArgs false
open Go.RowKit

theorem sizeSum_take {l : List BlkD} {k : Nat} (h : k < l.length) : sizeSum (l.take (k + 1)) = sizeSum (l.take k) + l[k].size := by
  rw [List.take_succ_eq_append_getElem h, sizeSum_snoc]
theorem accOk_take {l : List BlkD} (h : accOk l) (k : Nat) : accOk (l.take k) :=
  ⟨by have := h.1; simp; omega, fun b hb => h.2 b (List.mem_of_mem_take hb)⟩

/-- The cells of block number k. -/
theorem blk_cells {w : World} {l : List BlkD} {g : Nat} (hc : ∀ j u, (cellsB l)[j]? = some u → w.cell? ⟨g, j, none⟩ = some u) {k : Nat} (hk : k < l.length) :
    w.cell? ⟨g, k * 4, none⟩ = some (.int .i64 l[k].num) ∧ w.cell? ⟨g, k * 4 + 1, none⟩ = some (.bool l[k].raw) ∧ w.cell? ⟨g, k * 4 + 2, none⟩ = some (.int .i64 l[k].size) ∧ w.cell? ⟨g, k * 4 + 3, none⟩ = some (.string l[k].body) := by
  have hb : l[k]? = some l[k] := List.getElem?_eq_getElem hk
  exact ⟨hc _ _ (cellsB_get l k 0 _ hb (by omega)), hc _ _ (cellsB_get l k 1 _ hb (by omega)), hc _ _ (cellsB_get l k 2 _ hb (by omega)), hc _ _ (cellsB_get l k 3 _ hb (by omega))⟩

def RelS (l : List BlkD) (w : World) (t i : Value) (wr : World) : Prop := ∃ k : Nat, k ≤ l.length ∧ i = .int .i64 k ∧ t = .int .i64 (sizeSum (l.take k)) ∧ Up w wr

end Go.Proofs.Ytnbmkoapohjnmaa
