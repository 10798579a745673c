/- Walk of the reference's l5Blocks. Conditions: the string's length is below 2^30. -/
import Derived.Test.YtnbmkoapohjnmaaCont1
namespace Go.Proofs.Ytnbmkoapohjnmaa
set_option linter.unusedVariables false
set_option linter.unusedSimpArgs false
open Go.RowKit

def RelD (s : ByteArray) (w : World) (v t i : Value) (wr : World) : Prop := ∃ k acc, k ≤ s.size ∧ i = .int .i64 (k : Nat) ∧ t = .int .i64 (sizeSum acc) ∧ wr.ownsRow w.heap.size 31 4 v (acc : List BlkD).length (cellsB acc) ∧ Up w wr ∧ goBlocks s k acc = goBlocks s 0 [] ∧ accOk acc
theorem own_empty {w w' : World} (h : w.heap.size ≤ w'.heap.size) : (w'.alloc (.cells #[] 31)).ownsRow w.heap.size 31 4 (.slice (some ⟨w'.heap.size, 0, none⟩) 0 0) 0 [] := World.ownsRow_made _ _ _ h (by unfold maxLen; omega) rfl
theorem own_emptyg {w w' : World} {g : Nat} (hg : g = w'.heap.size) (h : w.heap.size ≤ w'.heap.size) : (w'.alloc (.cells #[] 31)).ownsRow w.heap.size 31 4 (.slice (some ⟨g, 0, none⟩) 0 0) 0 [] := hg ▸ own_empty h

end Go.Proofs.Ytnbmkoapohjnmaa
