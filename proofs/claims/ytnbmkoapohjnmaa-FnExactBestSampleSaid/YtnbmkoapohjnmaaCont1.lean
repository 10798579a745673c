/- Walk of the program's ContainerBlocks. Conditions: the string's length is below 2^30. -/
import Derived.Test.YtnbmkoapohjnmaaCont2
namespace Go.Proofs.Ytnbmkoapohjnmaa
set_option linter.unusedVariables false
set_option linter.unusedSimpArgs false
open Go.RowKit

theorem infoBlock : (Try.prog.info? 31).map (fun i => (i.zero, i.size, i.bytes)) = some (some (.agg #[.int .i64 0, .bool false, .int .i64 0, .string ⟨#[]⟩]), 4, 40) := by kernel_rfl

/-- What ContainerBlocks leaves: a row of its own with the blocks (none, where the string is no container). -/
def ContPost (s : ByteArray) (w : World) (e : Ending) (w' : World) : Prop := ∃ v, e = .returned (.tuple #[v, .bool (contBlocks s).isSome]) ∧ w'.ownsRow w.heap.size 31 4 v ((contBlocks s).getD []).length (cellsB ((contBlocks s).getD [])) ∧ Up w w'
theorem contPost_none {s : ByteArray} {w w' : World} {e : Ending} (h : contBlocks s = none) (v : Value) (he : e = .returned (.tuple #[v, .bool false])) (ho : w'.ownsRow w.heap.size 31 4 v 0 []) (hu : Up w w') : ContPost s w e w' := by
  refine ⟨v, ?_, ?_, hu⟩
  · rw [he, h]; rfl
  · rw [h]; exact ho
theorem contPost_some {s : ByteArray} {w w' : World} {e : Ending} {l : List BlkD} (h : contBlocks s = some l) (v : Value) (he : e = .returned (.tuple #[v, .bool true])) (ho : w'.ownsRow w.heap.size 31 4 v l.length (cellsB l)) (hu : Up w w') : ContPost s w e w' := by
  refine ⟨v, ?_, ?_, hu⟩
  · rw [he, h]; rfl
  · rw [h]; exact ho

/-- What holds at the head of the loop. -/
def RelC (s : ByteArray) (w : World) (v i : Value) (wr : World) : Prop := ∃ k acc, k ≤ s.size ∧ i = .int .i64 (k : Nat) ∧ wr.ownsRow w.heap.size 31 4 v (acc : List BlkD).length (cellsB acc) ∧ Up w wr ∧ goBlocks s k acc = goBlocks s 0 [] ∧ accOk acc

theorem parsed_blk (s : ByteArray) (k : Nat) : parsed s k = .tuple #[blkV (blkAt s k), .int .i64 (endAt s k + 2 : Nat), .bool true] := rfl

theorem cont_none {s : ByteArray} {k : Nat} {acc : List BlkD} (hg : goBlocks s k acc = goBlocks s 0 []) (h : k < s.size) (hp : ¬ (parseOk s k = true ∧ numAt s (k + 2) = acc.length)) : contBlocks s = none := by
  unfold contBlocks
  rw [← hg, go_fail h hp]; rfl
theorem cont_end {s : ByteArray} {k : Nat} {acc : List BlkD} (hg : goBlocks s k acc = goBlocks s 0 []) (h : ¬ k < s.size) : contBlocks s = if sizeSum acc ≤ 2000 then some acc else none := by
  unfold contBlocks
  rw [← hg, go_end h]; rfl

end Go.Proofs.Ytnbmkoapohjnmaa
