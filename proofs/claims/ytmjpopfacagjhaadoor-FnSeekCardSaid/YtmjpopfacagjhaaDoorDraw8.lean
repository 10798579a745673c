/- Walks of the reference's draws of a block, from the bytes of an input. Conditions: the bytes can be read. -/
import Derived.Test.YtmjpopfacagjhaaDoorDraw7
namespace Go.Proofs.YtmjpopfacagjhaaDoor
set_option linter.unusedVariables false
set_option linter.unusedSimpArgs false
open Go Go.RowKit

/-- Bytes that are handed in. -/
def ArgU (w : World) (v : Value) (l : List UInt8) : Prop := ∃ (a : Option Addr) (cap : Nat), v = .slice a l.length cap ∧ l.length ≤ cap ∧ cap ≤ maxLen ∧
  (0 < l.length → ∃ b off, a = some ⟨b, off, none⟩ ∧ b < w.heap.size ∧ ∀ i x, l[i]? = some x → w.cell? ⟨b, off + i, none⟩ = some (.int .u8 x.toNat))
theorem ArgU.up {w w' : World} {v : Value} {l : List UInt8} (h : ArgU w v l) (hu : Up w w') : ArgU w' v l := by
  obtain ⟨a, cap, h1, h2, h3, h4⟩ := h
  refine ⟨a, cap, h1, h2, h3, fun hp => ?_⟩
  obtain ⟨b, off, e1, e2, e3⟩ := h4 hp
  exact ⟨b, off, e1, Nat.lt_of_lt_of_le e2 (Below.size hu), fun i x hi => (Below.cell (p := ⟨b, off + i, none⟩) hu e2).trans (e3 i x hi)⟩
theorem open_at {w : World} {v : Value} {l : List UInt8} (h : ArgU w v l) : Calls Tryd.prog 22  #[v] w (fun e w' => ∃ B, e = .returned (.pointer (some ⟨w.heap.size, 0, none⟩)) ∧ Rdr w.heap.size B w' 0 ∧ Up w w') := by
  obtain ⟨a, cap, h1, h2, h3, h4⟩ := h
  exact open_any v l w a cap h1 h2 h3 h4
def isSDB (v : Value) : Prop := ∃ (s : SetD) (d : ByteArray) (b : BlkD), v = .tuple #[setV s, .string d, blkV b] ∧ b.body.size ≤ 1002
def isBlkT (v : Value) : Prop := ∃ (b : BlkD) (ok : Bool), v = .tuple #[blkV b, .bool ok] ∧ (0 ≤ b.size ∧ b.size ≤ 1000) ∧ b.body.size ≤ 1000
def isBlk2 (v : Value) : Prop := ∃ (n : Int) (r : Bool) (z : Int) (d : ByteArray), v = .agg #[.int .i64 n, .bool r, .int .i64 z, .string d] ∧ (0 ≤ z ∧ z ≤ 1000) ∧ d.size ≤ 1000
theorem blkO_T (s : SetD) (dict : List UInt8) (n : Int) (d : ByteArray) (h : d.size ≤ 1000) : isBlkT (blkO s dict n d) := by
  unfold blkO
  split
  · have := blockD_bd s dict n d
    exact ⟨_, _, rfl, by omega, by omega⟩
  · exact ⟨_, _, rfl, by simp, Nat.zero_le _⟩
/-- A block of zeros, of the region's own. -/
def NewBd (rb base : Nat) (v : Value) (w : World) : Prop := ∃ b : Nat, v = .pointer (some ⟨b, 0, none⟩) ∧ (rb < b ∧ base ≤ b) ∧ w.heap[b]? = some (.cells #[.int .i64 0, .bool false, .int .i64 0, .string ByteArray.empty] 94)
theorem newBd_closed {rb base : Nat} : ∀ (v : Value) (w w' : World), NewBd rb base v w → w.grownBy w' (some rb) → NewBd rb base v w' := fun v w w' ⟨b, h1, h2, h3⟩ hg => ⟨b, h1, h2, gbox hg h3 (by have := h2.1; simp; omega)⟩

def setB (w : World) (b : Nat) (n : Int) (r : Bool) (z : Int) (d : ByteArray) : World := World.setCell (World.setCell (World.setCell (World.setCell w ⟨b, 0, none⟩ (.int .i64 n)) ⟨b, 1, none⟩ (.bool r)) ⟨b, 2, none⟩ (.int .i64 z)) ⟨b, 3, none⟩ (.string d)
theorem setB_other {W : World} {b b' : Nat} (h : b' ≠ b) (n : Int) (r : Bool) (z : Int) (d : ByteArray) : (setB W b n r z d).heap[b']? = W.heap[b']? := by
  unfold setB
  have hs : ∀ (w : World) (i : Nat) (x : Value), (w.setCell ⟨b, i, none⟩ x).heap[b']? = w.heap[b']? := fun w i x => Below.heap_setCell _ _ _ _ h
  rw [hs, hs, hs, hs]
theorem setB_at {W : World} {b : Nat} (h : W.heap[b]? = some (.cells #[.int .i64 0, .bool false, .int .i64 0, .string ByteArray.empty] 94)) (n : Int) (r : Bool) (z : Int) (d : ByteArray) : (setB W b n r z d).heap[b]? = some (.cells #[.int .i64 n, .bool r, .int .i64 z, .string d] 94) :=
  box_set (box_set (box_set (box_set h 0 (.int .i64 n)) 1 (.bool r)) 2 (.int .i64 z)) 3 (.string d)
def isSetAny (v : Value) : Prop := ∃ s : SetD, v = setV s

end Go.Proofs.YtmjpopfacagjhaaDoor
