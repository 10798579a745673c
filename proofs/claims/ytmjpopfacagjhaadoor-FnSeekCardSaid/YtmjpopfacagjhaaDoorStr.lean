/- Slices of strings: what can be read, what has been made. Conditions: as each says. -/
import Derived.Test.YtmjpopfacagjhaaDoorSets
namespace Go.Proofs.YtmjpopfacagjhaaDoor
set_option linter.unusedVariables false
set_option linter.unusedSimpArgs false
open Go Go.RowKit

theorem infoStr : (Tryd.prog.info? 9).map (fun i => (i.zero, i.size, i.bytes)) = some (some (.string ByteArray.empty), 1, 16) := by kernel_rfl
def cellsS (l : List ByteArray) : List Value := l.map Value.string
theorem cellsS_length (l : List ByteArray) : (cellsS l).length = l.length := by simp [cellsS]
/-- A slice of strings that can be read. -/
def ArgS (w : World) (v : Value) (l : List ByteArray) : Prop := ∃ a cap, v = .slice a l.length cap ∧ l.length ≤ maxLen ∧ (∀ s ∈ l, s.size ≤ maxLen) ∧ (0 < l.length → ∃ b off, a = some ⟨b, off, none⟩ ∧ l.length ≤ cap ∧ cap ≤ maxLen ∧ b < w.heap.size ∧ ∀ i s, l[i]? = some s → w.cell? ⟨b, off + i, none⟩ = some (.string s))
theorem ArgS.up {w w' : World} {v : Value} {l : List ByteArray} (h : ArgS w v l) (hu : Up w w') : ArgS w' v l := by
  obtain ⟨a, cap, h1, h2, h2', h3⟩ := h
  refine ⟨a, cap, h1, h2, h2', fun hp => ?_⟩
  obtain ⟨b, off, e1, e2, e3, e4, e5⟩ := h3 hp
  exact ⟨b, off, e1, e2, e3, Nat.lt_of_lt_of_le e4 hu.size, fun i p hi => (hu.cell (p := ⟨b, _, none⟩) e4).trans (e5 i p hi)⟩
def ownS (w : World) (base : Nat) (v : Value) (l : List ByteArray) : Prop := w.ownsRow base 9 1 v l.length (cellsS l)
theorem ArgS.of_own {w : World} {base : Nat} {v : Value} {l : List ByteArray} (h : ownS w base v l) (hs : ∀ s ∈ l, s.size ≤ maxLen) : ArgS w v l := by
  rcases ownsRow_read h with ⟨rfl, h2⟩ | ⟨g, cap, rfl, h1, h2, h3, h4, h5⟩
  · exact ⟨none, 0, by rw [h2], by rw [h2]; exact Nat.zero_le _, hs, fun h => by omega⟩
  · refine ⟨some ⟨g, 0, none⟩, cap, rfl, by omega, hs, fun _ => ⟨g, 0, rfl, h1, h2, h4, fun i x hi => ?_⟩⟩
    rw [Nat.zero_add]
    refine h5 _ _ ?_
    simp [cellsS, hi]
theorem ArgS.at {w : World} {a : Option Addr} {n c : Nat} {l : List ByteArray} (h : ArgS w (.slice a n c) l) {i : Nat} (hi : i < l.length) : ∃ b off, a = some ⟨b, off, none⟩ ∧ b < w.heap.size ∧ w.cell? ⟨b, off + i, none⟩ = some (.string l[i]) ∧ n = l.length ∧ n ≤ c ∧ c ≤ maxLen := by
  obtain ⟨a', c', e, h1, h2, h3⟩ := h
  cases e
  obtain ⟨b, off, e1, e2, e3, e4, e5⟩ := h3 (by omega)
  exact ⟨b, off, e1, e4, e5 i _ (List.getElem?_eq_getElem hi), rfl, e2, e3⟩

def midS (l : List ByteArray) (k : Nat) : List ByteArray := l.take k ++ List.replicate (l.length - k) ByteArray.empty
theorem midS_all (l : List ByteArray) : midS l l.length = l := by simp [midS]
theorem midS_zero (l : List ByteArray) : midS l 0 = List.replicate l.length ByteArray.empty := by simp [midS]
theorem midS_set (l : List ByteArray) (k : Nat) (h : k < l.length) : (cellsS (midS l k)).set k (.string l[k]) = cellsS (midS l (k + 1)) := by
  have e : List.replicate (l.length - k) ByteArray.empty = ByteArray.empty :: List.replicate (l.length - (k + 1)) ByteArray.empty := by
    rw [show l.length - k = (l.length - (k + 1)) + 1 by omega]; rfl
  rw [midS, midS, e, List.take_succ_eq_append_getElem h]
  unfold cellsS
  simp only [List.map_append, List.map_cons, List.map_nil, List.append_assoc, List.cons_append, List.nil_append]
  rw [List.set_append_right _ _ (by simp; omega)]
  simp [List.length_take, Nat.min_eq_left (Nat.le_of_lt h)]
theorem midS_at (l : List ByteArray) (k : Nat) (h : k < l.length) : (cellsS (midS l k))[k]? = some (.string ByteArray.empty) := by
  unfold cellsS midS
  rw [List.getElem?_map, List.getElem?_append_right (by simp; omega), List.getElem?_replicate, if_pos (by simp; omega)]
  rfl
def RelTS (l : List ByteArray) (w : World) (i : Value) (wr : World) : Prop := ∃ k : Nat, k ≤ l.length ∧ i = .int .i64 k ∧ Up w wr ∧ wr.ownsRow w.heap.size 9 1 (.slice (some ⟨w.heap.size, 0, none⟩) l.length l.length) l.length (cellsS (midS l k))
theorem made_listS (n : Nat) : (madeCells #[Value.string ByteArray.empty] n).toList.take n = List.replicate n (Value.string ByteArray.empty) := by
  apply List.ext_getElem
  · simp [madeCells]
  · intro i h1 h2
    simp [madeCells, Nat.mod_one]
theorem made_strs (w : World) (n : Nat) (hn : n ≤ maxLen) : (w.alloc (.cells (madeCells #[.string ByteArray.empty] n) 9)).ownsRow w.heap.size 9 1 (.slice (some ⟨w.heap.size, 0, none⟩) n n) n (cellsS (List.replicate n ByteArray.empty)) := by
  refine ⟨by simp [cellsS], .inr ⟨w.heap.size, n, _, rfl, Nat.le_refl _, (MapKept.heap_alloc w _).1, Nat.le_refl _, hn, ?_, ?_⟩⟩
  · simp [madeCells]
  · rw [Nat.mul_one, made_listS]; simp [cellsS]


end Go.Proofs.YtmjpopfacagjhaaDoor
