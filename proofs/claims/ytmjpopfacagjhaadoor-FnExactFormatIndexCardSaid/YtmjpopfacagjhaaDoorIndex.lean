/- Walks of IndexOf, the program's and the reference's. Conditions: the string's length is below 2^30. -/
import Derived.Test.YtmjpopfacagjhaaDoorMarks
namespace Go.Proofs.YtmjpopfacagjhaaDoor
set_option linter.unusedVariables false
set_option linter.unusedSimpArgs false
open Go.RowKit

def midQ (l : List BlkD) (k : Nat) : List PlaceD := placesK l k ++ List.replicate (l.length - k) ⟨0, 0⟩
theorem midQ_all (l : List BlkD) : midQ l l.length = placesK l l.length := by simp [midQ]
theorem midQ_at (l : List BlkD) (k : Nat) (h : k < l.length) : (midQ l k)[k]? = some ⟨0, 0⟩ := by
  rw [midQ, List.getElem?_append_right (by rw [placesK_length]; exact Nat.le_refl _), placesK_length, Nat.sub_self, List.getElem?_replicate, if_pos (by omega)]
theorem midQ_set (l : List BlkD) (k : Nat) (h : k < l.length) : ((cellsP (midQ l k)).set (k * 2) (.int .i64 (bytesSum (l.take k)))).set (k * 2 + 1) (.int .i64 (sizeSum (l.take k))) = cellsP (midQ l (k + 1)) := by
  have e : List.replicate (l.length - k) (⟨0, 0⟩ : PlaceD) = ⟨0, 0⟩ :: List.replicate (l.length - (k + 1)) ⟨0, 0⟩ := by
    rw [show l.length - k = (l.length - (k + 1)) + 1 by omega]; rfl
  rw [midQ, midQ, e, placesK_succ]
  simp only [cellsP, List.flatMap_append, List.flatMap_cons, List.flatMap_nil, List.append_nil, List.append_assoc]
  exact set2 _ _ _ _ _ _ _ (by have := cellsP_length (placesK l k); rw [placesK_length] at this; exact this)
theorem cellsP_zero (n : Nat) : cellsP (List.replicate n ⟨0, 0⟩) = List.replicate (n * 2) (.int .i64 0) := by
  induction n with
  | zero => rfl
  | succ n ih =>
    rw [List.replicate_succ]
    show plcC ⟨0, 0⟩ ++ cellsP (List.replicate n ⟨0, 0⟩) = _
    rw [ih, show (n + 1) * 2 = n * 2 + 1 + 1 by omega, List.replicate_succ, List.replicate_succ]; rfl
theorem made_zero (m : Nat) : (madeCells #[.int .i64 0, .int .i64 0] m).toList = List.replicate m (.int .i64 0) := by
  rw [List.eq_replicate_iff]
  refine ⟨by simp [madeCells], fun b hb => ?_⟩
  simp only [madeCells, Array.toList_map, List.mem_map] at hb
  obtain ⟨i, _, rfl⟩ := hb
  have : i % 2 = 0 ∨ i % 2 = 1 := by omega
  rcases this with e | e <;> simp [e]
theorem made_row (w : World) (base n : Nat) (hb : base ≤ w.heap.size) (hm : n ≤ maxLen) : (w.alloc (.cells (madeCells #[.int .i64 0, .int .i64 0] (n * 2)) 34)).ownsRow base 34 2 (.slice (some ⟨w.heap.size, 0, none⟩) n n) n (cellsP (List.replicate n ⟨0, 0⟩)) := by
  refine ⟨by rw [cellsP_zero]; simp, .inr ⟨_, _, _, rfl, hb, (MapKept.heap_alloc w _).1, Nat.le_refl _, hm, by simp [madeCells], ?_⟩⟩
  rw [made_zero, cellsP_zero, List.take_of_length_le (by simp)]
theorem ownsRow_other {w : World} {base : Nat} {e : TypeId} {size n : Nat} {xs : List Value} {g cap : Nat} (h : w.ownsRow base e size (.slice (some ⟨g, 0, none⟩) n cap) n xs) {p : Addr} (hp : g ≠ p.block) (u : Value) : (w.setCell p u).ownsRow base e size (.slice (some ⟨g, 0, none⟩) n cap) n xs := by
  refine ⟨h.1, ?_⟩
  rcases h.2 with ⟨hn, _⟩ | ⟨g', cap', cur, hv, hb, hg, rest⟩
  · cases hn
  · cases hv
    exact .inr ⟨g, cap, cur, rfl, hb, by rw [Below.heap_setCell _ _ _ _ hp]; exact hg, rest⟩
theorem box_other {w : World} {b : Nat} {o : Obj} (h : w.heap[b]? = some o) {p : Addr} (hp : b ≠ p.block) (u : Value) : (w.setCell p u).heap[b]? = some o := by
  rw [Below.heap_setCell _ _ _ _ hp]; exact h

/-- What IndexOf leaves. -/
def IndexPost (s : ByteArray) (w : World) (e : Ending) (w' : World) : Prop := ∃ v, e = .returned (.tuple #[v, .bool (contBlocks s).isSome]) ∧ w'.ownsRow w.heap.size 34 2 v (placesK ((contBlocks s).getD []) ((contBlocks s).getD []).length).length (cellsP (placesK ((contBlocks s).getD []) ((contBlocks s).getD []).length)) ∧ Up w w'

def RelI (l : List BlkD) (w1 : World) (i : Value) (wr : World) : Prop := ∃ k : Nat, k ≤ l.length ∧ i = .int .i64 k ∧ Up w1 wr ∧ wr.ownsRow w1.heap.size 34 2 (.slice (some ⟨w1.heap.size, 0, none⟩) l.length l.length) l.length (cellsP (midQ l k)) ∧ wr.heap[w1.heap.size + 1]? = some (.cells #[.int .i64 (bytesSum (l.take k)), .int .i64 (sizeSum (l.take k))] 34)

set_option maxRecDepth 100000 in
set_option maxHeartbeats 2000000 in
theorem indexS_any (s : ByteArray) (w : World) (hs : s.size ≤ 1073741824) :
    Calls Tryd.prog 33 #[.string s] w (IndexPost s w) := by
  unfold IndexPost
  cases hc : contBlocks s with
  | none =>
    have cP := contS_none hc hs
    clear hc
    go_enter Tryd.func33, Tryd.ntmps33
    go_wp2_with (go_at_call 40; (with_reducible refine (cP _).mono ?_); rintro e w1 ⟨v, rfl, hown, U1⟩)
    go_ret2
    exact ⟨_, rfl, World.ownsRow_made w1 #[] 0 U1.size (by unfold maxLen; omega) rfl, U1.alloc _⟩
  | some l =>
    have cP := contS_some hc hs
    have hok := contBlocks_ok hc
    clear hc
    go_enter Tryd.func33, Tryd.ntmps33
    go_wp2_with (first | (go_at_call 40; (with_reducible refine (cP _).mono ?_); rintro e w1 ⟨v, rfl, hownB, U1⟩) | (go_at_call 41; (with_reducible refine (placesS_any l _ _ _ hownB hok).mono ?_); rintro e w2 ⟨vp, rfl, hownP, U2⟩))
    go_ret2
    refine ⟨_, rfl, ?_, U1.trans U2⟩
    simp only [Option.getD_some, placesK_length]
    exact ownsRow_base hownP U1.size

end Go.Proofs.YtmjpopfacagjhaaDoor
