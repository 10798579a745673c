/- Walks of the laws' own functions on slices of integers: equality, marks, and the look at the marks. Conditions: the rows are owned; the numbers are small. -/
import Derived.Test.YtnbmkoapohjnmaaCont0
namespace Go.Proofs.Ytnbmkoapohjnmaa
set_option linter.unusedVariables false
set_option linter.unusedSimpArgs false
open Go.RowKit

theorem ownsRow_set {w : World} {base : Nat} {e : TypeId} {size : Nat} {n : Nat} {xs : List Value} {g cap : Nat} (h : w.ownsRow base e size (.slice (some ⟨g, 0, none⟩) n cap) n xs) (j : Nat) (u : Value) :
    (w.setCell ⟨g, j, none⟩ u).ownsRow base e size (.slice (some ⟨g, 0, none⟩) n cap) n (xs.set j u) := by
  refine ⟨by simp [h.1], ?_⟩
  rcases h.2 with ⟨hn, _⟩ | ⟨g', cap', cur, hv, hb, hg, hnc, hm, hsz, ht⟩
  · cases hn
  · cases hv
    refine .inr ⟨g, cap, cur.setIfInBounds j u, rfl, hb, box_set hg j u, hnc, hm, by simp [hsz], ?_⟩
    rw [Array.toList_setIfInBounds, List.take_set, ht]
theorem ownsRow_free {w : World} {base : Nat} {e : TypeId} {size : Nat} {n : Nat} {xs : List Value} {g cap : Nat} (h : w.ownsRow base e size (.slice (some ⟨g, 0, none⟩) n cap) n xs) (j : Nat) : w.frozen? ⟨g, j, none⟩ = false := by
  rcases h.2 with ⟨hn, _⟩ | ⟨g', cap', cur, hv, hb, hg, _⟩
  · cases hn
  · cases hv; exact box_free hg j
theorem ownsRow_cell {w : World} {base : Nat} {e : TypeId} {size : Nat} {n : Nat} {xs : List Value} {g cap : Nat} (h : w.ownsRow base e size (.slice (some ⟨g, 0, none⟩) n cap) n xs) {j : Nat} {u : Value} (hu : xs[j]? = some u) : w.cell? ⟨g, j, none⟩ = some u := by
  have := h.cells (g := g) rfl j u hu
  have hadd : (⟨g, 0, none⟩ : Addr).add j = ⟨g, j, none⟩ := by unfold Addr.add; split <;> simp_all
  rwa [hadd] at this
theorem grownBy_refl (w : World) (row : Option Nat) : w.grownBy w row := ⟨rfl, rfl, rfl, Nat.le_refl _, fun _ _ _ => rfl⟩
theorem grownBy_set {w w' : World} {g : Nat} (h : w.grownBy w' (some g)) (j : Nat) (u : Value) : w.grownBy (w'.setCell ⟨g, j, none⟩ u) (some g) :=
  ⟨h.os, h.tape, h.output, by simpa [World.setCell] using h.size, fun k hk hne => by
    rw [← h.block k hk hne]
    exact Below.heap_setCell _ _ _ _ (fun e => hne (by rw [e]))⟩
theorem grownBy_up {w w' w2 : World} {row : Option Nat} (h : w.grownBy w' row) (hu : Up w' w2) : w.grownBy w2 row :=
  ⟨hu.os.trans h.os, hu.tape.trans h.tape, hu.output.trans h.output, Nat.le_trans h.size hu.size, fun k hk hne => (hu.block k (Nat.lt_of_lt_of_le hk h.size)).trans (h.block k hk hne)⟩
theorem up_grownBy {w w' : World} (h : Up w w') (row : Option Nat) : w.grownBy w' row := ⟨h.os, h.tape, h.output, h.size, fun k hk _ => h.block k hk⟩
theorem grownBy_trans {a b c : World} {row : Option Nat} (h : a.grownBy b row) (k : b.grownBy c row) : a.grownBy c row :=
  ⟨k.os.trans h.os, k.tape.trans h.tape, k.output.trans h.output, Nat.le_trans h.size k.size, fun i hi hne => (k.block i (Nat.lt_of_lt_of_le hi h.size) hne).trans (h.block i hi hne)⟩

/-- A row's cells in a row of a slice that is not nil. -/
theorem ownsRow_slot {w : World} {base : Nat} {e : TypeId} {size n : Nat} {a : Option Addr} {cap : Nat} {xs : List Value} (h : w.ownsRow base e size (.slice a n cap) n xs) (hn : 0 < n) : ∃ g, a = some ⟨g, 0, none⟩ ∧ n ≤ cap ∧ cap ≤ maxLen ∧ base ≤ g ∧ g < w.heap.size := by
  rcases ownsRow_read h with ⟨h1, h2⟩ | ⟨g, c, h1, h2, h3, h4, h5, _⟩
  · omega
  · cases h1; exact ⟨g, rfl, h2, h3, h4, h5⟩

def cellsI (l : List Int) : List Value := l.map (Value.int .i64)
theorem cellsI_get {l : List Int} {i : Nat} (h : i < l.length) : (cellsI l)[i]? = some (.int .i64 l[i]) := by simp [cellsI, h]

def RelE (w : World) (n : Nat) (i : Value) (wr : World) : Prop := ∃ k : Nat, k ≤ n ∧ i = .int .i64 k ∧ Up w wr

/-- The marks from k on. -/
def marksI (k : Int) (n : Nat) : List Int := (List.range n).map fun (i : Nat) => k + (i : Int)
theorem marksI_length (k : Int) (n : Nat) : (marksI k n).length = n := by simp [marksI]
theorem marksI_get (k : Int) (n i : Nat) (h : i < n) : (marksI k n)[i]'(by rw [marksI_length]; exact h) = k + i := by simp [marksI]
/-- The row when i marks have been made. -/
def midI (k : Int) (zs : List Int) (i : Nat) : List Int := marksI k i ++ zs.drop i
theorem midI_zero (k : Int) (zs : List Int) : midI k zs 0 = zs := by simp [midI, marksI]
theorem midI_length (k : Int) (zs : List Int) (i : Nat) (h : i ≤ zs.length) : (midI k zs i).length = zs.length := by simp [midI, marksI_length]; omega
theorem midI_all (k : Int) (zs : List Int) : midI k zs zs.length = marksI k zs.length := by simp [midI]
theorem midI_set (k : Int) (zs : List Int) (i : Nat) (h : i < zs.length) : (cellsI (midI k zs i)).set i (.int .i64 (k + i)) = cellsI (midI k zs (i + 1)) := by
  have e1 : marksI k (i + 1) = marksI k i ++ [k + (i : Int)] := by simp [marksI, List.range_succ]
  rw [midI, midI, e1, List.drop_eq_getElem_cons h]
  simp only [cellsI, List.map_append, List.map_cons, List.map_nil]
  rw [List.set_append_right _ _ (by simp [marksI_length])]
  simp [marksI_length]
theorem midI_cell (k : Int) (zs : List Int) (i : Nat) (h : i < zs.length) : (cellsI (midI k zs i))[i]? = some (.int .i64 zs[i]) := by
  rw [midI, cellsI, List.map_append, List.getElem?_append_right (by simp [marksI_length])]
  simp [marksI_length, h]

def RelM (k0 : Int) (zs : List Int) (base : Nat) (v : Value) (w : World) (k i : Value) (wr : World) : Prop := ∃ j : Nat, j ≤ zs.length ∧ i = .int .i64 j ∧ k = .int .i64 (k0 + j) ∧ wr.ownsRow base 3 1 v zs.length (cellsI (midI k0 zs j)) ∧ w.grownBy wr v.ownBlock

def RelH (k0 : Int) (n : Nat) (w : World) (k i : Value) (wr : World) : Prop := ∃ j : Nat, j ≤ n ∧ i = .int .i64 j ∧ k = .int .i64 (k0 + j) ∧ Up w wr

end Go.Proofs.Ytnbmkoapohjnmaa
