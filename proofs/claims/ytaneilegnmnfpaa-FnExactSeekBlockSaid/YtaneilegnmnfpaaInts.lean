/- Walks of the laws' own functions on slices of integers: equality, marks, and the look at the marks. Conditions: the rows are owned; the numbers are small. -/
import Derived.Test.YtaneilegnmnfpaaCont0
namespace Go.Proofs.Ytaneilegnmnfpaa
set_option linter.unusedVariables false
set_option linter.unusedSimpArgs false
open Go.RowKit

theorem ownsRow_set {w : World} {base : Nat} {e : TypeId} {size : Nat} {n : Nat} {xs : List Value} {g cap : Nat} (h : w.ownsRow base e size (.slice (some ⟨g, 0, none⟩) n cap) n xs) (j : Nat) (u : Value) :
    (w.setCell ⟨g, j, none⟩ u).ownsRow base e size (.slice (some ⟨g, 0, none⟩) n cap) n (xs.set j u) := by
  refine ⟨by simp [h.1], ?_⟩
  rcases h.2 with ⟨hn, _⟩ | ⟨g', cap', cur, hv, hb, hg, hnc, hm, hsz, ht⟩
  · cases hn
  · cases hv
    refine .inr ⟨g, cap, cur.setIfInBounds j u, rfl, hb, box_set hg j u, hnc, hm, by simp [hsz], ?_⟩
    rw [Array.toList_setIfInBounds, List.take_set, ht]
theorem ownsRow_free {w : World} {base : Nat} {e : TypeId} {size : Nat} {n : Nat} {xs : List Value} {g cap : Nat} (h : w.ownsRow base e size (.slice (some ⟨g, 0, none⟩) n cap) n xs) (j : Nat) : w.frozen? ⟨g, j, none⟩ = false := by
  rcases h.2 with ⟨hn, _⟩ | ⟨g', cap', cur, hv, hb, hg, _⟩
  · cases hn
  · cases hv; exact box_free hg j
theorem ownsRow_cell {w : World} {base : Nat} {e : TypeId} {size : Nat} {n : Nat} {xs : List Value} {g cap : Nat} (h : w.ownsRow base e size (.slice (some ⟨g, 0, none⟩) n cap) n xs) {j : Nat} {u : Value} (hu : xs[j]? = some u) : w.cell? ⟨g, j, none⟩ = some u := by
  have := h.cells (g := g) rfl j u hu
  have hadd : (⟨g, 0, none⟩ : Addr).add j = ⟨g, j, none⟩ := by unfold Addr.add; split <;> simp_all
  rwa [hadd] at this
theorem grownBy_refl (w : World) (row : Option Nat) : w.grownBy w row := ⟨rfl, rfl, rfl, Nat.le_refl _, fun _ _ _ => rfl⟩
theorem grownBy_set {w w' : World} {g : Nat} (h : w.grownBy w' (some g)) (j : Nat) (u : Value) : w.grownBy (w'.setCell ⟨g, j, none⟩ u) (some g) :=
  ⟨h.os, h.tape, h.output, by simpa [World.setCell] using h.size, fun k hk hne => by
    rw [← h.block k hk hne]
    exact Below.heap_setCell _ _ _ _ (fun e => hne (by rw [e]))⟩
theorem grownBy_up {w w' w2 : World} {row : Option Nat} (h : w.grownBy w' row) (hu : Up w' w2) : w.grownBy w2 row :=
  ⟨hu.os.trans h.os, hu.tape.trans h.tape, hu.output.trans h.output, Nat.le_trans h.size hu.size, fun k hk hne => (hu.block k (Nat.lt_of_lt_of_le hk h.size)).trans (h.block k hk hne)⟩
theorem up_grownBy {w w' : World} (h : Up w w') (row : Option Nat) : w.grownBy w' row := ⟨h.os, h.tape, h.output, h.size, fun k hk _ => h.block k hk⟩
theorem grownBy_trans {a b c : World} {row : Option Nat} (h : a.grownBy b row) (k : b.grownBy c row) : a.grownBy c row :=
  ⟨k.os.trans h.os, k.tape.trans h.tape, k.output.trans h.output, Nat.le_trans h.size k.size, fun i hi hne => (k.block i (Nat.lt_of_lt_of_le hi h.size) hne).trans (h.block i hi hne)⟩

/-- A row's cells in a row of a slice that is not nil. -/
theorem ownsRow_slot {w : World} {base : Nat} {e : TypeId} {size n : Nat} {a : Option Addr} {cap : Nat} {xs : List Value} (h : w.ownsRow base e size (.slice a n cap) n xs) (hn : 0 < n) : ∃ g, a = some ⟨g, 0, none⟩ ∧ n ≤ cap ∧ cap ≤ maxLen ∧ base ≤ g ∧ g < w.heap.size := by
  rcases ownsRow_read h with ⟨h1, h2⟩ | ⟨g, c, h1, h2, h3, h4, h5, _⟩
  · omega
  · cases h1; exact ⟨g, rfl, h2, h3, h4, h5⟩

def cellsI (l : List Int) : List Value := l.map (Value.int .i64)
theorem cellsI_get {l : List Int} {i : Nat} (h : i < l.length) : (cellsI l)[i]? = some (.int .i64 l[i]) := by simp [cellsI, h]

def RelE (w : World) (n : Nat) (i : Value) (wr : World) : Prop := ∃ k : Nat, k ≤ n ∧ i = .int .i64 k ∧ Up w wr

set_option maxRecDepth 100000 in
set_option maxHeartbeats 1000000 in
theorem eqIntS_any (l : List Int) (va vb : Value) (ba bb : Nat) (w : World) (ha : w.ownsRow ba 3 1 va l.length (cellsI l)) (hb : w.ownsRow bb 3 1 vb l.length (cellsI l)) :
    Calls Try.prog 32 #[va, vb] w (Same (.bool true) w) := by
  obtain ⟨a, ca, rfl, hm, -⟩ := ownsRow_any ha
  obtain ⟨b, cb, rfl, -, -⟩ := ownsRow_any hb
  unfold maxLen at hm
  go_enter Try.func32, Try.ntmps32
  go_wp2
  go_loopw [5] (fun i wr => RelE w l.length i wr) (fun i _ => l.length - (intOf i).toNat)
  case atStart => exact ⟨0, Nat.zero_le _, rfl, Up.refl _⟩
  case round =>
    obtain ⟨k, hk, rfl, hup⟩ := hrel
    by_cases hlt : k < l.length
    · obtain ⟨g, rfl, hc1, hc2, -, hg⟩ := ownsRow_slot ha (by omega)
      obtain ⟨g', rfl, hc1', hc2', -, hg'⟩ := ownsRow_slot hb (by omega)
      have hA := ownsRow_cell (ownsRow_up ha hup) (cellsI_get hlt)
      have hB := ownsRow_cell (ownsRow_up hb hup) (cellsI_get hlt)
      go_wp2
      refine wp_region_up 9 (by kernel_rfl) (by kernel_rfl) ?_
      simp only [List.take, List.drop]
      repeat (refine wpUp_step (fun K hK => ?_); go_simp; (try simp only [↓IntWalk.iteOmega]); first
        | (refine hK _ _ ?_; clear hK K)
        | (apply stepU_c
           · intro wq hwq; (have hbq := bcell hwq; (repeat (first | refine fills_no (by rfl) ?_ | refine fills_yes (by rfl) (fun vq hvq => ?_))); simp only [List.filter_nil, fills]; unfold upAt; (try ((have hA2 := hbq.1 g k (Nat.lt_of_lt_of_le hg hup.size); have hB2 := hbq.1 g' k (Nat.lt_of_lt_of_le hg' hup.size)))); go_simp; (try go_bits); (try simp only [↓IntWalk.iteOmega]); (try (rw [dif_pos (by omega)]; go_simp; try go_bits)); first | exact upOut_value)
           go_simp; refine hK _ _ ?_; clear hK K))
      refine wpUp_nil (fun wq hwq => ?_)
      simp only [fills]
      go_wp2
      go_roundw
      case rel => exact ⟨k + 1, by omega, by go_num, hup.trans hwq⟩
      case measure => simp [intOf]; omega
    · go_wp2
      go_ret
      exact ⟨rfl, hup⟩

/-- The marks from k on. -/
def marksI (k : Int) (n : Nat) : List Int := (List.range n).map fun (i : Nat) => k + (i : Int)
theorem marksI_length (k : Int) (n : Nat) : (marksI k n).length = n := by simp [marksI]
theorem marksI_get (k : Int) (n i : Nat) (h : i < n) : (marksI k n)[i]'(by rw [marksI_length]; exact h) = k + i := by simp [marksI]
/-- The row when i marks have been made. -/
def midI (k : Int) (zs : List Int) (i : Nat) : List Int := marksI k i ++ zs.drop i
theorem midI_zero (k : Int) (zs : List Int) : midI k zs 0 = zs := by simp [midI, marksI]
theorem midI_length (k : Int) (zs : List Int) (i : Nat) (h : i ≤ zs.length) : (midI k zs i).length = zs.length := by simp [midI, marksI_length]; omega
theorem midI_all (k : Int) (zs : List Int) : midI k zs zs.length = marksI k zs.length := by simp [midI]
theorem midI_set (k : Int) (zs : List Int) (i : Nat) (h : i < zs.length) : (cellsI (midI k zs i)).set i (.int .i64 (k + i)) = cellsI (midI k zs (i + 1)) := by
  have e1 : marksI k (i + 1) = marksI k i ++ [k + (i : Int)] := by simp [marksI, List.range_succ]
  rw [midI, midI, e1, List.drop_eq_getElem_cons h]
  simp only [cellsI, List.map_append, List.map_cons, List.map_nil]
  rw [List.set_append_right _ _ (by simp [marksI_length])]
  simp [marksI_length]
theorem midI_cell (k : Int) (zs : List Int) (i : Nat) (h : i < zs.length) : (cellsI (midI k zs i))[i]? = some (.int .i64 zs[i]) := by
  rw [midI, cellsI, List.map_append, List.getElem?_append_right (by simp [marksI_length])]
  simp [marksI_length, h]

def RelM (k0 : Int) (zs : List Int) (base : Nat) (v : Value) (w : World) (k i : Value) (wr : World) : Prop := ∃ j : Nat, j ≤ zs.length ∧ i = .int .i64 j ∧ k = .int .i64 (k0 + j) ∧ wr.ownsRow base 3 1 v zs.length (cellsI (midI k0 zs j)) ∧ w.grownBy wr v.ownBlock

set_option maxRecDepth 100000 in
set_option maxHeartbeats 1000000 in
theorem markIntS_any (zs : List Int) (v : Value) (base : Nat) (k0 : Int) (w : World) (h0 : 0 ≤ k0) (h1 : k0 ≤ 1099511627776) (hn : zs.length ≤ 1099511627776) (hown : w.ownsRow base 3 1 v zs.length (cellsI zs)) :
    Calls Try.prog 33 #[v, .int .i64 k0] w (fun e w' => e = .returned (.int .i64 (k0 + zs.length)) ∧ w'.ownsRow base 3 1 v zs.length (cellsI (marksI k0 zs.length)) ∧ w.grownBy w' v.ownBlock) := by
  obtain ⟨a, ca, rfl, hm, -⟩ := ownsRow_any hown
  go_enter Try.func33, Try.ntmps33
  go_wp2
  go_loopw [1, 5] (fun k i wr => RelM k0 zs base (.slice a zs.length ca) w k i wr) (fun _ i _ => zs.length - (intOf i).toNat)
  case atStart => exact ⟨0, Nat.zero_le _, rfl, by rw [Int.natCast_zero, Int.add_zero], by rw [midI_zero]; exact hown, grownBy_refl _ _⟩
  case round =>
    obtain ⟨j, hj, rfl, rfl, ho, hg⟩ := hrel
    by_cases hlt : j < zs.length
    · obtain ⟨g, rfl, hc1, hc2, -, hgl⟩ := ownsRow_slot ho (by omega)
      have hc := ownsRow_cell ho (midI_cell k0 zs j hlt)
      have hf := ownsRow_free ho j
      go_wp2
      go_roundw
      case rel => exact ⟨j + 1, by omega, by go_num, by congr 1; omega, by rw [← midI_set k0 zs j hlt]; exact ownsRow_set ho j _, grownBy_set hg j _⟩
      case measure => simp [intOf]; omega
    · have e : j = zs.length := by omega
      subst e
      rw [midI_all] at ho
      go_wp2
      go_ret
      exact ⟨rfl, ho, hg⟩

def RelH (k0 : Int) (n : Nat) (w : World) (k i : Value) (wr : World) : Prop := ∃ j : Nat, j ≤ n ∧ i = .int .i64 j ∧ k = .int .i64 (k0 + j) ∧ Up w wr

set_option maxRecDepth 100000 in
set_option maxHeartbeats 1000000 in
theorem heldIntS_any (n : Nat) (v : Value) (base : Nat) (k0 : Int) (w : World) (h0 : 0 ≤ k0) (h1 : k0 ≤ 1099511627776) (hn : n ≤ 1099511627776) (hown : w.ownsRow base 3 1 v n (cellsI (marksI k0 n))) :
    Calls Try.prog 34 #[v, .int .i64 k0] w (Same (.int .i64 (k0 + n)) w) := by
  obtain ⟨a, ca, rfl, hm, -⟩ := ownsRow_any hown
  go_enter Try.func34, Try.ntmps34
  go_wp2
  go_loopw [1, 5] (fun k i wr => RelH k0 n w k i wr) (fun _ i _ => n - (intOf i).toNat)
  case atStart => exact ⟨0, Nat.zero_le _, rfl, by rw [Int.natCast_zero, Int.add_zero], Up.refl _⟩
  case round =>
    obtain ⟨j, hj, rfl, rfl, hup⟩ := hrel
    by_cases hlt : j < n
    · obtain ⟨g, rfl, hc1, hc2, -, hgl⟩ := ownsRow_slot hown (by omega)
      have hc := ownsRow_cell (ownsRow_up hown hup) (cellsI_get (l := marksI k0 n) (i := j) (by rw [marksI_length]; exact hlt))
      rw [marksI_get k0 n j hlt] at hc
      go_wp2
      go_roundw
      case rel => exact ⟨j + 1, by omega, by go_num, by congr 1; omega, hup⟩
      case measure => simp [intOf]; omega
    · have e : j = n := by omega
      subst e
      go_wp2
      go_ret
      exact ⟨rfl, hup⟩

end Go.Proofs.Ytaneilegnmnfpaa
