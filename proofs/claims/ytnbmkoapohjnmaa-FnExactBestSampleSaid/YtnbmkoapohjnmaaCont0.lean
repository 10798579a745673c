/- Plain facts on containers: the blocks of a string in sequence. And rows of structs in memory. Conditions: as each says. -/
import Derived.Test.YtnbmkoapohjnmaaParse3
namespace Go.Proofs.Ytnbmkoapohjnmaa
set_option linter.unusedVariables false
set_option linter.unusedSimpArgs false
open Go.RowKit

structure BlkD where
  num : Int
  raw : Bool
  size : Int
  body : ByteArray

def blkV (b : BlkD) : Value := .agg #[.int .i64 b.num, .bool b.raw, .int .i64 b.size, .string b.body]
def blkC (b : BlkD) : List Value := [.int .i64 b.num, .bool b.raw, .int .i64 b.size, .string b.body]
def cellsB (l : List BlkD) : List Value := l.flatMap blkC
theorem cellsB_length (l : List BlkD) : (cellsB l).length = l.length * 4 := by
  induction l with
  | nil => rfl
  | cons b l ih => simp only [cellsB, List.flatMap_cons, List.length_append, List.length_cons] at ih ⊢; simp only [blkC, List.length_cons, List.length_nil]; omega
theorem cellsB_snoc (l : List BlkD) (b : BlkD) : cellsB (l ++ [b]) = cellsB l ++ blkC b := by simp [cellsB]
theorem cellsB_get (l : List BlkD) (i j : Nat) (b : BlkD) (hb : l[i]? = some b) (hj : j < 4) : (cellsB l)[i * 4 + j]? = (blkC b)[j]? := by
  induction l generalizing i with
  | nil => simp at hb
  | cons a l ih =>
    have e : cellsB (a :: l) = blkC a ++ cellsB l := rfl
    rw [e]
    cases i with
    | zero =>
      simp at hb; subst hb
      rw [List.getElem?_append_left (by simp [blkC]; omega)]
      simp
    | succ i =>
      rw [List.getElem?_append_right (by simp [blkC]; omega)]
      rw [← ih i (by simpa using hb)]
      congr 1
      simp [blkC]; omega

def blkAt (s : ByteArray) (k : Nat) : BlkD := ⟨numAt s (k + 2), byteAt s (k + 1) == 0, numAt s (k + 4), bodyAt s k⟩
theorem endAt_lt (s : ByteArray) (k : Nat) : k < endAt s k + 2 := by unfold endAt; omega

/-- The blocks from a place on, behind those that are there. -/
def goBlocks (s : ByteArray) (k : Nat) (acc : List BlkD) : Option (List BlkD) :=
  if h : k < s.size then
    if parseOk s k = true ∧ numAt s (k + 2) = acc.length then goBlocks s (endAt s k + 2) (acc ++ [blkAt s k]) else none
  else some acc
  termination_by s.size - k
  decreasing_by have := endAt_lt s k; omega
theorem go_step {s : ByteArray} {k : Nat} {acc : List BlkD} (h : k < s.size) (hp : parseOk s k = true) (hn : numAt s (k + 2) = acc.length) : goBlocks s (endAt s k + 2) (acc ++ [blkAt s k]) = goBlocks s k acc := by
  conv => rhs; rw [goBlocks]
  rw [dif_pos h, if_pos ⟨hp, hn⟩]
theorem go_fail {s : ByteArray} {k : Nat} {acc : List BlkD} (h : k < s.size) (hp : ¬ (parseOk s k = true ∧ numAt s (k + 2) = acc.length)) : goBlocks s k acc = none := by
  rw [goBlocks, dif_pos h, if_neg hp]
theorem go_end {s : ByteArray} {k : Nat} {acc : List BlkD} (h : ¬ k < s.size) : goBlocks s k acc = some acc := by
  rw [goBlocks, dif_neg h]

def sizeSum (l : List BlkD) : Int := (l.map (·.size)).sum
theorem sizeSum_snoc (l : List BlkD) (b : BlkD) : sizeSum (l ++ [b]) = sizeSum l + b.size := by simp [sizeSum]
/-- What is known of blocks that were parsed. -/
def accOk (l : List BlkD) : Prop := l.length ≤ 40 ∧ ∀ b ∈ l, 1 ≤ b.size ∧ b.size ≤ 64 ∧ b.body.size ≤ 64
theorem accOk_nil : accOk [] := ⟨by simp, by simp⟩
theorem parseOk_form {s : ByteArray} {k : Nat} (h : parseOk s k = true) : headOk s k = true ∧ endAt s k + 2 ≤ s.size ∧ formB (numAt s (k + 2)) (byteAt s (k + 1) == 0) (numAt s (k + 4)) (bodyAt s k) = true := by
  unfold parseOk at h
  simp only [Bool.and_eq_true, decide_eq_true_eq] at h
  exact ⟨h.1.1.1, h.1.1.2, h.1.2⟩
theorem accOk_snoc {s : ByteArray} {k : Nat} {acc : List BlkD} (h : accOk acc) (hp : parseOk s k = true) (hn : numAt s (k + 2) = acc.length) : accOk (acc ++ [blkAt s k]) := by
  obtain ⟨h1, h2, h3⟩ := formB_bd (parseOk_form hp).2.2
  refine ⟨by simp; omega, fun b hb => ?_⟩
  rcases List.mem_append.1 hb with hb | hb
  · exact h.2 b hb
  · simp at hb; subst hb; exact ⟨h2.1, h2.2, h3⟩
theorem sizeSum_bd {l : List BlkD} (h : accOk l) : 0 ≤ sizeSum l ∧ sizeSum l ≤ 64 * l.length := by
  replace h := h.2
  induction l with
  | nil => simp [sizeSum]
  | cons b l ih =>
    have := h b (List.mem_cons_self ..)
    have := ih fun b hb => h b (List.mem_cons_of_mem _ hb)
    simp only [sizeSum, List.map_cons, List.sum_cons, List.length_cons] at *
    omega

/-- The blocks of a container. -/
def contBlocks (s : ByteArray) : Option (List BlkD) := (goBlocks s 0 []).bind fun l => if sizeSum l ≤ 2000 then some l else none

/-- A row that the call owns stays while only new memory is made. -/
theorem ownsRow_up {w w' : World} {base : Nat} {e : TypeId} {size : Nat} {v : Value} {n : Nat} {xs : List Value} (h : w.ownsRow base e size v n xs) (hu : Up w w') : w'.ownsRow base e size v n xs := by
  refine ⟨h.1, ?_⟩
  rcases h.2 with hn | ⟨g, cap, cur, rfl, hb, hg, rest⟩
  · exact .inl hn
  · exact .inr ⟨g, cap, cur, rfl, hb, box_up hu hg, rest⟩
theorem ownsRow_base {w : World} {base base' : Nat} {e : TypeId} {size : Nat} {v : Value} {n : Nat} {xs : List Value} (h : w.ownsRow base e size v n xs) (hb : base' ≤ base) : w.ownsRow base' e size v n xs := by
  refine ⟨h.1, ?_⟩
  rcases h.2 with hn | ⟨g, cap, cur, rfl, h1, rest⟩
  · exact .inl hn
  · exact .inr ⟨g, cap, cur, rfl, Nat.le_trans hb h1, rest⟩
/-- A row that owns nothing yet or something: its shape, and its cells. -/
theorem ownsRow_read {w : World} {base : Nat} {e : TypeId} {size : Nat} {v : Value} {n : Nat} {xs : List Value} (h : w.ownsRow base e size v n xs) : (v = .slice none 0 0 ∧ n = 0) ∨ ∃ g cap, v = .slice (some ⟨g, 0, none⟩) n cap ∧ n ≤ cap ∧ cap ≤ maxLen ∧ base ≤ g ∧ g < w.heap.size ∧ ∀ j u, xs[j]? = some u → w.cell? ⟨g, j, none⟩ = some u := by
  rcases h.2 with hn | ⟨g, cap, cur, rfl, hb, hg, hnc, hm, hsz, ht⟩
  · exact .inl hn
  · refine .inr ⟨g, cap, rfl, hnc, hm, hb, (Array.getElem?_eq_some_iff.1 hg).1, fun j u hu => ?_⟩
    have hj : j < xs.length := (List.getElem?_eq_some_iff.1 hu).1
    rw [box_cell hg]
    have : xs[j]? = cur[j]? := by
      rw [← ht, List.getElem?_take, if_pos (by rw [← h.1]; exact hj)]
      simp
    rw [← this, hu]

theorem ownsRow_shape {w : World} {base : Nat} {e : TypeId} {size : Nat} {v : Value} {n : Nat} {xs : List Value} (h : w.ownsRow base e size v n xs) : ∃ a c, v = .slice a n c := by
  rcases h.2 with ⟨rfl, rfl⟩ | ⟨g, cap, cur, rfl, _⟩
  · exact ⟨_, _, rfl⟩
  · exact ⟨_, _, rfl⟩
/-- What the law of append leaves: nothing below 'base' has turned. -/
theorem Up.grown {a w w' : World} {v : Value} (h : Up a w) (hg : w.grownBy w' v.ownBlock) (hr : ∀ k, v.ownBlock = some k → a.heap.size ≤ k) : Up a w' := Below.grown h hg h.size hr

theorem new_cells {W : World} {g : Nat} (cs : List Value) (T : TypeId) (hg : g = W.heap.size) (j : Nat) (u : Value) (hu : cs[j]? = some u) : (W.alloc (.cells cs.toArray T)).cell? ((⟨g, 0, none⟩ : Addr).add j) = some u := by
  subst hg
  have hadd : (⟨W.heap.size, 0, none⟩ : Addr).add j = ⟨W.heap.size, j, none⟩ := by unfold Addr.add; split <;> simp_all
  rw [hadd, box_cell (MapKept.heap_alloc W _).1]
  simpa using hu
theorem blkC_one (b : BlkD) : ∀ u ∈ blkC b, u.oneCell' = true := by
  intro u hu
  simp only [blkC, List.mem_cons, List.not_mem_nil, or_false] at hu
  rcases hu with rfl | rfl | rfl | rfl <;> rfl
theorem size_alloc (w : World) (o : Obj) : (w.alloc o).heap.size = w.heap.size + 1 := by simp

/-- A row's value whatever it holds; its cells where it holds something. -/
theorem ownsRow_any {w : World} {base : Nat} {e : TypeId} {size : Nat} {v : Value} {n : Nat} {xs : List Value} (h : w.ownsRow base e size v n xs) : ∃ a c, v = .slice a n c ∧ n ≤ maxLen ∧ (0 < n → ∃ g, a = some ⟨g, 0, none⟩ ∧ n ≤ c ∧ c ≤ maxLen ∧ base ≤ g ∧ g < w.heap.size ∧ ∀ j u, xs[j]? = some u → w.cell? ⟨g, j, none⟩ = some u) := by
  rcases ownsRow_read h with ⟨rfl, rfl⟩ | ⟨g, cap, rfl, h1, h2, h3, h4, h5⟩
  · exact ⟨_, _, rfl, by unfold maxLen; omega, fun h => absurd h (Nat.lt_irrefl _)⟩
  · exact ⟨_, _, rfl, Nat.le_trans h1 h2, fun _ => ⟨g, rfl, h1, h2, h3, h4, h5⟩⟩

theorem own_ne {w : World} {base : Nat} {e : TypeId} {size : Nat} {v : Value} {n : Nat} {xs : List Value} (h : w.ownsRow base e size v n xs) {g : Nat} (hg : w.heap.size ≤ g) : some g ≠ v.ownBlock := fun e => by
  have := (h.lt g e.symm).2
  omega

end Go.Proofs.Ytnbmkoapohjnmaa
