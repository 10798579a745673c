/- Plain: the text of places. Conditions: none. -/
import Derived.Test.YtmjpopfacagjhaaDoorSeek2
import Derived.Test.YtmjpopfacagjhaaDoorSets
import Derived.Lib.Join
import Derived.Lib.ItoaLen
namespace Go.Proofs.YtmjpopfacagjhaaDoor
set_option linter.unusedVariables false
set_option linter.unusedSimpArgs false
open Go

/-- A text, or a dash for the empty one. -/
def someL (l : List UInt8) : List UInt8 := if l = [] then [45] else l
theorem join_snoc (xs : List (List UInt8)) (y sep : List UInt8) (h : xs ≠ []) : Lib.join (xs ++ [y]) sep = Lib.join xs sep ++ sep ++ y := by
  cases xs with
  | nil => exact absurd rfl h
  | cons x r =>
    rw [List.cons_append, Lib.join_cons, Lib.join_cons]
    simp [Lib.joinTail]
theorem lens_le (c : Nat) : ∀ xs : List (List UInt8), (∀ x ∈ xs, x.length ≤ c) → Lib.lens xs ≤ c * xs.length
  | [], _ => by simp [Lib.lens]
  | x :: r, h => by
    have h1 := lens_le c r (fun y hy => h y (List.mem_cons_of_mem _ hy))
    have h2 := h x (List.mem_cons_self ..)
    simp only [Lib.lens, List.map_cons, List.sum_cons, List.length_cons, Nat.mul_add, Nat.mul_one] at *
    omega
theorem join_le (c : Nat) (xs : List (List UInt8)) (b : UInt8) (h : ∀ x ∈ xs, x.length ≤ c) : (Lib.join xs [b]).length ≤ (c + 1) * xs.length := by
  cases xs with
  | nil => simp [Lib.join_nil]
  | cons x r =>
    have h1 := lens_le c (x :: r) h
    have h2 := Lib.join_length x r [b]
    have h3 : [b].length * r.length = r.length := by simp
    rw [h2, h3, List.length_cons, Nat.add_mul, Nat.one_mul]
    rw [List.length_cons] at h1
    omega

/-- The text of a place. -/
def plcT (p : PlaceD) : List UInt8 := Lib.itoa p.place ++ 58 :: Lib.itoa p.start
def idxL (ps : List PlaceD) : List UInt8 := Lib.join (ps.map plcT) [32]
/-- What FormatIndex returns. -/
def fmtIx (ps : List PlaceD) : List UInt8 := if validP ps then someL (idxL ps) else []
theorem idxL_one {ps : List PlaceD} (h : 0 < ps.length) : idxL (ps.take (0 + 1)) = plcT ps[0] := by
  rw [List.take_succ_eq_append_getElem h]
  simp [idxL, Lib.join_one]
theorem idxL_succ {ps : List PlaceD} {k : Nat} (h0 : 0 < k) (h : k < ps.length) : idxL (ps.take (k + 1)) = idxL (ps.take k) ++ [32] ++ plcT ps[k] := by
  rw [List.take_succ_eq_append_getElem h]
  unfold idxL
  rw [List.map_append, List.map_singleton, join_snoc _ _ _ (by intro e; have := congrArg List.length e; simp only [List.length_map, List.length_take, List.length_nil] at this; omega)]

theorem plcB_range {ps : List PlaceD} {k : Nat} (h : k < ps.length) (hb : plcB ps k = true) : 0 ≤ ps[k].place ∧ ps[k].place ≤ 4000 ∧ 0 ≤ ps[k].start ∧ ps[k].start ≤ 2000 := by
  unfold plcB at hb
  rw [List.getElem?_eq_getElem h] at hb
  simp only [Bool.and_eq_true, decide_eq_true_eq] at hb
  exact hb.1
theorem validP_range {ps : List PlaceD} (hv : validP ps = true) : ps.length ≤ 40 ∧ ∀ k (h : k < ps.length), 0 ≤ ps[k].place ∧ ps[k].place ≤ 4000 ∧ 0 ≤ ps[k].start ∧ ps[k].start ≤ 2000 := by
  unfold validP at hv
  rw [Bool.and_eq_true, decide_eq_true_eq, List.all_eq_true] at hv
  exact ⟨hv.1, fun k h => plcB_range h (hv.2 k (List.mem_range.2 h))⟩
theorem itoa_le {n : Int} (h0 : -1000000 ≤ n) (h1 : n ≤ 1000000) : (Lib.itoa n).length ≤ 21 := Lib.itoa_length_le n (by omega) (by omega)
theorem plcT_le {ps : List PlaceD} (hv : validP ps = true) : ∀ p ∈ ps, (plcT p).length ≤ 43 := by
  intro p hp
  obtain ⟨k, hk, rfl⟩ := List.getElem_of_mem hp
  obtain ⟨a, b, c, d⟩ := (validP_range hv).2 k hk
  have h1 := itoa_le (n := ps[k].place) (by omega) (by omega)
  have h2 := itoa_le (n := ps[k].start) (by omega) (by omega)
  simp only [plcT, List.length_append, List.length_cons]
  omega
theorem idxL_le {ps : List PlaceD} (hv : validP ps = true) (k : Nat) : (idxL (ps.take k)).length ≤ 1760 := by
  have h1 := join_le 43 ((ps.take k).map plcT) 32 (fun x hx => by
    obtain ⟨p, hp, rfl⟩ := List.mem_map.1 hx
    exact plcT_le hv p (List.mem_of_mem_take hp))
  have h2 := (validP_range hv).1
  have h3 : ((ps.take k).map plcT).length ≤ 40 := by rw [List.length_map, List.length_take]; omega
  unfold idxL
  have := Nat.mul_le_mul_left 44 h3
  omega
theorem fmtIx_le (ps : List PlaceD) : (fmtIx ps).length ≤ 1760 := by
  unfold fmtIx
  cases hv : validP ps
  · simp
  · have := idxL_le hv ps.length
    rw [List.take_length] at this
    simp only [if_true, someL]
    split
    · simp
    · exact this

end Go.Proofs.YtmjpopfacagjhaaDoor
