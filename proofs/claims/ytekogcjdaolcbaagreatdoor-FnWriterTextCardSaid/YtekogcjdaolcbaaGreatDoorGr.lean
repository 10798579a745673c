/- Walk of the reference's l2Greedy. Conditions: what is known is valid and can be read; the data fits. -/
import Derived.Test.YtekogcjdaolcbaaGreatDoorIn
namespace Go.Proofs.YtekogcjdaolcbaaGreatDoor
set_option linter.unusedVariables false
set_option linter.unusedSimpArgs false
open Go Go.RowKit

/-- No code is left for a word, and a clear code would make room. -/
def KnD.full (k : KnD) : Bool := decide (lastC k.set < k.next) && decide (k.base < k.ps.length)
/-- The codes of the longest words, behind the first clear code. -/
def greedyN : Nat → KnD → List UInt8 → List Int
  | 0, k, _ => [(k.c : Int) + 1]
  | n + 1, k, d => if d = [] then [(k.c : Int) + 1] else
      k.find (k.longest d) :: (if (k.after (k.find (k.longest d))).full = true ∧ d.drop (k.longest d).length ≠ [] then (k.c : Int) :: greedyN n (k.after (k.find (k.longest d))).cleared (d.drop (k.longest d).length) else greedyN n (k.after (k.find (k.longest d))) (d.drop (k.longest d).length))
def greedy (k : KnD) (d : List UInt8) : List Int := (k.c : Int) :: greedyN d.length k.cleared d
theorem greedyN_nil (n : Nat) (k : KnD) : greedyN n k [] = [(k.c : Int) + 1] := by cases n <;> simp [greedyN]
theorem greedyN_full {n : Nat} {k : KnD} {d : List UInt8} {x : Int} {w : List UInt8} (hd : d ≠ []) (hw : k.longest d = w) (hx : k.find w = x) (hf : (k.after x).full = true) (hn : d.drop w.length ≠ []) : greedyN (n + 1) k d = x :: (k.c : Int) :: greedyN n (k.after x).cleared (d.drop w.length) := by
  subst hw; subst hx
  rw [greedyN, if_neg hd, if_pos ⟨hf, hn⟩]
theorem greedyN_more {n : Nat} {k : KnD} {d : List UInt8} {x : Int} {w : List UInt8} (hd : d ≠ []) (hw : k.longest d = w) (hx : k.find w = x) (hf : ¬ ((k.after x).full = true ∧ d.drop w.length ≠ [])) : greedyN (n + 1) k d = x :: greedyN n (k.after x) (d.drop w.length) := by
  subst hw; subst hx
  rw [greedyN, if_neg hd, if_neg hf]
structure GrAt (T : List Int) (w : World) (k : KnD) (d : List UInt8) (v : Value) (n : Nat) (acc : List Int) (out : Value) (wr : World) : Prop where
  len : d.length ≤ n
  le : d.length ≤ 2000
  sum : acc.length + 2 * d.length ≤ 4001
  tot : acc ++ greedyN n k d = T
  ok : k.Ok
  lit : ∀ b ∈ d, b.toNat < k.c
  kn : KnAt w.heap.size k v wr
  pr : ownPr wr (w.heap.size + 1) v k.ps
  own : ownI wr (w.heap.size + 1) out acc
  up : Up w wr
theorem GrAt.step {T : List Int} {w : World} {k : KnD} {d : List UInt8} {v : Value} {m : Nat} {acc : List Int} {out : Value} {wr : World} (h : GrAt T w k d v (m + 1) acc out wr) (hd : d ≠ []) {x : Int} {wl : List UInt8} (hw : k.longest d = wl) (hx : k.find wl = x)
    (hf : ¬ ((k.after x).full = true ∧ d.drop wl.length ≠ [])) {W : World} {v5 out4 : Value} (h1 : KnAt w.heap.size (k.after x) v5 W) (h2 : ownPr W (w.heap.size + 1) v5 (k.after x).ps) (h3 : ownI W (w.heap.size + 1) out4 (acc ++ [x])) (h4 : Up w W) : GrAt T w (k.after x) (d.drop wl.length) v5 m (acc ++ [x]) out4 W := by
  have hp := KnD.longest_pos (k := k) hd
  have hl := KnD.longest_le (k := k) d
  have hfa := KnD.find_any h.ok hd h.lit
  rw [hw] at hp hl hfa
  rw [hx] at hfa
  have h5 := h.len; have h6 := h.le; have h7 := h.sum
  refine ⟨by rw [List.length_drop]; omega, by rw [List.length_drop]; omega, by rw [List.length_drop, List.length_append]; simp; omega, ?_, KnD.after_ok h.ok hfa.1, fun b hb => h.lit b (List.mem_of_mem_drop hb), h1, h2, h3, h4⟩
  rw [← h.tot, greedyN_more hd hw hx hf, List.append_assoc]; rfl
theorem GrAt.step2 {T : List Int} {w : World} {k : KnD} {d : List UInt8} {v : Value} {m : Nat} {acc : List Int} {out : Value} {wr : World} (h : GrAt T w k d v (m + 1) acc out wr) (hd : d ≠ []) {x : Int} {wl : List UInt8} (hw : k.longest d = wl) (hx : k.find wl = x)
    (hf : (k.after x).full = true) (hn : d.drop wl.length ≠ []) {W : World} {v5 out4 : Value} (h1 : KnAt w.heap.size (k.after x).cleared v5 W) (h2 : ownPr W (w.heap.size + 1) v5 (k.after x).cleared.ps) (h3 : ownI W (w.heap.size + 1) out4 (acc ++ [x] ++ [(k.c : Int)])) (h4 : Up w W) : GrAt T w (k.after x).cleared (d.drop wl.length) v5 m (acc ++ [x] ++ [(k.c : Int)]) out4 W := by
  have hp := KnD.longest_pos (k := k) hd
  have hl := KnD.longest_le (k := k) d
  have hfa := KnD.find_any h.ok hd h.lit
  rw [hw] at hp hl hfa
  rw [hx] at hfa
  have h5 := h.len; have h6 := h.le; have h7 := h.sum
  refine ⟨by rw [List.length_drop]; omega, by rw [List.length_drop]; omega, by rw [List.length_drop, List.length_append, List.length_append]; simp; omega, ?_, KnD.cleared_ok (KnD.after_ok h.ok hfa.1), fun b hb => h.lit b (List.mem_of_mem_drop hb), h1, h2, h3, h4⟩
  rw [← h.tot, greedyN_full hd hw hx hf hn, List.append_assoc, List.append_assoc]; rfl
def RelGr (T : List Int) (w : World) (t out : Value) (wr : World) : Prop := ∃ (k : KnD) (d : List UInt8) (v : Value) (n : Nat) (acc : List Int), t = .string (bs d) ∧ GrAt T w k d v n acc out wr

end Go.Proofs.YtekogcjdaolcbaaGreatDoor
