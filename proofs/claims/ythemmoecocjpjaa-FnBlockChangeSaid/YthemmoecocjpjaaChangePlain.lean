/- Plain: bytes of a block of which one is changed, but not one that tells the length of the body, and not to an equal one modulo 255, are no block. Conditions: the block's parts fit together. -/
import Derived.Test.YthemmoecocjpjaaTextPlain
namespace Go.Proofs.Ythemmoecocjpjaa
set_option linter.unusedVariables false
set_option linter.unusedSimpArgs false
open Go.RowKit

def sumB (l : List UInt8) : Int := (l.map fun x => (x.toNat : Int)).sum
theorem sumAB_one (l : List UInt8) : (sumAB l).1 = sumB l % 255 := by
  have : ∀ (l : List UInt8) (p : Int × Int), (l.foldl sumStep p).1 % 255 = (p.1 + sumB l) % 255 := by
    intro l
    induction l with
    | nil => intro p; simp [sumB]
    | cons x l ih =>
      intro p
      rw [List.foldl_cons, ih]
      simp only [sumStep, sumB, List.map_cons, List.sum_cons]
      omega
  have h := this l (0, 0)
  have hb := sumAB_bd l
  have e : sumAB l = l.foldl sumStep (0, 0) := rfl
  rw [← e] at h
  simp only [Int.zero_add] at h
  omega
theorem sumB_set : ∀ (l : List UInt8) (j : Nat) (v : UInt8) (h : j < l.length), sumB (l.set j v) = sumB l - (l[j].toNat : Int) + v.toNat
  | [], j, v, h => absurd h (Nat.not_lt_zero _)
  | x :: l, 0, v, h => by simp [sumB]; omega
  | x :: l, j + 1, v, h => by
    have := sumB_set l j v (by simpa using h)
    simp only [List.set_cons_succ, List.getElem_cons_succ]
    simp only [sumB, List.map_cons, List.sum_cons] at *
    omega
theorem sumOf_ne {s t : ByteArray} (h : (sumB s.data.toList - sumB t.data.toList) % 255 ≠ 0) : sumOf s ≠ sumOf t := by
  intro e
  unfold sumOf at e
  have h1 := sumAB_bd s.data.toList
  have h2 := sumAB_bd t.data.toList
  have e1 := sumAB_one s.data.toList
  have e2 := sumAB_one t.data.toList
  omega

/-- A string of which one byte is changed. -/
def chg (T : ByteArray) (i : Nat) (x : Int) : ByteArray := T.extract 0 i ++ strOfNums [x] ++ T.extract (i + 1) T.size
theorem chg_list (T : ByteArray) (i : Nat) (x : Int) (h : i < T.size) : (chg T i x).data.toList = T.data.toList.set i (u8of x) := by
  have hl : T.data.toList.length = T.size := by simp
  unfold chg
  rw [ba_append, ba_append, ba_nums, Lib.extract_data, Lib.extract_data, List.drop_zero, Nat.sub_zero]
  rw [List.take_of_length_le (l := T.data.toList.drop (i + 1)) (by rw [List.length_drop]; omega)]
  rw [List.set_eq_take_append_cons_drop, if_pos (by omega)]
  simp [u8of]
theorem chg_size (T : ByteArray) (i : Nat) (x : Int) (h : i < T.size) : (chg T i x).size = T.size := by
  have h1 := congrArg List.length (chg_list T i x h)
  simpa using h1
theorem chg_at (T : ByteArray) (i : Nat) (x : Int) (h : i < T.size) (h0 : 0 ≤ x) (h1 : x ≤ 255) : byteAt (chg T i x) i = x := by
  have hl : T.data.toList.length = T.size := by simp
  unfold byteAt
  rw [chg_list T i x h, List.getD_eq_getElem?_getD, List.getElem?_set_self (by omega)]
  exact u8of_nat h0 h1
theorem chg_ne (T : ByteArray) (i j : Nat) (x : Int) (h : i < T.size) (hj : j ≠ i) : byteAt (chg T i x) j = byteAt T j := by
  unfold byteAt
  rw [chg_list T i x h, List.getD_eq_getElem?_getD, List.getD_eq_getElem?_getD, List.getElem?_set_ne (Ne.symm hj)]

theorem parse_changed {n : Int} {r : Bool} {s : Int} {b : ByteArray} (h : formB n r s b = true) {i : Nat} {x : Int} (hi : i < (textB n r s b).size) (h6 : i ≠ 6) (h7 : i ≠ 7) (x0 : 0 ≤ x) (x1 : x ≤ 255) (hx : (x - byteAt (textB n r s b) i) % 255 ≠ 0) :
    parseV (chg (textB n r s b) i x) 0 = noBlock := by
  obtain ⟨g1, g2, g3⟩ := formB_bd h
  have t := textOf (r := r) g1 g2 g3
  generalize textB n r s b = T at *
  have hz := t.size
  have hcs := chg_size T i x hi
  have hsb := sumOf_bd (inner n r s b)
  have e6 : numAt (chg T i x) 6 = b.size := by
    have := t.n6
    unfold numAt at *
    rw [chg_ne T i 6 x hi (Ne.symm h6), chg_ne T i 7 x hi (Ne.symm h7)]
    exact this
  have ee : endAt (chg T i x) 0 = 8 + b.size := by unfold endAt; rw [Nat.zero_add, Nat.zero_add, e6]; omega
  have hp : parseOk (chg T i x) 0 = false := by
    by_cases hi0 : i = 0
    · subst hi0
      have e0 := chg_at T 0 x hi x0 x1
      have hb0 := t.b0
      have : (byteAt (chg T 0 x) 0 == 181) = false := by rw [e0]; simp; omega
      unfold parseOk headOk
      rw [this]
      simp
    · have hsum : (sumOf ((chg T i x).extract 1 (8 + b.size)) == numAt (chg T i x) (8 + b.size)) = false := by
        rw [beq_eq_false_iff_ne]
        by_cases hib : i < 8 + b.size
        · -- a byte of the inner part
          have en : numAt (chg T i x) (8 + b.size) = sumOf (inner n r s b) := by
            have := t.sum
            unfold numAt at *
            rw [chg_ne T i _ x hi (by omega), chg_ne T i _ x hi (by omega)]
            exact this
          rw [en, ← t.inn]
          apply sumOf_ne
          have hl : T.data.toList.length = T.size := by simp
          rw [Lib.extract_data, Lib.extract_data, chg_list T i x hi, List.drop_set, if_neg (by omega), List.take_set]
          have hlen : i - 1 < ((T.data.toList.drop 1).take (8 + b.size - 1)).length := by rw [List.length_take, List.length_drop]; omega
          rw [sumB_set _ _ _ hlen]
          have eb : ((((T.data.toList.drop 1).take (8 + b.size - 1))[i - 1]).toNat : Int) = byteAt T i := by
            unfold byteAt
            have hh : i < T.data.toList.length := by omega
            rw [List.getD_eq_getElem?_getD, List.getElem?_eq_getElem hh, List.getElem_take, List.getElem_drop]
            have : 1 + (i - 1) = i := by omega
            simp only [this, Option.getD_some]
          rw [eb, u8of_nat x0 x1]
          omega
        · have ex : (chg T i x).extract 1 (8 + b.size) = T.extract 1 (8 + b.size) := by
            apply ba_ext
            rw [Lib.extract_data, Lib.extract_data, chg_list T i x hi, List.drop_set, if_neg (by omega), List.take_set, List.set_eq_of_length_le (by rw [List.length_take, List.length_drop]; omega)]
          rw [ex, t.inn]
          have hs := t.sum
          have ba := byteAt_bd T (8 + b.size)
          have bb := byteAt_bd T (8 + b.size + 1)
          rcases (by omega : i = 8 + b.size ∨ i = 8 + b.size + 1) with e | e
          · subst e
            unfold numAt at *
            rw [chg_at T _ x hi x0 x1, chg_ne T _ _ x hi (by omega)]
            omega
          · subst e
            unfold numAt at *
            rw [chg_at T _ x hi x0 x1, chg_ne T _ _ x hi (by omega)]
            omega
      unfold parseOk
      rw [ee, Nat.zero_add, hsum, Bool.and_false]
  exact parseV_not hp

end Go.Proofs.Ythemmoecocjpjaa
