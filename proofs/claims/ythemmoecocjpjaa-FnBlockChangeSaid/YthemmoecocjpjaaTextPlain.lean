/- Plain: a block is parsed from its bytes, whatever is before and behind them, and not without the last one. Conditions: the block's parts fit together. -/
import Derived.Test.YthemmoecocjpjaaBlk3
import Derived.Test.YthemmoecocjpjaaBytes
import Derived.Test.YthemmoecocjpjaaParse2
namespace Go.Proofs.Ythemmoecocjpjaa
set_option linter.unusedVariables false
set_option linter.unusedSimpArgs false
open Go.RowKit

theorem byteAt_mid (A T C : ByteArray) (i : Nat) (h : i < T.size) : byteAt (A ++ T ++ C) (A.size + i) = byteAt T i := by
  have hA : A.data.toList.length = A.size := by simp
  have hT : T.data.toList.length = T.size := by simp
  unfold byteAt
  rw [ba_append, ba_append, List.append_assoc, List.getD_eq_getElem?_getD, List.getD_eq_getElem?_getD, List.getElem?_append_right (by omega), hA, show A.size + i - A.size = i by omega, List.getElem?_append_left (by omega)]
theorem numAt_mid (A T C : ByteArray) (i : Nat) (h : i + 1 < T.size) : numAt (A ++ T ++ C) (A.size + i) = numAt T i := by
  unfold numAt
  rw [byteAt_mid A T C i (by omega), show A.size + i + 1 = A.size + (i + 1) by omega, byteAt_mid A T C (i + 1) h]
theorem ext_mid (A T C : ByteArray) (i j : Nat) (hij : i ≤ j) (hj : j ≤ T.size) : (A ++ T ++ C).extract (A.size + i) (A.size + j) = T.extract i j := by
  have hA : A.data.toList.length = A.size := by simp
  have hT : T.data.toList.length = T.size := by simp
  apply ba_ext
  rw [Lib.extract_data, Lib.extract_data, ba_append, ba_append, List.append_assoc, List.drop_append, List.drop_of_length_le (by omega), List.nil_append, hA, show A.size + i - A.size = i by omega, List.drop_append_of_le_length (by omega), List.take_append_of_le_length (by rw [List.length_drop]; omega), show A.size + j - (A.size + i) = j - i by omega]
theorem size3 (A T C : ByteArray) : (A ++ T ++ C).size = A.size + T.size + C.size := by rw [ByteArray.size_append, ByteArray.size_append]

def u8of (n : Int) : UInt8 := UInt8.ofNat n.toNat
theorem u8of_nat {n : Int} (h0 : 0 ≤ n) (h1 : n ≤ 255) : ((u8of n).toNat : Int) = n := by unfold u8of; rw [UInt8.toNat_ofNat']; omega
theorem text_list (n : Int) (r : Bool) (s : Int) (b : ByteArray) : (textB n r s b).data.toList = [u8of 181, u8of (kindB r), u8of (n / 256), u8of (n % 256), u8of (s / 256), u8of (s % 256), u8of ((b.size : Int) / 256), u8of ((b.size : Int) % 256)] ++ (b.data.toList ++ [u8of (sumOf (inner n r s b) / 256), u8of (sumOf (inner n r s b) % 256)]) := by
  unfold textB
  rw [ba_append, ba_append, ba_nums, two, ba_nums]
  conv => lhs; arg 1; arg 2; unfold inner
  simp only [ba_append, two, ba_nums]
  simp [u8of]
theorem text_size (n : Int) (r : Bool) (s : Int) (b : ByteArray) : (textB n r s b).size = b.size + 10 := by
  have h := congrArg List.length (text_list n r s b)
  have hT : (textB n r s b).data.toList.length = (textB n r s b).size := by simp
  have hb : b.data.toList.length = b.size := by simp
  rw [hT, List.length_append, List.length_append, hb] at h
  simp at h
  omega
/-- What the bytes of a block are. -/
structure TextOf (n : Int) (r : Bool) (s : Int) (b T : ByteArray) : Prop where
  size : T.size = b.size + 10
  b0 : byteAt T 0 = 181
  b1 : byteAt T 1 = kindB r
  n2 : numAt T 2 = n
  n4 : numAt T 4 = s
  n6 : numAt T 6 = b.size
  body : T.extract 8 (8 + b.size) = b
  inn : T.extract 1 (8 + b.size) = inner n r s b
  sum : numAt T (8 + b.size) = sumOf (inner n r s b)
theorem textOf {n : Int} {r : Bool} {s : Int} {b : ByteArray} (h1 : 0 ≤ n ∧ n ≤ 39) (h2 : 1 ≤ s ∧ s ≤ 64) (h3 : b.size ≤ 64) : TextOf n r s b (textB n r s b) := by
  have hl := text_list n r s b
  have hs := text_size n r s b
  have hsb := sumOf_bd (inner n r s b)
  have hbl : b.data.toList.length = b.size := by simp
  have hk : 0 ≤ kindB r ∧ kindB r ≤ 255 := by unfold kindB; split <;> omega
  have hlow : ∀ i (x : Int), 0 ≤ x → x ≤ 255 → ([u8of 181, u8of (kindB r), u8of (n / 256), u8of (n % 256), u8of (s / 256), u8of (s % 256), u8of ((b.size : Int) / 256), u8of ((b.size : Int) % 256)] : List UInt8)[i]? = some (u8of x) → byteAt (textB n r s b) i = x := fun i x x0 x1 hi => by
    unfold byteAt
    rw [hl, List.getD_eq_getElem?_getD, List.getElem?_append_left (List.getElem?_eq_some_iff.1 hi).1, hi]
    exact u8of_nat x0 x1
  have hhigh : ∀ i (x : Int), 0 ≤ x → x ≤ 255 → ([u8of (sumOf (inner n r s b) / 256), u8of (sumOf (inner n r s b) % 256)] : List UInt8)[i]? = some (u8of x) → byteAt (textB n r s b) (8 + b.size + i) = x := fun i x x0 x1 hi => by
    unfold byteAt
    rw [hl, List.getD_eq_getElem?_getD, List.getElem?_append_right (by simp; omega), List.getElem?_append_right (by simp; omega)]
    rw [show 8 + b.size + i - ([u8of 181, u8of (kindB r), u8of (n / 256), u8of (n % 256), u8of (s / 256), u8of (s % 256), u8of ((b.size : Int) / 256), u8of ((b.size : Int) % 256)] : List UInt8).length - b.data.toList.length = i by rw [hbl]; simp; omega, hi]
    exact u8of_nat x0 x1
  have hbody : (textB n r s b).extract 8 (8 + b.size) = b := by
    apply ba_ext
    rw [Lib.extract_data, hl, show 8 + b.size - 8 = b.size by omega]
    rw [List.drop_append_of_le_length (by simp), List.drop_of_length_le (by simp), List.nil_append, List.take_append_of_le_length (by omega), ← hbl, List.take_length]
  refine ⟨hs, hlow 0 181 (by omega) (by omega) rfl, hlow 1 _ hk.1 hk.2 rfl, ?_, ?_, ?_, hbody, ?_, ?_⟩
  · unfold numAt; rw [hlow 2 (n / 256) (by omega) (by omega) rfl, hlow 3 (n % 256) (by omega) (by omega) rfl]; omega
  · unfold numAt; rw [hlow 4 (s / 256) (by omega) (by omega) rfl, hlow 5 (s % 256) (by omega) (by omega) rfl]; omega
  · unfold numAt; rw [hlow 6 ((b.size : Int) / 256) (by omega) (by omega) rfl, hlow 7 ((b.size : Int) % 256) (by omega) (by omega) rfl]; omega
  · have e : inner n r s b = strOfNums [kindB r] ++ two n ++ two s ++ two b.size ++ b := rfl
    apply ba_ext
    rw [Lib.extract_data, hl, show 8 + b.size - 1 = b.size + 7 by omega]
    conv => rhs; rw [e]
    simp only [ba_append, two, ba_nums]
    simp only [List.cons_append, List.nil_append, List.drop_succ_cons, List.drop_zero, List.map_cons, List.map_nil, List.append_assoc]
    rw [show b.size + 7 = b.size + 1 + 1 + 1 + 1 + 1 + 1 + 1 by omega]
    simp only [List.take_succ_cons]
    rw [List.take_append_of_le_length (by omega), ← hbl, List.take_length]
    rfl
  · unfold numAt
    have g1 := hhigh 0 (sumOf (inner n r s b) / 256) (by omega) (by omega) rfl
    have g2 := hhigh 1 (sumOf (inner n r s b) % 256) (by omega) (by omega) rfl
    rw [Nat.add_zero] at g1
    rw [g1, g2]
    omega

theorem parse_text {n : Int} {r : Bool} {s : Int} {b : ByteArray} (h : formB n r s b = true) (A C : ByteArray) :
    parseV (A ++ textB n r s b ++ C) (A.size : Nat) = .tuple #[.agg #[.int .i64 n, .bool r, .int .i64 s, .string b], .int .i64 (A.size + (textB n r s b).size : Nat), .bool true] := by
  obtain ⟨h1, h2, h3⟩ := formB_bd h
  have t := textOf (r := r) h1 h2 h3
  generalize textB n r s b = T at *
  have hz := t.size
  have hsz := size3 A T C
  have e0 : byteAt (A ++ T ++ C) A.size = 181 := by have := byteAt_mid A T C 0 (by omega); rw [Nat.add_zero] at this; rw [this, t.b0]
  have e1 : byteAt (A ++ T ++ C) (A.size + 1) = kindB r := by rw [byteAt_mid A T C 1 (by omega), t.b1]
  have e2 : numAt (A ++ T ++ C) (A.size + 2) = n := by rw [numAt_mid A T C 2 (by omega), t.n2]
  have e4 : numAt (A ++ T ++ C) (A.size + 4) = s := by rw [numAt_mid A T C 4 (by omega), t.n4]
  have e6 : numAt (A ++ T ++ C) (A.size + 6) = b.size := by rw [numAt_mid A T C 6 (by omega), t.n6]
  have ee : endAt (A ++ T ++ C) A.size = A.size + (8 + b.size) := by unfold endAt; rw [e6]; omega
  have eb : bodyAt (A ++ T ++ C) A.size = b := by
    unfold bodyAt; rw [e6, show A.size + 8 + ((b.size : Nat) : Int).toNat = A.size + (8 + b.size) by omega, ext_mid A T C 8 (8 + b.size) (by omega) (by omega), t.body]
  have ei : (A ++ T ++ C).extract (A.size + 1) (endAt (A ++ T ++ C) A.size) = inner n r s b := by rw [ee, ext_mid A T C 1 (8 + b.size) (by omega) (by omega), t.inn]
  have es : numAt (A ++ T ++ C) (endAt (A ++ T ++ C) A.size) = sumOf (inner n r s b) := by rw [ee, numAt_mid A T C (8 + b.size) (by omega), t.sum]
  have ek : (kindB r == 0) = r := by cases r <;> rfl
  have hk1 : kindB r ≤ 1 := by cases r <;> decide
  have hp : parseOk (A ++ T ++ C) A.size = true := by
    unfold parseOk headOk
    rw [e0, e1, e2, e4, eb, ei, es, ek, h, ee]
    simp only [Bool.and_eq_true, decide_eq_true_eq, beq_iff_eq]
    refine ⟨⟨⟨⟨⟨by omega, trivial⟩, hk1⟩, by omega⟩, trivial⟩, trivial⟩
  rw [parseV_yes hp]
  unfold parsed
  rw [e1, e2, e4, eb, ek, ee]
  have : A.size + (8 + b.size) + 2 = A.size + T.size := by omega
  rw [this]
theorem parse_short {n : Int} {r : Bool} {s : Int} {b : ByteArray} (h : formB n r s b = true) : parseV ((textB n r s b).extract 0 ((textB n r s b).size - 1)) 0 = noBlock := by
  obtain ⟨h1, h2, h3⟩ := formB_bd h
  have hb1 : 1 ≤ b.size := by
    unfold formB at h
    simp only [Bool.and_eq_true, inB_iff] at h
    have h4 := h.2
    split at h4
    · have : (b.size : Int) = s := by simpa using h4
      omega
    · rw [inB_iff] at h4; omega
  have t := textOf (r := r) h1 h2 h3
  generalize textB n r s b = T at *
  have hz := t.size
  have hx : (T.extract 0 (T.size - 1)).size = T.size - 1 := by rw [ByteArray.size_extract]; omega
  have e6 : numAt (T.extract 0 (T.size - 1)) 6 = b.size := by
    rw [numAt_extract T 0 (T.size - 1) 6 (by omega) (by omega), Nat.zero_add, t.n6]
  have hp : parseOk (T.extract 0 (T.size - 1)) 0 = false := by
    unfold parseOk endAt
    rw [Nat.zero_add, Nat.zero_add, e6, hx]
    have : decide (8 + ((b.size : Nat) : Int).toNat + 2 ≤ T.size - 1) = false := by simp; omega
    rw [this]
    simp
  exact parseV_not hp

end Go.Proofs.Ythemmoecocjpjaa
