/- Plain facts on strings of bytes: parts of a string, two bytes of a number, and what a block's text is. Conditions: as each says. -/
import Derived.Test.YtnbmkoapohjnmaaParse1
namespace Go.Proofs.Ytnbmkoapohjnmaa
set_option linter.unusedVariables false
set_option linter.unusedSimpArgs false
open Go.RowKit

theorem ba_ext {a b : ByteArray} (h : a.data.toList = b.data.toList) : a = b := ByteArray.ext (Array.toList_inj.1 h)
theorem ba_ne {a b : ByteArray} (h : a ≠ b) : (a.toList == b.toList) = false := by
  rw [beq_eq_false_iff_ne]
  intro e
  rw [Lib.toList_data, Lib.toList_data] at e
  exact h (ba_ext e)
theorem ba_append (a b : ByteArray) : (a ++ b).data.toList = a.data.toList ++ b.data.toList := by simp
theorem ba_nums (l : List Int) : (strOfNums l).data.toList = l.map fun n => UInt8.ofNat n.toNat := by simp [strOfNums]

theorem ext_split (s : ByteArray) (i l j : Nat) (h1 : i ≤ l) (h2 : l ≤ j) : s.extract i j = s.extract i l ++ s.extract l j := by
  apply ba_ext
  rw [ba_append, Lib.extract_data, Lib.extract_data, Lib.extract_data]
  generalize s.data.toList = L
  have e : j - i = (l - i) + (j - l) := by omega
  rw [e, List.take_add, List.drop_drop, show i + (l - i) = l by omega]

theorem ext_one (s : ByteArray) (i : Nat) (h : i < s.size) : s.extract i (i + 1) = strOfNums [byteAt s i] := by
  apply ba_ext
  rw [Lib.extract_data, ba_nums, show i + 1 - i = 1 by omega]
  have h' : i < s.data.toList.length := by simpa using h
  rw [List.drop_eq_getElem_cons h']
  simp [byteAt, List.getD_eq_getElem?_getD, List.getElem?_eq_getElem h']

theorem ext_two (s : ByteArray) (i : Nat) (h : i + 1 < s.size) : s.extract i (i + 2) = strOfNums [byteAt s i, byteAt s (i + 1)] := by
  rw [ext_split s i (i + 1) (i + 2) (by omega) (by omega), ext_one s i (by omega), ext_one s (i + 1) (by omega)]
  apply ba_ext
  rw [ba_append, ba_nums, ba_nums, ba_nums]; rfl

theorem two_num (s : ByteArray) (i : Nat) (h : i + 1 < s.size) : two (numAt s i) = s.extract i (i + 2) := by
  have h1 := byteAt_bd s i; have h2 := byteAt_bd s (i + 1)
  rw [ext_two s i h, two, numAt, show (256 * byteAt s i + byteAt s (i + 1)) / 256 = byteAt s i by omega, show (256 * byteAt s i + byteAt s (i + 1)) % 256 = byteAt s (i + 1) by omega]

theorem two_inj {x y : Int} (hx : 0 ≤ x ∧ x ≤ 65535) (hy : 0 ≤ y ∧ y ≤ 65535) (h : two x = two y) : x = y := by
  have h1 := congrArg (fun a => a.data.toList) h
  simp only [two, ba_nums, List.map_cons, List.map_nil, List.cons.injEq, and_true] at h1
  obtain ⟨a, b⟩ := h1
  have a' := congrArg UInt8.toNat a
  have b' := congrArg UInt8.toNat b
  simp only [UInt8.toNat_ofNat'] at a' b'
  omega

theorem inner_at (s : ByteArray) (k m : Nat) (hfit : k + 8 + m + 2 ≤ s.size) (hm : numAt s (k + 6) = m) (h1 : byteAt s (k + 1) ≤ 1) :
    inner (numAt s (k + 2)) (byteAt s (k + 1) == 0) (numAt s (k + 4)) (s.extract (k + 8) (k + 8 + m)) = s.extract (k + 1) (k + 8 + m) := by
  have hs : (s.extract (k + 8) (k + 8 + m)).size = m := by simp; omega
  have hk : strOfNums [kindB (byteAt s (k + 1) == 0)] = s.extract (k + 1) (k + 2) := by
    rw [ext_one s (k + 1) (by omega)]
    have := byteAt_bd s (k + 1)
    rcases (by omega : byteAt s (k + 1) = 0 ∨ byteAt s (k + 1) = 1) with e | e <;> rw [e] <;> rfl
  unfold inner
  rw [hs, ← hm, hk, two_num s (k + 2) (by omega), two_num s (k + 4) (by omega), two_num s (k + 6) (by omega), ← ext_split, ← ext_split, ← ext_split, ← ext_split] <;> omega

theorem text_at (s : ByteArray) (k m : Nat) (hfit : k + 8 + m + 2 ≤ s.size) (hm : numAt s (k + 6) = m) (h0 : byteAt s k = 181) (h1 : byteAt s (k + 1) ≤ 1) :
    textB (numAt s (k + 2)) (byteAt s (k + 1) == 0) (numAt s (k + 4)) (s.extract (k + 8) (k + 8 + m)) = s.extract k (k + 10 + m) ↔ sumOf (s.extract (k + 1) (k + 8 + m)) = numAt s (k + 8 + m) := by
  unfold textB
  rw [inner_at s k m hfit hm h1]
  have e0 : strOfNums [181] = s.extract k (k + 1) := by rw [ext_one s k (by omega), h0]
  rw [e0, ← ext_split s k (k + 1) (k + 8 + m) (by omega) (by omega), ext_split s k (k + 8 + m) (k + 10 + m) (by omega) (by omega), show k + 10 + m = k + 8 + m + 2 by omega, ← two_num s (k + 8 + m) (by omega)]
  constructor
  · intro h
    have h' := congrArg (fun a => a.data.toList) h
    simp only [ba_append] at h'
    have h'' := List.append_cancel_left h'
    exact two_inj (by have := sumOf_bd (s.extract (k + 1) (k + 8 + m)); omega) (numAt_bd _ _) (ba_ext h'')
  · intro h; rw [h]

end Go.Proofs.Ytnbmkoapohjnmaa
