/- Walks of the checksum. Conditions: the string's length is below the model's bound. -/
import Derived.Test.YtnbmkoapohjnmaaBlk1
namespace Go.Proofs.Ytnbmkoapohjnmaa
set_option linter.unusedVariables false
set_option linter.unusedSimpArgs false
open Go.RowKit

/-- The checksum's two sums. -/
def sumStep (p : Int × Int) (x : UInt8) : Int × Int := ((p.1 + x.toNat) % 255, (p.2 + (p.1 + x.toNat) % 255) % 255)
def sumAB (l : List UInt8) : Int × Int := l.foldl sumStep (0, 0)
def sumOf (s : ByteArray) : Int := 256 * (sumAB s.data.toList).2 + (sumAB s.data.toList).1
theorem sumAB_snoc (l : List UInt8) (x : UInt8) : sumAB (l ++ [x]) = sumStep (sumAB l) x := by simp [sumAB, List.foldl_append]
theorem sumAB_bd (l : List UInt8) : 0 ≤ (sumAB l).1 ∧ (sumAB l).1 ≤ 254 ∧ 0 ≤ (sumAB l).2 ∧ (sumAB l).2 ≤ 254 := by
  rcases List.eq_nil_or_concat l with rfl | ⟨l', x, rfl⟩
  · decide
  · rw [List.concat_eq_append, sumAB_snoc]; simp only [sumStep]; omega
theorem sumOf_bd (s : ByteArray) : 0 ≤ sumOf s ∧ sumOf s ≤ 65278 := by
  have := sumAB_bd s.data.toList
  unfold sumOf; omega
theorem take_snoc (s : ByteArray) (k : Nat) (h : k < s.size) : s.data.toList.take (k + 1) = s.data.toList.take k ++ [s[k]] := by
  rw [List.take_succ_eq_append_getElem (by simpa using h)]; rfl
theorem u8_bd (x : UInt8) : (x.toNat : Int) ≤ 255 := by have := x.toNat_lt; omega

set_option maxHeartbeats 400000 in
theorem sumS_any (s : ByteArray) (w : World) (hs : s.size ≤ 9223372036854775807) :
    Calls Try.prog 36 #[.string s] w fun e w' => e = .returned (.int .i64 (sumOf s)) ∧ w = w' := by
  go_enter Try.func36, Try.ntmps36
  go_wp2
  go_loop [3, 4, 5] (fun a b i => ∃ k : Nat, k ≤ s.size ∧ i = .int .i64 k ∧ a = .int .i64 (sumAB (s.data.toList.take k)).1 ∧ b = .int .i64 (sumAB (s.data.toList.take k)).2) (fun _ _ i => s.size - (intOf i).toNat)
  case atStart => exact ⟨0, Nat.zero_le _, rfl, rfl, rfl⟩
  case round =>
    obtain ⟨k, hk, rfl, rfl, rfl⟩ := hrel
    obtain ⟨h1, h2, h3, h4⟩ := sumAB_bd (s.data.toList.take k)
    by_cases hlt : k < s.size
    · have hu := u8_bd s[k]
      have HS : Hid (sumAB (s.data.toList.take (k + 1)) = sumStep (sumAB (s.data.toList.take k)) s[k]) := by rw [take_snoc s k hlt]; exact sumAB_snoc _ _
      go_wp2
      go_round
      case rel => exact ⟨k + 1, by omega, by go_num, by rw [HS.out]; rfl, by rw [HS.out]; rfl⟩
      case measure => simp [intOf]; omega
    · have e : Hid (s.data.toList.take k = s.data.toList) := List.take_of_length_le (by simp; omega)
      go_wp2
      go_ret
      exact ⟨ret_int (by rw [e.out]; rfl), rfl⟩

set_option maxHeartbeats 400000 in
theorem sumI_any (s : ByteArray) (w : World) (hs : s.size ≤ 9223372036854775807) :
    Calls Try.prog 39 #[.string s] w fun e w' => e = .returned (.int .i64 (sumOf s)) ∧ w = w' := by
  go_enter Try.func39, Try.ntmps39
  go_wp2
  go_loop [3, 4, 8] (fun a b i => ∃ k : Nat, k ≤ s.size ∧ i = .int .i64 k ∧ a = .int .i64 (sumAB (s.data.toList.take k)).1 ∧ b = .int .i64 (sumAB (s.data.toList.take k)).2) (fun _ _ i => s.size - (intOf i).toNat)
  case atStart => exact ⟨0, Nat.zero_le _, rfl, rfl, rfl⟩
  case round =>
    obtain ⟨k, hk, rfl, rfl, rfl⟩ := hrel
    obtain ⟨h1, h2, h3, h4⟩ := sumAB_bd (s.data.toList.take k)
    by_cases hlt : k < s.size
    · have hu := u8_bd s[k]
      have HS : Hid (sumAB (s.data.toList.take (k + 1)) = sumStep (sumAB (s.data.toList.take k)) s[k]) := by rw [take_snoc s k hlt]; exact sumAB_snoc _ _
      go_wp2
      go_round
      case rel => exact ⟨k + 1, by omega, by go_num, by rw [HS.out]; rfl, by rw [HS.out]; rfl⟩
      case measure => simp [intOf]; omega
    · have e : Hid (s.data.toList.take k = s.data.toList) := List.take_of_length_le (by simp; omega)
      go_wp2
      go_ret
      exact ⟨ret_int (by rw [e.out]; rfl), rfl⟩

/-- The byte of a block's kind. -/
def kindB (r : Bool) : Int := if r then 0 else 1
/-- The parts of a block fit together. -/
def formB (n : Int) (r : Bool) (s : Int) (b : ByteArray) : Bool := inB n 0 39 && inB s 1 64 && (if r then ((b.size : Int) == s) else inB b.size 1 (s - 1))

set_option maxRecDepth 100000 in
set_option maxHeartbeats 1000000 in
theorem l5Form_any (n : Int) (r : Bool) (s : Int) (b : ByteArray) (w : World) (_hb : b.size ≤ 9223372036854775807) :
    Calls Try.prog 29 #[.agg #[.int .i64 n, .bool r, .int .i64 s, .string b]] w (Same (.bool (formB n r s b)) w) := by
  cases h1 : inB n 0 39 <;> cases h2 : inB s 1 64
  case true.true =>
    obtain ⟨g1, g2⟩ := inB_iff.1 h2
    cases r
    all_goals
      go_enter Try.func29, Try.ntmps29
      go_wp2_with (first | (go_at_call 40; refine (l5Number_any _ _).mono ?_; rintro e w' ⟨rfl, rfl⟩) | (go_at_call 41; refine (l1In_any _ _ _ _).mono ?_; rintro e w' ⟨rfl, rfl⟩))
      go_ret
      exact ⟨ret_bool (by simp only [formB, h1, h2]; rfl), (Up.refl _).alloc _⟩
  all_goals
    go_enter Try.func29, Try.ntmps29
    go_wp2_with (first | (go_at_call 40; refine (l5Number_any _ _).mono ?_; rintro e w' ⟨rfl, rfl⟩) | (go_at_call 41; refine (l1In_any _ _ _ _).mono ?_; rintro e w' ⟨rfl, rfl⟩))
    go_ret
    exact ⟨ret_bool (by simp only [formB, h1, h2]; rfl), (Up.refl _).alloc _⟩

set_option maxRecDepth 100000 in
set_option maxHeartbeats 1000000 in
theorem blockValid_any (n : Int) (r : Bool) (s : Int) (b : ByteArray) (w : World) (hb : b.size ≤ 9223372036854775807) :
    Calls Try.prog 32 #[.agg #[.int .i64 n, .bool r, .int .i64 s, .string b]] w (Same (.bool (formB n r s b)) w) := by
  by_cases g1 : n < 0
  · go_enter Try.func32, Try.ntmps32
    go_wp2
    go_ret
    exact ⟨ret_bool (by rw [formB, inB_not.2 (.inl g1)]; rfl), (Up.refl _).alloc _⟩
  by_cases g2 : 40 ≤ n
  · go_enter Try.func32, Try.ntmps32
    go_wp2
    go_ret
    exact ⟨ret_bool (by rw [formB, inB_not.2 (.inr (by omega : (39 : Int) < n))]; rfl), (Up.refl _).alloc _⟩
  by_cases g3 : s < 1
  · go_enter Try.func32, Try.ntmps32
    go_wp2
    go_ret
    exact ⟨ret_bool (by rw [formB, inB_not.2 (.inl g3), Bool.and_false, Bool.false_and]), (Up.refl _).alloc _⟩
  by_cases g4 : 64 < s
  · go_enter Try.func32, Try.ntmps32
    go_wp2
    go_ret
    exact ⟨ret_bool (by rw [formB, inB_not.2 (.inr g4), Bool.and_false, Bool.false_and]), (Up.refl _).alloc _⟩
  have e1 : Hid (inB n 0 39 = true) := inB_iff.2 (by omega)
  have e2 : Hid (inB s 1 64 = true) := inB_iff.2 (by omega)
  cases r
  · by_cases g5 : b.size < 1
    all_goals
      go_enter Try.func32, Try.ntmps32
      go_wp2
      go_ret
      exact ⟨ret_bool (by rw [formB, e1.out, e2.out, Bool.eq_iff_iff]; simp [inB]; omega), (Up.refl _).alloc _⟩
  · go_enter Try.func32, Try.ntmps32
    go_wp2
    go_ret
    exact ⟨ret_bool (by rw [formB, e1.out, e2.out]; rfl), (Up.refl _).alloc _⟩

end Go.Proofs.Ytnbmkoapohjnmaa
