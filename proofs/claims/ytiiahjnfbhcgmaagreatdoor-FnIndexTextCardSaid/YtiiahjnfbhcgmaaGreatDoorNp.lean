/- Plain: a number's decimal text is read back as that number. Conditions: at most a million. -/
import Derived.Test.YtiiahjnfbhcgmaaGreatDoorPn
import Derived.Lib.AtoiTie
namespace Go.Proofs.YtiiahjnfbhcgmaaGreatDoor
set_option linter.unusedVariables false
set_option linter.unusedSimpArgs false
open Go

theorem decFrom_snoc : ∀ (l : List UInt8) (acc n : Nat) (b : UInt8) (d : Nat), Lib.decFrom acc l = some n → Lib.digitVal b = some d → Lib.decFrom acc (l ++ [b]) = some (n * 10 + d)
  | [], acc, n, b, d, h, hb => by
    simp only [Lib.decFrom, Option.some.injEq] at h
    subst h
    simp [Lib.decFrom, hb]
  | x :: r, acc, n, b, d, h, hb => by
    rw [List.cons_append]
    unfold Lib.decFrom at h ⊢
    cases hx : Lib.digitVal x with
    | none => rw [hx] at h; simp at h
    | some e => rw [hx] at h; exact decFrom_snoc r _ n b d h hb
theorem digit_val (m : Nat) (h : m < 10) : Lib.digitVal (UInt8.ofNat (48 + m)) = some m := by
  have e : (UInt8.ofNat (48 + m)).toNat = 48 + m := by rw [UInt8.toNat_ofNat']; omega
  unfold Lib.digitVal
  rw [e, if_pos (by omega)]
  simp
theorem decFrom_dec (m : Nat) : Lib.decFrom 0 (Lib.decDigits m) = some m := by
  induction m using Nat.strongRecOn with
  | ind m ih =>
    by_cases h : m < 10
    · rw [Lib.decDigits_one h]
      unfold Lib.decFrom
      rw [digit_val m h]
      simp only [Lib.decFrom, Nat.zero_mul, Nat.zero_add]
    · rw [dec_big h, decFrom_snoc _ _ _ _ _ (ih (m / 10) (by omega)) (digit_val (m % 10) (by omega))]
      congr 1; omega
theorem dec_ne (m : Nat) : Lib.decDigits m ≠ [] := by
  intro h
  have h1 := congrArg List.length h
  rw [Lib.decDigits_length] at h1
  have := Lib.nDigits_pos m
  simp at h1; omega
theorem dec_digit (m : Nat) : ∀ b ∈ Lib.decDigits m, 48 ≤ b.toNat ∧ b.toNat ≤ 57 := by
  intro b hb
  obtain ⟨k, hk, rfl⟩ := List.getElem_of_mem hb
  obtain ⟨d, hd⟩ := Lib.digit_of_decFrom _ _ _ (decFrom_dec m) k _ (List.getElem?_eq_getElem hk)
  have := Lib.digitVal_eq hd
  omega
theorem nDigits_le : ∀ (k u : Nat), u < 10 ^ (k + 1) → Lib.nDigits u ≤ k + 1
  | 0, u, h => by rw [Lib.nDigits_small (by simpa using h)]; exact Nat.le_refl _
  | k + 1, u, h => by
    by_cases hu : u < 10
    · rw [Lib.nDigits_small hu]; omega
    · rw [Lib.nDigits_big hu]
      have := nDigits_le k (u / 10) (by rw [Nat.pow_succ] at h; omega)
      omega
theorem dec_len7 {m : Nat} (h : m ≤ 1000000) : (Lib.decDigits m).length ≤ 7 := by
  rw [Lib.decDigits_length]; exact nDigits_le 6 m (by omega)
theorem decNat_dec (m : Nat) : Lib.decNat (Lib.decDigits m) = some m := by
  unfold Lib.decNat
  cases h : Lib.decDigits m with
  | nil => exact absurd h (dec_ne m)
  | cons b r => rw [← h]; simp [h]; rw [← h]; exact decFrom_dec m
theorem atoi_itoa (n : Int) : Lib.atoi (Lib.itoa n) = some n := by
  unfold Lib.itoa
  by_cases hn : n < 0
  · rw [if_pos hn]
    simp only [Lib.atoi, decNat_dec, Option.map_some, BEq.rfl, if_true]
    congr 1; omega
  · rw [if_neg hn]
    have hd := dec_digit n.toNat
    cases h : Lib.decDigits n.toNat with
    | nil => exact absurd h (dec_ne _)
    | cons b r =>
      have hb := hd b (by rw [h]; exact List.mem_cons_self ..)
      have h1 : (b == 45) = false := by rw [beq_eq_false_iff_ne]; rintro rfl; simp at hb
      have h2 : (b == 43) = false := by rw [beq_eq_false_iff_ne]; rintro rfl; simp at hb
      simp only [Lib.atoi, h1, h2]
      rw [← h, decNat_dec]
      simp; omega
theorem numP_itoa {n : Int} (h0 : -1000000 ≤ n) (h1 : n ≤ 1000000) : numP (Lib.itoa n) = some n := by
  have hl : (Lib.itoa n).length ≤ 18 := by
    unfold Lib.itoa
    split
    · have := dec_len7 (m := n.natAbs) (by omega); simp; omega
    · have := dec_len7 (m := n.toNat) (by omega); omega
  unfold numP
  rw [Lib.atoiAll_short _ hl, atoi_itoa]
  simp [Lib.NumEnd.ofOption]

end Go.Proofs.YtiiahjnfbhcgmaaGreatDoor
