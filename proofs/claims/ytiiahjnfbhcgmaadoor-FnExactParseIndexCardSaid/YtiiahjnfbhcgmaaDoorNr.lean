/- Plain: what the reference's l9Num reads. Conditions: none. -/
import Derived.Test.YtiiahjnfbhcgmaaDoorNp
namespace Go.Proofs.YtiiahjnfbhcgmaaDoor
set_option linter.unusedVariables false
set_option linter.unusedSimpArgs false
open Go

/-- Digits behind a sign. -/
def numU (neg : Bool) (r : List UInt8) : Option Int := if r = [] ∨ 17 < r.length ∨ (r.head? = some 48 ∧ (1 < r.length ∨ neg = true)) then none else (Lib.decFrom 0 r).map fun m => if neg then -(m : Int) else m
/-- What l9Num reads. -/
def numR (l : List UInt8) : Option Int := if l.head? = some 45 then numU true l.tail else numU false l
theorem dec_head (m : Nat) (h : 1 ≤ m) : (Lib.decDigits m).head? ≠ some 48 := by
  induction m using Nat.strongRecOn with
  | ind m ih =>
    by_cases hm : m < 10
    · rw [Lib.decDigits_one hm]
      intro e
      have e2 : UInt8.ofNat (48 + m) = 48 := by simpa only [List.head?_cons, Option.some.injEq] using e
      have := congrArg UInt8.toNat e2
      rw [UInt8.toNat_ofNat'] at this
      have h48 : (48 : UInt8).toNat = 48 := rfl
      rw [h48] at this
      omega
    · rw [dec_big hm, List.head?_append]
      cases hd : (Lib.decDigits (m / 10)).head? with
      | none => exact absurd (List.head?_eq_none_iff.1 hd) (dec_ne _)
      | some b =>
        have := ih (m / 10) (by omega) (by omega)
        rw [hd] at this
        simpa using this
theorem numU_dec (neg : Bool) (m : Nat) (hm : m ≤ 1000000) (h : neg = true → 1 ≤ m) : numU neg (Lib.decDigits m) = some (if neg then -(m : Int) else m) := by
  have hl := dec_len7 hm
  unfold numU
  rw [if_neg, decFrom_dec]
  · rfl
  · rintro (h1 | h1 | ⟨h1, h2⟩)
    · exact dec_ne m h1
    · omega
    · by_cases h0 : 1 ≤ m
      · exact dec_head m h0 h1
      · have : m = 0 := by omega
        subst this
        rcases h2 with h2 | h2
        · rw [Lib.decDigits_one (by omega)] at h2; simp at h2
        · have := h h2; omega
theorem numR_itoa {n : Int} (h0 : -1000000 ≤ n) (h1 : n ≤ 1000000) : numR (Lib.itoa n) = some n := by
  unfold numR Lib.itoa
  by_cases hn : n < 0
  · rw [if_pos hn]
    simp only [List.head?_cons, if_true, List.tail_cons]
    rw [numU_dec true n.natAbs (by omega) (fun _ => by omega)]
    simp; omega
  · rw [if_neg hn]
    have hne : (Lib.decDigits n.toNat).head? ≠ some 45 := by
      cases hd : Lib.decDigits n.toNat with
      | nil => exact absurd hd (dec_ne _)
      | cons b r =>
        have hb := dec_digit n.toNat b (by rw [hd]; exact List.mem_cons_self ..)
        intro e
        simp only [List.head?_cons, Option.some.injEq] at e
        subst e
        simp at hb
    rw [if_neg hne, numU_dec false n.toNat (by omega) (fun h => by cases h)]
    simp; omega

end Go.Proofs.YtiiahjnfbhcgmaaDoor
