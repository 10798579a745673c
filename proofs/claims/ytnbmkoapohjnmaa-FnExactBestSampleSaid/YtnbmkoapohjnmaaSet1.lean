/- Walks of the reference's functions on settings. Conditions: as each says. -/
import Derived.Test.YtnbmkoapohjnmaaLz1
namespace Go.Proofs.Ytnbmkoapohjnmaa
set_option linter.unusedVariables false
set_option linter.unusedSimpArgs false
open Go.RowKit

set_option maxHeartbeats 400000 in
theorem l1Order_any (n : Int) (w : World) :
    Calls Try.prog 74 #[.int .i64 n] w fun e w' => e = .returned (.bool (n == 0 || n == 1)) ∧ w = w' := by
  by_cases h : n = 0
  · subst h
    go_enter Try.func74, Try.ntmps74
    go_wp2
    go_ret
    exact ⟨rfl, rfl⟩
  · have h' : (n == 0) = false := by simpa using h
    go_enter Try.func74, Try.ntmps74
    go_wp2
    go_ret
    exact ⟨ret_bool (by rw [h', Bool.false_or]), rfl⟩

theorem pow2_small {n : Nat} (h : n ≤ 16) : (2 : Int) ^ n ≤ 65536 ∧ 1 ≤ (2 : Int) ^ n := by
  have h1 : 2 ^ n ≤ 2 ^ 16 := Nat.pow_le_pow_right (by decide) h
  have h2 : 0 < 2 ^ n := Nat.pow_pos (by decide)
  have e : ((2 ^ n : Nat) : Int) = (2 : Int) ^ n := by simp
  omega

set_option maxHeartbeats 400000 in
theorem l1Two_any (n : Nat) (w : World) (h : n ≤ 16) :
    Calls Try.prog 108 #[.int .i64 n] w fun e w' => e = .returned (.int .i64 ((2 ^ n : Nat) : Int)) ∧ w = w' := by
  go_enter Try.func108, Try.ntmps108
  go_wp2
  go_ret
  exact ⟨ret_int (by have := pow2_small h; rw [IntWalk.wrap64_in _ (by omega)]; simp), rfl⟩
theorem l1Two_at (n : Nat) (i v : Int) (hi : i = n) (hv : ((2 ^ n : Nat) : Int) = v) (h : n ≤ 16) (w : World) :
    Calls Try.prog 108 #[.int .i64 i] w fun e w' => e = .returned (.int .i64 v) ∧ w = w' := by
  subst hi; subst hv
  exact l1Two_any n w h

set_option maxRecDepth 100000 in
set_option maxHeartbeats 1000000 in
theorem setS_any (o l m : Int) (w : World) :
    Calls Try.prog 61 #[.agg #[.int .i64 o, .int .i64 l, .int .i64 m]] w (Same (.bool (setOk ⟨o, l, m⟩)) w) := by
  cases h1 : (o == 0 || o == 1) <;> cases h2 : inB l 1 8
  case true.true =>
    obtain ⟨g1, g2⟩ := inB_iff.1 h2
    go_enter Try.func61, Try.ntmps61
    go_wp2_with (first | (go_at_call 74; (with_reducible refine (l1Order_any _ _).mono ?_); rintro e w' ⟨rfl, rfl⟩) | (go_at_call 41; (with_reducible refine (l1In_any _ _ _ _).mono ?_); rintro e w' ⟨rfl, rfl⟩))
    go_ret
    refine ⟨ret_bool (by simp only [setOk, h1, h2]; rfl), ?_⟩
    (repeat (first | exact Up.refl _ | refine Up.alloc ?_ _ | refine Up.drew ?_ | refine Up.set ?_ (by first | exact Nat.le_refl _ | (simp; done) | (simp; omega)) _ | refine Up.trans ?_ (by with_reducible assumption)))
  all_goals
    go_enter Try.func61, Try.ntmps61
    go_wp2_with (first | (go_at_call 74; (with_reducible refine (l1Order_any _ _).mono ?_); rintro e w' ⟨rfl, rfl⟩) | (go_at_call 41; (with_reducible refine (l1In_any _ _ _ _).mono ?_); rintro e w' ⟨rfl, rfl⟩))
    go_ret
    refine ⟨ret_bool (by simp only [setOk, h1, h2]; rfl), ?_⟩
    (repeat (first | exact Up.refl _ | refine Up.alloc ?_ _ | refine Up.drew ?_ | refine Up.set ?_ (by first | exact Nat.le_refl _ | (simp; done) | (simp; omega)) _ | refine Up.trans ?_ (by with_reducible assumption)))

end Go.Proofs.Ytnbmkoapohjnmaa
