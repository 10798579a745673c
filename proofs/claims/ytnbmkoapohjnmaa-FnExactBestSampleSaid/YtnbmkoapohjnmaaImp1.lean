/- Walks of the program's functions on settings. Conditions: the setting is valid where it says so. -/
import Derived.Test.YtnbmkoapohjnmaaSet2
namespace Go.Proofs.Ytnbmkoapohjnmaa
set_option linter.unusedVariables false
set_option linter.unusedSimpArgs false
open Go.RowKit

set_option maxRecDepth 100000 in
set_option maxHeartbeats 1000000 in
theorem orderI_any (n : Int) (w : World) :
    Calls Try.prog 78  #[.int .i64 n] w (fun e w' => e = .returned (.bool (n == 0 || n == 1)) ∧ w = w') := by
  by_cases h : n = 0
  · subst h
    go_enter Try.func78, Try.ntmps78
    go_wp2
    go_ret
    exact ⟨rfl, rfl⟩
  · have h' : (n == 0) = false := by simpa using h
    go_enter Try.func78, Try.ntmps78
    go_wp2
    go_ret
    exact ⟨ret_bool (by rw [h', Bool.false_or]), rfl⟩

set_option maxRecDepth 100000 in
set_option maxHeartbeats 1000000 in
theorem setI_any (o l m : Int) (w : World) (hl : -9223372036854775808 ≤ l ∧ l ≤ 9223372036854775807) :
    Calls Try.prog 64  #[.agg #[.int .i64 o, .int .i64 l, .int .i64 m]] w (Same (.bool (setOk ⟨o, l, m⟩)) w) := by
  cases h1 : (o == 0 || o == 1)
  · go_enter Try.func64, Try.ntmps64
    go_wp2_with (first | (go_at_call 78; (with_reducible refine (orderI_any _ _).mono ?_); rintro e w' ⟨rfl, rfl⟩))
    go_ret
    refine ⟨ret_bool (by simp only [setOk, h1]; rfl), ?_⟩
    (repeat (first | exact Up.refl _ | refine Up.alloc ?_ _ | refine Up.drew ?_ | refine Up.set ?_ (by first | exact Nat.le_refl _ | (simp; done) | (simp; omega)) _ | refine Up.trans ?_ (by with_reducible assumption)))
  · by_cases h2 : 1 ≤ l
    · by_cases h3 : l ≤ 8
      · have e2 : inB l 1 8 = true := inB_iff.2 ⟨h2, h3⟩
        by_cases h4 : l + 2 ≤ m
        all_goals
          go_enter Try.func64, Try.ntmps64
          go_wp2_with (first | (go_at_call 78; (with_reducible refine (orderI_any _ _).mono ?_); rintro e w' ⟨rfl, rfl⟩))
          go_ret
          refine ⟨ret_bool (by simp only [setOk, h1, e2]; simp [inB]; try omega), ?_⟩
          (repeat (first | exact Up.refl _ | refine Up.alloc ?_ _ | refine Up.drew ?_ | refine Up.set ?_ (by first | exact Nat.le_refl _ | (simp; done) | (simp; omega)) _ | refine Up.trans ?_ (by with_reducible assumption)))
      · have e2 : inB l 1 8 = false := inB_not.2 (by omega)
        go_enter Try.func64, Try.ntmps64
        go_wp2_with (first | (go_at_call 78; (with_reducible refine (orderI_any _ _).mono ?_); rintro e w' ⟨rfl, rfl⟩))
        go_ret
        refine ⟨ret_bool (by simp only [setOk, h1, e2]; rfl), ?_⟩
        (repeat (first | exact Up.refl _ | refine Up.alloc ?_ _ | refine Up.drew ?_ | refine Up.set ?_ (by first | exact Nat.le_refl _ | (simp; done) | (simp; omega)) _ | refine Up.trans ?_ (by with_reducible assumption)))
    · have e2 : inB l 1 8 = false := inB_not.2 (by omega)
      go_enter Try.func64, Try.ntmps64
      go_wp2_with (first | (go_at_call 78; (with_reducible refine (orderI_any _ _).mono ?_); rintro e w' ⟨rfl, rfl⟩))
      go_ret
      refine ⟨ret_bool (by simp only [setOk, h1, e2]; rfl), ?_⟩
      (repeat (first | exact Up.refl _ | refine Up.alloc ?_ _ | refine Up.drew ?_ | refine Up.set ?_ (by first | exact Nat.le_refl _ | (simp; done) | (simp; omega)) _ | refine Up.trans ?_ (by with_reducible assumption)))

theorem setI_ok (s : SetD) (w : World) (h : setOk s = true) : Calls Try.prog 64  #[setV s] w (Same (.bool true) w) := by
  obtain ⟨-, h1, -, -⟩ := setOk_bd h
  have := setI_any s.ord s.lit s.most w (by omega)
  rw [show (⟨s.ord, s.lit, s.most⟩ : SetD) = s from rfl, h] at this
  exact this

set_option maxRecDepth 100000 in
set_option maxHeartbeats 1000000 in
theorem clearI_any (s : SetD) (w : World) (h : setOk s = true) :
    Calls Try.prog 82  #[setV s] w (Same (.int .i64 (clr s)) w) := by
  have cS := fun w => setI_ok s w h
  obtain ⟨o, l, m⟩ := s
  obtain ⟨-, ⟨h1, h2⟩, -, -⟩ := setOk_bd h
  simp only at h1 h2
  obtain ⟨n, rfl⟩ : ∃ n : Nat, l = n := ⟨l.toNat, by omega⟩
  clear h
  have e : Hid (((2 ^ n : Nat) : Int) = (clr ⟨o, n, m⟩ : Nat)) := rfl
  have hp := pow2_small (n := n) (by omega)
  simp only [setV] at *
  go_enter Try.func82, Try.ntmps82
  go_wp2_with ((go_at_call 64; (with_reducible refine (cS _).mono ?_); rintro e w1 ⟨rfl, U1⟩; have B1 := bcell U1; have Z1 := U1.size; (try simp at Z1); (try rw [Nat.add_one_le_iff] at Z1)))
  go_ret
  refine ⟨ret_int (by rw [← e.out]; first | rfl | (simp; done) | (rw [IntWalk.wrap64_in _ (by omega)]; simp)), ?_⟩
  (repeat (first | exact Up.refl _ | refine Up.alloc ?_ _ | refine Up.drew ?_ | refine Up.set ?_ (by first | exact Nat.le_refl _ | (simp; done) | (simp; omega)) _ | refine Up.trans ?_ (by with_reducible assumption)))

set_option maxRecDepth 100000 in
set_option maxHeartbeats 1000000 in
theorem endI_any (s : SetD) (w : World) (h : setOk s = true) :
    Calls Try.prog 80  #[setV s] w (Same (.int .i64 ((clr s : Int) + 1)) w) := by
  have cS := fun w => setI_ok s w h
  obtain ⟨o, l, m⟩ := s
  obtain ⟨-, ⟨h1, h2⟩, -, -⟩ := setOk_bd h
  simp only at h1 h2
  obtain ⟨n, rfl⟩ : ∃ n : Nat, l = n := ⟨l.toNat, by omega⟩
  clear h
  have e : Hid (((2 ^ n : Nat) : Int) = (clr ⟨o, n, m⟩ : Nat)) := rfl
  have hp := pow2_small (n := n) (by omega)
  simp only [setV] at *
  go_enter Try.func80, Try.ntmps80
  go_wp2_with ((go_at_call 64; (with_reducible refine (cS _).mono ?_); rintro e w1 ⟨rfl, U1⟩; have B1 := bcell U1; have Z1 := U1.size; (try simp at Z1); (try rw [Nat.add_one_le_iff] at Z1)))
  go_ret
  refine ⟨ret_int (by rw [← e.out]; first | rfl | (simp; done) | (rw [IntWalk.wrap64_in _ (by omega)]; simp)), ?_⟩
  (repeat (first | exact Up.refl _ | refine Up.alloc ?_ _ | refine Up.drew ?_ | refine Up.set ?_ (by first | exact Nat.le_refl _ | (simp; done) | (simp; omega)) _ | refine Up.trans ?_ (by with_reducible assumption)))

set_option maxRecDepth 100000 in
set_option maxHeartbeats 1000000 in
theorem lastI_any (s : SetD) (w : World) (h : setOk s = true) :
    Calls Try.prog 79  #[setV s] w (Same (.int .i64 (lastC s : Nat)) w) := by
  have cS := fun w => setI_ok s w h
  obtain ⟨o, l, m⟩ := s
  obtain ⟨-, ⟨h1, h2⟩, h3, h4⟩ := setOk_bd h
  simp only at h1 h2 h3 h4
  obtain ⟨n, rfl⟩ : ∃ n : Nat, m = n := ⟨m.toNat, by omega⟩
  clear h
  have hq : 0 < 2 ^ n := Nat.pow_pos (by decide)
  have e : Hid (((2 ^ n : Nat) : Int) - 1 = ((lastC ⟨o, l, n⟩ : Nat) : Int)) := by
    show ((2 ^ n : Nat) : Int) - 1 = ((2 ^ n - 1 : Nat) : Int)
    omega
  have hp := pow2_small (n := n) (by omega)
  clear hq
  simp only [setV] at *
  go_enter Try.func79, Try.ntmps79
  go_wp2_with ((go_at_call 64; (with_reducible refine (cS _).mono ?_); rintro e w1 ⟨rfl, U1⟩; have B1 := bcell U1; have Z1 := U1.size; (try simp at Z1); (try rw [Nat.add_one_le_iff] at Z1)))
  go_ret
  refine ⟨ret_int (by rw [← e.out]; first | rfl | (simp; done) | (rw [IntWalk.wrap64_in _ (by omega)]; simp)), ?_⟩
  (repeat (first | exact Up.refl _ | refine Up.alloc ?_ _ | refine Up.drew ?_ | refine Up.set ?_ (by first | exact Nat.le_refl _ | (simp; done) | (simp; omega)) _ | refine Up.trans ?_ (by with_reducible assumption)))

end Go.Proofs.Ytnbmkoapohjnmaa
