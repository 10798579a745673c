/- Texts joined into one: Imp1, Imp2. Conditions: as each says. -/
import Derived.Test.YtiiahjnfbhcgmaaGreatDoorSets
import Derived.Test.YtiiahjnfbhcgmaaGreatDoorGr

/- Walks of the program's functions on settings. Conditions: the setting is valid where it says so. -/
namespace Go.Proofs.YtiiahjnfbhcgmaaGreatDoor
set_option linter.unusedVariables false
set_option linter.unusedSimpArgs false
open Go.RowKit

set_option maxRecDepth 100000 in
set_option maxHeartbeats 1000000 in
theorem orderI_any (n : Int) (w : World) :
    Calls Tryz.prog 173  #[.int .i64 n] w (fun e w' => e = .returned (.bool (n == 0 || n == 1)) ∧ w = w') := by
  by_cases h : n = 0
  · subst h
    go_enter Tryz.func173, Tryz.ntmps173
    go_wp2
    go_ret
    exact ⟨rfl, rfl⟩
  · have h' : (n == 0) = false := by simpa using h
    go_enter Tryz.func173, Tryz.ntmps173
    go_wp2
    go_ret
    exact ⟨ret_bool (by rw [h', Bool.false_or]), rfl⟩

set_option maxRecDepth 100000 in
set_option maxHeartbeats 1000000 in
theorem setI_any (o l m : Int) (w : World) (hl : -9223372036854775808 ≤ l ∧ l ≤ 9223372036854775807) :
    Calls Tryz.prog 112  #[.agg #[.int .i64 o, .int .i64 l, .int .i64 m]] w (Same (.bool (setOk ⟨o, l, m⟩)) w) := by
  cases h1 : (o == 0 || o == 1)
  · go_enter Tryz.func112, Tryz.ntmps112
    go_wp2_with (first | (go_at_call 173; (with_reducible refine (orderI_any _ _).mono ?_); rintro e w' ⟨rfl, rfl⟩))
    go_ret
    refine ⟨ret_bool (by simp only [setOk, h1]; rfl), ?_⟩
    (repeat (first | exact Up.refl _ | refine Up.alloc ?_ _ | refine Up.drew ?_ | refine Up.set ?_ (by first | exact Nat.le_refl _ | (simp; done) | (simp; omega)) _ | refine Up.trans ?_ (by with_reducible assumption)))
  · by_cases h2 : 1 ≤ l
    · by_cases h3 : l ≤ 8
      · have e2 : inB l 1 8 = true := inB_iff.2 ⟨h2, h3⟩
        by_cases h4 : l + 2 ≤ m
        all_goals
          go_enter Tryz.func112, Tryz.ntmps112
          go_wp2_with (first | (go_at_call 173; (with_reducible refine (orderI_any _ _).mono ?_); rintro e w' ⟨rfl, rfl⟩))
          go_ret
          refine ⟨ret_bool (by simp only [setOk, h1, e2]; simp [inB]; try omega), ?_⟩
          (repeat (first | exact Up.refl _ | refine Up.alloc ?_ _ | refine Up.drew ?_ | refine Up.set ?_ (by first | exact Nat.le_refl _ | (simp; done) | (simp; omega)) _ | refine Up.trans ?_ (by with_reducible assumption)))
      · have e2 : inB l 1 8 = false := inB_not.2 (by omega)
        go_enter Tryz.func112, Tryz.ntmps112
        go_wp2_with (first | (go_at_call 173; (with_reducible refine (orderI_any _ _).mono ?_); rintro e w' ⟨rfl, rfl⟩))
        go_ret
        refine ⟨ret_bool (by simp only [setOk, h1, e2]; rfl), ?_⟩
        (repeat (first | exact Up.refl _ | refine Up.alloc ?_ _ | refine Up.drew ?_ | refine Up.set ?_ (by first | exact Nat.le_refl _ | (simp; done) | (simp; omega)) _ | refine Up.trans ?_ (by with_reducible assumption)))
    · have e2 : inB l 1 8 = false := inB_not.2 (by omega)
      go_enter Tryz.func112, Tryz.ntmps112
      go_wp2_with (first | (go_at_call 173; (with_reducible refine (orderI_any _ _).mono ?_); rintro e w' ⟨rfl, rfl⟩))
      go_ret
      refine ⟨ret_bool (by simp only [setOk, h1, e2]; rfl), ?_⟩
      (repeat (first | exact Up.refl _ | refine Up.alloc ?_ _ | refine Up.drew ?_ | refine Up.set ?_ (by first | exact Nat.le_refl _ | (simp; done) | (simp; omega)) _ | refine Up.trans ?_ (by with_reducible assumption)))

theorem setI_ok (s : SetD) (w : World) (h : setOk s = true) : Calls Tryz.prog 112  #[setV s] w (Same (.bool true) w) := by
  obtain ⟨-, h1, -, -⟩ := setOk_bd h
  have := setI_any s.ord s.lit s.most w (by omega)
  rw [show (⟨s.ord, s.lit, s.most⟩ : SetD) = s from rfl, h] at this
  exact this

set_option maxRecDepth 100000 in
set_option maxHeartbeats 1000000 in
theorem clearI_any (s : SetD) (w : World) (h : setOk s = true) :
    Calls Tryz.prog 52  #[setV s] w (Same (.int .i64 (clr s)) w) := by
  have cS := fun w => setI_ok s w h
  obtain ⟨o, l, m⟩ := s
  obtain ⟨-, ⟨h1, h2⟩, -, -⟩ := setOk_bd h
  simp only at h1 h2
  obtain ⟨n, rfl⟩ : ∃ n : Nat, l = n := ⟨l.toNat, by omega⟩
  clear h
  have e : Hid (((2 ^ n : Nat) : Int) = (clr ⟨o, n, m⟩ : Nat)) := rfl
  have hp := pow2_small (n := n) (by omega)
  simp only [setV] at *
  go_enter Tryz.func52, Tryz.ntmps52
  go_wp2_with ((go_at_call 112; (with_reducible refine (cS _).mono ?_); rintro e w1 ⟨rfl, U1⟩; have B1 := bcell U1; have Z1 := U1.size; (try simp at Z1); (try rw [Nat.add_one_le_iff] at Z1)))
  go_ret
  refine ⟨ret_int (by rw [← e.out]; first | rfl | (simp; done) | (rw [IntWalk.wrap64_in _ (by omega)]; simp)), ?_⟩
  (repeat (first | exact Up.refl _ | refine Up.alloc ?_ _ | refine Up.drew ?_ | refine Up.set ?_ (by first | exact Nat.le_refl _ | (simp; done) | (simp; omega)) _ | refine Up.trans ?_ (by with_reducible assumption)))

set_option maxRecDepth 100000 in
set_option maxHeartbeats 1000000 in
theorem endI_any (s : SetD) (w : World) (h : setOk s = true) :
    Calls Tryz.prog 70  #[setV s] w (Same (.int .i64 ((clr s : Int) + 1)) w) := by
  have cS := fun w => setI_ok s w h
  obtain ⟨o, l, m⟩ := s
  obtain ⟨-, ⟨h1, h2⟩, -, -⟩ := setOk_bd h
  simp only at h1 h2
  obtain ⟨n, rfl⟩ : ∃ n : Nat, l = n := ⟨l.toNat, by omega⟩
  clear h
  have e : Hid (((2 ^ n : Nat) : Int) = (clr ⟨o, n, m⟩ : Nat)) := rfl
  have hp := pow2_small (n := n) (by omega)
  simp only [setV] at *
  go_enter Tryz.func70, Tryz.ntmps70
  go_wp2_with ((go_at_call 112; (with_reducible refine (cS _).mono ?_); rintro e w1 ⟨rfl, U1⟩; have B1 := bcell U1; have Z1 := U1.size; (try simp at Z1); (try rw [Nat.add_one_le_iff] at Z1)))
  go_ret
  refine ⟨ret_int (by rw [← e.out]; first | rfl | (simp; done) | (rw [IntWalk.wrap64_in _ (by omega)]; simp)), ?_⟩
  (repeat (first | exact Up.refl _ | refine Up.alloc ?_ _ | refine Up.drew ?_ | refine Up.set ?_ (by first | exact Nat.le_refl _ | (simp; done) | (simp; omega)) _ | refine Up.trans ?_ (by with_reducible assumption)))

set_option maxRecDepth 100000 in
set_option maxHeartbeats 1000000 in
theorem lastI_any (s : SetD) (w : World) (h : setOk s = true) :
    Calls Tryz.prog 120  #[setV s] w (Same (.int .i64 (lastC s : Nat)) w) := by
  have cS := fun w => setI_ok s w h
  obtain ⟨o, l, m⟩ := s
  obtain ⟨-, ⟨h1, h2⟩, h3, h4⟩ := setOk_bd h
  simp only at h1 h2 h3 h4
  obtain ⟨n, rfl⟩ : ∃ n : Nat, m = n := ⟨m.toNat, by omega⟩
  clear h
  have hq : 0 < 2 ^ n := Nat.pow_pos (by decide)
  have e : Hid (((2 ^ n : Nat) : Int) - 1 = ((lastC ⟨o, l, n⟩ : Nat) : Int)) := by
    show ((2 ^ n : Nat) : Int) - 1 = ((2 ^ n - 1 : Nat) : Int)
    omega
  have hp := pow2_small (n := n) (by omega)
  clear hq
  simp only [setV] at *
  go_enter Tryz.func120, Tryz.ntmps120
  go_wp2_with ((go_at_call 112; (with_reducible refine (cS _).mono ?_); rintro e w1 ⟨rfl, U1⟩; have B1 := bcell U1; have Z1 := U1.size; (try simp at Z1); (try rw [Nat.add_one_le_iff] at Z1)))
  go_ret
  refine ⟨ret_int (by rw [← e.out]; first | rfl | (simp; done) | (rw [IntWalk.wrap64_in _ (by omega)]; simp)), ?_⟩
  (repeat (first | exact Up.refl _ | refine Up.alloc ?_ _ | refine Up.drew ?_ | refine Up.set ?_ (by first | exact Nat.le_refl _ | (simp; done) | (simp; omega)) _ | refine Up.trans ?_ (by with_reducible assumption)))

end Go.Proofs.YtiiahjnfbhcgmaaGreatDoor

/- Walks of the program's small functions on what is known. Conditions: the setting is valid, the pairs are few. -/
namespace Go.Proofs.YtiiahjnfbhcgmaaGreatDoor
set_option linter.unusedVariables false
set_option linter.unusedSimpArgs false
open Go.RowKit

/-- What is known, of a number of pairs. -/
abbrev knV (s : SetD) (a : Option Addr) (n c : Nat) (ba la : Int) : Value := .agg #[.int .i64 s.ord, .int .i64 s.lit, .int .i64 s.most, .slice a n c, .int .i64 ba, .int .i64 la]
theorem clr_le {s : SetD} (h : setOk s = true) : 2 ≤ clr s ∧ clr s ≤ 256 ∧ lastC s ≤ 1023 := by have := clr_bd h; omega

set_option maxRecDepth 100000 in
set_option maxHeartbeats 1000000 in
theorem nextI_any (s : SetD) (ba la : Int) (a : Option Addr) (n c : Nat) (w : World) (h : setOk s = true) (hn : n ≤ 100000) :
    Calls Tryz.prog 117  #[knV s a n c ba la] w (Same (.int .i64 ((clr s : Int) + 2 + n)) w) := by
  have cE := fun w => endI_any s w h
  obtain ⟨hb1, hb2, hb3⟩ := clr_le h
  have e : Hid ((clr s : Int) + 2 + n = clr s + 1 + 1 + n) := by unfold Hid; omega
  rw [e.out]
  generalize clr s = c at *
  obtain ⟨o, l, m⟩ := s
  simp only [knV] at *
  clear h
  go_enter Tryz.func117, Tryz.ntmps117
  go_wp2
  refine wp_region_up 8 (by kernel_rfl) (by kernel_rfl) ?_
  simp only [List.take, List.drop]
  repeat (refine wpUp_step (fun K hK => ?_); go_simp; (try simp only [↓IntWalk.iteOmega]); first
    | (refine hK _ _ ?_; clear hK K)
    | (apply stepU_c
       · intro wq hwq; (have hbq := bcell hwq; (repeat (first | refine fills_no (by rfl) ?_ | refine fills_yes (by rfl) (fun vq hvq => ?_))); simp only [List.filter_nil, fills]; unfold upAt; go_simp; (try go_bits); (try simp only [↓IntWalk.iteOmega]); (try (rw [dif_pos (by omega)]; go_simp; try go_bits)); first | exact upOut_value | (apply upOut_call; (go_at_call 70; exact cE _)) | (apply upOut_eq; (go_at_call 70; exact cE _)))
       go_simp; refine hK _ _ ?_; clear hK K))
  refine wpUp_nil (fun wq hwq => ?_)
  simp only [fills]
  go_wp2
  go_ret
  refine ⟨rfl, ?_⟩
  (repeat (first | exact Up.refl _ | refine Up.alloc ?_ _ | refine Up.drew ?_ | refine Up.set ?_ (by first | exact Nat.le_refl _ | (simp; done) | (simp; omega)) _ | refine Up.trans ?_ (by with_reducible assumption)))

/-- Whether the next code adds a word. -/
def growN (s : SetD) (n : Nat) (la : Int) : Bool := decide (la ≠ -1) && decide (clr s + 2 + n ≤ lastC s)
theorem growN_eq (k : KnD) : growN k.set k.ps.length k.last = k.grow := rfl

set_option maxRecDepth 100000 in
set_option maxHeartbeats 1000000 in
theorem growI_any (s : SetD) (ba la : Int) (a : Option Addr) (n c : Nat) (w : World) (h : setOk s = true) (hn : n ≤ 100000) :
    Calls Tryz.prog 115  #[knV s a n c ba la] w (Same (.bool (growN s n la)) w) := by
  have cN := fun w => nextI_any s ba la a n c w h hn
  have cL := fun w => lastI_any s w h
  obtain ⟨hb1, hb2, hb3⟩ := clr_le h
  by_cases hla : la = -1
  · have e : Hid (growN s n la = false) := by unfold Hid growN; rw [hla]; rfl
    rw [e.out]
    subst hla
    obtain ⟨o, l, m⟩ := s
    clear h cN cL
    simp only [knV]
    go_enter Tryz.func115, Tryz.ntmps115
    go_wp2
    refine wp_region_up 11 (by kernel_rfl) (by kernel_rfl) ?_
    simp only [List.take, List.drop]
    repeat (refine wpUp_step (fun K hK => ?_); go_simp; (try simp only [↓IntWalk.iteOmega]); first
      | (refine hK _ _ ?_; clear hK K)
      | (apply stepU_c
         · intro wq hwq; (have hbq := bcell hwq; (repeat (first | refine fills_no (by rfl) ?_ | refine fills_yes (by rfl) (fun vq hvq => ?_))); simp only [List.filter_nil, fills]; unfold upAt; go_simp; (try go_bits); (try simp only [↓IntWalk.iteOmega]); (try (rw [dif_pos (by omega)]; go_simp; try go_bits)); first | exact upOut_value)
         go_simp; refine hK _ _ ?_; clear hK K))
    refine wpUp_nil (fun wq hwq => ?_)
    simp only [fills]
    go_wp2
    go_ret
    refine ⟨rfl, ?_⟩
    (repeat (first | exact Up.refl _ | refine Up.alloc ?_ _ | refine Up.drew ?_ | refine Up.set ?_ (by first | exact Nat.le_refl _ | (simp; done) | (simp; omega)) _ | refine Up.trans ?_ (by with_reducible assumption)))
  · have e : Hid (growN s n la = decide (((clr s : Int) + 2 + n) ≤ ((lastC s : Nat) : Int))) := by
      unfold Hid growN
      rw [decide_eq_true hla, Bool.true_and, decide_eq_decide]; omega
    rw [e.out]
    generalize clr s = cc at *
    generalize lastC s = lc at *
    obtain ⟨o, l, m⟩ := s
    simp only [knV] at *
    clear h e
    go_enter Tryz.func115, Tryz.ntmps115
    go_wp2
    refine wp_region_up 11 (by kernel_rfl) (by kernel_rfl) ?_
    simp only [List.take, List.drop]
    repeat (refine wpUp_step (fun K hK => ?_); go_simp; (try simp only [↓IntWalk.iteOmega]); first
      | (refine hK _ _ ?_; clear hK K)
      | (apply stepU_c
         · intro wq hwq; (have hbq := bcell hwq; (repeat (first | refine fills_no (by rfl) ?_ | refine fills_yes (by rfl) (fun vq hvq => ?_))); simp only [List.filter_nil, fills]; unfold upAt; go_simp; (try go_bits); (try simp only [↓IntWalk.iteOmega]); (try (rw [dif_pos (by omega)]; go_simp; try go_bits)); first | exact upOut_value | (apply upOut_call; (go_at_call 117; exact cN _)) | (apply upOut_eq; (go_at_call 117; exact cN _)) | (apply upOut_call; (go_at_call 120; exact cL _)) | (apply upOut_eq; (go_at_call 120; exact cL _)))
         go_simp; refine hK _ _ ?_; clear hK K))
    refine wpUp_nil (fun wq hwq => ?_)
    simp only [fills]
    go_wp2
    go_ret
    refine ⟨ret_bool (by first | rfl | (simp; done) | (simp; omega)), ?_⟩
    (repeat (first | exact Up.refl _ | refine Up.alloc ?_ _ | refine Up.drew ?_ | refine Up.set ?_ (by first | exact Nat.le_refl _ | (simp; done) | (simp; omega)) _ | refine Up.trans ?_ (by with_reducible assumption)))

def topN (s : SetD) (n : Nat) (la : Int) : Nat := if growN s n la then clr s + 2 + n else clr s + 1 + n
theorem topN_eq (k : KnD) : topN k.set k.ps.length k.last = k.top := by
  unfold topN KnD.top
  rw [growN_eq]
  unfold KnD.next KnD.c
  split <;> omega

set_option maxRecDepth 100000 in
set_option maxHeartbeats 1000000 in
theorem topI_any (s : SetD) (ba la : Int) (a : Option Addr) (n c : Nat) (w : World) (h : setOk s = true) (hn : n ≤ 100000) :
    Calls Tryz.prog 160  #[knV s a n c ba la] w (Same (.int .i64 (topN s n la : Nat)) w) := by
  have cN := fun w => nextI_any s ba la a n c w h hn
  have cG := fun w => growI_any s ba la a n c w h hn
  obtain ⟨hb1, hb2, hb3⟩ := clr_le h
  cases hg : growN s n la
  · have e : Hid (((topN s n la : Nat) : Int) = (clr s : Int) + 2 + n - 1) := by unfold Hid topN; rw [hg]; simp; omega
    rw [e.out]
    rw [hg] at cG
    generalize clr s = cc at *
    obtain ⟨o, l, m⟩ := s
    simp only [knV] at *
    clear h e hg
    go_enter Tryz.func160, Tryz.ntmps160
    go_wp2_with (first | (go_at_call 115; (with_reducible refine (cG _).mono ?_); rintro e w1 ⟨rfl, U1⟩; have B1 := bcell U1; have Z1 := U1.size; (try simp at Z1); (try rw [Nat.add_one_le_iff] at Z1)) | (go_at_call 117; (with_reducible refine (cN _).mono ?_); rintro e w2 ⟨rfl, U2⟩; have B2 := bcell U2; have Z2 := U2.size; (try simp at Z2); (try rw [Nat.add_one_le_iff] at Z2)))
    go_ret
    refine ⟨rfl, ?_⟩
    (repeat (first | exact Up.refl _ | refine Up.alloc ?_ _ | refine Up.drew ?_ | refine Up.set ?_ (by first | exact Nat.le_refl _ | (simp; done) | (simp; omega)) _ | refine Up.trans ?_ (by with_reducible assumption)))
  · have e : Hid (((topN s n la : Nat) : Int) = (clr s : Int) + 2 + n) := by unfold Hid topN; rw [hg]; simp
    rw [e.out]
    rw [hg] at cG
    generalize clr s = cc at *
    obtain ⟨o, l, m⟩ := s
    simp only [knV] at *
    clear h e hg
    go_enter Tryz.func160, Tryz.ntmps160
    go_wp2_with (first | (go_at_call 115; (with_reducible refine (cG _).mono ?_); rintro e w1 ⟨rfl, U1⟩; have B1 := bcell U1; have Z1 := U1.size; (try simp at Z1); (try rw [Nat.add_one_le_iff] at Z1)) | (go_at_call 117; (with_reducible refine (cN _).mono ?_); rintro e w2 ⟨rfl, U2⟩; have B2 := bcell U2; have Z2 := U2.size; (try simp at Z2); (try rw [Nat.add_one_le_iff] at Z2)))
    go_ret
    refine ⟨rfl, ?_⟩
    (repeat (first | exact Up.refl _ | refine Up.alloc ?_ _ | refine Up.drew ?_ | refine Up.set ?_ (by first | exact Nat.le_refl _ | (simp; done) | (simp; omega)) _ | refine Up.trans ?_ (by with_reducible assumption)))

def fullN (s : SetD) (n : Nat) (ba : Int) : Bool := decide (lastC s < clr s + 2 + n) && decide (ba < n)
theorem fullN_eq (k : KnD) : fullN k.set k.ps.length k.base = k.full := rfl

set_option maxRecDepth 100000 in
set_option maxHeartbeats 1000000 in
theorem fullI_any (s : SetD) (ba la : Int) (a : Option Addr) (n c : Nat) (w : World) (h : setOk s = true) (hn : n ≤ 100000) :
    Calls Tryz.prog 51  #[knV s a n c ba la] w (Same (.bool (fullN s n ba)) w) := by
  have cN := fun w => nextI_any s ba la a n c w h hn
  have cL := fun w => lastI_any s w h
  obtain ⟨hb1, hb2, hb3⟩ := clr_le h
  by_cases hf : lastC s < clr s + 2 + n
  · have e : Hid (fullN s n ba = decide (ba < (n : Int))) := by unfold Hid fullN; rw [decide_eq_true hf]; rfl
    rw [e.out]
    generalize clr s = cc at *
    generalize lastC s = lc at *
    obtain ⟨o, l, m⟩ := s
    simp only [knV] at *
    clear h e
    go_enter Tryz.func51, Tryz.ntmps51
    go_wp2
    refine wp_region_up 14 (by kernel_rfl) (by kernel_rfl) ?_
    simp only [List.take, List.drop]
    repeat (refine wpUp_step (fun K hK => ?_); go_simp; (try simp only [↓IntWalk.iteOmega]); first
      | (refine hK _ _ ?_; clear hK K)
      | (apply stepU_c
         · intro wq hwq; (have hbq := bcell hwq; (repeat (first | refine fills_no (by rfl) ?_ | refine fills_yes (by rfl) (fun vq hvq => ?_))); simp only [List.filter_nil, fills]; unfold upAt; go_simp; (try go_bits); (try simp only [↓IntWalk.iteOmega]); (try (rw [dif_pos (by omega)]; go_simp; try go_bits)); first | exact upOut_value | (apply upOut_call; (go_at_call 117; exact cN _)) | (apply upOut_eq; (go_at_call 117; exact cN _)) | (apply upOut_call; (go_at_call 120; exact cL _)) | (apply upOut_eq; (go_at_call 120; exact cL _)))
         go_simp; refine hK _ _ ?_; clear hK K))
    refine wpUp_nil (fun wq hwq => ?_)
    simp only [fills]
    go_wp2
    go_ret
    refine ⟨ret_bool (by first | rfl | (simp; done) | (simp; omega)), ?_⟩
    (repeat (first | exact Up.refl _ | refine Up.alloc ?_ _ | refine Up.drew ?_ | refine Up.set ?_ (by first | exact Nat.le_refl _ | (simp; done) | (simp; omega)) _ | refine Up.trans ?_ (by with_reducible assumption)))
  · have e : Hid (fullN s n ba = false) := by unfold Hid fullN; rw [decide_eq_false hf]; rfl
    rw [e.out]
    generalize clr s = cc at *
    generalize lastC s = lc at *
    obtain ⟨o, l, m⟩ := s
    simp only [knV] at *
    clear h e
    go_enter Tryz.func51, Tryz.ntmps51
    go_wp2
    refine wp_region_up 14 (by kernel_rfl) (by kernel_rfl) ?_
    simp only [List.take, List.drop]
    repeat (refine wpUp_step (fun K hK => ?_); go_simp; (try simp only [↓IntWalk.iteOmega]); first
      | (refine hK _ _ ?_; clear hK K)
      | (apply stepU_c
         · intro wq hwq; (have hbq := bcell hwq; (repeat (first | refine fills_no (by rfl) ?_ | refine fills_yes (by rfl) (fun vq hvq => ?_))); simp only [List.filter_nil, fills]; unfold upAt; go_simp; (try go_bits); (try simp only [↓IntWalk.iteOmega]); (try (rw [dif_pos (by omega)]; go_simp; try go_bits)); first | exact upOut_value | (apply upOut_call; (go_at_call 117; exact cN _)) | (apply upOut_eq; (go_at_call 117; exact cN _)) | (apply upOut_call; (go_at_call 120; exact cL _)) | (apply upOut_eq; (go_at_call 120; exact cL _)))
         go_simp; refine hK _ _ ?_; clear hK K))
    refine wpUp_nil (fun wq hwq => ?_)
    simp only [fills]
    go_wp2
    go_ret
    refine ⟨rfl, ?_⟩
    (repeat (first | exact Up.refl _ | refine Up.alloc ?_ _ | refine Up.drew ?_ | refine Up.set ?_ (by first | exact Nat.le_refl _ | (simp; done) | (simp; omega)) _ | refine Up.trans ?_ (by with_reducible assumption)))

end Go.Proofs.YtiiahjnfbhcgmaaGreatDoor
