/- Texts joined into one: the walks and laws that the last text leans on. Conditions: as each says. -/
import Derived.Test.YtiiahjnfbhcgmaaGreatDoorMFnIndexTextLawE
import Derived.Deep.DeepCutAuto
import Derived.Test.YtiiahjnfbhcgmaaGreatDoorMFnIndexTextLawD
import Derived.Test.YtiiahjnfbhcgmaaGreatDoorStr
import Derived.Test.YtiiahjnfbhcgmaaGreatDoorShelf
import Derived.Test.YtiiahjnfbhcgmaaGreatDoorFi1
import Derived.Test.YtiiahjnfbhcgmaaGreatDoorPn
import Derived.Test.YtiiahjnfbhcgmaaGreatDoorSeek3

set_option linter.unusedVariables false
set_option linter.unusedSimpArgs false
/- The reference's l9Num. Conditions: fewer than 2^20 bytes. -/
namespace Go.Proofs.YtiiahjnfbhcgmaaGreatDoor
set_option linter.unusedVariables false
set_option linter.unusedSimpArgs false
open Go Go.RowKit

theorem numU_nil (neg : Bool) : numU neg [] = none := by unfold numU; rw [if_pos (.inl rfl)]
theorem numU_long {neg : Bool} {r : List UInt8} (h : 17 < r.length) : numU neg r = none := by unfold numU; rw [if_pos (.inr (.inl h))]
theorem numU_zero {neg : Bool} {r : List UInt8} (h : r.head? = some 48 ∧ (1 < r.length ∨ neg = true)) : numU neg r = none := by unfold numU; rw [if_pos (.inr (.inr h))]
theorem numU_go {neg : Bool} {r : List UInt8} (h0 : r ≠ []) (h1 : ¬ 17 < r.length) (h2 : ¬ (r.head? = some 48 ∧ (1 < r.length ∨ neg = true))) : numU neg r = (Lib.decFrom 0 r).map fun m => if neg then -(m : Int) else m := by
  unfold numU
  rw [if_neg]
  rintro (h | h | h)
  · exact h0 h
  · exact h1 h
  · exact h2 h
theorem decFrom_bad : ∀ (r : List UInt8) (acc k : Nat) (hk : k < r.length), Lib.digitVal r[k] = none → Lib.decFrom acc r = none
  | [], _, k, hk, _ => absurd hk (Nat.not_lt_zero _)
  | b :: r, acc, 0, _, h => by unfold Lib.decFrom; rw [show Lib.digitVal b = none from h]
  | b :: r, acc, k + 1, hk, h => by
    unfold Lib.decFrom
    cases hb : Lib.digitVal b with
    | none => rfl
    | some d => exact decFrom_bad r _ k (by simpa using hk) h
theorem decFrom_take {r : List UInt8} {k m d : Nat} (hk : k < r.length) (h : Lib.decFrom 0 (r.take k) = some m) (hd : Lib.digitVal r[k] = some d) : Lib.decFrom 0 (r.take (k + 1)) = some (m * 10 + d) := by
  rw [List.take_succ_eq_append_getElem hk]
  exact decFrom_snoc _ _ _ _ _ h hd
theorem digitVal_yes {b : UInt8} (h : 48 ≤ b.toNat ∧ b.toNat ≤ 57) : Lib.digitVal b = some (b.toNat - 48) := by unfold Lib.digitVal; rw [if_pos h]
theorem digitVal_no {b : UInt8} (h : b.toNat < 48 ∨ 57 < b.toNat) : Lib.digitVal b = none := by unfold Lib.digitVal; rw [if_neg (by omega)]
theorem bs_at {l : List UInt8} {k : Nat} (h : k < l.length) (h' : k < (bs l).size) : (bs l)[k] = l[k] := rfl
/-- How a text begins, for l9Num. -/
theorem num_form (l : List UInt8) : ∃ (neg : Bool) (r : List UInt8), numR l = numU neg r ∧ r.length ≤ l.length ∧ (neg = true ∧ l = 45 :: r ∨ neg = false ∧ l = r ∧ r.head? ≠ some 45) := by
  by_cases h : l.head? = some 45
  · cases l with
    | nil => cases h
    | cons b r =>
      simp only [List.head?_cons, Option.some.injEq] at h
      subst h
      exact ⟨true, r, by unfold numR; rfl, by simp, .inl ⟨rfl, rfl⟩⟩
  · exact ⟨false, l, by unfold numR; rw [if_neg h], Nat.le_refl _, .inr ⟨rfl, rfl, h⟩⟩
def RelNm (r : List UInt8) (w : World) (n i : Value) (wr : World) : Prop := ∃ k m : Nat, k ≤ r.length ∧ i = .int .i64 k ∧ n = .int .i64 m ∧ Lib.decFrom 0 (r.take k) = some m ∧ m < 10 ^ k ∧ w = wr
theorem pow17 {k : Nat} (h : k ≤ 17) : 10 ^ k ≤ 100000000000000000 := Nat.pow_le_pow_right (n := 10) (by decide) h

theorem num_cases (neg : Bool) (r : List UInt8) : r = [] ∨ 17 < r.length ∨ (∃ h : 1 < r.length, r.length ≤ 17 ∧ r[0] = 48) ∨ (r = [48] ∧ neg = true) ∨ (r = [48] ∧ neg = false) ∨ ∃ h : 0 < r.length, r.length ≤ 17 ∧ r[0] ≠ 48 := by
  cases r with
  | nil => exact .inl rfl
  | cons b t =>
    by_cases h1 : 17 < (b :: t).length
    · exact .inr (.inl h1)
    · by_cases h2 : b = 48
      · subst h2
        cases t with
        | nil => cases neg <;> simp
        | cons c t => exact .inr (.inr (.inl ⟨by simp, by omega, rfl⟩))
      · exact .inr (.inr (.inr (.inr (.inr ⟨by simp, by omega, h2⟩))))
theorem numU_go' {neg : Bool} {r : List UInt8} (h : 0 < r.length) (h1 : r.length ≤ 17) (h2 : r[0] ≠ 48) : numU neg r = (Lib.decFrom 0 r).map fun m => if neg then -(m : Int) else m := by
  refine numU_go (by intro e; subst e; simp at h) (by omega) (fun h3 => h2 ?_)
  have := h3.1
  rw [List.head?_eq_getElem?, List.getElem?_eq_getElem h] at this
  exact Option.some.inj this

set_option maxRecDepth 100000 in
set_option maxHeartbeats 1000000 in
theorem l9Num_any (l : List UInt8) (w : World) (hl : l.length ≤ 1048576) :
    Calls Tryz.prog 108  #[.string (bs l)] w (fun e w' => e = .returned (.tuple #[.int .i64 ((numR l).getD 0), .bool (numR l).isSome]) ∧ w = w') := by
  obtain ⟨neg, r, hnr, hrl, hf⟩ := num_form l
  rw [hnr]
  have hz := bs_size l
  have hzr := bs_size r
  clear hnr
  rcases hf with ⟨rfl, hlr⟩ | ⟨rfl, hlr, hh⟩
  · have hlr := hlr.symm
    subst hlr
    have h1 : 0 < (bs (45 :: r)).size := by rw [hz]; simp
    have h2 : ((bs (45 :: r))[0].toNat : Int) = 45 := rfl
    have h3 : (bs (45 :: r)).extract 1 (r.length + 1) = bs r := by rw [bs_ext]; simp
    have h4 : (bs (45 :: r)).size = r.length + 1 := by rw [hz]; simp
    obtain ⟨neg, hneg⟩ : ∃ neg, Hid (true = neg) := ⟨true, rfl⟩
    rw [show numU true r = numU neg r from by rw [hneg.out]]
    clear hz
    rcases num_cases neg r with hc | hc | ⟨hc, hc1, hc2⟩ | ⟨hc, hc1⟩ | ⟨hc, hc1⟩ | ⟨hc, hc1, hc2⟩
    · have e : Hid (numU neg r = none) := by rw [hc]; exact numU_nil _
      have hz0 : (bs r).size = 0 := by rw [hzr, hc]; rfl
      have hz1 : r.length = 0 := by rw [hc]; rfl
      have HC := Lib.hid hc
      have hB0 : ((r.length : Int) == 0) = true := by rw [beq_iff_eq]; omega
      clear hc
      go_enter Tryz.func108, Tryz.ntmps108
      go_wp2
      ((try simp only [Exit.inBlock, Exit.then]); refine bodyPost_ret (v := _) (by simp [results, Tryz.results108, go_sem]; rfl) rfl ?_)
      exact ⟨by rw [e.out]; rfl, rfl⟩
    · have e : Hid (numU neg r = none) := numU_long hc
      have hB0 : ((r.length : Int) == 0) = false := by rw [beq_eq_false_iff_ne]; omega
      have hB17 : decide (17 < (r.length : Int)) = true := decide_eq_true (by omega)
      have hs0 : 0 < (bs r).size := by omega
      go_enter Tryz.func108, Tryz.ntmps108
      go_wp2
      ((try simp only [Exit.inBlock, Exit.then]); refine bodyPost_ret (v := _) (by simp [results, Tryz.results108, go_sem]; rfl) rfl ?_)
      exact ⟨by rw [e.out]; rfl, rfl⟩
    · have e : Hid (numU neg r = none) := numU_zero ⟨by rw [List.head?_eq_getElem?, List.getElem?_eq_getElem (by omega), hc2], .inl hc⟩
      have hs0 : 0 < (bs r).size := by omega
      have hb : (((bs r)[0]'hs0).toNat : Int) = 48 := by show ((r[0]'(by omega)).toNat : Int) = 48; rw [hc2]; rfl
      have hB48 : ((((bs r)[0]'hs0).toNat : Int) == 48) = true := by rw [beq_iff_eq]; exact hb
      have hB0 : ((r.length : Int) == 0) = false := by rw [beq_eq_false_iff_ne]; omega
      have hB17 : decide (17 < (r.length : Int)) = false := decide_eq_false (by omega)
      have hB1 : decide (1 < (r.length : Int)) = true := decide_eq_true (by omega)
      clear hc2
      go_enter Tryz.func108, Tryz.ntmps108
      go_wp2
      ((try simp only [Exit.inBlock, Exit.then]); refine bodyPost_ret (v := _) (by simp [results, Tryz.results108, go_sem]; rfl) rfl ?_)
      exact ⟨by rw [e.out]; rfl, rfl⟩
    · have e : Hid (numU neg r = none) := numU_zero ⟨by rw [hc]; rfl, .inr hc1⟩
      have hz0 : (bs r).size = 1 := by rw [hzr, hc]; rfl
      have hs0 : 0 < (bs r).size := by omega
      have hb : (((bs r)[0]'hs0).toNat : Int) = 48 := by subst hc; rfl
      have hz1 : r.length = 1 := by rw [hc]; rfl
      have h5 : (bs (45 :: r)).extract 1 2 = bs r := by rw [← h3, hz1]
      have hB48 : ((((bs r)[0]'hs0).toNat : Int) == 48) = true := by rw [beq_iff_eq]; exact hb
      have hB0 : ((r.length : Int) == 0) = false := by rw [beq_eq_false_iff_ne]; omega
      have hB17 : decide (17 < (r.length : Int)) = false := decide_eq_false (by omega)
      have hB1 : decide (1 < (r.length : Int)) = false := decide_eq_false (by omega)
      clear hc hc1
      go_enter Tryz.func108, Tryz.ntmps108
      go_wp2
      ((try simp only [Exit.inBlock, Exit.then]); refine bodyPost_ret (v := _) (by simp [results, Tryz.results108, go_sem]; rfl) rfl ?_)
      exact ⟨by rw [e.out]; rfl, rfl⟩
    · have hn2 := hneg.out; rw [hc1] at hn2; cases hn2
    · have hgo := numU_go' (neg := neg) hc hc1 hc2
      have hs0 : 0 < (bs r).size := by omega
      have hb : (((bs r)[0]'hs0).toNat : Int) ≠ 48 := fun e => hc2 (UInt8.toNat_inj.1 (by have e2 : ((r[0]'(by omega)).toNat : Int) = 48 := e; show (r[0]'(by omega)).toNat = 48; omega))
      have hB48 : ((((bs r)[0]'hs0).toNat : Int) == 48) = false := by rw [beq_eq_false_iff_ne]; exact hb
      have hB0 : ((r.length : Int) == 0) = false := by rw [beq_eq_false_iff_ne]; omega
      have hB17 : decide (17 < (r.length : Int)) = false := decide_eq_false (by omega)
      clear hc2
      have HG := Lib.hid hgo
      clear hgo
      go_enter Tryz.func108, Tryz.ntmps108
      go_wp2
      go_loopw [5, 6] (fun n i wr => RelNm r w n i wr) (fun _ i _ => r.length - (intOf i).toNat)
      case atStart => exact ⟨0, 0, Nat.zero_le _, rfl, rfl, rfl, by simp, rfl⟩
      case round =>
        obtain ⟨k, m, hk, rfl, rfl, hdec, hm, rfl⟩ := hrel
        have HD := Lib.hid hdec
        have hp := pow17 (k := k) (by omega)
        have hmb : m ≤ 100000000000000000 := by omega
        have HM := Lib.hid hm
        clear hdec hm hp
        by_cases hlt : k < r.length
        · have hlt2 : k < (bs r).size := by omega
          have hu := u8_bd (bs r)[k]
          have hbk : (bs r)[k] = r[k] := bs_at hlt hlt2
          have HBK := Lib.hid hbk
          clear hbk
          by_cases hd : 48 ≤ (bs r)[k].toNat ∧ (bs r)[k].toNat ≤ 57
          · obtain ⟨hd1, hd2⟩ := hd
            have HS : Hid (Lib.decFrom 0 (r.take (k + 1)) = some (m * 10 + ((bs r)[k].toNat - 48))) := decFrom_take hlt HD.out (by show Lib.digitVal ((bs r)[k]'hlt2) = _; exact digitVal_yes ⟨hd1, hd2⟩)
            go_wp2
            go_roundw
            case rel => exact ⟨k + 1, m * 10 + ((bs r)[k].toNat - 48), by omega, by go_num, by go_num, HS.out, by have := HM.out; rw [Nat.pow_succ]; omega, rfl⟩
            case measure => simp [intOf]; omega
          · have e : Hid (numU neg r = none) := by
              unfold Hid
              rw [HG.out, decFrom_bad r 0 k hlt (by show Lib.digitVal ((bs r)[k]'hlt2) = none; exact digitVal_no (by omega))]
              rfl
            by_cases hd1 : (bs r)[k].toNat < 48
            all_goals
              go_wp2
              ((try simp only [Exit.inBlock, Exit.then]); refine bodyPost_ret (v := _) (by simp [results, Tryz.results108, go_sem]; rfl) rfl ?_)
              exact ⟨by rw [e.out]; rfl, rfl⟩
        · have hkr : k = r.length := by omega
          subst hkr
          have hd := HD.out
          rw [List.take_length] at hd
          have e : Hid (numU neg r = some (if neg then -(m : Int) else m)) := by unfold Hid; rw [HG.out, hd]; rfl
          clear hd
          go_wp2
          ((try simp only [Exit.inBlock, Exit.then]); refine bodyPost_ret (v := _) (by simp [results, Tryz.results108, go_sem]; rfl) rfl ?_)
          exact ⟨by rw [e.out, ← hneg.out]; rfl, rfl⟩
  · have hlr := hlr.symm
    subst hlr
    obtain ⟨neg, hneg⟩ : ∃ neg, Hid (false = neg) := ⟨false, rfl⟩
    rw [show numU false r = numU neg r from by rw [hneg.out]]
    have hq : ∀ h : 0 < (bs r).size, (((bs r)[0]'h).toNat : Int) ≠ 45 := fun h e => hh (by
      rw [List.head?_eq_getElem?, List.getElem?_eq_getElem (by omega)]
      congr 1
      exact UInt8.toNat_inj.1 (by have e2 : ((r[0]'(by omega)).toNat : Int) = 45 := e; show (r[0]'(by omega)).toNat = 45; omega))
    clear hh hz
    rcases num_cases neg r with hc | hc | ⟨hc, hc1, hc2⟩ | ⟨hc, hc1⟩ | ⟨hc, hc1⟩ | ⟨hc, hc1, hc2⟩
    · have e : Hid (numU neg r = none) := by rw [hc]; exact numU_nil _
      have hz0 : (bs r).size = 0 := by rw [hzr, hc]; rfl
      have hz1 : r.length = 0 := by rw [hc]; rfl
      have HC := Lib.hid hc
      have hB0 : ((r.length : Int) == 0) = true := by rw [beq_iff_eq]; omega
      clear hc
      go_enter Tryz.func108, Tryz.ntmps108
      go_wp2
      ((try simp only [Exit.inBlock, Exit.then]); refine bodyPost_ret (v := _) (by simp [results, Tryz.results108, go_sem]; rfl) rfl ?_)
      exact ⟨by rw [e.out]; rfl, rfl⟩
    · have e : Hid (numU neg r = none) := numU_long hc
      have hB0 : ((r.length : Int) == 0) = false := by rw [beq_eq_false_iff_ne]; omega
      have hB17 : decide (17 < (r.length : Int)) = true := decide_eq_true (by omega)
      have hs0 : 0 < (bs r).size := by omega
      have hq1 : (((bs r)[0]'hs0).toNat : Int) ≠ 45 := hq hs0
      have hB45 : ((((bs r)[0]'hs0).toNat : Int) == 45) = false := by rw [beq_eq_false_iff_ne]; exact hq1
      go_enter Tryz.func108, Tryz.ntmps108
      go_wp2
      ((try simp only [Exit.inBlock, Exit.then]); refine bodyPost_ret (v := _) (by simp [results, Tryz.results108, go_sem]; rfl) rfl ?_)
      exact ⟨by rw [e.out]; rfl, rfl⟩
    · have e : Hid (numU neg r = none) := numU_zero ⟨by rw [List.head?_eq_getElem?, List.getElem?_eq_getElem (by omega), hc2], .inl hc⟩
      have hs0 : 0 < (bs r).size := by omega
      have hb : (((bs r)[0]'hs0).toNat : Int) = 48 := by show ((r[0]'(by omega)).toNat : Int) = 48; rw [hc2]; rfl
      have hB48 : ((((bs r)[0]'hs0).toNat : Int) == 48) = true := by rw [beq_iff_eq]; exact hb
      have hB0 : ((r.length : Int) == 0) = false := by rw [beq_eq_false_iff_ne]; omega
      have hB17 : decide (17 < (r.length : Int)) = false := decide_eq_false (by omega)
      have hB1 : decide (1 < (r.length : Int)) = true := decide_eq_true (by omega)
      clear hc2
      go_enter Tryz.func108, Tryz.ntmps108
      go_wp2
      ((try simp only [Exit.inBlock, Exit.then]); refine bodyPost_ret (v := _) (by simp [results, Tryz.results108, go_sem]; rfl) rfl ?_)
      exact ⟨by rw [e.out]; rfl, rfl⟩
    · have hn2 := hneg.out; rw [hc1] at hn2; cases hn2
    · have hgo : numU neg r = (Lib.decFrom 0 r).map fun m => if neg then -(m : Int) else m := numU_go (by rw [hc]; simp) (by rw [hc]; simp) (by rw [hc, hc1]; simp)
      have hz0 : (bs r).size = 1 := by rw [hzr, hc]; rfl
      have hs0 : 0 < (bs r).size := by omega
      have hb : (((bs r)[0]'hs0).toNat : Int) = 48 := by subst hc; rfl
      have hz1 : r.length = 1 := by rw [hc]; rfl
      have hB48 : ((((bs r)[0]'hs0).toNat : Int) == 48) = true := by rw [beq_iff_eq]; exact hb
      have hB0 : ((r.length : Int) == 0) = false := by rw [beq_eq_false_iff_ne]; omega
      have hB17 : decide (17 < (r.length : Int)) = false := decide_eq_false (by omega)
      have hB1 : decide (1 < (r.length : Int)) = false := decide_eq_false (by omega)
      clear hc hc1
      have HG := Lib.hid hgo
      clear hgo
      go_enter Tryz.func108, Tryz.ntmps108
      go_wp2
      go_loopw [5, 6] (fun n i wr => RelNm r w n i wr) (fun _ i _ => r.length - (intOf i).toNat)
      case atStart => exact ⟨0, 0, Nat.zero_le _, rfl, rfl, rfl, by simp, rfl⟩
      case round =>
        obtain ⟨k, m, hk, rfl, rfl, hdec, hm, rfl⟩ := hrel
        have HD := Lib.hid hdec
        have hp := pow17 (k := k) (by omega)
        have hmb : m ≤ 100000000000000000 := by omega
        have HM := Lib.hid hm
        clear hdec hm hp
        by_cases hlt : k < r.length
        · have hlt2 : k < (bs r).size := by omega
          have hu := u8_bd (bs r)[k]
          have hbk : (bs r)[k] = r[k] := bs_at hlt hlt2
          have HBK := Lib.hid hbk
          clear hbk
          by_cases hd : 48 ≤ (bs r)[k].toNat ∧ (bs r)[k].toNat ≤ 57
          · obtain ⟨hd1, hd2⟩ := hd
            have HS : Hid (Lib.decFrom 0 (r.take (k + 1)) = some (m * 10 + ((bs r)[k].toNat - 48))) := decFrom_take hlt HD.out (by show Lib.digitVal ((bs r)[k]'hlt2) = _; exact digitVal_yes ⟨hd1, hd2⟩)
            go_wp2
            go_roundw
            case rel => exact ⟨k + 1, m * 10 + ((bs r)[k].toNat - 48), by omega, by go_num, by go_num, HS.out, by have := HM.out; rw [Nat.pow_succ]; omega, rfl⟩
            case measure => simp [intOf]; omega
          · have e : Hid (numU neg r = none) := by
              unfold Hid
              rw [HG.out, decFrom_bad r 0 k hlt (by show Lib.digitVal ((bs r)[k]'hlt2) = none; exact digitVal_no (by omega))]
              rfl
            by_cases hd1 : (bs r)[k].toNat < 48
            all_goals
              go_wp2
              ((try simp only [Exit.inBlock, Exit.then]); refine bodyPost_ret (v := _) (by simp [results, Tryz.results108, go_sem]; rfl) rfl ?_)
              exact ⟨by rw [e.out]; rfl, rfl⟩
        · have hkr : k = r.length := by omega
          subst hkr
          have hd := HD.out
          rw [List.take_length] at hd
          have e : Hid (numU neg r = some (if neg then -(m : Int) else m)) := by unfold Hid; rw [HG.out, hd]; rfl
          clear hd
          go_wp2
          ((try simp only [Exit.inBlock, Exit.then]); refine bodyPost_ret (v := _) (by simp [results, Tryz.results108, go_sem]; rfl) rfl ?_)
          exact ⟨by rw [e.out, ← hneg.out]; rfl, rfl⟩
    · have hgo := numU_go' (neg := neg) hc hc1 hc2
      have hs0 : 0 < (bs r).size := by omega
      have hq1 : (((bs r)[0]'hs0).toNat : Int) ≠ 45 := hq hs0
      have hB45 : ((((bs r)[0]'hs0).toNat : Int) == 45) = false := by rw [beq_eq_false_iff_ne]; exact hq1
      have hb : (((bs r)[0]'hs0).toNat : Int) ≠ 48 := fun e => hc2 (UInt8.toNat_inj.1 (by have e2 : ((r[0]'(by omega)).toNat : Int) = 48 := e; show (r[0]'(by omega)).toNat = 48; omega))
      have hB48 : ((((bs r)[0]'hs0).toNat : Int) == 48) = false := by rw [beq_eq_false_iff_ne]; exact hb
      have hB0 : ((r.length : Int) == 0) = false := by rw [beq_eq_false_iff_ne]; omega
      have hB17 : decide (17 < (r.length : Int)) = false := decide_eq_false (by omega)
      clear hc2
      have HG := Lib.hid hgo
      clear hgo
      go_enter Tryz.func108, Tryz.ntmps108
      go_wp2
      go_loopw [5, 6] (fun n i wr => RelNm r w n i wr) (fun _ i _ => r.length - (intOf i).toNat)
      case atStart => exact ⟨0, 0, Nat.zero_le _, rfl, rfl, rfl, by simp, rfl⟩
      case round =>
        obtain ⟨k, m, hk, rfl, rfl, hdec, hm, rfl⟩ := hrel
        have HD := Lib.hid hdec
        have hp := pow17 (k := k) (by omega)
        have hmb : m ≤ 100000000000000000 := by omega
        have HM := Lib.hid hm
        clear hdec hm hp
        by_cases hlt : k < r.length
        · have hlt2 : k < (bs r).size := by omega
          have hu := u8_bd (bs r)[k]
          have hbk : (bs r)[k] = r[k] := bs_at hlt hlt2
          have HBK := Lib.hid hbk
          clear hbk
          by_cases hd : 48 ≤ (bs r)[k].toNat ∧ (bs r)[k].toNat ≤ 57
          · obtain ⟨hd1, hd2⟩ := hd
            have HS : Hid (Lib.decFrom 0 (r.take (k + 1)) = some (m * 10 + ((bs r)[k].toNat - 48))) := decFrom_take hlt HD.out (by show Lib.digitVal ((bs r)[k]'hlt2) = _; exact digitVal_yes ⟨hd1, hd2⟩)
            go_wp2
            go_roundw
            case rel => exact ⟨k + 1, m * 10 + ((bs r)[k].toNat - 48), by omega, by go_num, by go_num, HS.out, by have := HM.out; rw [Nat.pow_succ]; omega, rfl⟩
            case measure => simp [intOf]; omega
          · have e : Hid (numU neg r = none) := by
              unfold Hid
              rw [HG.out, decFrom_bad r 0 k hlt (by show Lib.digitVal ((bs r)[k]'hlt2) = none; exact digitVal_no (by omega))]
              rfl
            by_cases hd1 : (bs r)[k].toNat < 48
            all_goals
              go_wp2
              ((try simp only [Exit.inBlock, Exit.then]); refine bodyPost_ret (v := _) (by simp [results, Tryz.results108, go_sem]; rfl) rfl ?_)
              exact ⟨by rw [e.out]; rfl, rfl⟩
        · have hkr : k = r.length := by omega
          subst hkr
          have hd := HD.out
          rw [List.take_length] at hd
          have e : Hid (numU neg r = some (if neg then -(m : Int) else m)) := by unfold Hid; rw [HG.out, hd]; rfl
          clear hd
          go_wp2
          ((try simp only [Exit.inBlock, Exit.then]); refine bodyPost_ret (v := _) (by simp [results, Tryz.results108, go_sem]; rfl) rfl ?_)
          exact ⟨by rw [e.out, ← hneg.out]; rfl, rfl⟩

end Go.Proofs.YtiiahjnfbhcgmaaGreatDoor

/- The reference's l9Cut; strings.Split and strings.Cut at one byte. Conditions: fewer than 2^20 bytes; bytealg.MaxLen holds an int. -/
namespace Go.Proofs.YtiiahjnfbhcgmaaGreatDoor
set_option linter.unusedVariables false
set_option linter.unusedSimpArgs false
open Go Go.RowKit

def bL (b : ByteArray) : List UInt8 := b.data.toList
theorem own_noC {w' : World} {base g : Nat} (hg : g = w'.heap.size) (hb : base ≤ w'.heap.size) : ownS (w'.alloc (.cells #[] 9)) base (.slice (some ⟨g, 0, none⟩) 0 0) [] := by
  subst hg
  exact World.ownsRow_made _ _ _ hb (by unfold maxLen; omega) rfl
theorem own_addC {w : World} {base : Nat} {v : Value} {l : List ByteArray} {t : ByteArray} (h : w.ownsRow base 9 1 v (l.length + 1) (cellsS l ++ [.string t])) : ownS w base v (l ++ [t]) := by
  have e1 : (l ++ [t]).length = l.length + 1 := by simp
  have e2 : cellsS (l ++ [t]) = cellsS l ++ [.string t] := by simp [cellsS]
  unfold ownS
  rw [e1, e2]
  exact h
def RelCt (s : ByteArray) (c : UInt8) (w : World) (out frm i : Value) (wr : World) : Prop := ∃ (k f : Nat) (P : List ByteArray), k ≤ s.size + 1 ∧ f ≤ k ∧ P.length ≤ k ∧ i = .int .i64 k ∧ frm = .int .i64 f ∧ ownS wr w.heap.size out P ∧ Up w wr ∧ (k ≤ s.size → IsSpl c ((bL s).take k) (P.map bL ++ [((bL s).take k).drop f])) ∧ (s.size < k → IsSpl c (bL s) (P.map bL))
theorem bL_ext (s : ByteArray) (f k : Nat) : bL (s.extract f k) = ((bL s).take k).drop f := by
  unfold bL
  rw [Lib.extract_data, List.drop_take]
theorem bL_map (P : List ByteArray) : (P.map bL).map bs = P := by
  rw [List.map_map]
  conv => rhs; rw [← List.map_id P]
  exact List.map_congr_left fun x _ => bs_self x

set_option maxRecDepth 100000 in
set_option maxHeartbeats 1000000 in
theorem l9Cut_any (s : ByteArray) (c : UInt8) (w : World) (hs : s.size ≤ 1048576) :
    Calls Tryz.prog 80  #[.string s, .int .u8 c.toNat] w (fun e w' => ∃ v, e = .returned v ∧ ownS w' w.heap.size v ((splL c s.data.toList).map bs) ∧ Up w w') := by
  obtain ⟨i0, hib, hz0, hz1, hz2⟩ := info_parts infoStr
  go_enter Tryz.func80, Tryz.ntmps80
  go_wp2
  go_loopw [5, 6, 7] (fun out f i wr => RelCt s c w out f i wr) (fun _ _ i _ => s.size + 1 - (intOf i).toNat)
  case atStart => exact ⟨0, 0, [], Nat.zero_le _, Nat.le_refl _, Nat.le_refl _, rfl, rfl, own_noC rfl (Nat.le_refl _), by (repeat (first | with_reducible exact Up.refl _ | with_reducible assumption | with_reducible refine Up.set ?_ (by first | exact Nat.le_refl _ | (simp only []; omega) | (simp; omega)) _ | with_reducible refine Up.alloc ?_ _ | with_reducible refine Up.drew ?_ | refine Up.trans ?_ (by with_reducible assumption))), fun _ => by simpa using IsSpl.nil c, fun h => absurd h (Nat.not_lt_zero _)⟩
  case round =>
    obtain ⟨k, f, P, hk, hf, hP, rfl, rfl, ho, hup, hA, hB⟩ := hrel
    obtain ⟨a, cp, rfl⟩ := ownsRow_shape ho
    have HO := Lib.hid ho
    have HA := Lib.hid hA
    have HB := Lib.hid hB
    have hln := ba_len s
    have HLN := Lib.hid hln
    clear ho hA hB hln
    have hwz := hup.size
    by_cases hlt : k < s.size
    · have hu := u8_bd s[k]
      have hl : k < (bL s).length := by have := HLN.out; unfold bL; omega
      have et : Hid ((bL s).take (k + 1) = (bL s).take k ++ [s[k]]) := by unfold Hid; rw [List.take_succ_eq_append_getElem hl]; rfl
      have ht : ((bL s).take k).length = k := by rw [List.length_take]; omega
      have HT := Lib.hid ht
      clear ht
      by_cases hc : s[k] = c
      · have hq : ((s[k].toNat : Int) == (c.toNat : Int)) = true := by rw [hc]; simp
        have hq2 : (s[k].toNat : Int) = c.toNat := by rw [hc]
        have hkn : ((k : Int) == (s.size : Int)) = false := by rw [beq_eq_false_iff_ne]; omega
        have HC := Lib.hid hc
        clear hc
        go_wp2_with (first | (at_builtin; refine wpList_append_own _ rfl _ _ 45 rfl (w.heap.size) 9 i0 (.string ByteArray.empty) 1 16 Tryz.underlying45 hib hz0 hz1 hz2 rfl (by decide) _ _ _ rfl ((HO.out).alloc _) ⟨(wr).heap.size, 0, none⟩ 1 1 [.string (s.extract f k)] rfl rfl (new_cells [.string (s.extract f k)] _ rfl) (by intro u hu; simp at hu; subst hu; rfl) (by unfold maxLen; omega) (by omega) (by simp; omega) ?_; rintro v2 w2 hown2 hgr2 -) | fail)
        go_roundw
        case rel => exact ⟨k + 1, k + 1, P ++ [s.extract f k], by omega, Nat.le_refl _, by rw [List.length_append, List.length_singleton]; omega, by go_num, by go_num, own_addC hown2, (hup.alloc _).grown hgr2 (fun x hx => (HO.out.lt x hx).1), fun h => by
          have h1 := (HA.out (by omega)).cut
          rw [← HC.out, ← et.out] at h1
          rw [List.map_append, List.map_singleton, bL_ext, ← HC.out]
          rw [List.drop_of_length_le (l := (bL s).take (k + 1)) (by rw [List.length_take]; omega)]
          exact h1, fun h => by omega⟩
        case measure => simp [intOf]; omega
      · have hq : ((s[k].toNat : Int) == (c.toNat : Int)) = false := by
          rw [beq_eq_false_iff_ne]
          intro e
          exact hc (UInt8.toNat_inj.1 (by omega))
        have hkn : ((k : Int) == (s.size : Int)) = false := by rw [beq_eq_false_iff_ne]; omega
        have HC := Lib.hid hc
        clear hc
        go_wp2
        go_roundw
        case rel => exact ⟨k + 1, f, P, by omega, by omega, by omega, by go_num, rfl, HO.out, hup, fun h => by
          have h1 := (HA.out (by omega)).grow (b := s[k]) HC.out
          rw [et.out, List.drop_append_of_le_length (by rw [HT.out]; exact hf)]
          exact h1, fun h => by omega⟩
        case measure => simp [intOf]; omega
    · by_cases he : k = s.size
      · subst he
        have hkn : ((s.size : Int) == (s.size : Int)) = true := by simp
        go_wp2_with (first | (at_builtin; refine wpList_append_own _ rfl _ _ 45 rfl (w.heap.size) 9 i0 (.string ByteArray.empty) 1 16 Tryz.underlying45 hib hz0 hz1 hz2 rfl (by decide) _ _ _ rfl ((HO.out).alloc _) ⟨(wr).heap.size, 0, none⟩ 1 1 [.string (s.extract f s.size)] rfl rfl (new_cells [.string (s.extract f s.size)] _ rfl) (by intro u hu; simp at hu; subst hu; rfl) (by unfold maxLen; omega) (by omega) (by simp; omega) ?_; rintro v2 w2 hown2 hgr2 -) | fail)
        go_roundw
        case rel => exact ⟨s.size + 1, s.size + 1, P ++ [s.extract f s.size], by omega, Nat.le_refl _, by rw [List.length_append, List.length_singleton]; omega, by go_num, by go_num, own_addC hown2, (hup.alloc _).grown hgr2 (fun x hx => (HO.out.lt x hx).1), fun h => by omega, fun h => by
          have h1 := HA.out (by omega)
          rw [List.map_append, List.map_singleton, bL_ext]
          rw [List.take_of_length_le (l := bL s) (by have := HLN.out; unfold bL; omega)] at h1 ⊢
          exact h1⟩
        case measure => simp [intOf]
      · go_wp2
        go_ret
        have e := splL_eq (HB.out (by omega))
        exact ⟨_, rfl, by rw [show splL c s.data.toList = P.map bL from e, bL_map]; exact HO.out, hup⟩

/-- strings.Split at one byte. -/
theorem split_any (s : ByteArray) (c : UInt8) (w : World) (hm : ∃ m, w.cell? ⟨0, 0, none⟩ = some (.int .i64 m)) (hs : s.size ≤ 1048576) :
    Calls Tryz.prog 61 #[.string s, .string ⟨#[c]⟩] w (fun e w' => ∃ v, e = .returned v ∧ ownS w' w.heap.size v ((splL c s.data.toList).map bs) ∧ Up w w') := by
  obtain ⟨m, hm⟩ := hm
  have hk : Lib.countB s ⟨#[c]⟩ = s.data.toList.count c := by
    show Lib.count s.data.toList [c] = _
    exact Lib.count_one c _
  have hd := Lib.splitB_data ⟨#[c]⟩ 0 (s.data.toList.count c) s
  have hd2 : (Lib.splitB ⟨#[c]⟩ 0 (s.data.toList.count c) s).map bL = splL c s.data.toList := by
    rw [← splitK_splL]; exact hd
  have hB : Lib.splitB ⟨#[c]⟩ 0 (s.data.toList.count c) s = (splL c s.data.toList).map bs := by rw [← hd2, bL_map]
  refine (Tryz.strings_Split s ⟨#[c]⟩ m w (by omega) hm (Nat.le_refl _)).mono fun e w' ⟨he, hw⟩ => ?_
  rw [hk, hB] at hw
  have hlen : (splL c s.data.toList).length = s.data.toList.count c + 1 := by
    have := Lib.splitB_all ⟨#[c]⟩ (Nat.le_refl _) 0 _ s hk
    rw [hB, List.length_map] at this; exact this
  have hle := splL_length_le c s.data.toList
  have hln := ba_len s
  refine ⟨_, he, ?_, ?_⟩
  · subst hw
    rw [hk, ← hlen]
    unfold ownS
    rw [List.length_map]
    exact ⟨by simp [cellsS], .inr ⟨w.heap.size, _, _, rfl, Nat.le_refl _, (MapKept.heap_alloc w _).1, Nat.le_refl _, by unfold maxLen; omega, by simp, by rw [Nat.mul_one]; unfold cellsS; rw [List.take_of_length_le (by simp)]⟩⟩
  · subst hw; exact (Up.refl _).alloc _
/-- strings.Cut at one byte. -/
theorem cut_any (l : List UInt8) (c : UInt8) (w : World) (hm : ∃ m, w.cell? ⟨0, 0, none⟩ = some (.int .i64 m)) (hs : l.length ≤ 1048576) :
    Calls Tryz.prog 106 #[.string (bs l), .string ⟨#[c]⟩] w (fun e w' => e = .returned (.tuple #[.string (bs (match cutL c l with | some p => p.1 | none => l)), .string (bs (match cutL c l with | some p => p.2 | none => [])), .bool (cutL c l).isSome]) ∧ Up w w') := by
  obtain ⟨m, hm⟩ := hm
  have hz := bs_size l
  refine (Tryz.strings_Cut (bs l) ⟨#[c]⟩ m w (by omega) hm).mono fun e w' ⟨he, n, hw⟩ => ⟨?_, ?_⟩
  · rw [he]
    have e1 : Lib.cut (bs l).data.toList (⟨#[c]⟩ : ByteArray).data.toList = Lib.cut l [c] := by rw [bs_data]
    rw [e1, cut_cutL]
    cases cutL c l <;> rfl
  · subst hw
    exact ⟨rfl, rfl, rfl, Nat.le_refl _, fun i hi => rfl⟩

end Go.Proofs.YtiiahjnfbhcgmaaGreatDoor

/- The reference's ParseIndex. Conditions: fewer than 2^20 bytes. -/
namespace Go.Proofs.YtiiahjnfbhcgmaaGreatDoor
set_option linter.unusedVariables false
set_option linter.unusedSimpArgs false
open Go Go.RowKit

theorem rowsX_ne {w : World} {b1 b2 : Nat} {e1 e2 : TypeId} {s1 s2 n1 n2 : Nat} {v1 v2 : Value} {x1 x2 : List Value} (h1 : w.ownsRow b1 e1 s1 v1 n1 x1) (h2 : w.ownsRow b2 e2 s2 v2 n2 x2) (hne : e1 ≠ e2) : v1.ownBlock = none ∨ v1.ownBlock ≠ v2.ownBlock := by
  rcases h1.2 with ⟨rfl, _⟩ | ⟨g, cap, cur, rfl, _, hg, _⟩
  · exact .inl rfl
  · refine .inr fun e => ?_
    rcases h2.2 with ⟨rfl, _⟩ | ⟨g2, cap2, cur2, rfl, _, hg2, _⟩
    · cases e
    · cases e
      rw [hg] at hg2
      cases hg2
      exact hne rfl
/-- What ParseIndex leaves. -/
def PixPost (t : List UInt8) (w : World) (e : Ending) (w' : World) : Prop := ∃ v, e = .returned (.tuple #[v, .bool (prsIx t).isSome]) ∧ w'.ownsRow w.heap.size 129 2 v ((prsIx t).getD []).length (cellsP ((prsIx t).getD [])) ∧ Up w w'
def RelPx (t : List UInt8) (xs : List (List UInt8)) (vp : Value) (w : World) (out i : Value) (wr : World) : Prop := ∃ (k : Nat) (ps : List PlaceD), k ≤ xs.length ∧ k ≤ 41 ∧ (t = [45] → k = 0) ∧ i = .int .i64 k ∧ allP plcR (xs.take k) = some ps ∧ wr.ownsRow w.heap.size 129 2 out ps.length (cellsP ps) ∧ ownS wr (w.heap.size + 1) vp (xs.map bs) ∧ ps.length = k ∧ Up w wr
theorem own_strs {w : World} {base : Nat} {a : Option Addr} {n c : Nat} {xs : List (List UInt8)} (h : ownS w base (.slice a n c) (xs.map bs)) {k : Nat} (hk : k < xs.length) : ∃ g, a = some ⟨g, 0, none⟩ ∧ g < w.heap.size ∧ n = xs.length ∧ n ≤ c ∧ c ≤ maxLen ∧ w.cell? ⟨g, k, none⟩ = some (.string (bs xs[k])) := by
  unfold ownS at h
  rw [List.length_map] at h
  rcases ownsRow_read h with ⟨e, h2⟩ | ⟨g, cap, e, h1, h2, h3, h4, h5⟩
  · omega
  · cases e
    exact ⟨g, rfl, h4, rfl, h1, h2, h5 k _ (by simp [cellsS, hk])⟩

theorem l9Cut_n (l : List UInt8) (c : UInt8) (n : Int) (hn : (c.toNat : Int) = n) (w : World) (hs : l.length ≤ 1048576) :
    Calls Tryz.prog 80  #[.string (bs l), .int .u8 n] w (fun e w' => ∃ v, e = .returned v ∧ ownS w' w.heap.size v ((splL c l).map bs) ∧ Up w w') := by
  subst hn
  have := l9Cut_any (bs l) c w (by rw [bs_size]; exact hs)
  rw [bs_data] at this
  exact this
theorem l9Find_n (l : List UInt8) (c : UInt8) (n : Int) (hn : (c.toNat : Int) = n) (w : World) (hs : l.length ≤ 1048576) :
    Calls Tryz.prog 107  #[.string (bs l), .int .u8 n] w (fun e w' => e = .returned (.int .i64 (findL l c)) ∧ w = w') := by
  subst hn
  have := l9Find_any (bs l) c w (by rw [bs_size]; omega)
  rw [bs_data] at this
  exact this

set_option maxRecDepth 100000 in
set_option maxHeartbeats 1000000 in
theorem pixS_any (t : List UInt8) (w : World) (hs : t.length ≤ 1048576) :
    Calls Tryz.prog 39  #[.string (bs t)] w (PixPost t w) := by
  obtain ⟨i0, hi, hz0, hz1, hz2⟩ := info_parts infoPlace
  unfold PixPost
  have cN := fun wx => l3None_any t wx
  have zT := bs_size t
  have hnl : (noneL t).length ≤ 1048576 := by unfold noneL; split; exact Nat.zero_le _; exact hs
  have zN := bs_size (noneL t)
  have cC := fun wx => l9Cut_n (noneL t) 32 32 rfl wx hnl
  have hno : t ≠ [45] → noneL t = t := fun h => if_neg h
  generalize noneL t = u at *
  have hxl := splL_length_le 32 u
  have hxp := splL_piece_le 32 u
  obtain ⟨xs, hxs⟩ : ∃ xs, xs = splL 32 u := ⟨_, rfl⟩
  rw [← hxs] at cC hxl hxp
  go_enter Tryz.func39, Tryz.ntmps39
  go_wp2_with (first | (go_at_call 83; (with_reducible refine (cN _).mono ?_); rintro e w1 ⟨rfl, rfl⟩) | (go_at_call 80; (with_reducible refine (cC _).mono ?_); rintro e w2 ⟨vp, rfl, ho, U2⟩))
  obtain ⟨av, cv, rfl⟩ := ownsRow_shape ho
  simp only [List.length_map] at ho ⊢
  have HXS := Lib.hid hxs
  have HNO := Lib.hid hno
  have HS := Lib.hid hs
  clear hxs hno cC cN hs
  go_wp2
  go_loopw [4, 6] (fun out i wr => RelPx t xs (.slice av xs.length cv) w out i wr) (fun _ i _ => xs.length - (intOf i).toNat)
  case atStart => exact ⟨0, [], Nat.zero_le _, Nat.zero_le _, fun _ => rfl, rfl, rfl, ownsRow_up (World.ownsRow_made _ _ _ (Nat.le_refl _) (by unfold maxLen; omega) rfl) U2, ownsRow_base ho (by simp), rfl, ((Up.refl _).alloc _).trans U2⟩
  case round =>
    clear ho U2
    obtain ⟨k, ps, hk, hk41, hk0, rfl, hall, hown, ho2, hpl, hup⟩ := hrel
    have HPC := Lib.hid (rowsX_ne ho2 hown (by decide))
    have HALL := Lib.hid hall
    have HK0 := Lib.hid hk0
    have HPL := Lib.hid hpl
    have HOW := Lib.hid hown
    have HO2 := Lib.hid ho2
    have hpl2 : ps.length ≤ 41 := by omega
    obtain ⟨ao, co, rfl⟩ := ownsRow_shape hown
    clear hall hk0 hpl ho2 hown
    have hsz := hup.size
    by_cases hgo : k < xs.length ∧ t ≠ [45] ∧ k ≤ 40
    · obtain ⟨hlt, ht, hk40⟩ := hgo
      have hb : ((bs t).toList == (⟨#[45]⟩ : ByteArray).toList) = false := by rw [Lib.toList_data, Lib.toList_data, bs_data]; simpa using ht
      have hb2 : ((bs t).toList == [45]) = false := by rw [Lib.toList_data, bs_data]; simpa using ht
      have hb3 : ¬ (bs t).toList = [45] := by rw [Lib.toList_data, bs_data]; exact ht
      have hu : u = t := HNO.out ht
      have HT := Lib.hid ht
      clear ht
      obtain ⟨g, rfl, hg, -, hc1, hc2, c0⟩ := own_strs HO2.out hlt
      have hxk : (xs[k]).length ≤ u.length := hxp _ (List.getElem_mem _)
      have HXE : Hid (plcR xs[k] = none → allP plcR ((splL 32 t).take 41) = none) := fun h => by
        have hxe : xs = splL 32 t := by rw [HXS.out, hu]
        subst hxe
        exact allP_none (k := k) (by rw [List.length_take]; omega) (by rw [List.getElem_take]; exact h)
      have HU := Lib.hid hu
      have zX := bs_size xs[k]
      have cC := fun wx => l9Find_n xs[k] 58 58 rfl wx (by omega)
      clear hu hxp
      cases hcut : cutL 58 xs[k] with
      | none =>
        have e : Hid (prsIx t = none) := by
          unfold Hid
          rw [prsIx_len]
          have : lenIx t = none := by
            unfold lenIx
            rw [if_neg HT.out]
            exact HXE.out (by unfold plcR pairR; rw [hcut]; rfl)
          rw [this]
        rw [findL_cut_none hcut] at cC
        clear hcut
        have HXK : Hid True := trivial
        go_wp2_with (go_at_call 107; (with_reducible refine (cC _).mono ?_); rintro e w3 ⟨rfl, rfl⟩)
        ((try simp only [Exit.inBlock, Exit.then]); refine bodyPost_ret (v := _) (by simp [results, Tryz.results39, go_sem]; rfl) rfl ?_)
        exact ⟨_, by rw [e.out]; rfl, by rw [e.out]; exact World.ownsRow_made wr #[] 0 hsz (by unfold maxLen; omega) rfl, hup.alloc _⟩
      | some p =>
        obtain ⟨x, y⟩ := p
        obtain ⟨hxy, -⟩ := cutL_some hcut
        rw [findL_cut hcut] at cC
        have hlen : (xs[k]).length = x.length + (y.length + 1) := by have := congrArg List.length hxy; simpa using this
        have cA := fun wx => l9Num_any x wx (by omega)
        have cB := fun wx => l9Num_any y wx (by omega)
        have hE1 : (bs xs[k]).extract 0 x.length = bs x := by rw [bs_ext, hxy]; simp
        have hE2 : (bs xs[k]).extract (x.length + 1) (x.length + (y.length + 1)) = bs y := by rw [bs_ext, hxy, show x.length + (y.length + 1) - (x.length + 1) = y.length by omega]; simp
        have HV : Hid (plcR xs[k] = some ⟨(numR x).getD 0, (numR y).getD 0⟩) := by unfold Hid plcR pairR; rw [hcut]; rfl
        clear hcut hxy
        have HN : Hid (allP plcR (xs.take (k + 1)) = some (ps ++ [⟨(numR x).getD 0, (numR y).getD 0⟩])) := allP_take_succ hlt HALL.out HV.out
        clear HV
        generalize (numR x).getD 0 = n1 at *
        generalize (numR y).getD 0 = n2 at *
        generalize (numR x).isSome = b1 at *
        generalize (numR y).isSome = b2 at *
        go_wp2_with (first | (go_at_call 107; (with_reducible refine (cC _).mono ?_); rintro e w3 ⟨rfl, rfl⟩) | (go_at_call 108; first | ((with_reducible refine (cA _).mono ?_); rintro e w4 ⟨rfl, rfl⟩) | ((with_reducible refine (cB _).mono ?_); rintro e w5 ⟨rfl, rfl⟩)) | (at_builtin; refine wpList_append_own _ rfl _ _ 62 rfl w.heap.size 129 i0 (.agg #[.int .i64 0, .int .i64 0]) 2 16 Tryz.underlying62 hi hz0 hz1 hz2 rfl (by decide) _ _ _ rfl (HOW.out.alloc _) ⟨wr.heap.size, 0, none⟩ 1 1 (plcC ⟨n1, n2⟩) rfl rfl (new_cells (plcC ⟨n1, n2⟩) _ rfl) (plcC_one _) (by unfold maxLen; omega) (by omega) (by simp; omega) ?_; rintro v2 w2 hown2 hgr2 -))
        go_roundw
        case rel => exact ⟨k + 1, ps ++ [⟨n1, n2⟩], by omega, by omega, fun h => absurd h HT.out, by go_num, HN.out, by rw [cellsP_snoc, List.length_append]; exact hown2, World.ownsRow.kept (ownsRow_up HO2.out ((Up.refl _).alloc _)) hgr2 HPC.out, by rw [List.length_append, HPL.out]; rfl, (hup.alloc _).grown hgr2 (fun x hx => (HOW.out.lt x hx).1)⟩
        case measure => simp [intOf]; omega
    · have HL : Hid (lenIx t = some ps) := by
        unfold Hid lenIx
        by_cases ht : t = [45]
        · rw [if_pos ht]
          have hk := HK0.out ht
          have h1 := HALL.out
          subst hk
          simp only [List.take_zero, allP] at h1
          exact h1
        · rw [if_neg ht, ← HALL.out, HXS.out, HNO.out ht]
          have hxe : xs = splL 32 t := by rw [HXS.out, HNO.out ht]
          by_cases h41 : k = 41
          · rw [h41]
          · have hkl : k = (splL 32 t).length := by rw [← hxe]; have : ¬ k < xs.length := fun h => hgo ⟨h, ht, by omega⟩; omega
            rw [List.take_of_length_le (by omega), List.take_of_length_le (by omega)]
      have hcs : (¬ k < xs.length) ∨ (k < xs.length ∧ t = [45]) ∨ (k < xs.length ∧ t ≠ [45] ∧ ¬ k ≤ 40) := by
        by_cases h1 : k < xs.length
        · by_cases h2 : t = [45]
          · exact .inr (.inl ⟨h1, h2⟩)
          · exact .inr (.inr ⟨h1, h2, fun h3 => hgo ⟨h1, h2, h3⟩⟩)
        · exact .inl h1
      clear hgo
      have cF := fun wx (hx : Up wr wx) => fixS_any ps _ _ wx (ownsRow_up HOW.out hx) (by omega)
      have zF := bs_size (fmtIx ps)
      by_cases hq : fmtIx ps = t
      · have e : Hid (prsIx t = some ps) := by unfold Hid; rw [prsIx_len, HL.out]; simp [hq]
        have hE : ((bs (fmtIx ps)).toList == (bs t).toList) = true := by rw [hq]; simp
        have HQ := Lib.hid hq
        generalize hF : fmtIx ps = F at *
        clear hq hF
        rcases hcs with hx | ⟨hx, ht⟩ | ⟨hx, ht, hk4⟩
        · go_wp2_with (go_at_call 35; (with_reducible refine (cF _ (by (repeat (first | with_reducible exact Up.refl _ | with_reducible assumption | with_reducible refine Up.set ?_ (by first | exact Nat.le_refl _ | (simp only []; omega) | (simp; omega)) _ | with_reducible refine Up.alloc ?_ _ | with_reducible refine Up.drew ?_ | refine Up.trans ?_ (by with_reducible assumption))))).mono ?_); rintro e w3 ⟨rfl, U3⟩)
          ((try simp only [Exit.inBlock, Exit.then]); refine bodyPost_ret (v := _) (by simp [results, Tryz.results39, go_sem]; rfl) rfl ?_)
          exact ⟨_, by rw [e.out]; rfl, by rw [e.out]; exact ownsRow_up HOW.out U3, hup.trans U3⟩
        · have hb : ((bs t).toList == (⟨#[45]⟩ : ByteArray).toList) = true := by rw [Lib.toList_data, Lib.toList_data, bs_data]; simpa using ht
          have hb2 : ((bs t).toList == [45]) = true := by rw [Lib.toList_data, bs_data]; simpa using ht
          clear ht
          go_wp2_with (go_at_call 35; (with_reducible refine (cF _ (by (repeat (first | with_reducible exact Up.refl _ | with_reducible assumption | with_reducible refine Up.set ?_ (by first | exact Nat.le_refl _ | (simp only []; omega) | (simp; omega)) _ | with_reducible refine Up.alloc ?_ _ | with_reducible refine Up.drew ?_ | refine Up.trans ?_ (by with_reducible assumption))))).mono ?_); rintro e w3 ⟨rfl, U3⟩)
          ((try simp only [Exit.inBlock, Exit.then]); refine bodyPost_ret (v := _) (by simp [results, Tryz.results39, go_sem]; rfl) rfl ?_)
          exact ⟨_, by rw [e.out]; rfl, by rw [e.out]; exact ownsRow_up HOW.out U3, hup.trans U3⟩
        · have hb : ((bs t).toList == (⟨#[45]⟩ : ByteArray).toList) = false := by rw [Lib.toList_data, Lib.toList_data, bs_data]; simpa using ht
          have hb2 : ((bs t).toList == [45]) = false := by rw [Lib.toList_data, bs_data]; simpa using ht
          clear ht
          go_wp2_with (go_at_call 35; (with_reducible refine (cF _ (by (repeat (first | with_reducible exact Up.refl _ | with_reducible assumption | with_reducible refine Up.set ?_ (by first | exact Nat.le_refl _ | (simp only []; omega) | (simp; omega)) _ | with_reducible refine Up.alloc ?_ _ | with_reducible refine Up.drew ?_ | refine Up.trans ?_ (by with_reducible assumption))))).mono ?_); rintro e w3 ⟨rfl, U3⟩)
          ((try simp only [Exit.inBlock, Exit.then]); refine bodyPost_ret (v := _) (by simp [results, Tryz.results39, go_sem]; rfl) rfl ?_)
          exact ⟨_, by rw [e.out]; rfl, by rw [e.out]; exact ownsRow_up HOW.out U3, hup.trans U3⟩
      · have e : Hid (prsIx t = none) := by unfold Hid; rw [prsIx_len, HL.out]; simp [hq]
        have hE : ((bs (fmtIx ps)).toList == (bs t).toList) = false := by rw [Lib.toList_data, Lib.toList_data, bs_data, bs_data]; simpa using hq
        generalize hF : fmtIx ps = F at *
        clear hq hF
        rcases hcs with hx | ⟨hx, ht⟩ | ⟨hx, ht, hk4⟩
        · go_wp2_with (go_at_call 35; (with_reducible refine (cF _ (by (repeat (first | with_reducible exact Up.refl _ | with_reducible assumption | with_reducible refine Up.set ?_ (by first | exact Nat.le_refl _ | (simp only []; omega) | (simp; omega)) _ | with_reducible refine Up.alloc ?_ _ | with_reducible refine Up.drew ?_ | refine Up.trans ?_ (by with_reducible assumption))))).mono ?_); rintro e w3 ⟨rfl, U3⟩)
          ((try simp only [Exit.inBlock, Exit.then]); refine bodyPost_ret (v := _) (by simp [results, Tryz.results39, go_sem]; rfl) rfl ?_)
          exact ⟨_, by rw [e.out]; rfl, by rw [e.out]; exact World.ownsRow_made w3 #[] 0 (hup.trans U3).size (by unfold maxLen; omega) rfl, (hup.trans U3).alloc _⟩
        · have hb : ((bs t).toList == (⟨#[45]⟩ : ByteArray).toList) = true := by rw [Lib.toList_data, Lib.toList_data, bs_data]; simpa using ht
          have hb2 : ((bs t).toList == [45]) = true := by rw [Lib.toList_data, bs_data]; simpa using ht
          clear ht
          go_wp2_with (go_at_call 35; (with_reducible refine (cF _ (by (repeat (first | with_reducible exact Up.refl _ | with_reducible assumption | with_reducible refine Up.set ?_ (by first | exact Nat.le_refl _ | (simp only []; omega) | (simp; omega)) _ | with_reducible refine Up.alloc ?_ _ | with_reducible refine Up.drew ?_ | refine Up.trans ?_ (by with_reducible assumption))))).mono ?_); rintro e w3 ⟨rfl, U3⟩)
          ((try simp only [Exit.inBlock, Exit.then]); refine bodyPost_ret (v := _) (by simp [results, Tryz.results39, go_sem]; rfl) rfl ?_)
          exact ⟨_, by rw [e.out]; rfl, by rw [e.out]; exact World.ownsRow_made w3 #[] 0 (hup.trans U3).size (by unfold maxLen; omega) rfl, (hup.trans U3).alloc _⟩
        · have hb : ((bs t).toList == (⟨#[45]⟩ : ByteArray).toList) = false := by rw [Lib.toList_data, Lib.toList_data, bs_data]; simpa using ht
          have hb2 : ((bs t).toList == [45]) = false := by rw [Lib.toList_data, bs_data]; simpa using ht
          clear ht
          go_wp2_with (go_at_call 35; (with_reducible refine (cF _ (by (repeat (first | with_reducible exact Up.refl _ | with_reducible assumption | with_reducible refine Up.set ?_ (by first | exact Nat.le_refl _ | (simp only []; omega) | (simp; omega)) _ | with_reducible refine Up.alloc ?_ _ | with_reducible refine Up.drew ?_ | refine Up.trans ?_ (by with_reducible assumption))))).mono ?_); rintro e w3 ⟨rfl, U3⟩)
          ((try simp only [Exit.inBlock, Exit.then]); refine bodyPost_ret (v := _) (by simp [results, Tryz.results39, go_sem]; rfl) rfl ?_)
          exact ⟨_, by rw [e.out]; rfl, by rw [e.out]; exact World.ownsRow_made w3 #[] 0 (hup.trans U3).size (by unfold maxLen; omega) rfl, (hup.trans U3).alloc _⟩

end Go.Proofs.YtiiahjnfbhcgmaaGreatDoor

/- The program's ParseIndex. Conditions: fewer than 2^20 bytes; the listed variables lie as they were laid. -/
namespace Go.Proofs.YtiiahjnfbhcgmaaGreatDoor
set_option linter.unusedVariables false
set_option linter.unusedSimpArgs false
open Go Go.RowKit

theorem lens_ge : ∀ xs : List (List UInt8), (∀ x ∈ xs, 1 ≤ x.length) → xs.length ≤ Lib.lens xs
  | [], _ => by simp [Lib.lens]
  | x :: r, h => by
    have h1 := lens_ge r (fun y hy => h y (List.mem_cons_of_mem _ hy))
    have h2 := h x (List.mem_cons_self ..)
    simp only [Lib.lens, List.map_cons, List.sum_cons, List.length_cons] at *
    omega
theorem plcs_len {t : List UInt8} {ps : List PlaceD} (h : allP plcP (splL 32 t) = some ps) : 2 * ps.length ≤ t.length + 1 := by
  have hx := allP_text h (fun x y => plcP_text)
  have hl := allP_len h
  have hj := join_splL 32 t
  cases hs : splL 32 t with
  | nil => exact absurd hs (splL_ne _ _)
  | cons x r =>
    rw [hs] at hj hx hl
    have h1 := Lib.join_length x r [32]
    rw [hj] at h1
    have h2 := lens_ge (x :: r) (fun y hy => by
      rw [hx] at hy
      obtain ⟨p, -, rfl⟩ := List.mem_map.1 hy
      simp [plcT]; omega)
    simp only [List.length_cons, List.length_nil, Nat.zero_add, Nat.one_mul] at *
    omega
theorem prsIx_no {t : List UInt8} {xs : List (List UInt8)} {k : Nat} (hxs : xs = splL 32 t) (ht : t ≠ [45]) (hk : k < xs.length) (h : plcP xs[k] = none) : prsIx t = none := by
  subst hxs
  unfold prsIx
  rw [if_neg ht, allP_none hk h]
theorem prsIx_end {t : List UInt8} {ps : List PlaceD} (ht : t ≠ [45]) (h : allP plcP (splL 32 t) = some ps) : prsIx t = if validP ps then some ps else none := by
  unfold prsIx
  rw [if_neg ht, h]
def RelPy (xs : List (List UInt8)) (vp : Value) (w : World) (out i : Value) (wr : World) : Prop := ∃ (k : Nat) (ps : List PlaceD), k ≤ xs.length ∧ i = .int .i64 k ∧ allP plcP (xs.take k) = some ps ∧ wr.ownsRow w.heap.size 129 2 out ps.length (cellsP ps) ∧ ownS wr w.heap.size vp (xs.map bs) ∧ ps.length = k ∧ Up w wr

set_option maxRecDepth 100000 in
set_option maxHeartbeats 1000000 in
theorem pixI_any (t : List UInt8) (w : World) (hL : Lay w) (hs : t.length ≤ 1048576) :
    Calls Tryz.prog 36  #[.string (bs t)] w (PixPost t w) := by
  obtain ⟨i0, hi, hz0, hz1, hz2⟩ := info_parts infoPlace
  unfold PixPost
  by_cases ht : t = [45]
  · subst ht
    have hb : ((bs [45]).toList == (⟨#[45]⟩ : ByteArray).toList) = true := by rw [Lib.toList_data, Lib.toList_data]; rfl
    have hb2 : (bs [45]).toList = [45] := by rw [Lib.toList_data]; rfl
    rw [show prsIx [45] = some [] from rfl]
    go_enter Tryz.func36, Tryz.ntmps36
    go_wp2
    ((try simp only [Exit.inBlock, Exit.then]); refine bodyPost_ret (v := _) (by simp [results, Tryz.results36, go_sem]; rfl) rfl ?_)
    exact ⟨_, rfl, World.ownsRow_nil _ _ _ _, by (repeat (first | with_reducible exact Up.refl _ | with_reducible assumption | with_reducible refine Up.set ?_ (by first | exact Nat.le_refl _ | (simp only []; omega) | (simp; omega)) _ | with_reducible refine Up.alloc ?_ _ | with_reducible refine Up.drew ?_ | refine Up.trans ?_ (by with_reducible assumption)))⟩
  · have zT := bs_size t
    have hb : ((bs t).toList == (⟨#[45]⟩ : ByteArray).toList) = false := by rw [Lib.toList_data, Lib.toList_data, bs_data]; simpa using ht
    have hb2 : ((bs t).toList == [45]) = false := by rw [Lib.toList_data, bs_data]; simpa using ht
    have hb3 : ¬ (bs t).toList = [45] := by rw [Lib.toList_data, bs_data]; exact ht
    have cS := fun wx (hx : Up w wx) => split_any (bs t) 32 wx (hL.up hx).max (by omega)
    rw [bs_data] at cS
    have hxl := splL_length_le 32 t
    have hxp := splL_piece_le 32 t
    obtain ⟨xs, hxs⟩ : ∃ xs, xs = splL 32 t := ⟨_, rfl⟩
    rw [← hxs] at cS hxl hxp
    have HL := Lib.hid hL
    have HXS := Lib.hid hxs
    have HT := Lib.hid ht
    clear hL hxs ht
    go_enter Tryz.func36, Tryz.ntmps36
    go_wp2_with (go_at_call 61; (with_reducible refine (cS _ (by (repeat (first | with_reducible exact Up.refl _ | with_reducible assumption | with_reducible refine Up.set ?_ (by first | exact Nat.le_refl _ | (simp only []; omega) | (simp; omega)) _ | with_reducible refine Up.alloc ?_ _ | with_reducible refine Up.drew ?_ | refine Up.trans ?_ (by with_reducible assumption))))).mono ?_); rintro e w1 ⟨vp, rfl, ho, U1⟩; obtain ⟨av, cv, rfl⟩ := ownsRow_shape ho)
    simp only [List.length_map] at ho ⊢
    clear hb hb2 hb3 cS
    go_loopw [4, 19] (fun out i wr => RelPy xs (.slice av xs.length cv) w out i wr) (fun _ i _ => xs.length - (intOf i).toNat)
    case atStart => exact ⟨0, [], Nat.zero_le _, rfl, rfl, World.ownsRow_nil _ _ _ _, ho, rfl, U1⟩
    case round =>
      clear ho U1
      obtain ⟨k, ps, hk, rfl, hall, hown, ho2, hpl, hup⟩ := hrel
      have hpc := rowsX_ne ho2 hown (by decide)
      have HALL := Lib.hid hall
      have HPL := Lib.hid hpl
      have hpl2 : ps.length ≤ 1048577 := by omega
      have HO2 := Lib.hid ho2
      have HOW := Lib.hid hown
      have HPC := Lib.hid hpc
      clear hall hpl hpc
      have hsz := hup.size
      obtain ⟨ao, co, rfl⟩ := ownsRow_shape hown
      by_cases hlt : k < xs.length
      · obtain ⟨g, rfl, hg, -, hc1, hc2, c0⟩ := own_strs HO2.out hlt
        have hxk : (xs[k]).length ≤ t.length := hxp _ (List.getElem_mem _)
        have cC := fun wx (hx : Up w wx) => cut_any xs[k] 58 wx (HL.out.up hx).max (by omega)
        have HNO : Hid (plcP xs[k] = none → prsIx t = none) := fun h => prsIx_no HXS.out HT.out hlt h
        have HXK : Hid (xs[k] = xs[k]) := rfl
        clear hown ho2
        cases hcut : cutL 58 xs[k] with
        | none =>
          have e : Hid (prsIx t = none) := HNO.out (by unfold plcP pairP; rw [hcut]; rfl)
          rw [hcut] at cC
          simp only [Option.isSome_none] at cC
          have cP := fun wx (hx : Up w wx) => pnum_any xs[k] wx (HL.out.up hx) (by omega)
          have cQ := fun wx (hx : Up w wx) => pnum_any [] wx (HL.out.up hx) (by simp)
          clear hcut HXK HNO
          generalize xs[k] = x at *
          generalize (numP x).getD 0 = n1 at *
          generalize (numP x).isSome = b1 at *
          generalize (numP []).getD 0 = n2 at *
          generalize (numP []).isSome = b2 at *
          go_wp2_with (first | (go_at_call 106; (with_reducible refine (cC _ (by (repeat (first | with_reducible exact Up.refl _ | with_reducible assumption | with_reducible refine Up.set ?_ (by first | exact Nat.le_refl _ | (simp only []; omega) | (simp; omega)) _ | with_reducible refine Up.alloc ?_ _ | with_reducible refine Up.drew ?_ | refine Up.trans ?_ (by with_reducible assumption))))).mono ?_); rintro e w3 ⟨rfl, U3⟩) | (go_at_call 93; first | ((with_reducible refine (cP _ (by (repeat (first | with_reducible exact Up.refl _ | with_reducible assumption | with_reducible refine Up.set ?_ (by first | exact Nat.le_refl _ | (simp only []; omega) | (simp; omega)) _ | with_reducible refine Up.alloc ?_ _ | with_reducible refine Up.drew ?_ | refine Up.trans ?_ (by with_reducible assumption))))).mono ?_); rintro e w4 ⟨rfl, U4⟩) | ((with_reducible refine (cQ _ (by (repeat (first | with_reducible exact Up.refl _ | with_reducible assumption | with_reducible refine Up.set ?_ (by first | exact Nat.le_refl _ | (simp only []; omega) | (simp; omega)) _ | with_reducible refine Up.alloc ?_ _ | with_reducible refine Up.drew ?_ | refine Up.trans ?_ (by with_reducible assumption))))).mono ?_); rintro e w5 ⟨rfl, U5⟩)))
          ((try simp only [Exit.inBlock, Exit.then]); refine bodyPost_ret (v := _) (by simp [results, Tryz.results36, go_sem]; rfl) rfl ?_)
          exact ⟨_, by rw [e.out]; rfl, by rw [e.out]; exact World.ownsRow_nil _ _ _ _, by (repeat (first | with_reducible exact Up.refl _ | with_reducible assumption | with_reducible refine Up.set ?_ (by first | exact Nat.le_refl _ | (simp only []; omega) | (simp; omega)) _ | with_reducible refine Up.alloc ?_ _ | with_reducible refine Up.drew ?_ | refine Up.trans ?_ (by with_reducible assumption)))⟩
        | some p =>
          obtain ⟨x, y⟩ := p
          obtain ⟨hxy, -⟩ := cutL_some hcut
          have hxl1 : x.length ≤ t.length := by have := congrArg List.length hxy; simp at this; omega
          have hyl1 : y.length ≤ t.length := by have := congrArg List.length hxy; simp at this; omega
          have HV : Hid (plcP xs[k] = match numP x, numP y with | some a, some b => some ⟨a, b⟩ | _, _ => none) := by unfold Hid plcP pairP; rw [hcut]; simp only []; cases numP x <;> cases numP y <;> rfl
          rw [hcut] at cC
          simp only [Option.isSome_some] at cC
          have cP := fun wx (hx : Up w wx) => pnum_any x wx (HL.out.up hx) (by omega)
          have cQ := fun wx (hx : Up w wx) => pnum_any y wx (HL.out.up hx) (by omega)
          clear hcut HXK hxy
          cases hx : numP x with
          | none =>
            have e : Hid (prsIx t = none) := HNO.out (by rw [HV.out, hx])
            rw [hx] at cP
            simp only [Option.getD_none, Option.isSome_none] at cP
            clear hx HV HNO
            generalize (numP y).getD 0 = n2 at *
            generalize (numP y).isSome = b2 at *
            go_wp2_with (first | (go_at_call 106; (with_reducible refine (cC _ (by (repeat (first | with_reducible exact Up.refl _ | with_reducible assumption | with_reducible refine Up.set ?_ (by first | exact Nat.le_refl _ | (simp only []; omega) | (simp; omega)) _ | with_reducible refine Up.alloc ?_ _ | with_reducible refine Up.drew ?_ | refine Up.trans ?_ (by with_reducible assumption))))).mono ?_); rintro e w3 ⟨rfl, U3⟩) | (go_at_call 93; first | ((with_reducible refine (cP _ (by (repeat (first | with_reducible exact Up.refl _ | with_reducible assumption | with_reducible refine Up.set ?_ (by first | exact Nat.le_refl _ | (simp only []; omega) | (simp; omega)) _ | with_reducible refine Up.alloc ?_ _ | with_reducible refine Up.drew ?_ | refine Up.trans ?_ (by with_reducible assumption))))).mono ?_); rintro e w4 ⟨rfl, U4⟩) | ((with_reducible refine (cQ _ (by (repeat (first | with_reducible exact Up.refl _ | with_reducible assumption | with_reducible refine Up.set ?_ (by first | exact Nat.le_refl _ | (simp only []; omega) | (simp; omega)) _ | with_reducible refine Up.alloc ?_ _ | with_reducible refine Up.drew ?_ | refine Up.trans ?_ (by with_reducible assumption))))).mono ?_); rintro e w5 ⟨rfl, U5⟩)))
            ((try simp only [Exit.inBlock, Exit.then]); refine bodyPost_ret (v := _) (by simp [results, Tryz.results36, go_sem]; rfl) rfl ?_)
            exact ⟨_, by rw [e.out]; rfl, by rw [e.out]; exact World.ownsRow_nil _ _ _ _, by (repeat (first | with_reducible exact Up.refl _ | with_reducible assumption | with_reducible refine Up.set ?_ (by first | exact Nat.le_refl _ | (simp only []; omega) | (simp; omega)) _ | with_reducible refine Up.alloc ?_ _ | with_reducible refine Up.drew ?_ | refine Up.trans ?_ (by with_reducible assumption)))⟩
          | some a =>
            rw [hx] at cP
            simp only [Option.getD_some, Option.isSome_some] at cP
            cases hy : numP y with
            | none =>
              have e : Hid (prsIx t = none) := HNO.out (by rw [HV.out, hx, hy])
              rw [hy] at cQ
              simp only [Option.getD_none, Option.isSome_none] at cQ
              clear hx hy HV HNO
              go_wp2_with (first | (go_at_call 106; (with_reducible refine (cC _ (by (repeat (first | with_reducible exact Up.refl _ | with_reducible assumption | with_reducible refine Up.set ?_ (by first | exact Nat.le_refl _ | (simp only []; omega) | (simp; omega)) _ | with_reducible refine Up.alloc ?_ _ | with_reducible refine Up.drew ?_ | refine Up.trans ?_ (by with_reducible assumption))))).mono ?_); rintro e w3 ⟨rfl, U3⟩) | (go_at_call 93; first | ((with_reducible refine (cP _ (by (repeat (first | with_reducible exact Up.refl _ | with_reducible assumption | with_reducible refine Up.set ?_ (by first | exact Nat.le_refl _ | (simp only []; omega) | (simp; omega)) _ | with_reducible refine Up.alloc ?_ _ | with_reducible refine Up.drew ?_ | refine Up.trans ?_ (by with_reducible assumption))))).mono ?_); rintro e w4 ⟨rfl, U4⟩) | ((with_reducible refine (cQ _ (by (repeat (first | with_reducible exact Up.refl _ | with_reducible assumption | with_reducible refine Up.set ?_ (by first | exact Nat.le_refl _ | (simp only []; omega) | (simp; omega)) _ | with_reducible refine Up.alloc ?_ _ | with_reducible refine Up.drew ?_ | refine Up.trans ?_ (by with_reducible assumption))))).mono ?_); rintro e w5 ⟨rfl, U5⟩)))
              ((try simp only [Exit.inBlock, Exit.then]); refine bodyPost_ret (v := _) (by simp [results, Tryz.results36, go_sem]; rfl) rfl ?_)
              exact ⟨_, by rw [e.out]; rfl, by rw [e.out]; exact World.ownsRow_nil _ _ _ _, by (repeat (first | with_reducible exact Up.refl _ | with_reducible assumption | with_reducible refine Up.set ?_ (by first | exact Nat.le_refl _ | (simp only []; omega) | (simp; omega)) _ | with_reducible refine Up.alloc ?_ _ | with_reducible refine Up.drew ?_ | refine Up.trans ?_ (by with_reducible assumption)))⟩
            | some b =>
              have HN : Hid (allP plcP (xs.take (k + 1)) = some (ps ++ [⟨a, b⟩])) := allP_take_succ hlt HALL.out (by rw [HV.out, hx, hy])
              rw [hy] at cQ
              simp only [Option.getD_some, Option.isSome_some] at cQ
              clear hx hy HV HNO
              go_wp2_with (first | (go_at_call 106; (with_reducible refine (cC _ (by (repeat (first | with_reducible exact Up.refl _ | with_reducible assumption | with_reducible refine Up.set ?_ (by first | exact Nat.le_refl _ | (simp only []; omega) | (simp; omega)) _ | with_reducible refine Up.alloc ?_ _ | with_reducible refine Up.drew ?_ | refine Up.trans ?_ (by with_reducible assumption))))).mono ?_); rintro e w3 ⟨rfl, U3⟩) | (go_at_call 93; first | ((with_reducible refine (cP _ (by (repeat (first | with_reducible exact Up.refl _ | with_reducible assumption | with_reducible refine Up.set ?_ (by first | exact Nat.le_refl _ | (simp only []; omega) | (simp; omega)) _ | with_reducible refine Up.alloc ?_ _ | with_reducible refine Up.drew ?_ | refine Up.trans ?_ (by with_reducible assumption))))).mono ?_); rintro e w4 ⟨rfl, U4⟩) | ((with_reducible refine (cQ _ (by (repeat (first | with_reducible exact Up.refl _ | with_reducible assumption | with_reducible refine Up.set ?_ (by first | exact Nat.le_refl _ | (simp only []; omega) | (simp; omega)) _ | with_reducible refine Up.alloc ?_ _ | with_reducible refine Up.drew ?_ | refine Up.trans ?_ (by with_reducible assumption))))).mono ?_); rintro e w5 ⟨rfl, U5⟩)) | (at_builtin; refine wpList_append_own _ rfl _ _ 62 rfl w.heap.size 129 i0 (.agg #[.int .i64 0, .int .i64 0]) 2 16 Tryz.underlying62 hi hz0 hz1 hz2 rfl (by decide) _ _ _ rfl ((ownsRow_up HOW.out (show Up wr w5 by (repeat (first | with_reducible exact Up.refl _ | with_reducible assumption | with_reducible refine Up.set ?_ (by first | exact Nat.le_refl _ | (simp only []; omega) | (simp; omega)) _ | with_reducible refine Up.alloc ?_ _ | with_reducible refine Up.drew ?_ | refine Up.trans ?_ (by with_reducible assumption))))).alloc _) ⟨w5.heap.size, 0, none⟩ 1 1 (plcC ⟨a, b⟩) rfl rfl (new_cells (plcC ⟨a, b⟩) _ rfl) (plcC_one _) (by unfold maxLen; omega) (by omega) (by have := (show Up wr w5 by (repeat (first | with_reducible exact Up.refl _ | with_reducible assumption | with_reducible refine Up.set ?_ (by first | exact Nat.le_refl _ | (simp only []; omega) | (simp; omega)) _ | with_reducible refine Up.alloc ?_ _ | with_reducible refine Up.drew ?_ | refine Up.trans ?_ (by with_reducible assumption)))).size; simp; omega) ?_; rintro v2 w2 hown2 hgr2 -))
              have U5' : Up wr w5 := by (repeat (first | with_reducible exact Up.refl _ | with_reducible assumption | with_reducible refine Up.set ?_ (by first | exact Nat.le_refl _ | (simp only []; omega) | (simp; omega)) _ | with_reducible refine Up.alloc ?_ _ | with_reducible refine Up.drew ?_ | refine Up.trans ?_ (by with_reducible assumption)))
              go_roundw
              case rel => exact ⟨k + 1, ps ++ [⟨a, b⟩], by omega, by go_num, HN.out, by rw [cellsP_snoc, List.length_append]; exact hown2, World.ownsRow.kept (ownsRow_up HO2.out (U5'.alloc _)) hgr2 HPC.out, by rw [List.length_append, HPL.out]; rfl, ((hup.trans U5').alloc _).grown hgr2 (fun x hx => (HOW.out.lt x hx).1)⟩
              case measure => simp [intOf]; omega
      · have hkx : k = xs.length := by omega
        have hall := HALL.out
        rw [List.take_of_length_le (by omega), HXS.out] at hall
        have hpb := plcs_len hall
        have cV := fun wx (hx : Up wr wx) => validI_any ps _ w.heap.size wx (ownsRow_up HOW.out hx) (by omega)
        have hE := prsIx_end HT.out hall
        cases hv : validP ps
        · have e : Hid (prsIx t = none) := by unfold Hid; rw [hE, hv]; rfl
          rw [hv] at cV
          clear hv hE hall
          go_wp2_with (go_at_call 103; (with_reducible refine (cV _ (by (repeat (first | with_reducible exact Up.refl _ | with_reducible assumption | with_reducible refine Up.set ?_ (by first | exact Nat.le_refl _ | (simp only []; omega) | (simp; omega)) _ | with_reducible refine Up.alloc ?_ _ | with_reducible refine Up.drew ?_ | refine Up.trans ?_ (by with_reducible assumption))))).mono ?_); rintro e w3 ⟨rfl, U3⟩)
          ((try simp only [Exit.inBlock, Exit.then]); refine bodyPost_ret (v := _) (by simp [results, Tryz.results36, go_sem]; rfl) rfl ?_)
          exact ⟨_, by rw [e.out]; rfl, by rw [e.out]; exact World.ownsRow_nil _ _ _ _, by (repeat (first | with_reducible exact Up.refl _ | with_reducible assumption | with_reducible refine Up.set ?_ (by first | exact Nat.le_refl _ | (simp only []; omega) | (simp; omega)) _ | with_reducible refine Up.alloc ?_ _ | with_reducible refine Up.drew ?_ | refine Up.trans ?_ (by with_reducible assumption)))⟩
        · have e : Hid (prsIx t = some ps) := by unfold Hid; rw [hE, hv]; rfl
          rw [hv] at cV
          clear hv hE hall
          go_wp2_with (go_at_call 103; (with_reducible refine (cV _ (by (repeat (first | with_reducible exact Up.refl _ | with_reducible assumption | with_reducible refine Up.set ?_ (by first | exact Nat.le_refl _ | (simp only []; omega) | (simp; omega)) _ | with_reducible refine Up.alloc ?_ _ | with_reducible refine Up.drew ?_ | refine Up.trans ?_ (by with_reducible assumption))))).mono ?_); rintro e w3 ⟨rfl, U3⟩)
          ((try simp only [Exit.inBlock, Exit.then]); refine bodyPost_ret (v := _) (by simp [results, Tryz.results36, go_sem]; rfl) rfl ?_)
          exact ⟨_, by rw [e.out]; rfl, by rw [e.out]; exact ownsRow_up HOW.out U3, hup.trans U3⟩

end Go.Proofs.YtiiahjnfbhcgmaaGreatDoor

