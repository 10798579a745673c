/- The reference's l9Num. Conditions: fewer than 2^20 bytes. -/
import Derived.Test.YtiiahjnfbhcgmaaDoorNr
import Derived.Deep.DeepCutAuto
namespace Go.Proofs.YtiiahjnfbhcgmaaDoor
set_option linter.unusedVariables false
set_option linter.unusedSimpArgs false
open Go Go.RowKit

theorem numU_nil (neg : Bool) : numU neg [] = none := by unfold numU; rw [if_pos (.inl rfl)]
theorem numU_long {neg : Bool} {r : List UInt8} (h : 17 < r.length) : numU neg r = none := by unfold numU; rw [if_pos (.inr (.inl h))]
theorem numU_zero {neg : Bool} {r : List UInt8} (h : r.head? = some 48 ∧ (1 < r.length ∨ neg = true)) : numU neg r = none := by unfold numU; rw [if_pos (.inr (.inr h))]
theorem numU_go {neg : Bool} {r : List UInt8} (h0 : r ≠ []) (h1 : ¬ 17 < r.length) (h2 : ¬ (r.head? = some 48 ∧ (1 < r.length ∨ neg = true))) : numU neg r = (Lib.decFrom 0 r).map fun m => if neg then -(m : Int) else m := by
  unfold numU
  rw [if_neg]
  rintro (h | h | h)
  · exact h0 h
  · exact h1 h
  · exact h2 h
theorem decFrom_bad : ∀ (r : List UInt8) (acc k : Nat) (hk : k < r.length), Lib.digitVal r[k] = none → Lib.decFrom acc r = none
  | [], _, k, hk, _ => absurd hk (Nat.not_lt_zero _)
  | b :: r, acc, 0, _, h => by unfold Lib.decFrom; rw [show Lib.digitVal b = none from h]
  | b :: r, acc, k + 1, hk, h => by
    unfold Lib.decFrom
    cases hb : Lib.digitVal b with
    | none => rfl
    | some d => exact decFrom_bad r _ k (by simpa using hk) h
theorem decFrom_take {r : List UInt8} {k m d : Nat} (hk : k < r.length) (h : Lib.decFrom 0 (r.take k) = some m) (hd : Lib.digitVal r[k] = some d) : Lib.decFrom 0 (r.take (k + 1)) = some (m * 10 + d) := by
  rw [List.take_succ_eq_append_getElem hk]
  exact decFrom_snoc _ _ _ _ _ h hd
theorem digitVal_yes {b : UInt8} (h : 48 ≤ b.toNat ∧ b.toNat ≤ 57) : Lib.digitVal b = some (b.toNat - 48) := by unfold Lib.digitVal; rw [if_pos h]
theorem digitVal_no {b : UInt8} (h : b.toNat < 48 ∨ 57 < b.toNat) : Lib.digitVal b = none := by unfold Lib.digitVal; rw [if_neg (by omega)]
theorem bs_at {l : List UInt8} {k : Nat} (h : k < l.length) (h' : k < (bs l).size) : (bs l)[k] = l[k] := rfl
/-- How a text begins, for l9Num. -/
theorem num_form (l : List UInt8) : ∃ (neg : Bool) (r : List UInt8), numR l = numU neg r ∧ r.length ≤ l.length ∧ (neg = true ∧ l = 45 :: r ∨ neg = false ∧ l = r ∧ r.head? ≠ some 45) := by
  by_cases h : l.head? = some 45
  · cases l with
    | nil => cases h
    | cons b r =>
      simp only [List.head?_cons, Option.some.injEq] at h
      subst h
      exact ⟨true, r, by unfold numR; rfl, by simp, .inl ⟨rfl, rfl⟩⟩
  · exact ⟨false, l, by unfold numR; rw [if_neg h], Nat.le_refl _, .inr ⟨rfl, rfl, h⟩⟩
def RelNm (r : List UInt8) (w : World) (n i : Value) (wr : World) : Prop := ∃ k m : Nat, k ≤ r.length ∧ i = .int .i64 k ∧ n = .int .i64 m ∧ Lib.decFrom 0 (r.take k) = some m ∧ m < 10 ^ k ∧ w = wr
theorem pow17 {k : Nat} (h : k ≤ 17) : 10 ^ k ≤ 100000000000000000 := Nat.pow_le_pow_right (n := 10) (by decide) h

theorem num_cases (neg : Bool) (r : List UInt8) : r = [] ∨ 17 < r.length ∨ (∃ h : 1 < r.length, r.length ≤ 17 ∧ r[0] = 48) ∨ (r = [48] ∧ neg = true) ∨ (r = [48] ∧ neg = false) ∨ ∃ h : 0 < r.length, r.length ≤ 17 ∧ r[0] ≠ 48 := by
  cases r with
  | nil => exact .inl rfl
  | cons b t =>
    by_cases h1 : 17 < (b :: t).length
    · exact .inr (.inl h1)
    · by_cases h2 : b = 48
      · subst h2
        cases t with
        | nil => cases neg <;> simp
        | cons c t => exact .inr (.inr (.inl ⟨by simp, by omega, rfl⟩))
      · exact .inr (.inr (.inr (.inr (.inr ⟨by simp, by omega, h2⟩))))
theorem numU_go' {neg : Bool} {r : List UInt8} (h : 0 < r.length) (h1 : r.length ≤ 17) (h2 : r[0] ≠ 48) : numU neg r = (Lib.decFrom 0 r).map fun m => if neg then -(m : Int) else m := by
  refine numU_go (by intro e; subst e; simp at h) (by omega) (fun h3 => h2 ?_)
  have := h3.1
  rw [List.head?_eq_getElem?, List.getElem?_eq_getElem h] at this
  exact Option.some.inj this

set_option maxRecDepth 100000 in
set_option maxHeartbeats 1000000 in
theorem l9Num_any (l : List UInt8) (w : World) (hl : l.length ≤ 1048576) :
    Calls Tryd.prog 51  #[.string (bs l)] w (fun e w' => e = .returned (.tuple #[.int .i64 ((numR l).getD 0), .bool (numR l).isSome]) ∧ w = w') := by
  obtain ⟨neg, r, hnr, hrl, hf⟩ := num_form l
  rw [hnr]
  have hz := bs_size l
  have hzr := bs_size r
  clear hnr
  rcases hf with ⟨rfl, hlr⟩ | ⟨rfl, hlr, hh⟩
  · have hlr := hlr.symm
    subst hlr
    have h1 : 0 < (bs (45 :: r)).size := by rw [hz]; simp
    have h2 : ((bs (45 :: r))[0].toNat : Int) = 45 := rfl
    have h3 : (bs (45 :: r)).extract 1 (r.length + 1) = bs r := by rw [bs_ext]; simp
    have h4 : (bs (45 :: r)).size = r.length + 1 := by rw [hz]; simp
    obtain ⟨neg, hneg⟩ : ∃ neg, Hid (true = neg) := ⟨true, rfl⟩
    rw [show numU true r = numU neg r from by rw [hneg.out]]
    clear hz
    rcases num_cases neg r with hc | hc | ⟨hc, hc1, hc2⟩ | ⟨hc, hc1⟩ | ⟨hc, hc1⟩ | ⟨hc, hc1, hc2⟩
    · have e : Hid (numU neg r = none) := by rw [hc]; exact numU_nil _
      have hz0 : (bs r).size = 0 := by rw [hzr, hc]; rfl
      have hz1 : r.length = 0 := by rw [hc]; rfl
      have HC := Lib.hid hc
      have hB0 : ((r.length : Int) == 0) = true := by rw [beq_iff_eq]; omega
      clear hc
      go_enter Tryd.func51, Tryd.ntmps51
      go_wp2
      ((try simp only [Exit.inBlock, Exit.then]); refine bodyPost_ret (v := _) (by simp [results, Tryd.results51, go_sem]; rfl) rfl ?_)
      exact ⟨by rw [e.out]; rfl, rfl⟩
    · have e : Hid (numU neg r = none) := numU_long hc
      have hB0 : ((r.length : Int) == 0) = false := by rw [beq_eq_false_iff_ne]; omega
      have hB17 : decide (17 < (r.length : Int)) = true := decide_eq_true (by omega)
      have hs0 : 0 < (bs r).size := by omega
      go_enter Tryd.func51, Tryd.ntmps51
      go_wp2
      ((try simp only [Exit.inBlock, Exit.then]); refine bodyPost_ret (v := _) (by simp [results, Tryd.results51, go_sem]; rfl) rfl ?_)
      exact ⟨by rw [e.out]; rfl, rfl⟩
    · have e : Hid (numU neg r = none) := numU_zero ⟨by rw [List.head?_eq_getElem?, List.getElem?_eq_getElem (by omega), hc2], .inl hc⟩
      have hs0 : 0 < (bs r).size := by omega
      have hb : (((bs r)[0]'hs0).toNat : Int) = 48 := by show ((r[0]'(by omega)).toNat : Int) = 48; rw [hc2]; rfl
      have hB48 : ((((bs r)[0]'hs0).toNat : Int) == 48) = true := by rw [beq_iff_eq]; exact hb
      have hB0 : ((r.length : Int) == 0) = false := by rw [beq_eq_false_iff_ne]; omega
      have hB17 : decide (17 < (r.length : Int)) = false := decide_eq_false (by omega)
      have hB1 : decide (1 < (r.length : Int)) = true := decide_eq_true (by omega)
      clear hc2
      go_enter Tryd.func51, Tryd.ntmps51
      go_wp2
      ((try simp only [Exit.inBlock, Exit.then]); refine bodyPost_ret (v := _) (by simp [results, Tryd.results51, go_sem]; rfl) rfl ?_)
      exact ⟨by rw [e.out]; rfl, rfl⟩
    · have e : Hid (numU neg r = none) := numU_zero ⟨by rw [hc]; rfl, .inr hc1⟩
      have hz0 : (bs r).size = 1 := by rw [hzr, hc]; rfl
      have hs0 : 0 < (bs r).size := by omega
      have hb : (((bs r)[0]'hs0).toNat : Int) = 48 := by subst hc; rfl
      have hz1 : r.length = 1 := by rw [hc]; rfl
      have h5 : (bs (45 :: r)).extract 1 2 = bs r := by rw [← h3, hz1]
      have hB48 : ((((bs r)[0]'hs0).toNat : Int) == 48) = true := by rw [beq_iff_eq]; exact hb
      have hB0 : ((r.length : Int) == 0) = false := by rw [beq_eq_false_iff_ne]; omega
      have hB17 : decide (17 < (r.length : Int)) = false := decide_eq_false (by omega)
      have hB1 : decide (1 < (r.length : Int)) = false := decide_eq_false (by omega)
      clear hc hc1
      go_enter Tryd.func51, Tryd.ntmps51
      go_wp2
      ((try simp only [Exit.inBlock, Exit.then]); refine bodyPost_ret (v := _) (by simp [results, Tryd.results51, go_sem]; rfl) rfl ?_)
      exact ⟨by rw [e.out]; rfl, rfl⟩
    · have hn2 := hneg.out; rw [hc1] at hn2; cases hn2
    · have hgo := numU_go' (neg := neg) hc hc1 hc2
      have hs0 : 0 < (bs r).size := by omega
      have hb : (((bs r)[0]'hs0).toNat : Int) ≠ 48 := fun e => hc2 (UInt8.toNat_inj.1 (by have e2 : ((r[0]'(by omega)).toNat : Int) = 48 := e; show (r[0]'(by omega)).toNat = 48; omega))
      have hB48 : ((((bs r)[0]'hs0).toNat : Int) == 48) = false := by rw [beq_eq_false_iff_ne]; exact hb
      have hB0 : ((r.length : Int) == 0) = false := by rw [beq_eq_false_iff_ne]; omega
      have hB17 : decide (17 < (r.length : Int)) = false := decide_eq_false (by omega)
      clear hc2
      have HG := Lib.hid hgo
      clear hgo
      go_enter Tryd.func51, Tryd.ntmps51
      go_wp2
      go_loopw [5, 6] (fun n i wr => RelNm r w n i wr) (fun _ i _ => r.length - (intOf i).toNat)
      case atStart => exact ⟨0, 0, Nat.zero_le _, rfl, rfl, rfl, by simp, rfl⟩
      case round =>
        obtain ⟨k, m, hk, rfl, rfl, hdec, hm, rfl⟩ := hrel
        have HD := Lib.hid hdec
        have hp := pow17 (k := k) (by omega)
        have hmb : m ≤ 100000000000000000 := by omega
        have HM := Lib.hid hm
        clear hdec hm hp
        by_cases hlt : k < r.length
        · have hlt2 : k < (bs r).size := by omega
          have hu := u8_bd (bs r)[k]
          have hbk : (bs r)[k] = r[k] := bs_at hlt hlt2
          have HBK := Lib.hid hbk
          clear hbk
          by_cases hd : 48 ≤ (bs r)[k].toNat ∧ (bs r)[k].toNat ≤ 57
          · obtain ⟨hd1, hd2⟩ := hd
            have HS : Hid (Lib.decFrom 0 (r.take (k + 1)) = some (m * 10 + ((bs r)[k].toNat - 48))) := decFrom_take hlt HD.out (by show Lib.digitVal ((bs r)[k]'hlt2) = _; exact digitVal_yes ⟨hd1, hd2⟩)
            go_wp2
            go_roundw
            case rel => exact ⟨k + 1, m * 10 + ((bs r)[k].toNat - 48), by omega, by go_num, by go_num, HS.out, by have := HM.out; rw [Nat.pow_succ]; omega, rfl⟩
            case measure => simp [intOf]; omega
          · have e : Hid (numU neg r = none) := by
              unfold Hid
              rw [HG.out, decFrom_bad r 0 k hlt (by show Lib.digitVal ((bs r)[k]'hlt2) = none; exact digitVal_no (by omega))]
              rfl
            by_cases hd1 : (bs r)[k].toNat < 48
            all_goals
              go_wp2
              ((try simp only [Exit.inBlock, Exit.then]); refine bodyPost_ret (v := _) (by simp [results, Tryd.results51, go_sem]; rfl) rfl ?_)
              exact ⟨by rw [e.out]; rfl, rfl⟩
        · have hkr : k = r.length := by omega
          subst hkr
          have hd := HD.out
          rw [List.take_length] at hd
          have e : Hid (numU neg r = some (if neg then -(m : Int) else m)) := by unfold Hid; rw [HG.out, hd]; rfl
          clear hd
          go_wp2
          ((try simp only [Exit.inBlock, Exit.then]); refine bodyPost_ret (v := _) (by simp [results, Tryd.results51, go_sem]; rfl) rfl ?_)
          exact ⟨by rw [e.out, ← hneg.out]; rfl, rfl⟩
  · have hlr := hlr.symm
    subst hlr
    obtain ⟨neg, hneg⟩ : ∃ neg, Hid (false = neg) := ⟨false, rfl⟩
    rw [show numU false r = numU neg r from by rw [hneg.out]]
    have hq : ∀ h : 0 < (bs r).size, (((bs r)[0]'h).toNat : Int) ≠ 45 := fun h e => hh (by
      rw [List.head?_eq_getElem?, List.getElem?_eq_getElem (by omega)]
      congr 1
      exact UInt8.toNat_inj.1 (by have e2 : ((r[0]'(by omega)).toNat : Int) = 45 := e; show (r[0]'(by omega)).toNat = 45; omega))
    clear hh hz
    rcases num_cases neg r with hc | hc | ⟨hc, hc1, hc2⟩ | ⟨hc, hc1⟩ | ⟨hc, hc1⟩ | ⟨hc, hc1, hc2⟩
    · have e : Hid (numU neg r = none) := by rw [hc]; exact numU_nil _
      have hz0 : (bs r).size = 0 := by rw [hzr, hc]; rfl
      have hz1 : r.length = 0 := by rw [hc]; rfl
      have HC := Lib.hid hc
      have hB0 : ((r.length : Int) == 0) = true := by rw [beq_iff_eq]; omega
      clear hc
      go_enter Tryd.func51, Tryd.ntmps51
      go_wp2
      ((try simp only [Exit.inBlock, Exit.then]); refine bodyPost_ret (v := _) (by simp [results, Tryd.results51, go_sem]; rfl) rfl ?_)
      exact ⟨by rw [e.out]; rfl, rfl⟩
    · have e : Hid (numU neg r = none) := numU_long hc
      have hB0 : ((r.length : Int) == 0) = false := by rw [beq_eq_false_iff_ne]; omega
      have hB17 : decide (17 < (r.length : Int)) = true := decide_eq_true (by omega)
      have hs0 : 0 < (bs r).size := by omega
      have hq1 : (((bs r)[0]'hs0).toNat : Int) ≠ 45 := hq hs0
      have hB45 : ((((bs r)[0]'hs0).toNat : Int) == 45) = false := by rw [beq_eq_false_iff_ne]; exact hq1
      go_enter Tryd.func51, Tryd.ntmps51
      go_wp2
      ((try simp only [Exit.inBlock, Exit.then]); refine bodyPost_ret (v := _) (by simp [results, Tryd.results51, go_sem]; rfl) rfl ?_)
      exact ⟨by rw [e.out]; rfl, rfl⟩
    · have e : Hid (numU neg r = none) := numU_zero ⟨by rw [List.head?_eq_getElem?, List.getElem?_eq_getElem (by omega), hc2], .inl hc⟩
      have hs0 : 0 < (bs r).size := by omega
      have hb : (((bs r)[0]'hs0).toNat : Int) = 48 := by show ((r[0]'(by omega)).toNat : Int) = 48; rw [hc2]; rfl
      have hB48 : ((((bs r)[0]'hs0).toNat : Int) == 48) = true := by rw [beq_iff_eq]; exact hb
      have hB0 : ((r.length : Int) == 0) = false := by rw [beq_eq_false_iff_ne]; omega
      have hB17 : decide (17 < (r.length : Int)) = false := decide_eq_false (by omega)
      have hB1 : decide (1 < (r.length : Int)) = true := decide_eq_true (by omega)
      clear hc2
      go_enter Tryd.func51, Tryd.ntmps51
      go_wp2
      ((try simp only [Exit.inBlock, Exit.then]); refine bodyPost_ret (v := _) (by simp [results, Tryd.results51, go_sem]; rfl) rfl ?_)
      exact ⟨by rw [e.out]; rfl, rfl⟩
    · have hn2 := hneg.out; rw [hc1] at hn2; cases hn2
    · have hgo : numU neg r = (Lib.decFrom 0 r).map fun m => if neg then -(m : Int) else m := numU_go (by rw [hc]; simp) (by rw [hc]; simp) (by rw [hc, hc1]; simp)
      have hz0 : (bs r).size = 1 := by rw [hzr, hc]; rfl
      have hs0 : 0 < (bs r).size := by omega
      have hb : (((bs r)[0]'hs0).toNat : Int) = 48 := by subst hc; rfl
      have hz1 : r.length = 1 := by rw [hc]; rfl
      have hB48 : ((((bs r)[0]'hs0).toNat : Int) == 48) = true := by rw [beq_iff_eq]; exact hb
      have hB0 : ((r.length : Int) == 0) = false := by rw [beq_eq_false_iff_ne]; omega
      have hB17 : decide (17 < (r.length : Int)) = false := decide_eq_false (by omega)
      have hB1 : decide (1 < (r.length : Int)) = false := decide_eq_false (by omega)
      clear hc hc1
      have HG := Lib.hid hgo
      clear hgo
      go_enter Tryd.func51, Tryd.ntmps51
      go_wp2
      go_loopw [5, 6] (fun n i wr => RelNm r w n i wr) (fun _ i _ => r.length - (intOf i).toNat)
      case atStart => exact ⟨0, 0, Nat.zero_le _, rfl, rfl, rfl, by simp, rfl⟩
      case round =>
        obtain ⟨k, m, hk, rfl, rfl, hdec, hm, rfl⟩ := hrel
        have HD := Lib.hid hdec
        have hp := pow17 (k := k) (by omega)
        have hmb : m ≤ 100000000000000000 := by omega
        have HM := Lib.hid hm
        clear hdec hm hp
        by_cases hlt : k < r.length
        · have hlt2 : k < (bs r).size := by omega
          have hu := u8_bd (bs r)[k]
          have hbk : (bs r)[k] = r[k] := bs_at hlt hlt2
          have HBK := Lib.hid hbk
          clear hbk
          by_cases hd : 48 ≤ (bs r)[k].toNat ∧ (bs r)[k].toNat ≤ 57
          · obtain ⟨hd1, hd2⟩ := hd
            have HS : Hid (Lib.decFrom 0 (r.take (k + 1)) = some (m * 10 + ((bs r)[k].toNat - 48))) := decFrom_take hlt HD.out (by show Lib.digitVal ((bs r)[k]'hlt2) = _; exact digitVal_yes ⟨hd1, hd2⟩)
            go_wp2
            go_roundw
            case rel => exact ⟨k + 1, m * 10 + ((bs r)[k].toNat - 48), by omega, by go_num, by go_num, HS.out, by have := HM.out; rw [Nat.pow_succ]; omega, rfl⟩
            case measure => simp [intOf]; omega
          · have e : Hid (numU neg r = none) := by
              unfold Hid
              rw [HG.out, decFrom_bad r 0 k hlt (by show Lib.digitVal ((bs r)[k]'hlt2) = none; exact digitVal_no (by omega))]
              rfl
            by_cases hd1 : (bs r)[k].toNat < 48
            all_goals
              go_wp2
              ((try simp only [Exit.inBlock, Exit.then]); refine bodyPost_ret (v := _) (by simp [results, Tryd.results51, go_sem]; rfl) rfl ?_)
              exact ⟨by rw [e.out]; rfl, rfl⟩
        · have hkr : k = r.length := by omega
          subst hkr
          have hd := HD.out
          rw [List.take_length] at hd
          have e : Hid (numU neg r = some (if neg then -(m : Int) else m)) := by unfold Hid; rw [HG.out, hd]; rfl
          clear hd
          go_wp2
          ((try simp only [Exit.inBlock, Exit.then]); refine bodyPost_ret (v := _) (by simp [results, Tryd.results51, go_sem]; rfl) rfl ?_)
          exact ⟨by rw [e.out, ← hneg.out]; rfl, rfl⟩
    · have hgo := numU_go' (neg := neg) hc hc1 hc2
      have hs0 : 0 < (bs r).size := by omega
      have hq1 : (((bs r)[0]'hs0).toNat : Int) ≠ 45 := hq hs0
      have hB45 : ((((bs r)[0]'hs0).toNat : Int) == 45) = false := by rw [beq_eq_false_iff_ne]; exact hq1
      have hb : (((bs r)[0]'hs0).toNat : Int) ≠ 48 := fun e => hc2 (UInt8.toNat_inj.1 (by have e2 : ((r[0]'(by omega)).toNat : Int) = 48 := e; show (r[0]'(by omega)).toNat = 48; omega))
      have hB48 : ((((bs r)[0]'hs0).toNat : Int) == 48) = false := by rw [beq_eq_false_iff_ne]; exact hb
      have hB0 : ((r.length : Int) == 0) = false := by rw [beq_eq_false_iff_ne]; omega
      have hB17 : decide (17 < (r.length : Int)) = false := decide_eq_false (by omega)
      clear hc2
      have HG := Lib.hid hgo
      clear hgo
      go_enter Tryd.func51, Tryd.ntmps51
      go_wp2
      go_loopw [5, 6] (fun n i wr => RelNm r w n i wr) (fun _ i _ => r.length - (intOf i).toNat)
      case atStart => exact ⟨0, 0, Nat.zero_le _, rfl, rfl, rfl, by simp, rfl⟩
      case round =>
        obtain ⟨k, m, hk, rfl, rfl, hdec, hm, rfl⟩ := hrel
        have HD := Lib.hid hdec
        have hp := pow17 (k := k) (by omega)
        have hmb : m ≤ 100000000000000000 := by omega
        have HM := Lib.hid hm
        clear hdec hm hp
        by_cases hlt : k < r.length
        · have hlt2 : k < (bs r).size := by omega
          have hu := u8_bd (bs r)[k]
          have hbk : (bs r)[k] = r[k] := bs_at hlt hlt2
          have HBK := Lib.hid hbk
          clear hbk
          by_cases hd : 48 ≤ (bs r)[k].toNat ∧ (bs r)[k].toNat ≤ 57
          · obtain ⟨hd1, hd2⟩ := hd
            have HS : Hid (Lib.decFrom 0 (r.take (k + 1)) = some (m * 10 + ((bs r)[k].toNat - 48))) := decFrom_take hlt HD.out (by show Lib.digitVal ((bs r)[k]'hlt2) = _; exact digitVal_yes ⟨hd1, hd2⟩)
            go_wp2
            go_roundw
            case rel => exact ⟨k + 1, m * 10 + ((bs r)[k].toNat - 48), by omega, by go_num, by go_num, HS.out, by have := HM.out; rw [Nat.pow_succ]; omega, rfl⟩
            case measure => simp [intOf]; omega
          · have e : Hid (numU neg r = none) := by
              unfold Hid
              rw [HG.out, decFrom_bad r 0 k hlt (by show Lib.digitVal ((bs r)[k]'hlt2) = none; exact digitVal_no (by omega))]
              rfl
            by_cases hd1 : (bs r)[k].toNat < 48
            all_goals
              go_wp2
              ((try simp only [Exit.inBlock, Exit.then]); refine bodyPost_ret (v := _) (by simp [results, Tryd.results51, go_sem]; rfl) rfl ?_)
              exact ⟨by rw [e.out]; rfl, rfl⟩
        · have hkr : k = r.length := by omega
          subst hkr
          have hd := HD.out
          rw [List.take_length] at hd
          have e : Hid (numU neg r = some (if neg then -(m : Int) else m)) := by unfold Hid; rw [HG.out, hd]; rfl
          clear hd
          go_wp2
          ((try simp only [Exit.inBlock, Exit.then]); refine bodyPost_ret (v := _) (by simp [results, Tryd.results51, go_sem]; rfl) rfl ?_)
          exact ⟨by rw [e.out, ← hneg.out]; rfl, rfl⟩

end Go.Proofs.YtiiahjnfbhcgmaaDoor
