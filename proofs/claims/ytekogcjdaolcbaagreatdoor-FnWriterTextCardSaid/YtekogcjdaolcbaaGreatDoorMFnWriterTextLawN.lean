/- Texts joined into one: the walks and laws that the last text leans on. Conditions: as each says. -/
import Derived.Test.YtekogcjdaolcbaaGreatDoorMFnWriterTextLawM
import Derived.Deep.DeepCutAuto
import Derived.Test.YtekogcjdaolcbaaGreatDoorMFnWriterTextLawJ
import Derived.Test.YtekogcjdaolcbaaGreatDoorMFnWriterTextLawK
import Derived.Test.YtekogcjdaolcbaaGreatDoorMFnWriterTextLawE
import Derived.Test.YtekogcjdaolcbaaGreatDoorMFnWriterTextLawL
import Derived.Test.YtekogcjdaolcbaaGreatDoorMFnWriterTextLawH
import Derived.Test.YtekogcjdaolcbaaGreatDoorAfter
import Derived.Test.YtekogcjdaolcbaaGreatDoorMFnWriterTextLawI
import Derived.Test.YtekogcjdaolcbaaGreatDoorMFnWriterTextLawC
import Derived.Test.YtekogcjdaolcbaaGreatDoorMFnWriterTextLawG

set_option linter.unusedVariables false
set_option linter.unusedSimpArgs false
/- The reference's l9Num. Conditions: fewer than 2^20 bytes. -/
namespace Go.Proofs.YtekogcjdaolcbaaGreatDoor
open Go Go.RowKit
theorem numU_nil (neg : Bool) : numU neg [] = none := by unfold numU; rw [if_pos (.inl rfl)]
theorem numU_long {neg : Bool} {r : List UInt8} (h : 17 < r.length) : numU neg r = none := by unfold numU; rw [if_pos (.inr (.inl h))]
theorem numU_zero {neg : Bool} {r : List UInt8} (h : r.head? = some 48 ∧ (1 < r.length ∨ neg = true)) : numU neg r = none := by unfold numU; rw [if_pos (.inr (.inr h))]
theorem numU_go {neg : Bool} {r : List UInt8} (h0 : r ≠ []) (h1 : ¬ 17 < r.length) (h2 : ¬ (r.head? = some 48 ∧ (1 < r.length ∨ neg = true))) : numU neg r = (Lib.decFrom 0 r).map fun m => if neg then -(m : Int) else m := by
  unfold numU
  rw [if_neg]
  rintro (h | h | h)
  · exact h0 h
  · exact h1 h
  · exact h2 h
theorem decFrom_bad : ∀ (r : List UInt8) (acc k : Nat) (hk : k < r.length), Lib.digitVal r[k] = none → Lib.decFrom acc r = none
  | [], _, k, hk, _ => absurd hk (Nat.not_lt_zero _)
  | b :: r, acc, 0, _, h => by unfold Lib.decFrom; rw [show Lib.digitVal b = none from h]
  | b :: r, acc, k + 1, hk, h => by
    unfold Lib.decFrom
    cases hb : Lib.digitVal b with
    | none => rfl
    | some d => exact decFrom_bad r _ k (by simpa using hk) h
theorem decFrom_take {r : List UInt8} {k m d : Nat} (hk : k < r.length) (h : Lib.decFrom 0 (r.take k) = some m) (hd : Lib.digitVal r[k] = some d) : Lib.decFrom 0 (r.take (k + 1)) = some (m * 10 + d) := by
  rw [List.take_succ_eq_append_getElem hk]
  exact decFrom_snoc _ _ _ _ _ h hd
theorem digitVal_yes {b : UInt8} (h : 48 ≤ b.toNat ∧ b.toNat ≤ 57) : Lib.digitVal b = some (b.toNat - 48) := by unfold Lib.digitVal; rw [if_pos h]
theorem digitVal_no {b : UInt8} (h : b.toNat < 48 ∨ 57 < b.toNat) : Lib.digitVal b = none := by unfold Lib.digitVal; rw [if_neg (by omega)]
theorem bs_at {l : List UInt8} {k : Nat} (h : k < l.length) (h' : k < (bs l).size) : (bs l)[k] = l[k] := rfl
theorem num_form (l : List UInt8) : ∃ (neg : Bool) (r : List UInt8), numR l = numU neg r ∧ r.length ≤ l.length ∧ (neg = true ∧ l = 45 :: r ∨ neg = false ∧ l = r ∧ r.head? ≠ some 45) := by
  by_cases h : l.head? = some 45
  · cases l with
    | nil => cases h
    | cons b r =>
      simp only [List.head?_cons, Option.some.injEq] at h
      subst h
      exact ⟨true, r, by unfold numR; rfl, by simp, .inl ⟨rfl, rfl⟩⟩
  · exact ⟨false, l, by unfold numR; rw [if_neg h], Nat.le_refl _, .inr ⟨rfl, rfl, h⟩⟩
def RelNm (r : List UInt8) (w : World) (n i : Value) (wr : World) : Prop := ∃ k m : Nat, k ≤ r.length ∧ i = .int .i64 k ∧ n = .int .i64 m ∧ Lib.decFrom 0 (r.take k) = some m ∧ m < 10 ^ k ∧ w = wr
theorem pow17 {k : Nat} (h : k ≤ 17) : 10 ^ k ≤ 100000000000000000 := Nat.pow_le_pow_right (n := 10) (by decide) h
theorem num_cases (neg : Bool) (r : List UInt8) : r = [] ∨ 17 < r.length ∨ (∃ h : 1 < r.length, r.length ≤ 17 ∧ r[0] = 48) ∨ (r = [48] ∧ neg = true) ∨ (r = [48] ∧ neg = false) ∨ ∃ h : 0 < r.length, r.length ≤ 17 ∧ r[0] ≠ 48 := by
  cases r with
  | nil => exact .inl rfl
  | cons b t =>
    by_cases h1 : 17 < (b :: t).length
    · exact .inr (.inl h1)
    · by_cases h2 : b = 48
      · subst h2
        cases t with
        | nil => cases neg <;> simp
        | cons c t => exact .inr (.inr (.inl ⟨by simp, by omega, rfl⟩))
      · exact .inr (.inr (.inr (.inr (.inr ⟨by simp, by omega, h2⟩))))
theorem numU_go' {neg : Bool} {r : List UInt8} (h : 0 < r.length) (h1 : r.length ≤ 17) (h2 : r[0] ≠ 48) : numU neg r = (Lib.decFrom 0 r).map fun m => if neg then -(m : Int) else m := by
  refine numU_go (by intro e; subst e; simp at h) (by omega) (fun h3 => h2 ?_)
  have := h3.1
  rw [List.head?_eq_getElem?, List.getElem?_eq_getElem h] at this
  exact Option.some.inj this
set_option maxRecDepth 100000 in
set_option maxHeartbeats 1000000 in
theorem l9Num_any (l : List UInt8) (w : World) (hl : l.length ≤ 1048576) :
    Calls Tryz.prog 122  #[.string (bs l)] w (fun e w' => e = .returned (.tuple #[.int .i64 ((numR l).getD 0), .bool (numR l).isSome]) ∧ w = w') := by
  obtain ⟨neg, r, hnr, hrl, hf⟩ := num_form l
  rw [hnr]
  have hz := bs_size l
  have hzr := bs_size r
  clear hnr
  rcases hf with ⟨rfl, hlr⟩ | ⟨rfl, hlr, hh⟩
  · have hlr := hlr.symm
    subst hlr
    have h1 : 0 < (bs (45 :: r)).size := by rw [hz]; simp
    have h2 : ((bs (45 :: r))[0].toNat : Int) = 45 := rfl
    have h3 : (bs (45 :: r)).extract 1 (r.length + 1) = bs r := by rw [bs_ext]; simp
    have h4 : (bs (45 :: r)).size = r.length + 1 := by rw [hz]; simp
    obtain ⟨neg, hneg⟩ : ∃ neg, Hid (true = neg) := ⟨true, rfl⟩
    rw [show numU true r = numU neg r from by rw [hneg.out]]
    clear hz
    rcases num_cases neg r with hc | hc | ⟨hc, hc1, hc2⟩ | ⟨hc, hc1⟩ | ⟨hc, hc1⟩ | ⟨hc, hc1, hc2⟩
    · have e : Hid (numU neg r = none) := by rw [hc]; exact numU_nil _
      have hz0 : (bs r).size = 0 := by rw [hzr, hc]; rfl
      have hz1 : r.length = 0 := by rw [hc]; rfl
      have HC := Lib.hid hc
      have hB0 : ((r.length : Int) == 0) = true := by rw [beq_iff_eq]; omega
      clear hc
      go_enter Tryz.func122, Tryz.ntmps122
      go_wp2
      ((try simp only [Exit.inBlock, Exit.then]); refine bodyPost_ret (v := _) (by simp [results, Tryz.results122, go_sem]; rfl) rfl ?_)
      exact ⟨by rw [e.out]; rfl, rfl⟩
    · have e : Hid (numU neg r = none) := numU_long hc
      have hB0 : ((r.length : Int) == 0) = false := by rw [beq_eq_false_iff_ne]; omega
      have hB17 : decide (17 < (r.length : Int)) = true := decide_eq_true (by omega)
      have hs0 : 0 < (bs r).size := by omega
      go_enter Tryz.func122, Tryz.ntmps122
      go_wp2
      ((try simp only [Exit.inBlock, Exit.then]); refine bodyPost_ret (v := _) (by simp [results, Tryz.results122, go_sem]; rfl) rfl ?_)
      exact ⟨by rw [e.out]; rfl, rfl⟩
    · have e : Hid (numU neg r = none) := numU_zero ⟨by rw [List.head?_eq_getElem?, List.getElem?_eq_getElem (by omega), hc2], .inl hc⟩
      have hs0 : 0 < (bs r).size := by omega
      have hb : (((bs r)[0]'hs0).toNat : Int) = 48 := by show ((r[0]'(by omega)).toNat : Int) = 48; rw [hc2]; rfl
      have hB48 : ((((bs r)[0]'hs0).toNat : Int) == 48) = true := by rw [beq_iff_eq]; exact hb
      have hB0 : ((r.length : Int) == 0) = false := by rw [beq_eq_false_iff_ne]; omega
      have hB17 : decide (17 < (r.length : Int)) = false := decide_eq_false (by omega)
      have hB1 : decide (1 < (r.length : Int)) = true := decide_eq_true (by omega)
      clear hc2
      go_enter Tryz.func122, Tryz.ntmps122
      go_wp2
      ((try simp only [Exit.inBlock, Exit.then]); refine bodyPost_ret (v := _) (by simp [results, Tryz.results122, go_sem]; rfl) rfl ?_)
      exact ⟨by rw [e.out]; rfl, rfl⟩
    · have e : Hid (numU neg r = none) := numU_zero ⟨by rw [hc]; rfl, .inr hc1⟩
      have hz0 : (bs r).size = 1 := by rw [hzr, hc]; rfl
      have hs0 : 0 < (bs r).size := by omega
      have hb : (((bs r)[0]'hs0).toNat : Int) = 48 := by subst hc; rfl
      have hz1 : r.length = 1 := by rw [hc]; rfl
      have h5 : (bs (45 :: r)).extract 1 2 = bs r := by rw [← h3, hz1]
      have hB48 : ((((bs r)[0]'hs0).toNat : Int) == 48) = true := by rw [beq_iff_eq]; exact hb
      have hB0 : ((r.length : Int) == 0) = false := by rw [beq_eq_false_iff_ne]; omega
      have hB17 : decide (17 < (r.length : Int)) = false := decide_eq_false (by omega)
      have hB1 : decide (1 < (r.length : Int)) = false := decide_eq_false (by omega)
      clear hc hc1
      go_enter Tryz.func122, Tryz.ntmps122
      go_wp2
      ((try simp only [Exit.inBlock, Exit.then]); refine bodyPost_ret (v := _) (by simp [results, Tryz.results122, go_sem]; rfl) rfl ?_)
      exact ⟨by rw [e.out]; rfl, rfl⟩
    · have hn2 := hneg.out; rw [hc1] at hn2; cases hn2
    · have hgo := numU_go' (neg := neg) hc hc1 hc2
      have hs0 : 0 < (bs r).size := by omega
      have hb : (((bs r)[0]'hs0).toNat : Int) ≠ 48 := fun e => hc2 (UInt8.toNat_inj.1 (by have e2 : ((r[0]'(by omega)).toNat : Int) = 48 := e; show (r[0]'(by omega)).toNat = 48; omega))
      have hB48 : ((((bs r)[0]'hs0).toNat : Int) == 48) = false := by rw [beq_eq_false_iff_ne]; exact hb
      have hB0 : ((r.length : Int) == 0) = false := by rw [beq_eq_false_iff_ne]; omega
      have hB17 : decide (17 < (r.length : Int)) = false := decide_eq_false (by omega)
      clear hc2
      have HG := Lib.hid hgo
      clear hgo
      go_enter Tryz.func122, Tryz.ntmps122
      go_wp2
      go_loopw [5, 6] (fun n i wr => RelNm r w n i wr) (fun _ i _ => r.length - (intOf i).toNat)
      case atStart => exact ⟨0, 0, Nat.zero_le _, rfl, rfl, rfl, by simp, rfl⟩
      case round =>
        obtain ⟨k, m, hk, rfl, rfl, hdec, hm, rfl⟩ := hrel
        have HD := Lib.hid hdec
        have hp := pow17 (k := k) (by omega)
        have hmb : m ≤ 100000000000000000 := by omega
        have HM := Lib.hid hm
        clear hdec hm hp
        by_cases hlt : k < r.length
        · have hlt2 : k < (bs r).size := by omega
          have hu := u8_bd (bs r)[k]
          have hbk : (bs r)[k] = r[k] := bs_at hlt hlt2
          have HBK := Lib.hid hbk
          clear hbk
          by_cases hd : 48 ≤ (bs r)[k].toNat ∧ (bs r)[k].toNat ≤ 57
          · obtain ⟨hd1, hd2⟩ := hd
            have HS : Hid (Lib.decFrom 0 (r.take (k + 1)) = some (m * 10 + ((bs r)[k].toNat - 48))) := decFrom_take hlt HD.out (by show Lib.digitVal ((bs r)[k]'hlt2) = _; exact digitVal_yes ⟨hd1, hd2⟩)
            go_wp2
            go_roundw
            case rel => exact ⟨k + 1, m * 10 + ((bs r)[k].toNat - 48), by omega, by go_num, by go_num, HS.out, by have := HM.out; rw [Nat.pow_succ]; omega, rfl⟩
            case measure => simp [intOf]; omega
          · have e : Hid (numU neg r = none) := by
              unfold Hid
              rw [HG.out, decFrom_bad r 0 k hlt (by show Lib.digitVal ((bs r)[k]'hlt2) = none; exact digitVal_no (by omega))]
              rfl
            by_cases hd1 : (bs r)[k].toNat < 48
            all_goals
              go_wp2
              ((try simp only [Exit.inBlock, Exit.then]); refine bodyPost_ret (v := _) (by simp [results, Tryz.results122, go_sem]; rfl) rfl ?_)
              exact ⟨by rw [e.out]; rfl, rfl⟩
        · have hkr : k = r.length := by omega
          subst hkr
          have hd := HD.out
          rw [List.take_length] at hd
          have e : Hid (numU neg r = some (if neg then -(m : Int) else m)) := by unfold Hid; rw [HG.out, hd]; rfl
          clear hd
          go_wp2
          ((try simp only [Exit.inBlock, Exit.then]); refine bodyPost_ret (v := _) (by simp [results, Tryz.results122, go_sem]; rfl) rfl ?_)
          exact ⟨by rw [e.out, ← hneg.out]; rfl, rfl⟩
  · have hlr := hlr.symm
    subst hlr
    obtain ⟨neg, hneg⟩ : ∃ neg, Hid (false = neg) := ⟨false, rfl⟩
    rw [show numU false r = numU neg r from by rw [hneg.out]]
    have hq : ∀ h : 0 < (bs r).size, (((bs r)[0]'h).toNat : Int) ≠ 45 := fun h e => hh (by
      rw [List.head?_eq_getElem?, List.getElem?_eq_getElem (by omega)]
      congr 1
      exact UInt8.toNat_inj.1 (by have e2 : ((r[0]'(by omega)).toNat : Int) = 45 := e; show (r[0]'(by omega)).toNat = 45; omega))
    clear hh hz
    rcases num_cases neg r with hc | hc | ⟨hc, hc1, hc2⟩ | ⟨hc, hc1⟩ | ⟨hc, hc1⟩ | ⟨hc, hc1, hc2⟩
    · have e : Hid (numU neg r = none) := by rw [hc]; exact numU_nil _
      have hz0 : (bs r).size = 0 := by rw [hzr, hc]; rfl
      have hz1 : r.length = 0 := by rw [hc]; rfl
      have HC := Lib.hid hc
      have hB0 : ((r.length : Int) == 0) = true := by rw [beq_iff_eq]; omega
      clear hc
      go_enter Tryz.func122, Tryz.ntmps122
      go_wp2
      ((try simp only [Exit.inBlock, Exit.then]); refine bodyPost_ret (v := _) (by simp [results, Tryz.results122, go_sem]; rfl) rfl ?_)
      exact ⟨by rw [e.out]; rfl, rfl⟩
    · have e : Hid (numU neg r = none) := numU_long hc
      have hB0 : ((r.length : Int) == 0) = false := by rw [beq_eq_false_iff_ne]; omega
      have hB17 : decide (17 < (r.length : Int)) = true := decide_eq_true (by omega)
      have hs0 : 0 < (bs r).size := by omega
      have hq1 : (((bs r)[0]'hs0).toNat : Int) ≠ 45 := hq hs0
      have hB45 : ((((bs r)[0]'hs0).toNat : Int) == 45) = false := by rw [beq_eq_false_iff_ne]; exact hq1
      go_enter Tryz.func122, Tryz.ntmps122
      go_wp2
      ((try simp only [Exit.inBlock, Exit.then]); refine bodyPost_ret (v := _) (by simp [results, Tryz.results122, go_sem]; rfl) rfl ?_)
      exact ⟨by rw [e.out]; rfl, rfl⟩
    · have e : Hid (numU neg r = none) := numU_zero ⟨by rw [List.head?_eq_getElem?, List.getElem?_eq_getElem (by omega), hc2], .inl hc⟩
      have hs0 : 0 < (bs r).size := by omega
      have hb : (((bs r)[0]'hs0).toNat : Int) = 48 := by show ((r[0]'(by omega)).toNat : Int) = 48; rw [hc2]; rfl
      have hB48 : ((((bs r)[0]'hs0).toNat : Int) == 48) = true := by rw [beq_iff_eq]; exact hb
      have hB0 : ((r.length : Int) == 0) = false := by rw [beq_eq_false_iff_ne]; omega
      have hB17 : decide (17 < (r.length : Int)) = false := decide_eq_false (by omega)
      have hB1 : decide (1 < (r.length : Int)) = true := decide_eq_true (by omega)
      clear hc2
      go_enter Tryz.func122, Tryz.ntmps122
      go_wp2
      ((try simp only [Exit.inBlock, Exit.then]); refine bodyPost_ret (v := _) (by simp [results, Tryz.results122, go_sem]; rfl) rfl ?_)
      exact ⟨by rw [e.out]; rfl, rfl⟩
    · have hn2 := hneg.out; rw [hc1] at hn2; cases hn2
    · have hgo : numU neg r = (Lib.decFrom 0 r).map fun m => if neg then -(m : Int) else m := numU_go (by rw [hc]; simp) (by rw [hc]; simp) (by rw [hc, hc1]; simp)
      have hz0 : (bs r).size = 1 := by rw [hzr, hc]; rfl
      have hs0 : 0 < (bs r).size := by omega
      have hb : (((bs r)[0]'hs0).toNat : Int) = 48 := by subst hc; rfl
      have hz1 : r.length = 1 := by rw [hc]; rfl
      have hB48 : ((((bs r)[0]'hs0).toNat : Int) == 48) = true := by rw [beq_iff_eq]; exact hb
      have hB0 : ((r.length : Int) == 0) = false := by rw [beq_eq_false_iff_ne]; omega
      have hB17 : decide (17 < (r.length : Int)) = false := decide_eq_false (by omega)
      have hB1 : decide (1 < (r.length : Int)) = false := decide_eq_false (by omega)
      clear hc hc1
      have HG := Lib.hid hgo
      clear hgo
      go_enter Tryz.func122, Tryz.ntmps122
      go_wp2
      go_loopw [5, 6] (fun n i wr => RelNm r w n i wr) (fun _ i _ => r.length - (intOf i).toNat)
      case atStart => exact ⟨0, 0, Nat.zero_le _, rfl, rfl, rfl, by simp, rfl⟩
      case round =>
        obtain ⟨k, m, hk, rfl, rfl, hdec, hm, rfl⟩ := hrel
        have HD := Lib.hid hdec
        have hp := pow17 (k := k) (by omega)
        have hmb : m ≤ 100000000000000000 := by omega
        have HM := Lib.hid hm
        clear hdec hm hp
        by_cases hlt : k < r.length
        · have hlt2 : k < (bs r).size := by omega
          have hu := u8_bd (bs r)[k]
          have hbk : (bs r)[k] = r[k] := bs_at hlt hlt2
          have HBK := Lib.hid hbk
          clear hbk
          by_cases hd : 48 ≤ (bs r)[k].toNat ∧ (bs r)[k].toNat ≤ 57
          · obtain ⟨hd1, hd2⟩ := hd
            have HS : Hid (Lib.decFrom 0 (r.take (k + 1)) = some (m * 10 + ((bs r)[k].toNat - 48))) := decFrom_take hlt HD.out (by show Lib.digitVal ((bs r)[k]'hlt2) = _; exact digitVal_yes ⟨hd1, hd2⟩)
            go_wp2
            go_roundw
            case rel => exact ⟨k + 1, m * 10 + ((bs r)[k].toNat - 48), by omega, by go_num, by go_num, HS.out, by have := HM.out; rw [Nat.pow_succ]; omega, rfl⟩
            case measure => simp [intOf]; omega
          · have e : Hid (numU neg r = none) := by
              unfold Hid
              rw [HG.out, decFrom_bad r 0 k hlt (by show Lib.digitVal ((bs r)[k]'hlt2) = none; exact digitVal_no (by omega))]
              rfl
            by_cases hd1 : (bs r)[k].toNat < 48
            all_goals
              go_wp2
              ((try simp only [Exit.inBlock, Exit.then]); refine bodyPost_ret (v := _) (by simp [results, Tryz.results122, go_sem]; rfl) rfl ?_)
              exact ⟨by rw [e.out]; rfl, rfl⟩
        · have hkr : k = r.length := by omega
          subst hkr
          have hd := HD.out
          rw [List.take_length] at hd
          have e : Hid (numU neg r = some (if neg then -(m : Int) else m)) := by unfold Hid; rw [HG.out, hd]; rfl
          clear hd
          go_wp2
          ((try simp only [Exit.inBlock, Exit.then]); refine bodyPost_ret (v := _) (by simp [results, Tryz.results122, go_sem]; rfl) rfl ?_)
          exact ⟨by rw [e.out, ← hneg.out]; rfl, rfl⟩
    · have hgo := numU_go' (neg := neg) hc hc1 hc2
      have hs0 : 0 < (bs r).size := by omega
      have hq1 : (((bs r)[0]'hs0).toNat : Int) ≠ 45 := hq hs0
      have hB45 : ((((bs r)[0]'hs0).toNat : Int) == 45) = false := by rw [beq_eq_false_iff_ne]; exact hq1
      have hb : (((bs r)[0]'hs0).toNat : Int) ≠ 48 := fun e => hc2 (UInt8.toNat_inj.1 (by have e2 : ((r[0]'(by omega)).toNat : Int) = 48 := e; show (r[0]'(by omega)).toNat = 48; omega))
      have hB48 : ((((bs r)[0]'hs0).toNat : Int) == 48) = false := by rw [beq_eq_false_iff_ne]; exact hb
      have hB0 : ((r.length : Int) == 0) = false := by rw [beq_eq_false_iff_ne]; omega
      have hB17 : decide (17 < (r.length : Int)) = false := decide_eq_false (by omega)
      clear hc2
      have HG := Lib.hid hgo
      clear hgo
      go_enter Tryz.func122, Tryz.ntmps122
      go_wp2
      go_loopw [5, 6] (fun n i wr => RelNm r w n i wr) (fun _ i _ => r.length - (intOf i).toNat)
      case atStart => exact ⟨0, 0, Nat.zero_le _, rfl, rfl, rfl, by simp, rfl⟩
      case round =>
        obtain ⟨k, m, hk, rfl, rfl, hdec, hm, rfl⟩ := hrel
        have HD := Lib.hid hdec
        have hp := pow17 (k := k) (by omega)
        have hmb : m ≤ 100000000000000000 := by omega
        have HM := Lib.hid hm
        clear hdec hm hp
        by_cases hlt : k < r.length
        · have hlt2 : k < (bs r).size := by omega
          have hu := u8_bd (bs r)[k]
          have hbk : (bs r)[k] = r[k] := bs_at hlt hlt2
          have HBK := Lib.hid hbk
          clear hbk
          by_cases hd : 48 ≤ (bs r)[k].toNat ∧ (bs r)[k].toNat ≤ 57
          · obtain ⟨hd1, hd2⟩ := hd
            have HS : Hid (Lib.decFrom 0 (r.take (k + 1)) = some (m * 10 + ((bs r)[k].toNat - 48))) := decFrom_take hlt HD.out (by show Lib.digitVal ((bs r)[k]'hlt2) = _; exact digitVal_yes ⟨hd1, hd2⟩)
            go_wp2
            go_roundw
            case rel => exact ⟨k + 1, m * 10 + ((bs r)[k].toNat - 48), by omega, by go_num, by go_num, HS.out, by have := HM.out; rw [Nat.pow_succ]; omega, rfl⟩
            case measure => simp [intOf]; omega
          · have e : Hid (numU neg r = none) := by
              unfold Hid
              rw [HG.out, decFrom_bad r 0 k hlt (by show Lib.digitVal ((bs r)[k]'hlt2) = none; exact digitVal_no (by omega))]
              rfl
            by_cases hd1 : (bs r)[k].toNat < 48
            all_goals
              go_wp2
              ((try simp only [Exit.inBlock, Exit.then]); refine bodyPost_ret (v := _) (by simp [results, Tryz.results122, go_sem]; rfl) rfl ?_)
              exact ⟨by rw [e.out]; rfl, rfl⟩
        · have hkr : k = r.length := by omega
          subst hkr
          have hd := HD.out
          rw [List.take_length] at hd
          have e : Hid (numU neg r = some (if neg then -(m : Int) else m)) := by unfold Hid; rw [HG.out, hd]; rfl
          clear hd
          go_wp2
          ((try simp only [Exit.inBlock, Exit.then]); refine bodyPost_ret (v := _) (by simp [results, Tryz.results122, go_sem]; rfl) rfl ?_)
          exact ⟨by rw [e.out, ← hneg.out]; rfl, rfl⟩
end Go.Proofs.YtekogcjdaolcbaaGreatDoor

/- The reference's l9Cut; strings.Split and strings.Cut at one byte. Conditions: fewer than 2^20 bytes; bytealg.MaxLen holds an int. -/
namespace Go.Proofs.YtekogcjdaolcbaaGreatDoor
open Go Go.RowKit
def bL (b : ByteArray) : List UInt8 := b.data.toList
theorem own_noC {w' : World} {base g : Nat} (hg : g = w'.heap.size) (hb : base ≤ w'.heap.size) : ownS (w'.alloc (.cells #[] 9)) base (.slice (some ⟨g, 0, none⟩) 0 0) [] := by
  subst hg
  exact World.ownsRow_made _ _ _ hb (by unfold maxLen; omega) rfl
theorem own_addC {w : World} {base : Nat} {v : Value} {l : List ByteArray} {t : ByteArray} (h : w.ownsRow base 9 1 v (l.length + 1) (cellsS l ++ [.string t])) : ownS w base v (l ++ [t]) := by
  have e1 : (l ++ [t]).length = l.length + 1 := by simp
  have e2 : cellsS (l ++ [t]) = cellsS l ++ [.string t] := by simp [cellsS]
  unfold ownS
  rw [e1, e2]
  exact h
def RelCt (s : ByteArray) (c : UInt8) (w : World) (out frm i : Value) (wr : World) : Prop := ∃ (k f : Nat) (P : List ByteArray), k ≤ s.size + 1 ∧ f ≤ k ∧ P.length ≤ k ∧ i = .int .i64 k ∧ frm = .int .i64 f ∧ ownS wr w.heap.size out P ∧ Up w wr ∧ (k ≤ s.size → IsSpl c ((bL s).take k) (P.map bL ++ [((bL s).take k).drop f])) ∧ (s.size < k → IsSpl c (bL s) (P.map bL))
theorem bL_ext (s : ByteArray) (f k : Nat) : bL (s.extract f k) = ((bL s).take k).drop f := by
  unfold bL
  rw [Lib.extract_data, List.drop_take]
theorem bL_map (P : List ByteArray) : (P.map bL).map bs = P := by
  rw [List.map_map]
  conv => rhs; rw [← List.map_id P]
  exact List.map_congr_left fun x _ => bs_self x
set_option maxRecDepth 100000 in
set_option maxHeartbeats 1000000 in
theorem l9Cut_any (s : ByteArray) (c : UInt8) (w : World) (hs : s.size ≤ 1048576) :
    Calls Tryz.prog 68  #[.string s, .int .u8 c.toNat] w (fun e w' => ∃ v, e = .returned v ∧ ownS w' w.heap.size v ((splL c s.data.toList).map bs) ∧ Up w w') := by
  obtain ⟨i0, hib, hz0, hz1, hz2⟩ := info_parts infoStr
  go_enter Tryz.func68, Tryz.ntmps68
  go_wp2
  go_loopw [5, 6, 7] (fun out f i wr => RelCt s c w out f i wr) (fun _ _ i _ => s.size + 1 - (intOf i).toNat)
  case atStart => exact ⟨0, 0, [], Nat.zero_le _, Nat.le_refl _, Nat.le_refl _, rfl, rfl, own_noC rfl (Nat.le_refl _), by (repeat (first | with_reducible exact Up.refl _ | with_reducible assumption | with_reducible refine Up.set ?_ (by first | exact Nat.le_refl _ | (simp only []; omega) | (simp; omega)) _ | with_reducible refine Up.alloc ?_ _ | with_reducible refine Up.drew ?_ | refine Up.trans ?_ (by with_reducible assumption))), fun _ => by simpa using IsSpl.nil c, fun h => absurd h (Nat.not_lt_zero _)⟩
  case round =>
    obtain ⟨k, f, P, hk, hf, hP, rfl, rfl, ho, hup, hA, hB⟩ := hrel
    obtain ⟨a, cp, rfl⟩ := ownsRow_shape ho
    have HO := Lib.hid ho
    have HA := Lib.hid hA
    have HB := Lib.hid hB
    have hln := ba_len s
    have HLN := Lib.hid hln
    clear ho hA hB hln
    have hwz := hup.size
    by_cases hlt : k < s.size
    · have hu := u8_bd s[k]
      have hl : k < (bL s).length := by have := HLN.out; unfold bL; omega
      have et : Hid ((bL s).take (k + 1) = (bL s).take k ++ [s[k]]) := by unfold Hid; rw [List.take_succ_eq_append_getElem hl]; rfl
      have ht : ((bL s).take k).length = k := by rw [List.length_take]; omega
      have HT := Lib.hid ht
      clear ht
      by_cases hc : s[k] = c
      · have hq : ((s[k].toNat : Int) == (c.toNat : Int)) = true := by rw [hc]; simp
        have hq2 : (s[k].toNat : Int) = c.toNat := by rw [hc]
        have hkn : ((k : Int) == (s.size : Int)) = false := by rw [beq_eq_false_iff_ne]; omega
        have HC := Lib.hid hc
        clear hc
        go_wp2_with (first | (at_builtin; refine wpList_append_own _ rfl _ _ 45 rfl (w.heap.size) 9 i0 (.string ByteArray.empty) 1 16 Tryz.underlying45 hib hz0 hz1 hz2 rfl (by decide) _ _ _ rfl ((HO.out).alloc _) ⟨(wr).heap.size, 0, none⟩ 1 1 [.string (s.extract f k)] rfl rfl (new_cells [.string (s.extract f k)] _ rfl) (by intro u hu; simp at hu; subst hu; rfl) (by unfold maxLen; omega) (by omega) (by simp; omega) ?_; rintro v2 w2 hown2 hgr2 -) | fail)
        go_roundw
        case rel => exact ⟨k + 1, k + 1, P ++ [s.extract f k], by omega, Nat.le_refl _, by rw [List.length_append, List.length_singleton]; omega, by go_num, by go_num, own_addC hown2, (hup.alloc _).grown hgr2 (fun x hx => (HO.out.lt x hx).1), fun h => by
          have h1 := (HA.out (by omega)).cut
          rw [← HC.out, ← et.out] at h1
          rw [List.map_append, List.map_singleton, bL_ext, ← HC.out]
          rw [List.drop_of_length_le (l := (bL s).take (k + 1)) (by rw [List.length_take]; omega)]
          exact h1, fun h => by omega⟩
        case measure => simp [intOf]; omega
      · have hq : ((s[k].toNat : Int) == (c.toNat : Int)) = false := by
          rw [beq_eq_false_iff_ne]
          intro e
          exact hc (UInt8.toNat_inj.1 (by omega))
        have hkn : ((k : Int) == (s.size : Int)) = false := by rw [beq_eq_false_iff_ne]; omega
        have HC := Lib.hid hc
        clear hc
        go_wp2
        go_roundw
        case rel => exact ⟨k + 1, f, P, by omega, by omega, by omega, by go_num, rfl, HO.out, hup, fun h => by
          have h1 := (HA.out (by omega)).grow (b := s[k]) HC.out
          rw [et.out, List.drop_append_of_le_length (by rw [HT.out]; exact hf)]
          exact h1, fun h => by omega⟩
        case measure => simp [intOf]; omega
    · by_cases he : k = s.size
      · subst he
        have hkn : ((s.size : Int) == (s.size : Int)) = true := by simp
        go_wp2_with (first | (at_builtin; refine wpList_append_own _ rfl _ _ 45 rfl (w.heap.size) 9 i0 (.string ByteArray.empty) 1 16 Tryz.underlying45 hib hz0 hz1 hz2 rfl (by decide) _ _ _ rfl ((HO.out).alloc _) ⟨(wr).heap.size, 0, none⟩ 1 1 [.string (s.extract f s.size)] rfl rfl (new_cells [.string (s.extract f s.size)] _ rfl) (by intro u hu; simp at hu; subst hu; rfl) (by unfold maxLen; omega) (by omega) (by simp; omega) ?_; rintro v2 w2 hown2 hgr2 -) | fail)
        go_roundw
        case rel => exact ⟨s.size + 1, s.size + 1, P ++ [s.extract f s.size], by omega, Nat.le_refl _, by rw [List.length_append, List.length_singleton]; omega, by go_num, by go_num, own_addC hown2, (hup.alloc _).grown hgr2 (fun x hx => (HO.out.lt x hx).1), fun h => by omega, fun h => by
          have h1 := HA.out (by omega)
          rw [List.map_append, List.map_singleton, bL_ext]
          rw [List.take_of_length_le (l := bL s) (by have := HLN.out; unfold bL; omega)] at h1 ⊢
          exact h1⟩
        case measure => simp [intOf]
      · go_wp2
        go_ret
        have e := splL_eq (HB.out (by omega))
        exact ⟨_, rfl, by rw [show splL c s.data.toList = P.map bL from e, bL_map]; exact HO.out, hup⟩
theorem split_any (s : ByteArray) (c : UInt8) (w : World) (hm : ∃ m, w.cell? ⟨0, 0, none⟩ = some (.int .i64 m)) (hs : s.size ≤ 1048576) :
    Calls Tryz.prog 49 #[.string s, .string ⟨#[c]⟩] w (fun e w' => ∃ v, e = .returned v ∧ ownS w' w.heap.size v ((splL c s.data.toList).map bs) ∧ Up w w') := by
  obtain ⟨m, hm⟩ := hm
  have hk : Lib.countB s ⟨#[c]⟩ = s.data.toList.count c := by
    show Lib.count s.data.toList [c] = _
    exact Lib.count_one c _
  have hd := Lib.splitB_data ⟨#[c]⟩ 0 (s.data.toList.count c) s
  have hd2 : (Lib.splitB ⟨#[c]⟩ 0 (s.data.toList.count c) s).map bL = splL c s.data.toList := by
    rw [← splitK_splL]; exact hd
  have hB : Lib.splitB ⟨#[c]⟩ 0 (s.data.toList.count c) s = (splL c s.data.toList).map bs := by rw [← hd2, bL_map]
  refine (Tryz.strings_Split s ⟨#[c]⟩ m w (by omega) hm (Nat.le_refl _)).mono fun e w' ⟨he, hw⟩ => ?_
  rw [hk, hB] at hw
  have hlen : (splL c s.data.toList).length = s.data.toList.count c + 1 := by
    have := Lib.splitB_all ⟨#[c]⟩ (Nat.le_refl _) 0 _ s hk
    rw [hB, List.length_map] at this; exact this
  have hle := splL_length_le c s.data.toList
  have hln := ba_len s
  refine ⟨_, he, ?_, ?_⟩
  · subst hw
    rw [hk, ← hlen]
    unfold ownS
    rw [List.length_map]
    exact ⟨by simp [cellsS], .inr ⟨w.heap.size, _, _, rfl, Nat.le_refl _, (MapKept.heap_alloc w _).1, Nat.le_refl _, by unfold maxLen; omega, by simp, by rw [Nat.mul_one]; unfold cellsS; rw [List.take_of_length_le (by simp)]⟩⟩
  · subst hw; exact (Up.refl _).alloc _
theorem cut_any (l : List UInt8) (c : UInt8) (w : World) (hm : ∃ m, w.cell? ⟨0, 0, none⟩ = some (.int .i64 m)) (hs : l.length ≤ 1048576) :
    Calls Tryz.prog 156 #[.string (bs l), .string ⟨#[c]⟩] w (fun e w' => e = .returned (.tuple #[.string (bs (match cutL c l with | some p => p.1 | none => l)), .string (bs (match cutL c l with | some p => p.2 | none => [])), .bool (cutL c l).isSome]) ∧ Up w w') := by
  obtain ⟨m, hm⟩ := hm
  have hz := bs_size l
  refine (Tryz.strings_Cut (bs l) ⟨#[c]⟩ m w (by omega) hm).mono fun e w' ⟨he, n, hw⟩ => ⟨?_, ?_⟩
  · rw [he]
    have e1 : Lib.cut (bs l).data.toList (⟨#[c]⟩ : ByteArray).data.toList = Lib.cut l [c] := by rw [bs_data]
    rw [e1, cut_cutL]
    cases cutL c l <;> rfl
  · subst hw
    exact ⟨rfl, rfl, rfl, Nat.le_refl _, fun i hi => rfl⟩
end Go.Proofs.YtekogcjdaolcbaaGreatDoor

/- The reference's ParseIndex. Conditions: fewer than 2^20 bytes. -/
namespace Go.Proofs.YtekogcjdaolcbaaGreatDoor
open Go Go.RowKit
theorem rowsX_ne {w : World} {b1 b2 : Nat} {e1 e2 : TypeId} {s1 s2 n1 n2 : Nat} {v1 v2 : Value} {x1 x2 : List Value} (h1 : w.ownsRow b1 e1 s1 v1 n1 x1) (h2 : w.ownsRow b2 e2 s2 v2 n2 x2) (hne : e1 ≠ e2) : v1.ownBlock = none ∨ v1.ownBlock ≠ v2.ownBlock := by
  rcases h1.2 with ⟨rfl, _⟩ | ⟨g, cap, cur, rfl, _, hg, _⟩
  · exact .inl rfl
  · refine .inr fun e => ?_
    rcases h2.2 with ⟨rfl, _⟩ | ⟨g2, cap2, cur2, rfl, _, hg2, _⟩
    · cases e
    · cases e
      rw [hg] at hg2
      cases hg2
      exact hne rfl
theorem own_strs {w : World} {base : Nat} {a : Option Addr} {n c : Nat} {xs : List (List UInt8)} (h : ownS w base (.slice a n c) (xs.map bs)) {k : Nat} (hk : k < xs.length) : ∃ g, a = some ⟨g, 0, none⟩ ∧ g < w.heap.size ∧ n = xs.length ∧ n ≤ c ∧ c ≤ maxLen ∧ w.cell? ⟨g, k, none⟩ = some (.string (bs xs[k])) := by
  unfold ownS at h
  rw [List.length_map] at h
  rcases ownsRow_read h with ⟨e, h2⟩ | ⟨g, cap, e, h1, h2, h3, h4, h5⟩
  · omega
  · cases e
    exact ⟨g, rfl, h4, rfl, h1, h2, h5 k _ (by simp [cellsS, hk])⟩
theorem l9Cut_n (l : List UInt8) (c : UInt8) (n : Int) (hn : (c.toNat : Int) = n) (w : World) (hs : l.length ≤ 1048576) :
    Calls Tryz.prog 68  #[.string (bs l), .int .u8 n] w (fun e w' => ∃ v, e = .returned v ∧ ownS w' w.heap.size v ((splL c l).map bs) ∧ Up w w') := by
  subst hn
  have := l9Cut_any (bs l) c w (by rw [bs_size]; exact hs)
  rw [bs_data] at this
  exact this
theorem l9Find_n (l : List UInt8) (c : UInt8) (n : Int) (hn : (c.toNat : Int) = n) (w : World) (hs : l.length ≤ 1048576) :
    Calls Tryz.prog 124  #[.string (bs l), .int .u8 n] w (fun e w' => e = .returned (.int .i64 (findL l c)) ∧ w = w') := by
  subst hn
  have := l9Find_any (bs l) c w (by rw [bs_size]; omega)
  rw [bs_data] at this
  exact this
end Go.Proofs.YtekogcjdaolcbaaGreatDoor

/- The reference's l3Pair, the program's parsePair. Conditions: fewer than 2^20 bytes; the listed variables lie as they were laid. -/
namespace Go.Proofs.YtekogcjdaolcbaaGreatDoor
open Go Go.RowKit
abbrev prV (p : PairD) : Value := .agg #[.int .i64 p.pre, .int .i64 p.byt]
set_option maxRecDepth 100000 in
set_option maxHeartbeats 1000000 in
theorem l3Pair_any (t : List UInt8) (w : World) (ht : t.length ≤ 1048576) :
    Calls Tryz.prog 123  #[.string (bs t)] w (Same (prV (prR t)) w) := by
  have cC := fun wx => l9Find_n t 46 46 rfl wx ht
  have zT := bs_size t
  cases hcut : cutL 46 t with
  | none =>
    have e : Hid (prR t = ⟨-1, 0⟩) := by unfold Hid prR; rw [hcut]
    rw [findL_cut_none hcut] at cC
    rw [e.out]
    clear hcut
    go_enter Tryz.func123, Tryz.ntmps123
    go_wp2_with (go_at_call 124; (with_reducible refine (cC _).mono ?_); rintro e w3 ⟨rfl, rfl⟩)
    ((try simp only [Exit.inBlock, Exit.then]); refine bodyPost_ret (v := _) (by simp [results, Tryz.results123, go_sem]; rfl) rfl ?_)
    exact ⟨rfl, by (repeat (first | with_reducible exact Up.refl _ | with_reducible assumption | with_reducible refine Up.set ?_ (by first | exact Nat.le_refl _ | (simp only []; omega) | (simp; omega)) _ | with_reducible refine Up.alloc ?_ _ | with_reducible refine Up.drew ?_ | refine Up.trans ?_ (by with_reducible assumption)))⟩
  | some p =>
    obtain ⟨x, y⟩ := p
    obtain ⟨hxy, -⟩ := cutL_some hcut
    rw [findL_cut hcut] at cC
    have hlen : t.length = x.length + (y.length + 1) := by have := congrArg List.length hxy; simpa using this
    have cA := fun wx => l9Num_any x wx (by omega)
    have cB := fun wx => l9Num_any y wx (by omega)
    have hE1 : (bs t).extract 0 x.length = bs x := by rw [bs_ext, hxy]; simp
    have hE2 : (bs t).extract (x.length + 1) (x.length + (y.length + 1)) = bs y := by rw [bs_ext, hxy, show x.length + (y.length + 1) - (x.length + 1) = y.length by omega]; simp
    have HV : Hid (prR t = match numR x, numR y with | some a, some b => ⟨a, b⟩ | _, _ => ⟨-1, 0⟩) := by unfold Hid prR; rw [hcut]; try (simp only [] <;> cases numR x <;> cases numR y <;> rfl)
    rw [HV.out]
    clear hcut hxy HV
    cases hx : numR x with
    | none =>
      rw [hx] at cA
      simp only [Option.getD_none, Option.isSome_none] at cA
      clear hx
      have e : Hid ((match (none : Option Int), numR y with | some a, some b => (⟨a, b⟩ : PairD) | _, _ => ⟨-1, 0⟩) = ⟨-1, 0⟩) := rfl
      rw [e.out]
      generalize (numR y).getD 0 = n2 at *
      generalize (numR y).isSome = b2 at *
      go_enter Tryz.func123, Tryz.ntmps123
      go_wp2_with (first | (go_at_call 124; (with_reducible refine (cC _).mono ?_); rintro e w3 ⟨rfl, rfl⟩) | (go_at_call 122; first | ((with_reducible refine (cA _).mono ?_); rintro e w4 ⟨rfl, rfl⟩) | ((with_reducible refine (cB _).mono ?_); rintro e w5 ⟨rfl, rfl⟩)))
      ((try simp only [Exit.inBlock, Exit.then]); refine bodyPost_ret (v := _) (by simp [results, Tryz.results123, go_sem]; rfl) rfl ?_)
      exact ⟨rfl, by (repeat (first | with_reducible exact Up.refl _ | with_reducible assumption | with_reducible refine Up.set ?_ (by first | exact Nat.le_refl _ | (simp only []; omega) | (simp; omega)) _ | with_reducible refine Up.alloc ?_ _ | with_reducible refine Up.drew ?_ | refine Up.trans ?_ (by with_reducible assumption)))⟩
    | some a =>
      rw [hx] at cA
      simp only [Option.getD_some, Option.isSome_some] at cA
      cases hy : numR y with
      | none =>
        rw [hy] at cB
        simp only [Option.getD_none, Option.isSome_none] at cB
        clear hx hy
        go_enter Tryz.func123, Tryz.ntmps123
        go_wp2_with (first | (go_at_call 124; (with_reducible refine (cC _).mono ?_); rintro e w3 ⟨rfl, rfl⟩) | (go_at_call 122; first | ((with_reducible refine (cA _).mono ?_); rintro e w4 ⟨rfl, rfl⟩) | ((with_reducible refine (cB _).mono ?_); rintro e w5 ⟨rfl, rfl⟩)))
        ((try simp only [Exit.inBlock, Exit.then]); refine bodyPost_ret (v := _) (by simp [results, Tryz.results123, go_sem]; rfl) rfl ?_)
        exact ⟨rfl, by (repeat (first | with_reducible exact Up.refl _ | with_reducible assumption | with_reducible refine Up.set ?_ (by first | exact Nat.le_refl _ | (simp only []; omega) | (simp; omega)) _ | with_reducible refine Up.alloc ?_ _ | with_reducible refine Up.drew ?_ | refine Up.trans ?_ (by with_reducible assumption)))⟩
      | some b =>
        rw [hy] at cB
        simp only [Option.getD_some, Option.isSome_some] at cB
        clear hx hy
        go_enter Tryz.func123, Tryz.ntmps123
        go_wp2_with (first | (go_at_call 124; (with_reducible refine (cC _).mono ?_); rintro e w3 ⟨rfl, rfl⟩) | (go_at_call 122; first | ((with_reducible refine (cA _).mono ?_); rintro e w4 ⟨rfl, rfl⟩) | ((with_reducible refine (cB _).mono ?_); rintro e w5 ⟨rfl, rfl⟩)))
        ((try simp only [Exit.inBlock, Exit.then]); refine bodyPost_ret (v := _) (by simp [results, Tryz.results123, go_sem]; rfl) rfl ?_)
        exact ⟨rfl, by (repeat (first | with_reducible exact Up.refl _ | with_reducible assumption | with_reducible refine Up.set ?_ (by first | exact Nat.le_refl _ | (simp only []; omega) | (simp; omega)) _ | with_reducible refine Up.alloc ?_ _ | with_reducible refine Up.drew ?_ | refine Up.trans ?_ (by with_reducible assumption)))⟩
def PpPost (t : List UInt8) (w : World) (e : Ending) (w' : World) : Prop := ∃ a b : Int, e = .returned (.tuple #[.agg #[.int .i64 a, .int .i64 b], .bool (prP t).isSome]) ∧ (∀ p, prP t = some p → p = ⟨a, b⟩) ∧ Up w w'
def PrAt (b : Nat) (x y : Int) (w : World) : Prop := w.heap[b]? = some (.cells #[.int .i64 x, .int .i64 y] 133)
theorem PrAt.cells {b : Nat} {x y : Int} {w : World} (h : PrAt b x y w) : b < w.heap.size ∧ w.cell? ⟨b, 0, none⟩ = some (.int .i64 x) ∧ w.cell? ⟨b, 1, none⟩ = some (.int .i64 y) := ⟨(Array.getElem?_eq_some_iff.1 h).1, box_cell h 0, box_cell h 1⟩
set_option maxRecDepth 100000 in
set_option maxHeartbeats 1000000 in
theorem parsePair_any (t : List UInt8) (w : World) (hL : Lay w) (ht : t.length ≤ 1048576) :
    Calls Tryz.prog 114  #[.string (bs t)] w (PpPost t w) := by
  unfold PpPost
  have cC := fun wx (hx : Up w wx) => cut_any t 46 wx (hL.up hx).max ht
  cases hcut : cutL 46 t with
  | none =>
    have e : Hid (prP t = none) := by unfold Hid prP pairP; rw [hcut]; rfl
    rw [hcut] at cC
    rw [e.out]
    simp only [Option.isSome_none] at cC ⊢
    clear hcut
    go_enter Tryz.func114, Tryz.ntmps114
    go_wp2_with fail
    (with_reducible refine (cC _ (by (repeat (first | with_reducible exact Up.refl _ | with_reducible assumption | with_reducible refine Up.set ?_ (by first | exact Nat.le_refl _ | (simp only []; omega) | (simp; omega)) _ | with_reducible refine Up.alloc ?_ _ | with_reducible refine Up.drew ?_ | refine Up.trans ?_ (by with_reducible assumption))))).mono ?_); rintro e w3 ⟨rfl, U3⟩
    have hRB : PrAt w.heap.size 0 0 w3 := box_up U3 (MapKept.heap_alloc w _).1
    obtain ⟨hb0, q0, q1⟩ := hRB.cells
    have hf := box_free hRB
    have hU3 : Up w w3 := by (repeat (first | with_reducible exact Up.refl _ | with_reducible assumption | with_reducible refine Up.set ?_ (by first | exact Nat.le_refl _ | (simp only []; omega) | (simp; omega)) _ | with_reducible refine Up.alloc ?_ _ | with_reducible refine Up.drew ?_ | refine Up.trans ?_ (by with_reducible assumption)))
    clear U3
    go_wp2
    refine bodyPost_ret (v := .tuple #[.agg #[.int .i64 0, .int .i64 0], .bool false]) (by simp [results, Tryz.results114, go_sem, q0, q1]) rfl ⟨0, 0, rfl, (fun p h => nomatch h), ?_⟩
    (repeat (first | with_reducible exact Up.refl _ | with_reducible assumption | with_reducible refine Up.set ?_ (by first | exact Nat.le_refl _ | (simp only []; omega) | (simp; omega)) _ | with_reducible refine Up.alloc ?_ _ | with_reducible refine Up.drew ?_ | refine Up.trans ?_ (by with_reducible assumption)))
  | some p =>
    obtain ⟨x, y⟩ := p
    obtain ⟨hxy, -⟩ := cutL_some hcut
    have hxl1 : x.length ≤ t.length := by have := congrArg List.length hxy; simp at this; omega
    have hyl1 : y.length ≤ t.length := by have := congrArg List.length hxy; simp at this; omega
    have cP := fun wx (hx : Up w wx) => pnum_any x wx (hL.up hx) (by omega)
    have cQ := fun wx (hx : Up w wx) => pnum_any y wx (hL.up hx) (by omega)
    have HV : Hid (prP t = match numP x, numP y with | some a, some b => some ⟨a, b⟩ | _, _ => none) := by unfold Hid prP pairP; rw [hcut]; simp only []; cases numP x <;> cases numP y <;> rfl
    rw [hcut] at cC
    simp only [Option.isSome_some] at cC
    have HS : Hid ((prP t).isSome = ((numP x).isSome && (numP y).isSome)) := by unfold Hid; rw [HV.out]; cases numP x <;> cases numP y <;> rfl
    have HW : Hid (∀ p, prP t = some p → p = ⟨(numP x).getD 0, (numP y).getD 0⟩) := fun p h => by
      rw [HV.out] at h
      cases hx : numP x <;> cases hy : numP y <;> rw [hx, hy] at h
      · cases h
      · cases h
      · cases h
      · exact (Option.some.inj h).symm
    rw [HS.out]
    clear hcut hxy HV hL
    generalize (numP x).getD 0 = n1 at *
    generalize (numP x).isSome = b1 at *
    generalize (numP y).getD 0 = n2 at *
    generalize (numP y).isSome = b2 at *
    go_enter Tryz.func114, Tryz.ntmps114
    go_wp2_with fail
    (with_reducible refine (cC _ (by (repeat (first | with_reducible exact Up.refl _ | with_reducible assumption | with_reducible refine Up.set ?_ (by first | exact Nat.le_refl _ | (simp only []; omega) | (simp; omega)) _ | with_reducible refine Up.alloc ?_ _ | with_reducible refine Up.drew ?_ | refine Up.trans ?_ (by with_reducible assumption))))).mono ?_); rintro e w3 ⟨rfl, U3⟩
    have hRB : PrAt w.heap.size 0 0 w3 := box_up U3 (MapKept.heap_alloc w _).1
    have hU3 : Up w w3 := by (repeat (first | with_reducible exact Up.refl _ | with_reducible assumption | with_reducible refine Up.set ?_ (by first | exact Nat.le_refl _ | (simp only []; omega) | (simp; omega)) _ | with_reducible refine Up.alloc ?_ _ | with_reducible refine Up.drew ?_ | refine Up.trans ?_ (by with_reducible assumption)))
    have hb3 := hRB.cells.1
    clear U3
    go_wp2_with fail
    (with_reducible refine (cP _ (by (repeat (first | with_reducible exact Up.refl _ | with_reducible assumption | with_reducible refine Up.set ?_ (by first | exact Nat.le_refl _ | (simp only []; omega) | (simp; omega)) _ | with_reducible refine Up.alloc ?_ _ | with_reducible refine Up.drew ?_ | refine Up.trans ?_ (by with_reducible assumption))))).mono ?_); rintro e w4 ⟨rfl, U4⟩
    have hRB4 : PrAt w.heap.size 0 0 w4 := box_up U4 (box_up ((Up.refl _).alloc _) hRB)
    have hPB4 : PrAt w3.heap.size 0 0 w4 := box_up U4 (MapKept.heap_alloc w3 _).1
    have hU4 : Up w w4 := by (repeat (first | with_reducible exact Up.refl _ | with_reducible assumption | with_reducible refine Up.set ?_ (by first | exact Nat.le_refl _ | (simp only []; omega) | (simp; omega)) _ | with_reducible refine Up.alloc ?_ _ | with_reducible refine Up.drew ?_ | refine Up.trans ?_ (by with_reducible assumption)))
    obtain ⟨hb4, q0, q1⟩ := hPB4.cells
    have hf4 := box_free hPB4
    have hne : w.heap.size ≠ w3.heap.size := Nat.ne_of_lt hb3
    clear U4 hRB hU3
    go_wp2_with fail
    (with_reducible refine (cQ _ (by (repeat (first | with_reducible exact Up.refl _ | with_reducible assumption | with_reducible refine Up.set ?_ (by first | exact Nat.le_refl _ | (simp only []; omega) | (simp; omega)) _ | with_reducible refine Up.alloc ?_ _ | with_reducible refine Up.drew ?_ | refine Up.trans ?_ (by with_reducible assumption))))).mono ?_); rintro e w5 ⟨rfl, U5⟩
    have hPB5 : PrAt w3.heap.size n1 0 w5 := box_up U5 (box_set hPB4 0 (.int .i64 n1))
    have hRB5 : PrAt w.heap.size 0 0 w5 := box_up U5 (box_other hRB4 (p := ⟨w3.heap.size, 0, none⟩) hne _)
    have hU5 : Up w w5 := by (repeat (first | with_reducible exact Up.refl _ | with_reducible assumption | with_reducible refine Up.set ?_ (by first | exact Nat.le_refl _ | (simp only []; omega) | (simp; omega)) _ | with_reducible refine Up.alloc ?_ _ | with_reducible refine Up.drew ?_ | refine Up.trans ?_ (by with_reducible assumption)))
    clear U5 hPB4 hRB4 hU4 q0 q1 hf4
    obtain ⟨hb5, q0, q1⟩ := hPB5.cells
    have hf5 := box_free hPB5
    obtain ⟨hb6, r0, r1⟩ := hRB5.cells
    have hf6 := box_free hRB5
    cases b1 <;> cases b2
    all_goals
      go_wp2
      refine bodyPost_ret (v := .tuple #[.agg #[.int .i64 n1, .int .i64 n2], .bool _]) (by simp [results, Tryz.results114, go_sem, q0, q1, r0, r1, hne]) rfl ⟨n1, n2, rfl, HW.out, ?_⟩
      (repeat (first | with_reducible exact Up.refl _ | with_reducible assumption | with_reducible refine Up.set ?_ (by first | exact Nat.le_refl _ | (simp only []; omega) | (simp; omega)) _ | with_reducible refine Up.alloc ?_ _ | with_reducible refine Up.drew ?_ | refine Up.trans ?_ (by with_reducible assumption)))
end Go.Proofs.YtekogcjdaolcbaaGreatDoor

/- ParseSetting of both sides. Conditions: fewer than 2^20 bytes; the listed variables lie as they were laid. -/
namespace Go.Proofs.YtekogcjdaolcbaaGreatDoor
open Go Go.RowKit
theorem own_strC {w : World} {base g : Nat} {n c : Nat} {xs : List (List UInt8)} (h : ownS w base (.slice (some ⟨g, 0, none⟩) n c) (xs.map bs)) {k : Nat} (hk : k < xs.length) : w.cell? ⟨g, k, none⟩ = some (.string (bs xs[k])) := by
  obtain ⟨g', e, -, -, -, -, h6⟩ := own_strs h hk
  cases e
  exact h6
def st0 : SetD := ⟨0, 0, 0⟩
abbrev psV (o : Option SetD) : Value := .tuple #[setV (o.getD st0), .bool o.isSome]
theorem prsSet_len3 {t : List UInt8} (h : (splL 32 t).length ≠ 3) : prsSet t = none := by
  unfold prsSet
  split
  · rename_i a b c e; rw [e] at h; exact absurd rfl h
  · rfl
theorem prsSet_3 {t a b c : List UInt8} (h : splL 32 t = [a, b, c]) : prsSet t = set3 a b c := by unfold prsSet; rw [h]
theorem len3 {α : Type} {xs : List α} (h : xs.length = 3) : ∃ a b c, xs = [a, b, c] := by
  match xs, h with
  | [a, b, c], _ => exact ⟨a, b, c, rfl⟩
theorem len4 {α : Type} {xs : List α} (h : xs.length = 4) : ∃ a b c d, xs = [a, b, c, d] := by
  match xs, h with
  | [a, b, c, d], _ => exact ⟨a, b, c, d, rfl⟩
theorem numP_bd {l : List UInt8} {n : Int} (h : numP l = some n) : -9223372036854775808 ≤ n ∧ n ≤ 9223372036854775807 := by
  unfold numP at h
  split at h
  · rename_i v hv
    split at h
    · cases h; exact Lib.atoiAll_bounds hv
    · cases h
  · cases h
theorem bs_eq {l m : List UInt8} (h : l = m) : ((bs l).toList == (bs m).toList) = true := by rw [h]; simp
theorem bs_dif {l m : List UInt8} (h : l ≠ m) : ((bs l).toList == (bs m).toList) = false := by rw [Lib.toList_data, Lib.toList_data, bs_data, bs_data]; simpa using h
theorem bl_eq {l m : List UInt8} (h : l = m) : ((bs l).toList == m) = true := by rw [Lib.toList_data, bs_data]; simpa using h
theorem bl_ne {l m : List UInt8} (h : l ≠ m) : ((bs l).toList == m) = false := by rw [Lib.toList_data, bs_data]; simpa using h
set_option maxRecDepth 100000 in
set_option maxHeartbeats 8000000 in
theorem psI_any (t : List UInt8) (w : World) (hL : Lay w) (ht : t.length ≤ 1048576) :
    Calls Tryz.prog 113  #[.string (bs t)] w (Same (psV (prsSet t)) w) := by
  have zT := bs_size t
  have cS := fun wx (hx : Up w wx) => split_any (bs t) 32 wx (hL.up hx).max (by omega)
  rw [bs_data] at cS
  have hxp := splL_piece_le 32 t
  have hxl := splL_length_le 32 t
  obtain ⟨xs, hxs⟩ : ∃ xs, xs = splL 32 t := ⟨_, rfl⟩
  rw [← hxs] at cS hxp hxl
  have HL := Lib.hid hL
  clear hL
  by_cases h3 : xs.length = 3
  case' neg =>
    have e : Hid (prsSet t = none) := prsSet_len3 (by rw [← hxs]; exact h3)
    have hB3 : ((xs.length : Int) == 3) = false := by rw [beq_eq_false_iff_ne]; omega
    rw [e.out]
    clear hxs hxp
    go_enter Tryz.func113, Tryz.ntmps113
    go_wp2_with fail
    (with_reducible refine (cS _ (by (repeat (first | with_reducible exact Up.refl _ | with_reducible assumption | with_reducible refine Up.set ?_ (by first | exact Nat.le_refl _ | (simp only []; omega) | (simp; omega)) _ | with_reducible refine Up.alloc ?_ _ | with_reducible refine Up.drew ?_ | refine Up.trans ?_ (by with_reducible assumption))))).mono ?_); rintro e w1 ⟨vp, rfl, ho, U1⟩
    obtain ⟨av, cv, rfl⟩ := ownsRow_shape ho
    simp only [List.length_map] at ho ⊢
    have hR1 : SetAt w.heap.size 0 0 0 w1 := box_up U1 (MapKept.heap_alloc w _).1
    have hU1 : Up w w1 := by (repeat (first | with_reducible exact Up.refl _ | with_reducible assumption | with_reducible refine Up.set ?_ (by first | exact Nat.le_refl _ | (simp only []; omega) | (simp; omega)) _ | with_reducible refine Up.alloc ?_ _ | with_reducible refine Up.drew ?_ | refine Up.trans ?_ (by with_reducible assumption)))
    obtain ⟨hb1, q0, q1, q2⟩ := hR1.cells
    have hf1 := box_free hR1
    clear U1 cS
    go_wp2
    refine bodyPost_ret (v := psV none) (by simp [results, Tryz.results113, go_sem, q0, q1, q2, psV, st0]) rfl ⟨rfl, ?_⟩
    (repeat (first | with_reducible exact Up.refl _ | with_reducible assumption | with_reducible refine Up.set ?_ (by first | exact Nat.le_refl _ | (simp only []; omega) | (simp; omega)) _ | with_reducible refine Up.alloc ?_ _ | with_reducible refine Up.drew ?_ | refine Up.trans ?_ (by with_reducible assumption)))
  obtain ⟨a, b, c, hx⟩ := len3 h3
  rw [hx] at cS hxp hxs
  have hal := hxp a (by simp)
  have hbl := hxp b (by simp)
  have hcl := hxp c (by simp)
  have HE : Hid (prsSet t = set3 a b c) := prsSet_3 hxs.symm
  rw [HE.out]
  have cB := fun wx (hx : Up w wx) => pnum_any b wx (HL.out.up hx) (by omega)
  have cC := fun wx (hx : Up w wx) => pnum_any c wx (HL.out.up hx) (by omega)
  clear hxp hxl hxs h3 hx xs
  by_cases hlow : a = [108, 111, 119]
  case' pos =>
    have HQ : Hid (ordP a = some 0) := by rw [hlow]; rfl
    have hb1 : ((bs a).toList == (⟨#[108, 111, 119]⟩ : ByteArray).toList) = true := bs_eq hlow
    have hb3 := bl_eq hlow
    clear hlow
  case' neg =>
    by_cases hhigh : a = [104, 105, 103, 104]
    case' pos =>
      have HQ : Hid (ordP a = some 1) := by rw [hhigh]; rfl
      have hb1 : ((bs a).toList == (⟨#[108, 111, 119]⟩ : ByteArray).toList) = false := bs_dif hlow
      have hb2 : ((bs a).toList == (⟨#[104, 105, 103, 104]⟩ : ByteArray).toList) = true := bs_eq hhigh
      have hb3 := bl_ne hlow
      have hb4 := bl_eq hhigh
      clear hlow hhigh
    case' neg =>
      have HQ : Hid (ordP a = none) := by unfold Hid ordP; rw [if_neg hlow, if_neg hhigh]
      have hb1 : ((bs a).toList == (⟨#[108, 111, 119]⟩ : ByteArray).toList) = false := bs_dif hlow
      have hb2 : ((bs a).toList == (⟨#[104, 105, 103, 104]⟩ : ByteArray).toList) = false := bs_dif hhigh
      have e : Hid (set3 a b c = none) := by unfold Hid set3; rw [HQ.out]
      rw [e.out]
      have hb3 := bl_ne hlow
      have hb4 := bl_ne hhigh
      clear hlow hhigh
  all_goals
    go_enter Tryz.func113, Tryz.ntmps113
    go_wp2_with fail
    (with_reducible refine (cS _ (by (repeat (first | with_reducible exact Up.refl _ | with_reducible assumption | with_reducible refine Up.set ?_ (by first | exact Nat.le_refl _ | (simp only []; omega) | (simp; omega)) _ | with_reducible refine Up.alloc ?_ _ | with_reducible refine Up.drew ?_ | refine Up.trans ?_ (by with_reducible assumption))))).mono ?_); rintro e w1 ⟨vp, rfl, ho, U1⟩
    obtain ⟨av, cv, rfl⟩ := ownsRow_shape ho
    simp only [List.length_map, List.length_cons, List.length_nil, Nat.zero_add] at ho ⊢
    have hR1 : SetAt w.heap.size 0 0 0 w1 := box_up U1 (MapKept.heap_alloc w _).1
    have hU1 : Up w w1 := by (repeat (first | with_reducible exact Up.refl _ | with_reducible assumption | with_reducible refine Up.set ?_ (by first | exact Nat.le_refl _ | (simp only []; omega) | (simp; omega)) _ | with_reducible refine Up.alloc ?_ _ | with_reducible refine Up.drew ?_ | refine Up.trans ?_ (by with_reducible assumption)))
    obtain ⟨g, rfl, hg, -, hcc1, hcc2, c0⟩ := own_strs ho (k := 0) (by simp)
    have c1 := own_strC ho (k := 1) (by simp)
    have c2 := own_strC ho (k := 2) (by simp)
    simp only [List.getElem_cons_zero, List.getElem_cons_succ] at c0 c1 c2
    obtain ⟨hb0, q0, q1, q2⟩ := hR1.cells
    have hf1 := box_free hR1
    clear U1 cS
  · have hn1 : ¬ w.heap.size = w1.heap.size := by omega
    have hn2 : ¬ w1.heap.size = w.heap.size := by omega
    go_wp2
    refine bodyPost_ret (v := psV none) (by simp [results, Tryz.results113, go_sem, q0, q1, q2, psV, st0, hn1, hn2, hb0]) rfl ⟨rfl, ?_⟩
    (repeat (first | with_reducible exact Up.refl _ | with_reducible assumption | with_reducible refine Up.set ?_ (by first | exact Nat.le_refl _ | (simp only []; omega) | (simp; omega)) _ | with_reducible refine Up.alloc ?_ _ | with_reducible refine Up.drew ?_ | refine Up.trans ?_ (by with_reducible assumption)))
  all_goals
    go_wp2_with fail
    (with_reducible refine (cB _ (by (repeat (first | with_reducible exact Up.refl _ | with_reducible assumption | with_reducible refine Up.set ?_ (by first | exact Nat.le_refl _ | (simp only []; omega) | (simp; omega)) _ | with_reducible refine Up.alloc ?_ _ | with_reducible refine Up.drew ?_ | refine Up.trans ?_ (by with_reducible assumption))))).mono ?_); rintro e w2 ⟨rfl, U2⟩
    have hn1 : ¬ w.heap.size = w1.heap.size := by omega
    have hn2 : ¬ w1.heap.size = w.heap.size := by omega
    have ho2 := ownsRow_up ho (((Up.refl _).alloc _).trans U2)
    first
      | (obtain ⟨o, hoo⟩ : ∃ o, Hid (o = (0 : Int)) := ⟨0, rfl⟩
         have hS2 : SetAt w1.heap.size o 0 0 w2 := by rw [hoo.out]; exact box_up U2 (MapKept.heap_alloc w1 _).1
         have HQ : Hid (ordP a = some o) := by unfold Hid; rw [hoo.out]; exact HQ.out)
      | (obtain ⟨o, hoo⟩ : ∃ o, Hid (o = (1 : Int)) := ⟨1, rfl⟩
         have hS2 : SetAt w1.heap.size o 0 0 w2 := by rw [hoo.out]; exact box_up U2 (MapKept.heap_alloc w1 _).1
         have HQ : Hid (ordP a = some o) := by unfold Hid; rw [hoo.out]; exact HQ.out)
    have hR2 : SetAt w.heap.size 0 0 0 w2 := box_up U2 (box_up ((Up.refl _).alloc _) hR1)
    have hU2 : Up w w2 := by (repeat (first | with_reducible exact Up.refl _ | with_reducible assumption | with_reducible refine Up.set ?_ (by first | exact Nat.le_refl _ | (simp only []; omega) | (simp; omega)) _ | with_reducible refine Up.alloc ?_ _ | with_reducible refine Up.drew ?_ | refine Up.trans ?_ (by with_reducible assumption)))
    have d2 := own_strC ho2 (k := 2) (by simp)
    simp only [List.getElem_cons_zero, List.getElem_cons_succ] at d2
    clear c0 c1 c2 q0 q1 q2 hf1 ho hR1 hU1 U2 ho2 hoo
    obtain ⟨hs2, q0, q1, q2⟩ := hS2.cells
    have hf2 := box_free hS2
    have HG : Hid (g < w2.heap.size) := World.block_lt_of_cell? _ _ d2
    go_wp2_with fail
    (with_reducible refine (cC _ (by (repeat (first | with_reducible exact Up.refl _ | with_reducible assumption | with_reducible refine Up.set ?_ (by first | exact Nat.le_refl _ | (simp only []; omega) | (simp; omega)) _ | with_reducible refine Up.alloc ?_ _ | with_reducible refine Up.drew ?_ | refine Up.trans ?_ (by with_reducible assumption))))).mono ?_); rintro e w3 ⟨rfl, U3⟩
    have hS3 : SetAt w1.heap.size o ((numP b).getD 0) 0 w3 := box_up U3 (box_set hS2 1 (.int .i64 ((numP b).getD 0)))
    have hR3 : SetAt w.heap.size 0 0 0 w3 := box_up U3 (box_other hR2 (p := ⟨w1.heap.size, 1, none⟩) hn1 _)
    have hU3 : Up w w3 := by (repeat (first | with_reducible exact Up.refl _ | with_reducible assumption | with_reducible refine Up.set ?_ (by first | exact Nat.le_refl _ | (simp only []; omega) | (simp; omega)) _ | with_reducible refine Up.alloc ?_ _ | with_reducible refine Up.drew ?_ | refine Up.trans ?_ (by with_reducible assumption)))
    clear U3 hS2 hR2 hU2 q0 q1 q2 hs2 hf2 HG d2
    obtain ⟨hs3, q0, q1, q2⟩ := hS3.cells
    have hf3 := box_free hS3
    obtain ⟨hr3, r0, r1, r2⟩ := hR3.cells
    have hg3 := box_free hR3
    cases hb : numP b with
    | none =>
      have e : Hid (set3 a b c = none) := by unfold Hid set3; rw [HQ.out, hb]
      rw [hb] at q1
      simp only [Option.getD_none, Option.isSome_none] at q1 ⊢
      generalize (numP c).getD 0 = nc at *
      generalize (numP c).isSome = bc at *
      go_wp2
      refine bodyPost_ret (v := psV none) (by simp [results, Tryz.results113, go_sem, q0, q1, q2, r0, r1, r2, psV, st0, hn1, hn2, hb0]) rfl ⟨by rw [e.out], ?_⟩
      (repeat (first | with_reducible exact Up.refl _ | with_reducible assumption | with_reducible refine Up.set ?_ (by first | exact Nat.le_refl _ | (simp only []; omega) | (simp; omega)) _ | with_reducible refine Up.alloc ?_ _ | with_reducible refine Up.drew ?_ | refine Up.trans ?_ (by with_reducible assumption)))
    | some l =>
      rw [hb] at q1 hS3
      simp only [Option.getD_some, Option.isSome_some] at q1 hS3 ⊢
      cases hc : numP c with
      | none =>
        have e : Hid (set3 a b c = none) := by unfold Hid set3; rw [HQ.out, hb, hc]
        simp only [Option.getD_none, Option.isSome_none]
        go_wp2
        refine bodyPost_ret (v := psV none) (by simp [results, Tryz.results113, go_sem, q0, q1, q2, r0, r1, r2, psV, st0, hn1, hn2, hb0]) rfl ⟨by rw [e.out], ?_⟩
        (repeat (first | with_reducible exact Up.refl _ | with_reducible assumption | with_reducible refine Up.set ?_ (by first | exact Nat.le_refl _ | (simp only []; omega) | (simp; omega)) _ | with_reducible refine Up.alloc ?_ _ | with_reducible refine Up.drew ?_ | refine Up.trans ?_ (by with_reducible assumption)))
      | some m =>
        have cV := fun wx => setI_any o l m wx (numP_bd hb)
        simp only [Option.getD_some, Option.isSome_some]
        cases hv : setOk ⟨o, l, m⟩
        · have e : Hid (set3 a b c = none) := by unfold Hid set3; rw [HQ.out, hb, hc]; simp only []; rw [hv]; rfl
          rw [hv] at cV
          clear hv hb hc
          go_wp2_with (go_at_call 89; (with_reducible refine (cV _).mono ?_); rintro e w4 ⟨rfl, U4⟩; have hU4 : Up w w4 := (by (repeat (first | with_reducible exact Up.refl _ | with_reducible assumption | with_reducible refine Up.set ?_ (by first | exact Nat.le_refl _ | (simp only []; omega) | (simp; omega)) _ | with_reducible refine Up.alloc ?_ _ | with_reducible refine Up.drew ?_ | refine Up.trans ?_ (by with_reducible assumption)))); have hR4 : SetAt w.heap.size 0 0 0 w4 := box_up U4 (box_other hR3 (p := ⟨w1.heap.size, 2, none⟩) hn1 _); clear U4; obtain ⟨hr4, r0, r1, r2⟩ := hR4.cells; have hg4 := box_free hR4)
          refine bodyPost_ret (v := psV none) (by simp [results, Tryz.results113, go_sem, r0, r1, r2, psV, st0]) rfl ⟨by rw [e.out], ?_⟩
          (repeat (first | with_reducible exact Up.refl _ | with_reducible assumption | with_reducible refine Up.set ?_ (by first | exact Nat.le_refl _ | (simp only []; omega) | (simp; omega)) _ | with_reducible refine Up.alloc ?_ _ | with_reducible refine Up.drew ?_ | refine Up.trans ?_ (by with_reducible assumption)))
        · have e : Hid (set3 a b c = some ⟨o, l, m⟩) := by unfold Hid set3; rw [HQ.out, hb, hc]; simp only []; rw [if_pos hv]
          rw [hv] at cV
          clear hv hb hc
          go_wp2_with (go_at_call 89; (with_reducible refine (cV _).mono ?_); rintro e w4 ⟨rfl, U4⟩; have hU4 : Up w w4 := (by (repeat (first | with_reducible exact Up.refl _ | with_reducible assumption | with_reducible refine Up.set ?_ (by first | exact Nat.le_refl _ | (simp only []; omega) | (simp; omega)) _ | with_reducible refine Up.alloc ?_ _ | with_reducible refine Up.drew ?_ | refine Up.trans ?_ (by with_reducible assumption)))); have hR4 : SetAt w.heap.size 0 0 0 w4 := box_up U4 (box_other hR3 (p := ⟨w1.heap.size, 2, none⟩) hn1 _); have hS4 : SetAt w1.heap.size o l m w4 := box_up U4 (box_set hS3 2 (.int .i64 m)); clear U4; obtain ⟨hr4, r0, r1, r2⟩ := hR4.cells; have hg4 := box_free hR4; obtain ⟨hs4, s0, s1, s2⟩ := hS4.cells)
          refine bodyPost_ret (v := psV (some ⟨o, l, m⟩)) (by simp [results, Tryz.results113, go_sem, r0, r1, r2, psV, st0]) rfl ⟨by rw [e.out], ?_⟩
          (repeat (first | with_reducible exact Up.refl _ | with_reducible assumption | with_reducible refine Up.set ?_ (by first | exact Nat.le_refl _ | (simp only []; omega) | (simp; omega)) _ | with_reducible refine Up.alloc ?_ _ | with_reducible refine Up.drew ?_ | refine Up.trans ?_ (by with_reducible assumption)))
def NoSet (t : List UInt8) (o l m : Int) : Prop := ∀ s : SetD, setOk s = true → (s.ord < o ∨ (s.ord = o ∧ s.lit < l) ∨ (s.ord = o ∧ s.lit = l ∧ s.most < m)) → fmtSet s ≠ t
def RelO (t : List UInt8) (w : World) (o : Value) (wr : World) : Prop := ∃ k : Nat, k ≤ 2 ∧ o = .int .i64 k ∧ NoSet t k 1 1 ∧ SetAt w.heap.size 0 0 0 wr ∧ Up w wr
def RelLt (t : List UInt8) (w : World) (k : Nat) (l : Value) (wr : World) : Prop := ∃ j : Nat, 1 ≤ j ∧ j ≤ 9 ∧ l = .int .i64 j ∧ NoSet t k j 1 ∧ SetAt w.heap.size 0 0 0 wr ∧ Up w wr
def RelMo (t : List UInt8) (w : World) (k j : Nat) (m : Value) (wr : World) : Prop := ∃ i : Nat, 1 ≤ i ∧ i ≤ 11 ∧ m = .int .i64 i ∧ NoSet t k j i ∧ SetAt w.heap.size 0 0 0 wr ∧ Up w wr
theorem NoSet.next {t : List UInt8} {o l m : Int} (h : NoSet t o l m) (hn : setOk ⟨o, l, m⟩ = true → fmtSet ⟨o, l, m⟩ ≠ t) : NoSet t o l (m + 1) := by
  intro s hs hlt
  by_cases e : s.ord = o ∧ s.lit = l ∧ s.most = m
  · obtain ⟨e1, e2, e3⟩ := e
    have : s = ⟨o, l, m⟩ := by rw [← e1, ← e2, ← e3]
    rw [this] at hs ⊢
    exact hn hs
  · exact h s hs (by omega)
theorem NoSet.lit {t : List UInt8} {o l : Int} (h : NoSet t o l 11) : NoSet t o (l + 1) 1 := by
  intro s hs hlt
  obtain ⟨h1, h2, h3, h4, h5⟩ := setOk_small hs
  exact h s hs (by omega)
theorem NoSet.ord {t : List UInt8} {o : Int} (h : NoSet t o 9 1) : NoSet t (o + 1) 1 1 := by
  intro s hs hlt
  obtain ⟨h1, h2, h3, h4, h5⟩ := setOk_small hs
  exact h s hs (by omega)
theorem NoSet.end {t : List UInt8} (h : NoSet t 2 1 1) : prsSet t = none := by
  cases hp : prsSet t with
  | none => rfl
  | some s =>
    obtain ⟨h1, h2⟩ := fmtSet_prs hp
    obtain ⟨h3, -⟩ := setOk_small h2
    exact absurd h1 (h s h2 (by omega))
theorem noSet_zero (t : List UInt8) : NoSet t 0 1 1 := by
  intro s hs hlt
  obtain ⟨h1, h2, h3, h4, h5⟩ := setOk_small hs
  omega
set_option maxRecDepth 100000 in
set_option maxHeartbeats 8000000 in
theorem psS_any (t : List UInt8) (w : World) :
    Calls Tryz.prog 121  #[.string (bs t)] w (Same (psV (prsSet t)) w) := by
  have zT := bs_size t
  go_enter Tryz.func121, Tryz.ntmps121
  go_wp2
  go_loopw [4, 7] (fun o _ wr => RelO t w o wr) (fun o _ _ => 2 - (intOf o).toNat)
  case atStart => exact ⟨0, by omega, rfl, noSet_zero t, (MapKept.heap_alloc w _).1, (Up.refl _).alloc _⟩
  case round =>
    obtain ⟨k, hk, rfl, hno, hR, hup⟩ := hrel
    by_cases hlt : k < 2
    · have HUP := Lib.hid hup
      have HNO := Lib.hid hno
      have hd1 : decide ((k : Int) ≤ 1) = true := decide_eq_true (by omega)
      clear hup hno
      go_wp2
      go_loopw [5, 7] (fun l _ wr => RelLt t w k l wr) (fun l _ _ => 9 - (intOf l).toNat)
      case atStart => exact ⟨1, Nat.le_refl _, by omega, rfl, HNO.out, hR, HUP.out⟩
      case round =>
        clear hR HUP HNO
        obtain ⟨j, hj1, hj, rfl, hno, hR, hup⟩ := hrel
        have HUP := Lib.hid hup
        have HNO := Lib.hid hno
        clear hup hno
        by_cases hlt2 : j < 9
        · have hd2 : decide ((j : Int) ≤ 8) = true := decide_eq_true (by omega)
          go_wp2
          go_loopw [6, 7] (fun m _ wr => RelMo t w k j m wr) (fun m _ _ => 11 - (intOf m).toNat)
          case atStart => exact ⟨1, Nat.le_refl _, by omega, rfl, HNO.out, hR, HUP.out⟩
          case round =>
            clear hR HUP HNO
            obtain ⟨i, hi1, hi, rfl, hno, hR, hup⟩ := hrel
            have HUP := Lib.hid hup
            have HNO := Lib.hid hno
            clear hup hno
            by_cases hlt3 : i < 11
            · have hup := HUP.out
              have cV := fun wx => setS_any (k : Int) (j : Int) (i : Int) wx
              have cF := fun wx => fsetS_any ⟨(k : Int), (j : Int), (i : Int)⟩ wx
              simp only [setV] at cF
              cases hv : setOk ⟨(k : Int), (j : Int), (i : Int)⟩
              · have HNX : Hid (NoSet t k j ((i : Int) + 1)) := HNO.out.next (fun h => by rw [hv] at h; cases h)
                rw [hv] at cV
                clear hv cF
                go_wp2_with ((go_at_call 103; (with_reducible refine (cV _).mono ?_); rintro e w1 ⟨rfl, U1⟩; have B1 := bcell U1; have Z1 := U1.size; (try simp at Z1); (try rw [Nat.add_one_le_iff] at Z1)))
                have hR1 : SetAt w.heap.size 0 0 0 w1 := box_up U1 (box_up ((Up.refl _).alloc _) hR)
                go_roundw
                case rel => exact ⟨i + 1, by omega, by omega, by go_num, HNX.out, hR1, by (repeat (first | with_reducible exact Up.refl _ | with_reducible assumption | with_reducible refine Up.set ?_ (by first | exact Nat.le_refl _ | (simp only []; omega) | (simp; omega)) _ | with_reducible refine Up.alloc ?_ _ | with_reducible refine Up.drew ?_ | refine Up.trans ?_ (by with_reducible assumption)))⟩
                case measure => simp [intOf]; omega
              · have HV := Lib.hid hv
                have hle := fmtSet_le ⟨(k : Int), (j : Int), (i : Int)⟩
                have hsz := bs_size (fmtSet ⟨(k : Int), (j : Int), (i : Int)⟩)
                rw [hv] at cV
                clear hv
                by_cases hq : fmtSet ⟨(k : Int), (j : Int), (i : Int)⟩ = t
                · have e : Hid (prsSet t = some ⟨(k : Int), (j : Int), (i : Int)⟩) := by unfold Hid; rw [← hq]; exact prsSet_fmt HV.out
                  have hE := bs_eq hq
                  generalize fmtSet ⟨(k : Int), (j : Int), (i : Int)⟩ = F at *
                  clear hq
                  go_wp2_with (first | ((go_at_call 103; (with_reducible refine (cV _).mono ?_); rintro e w1 ⟨rfl, U1⟩; have B1 := bcell U1; have Z1 := U1.size; (try simp at Z1); (try rw [Nat.add_one_le_iff] at Z1)); have hR1 : SetAt w.heap.size 0 0 0 w1 := box_up U1 (box_up ((Up.refl _).alloc _) hR)) | ((go_at_call 119; (with_reducible refine (cF _).mono ?_); rintro e w2 ⟨rfl, U2⟩; have B2 := bcell U2; have Z2 := U2.size; (try simp at Z2); (try rw [Nat.add_one_le_iff] at Z2)); have hR2 := box_up U2 hR1; obtain ⟨hb1, q0, q1, q2⟩ := SetAt.cells hR2; have hf1 := box_free hR2))
                  refine bodyPost_ret (v := psV (some ⟨(k : Int), (j : Int), (i : Int)⟩)) (by simp [results, Tryz.results121, go_sem, q0, q1, q2, psV, st0]) rfl ⟨by rw [e.out], ?_⟩
                  (repeat (first | with_reducible exact Up.refl _ | with_reducible assumption | with_reducible refine Up.set ?_ (by first | exact Nat.le_refl _ | (simp only []; omega) | (simp; omega)) _ | with_reducible refine Up.alloc ?_ _ | with_reducible refine Up.drew ?_ | refine Up.trans ?_ (by with_reducible assumption)))
                · have HNX : Hid (NoSet t k j ((i : Int) + 1)) := HNO.out.next (fun _ => hq)
                  have hE := bs_dif hq
                  generalize fmtSet ⟨(k : Int), (j : Int), (i : Int)⟩ = F at *
                  clear hq
                  go_wp2_with (first | ((go_at_call 103; (with_reducible refine (cV _).mono ?_); rintro e w1 ⟨rfl, U1⟩; have B1 := bcell U1; have Z1 := U1.size; (try simp at Z1); (try rw [Nat.add_one_le_iff] at Z1)); have hR1 : SetAt w.heap.size 0 0 0 w1 := box_up U1 (box_up ((Up.refl _).alloc _) hR)) | ((go_at_call 119; (with_reducible refine (cF _).mono ?_); rintro e w2 ⟨rfl, U2⟩; have B2 := bcell U2; have Z2 := U2.size; (try simp at Z2); (try rw [Nat.add_one_le_iff] at Z2)); have hR2 := box_up U2 hR1))
                  go_roundw
                  case rel => exact ⟨i + 1, by omega, by omega, by go_num, HNX.out, hR2, by (repeat (first | with_reducible exact Up.refl _ | with_reducible assumption | with_reducible refine Up.set ?_ (by first | exact Nat.le_refl _ | (simp only []; omega) | (simp; omega)) _ | with_reducible refine Up.alloc ?_ _ | with_reducible refine Up.drew ?_ | refine Up.trans ?_ (by with_reducible assumption)))⟩
                  case measure => simp [intOf]; omega
            · have hi11 : i = 11 := by omega
              subst hi11
              go_wp2
              go_roundw
              case rel => exact ⟨j + 1, by omega, by omega, by go_num, HNO.out.lit, hR, HUP.out⟩
              case measure => simp [intOf]; omega
        · have hj9 : j = 9 := by omega
          subst hj9
          go_wp2
          go_roundw
          case rel => exact ⟨k + 1, by omega, by go_num, HNO.out.ord, hR, HUP.out⟩
          case measure => simp [intOf]; omega
    · have hk2 : k = 2 := by omega
      subst hk2
      have e : Hid (prsSet t = none) := NoSet.end hno
      obtain ⟨hb1, q0, q1, q2⟩ := hR.cells
      have hf1 := box_free hR
      go_wp2
      refine bodyPost_ret (v := psV none) (by simp [results, Tryz.results121, go_sem, q0, q1, q2, psV, st0]) rfl ⟨by rw [e.out], ?_⟩
      (repeat (first | with_reducible exact Up.refl _ | with_reducible assumption | with_reducible refine Up.set ?_ (by first | exact Nat.le_refl _ | (simp only []; omega) | (simp; omega)) _ | with_reducible refine Up.alloc ?_ _ | with_reducible refine Up.drew ?_ | refine Up.trans ?_ (by with_reducible assumption)))
end Go.Proofs.YtekogcjdaolcbaaGreatDoor

/- The reference's ParseKnown. Conditions: fewer than 2^20 bytes. -/
namespace Go.Proofs.YtekogcjdaolcbaaGreatDoor
open Go Go.RowKit
def knZ : KnD := ⟨st0, [], 0, 0⟩
def PkPost (o : Option KnD) (w : World) (e : Ending) (w' : World) : Prop := ∃ v, e = .returned (.tuple #[kV (o.getD knZ) v, .bool o.isSome]) ∧ ownPr w' w.heap.size v (o.getD knZ).ps ∧ Up w w'
theorem prsK_len4 {t : List UInt8} (h : (splL 59 t).length ≠ 4) : prsK t = none := by
  unfold prsK
  split
  · rename_i a b c d e; rw [e] at h; exact absurd rfl h
  · rfl
theorem prsK_4 {t a b c d : List UInt8} (h : splL 59 t = [a, b, c, d]) : prsK t = kn4 a b c d := by unfold prsK; rw [h]
theorem lenK_4 {t a b c d : List UInt8} (h : splL 59 t = [a, b, c, d]) : lenK t = some ⟨(prsSet a).getD st0, lenP d, (numR b).getD 0, (numR c).getD 0⟩ := by unfold lenK; rw [h]; rfl
theorem lenP_dash : lenP [45] = [] := rfl
theorem lenP_cut {d : List UInt8} (h : d ≠ [45]) : lenP d = (splL 44 d).map prR := by unfold lenP; rw [if_neg h]
def RelPkn (ys : List (List UInt8)) (vp : Value) (s : SetD) (ba la : Int) (kb : Nat) (w : World) (i : Value) (wr : World) : Prop := ∃ (j : Nat) (v : Value) (ps : List PairD), j ≤ ys.length ∧ i = .int .i64 j ∧ ps = (ys.take j).map prR ∧ KnAt kb ⟨s, ps, ba, la⟩ v wr ∧ ownPr wr w.heap.size v ps ∧ ownS wr w.heap.size vp (ys.map bs) ∧ KnAt w.heap.size knZ (.slice none 0 0) wr ∧ Up w wr
set_option maxRecDepth 100000 in
set_option maxHeartbeats 8000000 in
theorem pkS_any (t : List UInt8) (w : World) (ht : t.length ≤ 1048576) :
    Calls Tryz.prog 69  #[.string (bs t)] w (PkPost (prsK t) w) := by
  unfold PkPost
  have zT := bs_size t
  have cS := fun wx => l9Cut_n t 59 59 rfl wx ht
  have hxp := splL_piece_le 59 t
  obtain ⟨xs, hxs⟩ : ∃ xs, xs = splL 59 t := ⟨_, rfl⟩
  rw [← hxs] at cS hxp
  by_cases h4 : xs.length = 4
  case' neg =>
    have e : Hid (prsK t = none) := prsK_len4 (by rw [← hxs]; exact h4)
    have hB4 : ((xs.length : Int) == 4) = false := by rw [beq_eq_false_iff_ne]; omega
    rw [e.out]
    clear hxs hxp
    go_enter Tryz.func69, Tryz.ntmps69
    go_wp2_with fail
    (with_reducible refine (cS _).mono ?_); rintro e w1 ⟨vp, rfl, ho, U1⟩
    obtain ⟨av, cv, rfl⟩ := ownsRow_shape ho
    simp only [List.length_map] at ho ⊢
    have hR1 : KnAt w.heap.size knZ (.slice none 0 0) w1 := box_up U1 (MapKept.heap_alloc w _).1
    have hU1 : Up w w1 := by (repeat (first | with_reducible exact Up.refl _ | with_reducible assumption | with_reducible refine Up.set ?_ (by first | exact Nat.le_refl _ | (simp only []; omega) | (simp; omega)) _ | with_reducible refine Up.alloc ?_ _ | with_reducible refine Up.drew ?_ | refine Up.trans ?_ (by with_reducible assumption)))
    obtain ⟨hb1, q0, q1, q2, q3, q4, q5⟩ := hR1.cells
    have hf1 := box_free hR1
    simp only [knZ, st0] at q0 q1 q2 q3 q4 q5
    clear U1 cS
    go_wp2
    refine bodyPost_ret (v := .tuple #[kV knZ (.slice none 0 0), .bool false]) (by simp [results, Tryz.results69, go_sem, q0, q1, q2, q3, q4, q5, knZ, st0]) rfl ⟨_, rfl, World.ownsRow_nil _ _ _ _, ?_⟩
    (repeat (first | with_reducible exact Up.refl _ | with_reducible assumption | with_reducible refine Up.set ?_ (by first | exact Nat.le_refl _ | (simp only []; omega) | (simp; omega)) _ | with_reducible refine Up.alloc ?_ _ | with_reducible refine Up.drew ?_ | refine Up.trans ?_ (by with_reducible assumption)))
  obtain ⟨a, b, c, d, hx⟩ := len4 h4
  rw [hx] at cS hxp hxs
  have hal := hxp a (by simp)
  have hbl := hxp b (by simp)
  have hcl := hxp c (by simp)
  have hdl := hxp d (by simp)
  have HLK := Lib.hid (lenK_4 hxs.symm)
  have HPK := Lib.hid (prsK_len t)
  have cA := fun wx => psS_any a wx
  have cB := fun wx => l9Num_any b wx (by omega)
  have cC := fun wx => l9Num_any c wx (by omega)
  have cD := fun wx => l9Cut_n d 44 44 rfl wx (by omega)
  clear hxp hxs h4 hx xs
  obtain ⟨s, hs⟩ : ∃ s, s = (prsSet a).getD st0 := ⟨_, rfl⟩
  obtain ⟨ba, hba⟩ : ∃ ba, ba = (numR b).getD 0 := ⟨_, rfl⟩
  obtain ⟨la, hla⟩ : ∃ la, la = (numR c).getD 0 := ⟨_, rfl⟩
  unfold psV at cA
  rw [← hs] at cA HLK
  rw [← hba] at cB HLK
  rw [← hla] at cC HLK
  clear hs hba hla
  generalize (prsSet a).isSome = bA at *
  generalize (numR b).isSome = bB at *
  generalize (numR c).isSome = bC at *
  simp only [setV] at cA
  go_enter Tryz.func69, Tryz.ntmps69
  go_wp2_with fail
  (with_reducible refine (cS _).mono ?_); rintro e w1 ⟨vp, rfl, ho, U1⟩
  obtain ⟨av, cv, rfl⟩ := ownsRow_shape ho
  simp only [List.length_map, List.length_cons, List.length_nil, Nat.zero_add] at ho ⊢
  have hR1 : KnAt w.heap.size knZ (.slice none 0 0) w1 := box_up U1 (MapKept.heap_alloc w _).1
  have hU1 : Up w w1 := by (repeat (first | with_reducible exact Up.refl _ | with_reducible assumption | with_reducible refine Up.set ?_ (by first | exact Nat.le_refl _ | (simp only []; omega) | (simp; omega)) _ | with_reducible refine Up.alloc ?_ _ | with_reducible refine Up.drew ?_ | refine Up.trans ?_ (by with_reducible assumption)))
  obtain ⟨g, rfl, hg, -, hcc1, hcc2, c0⟩ := own_strs ho (k := 0) (by simp)
  have c1 := own_strC ho (k := 1) (by simp)
  have c2 := own_strC ho (k := 2) (by simp)
  have c3 := own_strC ho (k := 3) (by simp)
  simp only [List.getElem_cons_zero, List.getElem_cons_succ] at c0 c1 c2 c3
  clear U1 cS
  go_wp2_with fail
  (with_reducible refine (cA _).mono ?_); rintro e w2 ⟨rfl, U2⟩
  have d1 := (U2.cell (p := ⟨g, 1, none⟩) hg).trans c1
  have d2 := (U2.cell (p := ⟨g, 2, none⟩) hg).trans c2
  have d3 := (U2.cell (p := ⟨g, 3, none⟩) hg).trans c3
  have hg2 := Nat.lt_of_lt_of_le hg U2.size
  have hR2 : KnAt w.heap.size knZ (.slice none 0 0) w2 := box_up U2 hR1
  have hU2 := hU1.trans U2
  clear c0 c1 c2 c3 hR1 hU1 U2 ho
  go_wp2_with fail
  (with_reducible refine (cB _).mono ?_); rintro e w3 ⟨rfl, rfl⟩
  go_wp2_with fail
  (with_reducible refine (cC _).mono ?_); rintro e w3 ⟨rfl, rfl⟩
  obtain ⟨W, hW⟩ : ∃ W, Hid (W = (w2.alloc (.cells #[.int .i64 s.ord, .int .i64 s.lit, .int .i64 s.most] 24)).alloc (.cells #[.int .i64 s.ord, .int .i64 s.lit, .int .i64 s.most, .slice none 0 0, .int .i64 ba, .int .i64 la] 27)) := ⟨_, rfl⟩
  have HWU : Hid (Up w2 W) := by rw [hW.out]; exact ((Up.refl _).alloc _).alloc _
  have HK : Hid (KnAt (w2.heap.size + 1) ⟨s, [], ba, la⟩ (.slice none 0 0) W) := by rw [hW.out, ← size_alloc w2 (.cells #[.int .i64 s.ord, .int .i64 s.lit, .int .i64 s.most] 24)]; exact (MapKept.heap_alloc _ _).1
  by_cases hd : d = [45]
  · have hb1 := bl_eq hd
    obtain ⟨ps, hps⟩ : ∃ ps : List PairD, ps = [] := ⟨_, rfl⟩
    have HLP : Hid (lenK t = some ⟨s, ps, ba, la⟩) := by unfold Hid; rw [HLK.out, hd, lenP_dash, hps]
    clear hd cD
    go_wp2_with fail
    rw [← hW.out]
    have hK : KnAt (w2.heap.size + 1) ⟨s, ps, ba, la⟩ (.slice none 0 0) W := by rw [hps]; exact HK.out
    have hR := hR2.up HWU.out
    have hO : ownPr W w.heap.size (.slice none 0 0) ps := by rw [hps]; exact World.ownsRow_nil _ _ _ _
    have hU := hU2.trans HWU.out
    have hpl : ps.length ≤ 1073741824 := by rw [hps]; exact Nat.zero_le _
    clear hps d1 d2 d3 HK hR2 hU2 hW HWU
    (with_reducible refine (fkS_any ⟨s, ps, ba, la⟩ (.slice none 0 0) 0 _ ((RdP.of_own hO).low (Nat.zero_le _)) hpl).mono ?_); rintro e w5 ⟨rfl, U5⟩
    have hK5 := hK.up U5
    have hR5 := hR.up U5
    have hO5 := ownsRow_up hO U5
    have hU5 := hU.trans U5
    clear U5 hK hR hO hU
    obtain ⟨hb5, r0, r1, r2, r3, r4, r5⟩ := hK5.cells
    obtain ⟨hb6, q0, q1, q2, q3, q4, q5⟩ := hR5.cells
    simp only [knZ, st0] at q0 q1 q2 q3 q4 q5
    have hf6 := box_free hR5
    by_cases hq : fmtK ⟨s, ps, ba, la⟩ = t
    · have e : Hid (prsK t = some ⟨s, ps, ba, la⟩) := by unfold Hid; rw [HPK.out, HLP.out]; simp only []; rw [if_pos hq]
      have hE := bs_eq hq
      generalize fmtK ⟨s, ps, ba, la⟩ = F at *
      have HB := Lib.hid (box_ne hR5 hO5 (by decide))
      clear hq HPK HLP HLK
      go_wp2
      refine bodyPost_ret (v := .tuple #[kV ⟨s, ps, ba, la⟩ ((.slice none 0 0)), .bool true]) (by simp [results, Tryz.results69, go_sem, q0, q1, q2, q3, q4, q5]) rfl ⟨(.slice none 0 0), by rw [e.out]; rfl, ?_, ?_⟩
      · rw [e.out]
        exact KnW.own hO5 HB.out ⟨s, ps, ba, la⟩ ((.slice none 0 0))
      · exact KnW.up hU5 (Nat.le_refl _) ⟨s, ps, ba, la⟩ ((.slice none 0 0))
    · have e : Hid (prsK t = none) := by unfold Hid; rw [HPK.out, HLP.out]; simp only []; rw [if_neg hq]
      have hE := bs_dif hq
      generalize fmtK ⟨s, ps, ba, la⟩ = F at *
      clear hq HPK HLP HLK
      go_wp2
      refine bodyPost_ret (v := .tuple #[kV knZ (.slice none 0 0), .bool false]) (by simp [results, Tryz.results69, go_sem, q0, q1, q2, q3, q4, q5, knZ, st0]) rfl ⟨_, by rw [e.out]; rfl, by rw [e.out]; exact World.ownsRow_nil _ _ _ _, ?_⟩
      (repeat (first | with_reducible exact Up.refl _ | with_reducible assumption | with_reducible refine Up.set ?_ (by first | exact Nat.le_refl _ | (simp only []; omega) | (simp; omega)) _ | with_reducible refine Up.alloc ?_ _ | with_reducible refine Up.drew ?_ | refine Up.trans ?_ (by with_reducible assumption)))
  · have hb1 := bl_ne hd
    have hyp := splL_piece_le 44 d
    have hyl := splL_length_le 44 d
    obtain ⟨ys, hys⟩ : ∃ ys, ys = splL 44 d := ⟨_, rfl⟩
    rw [← hys] at hyp hyl cD
    have HLY : Hid (lenK t = some ⟨s, ys.map prR, ba, la⟩) := by unfold Hid; rw [HLK.out, lenP_cut hd, hys]
    have d3' := (HWU.out.cell (p := ⟨g, 3, none⟩) hg2).trans d3
    obtain ⟨i0, hi, hz0, hz1, hz2⟩ := info_parts infoPair
    clear hd hys HLK
    go_wp2_with fail
    rw [← hW.out]
    have hR := hR2.up HWU.out
    have hU := hU2.trans HWU.out
    (with_reducible refine (cD _).mono ?_); rintro e w4 ⟨vy, rfl, ho4, U4⟩
    obtain ⟨ay, cy, rfl⟩ := ownsRow_shape ho4
    simp only [List.length_map] at ho4 ⊢
    have hK4 := HK.out.up U4
    have hR4 := hR.up U4
    have hU4 := hU.trans U4
    have ho4 := ownsRow_base ho4 hU.size
    have hne : ¬ w2.heap.size + 1 = w.heap.size := by have := hU2.size; omega
    have hwk : w.heap.size ≤ w2.heap.size + 1 := by have := hU2.size; omega
    clear d1 d2 d3 d3' HK hR2 hU2 hW HWU U4 hR hU
    generalize w2.heap.size + 1 = kb at *
    go_wp2
    go_loopw [13] (fun i wr => RelPkn ys (.slice ay ys.length cy) s ba la kb w i wr) (fun i _ => ys.length - (intOf i).toNat)
    case atStart => exact ⟨0, _, [], Nat.zero_le _, rfl, rfl, hK4, World.ownsRow_nil _ _ _ _, ho4, hR4, hU4⟩
    case round =>
      clear hK4 hR4 hU4 ho4
      obtain ⟨j, v, ps, hj, rfl, hps, hK, hO, ho, hR, hU⟩ := hrel
      obtain ⟨a', c', rfl⟩ := ownsRow_shape hO
      have hpj : ps.length = j := by rw [hps, List.length_map, List.length_take]; omega
      have HPS := Lib.hid hps
      have hpl : ps.length ≤ 1073741824 := by omega
      have HPJ := Lib.hid hpj
      clear hps hpj
      by_cases hlt : j < ys.length
      · obtain ⟨g, rfl, hgy, -, hy1, hy2, -⟩ := own_strs ho hlt
        have hyj : (ys[j]).length ≤ t.length := by have := hyp _ (List.getElem_mem hlt); omega
        have cP := fun wx => l3Pair_any ys[j] wx (by omega)
        have HN : Hid (ps ++ [prR ys[j]] = (ys.take (j + 1)).map prR) := by unfold Hid; rw [HPS.out, List.take_succ_eq_append_getElem hlt, List.map_append]; rfl
        have HKO := Lib.hid hK
        have HOO := Lib.hid hO
        have HRO := Lib.hid hR
        have HYO := Lib.hid ho
        have HUO := Lib.hid hU
        have HN1 := Lib.hid (box_ne hK hO (by decide))
        have HN2 := Lib.hid (rowsX_ne ho hO (by decide))
        have HN3 := Lib.hid (box_ne hR hO (by decide))
        have HN4 := Lib.hid (box_ne hK ho (by decide))
        have HRW : Hid (∀ y, Value.ownBlock (.slice a' ps.length c') = some y → w.heap.size ≤ y) := fun y hy => (HOO.out.lt y hy).1
        obtain ⟨hb0, r0, r1, r2, r3, r4, r5⟩ := hK.cells
        have hwz := hU.size
        have hpl2 : ps.length ≤ 1048577 := by have := HPJ.out; omega
        generalize prR ys[j] = p at *
        clear hK hO hR ho hU
        go_wp2
        refine wp_region_own 10 8 (Value.ownBlock (.slice a' ps.length c')) (by kernel_rfl) (by kernel_rfl) ?_
        simp only [List.take, List.drop]
        repeat (refine wpG_step (fun K hK => ?_); go_simp; (try simp only [↓IntWalk.iteOmega]); first
          | (refine hK _ _ ?_; clear hK K)
          | (refine stepG_own (by rfl) (by kernel_rfl) ((fun v w' => w'.ownsRow w.heap.size 133 2 v (ps.length + 1) (cellsPr ps ++ prC p))) ((fun v w w' h hu => ownsRow_up h hu)) (fun wq hwq => ?_) ?_
             · ((repeat (first | refine fills_no (by rfl) ?_ | refine fills_yes (by rfl) (fun vq hvq => ?_))); simp only [List.filter_nil, fills]; (obtain ⟨bq, eqb, nb, hcb⟩ := hvq; exact gAt_append (.tmp 60) (.tmp 66) 25 (by rfl) w.heap.size 133 i0 (.agg #[.int .i64 0, .int .i64 0]) 2 16 Tryz.underlying25 hi hz0 hz1 hz2 rfl (by decide) (.slice a' ps.length c') ps.length (cellsPr ps) (by rfl) (ownsRow_up HOO.out hwq) ⟨bq, 0, none⟩ 1 1 (prC p) (by exact eqb) rfl (newP_cells hcb) (prC_one _) (by unfold maxLen; omega) (by omega) (by have := hwq.size; omega) _ rfl))
             refine hK _ _ ?_; clear hK K)
          | (refine stepG_c (by rfl) ?_ ?_ ?_
             rotate_left
             · intro wq hwq; (have hbq := gcell hwq; (repeat (first | refine fills_no (by rfl) ?_ | refine fills_yes (by rfl) (fun vq hvq => ?_))); simp only [List.filter_nil, fills]; unfold upAt; (try ((obtain ⟨-, r0, r1, r2, r3, r4, r5⟩ := KnAt.cells (HKO.out.gr hwq HN1.out); have x0 := own_strC (World.ownsRow.kept HYO.out hwq HN2.out) hlt))); go_simp; (try go_bits); (try simp only [↓IntWalk.iteOmega]); (try (rw [dif_pos (by omega)]; go_simp; try go_bits)); first | exact upOut_value | (apply upOut_call; (go_at_call 123; with_reducible exact cP _)) | (apply upOut_eq; (go_at_call 123; with_reducible exact cP _)))
             go_simp; refine hK _ _ ?_; clear hK K)
          | (refine stepG_m (by rfl) (by kernel_rfl) (NewP (Value.ownBlock (.slice a' ps.length c')) p) (newP_closed) (fun wq hwq => ?_) ?_
             · (have hbq := gcell hwq; (repeat (first | refine fills_no (by rfl) ?_ | refine fills_yes (by rfl) (fun vq hvq => ?_))); simp only [List.filter_nil, fills]; unfold upAt; (try ((obtain ⟨-, r0, r1, r2, r3, r4, r5⟩ := KnAt.cells (HKO.out.gr hwq HN1.out); have x0 := own_strC (World.ownsRow.kept HYO.out hwq HN2.out) hlt))); go_simp; (try go_bits); (try simp only [↓IntWalk.iteOmega]); (try (rw [dif_pos (by omega)]; go_simp; try go_bits)); exact upOut_make ((Up.refl _).alloc _) ⟨_, rfl, own_ne HOO.out hwq.size, (MapKept.heap_alloc _ _).1⟩)
             refine hK _ _ ?_; clear hK K))
        refine wpG_nil (by rfl) (fun wq hwq => ?_)
        simp only [fills]
        rintro v11 h11 v10 -
        obtain ⟨a3, c3, rfl⟩ := ownsRow_shape h11
        have hKp := HKO.out.gr hwq HN1.out
        have hRp := HRO.out.gr hwq HN3.out
        have hYp := World.ownsRow.kept HYO.out hwq HN2.out
        have hUp : Up w wq := Up.grown HUO.out hwq HRW.out
        have HZ := Lib.hid (And.intro hKp (And.intro hRp (And.intro hYp (And.intro hUp h11))))
        have HNB := Lib.hid (box_ne hKp h11 (by decide))
        obtain ⟨hpz, r0, r1, r2, r3, r4, r5⟩ := KnAt.cells hKp
        have hfp := box_free hKp
        clear hKp hRp hYp hUp h11 hwq
        go_wp2
        go_roundw
        case rel =>
          obtain ⟨z1, z2, z3, z4, z5⟩ := HZ.out
          refine ⟨j + 1, .slice a3 (ps.length + 1) c3, ps ++ [p], by omega, by go_num, HN.out, box_set z1 3 (.slice a3 (ps.length + 1) c3), ?_, ownsRow_setb z3 HN4.out _ _, box_other z2 (p := ⟨kb, 3, none⟩) (fun h => hne h.symm) _, z4.set (p := ⟨kb, 3, none⟩) hwk _⟩
          unfold ownPr
          rw [cellsPr_snoc, List.length_append]
          exact ownsRow_setb z5 HNB.out _ _
        case measure => simp [intOf]; omega
      · have hjl : j = ys.length := by omega
        have HLP : Hid (lenK t = some ⟨s, ps, ba, la⟩) := by unfold Hid; rw [HLY.out, HPS.out, hjl, List.take_length]
        have HLK := HLP
        obtain ⟨hb0, r0, r1, r2, r3, r4, r5⟩ := hK.cells
        clear hjl cD
        go_wp2_with fail
        clear hb0 r0 r1 r2 r3 r4 r5
        (with_reducible refine (fkS_any ⟨s, ps, ba, la⟩ (.slice a' ps.length c') 0 _ ((RdP.of_own hO).low (Nat.zero_le _)) hpl).mono ?_); rintro e w5 ⟨rfl, U5⟩
        have hK5 := hK.up U5
        have hR5 := hR.up U5
        have hO5 := ownsRow_up hO U5
        have hU5 := hU.trans U5
        clear U5 hK hR hO hU
        obtain ⟨hb5, r0, r1, r2, r3, r4, r5⟩ := hK5.cells
        obtain ⟨hb6, q0, q1, q2, q3, q4, q5⟩ := hR5.cells
        simp only [knZ, st0] at q0 q1 q2 q3 q4 q5
        have hf6 := box_free hR5
        by_cases hq : fmtK ⟨s, ps, ba, la⟩ = t
        · have e : Hid (prsK t = some ⟨s, ps, ba, la⟩) := by unfold Hid; rw [HPK.out, HLP.out]; simp only []; rw [if_pos hq]
          have hE := bs_eq hq
          generalize fmtK ⟨s, ps, ba, la⟩ = F at *
          have HB := Lib.hid (box_ne hR5 hO5 (by decide))
          clear hq HPK HLP HLK
          go_wp2
          refine bodyPost_ret (v := .tuple #[kV ⟨s, ps, ba, la⟩ ((.slice a' ps.length c')), .bool true]) (by simp [results, Tryz.results69, go_sem, q0, q1, q2, q3, q4, q5]) rfl ⟨(.slice a' ps.length c'), by rw [e.out]; rfl, ?_, ?_⟩
          · rw [e.out]
            exact KnW.own hO5 HB.out ⟨s, ps, ba, la⟩ ((.slice a' ps.length c'))
          · exact KnW.up hU5 (Nat.le_refl _) ⟨s, ps, ba, la⟩ ((.slice a' ps.length c'))
        · have e : Hid (prsK t = none) := by unfold Hid; rw [HPK.out, HLP.out]; simp only []; rw [if_neg hq]
          have hE := bs_dif hq
          generalize fmtK ⟨s, ps, ba, la⟩ = F at *
          clear hq HPK HLP HLK
          go_wp2
          refine bodyPost_ret (v := .tuple #[kV knZ (.slice none 0 0), .bool false]) (by simp [results, Tryz.results69, go_sem, q0, q1, q2, q3, q4, q5, knZ, st0]) rfl ⟨_, by rw [e.out]; rfl, by rw [e.out]; exact World.ownsRow_nil _ _ _ _, ?_⟩
          (repeat (first | with_reducible exact Up.refl _ | with_reducible assumption | with_reducible refine Up.set ?_ (by first | exact Nat.le_refl _ | (simp only []; omega) | (simp; omega)) _ | with_reducible refine Up.alloc ?_ _ | with_reducible refine Up.drew ?_ | refine Up.trans ?_ (by with_reducible assumption)))
end Go.Proofs.YtekogcjdaolcbaaGreatDoor

/- ParseHex of both sides. Conditions: fewer than 2^20 bytes. -/
namespace Go.Proofs.YtekogcjdaolcbaaGreatDoor
open Go Go.RowKit
def hexs : List UInt8 := [48, 49, 50, 51, 52, 53, 54, 55, 56, 57, 97, 98, 99, 100, 101, 102]
def hexI (c : UInt8) : Int := match hexV c with
  | some n => (n : Int)
  | none => -1
set_option maxRecDepth 100000 in
theorem findHex (c : UInt8) : findL hexs c = hexI c := by
  have : ∀ m : Fin 256, findL hexs (UInt8.ofNat m.1) = hexI (UInt8.ofNat m.1) := by decide +kernel
  have h := this ⟨c.toNat, c.toNat_lt⟩
  simpa using h
set_option maxRecDepth 100000 in
theorem indexHex (c : UInt8) : Lib.indexByte hexs c = hexI c := by
  have : ∀ m : Fin 256, Lib.indexByte hexs (UInt8.ofNat m.1) = hexI (UInt8.ofNat m.1) := by decide +kernel
  have h := this ⟨c.toNat, c.toNat_lt⟩
  simpa using h
theorem hexI_yes {c : UInt8} {n : Nat} (h : hexV c = some n) : hexI c = n := by unfold hexI; rw [h]
theorem hexI_no {c : UInt8} (h : hexV c = none) : hexI c = -1 := by unfold hexI; rw [h]
theorem findHex_any (c : UInt8) (w : World) : Calls Tryz.prog 124  #[.string ⟨#[48, 49, 50, 51, 52, 53, 54, 55, 56, 57, 97, 98, 99, 100, 101, 102]⟩, .int .u8 c.toNat] w (fun e w' => e = .returned (.int .i64 (hexI c)) ∧ w = w') := by
  rw [← findHex]
  exact l9Find_any ⟨#[48, 49, 50, 51, 52, 53, 54, 55, 56, 57, 97, 98, 99, 100, 101, 102]⟩ c w (by decide)
theorem indexHex_any (c : UInt8) (w : World) : Calls Tryz.prog 115 #[.string ⟨#[48, 49, 50, 51, 52, 53, 54, 55, 56, 57, 97, 98, 99, 100, 101, 102]⟩, .int .u8 c.toNat] w (fun e w' => e = .returned (.int .i64 (hexI c)) ∧ w = w') := by
  refine (Tryz.strings_IndexByte ⟨#[48, 49, 50, 51, 52, 53, 54, 55, 56, 57, 97, 98, 99, 100, 101, 102]⟩ (c.toNat : Int) w).mono fun e w' ⟨he, hw⟩ => ⟨?_, hw.symm⟩
  rw [he, ← indexHex]
  simp [hexs]
theorem drop_two {t : List UInt8} {k : Nat} (h : k + 1 < t.length) : t.drop k = t[k] :: t[k + 1] :: t.drop (k + 2) := by
  rw [List.drop_eq_getElem_cons (by omega), List.drop_eq_getElem_cons (i := k + 1) (by omega)]
theorem unhex_two (a b : UInt8) (r : List UInt8) : unhex (a :: b :: r) = match hexV a, hexV b with
    | some x, some y => (unhex r).map (UInt8.ofNat (16 * x + y) :: ·)
    | _, _ => none := by rw [unhex]; try (cases hexV a <;> cases hexV b <;> rfl)
theorem unhex_odd : ∀ {t : List UInt8}, t.length % 2 ≠ 0 → unhex t = none
  | [], h => by simp at h
  | [_], _ => rfl
  | a :: b :: r, h => by
    rw [unhex_two, unhex_odd (t := r) (by simp at h; omega)]
    cases hexV a <;> cases hexV b <;> rfl
theorem cellsU_add (acc : List UInt8) {x y : Nat} (hx : x < 16) (hy : y < 16) : cellsU (acc ++ [UInt8.ofNat (16 * x + y)]) = cellsU acc ++ [.int .u8 (16 * (x : Int) + y)] := by
  have : (UInt8.ofNat (16 * x + y)).toNat = 16 * x + y := by rw [UInt8.toNat_ofNat']; omega
  simp [cellsU, this]
  omega
theorem or_hex {x y : Nat} (hx : x < 16) (hy : y < 16) : bits .or .i64 ((x : Int) * 16) (y : Int) = 16 * (x : Int) + y := by
  have : ∀ a b : Fin 16, bits .or .i64 ((a.1 : Int) * 16) (b.1 : Int) = 16 * (a.1 : Int) + b.1 := by decide +kernel
  exact this ⟨x, hx⟩ ⟨y, hy⟩
def RelPh (t : List UInt8) (w : World) (out i : Value) (wr : World) : Prop := ∃ (k : Nat) (acc : List UInt8), i = .int .i64 k ∧ 2 * acc.length = k ∧ k ≤ t.length ∧ unhex t = (unhex (t.drop k)).map (acc ++ ·) ∧ ownU wr w.heap.size out acc ∧ Up w wr
set_option maxRecDepth 100000 in
set_option maxHeartbeats 4000000 in
theorem phS_any (t : List UInt8) (w : World) (ht : t.length ≤ 1048576) :
    Calls Tryz.prog 70  #[.string (bs t)] w (Same (.tuple #[.string (bs ((prsHex t).getD [])), .bool (prsHex t).isSome]) w) := by
  obtain ⟨i0, hib, hz0, hz1, hz2⟩ := info_parts infoByte
  have hz := bs_size t
  have hmk : ∀ w : World, (Instr.makeSlice 22 (.int .i64 0) (.int .i64 ((t.length : Int) / 2))).run Tryz.prog w = .ok (.slice (some ⟨w.heap.size, 0, none⟩) 0 (t.length / 2)) (w.alloc (.cells (madeCells #[.int .u8 0] (t.length / 2)) 5)) := fun w => by
    have := run_make (P := Tryz.prog) w 22 5 i0 _ Tryz.underlying22 hib hz0 .i64 .i64 0 (t.length / 2 : Nat) (by omega) (by omega) (by rw [hz2]; omega) (by omega)
    rw [hz1] at this
    have hn : ((t.length : Int) / 2).toNat = t.length / 2 := by omega
    simpa [Value.cells, hn] using this
  by_cases hodd : t.length % 2 ≠ 0 ∨ 8000 < t.length
  · have e : Hid (prsHex t = none) := by
      unfold Hid prsHex
      rcases hodd with h | h
      · rw [unhex_odd h]; split <;> rfl
      · rw [if_neg (by omega)]
    rcases hodd with h | h
    · have hb : ((t.length : Int) % 2 == 0) = false := by rw [beq_eq_false_iff_ne]; omega
      go_enter Tryz.func70, Tryz.ntmps70
      go_wp2
      ((try simp only [Exit.inBlock, Exit.then]); refine bodyPost_ret (v := _) (by simp [results, Tryz.results70, go_sem]; rfl) rfl ?_)
      exact ⟨by rw [e.out]; rfl, by (repeat (first | with_reducible exact Up.refl _ | with_reducible assumption | with_reducible refine Up.set ?_ (by first | exact Nat.le_refl _ | (simp only []; omega) | (simp; omega)) _ | with_reducible refine Up.alloc ?_ _ | with_reducible refine Up.drew ?_ | refine Up.trans ?_ (by with_reducible assumption)))⟩
    · go_enter Tryz.func70, Tryz.ntmps70
      go_wp2
      all_goals
        ((try simp only [Exit.inBlock, Exit.then]); refine bodyPost_ret (v := _) (by simp [results, Tryz.results70, go_sem]; rfl) rfl ?_)
        exact ⟨by rw [e.out]; rfl, by (repeat (first | with_reducible exact Up.refl _ | with_reducible assumption | with_reducible refine Up.set ?_ (by first | exact Nat.le_refl _ | (simp only []; omega) | (simp; omega)) _ | with_reducible refine Up.alloc ?_ _ | with_reducible refine Up.drew ?_ | refine Up.trans ?_ (by with_reducible assumption)))⟩
  · have hev : t.length % 2 = 0 := by omega
    have h8 : t.length ≤ 8000 := by omega
    have hb : ((t.length : Int) % 2 == 0) = true := by rw [beq_iff_eq]; omega
    have HP : Hid (prsHex t = unhex t) := if_pos h8
    clear hodd
    go_enter Tryz.func70, Tryz.ntmps70
    go_wp2
    go_loopw [4, 5] (fun out i wr => RelPh t w out i wr) (fun _ i _ => t.length - (intOf i).toNat)
    case atStart => exact ⟨0, [], rfl, rfl, Nat.zero_le _, by simp, ⟨rfl, .inr ⟨w.heap.size, t.length / 2, _, rfl, Nat.le_refl _, (MapKept.heap_alloc w _).1, Nat.zero_le _, by unfold maxLen; omega, by simp [madeCells], rfl⟩⟩, (Up.refl _).alloc _⟩
    case round =>
      obtain ⟨k, acc, rfl, hak, hk, hun, ho, hup⟩ := hrel
      unfold ownU at ho
      obtain ⟨a, c, rfl⟩ := ownsRow_shape ho
      have HO := Lib.hid ho
      have HUN := Lib.hid hun
      have HAK := Lib.hid hak
      have hal : acc.length ≤ 4000 := by omega
      clear ho hun
      have hsz := hup.size
      by_cases hlt : k < t.length
      · have hk1 : k + 1 < t.length := by omega
        have hka : k < (bs t).size := by omega
        have hkb : k + 1 < (bs t).size := by omega
        have hu := u8_bd (bs t)[k]
        have hv := u8_bd (bs t)[k + 1]
        have cA := fun wx => findHex_any (bs t)[k] wx
        have cB := fun wx => findHex_any (bs t)[k + 1] wx
        have HD : Hid (unhex (t.drop k) = match hexV (bs t)[k], hexV (bs t)[k + 1] with | some x, some y => (unhex (t.drop (k + 2))).map (UInt8.ofNat (16 * x + y) :: ·) | _, _ => none) := by
          unfold Hid
          rw [drop_two hk1, unhex_two]; rfl
        clear hak
        cases hx : hexV (bs t)[k] with
        | none =>
          have e : Hid (prsHex t = none) := by unfold Hid; rw [HP.out, HUN.out, HD.out, hx]; rfl
          rw [hexI_no hx] at cA
          clear hx HD
          generalize hexI (bs t)[k + 1] = y at *
          go_wp2_with (go_at_call 124; first | ((with_reducible refine (cA _).mono ?_); rintro e w3 ⟨rfl, rfl⟩) | ((with_reducible refine (cB _).mono ?_); rintro e w3 ⟨rfl, rfl⟩))
          ((try simp only [Exit.inBlock, Exit.then]); refine bodyPost_ret (v := _) (by simp [results, Tryz.results70, go_sem]; rfl) rfl ?_)
          exact ⟨by rw [e.out]; rfl, hup⟩
        | some x =>
          rw [hexI_yes hx] at cA
          have hx16 := hexV_lt hx
          cases hy : hexV (bs t)[k + 1] with
          | none =>
            have e : Hid (prsHex t = none) := by unfold Hid; rw [HP.out, HUN.out, HD.out, hx, hy]; rfl
            rw [hexI_no hy] at cB
            clear hx hy HD
            go_wp2_with (go_at_call 124; first | ((with_reducible refine (cA _).mono ?_); rintro e w3 ⟨rfl, rfl⟩) | ((with_reducible refine (cB _).mono ?_); rintro e w3 ⟨rfl, rfl⟩))
            ((try simp only [Exit.inBlock, Exit.then]); refine bodyPost_ret (v := _) (by simp [results, Tryz.results70, go_sem]; rfl) rfl ?_)
            exact ⟨by rw [e.out]; rfl, hup⟩
          | some y =>
            rw [hexI_yes hy] at cB
            have hy16 := hexV_lt hy
            have HN : Hid (unhex t = (unhex (t.drop (k + 2))).map ((acc ++ [UInt8.ofNat (16 * x + y)]) ++ ·)) := by
              unfold Hid
              rw [HUN.out, HD.out, hx, hy, Option.map_map]
              congr 1
              funext l
              simp
            clear hx hy HD
            go_wp2_with (first | (go_at_call 124; first | ((with_reducible refine (cA _).mono ?_); rintro e w3 ⟨rfl, rfl⟩) | ((with_reducible refine (cB _).mono ?_); rintro e w3 ⟨rfl, rfl⟩)) | (at_builtin; refine wpList_append_own _ rfl _ _ 22 rfl (w.heap.size) 5 i0 (.int .u8 0) 1 1 Tryz.underlying22 hib hz0 hz1 hz2 rfl (by decide) _ _ _ rfl ((HO.out).alloc _) ⟨(wr).heap.size, 0, none⟩ 1 1 [.int .u8 (16 * (x : Int) + y)] rfl rfl (new_cells [.int .u8 (16 * (x : Int) + y)] _ rfl) (by intro u hu; simp at hu; subst hu; rfl) (by unfold maxLen; omega) (by omega) (by simp; omega) ?_; rintro v2 w2 hown2 hgr2 -; skip))
            go_roundw
            case rel => exact ⟨k + 2, acc ++ [UInt8.ofNat (16 * x + y)], by go_num, by have := HAK.out; rw [List.length_append, List.length_singleton]; omega, by omega, HN.out, by unfold ownU; rw [cellsU_add acc hx16 hy16, List.length_append]; exact hown2, (hup.alloc _).grown hgr2 (fun z hz => (HO.out.lt z hz).1)⟩
            case measure => simp [intOf]; omega
      · have hkl : k = t.length := by omega
        have e : Hid (prsHex t = some acc) := by unfold Hid; rw [HP.out, HUN.out, hkl]; simp [unhex]
        have hcv := conv_any HO.out rfl
        go_wp2
        ((try simp only [Exit.inBlock, Exit.then]); refine bodyPost_ret (v := _) (by simp [results, Tryz.results70, go_sem]; rfl) rfl ?_)
        exact ⟨by rw [e.out]; rfl, hup⟩
set_option maxRecDepth 100000 in
set_option maxHeartbeats 4000000 in
theorem phI_any (t : List UInt8) (w : World) (ht : t.length ≤ 1048576) :
    Calls Tryz.prog 52  #[.string (bs t)] w (Same (.tuple #[.string (bs ((prsHex t).getD [])), .bool (prsHex t).isSome]) w) := by
  obtain ⟨i0, hib, hz0, hz1, hz2⟩ := info_parts infoByte
  have hz := bs_size t
  have hmk : ∀ w : World, (Instr.makeSlice 22 (.int .i64 0) (.int .i64 ((t.length : Int) / 2))).run Tryz.prog w = .ok (.slice (some ⟨w.heap.size, 0, none⟩) 0 (t.length / 2)) (w.alloc (.cells (madeCells #[.int .u8 0] (t.length / 2)) 5)) := fun w => by
    have := run_make (P := Tryz.prog) w 22 5 i0 _ Tryz.underlying22 hib hz0 .i64 .i64 0 (t.length / 2 : Nat) (by omega) (by omega) (by rw [hz2]; omega) (by omega)
    rw [hz1] at this
    have hn : ((t.length : Int) / 2).toNat = t.length / 2 := by omega
    simpa [Value.cells, hn] using this
  by_cases hodd : t.length % 2 ≠ 0 ∨ 8000 < t.length
  · have e : Hid (prsHex t = none) := by
      unfold Hid prsHex
      rcases hodd with h | h
      · rw [unhex_odd h]; split <;> rfl
      · rw [if_neg (by omega)]
    rcases hodd with h | h
    · have hb : ((t.length : Int) % 2 == 0) = false := by rw [beq_eq_false_iff_ne]; omega
      go_enter Tryz.func52, Tryz.ntmps52
      go_wp2
      ((try simp only [Exit.inBlock, Exit.then]); refine bodyPost_ret (v := _) (by simp [results, Tryz.results52, go_sem]; rfl) rfl ?_)
      exact ⟨by rw [e.out]; rfl, by (repeat (first | with_reducible exact Up.refl _ | with_reducible assumption | with_reducible refine Up.set ?_ (by first | exact Nat.le_refl _ | (simp only []; omega) | (simp; omega)) _ | with_reducible refine Up.alloc ?_ _ | with_reducible refine Up.drew ?_ | refine Up.trans ?_ (by with_reducible assumption)))⟩
    · go_enter Tryz.func52, Tryz.ntmps52
      go_wp2
      all_goals
        ((try simp only [Exit.inBlock, Exit.then]); refine bodyPost_ret (v := _) (by simp [results, Tryz.results52, go_sem]; rfl) rfl ?_)
        exact ⟨by rw [e.out]; rfl, by (repeat (first | with_reducible exact Up.refl _ | with_reducible assumption | with_reducible refine Up.set ?_ (by first | exact Nat.le_refl _ | (simp only []; omega) | (simp; omega)) _ | with_reducible refine Up.alloc ?_ _ | with_reducible refine Up.drew ?_ | refine Up.trans ?_ (by with_reducible assumption)))⟩
  · have hev : t.length % 2 = 0 := by omega
    have h8 : t.length ≤ 8000 := by omega
    have hb : ((t.length : Int) % 2 == 0) = true := by rw [beq_iff_eq]; omega
    have HP : Hid (prsHex t = unhex t) := if_pos h8
    clear hodd
    go_enter Tryz.func52, Tryz.ntmps52
    go_wp2
    go_loopw [4, 5] (fun out i wr => RelPh t w out i wr) (fun _ i _ => t.length - (intOf i).toNat)
    case atStart => exact ⟨0, [], rfl, rfl, Nat.zero_le _, by simp, ⟨rfl, .inr ⟨w.heap.size, t.length / 2, _, rfl, Nat.le_refl _, (MapKept.heap_alloc w _).1, Nat.zero_le _, by unfold maxLen; omega, by simp [madeCells], rfl⟩⟩, (Up.refl _).alloc _⟩
    case round =>
      obtain ⟨k, acc, rfl, hak, hk, hun, ho, hup⟩ := hrel
      unfold ownU at ho
      obtain ⟨a, c, rfl⟩ := ownsRow_shape ho
      have HO := Lib.hid ho
      have HUN := Lib.hid hun
      have HAK := Lib.hid hak
      have hal : acc.length ≤ 4000 := by omega
      clear ho hun
      have hsz := hup.size
      by_cases hlt : k < t.length
      · have hk1 : k + 1 < t.length := by omega
        have hka : k < (bs t).size := by omega
        have hkb : k + 1 < (bs t).size := by omega
        have hu := u8_bd (bs t)[k]
        have hv := u8_bd (bs t)[k + 1]
        have cA := fun wx => indexHex_any (bs t)[k] wx
        have cB := fun wx => indexHex_any (bs t)[k + 1] wx
        have HD : Hid (unhex (t.drop k) = match hexV (bs t)[k], hexV (bs t)[k + 1] with | some x, some y => (unhex (t.drop (k + 2))).map (UInt8.ofNat (16 * x + y) :: ·) | _, _ => none) := by
          unfold Hid
          rw [drop_two hk1, unhex_two]; rfl
        clear hak
        cases hx : hexV (bs t)[k] with
        | none =>
          have e : Hid (prsHex t = none) := by unfold Hid; rw [HP.out, HUN.out, HD.out, hx]; rfl
          rw [hexI_no hx] at cA
          clear hx HD
          generalize hexI (bs t)[k + 1] = y at *
          go_wp2_with (go_at_call 115; first | ((with_reducible refine (cA _).mono ?_); rintro e w3 ⟨rfl, rfl⟩) | ((with_reducible refine (cB _).mono ?_); rintro e w3 ⟨rfl, rfl⟩))
          ((try simp only [Exit.inBlock, Exit.then]); refine bodyPost_ret (v := _) (by simp [results, Tryz.results52, go_sem]; rfl) rfl ?_)
          exact ⟨by rw [e.out]; rfl, hup⟩
        | some x =>
          rw [hexI_yes hx] at cA
          have hx16 := hexV_lt hx
          cases hy : hexV (bs t)[k + 1] with
          | none =>
            have e : Hid (prsHex t = none) := by unfold Hid; rw [HP.out, HUN.out, HD.out, hx, hy]; rfl
            rw [hexI_no hy] at cB
            clear hx hy HD
            go_wp2_with (go_at_call 115; first | ((with_reducible refine (cA _).mono ?_); rintro e w3 ⟨rfl, rfl⟩) | ((with_reducible refine (cB _).mono ?_); rintro e w3 ⟨rfl, rfl⟩))
            ((try simp only [Exit.inBlock, Exit.then]); refine bodyPost_ret (v := _) (by simp [results, Tryz.results52, go_sem]; rfl) rfl ?_)
            exact ⟨by rw [e.out]; rfl, hup⟩
          | some y =>
            rw [hexI_yes hy] at cB
            have hy16 := hexV_lt hy
            have hor := or_hex hx16 hy16
            have hmd : (16 * (x : Int) + y) % 256 = 16 * (x : Int) + y := by omega
            have HN : Hid (unhex t = (unhex (t.drop (k + 2))).map ((acc ++ [UInt8.ofNat (16 * x + y)]) ++ ·)) := by
              unfold Hid
              rw [HUN.out, HD.out, hx, hy, Option.map_map]
              congr 1
              funext l
              simp
            clear hx hy HD
            go_wp2_with (first | (go_at_call 115; first | ((with_reducible refine (cA _).mono ?_); rintro e w3 ⟨rfl, rfl⟩) | ((with_reducible refine (cB _).mono ?_); rintro e w3 ⟨rfl, rfl⟩)) | (at_builtin; refine wpList_append_own _ rfl _ _ 22 rfl (w.heap.size) 5 i0 (.int .u8 0) 1 1 Tryz.underlying22 hib hz0 hz1 hz2 rfl (by decide) _ _ _ rfl ((HO.out).alloc _) ⟨(wr).heap.size, 0, none⟩ 1 1 [.int .u8 (16 * (x : Int) + y)] rfl rfl (new_cells [.int .u8 (16 * (x : Int) + y)] _ rfl) (by intro u hu; simp at hu; subst hu; rfl) (by unfold maxLen; omega) (by omega) (by simp; omega) ?_; rintro v2 w2 hown2 hgr2 -; skip))
            go_roundw
            case rel => exact ⟨k + 2, acc ++ [UInt8.ofNat (16 * x + y)], by go_num, by have := HAK.out; rw [List.length_append, List.length_singleton]; omega, by omega, HN.out, by unfold ownU; rw [cellsU_add acc hx16 hy16, List.length_append]; exact hown2, (hup.alloc _).grown hgr2 (fun z hz => (HO.out.lt z hz).1)⟩
            case measure => simp [intOf]; omega
      · have hkl : k = t.length := by omega
        have e : Hid (prsHex t = some acc) := by unfold Hid; rw [HP.out, HUN.out, hkl]; simp [unhex]
        have hcv := conv_any HO.out rfl
        go_wp2
        ((try simp only [Exit.inBlock, Exit.then]); refine bodyPost_ret (v := _) (by simp [results, Tryz.results52, go_sem]; rfl) rfl ?_)
        exact ⟨by rw [e.out]; rfl, hup⟩
end Go.Proofs.YtekogcjdaolcbaaGreatDoor

/- The reference's ParseWriter, withoutDash. Conditions: fewer than 2^20 bytes. -/
namespace Go.Proofs.YtekogcjdaolcbaaGreatDoor
open Go Go.RowKit
def PwPost (o : Option WrD) (w : World) (e : Ending) (w' : World) : Prop := ∃ v, e = .returned (.tuple #[wrV (o.getD wr0) v, .bool o.isSome]) ∧ ownPr w' w.heap.size v (o.getD wr0).k.ps ∧ Up w w'
theorem prsW_len4 {t : List UInt8} (h : (splL 124 t).length ≠ 4) : prsW t = none := by
  unfold prsW
  split
  · rename_i a b c d e; rw [e] at h; exact absurd rfl h
  · rfl
theorem prsW_4 {t a b c d : List UInt8} (h : splL 124 t = [a, b, c, d]) : prsW t = wr4 a b c d := by unfold prsW; rw [h]
theorem lenW_4 {t a b c d : List UInt8} (h : splL 124 t = [a, b, c, d]) : lenW t = some ⟨(prsK a).getD knZ, (prsHex (noneL b)).getD [], noneL c, decide (d = [98, 101, 103, 117, 110])⟩ := by unfold lenW; rw [h]; rfl
theorem unhex_len : ∀ {t l : List UInt8}, unhex t = some l → l.length ≤ t.length
  | [], l, h => by simp only [unhex, Option.some.injEq] at h; subst h; simp
  | [_], l, h => by simp [unhex] at h
  | a :: b :: r, l, h => by
    rw [unhex_two] at h
    cases hx : hexV a <;> cases hy : hexV b <;> rw [hx, hy] at h
    · cases h
    · cases h
    · cases h
    · obtain ⟨l', h1, rfl⟩ := Option.map_eq_some_iff.1 h
      have := unhex_len h1
      simp only [List.length_cons]; omega
theorem prsHex_len (t : List UInt8) : ((prsHex t).getD []).length ≤ t.length := by
  cases h : prsHex t with
  | none => simp
  | some l =>
    unfold prsHex at h
    split at h
    · exact unhex_len h
    · cases h
theorem noneL_len (t : List UInt8) : (noneL t).length ≤ t.length := by unfold noneL; split <;> simp
theorem prsK_len_le (t : List UInt8) (ht : t.length ≤ 1048576) : ((prsK t).getD knZ).ps.length ≤ 1024 := by
  cases h : prsK t with
  | none => exact Nat.zero_le _
  | some k => exact (validK_small (fmtK_prs h).2).2.1
set_option maxRecDepth 100000 in
set_option maxHeartbeats 8000000 in
theorem pwS_any (t : List UInt8) (w : World) (ht : t.length ≤ 1048576) :
    Calls Tryz.prog 17  #[.string (bs t)] w (PwPost (prsW t) w) := by
  unfold PwPost
  have zT := bs_size t
  have cS := fun wx => l9Cut_n t 124 124 rfl wx ht
  have hxp := splL_piece_le 124 t
  obtain ⟨xs, hxs⟩ : ∃ xs, xs = splL 124 t := ⟨_, rfl⟩
  rw [← hxs] at cS hxp
  by_cases h4 : xs.length = 4
  case' neg =>
    have e : Hid (prsW t = none) := prsW_len4 (by rw [← hxs]; exact h4)
    have hB4 : ((xs.length : Int) == 4) = false := by rw [beq_eq_false_iff_ne]; omega
    rw [e.out]
    clear hxs hxp
    go_enter Tryz.func17, Tryz.ntmps17
    go_wp2_with fail
    (with_reducible refine (cS _).mono ?_); rintro e w1 ⟨vp, rfl, ho, U1⟩
    obtain ⟨av, cv, rfl⟩ := ownsRow_shape ho
    simp only [List.length_map] at ho ⊢
    have hR1 : WrAt w.heap.size wr0 (.slice none 0 0) w1 := box_up U1 (MapKept.heap_alloc w _).1
    have hU1 : Up w w1 := by (repeat (first | with_reducible exact Up.refl _ | with_reducible assumption | with_reducible refine Up.set ?_ (by first | exact Nat.le_refl _ | (simp only []; omega) | (simp; omega)) _ | with_reducible refine Up.alloc ?_ _ | with_reducible refine Up.drew ?_ | refine Up.trans ?_ (by with_reducible assumption)))
    obtain ⟨hb1, q0, q1, q2, q3, q4, q5, q6, q7, q8⟩ := hR1.cells
    have hf1 := box_free hR1
    simp only [wr0] at q0 q1 q2 q3 q4 q5 q6 q7 q8
    clear U1 cS
    go_wp2
    refine bodyPost_ret (v := .tuple #[wrV wr0 (.slice none 0 0), .bool false]) (by simp [results, Tryz.results17, go_sem, q0, q1, q2, q3, q4, q5, q6, q7, q8, wr0, wrV]; rfl) rfl ⟨_, rfl, World.ownsRow_nil _ _ _ _, ?_⟩
    (repeat (first | with_reducible exact Up.refl _ | with_reducible assumption | with_reducible refine Up.set ?_ (by first | exact Nat.le_refl _ | (simp only []; omega) | (simp; omega)) _ | with_reducible refine Up.alloc ?_ _ | with_reducible refine Up.drew ?_ | refine Up.trans ?_ (by with_reducible assumption)))
  obtain ⟨a, b, c, d, hx⟩ := len4 h4
  rw [hx] at cS hxp hxs
  have hal := hxp a (by simp)
  have hbl := hxp b (by simp)
  have hcl := hxp c (by simp)
  have HLK := Lib.hid (lenW_4 hxs.symm)
  have HPK := Lib.hid (prsW_len t)
  have cA := fun wx => pkS_any a wx (by omega)
  have cN := fun wx => l3None_any b wx
  have cM := fun wx => l3None_any c wx
  have hnb := noneL_len b
  have hnc := noneL_len c
  have cH := fun wx => phS_any (noneL b) wx (by omega)
  have hph := prsHex_len (noneL b)
  have hkp := prsK_len_le a (by omega)
  unfold PkPost at cA
  clear hxp hxs h4 hx xs
  obtain ⟨k, hk⟩ : ∃ k, k = (prsK a).getD knZ := ⟨_, rfl⟩
  obtain ⟨p, hp⟩ : ∃ p, p = (prsHex (noneL b)).getD [] := ⟨_, rfl⟩
  obtain ⟨q, hq⟩ : ∃ q, q = noneL c := ⟨_, rfl⟩
  obtain ⟨gb, hgb⟩ : ∃ gb, gb = decide (d = [98, 101, 103, 117, 110]) := ⟨_, rfl⟩
  have hd1 : ((bs d).toList == [98, 101, 103, 117, 110]) = gb := by
    rw [Lib.toList_data, bs_data, hgb, Bool.eq_iff_iff]
    simp
  rw [← hk] at cA HLK hkp
  rw [← hp] at cH HLK hph
  rw [← hq] at cM HLK hnc
  rw [← hgb] at HLK
  clear hk hp hq hgb
  generalize noneL b = nb at *
  generalize (prsK a).isSome = bA at *
  generalize (prsHex nb).isSome = bH at *
  simp only [kV] at cA
  have hpl : p.length ≤ 1048576 := by omega
  have hql : q.length ≤ 1048576 := by omega
  go_enter Tryz.func17, Tryz.ntmps17
  go_wp2_with fail
  (with_reducible refine (cS _).mono ?_); rintro e w1 ⟨vp, rfl, ho, U1⟩
  obtain ⟨av, cv, rfl⟩ := ownsRow_shape ho
  simp only [List.length_map, List.length_cons, List.length_nil, Nat.zero_add] at ho ⊢
  have hR1 : WrAt w.heap.size wr0 (.slice none 0 0) w1 := box_up U1 (MapKept.heap_alloc w _).1
  have hU1 : Up w w1 := by (repeat (first | with_reducible exact Up.refl _ | with_reducible assumption | with_reducible refine Up.set ?_ (by first | exact Nat.le_refl _ | (simp only []; omega) | (simp; omega)) _ | with_reducible refine Up.alloc ?_ _ | with_reducible refine Up.drew ?_ | refine Up.trans ?_ (by with_reducible assumption)))
  obtain ⟨g, rfl, hg, -, hcc1, hcc2, c0⟩ := own_strs ho (k := 0) (by simp)
  have c1 := own_strC ho (k := 1) (by simp)
  have c2 := own_strC ho (k := 2) (by simp)
  have c3 := own_strC ho (k := 3) (by simp)
  simp only [List.getElem_cons_zero, List.getElem_cons_succ] at c0 c1 c2 c3
  clear U1 cS
  go_wp2_with fail
  (with_reducible refine (cA _).mono ?_); rintro e w2 ⟨v2, rfl, ho2, U2⟩
  obtain ⟨a2, cc2, rfl⟩ := ownsRow_shape ho2
  have d1 := (U2.cell (p := ⟨g, 1, none⟩) hg).trans c1
  have hR2 := hR1.up U2
  have hU2 := hU1.trans U2
  have hu12 := Lib.hid U2
  have ho2 := ownsRow_base ho2 hU1.size
  have hg2 := Nat.lt_of_lt_of_le hg U2.size
  clear c0 c1 hR1 hU1 U2 ho
  obtain ⟨W, hW⟩ : ∃ W, Hid (W = w2.alloc (.cells #[.int .i64 k.set.ord, .int .i64 k.set.lit, .int .i64 k.set.most, .slice a2 k.ps.length cc2, .int .i64 k.base, .int .i64 k.last] 27)) := ⟨_, rfl⟩
  have HK : Hid (KnAt w2.heap.size k (.slice a2 k.ps.length cc2) W) := by rw [hW.out]; exact (MapKept.heap_alloc w2 _).1
  have HWU : Hid (Up w2 W) := by rw [hW.out]; exact (Up.refl _).alloc _
  go_wp2_with fail
  rw [← hW.out]
  have hK := HK.out
  have e2 := (HWU.out.cell (p := ⟨g, 2, none⟩) hg2).trans ((hu12.out.cell (p := ⟨g, 2, none⟩) hg).trans c2)
  have e3 := (HWU.out.cell (p := ⟨g, 3, none⟩) hg2).trans ((hu12.out.cell (p := ⟨g, 3, none⟩) hg).trans c3)
  have hgw := Nat.lt_of_lt_of_le hg2 HWU.out.size
  have hR3 := hR2.up HWU.out
  have ho3 := ownsRow_up ho2 HWU.out
  have hU3 := hU2.trans HWU.out
  clear d1 c2 c3 hR2 ho2 hU2 hW HK HWU hu12 hg hg2
  (with_reducible refine (cN _).mono ?_); rintro e w3 ⟨rfl, rfl⟩
  go_wp2_with fail
  (with_reducible refine (cH _).mono ?_); rintro e w4 ⟨rfl, U4⟩
  have f2 := (U4.cell (p := ⟨g, 2, none⟩) hgw).trans e2
  have f3 := (U4.cell (p := ⟨g, 3, none⟩) hgw).trans e3
  have hK4 := hK.up U4
  have hR4 := hR3.up U4
  have ho4 := ownsRow_up ho3 U4
  have hU4 := hU3.trans U4
  have hw4 := hU4.size
  have hgz := Nat.lt_of_lt_of_le hgw U4.size
  clear e2 e3 hgw hK hR3 ho3 hU3 U4
  obtain ⟨hb4, r0, r1, r2, r3, r4, r5⟩ := hK4.cells
  go_wp2
  refine wp_region_up 12 (by kernel_rfl) (by kernel_rfl) ?_
  simp only [List.take, List.drop]
  repeat (refine wpUp_step (fun K hK => ?_); go_simp; (try simp only [↓IntWalk.iteOmega]); first
    | (refine hK _ _ ?_; clear hK K)
    | (apply stepU_c
       · intro wq hwq; (have hbq := bcell hwq; (repeat (first | refine fills_no (by rfl) ?_ | refine fills_yes (by rfl) (fun vq hvq => ?_))); simp only [List.filter_nil, fills]; unfold upAt; (try (skip)); go_simp; (try go_bits); (try simp only [↓IntWalk.iteOmega]); (try (rw [dif_pos (by omega)]; go_simp; try go_bits)); first | exact upOut_value | (apply upOut_call; (go_at_call 71; with_reducible exact cM _)) | (apply upOut_eq; (go_at_call 71; with_reducible exact cM _)))
       go_simp; refine hK _ _ ?_; clear hK K)
    | (refine stepU_m (by kernel_rfl) (Boxed w4.heap.size #[.int .i64 0, .int .i64 0, .int .i64 0, .slice none 0 0, .int .i64 0, .int .i64 0, .string ⟨#[]⟩, .string ⟨#[]⟩, .bool false] 29) (boxed_closed _ _ _) (fun wq hwq => ?_) ?_
       · (have hbq := bcell hwq; (repeat (first | refine fills_no (by rfl) ?_ | refine fills_yes (by rfl) (fun vq hvq => ?_))); simp only [List.filter_nil, fills]; unfold upAt; (try (skip)); go_simp; (try go_bits); (try simp only [↓IntWalk.iteOmega]); (try (rw [dif_pos (by omega)]; go_simp; try go_bits)); exact upOut_make ((Up.refl _).alloc _) (boxed_new hwq.size))
       refine hK _ _ ?_; clear hK K))
  refine wpUp_nil (fun wq hwq => ?_)
  simp only [fills]
  rintro v9 ⟨pb, rfl, hpb, hbox⟩
  intros
  have hx0 : WrAt pb wr0 (.slice none 0 0) wq := hbox
  have hRq := hR4.up hwq
  have hOq := ownsRow_up ho4 hwq
  have hUq := hU4.trans hwq
  have hne : w.heap.size ≠ pb := by have := hR4.cells.1; omega
  have hX := WrAt.store hx0 ⟨k, p, q, gb⟩ (.slice a2 k.ps.length cc2)
  have hRX : WrAt w.heap.size wr0 (.slice none 0 0) (WrW wq pb ⟨k, p, q, gb⟩ (.slice a2 k.ps.length cc2)) := (WrW.other hne _ _).trans hRq
  have hOX : ownPr (WrW wq pb ⟨k, p, q, gb⟩ (.slice a2 k.ps.length cc2)) w.heap.size (.slice a2 k.ps.length cc2) k.ps := WrW.own hOq (box_ne hx0 hOq (by decide)) _ _
  have hUX := WrW.up hUq (b := pb) (by omega) ⟨k, p, q, gb⟩ (.slice a2 k.ps.length cc2)
  obtain ⟨hpl2, z0, z1, z2, z3, z4, z5, z6, z7, z8⟩ := hx0.cells
  simp only [wr0] at z0 z1 z2 z3 z4 z5 z6 z7 z8
  have hfz := box_free hbox
  have HXA := Lib.hid (And.intro hX (And.intro hRX (And.intro hOX hUX)))
  clear hX hRX hOX hUX
  go_wp2_with fail
  rw [show (World.setCell (World.setCell (World.setCell (World.setCell (World.setCell (World.setCell (World.setCell (World.setCell (World.setCell wq ⟨pb, 0, none⟩ (.int .i64 k.set.ord)) ⟨pb, 1, none⟩ (.int .i64 k.set.lit)) ⟨pb, 2, none⟩ (.int .i64 k.set.most)) ⟨pb, 3, none⟩ (.slice a2 k.ps.length cc2)) ⟨pb, 4, none⟩ (.int .i64 k.base)) ⟨pb, 5, none⟩ (.int .i64 k.last)) ⟨pb, 6, none⟩ (.string (bs p))) ⟨pb, 7, none⟩ (.string (bs q))) ⟨pb, 8, none⟩ (.bool gb)) = WrW wq pb ⟨k, p, q, gb⟩ (.slice a2 k.ps.length cc2) from rfl]
  clear hx0 hRq hOq hUq z0 z1 z2 z3 z4 z5 z6 z7 z8 hfz hbox hwq hK4 hR4 ho4 hU4 hpl2 hpb hb4 r0 r1 r2 r3 r4 r5 f2 f3
  generalize WrW wq pb ⟨k, p, q, gb⟩ (.slice a2 k.ps.length cc2) = Z at *
  obtain ⟨hX, hR, hO, hU⟩ := HXA.out
  have cF := fun wx h => fwS_any ⟨k, p, q, gb⟩ (.slice a2 k.ps.length cc2) 0 wx h (by show k.ps.length ≤ 1073741824; omega) (by show p.length ≤ 1073741824; omega) (by show q.length ≤ 1073741824; omega)
  simp only [wrV] at cF
  clear HXA
  (with_reducible refine (cF _ ((RdP.of_own hO).low (Nat.zero_le _))).mono ?_); rintro e w6 ⟨rfl, U6⟩
  have hX6 := hX.up U6
  have hR6 := hR.up U6
  have hO6 := ownsRow_up hO U6
  have hU6 := hU.trans U6
  clear hX hR hO hU U6 cF
  obtain ⟨hb5, r0, r1, r2, r3, r4, r5, r6, r7, r8⟩ := hX6.cells
  obtain ⟨hb6, q0, q1, q2, q3, q4, q5, q6, q7, q8⟩ := hR6.cells
  simp only [wr0] at q0 q1 q2 q3 q4 q5 q6 q7 q8
  have hf6 := box_free hR6
  have HB := Lib.hid (box_ne hR6 hO6 (by decide))
  by_cases hq : fmtW ⟨k, p, q, gb⟩ = t
  · have e : Hid (prsW t = some ⟨k, p, q, gb⟩) := by unfold Hid; rw [HPK.out, HLK.out]; simp only []; rw [if_pos hq]
    have hE := bs_eq hq
    generalize fmtW ⟨k, p, q, gb⟩ = F at *
    clear hq HPK HLK
    go_wp2
    refine bodyPost_ret (v := .tuple #[wrV ⟨k, p, q, gb⟩ (.slice a2 k.ps.length cc2), .bool true]) (by simp [results, Tryz.results17, go_sem, q0, q1, q2, q3, q4, q5, q6, q7, q8, wrV]) rfl ⟨.slice a2 k.ps.length cc2, by rw [e.out]; rfl, ?_, ?_⟩
    · rw [e.out]
      exact WrW.own hO6 HB.out ⟨k, p, q, gb⟩ (.slice a2 k.ps.length cc2)
    · exact WrW.up hU6 (Nat.le_refl _) ⟨k, p, q, gb⟩ (.slice a2 k.ps.length cc2)
  · have e : Hid (prsW t = none) := by unfold Hid; rw [HPK.out, HLK.out]; simp only []; rw [if_neg hq]
    have hE := bs_dif hq
    generalize fmtW ⟨k, p, q, gb⟩ = F at *
    clear hq HPK HLK
    go_wp2
    refine bodyPost_ret (v := .tuple #[wrV wr0 (.slice none 0 0), .bool false]) (by simp [results, Tryz.results17, go_sem, q0, q1, q2, q3, q4, q5, q6, q7, q8, wr0, wrV]; rfl) rfl ⟨_, by rw [e.out]; rfl, by rw [e.out]; exact World.ownsRow_nil _ _ _ _, ?_⟩
    (repeat (first | with_reducible exact Up.refl _ | with_reducible assumption | with_reducible refine Up.set ?_ (by first | exact Nat.le_refl _ | (simp only []; omega) | (simp; omega)) _ | with_reducible refine Up.alloc ?_ _ | with_reducible refine Up.drew ?_ | refine Up.trans ?_ (by with_reducible assumption)))
end Go.Proofs.YtekogcjdaolcbaaGreatDoor

/- The program's ParseKnown. Conditions: fewer than 2^20 bytes; the listed variables lie as they were laid. -/
namespace Go.Proofs.YtekogcjdaolcbaaGreatDoor
open Go Go.RowKit
def kn2 (s : SetD) (n1 n2 : Int) (o : Option (List PairD)) : Option KnD := match o with
  | some ps => if validK ⟨s, ps, n1, n2⟩ then some ⟨s, ps, n1, n2⟩ else none
  | none => none
theorem kn4_eq (a b c d : List UInt8) : kn4 a b c d = if ((prsSet a).isSome && ((numP b).isSome && (numP c).isSome)) then kn2 ((prsSet a).getD st0) ((numP b).getD 0) ((numP c).getD 0) (prsP d) else none := by
  unfold kn4 kn2
  cases prsSet a <;> cases numP b <;> cases numP c <;> cases prsP d <;> simp
theorem prsP_dash : prsP [45] = some [] := rfl
theorem prsP_cut {d : List UInt8} (h : d ≠ [45]) : prsP d = allP prP (splL 44 d) := by unfold prsP; rw [if_neg h]
theorem prsSet_lit (a : List UInt8) : -9223372036854775808 ≤ ((prsSet a).getD st0).lit ∧ ((prsSet a).getD st0).lit ≤ 9223372036854775807 := by
  cases h : prsSet a with
  | none => simp [st0]
  | some s => have := setOk_small (fmtSet_prs h).2; simp only [Option.getD_some]; omega
def RelPki (ys : List (List UInt8)) (vp : Value) (s : SetD) (n1 n2 : Int) (kb : Nat) (w : World) (i : Value) (wr : World) : Prop := ∃ (j : Nat) (v : Value) (ps : List PairD), j ≤ ys.length ∧ i = .int .i64 j ∧ allP prP (ys.take j) = some ps ∧ KnAt kb ⟨s, ps, n1, n2⟩ v wr ∧ ownPr wr w.heap.size v ps ∧ ownS wr w.heap.size vp (ys.map bs) ∧ KnAt w.heap.size knZ (.slice none 0 0) wr ∧ Up w wr
set_option maxRecDepth 100000 in
set_option maxHeartbeats 8000000 in
theorem pkI_any (t : List UInt8) (w : World) (hL : Lay w) (ht : t.length ≤ 1048576) :
    Calls Tryz.prog 50  #[.string (bs t)] w (PkPost (prsK t) w) := by
  unfold PkPost
  have zT := bs_size t
  have cS := fun wx (hx : Up w wx) => split_any (bs t) 59 wx (hL.up hx).max (by omega)
  rw [bs_data] at cS
  have hxp := splL_piece_le 59 t
  obtain ⟨xs, hxs⟩ : ∃ xs, xs = splL 59 t := ⟨_, rfl⟩
  rw [← hxs] at cS hxp
  have HL := Lib.hid hL
  clear hL
  by_cases h4 : xs.length = 4
  case' neg =>
    have e : Hid (prsK t = none) := prsK_len4 (by rw [← hxs]; exact h4)
    have hB4 : ((xs.length : Int) == 4) = false := by rw [beq_eq_false_iff_ne]; omega
    rw [e.out]
    clear hxs hxp
    go_enter Tryz.func50, Tryz.ntmps50
    go_wp2_with fail
    (with_reducible refine (cS _ (by (repeat (first | with_reducible exact Up.refl _ | with_reducible assumption | with_reducible refine Up.set ?_ (by first | exact Nat.le_refl _ | (simp only []; omega) | (simp; omega)) _ | with_reducible refine Up.alloc ?_ _ | with_reducible refine Up.drew ?_ | refine Up.trans ?_ (by with_reducible assumption))))).mono ?_); rintro e w1 ⟨vp, rfl, ho, U1⟩
    obtain ⟨av, cv, rfl⟩ := ownsRow_shape ho
    simp only [List.length_map] at ho ⊢
    have hR1 : KnAt w.heap.size knZ (.slice none 0 0) w1 := box_up U1 (MapKept.heap_alloc w _).1
    have hU1 : Up w w1 := by (repeat (first | with_reducible exact Up.refl _ | with_reducible assumption | with_reducible refine Up.set ?_ (by first | exact Nat.le_refl _ | (simp only []; omega) | (simp; omega)) _ | with_reducible refine Up.alloc ?_ _ | with_reducible refine Up.drew ?_ | refine Up.trans ?_ (by with_reducible assumption)))
    obtain ⟨hb1, q0, q1, q2, q3, q4, q5⟩ := hR1.cells
    have hf1 := box_free hR1
    simp only [knZ, st0] at q0 q1 q2 q3 q4 q5
    clear U1 cS
    go_wp2
    refine bodyPost_ret (v := .tuple #[kV knZ (.slice none 0 0), .bool false]) (by simp [results, Tryz.results50, go_sem, q0, q1, q2, q3, q4, q5, knZ, st0]) rfl ⟨_, rfl, World.ownsRow_nil _ _ _ _, ?_⟩
    (repeat (first | with_reducible exact Up.refl _ | with_reducible assumption | with_reducible refine Up.set ?_ (by first | exact Nat.le_refl _ | (simp only []; omega) | (simp; omega)) _ | with_reducible refine Up.alloc ?_ _ | with_reducible refine Up.drew ?_ | refine Up.trans ?_ (by with_reducible assumption)))
  obtain ⟨a, b, c, d, hx⟩ := len4 h4
  rw [hx] at cS hxp hxs
  have hal := hxp a (by simp)
  have hbl := hxp b (by simp)
  have hcl := hxp c (by simp)
  have hdl := hxp d (by simp)
  have HKN : Hid (prsK t = if ((prsSet a).isSome && ((numP b).isSome && (numP c).isSome)) then kn2 ((prsSet a).getD st0) ((numP b).getD 0) ((numP c).getD 0) (prsP d) else none) := by unfold Hid; rw [prsK_4 hxs.symm, kn4_eq]
  have hl := prsSet_lit a
  have cA := fun wx (hx : Up w wx) => psI_any a wx (HL.out.up hx) (by omega)
  have cB := fun wx (hx : Up w wx) => pnum_any b wx (HL.out.up hx) (by omega)
  have cC := fun wx (hx : Up w wx) => pnum_any c wx (HL.out.up hx) (by omega)
  have cD := fun wx (hx : Up w wx) => split_any (bs d) 44 wx (HL.out.up hx).max (by rw [bs_size]; omega)
  rw [bs_data] at cD
  clear hxp hxs h4 hx xs
  unfold psV at cA
  generalize (prsSet a).getD st0 = s at *
  generalize (numP b).getD 0 = n1 at *
  generalize (numP c).getD 0 = n2 at *
  generalize (prsSet a).isSome = bA at *
  generalize (numP b).isSome = bB at *
  generalize (numP c).isSome = bC at *
  simp only [setV] at cA
  go_enter Tryz.func50, Tryz.ntmps50
  go_wp2_with fail
  (with_reducible refine (cS _ (by (repeat (first | with_reducible exact Up.refl _ | with_reducible assumption | with_reducible refine Up.set ?_ (by first | exact Nat.le_refl _ | (simp only []; omega) | (simp; omega)) _ | with_reducible refine Up.alloc ?_ _ | with_reducible refine Up.drew ?_ | refine Up.trans ?_ (by with_reducible assumption))))).mono ?_); rintro e w1 ⟨vp, rfl, ho, U1⟩
  obtain ⟨av, cv, rfl⟩ := ownsRow_shape ho
  simp only [List.length_map, List.length_cons, List.length_nil, Nat.zero_add] at ho ⊢
  have hR1 : KnAt w.heap.size knZ (.slice none 0 0) w1 := box_up U1 (MapKept.heap_alloc w _).1
  have hU1 : Up w w1 := by (repeat (first | with_reducible exact Up.refl _ | with_reducible assumption | with_reducible refine Up.set ?_ (by first | exact Nat.le_refl _ | (simp only []; omega) | (simp; omega)) _ | with_reducible refine Up.alloc ?_ _ | with_reducible refine Up.drew ?_ | refine Up.trans ?_ (by with_reducible assumption)))
  obtain ⟨g, rfl, hg, -, hcc1, hcc2, c0⟩ := own_strs ho (k := 0) (by simp)
  simp only [List.getElem_cons_zero] at c0
  have hb0 := hR1.cells.1
  have hn1 : ¬ w.heap.size = w1.heap.size := by omega
  clear U1 cS
  go_wp2_with fail
  (with_reducible refine (cA _ (by (repeat (first | with_reducible exact Up.refl _ | with_reducible assumption | with_reducible refine Up.set ?_ (by first | exact Nat.le_refl _ | (simp only []; omega) | (simp; omega)) _ | with_reducible refine Up.alloc ?_ _ | with_reducible refine Up.drew ?_ | refine Up.trans ?_ (by with_reducible assumption))))).mono ?_); rintro e w2 ⟨rfl, U2⟩
  have hK2 : KnAt w1.heap.size knZ (.slice none 0 0) w2 := box_up U2 (MapKept.heap_alloc w1 _).1
  have hR2 : KnAt w.heap.size knZ (.slice none 0 0) w2 := box_up U2 (box_up ((Up.refl _).alloc _) hR1)
  have hU2 : Up w w2 := by (repeat (first | with_reducible exact Up.refl _ | with_reducible assumption | with_reducible refine Up.set ?_ (by first | exact Nat.le_refl _ | (simp only []; omega) | (simp; omega)) _ | with_reducible refine Up.alloc ?_ _ | with_reducible refine Up.drew ?_ | refine Up.trans ?_ (by with_reducible assumption)))
  have ho2 := ownsRow_up ho (((Up.refl _).alloc _).trans U2)
  have HNB := Lib.hid (box_ne hK2 ho2 (by decide))
  have hwk : w.heap.size ≤ w1.heap.size := Nat.le_of_lt hb0
  clear c0 hR1 hU1 U2 ho hb0
  generalize w1.heap.size = kb at *
  have x1 := own_strC ho2 (k := 1) (by simp)
  simp only [List.getElem_cons_zero, List.getElem_cons_succ] at x1
  obtain ⟨hb2, r0, r1, r2, r3, r4, r5⟩ := hK2.cells
  simp only [knZ, st0] at r0 r1 r2 r3 r4 r5
  have hf2 := box_free hK2
  have hgk : ¬ g = kb := fun h => HNB.out (by rw [h]; rfl)
  have hgk2 : ¬ kb = g := fun h => hgk h.symm
  have hn2 : ¬ kb = w.heap.size := fun h => hn1 h.symm
  go_wp2_with fail
  (with_reducible refine (cB _ (by (repeat (first | with_reducible exact Up.refl _ | with_reducible assumption | with_reducible refine Up.set ?_ (by first | exact Nat.le_refl _ | (simp only []; omega) | (simp; omega)) _ | with_reducible refine Up.alloc ?_ _ | with_reducible refine Up.drew ?_ | refine Up.trans ?_ (by with_reducible assumption))))).mono ?_); rintro e w3 ⟨rfl, U3⟩
  have hK3 : KnAt kb ⟨s, [], 0, 0⟩ (.slice none 0 0) w3 := box_up U3 (box_set (box_set (box_set hK2 0 (.int .i64 s.ord)) 1 (.int .i64 s.lit)) 2 (.int .i64 s.most))
  have hR3 : KnAt w.heap.size knZ (.slice none 0 0) w3 := box_up U3 (box_other (box_other (box_other hR2 (p := ⟨kb, 0, none⟩) hn1 _) (p := ⟨kb, 1, none⟩) hn1 _) (p := ⟨kb, 2, none⟩) hn1 _)
  have ho3 := ownsRow_up (ownsRow_setb (ownsRow_setb (ownsRow_setb ho2 HNB.out 0 _) HNB.out 1 _) HNB.out 2 _) U3
  have hU3 : Up w w3 := by (repeat (first | with_reducible exact Up.refl _ | with_reducible assumption | with_reducible refine Up.set ?_ (by first | exact Nat.le_refl _ | (simp only []; omega) | (simp; omega)) _ | with_reducible refine Up.alloc ?_ _ | with_reducible refine Up.drew ?_ | refine Up.trans ?_ (by with_reducible assumption)))
  clear U3 hK2 hR2 ho2 hU2 hb2 r0 r1 r2 r3 r4 r5 hf2 x1
  have x2 := own_strC ho3 (k := 2) (by simp)
  simp only [List.getElem_cons_zero, List.getElem_cons_succ] at x2
  obtain ⟨hb2, r0, r1, r2, r3, r4, r5⟩ := hK3.cells
  have hf2 := box_free hK3
  go_wp2_with fail
  (with_reducible refine (cC _ (by (repeat (first | with_reducible exact Up.refl _ | with_reducible assumption | with_reducible refine Up.set ?_ (by first | exact Nat.le_refl _ | (simp only []; omega) | (simp; omega)) _ | with_reducible refine Up.alloc ?_ _ | with_reducible refine Up.drew ?_ | refine Up.trans ?_ (by with_reducible assumption))))).mono ?_); rintro e w4 ⟨rfl, U4⟩
  have hK4 : KnAt kb ⟨s, [], n1, 0⟩ (.slice none 0 0) w4 := box_up U4 (box_set hK3 4 (.int .i64 n1))
  have hR4 : KnAt w.heap.size knZ (.slice none 0 0) w4 := box_up U4 (box_other hR3 (p := ⟨kb, 4, none⟩) hn1 _)
  have ho4 := ownsRow_up (ownsRow_setb ho3 HNB.out 4 _) U4
  have hU4 : Up w w4 := by (repeat (first | with_reducible exact Up.refl _ | with_reducible assumption | with_reducible refine Up.set ?_ (by first | exact Nat.le_refl _ | (simp only []; omega) | (simp; omega)) _ | with_reducible refine Up.alloc ?_ _ | with_reducible refine Up.drew ?_ | refine Up.trans ?_ (by with_reducible assumption)))
  clear U4 hK3 hR3 ho3 hU3 hb2 r0 r1 r2 r3 r4 r5 hf2 x2 cA cB cC
  have x3 := own_strC ho4 (k := 3) (by simp)
  simp only [List.getElem_cons_zero, List.getElem_cons_succ] at x3
  obtain ⟨hb2, r0, r1, r2, r3, r4, r5⟩ := hK4.cells
  have hf2 := box_free hK4
  by_cases hall : (bA && (bB && bC)) = true
  case' neg =>
    have e : Hid (prsK t = none) := by unfold Hid; rw [HKN.out, if_neg hall]
    obtain ⟨hb6, q0, q1, q2, q3, q4, q5⟩ := hR4.cells
    simp only [knZ, st0] at q0 q1 q2 q3 q4 q5
    have hf6 := box_free hR4
    clear hK4 hR4 ho4 HKN x3
    cases bA <;> cases bB <;> cases bC
    all_goals first
      | exact absurd rfl hall
      | skip
    all_goals
      clear hall
      go_wp2
      refine bodyPost_ret (v := .tuple #[kV knZ (.slice none 0 0), .bool false]) (by simp [results, Tryz.results50, go_sem, q0, q1, q2, q3, q4, q5, knZ, st0, hn1, hn2]) rfl ⟨_, by rw [e.out]; rfl, by rw [e.out]; exact World.ownsRow_nil _ _ _ _, ?_⟩
      (repeat (first | with_reducible exact Up.refl _ | with_reducible assumption | with_reducible refine Up.set ?_ (by first | exact Nat.le_refl _ | (simp only []; omega) | (simp; omega)) _ | with_reducible refine Up.alloc ?_ _ | with_reducible refine Up.drew ?_ | refine Up.trans ?_ (by with_reducible assumption)))
  obtain ⟨rfl, rfl, rfl⟩ : bA = true ∧ bB = true ∧ bC = true := by simpa using hall
  have HKP : Hid (prsK t = kn2 s n1 n2 (prsP d)) := by unfold Hid; rw [HKN.out, if_pos hall]
  clear hall HKN
  obtain ⟨W, hW⟩ : ∃ W, Hid (W = w4.setCell ⟨kb, 5, none⟩ (.int .i64 n2)) := ⟨_, rfl⟩
  have HK : Hid (KnAt kb ⟨s, [], n1, n2⟩ (.slice none 0 0) W) := by rw [hW.out]; exact box_set hK4 5 (.int .i64 n2)
  have HR : Hid (KnAt w.heap.size knZ (.slice none 0 0) W) := by rw [hW.out]; exact box_other hR4 (p := ⟨kb, 5, none⟩) hn1 _
  have HU : Hid (Up w W) := by rw [hW.out]; exact hU4.set (p := ⟨kb, 5, none⟩) hwk _
  by_cases hd : d = [45]
  · have hb1 := bl_eq hd
    obtain ⟨ps, hps⟩ : ∃ ps : List PairD, ps = [] := ⟨_, rfl⟩
    have HPP : Hid (prsK t = if validK ⟨s, ps, n1, n2⟩ then some ⟨s, ps, n1, n2⟩ else none) := by unfold Hid; rw [HKP.out, hd, prsP_dash, hps]; rfl
    clear hd cD
    go_wp2_with fail
    rw [← hW.out]
    have hK : KnAt kb ⟨s, ps, n1, n2⟩ (.slice none 0 0) W := by rw [hps]; exact HK.out
    have hR := HR.out
    have hO : ownPr W w.heap.size (.slice none 0 0) ps := by rw [hps]; exact World.ownsRow_nil _ _ _ _
    have hU := HU.out
    have hpl : ps.length ≤ 1073741824 := by rw [hps]; exact Nat.zero_le _
    clear hps HK HR HU hW hb2 r0 r1 r2 r3 r4 r5 hf2 x3 hK4 hR4 ho4 hU4 HKP
    have cV := fun wx h => kvI_gen ⟨s, ps, n1, n2⟩ ((.slice none 0 0)) 0 wx hl h hpl
    have hrd := fun wx (h : Up W wx) => ((RdP.of_own hO).low (Nat.zero_le _)).up h
    cases hv : validK ⟨s, ps, n1, n2⟩
    · have e : Hid (prsK t = none) := by unfold Hid; rw [HPP.out, hv]; rfl
      rw [hv] at cV
      clear hv
      (with_reducible refine (cV _ (hrd _ (Up.refl _))).mono ?_); rintro e w7 ⟨rfl, U7⟩
      have hR7 : KnAt w.heap.size knZ (.slice none 0 0) w7 := hR.up U7
      have hU7 := hU.trans U7
      obtain ⟨hb6, q0, q1, q2, q3, q4, q5⟩ := hR7.cells
      simp only [knZ, st0] at q0 q1 q2 q3 q4 q5
      have hf6 := box_free hR7
      clear U7 hK hO hR hU HPP hrd cV
      go_wp2
      refine bodyPost_ret (v := .tuple #[kV knZ (.slice none 0 0), .bool false]) (by simp [results, Tryz.results50, go_sem, q0, q1, q2, q3, q4, q5, knZ, st0]) rfl ⟨_, by rw [e.out]; rfl, by rw [e.out]; exact World.ownsRow_nil _ _ _ _, ?_⟩
      (repeat (first | with_reducible exact Up.refl _ | with_reducible assumption | with_reducible refine Up.set ?_ (by first | exact Nat.le_refl _ | (simp only []; omega) | (simp; omega)) _ | with_reducible refine Up.alloc ?_ _ | with_reducible refine Up.drew ?_ | refine Up.trans ?_ (by with_reducible assumption)))
    · have e : Hid (prsK t = some ⟨s, ps, n1, n2⟩) := by unfold Hid; rw [HPP.out, hv]; rfl
      have cY := fun wx h => copyI_any ⟨s, ps, n1, n2⟩ ((.slice none 0 0)) 0 wx h (by have := (validK_small hv).2.1; have h2 : ps.length ≤ 1024 := this; show ps.length ≤ 1048576; omega)
      rw [hv] at cV
      clear hv
      (with_reducible refine (cV _ (hrd _ (Up.refl _))).mono ?_); rintro e w7 ⟨rfl, U7⟩
      have hK7 := hK.up U7
      have hR7 : KnAt w.heap.size knZ (.slice none 0 0) w7 := hR.up U7
      have hU7 := hU.trans U7
      have hr7 := hrd _ U7
      clear U7 hK hO hR hU HPP hrd cV
      obtain ⟨hb5, r0, r1, r2, r3, r4, r5⟩ := hK7.cells
      go_wp2_with fail
      (with_reducible refine (cY _ hr7).mono ?_); rintro e w8 ⟨v8, rfl, ho8, U8⟩
      obtain ⟨a8, c8, rfl⟩ := ownsRow_shape ho8
      have hR8 : KnAt w.heap.size knZ (.slice none 0 0) w8 := hR7.up U8
      have HU8 := Lib.hid (hU7.trans U8)
      have HO8 := Lib.hid (ownsRow_base ho8 hU7.size)
      have HB := Lib.hid (box_ne hR8 ho8 (by decide))
      obtain ⟨hb6, q0, q1, q2, q3, q4, q5⟩ := hR8.cells
      simp only [knZ, st0] at q0 q1 q2 q3 q4 q5
      have hf6 := box_free hR8
      clear U8 hK7 hR7 hU7 hr7 ho8 hb5 r0 r1 r2 r3 r4 r5 cY
      simp only [kV]
      go_wp2
      refine bodyPost_ret (v := .tuple #[kV ⟨s, ps, n1, n2⟩ (.slice a8 ps.length c8), .bool true]) (by simp [results, Tryz.results50, go_sem, q0, q1, q2, q3, q4, q5]) rfl ⟨.slice a8 ps.length c8, by rw [e.out]; rfl, ?_, ?_⟩
      · rw [e.out]
        exact KnW.own HO8.out HB.out ⟨s, ps, n1, n2⟩ (.slice a8 ps.length c8)
      · exact KnW.up HU8.out (Nat.le_refl _) ⟨s, ps, n1, n2⟩ (.slice a8 ps.length c8)
  · have hb1 := bl_ne hd
    have hyp := splL_piece_le 44 d
    have hyl := splL_length_le 44 d
    obtain ⟨ys, hys⟩ : ∃ ys, ys = splL 44 d := ⟨_, rfl⟩
    rw [← hys] at hyp hyl cD
    have HLY : Hid (prsK t = kn2 s n1 n2 (allP prP ys)) := by unfold Hid; rw [HKP.out, prsP_cut hd, hys]
    obtain ⟨i0, hi, hz0, hz1, hz2⟩ := info_parts infoPair
    clear hd hys HKP
    go_wp2_with fail
    rw [← hW.out]
    (with_reducible refine (cD _ HU.out).mono ?_); rintro e w5 ⟨vy, rfl, ho5, U5⟩
    obtain ⟨ay, cy, rfl⟩ := ownsRow_shape ho5
    simp only [List.length_map] at ho5 ⊢
    have hK5 := HK.out.up U5
    have hR5 := HR.out.up U5
    have hU5 := HU.out.trans U5
    have ho5 := ownsRow_base ho5 HU.out.size
    clear HK HR HU hW hb2 r0 r1 r2 r3 r4 r5 hf2 x3 hK4 hR4 ho4 hU4 U5 cD
    go_wp2
    go_loopw [63] (fun i wr => RelPki ys (.slice ay ys.length cy) s n1 n2 kb w i wr) (fun i _ => ys.length - (intOf i).toNat)
    case atStart => exact ⟨0, _, [], Nat.zero_le _, rfl, rfl, hK5, World.ownsRow_nil _ _ _ _, ho5, hR5, hU5⟩
    case round =>
      clear hK5 hR5 hU5 ho5
      obtain ⟨j, v, ps, hj, rfl, hps, hK, hO, ho, hR, hU⟩ := hrel
      obtain ⟨a', c', rfl⟩ := ownsRow_shape hO
      have hpj : ps.length = j := by rw [allP_len hps, List.length_take]; omega
      have HPS := Lib.hid hps
      have hpl : ps.length ≤ 1073741824 := by omega
      have HPJ := Lib.hid hpj
      clear hps hpj
      by_cases hlt : j < ys.length
      · obtain ⟨gy, rfl, hgy, -, hy1, hy2, y0⟩ := own_strs ho hlt
        have hyj : (ys[j]).length ≤ t.length := by have := hyp _ (List.getElem_mem hlt); omega
        have cP := fun wx (hx : Up w wx) => parsePair_any ys[j] wx (HL.out.up hx) (by omega)
        unfold PpPost at cP
        have HNO : Hid (prP ys[j] = none → prsK t = none) := fun h => by rw [HLY.out, allP_none hlt h]; rfl
        have HYS : Hid (∀ p, prP ys[j] = some p → allP prP (ys.take (j + 1)) = some (ps ++ [p])) := fun p h => allP_take_succ hlt HPS.out h
        have hwz := hU.size
        have hpl2 : ps.length ≤ 1048577 := by have := HPJ.out; omega
        go_wp2_with fail
        (with_reducible refine (cP _ hU).mono ?_); rintro e w6 ⟨x, y, rfl, hxy, U6⟩
        have hK6 := hK.up U6
        have hR6 := hR.up U6
        have hO6 := ownsRow_up hO U6
        have ho6 := ownsRow_up ho U6
        have hU6 := hU.trans U6
        have hw6 := hU6.size
        clear hK hR hO ho hU U6 cP y0 hgy hwz
        generalize ys[j] = z at *
        cases hp : prP z with
        | none =>
          have e : Hid (prsK t = none) := HNO.out hp
          have hRz : KnAt w.heap.size knZ (.slice none 0 0) (World.alloc (World.setCell (World.setCell (World.setCell (World.setCell (World.setCell (World.setCell w6 ⟨w.heap.size, 0, none⟩ (.int .i64 0)) ⟨w.heap.size, 1, none⟩ (.int .i64 0)) ⟨w.heap.size, 2, none⟩ (.int .i64 0)) ⟨w.heap.size, 3, none⟩ (.slice none 0 0)) ⟨w.heap.size, 4, none⟩ (.int .i64 0)) ⟨w.heap.size, 5, none⟩ (.int .i64 0)) (.cells #[.int .i64 x, .int .i64 y] 133)) := box_up ((Up.refl _).alloc _) (KnAt.store hR6 knZ (.slice none 0 0))
          obtain ⟨-, z0, z1, z2, z3, z4, z5⟩ := hRz.cells
          simp only [knZ, st0] at z0 z1 z2 z3 z4 z5
          obtain ⟨hb6, q0, q1, q2, q3, q4, q5⟩ := hR6.cells
          simp only [knZ, st0] at q0 q1 q2 q3 q4 q5
          have hf6 := box_free hR6
          clear hp hxy HNO HYS hK6 hR6 hO6 ho6
          have hn6 : ¬ w.heap.size = w6.heap.size := by omega
          have hn7 : ¬ w6.heap.size = w.heap.size := by omega
          simp only [Option.isSome_none]
          go_wp2
          refine bodyPost_ret (v := .tuple #[kV knZ (.slice none 0 0), .bool false]) (by simp [results, Tryz.results50, go_sem, q0, q1, q2, q3, q4, q5, knZ, st0, z0, z1, z2, z3, z4, z5]) rfl ⟨_, by rw [e.out]; rfl, by rw [e.out]; exact World.ownsRow_nil _ _ _ _, ?_⟩
          (repeat (first | with_reducible exact Up.refl _ | with_reducible assumption | with_reducible refine Up.set ?_ (by first | exact Nat.le_refl _ | (simp only []; omega) | (simp; omega)) _ | with_reducible refine Up.alloc ?_ _ | with_reducible refine Up.drew ?_ | refine Up.trans ?_ (by with_reducible assumption)))
        | some p =>
          have hpe := hxy p hp
          subst hpe
          have HN := Lib.hid (HYS.out _ hp)
          clear hp hxy HNO HYS
          simp only [Option.isSome_some]
          have HKO := Lib.hid hK6
          have HOO := Lib.hid hO6
          have HRO := Lib.hid hR6
          have HYO := Lib.hid ho6
          have HUO := Lib.hid hU6
          have HN1 := Lib.hid (box_ne hK6 hO6 (by decide))
          have HN2 := Lib.hid (rowsX_ne ho6 hO6 (by decide))
          have HN3 := Lib.hid (box_ne hR6 hO6 (by decide))
          have HN4 := Lib.hid (box_ne hK6 ho6 (by decide))
          obtain ⟨hb2, r0, r1, r2, r3, r4, r5⟩ := hK6.cells
          clear hK6 hR6 hO6 ho6 hU6
          go_wp2_with (at_builtin; refine wpList_append_own _ rfl _ _ 25 rfl w.heap.size 133 i0 (.agg #[.int .i64 0, .int .i64 0]) 2 16 Tryz.underlying25 hi hz0 hz1 hz2 rfl (by decide) _ _ _ rfl ((HOO.out.alloc _).alloc _) ⟨w6.heap.size + 1, 0, none⟩ 1 1 (prC ⟨x, y⟩) rfl rfl (new_cells (prC ⟨x, y⟩) _ (size_alloc _ _).symm) (prC_one _) (by unfold maxLen; omega) (by omega) (by simp; omega) ?_; rintro v2 w7 hown2 hgr2 -; have hU8 := Lib.hid (((Up.refl w6).alloc (.cells #[.int .i64 x, .int .i64 y] 133)).alloc (.cells #[.int .i64 x, .int .i64 y] 133)); have hKp := KnAt.gr (HKO.out.up hU8.out) hgr2 HN1.out; have hRp := KnAt.gr (HRO.out.up hU8.out) hgr2 HN3.out; have hYp := World.ownsRow.kept (ownsRow_up HYO.out hU8.out) hgr2 HN2.out; have hUp : Up w w7 := Up.grown (HUO.out.trans hU8.out) hgr2 (fun q hq => (HOO.out.lt q hq).1); obtain ⟨a3, c3, rfl⟩ := ownsRow_shape hown2; have HNB2 := Lib.hid (box_ne hKp hown2 (by decide)); have HZ := Lib.hid (And.intro hKp (And.intro hRp (And.intro hYp (And.intro hUp hown2)))); obtain ⟨hpz, r0, r1, r2, r3, r4, r5⟩ := KnAt.cells hKp; have hfp := box_free hKp; clear hKp hRp hYp hUp hown2 hgr2 hU8)
          go_roundw
          case rel =>
            obtain ⟨z1, z2, z3, z4, z5⟩ := HZ.out
            refine ⟨j + 1, .slice a3 (ps.length + 1) c3, ps ++ [⟨x, y⟩], by omega, by go_num, HN.out, box_set z1 3 (.slice a3 (ps.length + 1) c3), ?_, ownsRow_setb z3 HN4.out _ _, box_other z2 (p := ⟨kb, 3, none⟩) hn1 _, z4.set (p := ⟨kb, 3, none⟩) hwk _⟩
            unfold ownPr
            rw [cellsPr_snoc, List.length_append]
            exact ownsRow_setb z5 HNB2.out _ _
          case measure => simp [intOf]; omega
      · have hjl : j = ys.length := by omega
        have HPP : Hid (prsK t = if validK ⟨s, ps, n1, n2⟩ then some ⟨s, ps, n1, n2⟩ else none) := by
          have h1 := HPS.out
          rw [hjl, List.take_length] at h1
          unfold Hid; rw [HLY.out, h1]; rfl
        clear hjl
        have cV := fun wx h => kvI_gen ⟨s, ps, n1, n2⟩ ((.slice a' ps.length c')) 0 wx hl h hpl
        have hrd := fun wx (h : Up wr wx) => ((RdP.of_own hO).low (Nat.zero_le _)).up h
        cases hv : validK ⟨s, ps, n1, n2⟩
        · have e : Hid (prsK t = none) := by unfold Hid; rw [HPP.out, hv]; rfl
          rw [hv] at cV
          clear hv
          obtain ⟨hb5, r0, r1, r2, r3, r4, r5⟩ := hK.cells
          go_wp2_with fail
          (with_reducible refine (cV _ (hrd _ (Up.refl _))).mono ?_); rintro e w7 ⟨rfl, U7⟩
          have hR7 : KnAt w.heap.size knZ (.slice none 0 0) w7 := hR.up U7
          have hU7 := hU.trans U7
          obtain ⟨hb6, q0, q1, q2, q3, q4, q5⟩ := hR7.cells
          simp only [knZ, st0] at q0 q1 q2 q3 q4 q5
          have hf6 := box_free hR7
          clear U7 hK hO hR hU HPP hb5 r0 r1 r2 r3 r4 r5 hrd cV
          go_wp2
          refine bodyPost_ret (v := .tuple #[kV knZ (.slice none 0 0), .bool false]) (by simp [results, Tryz.results50, go_sem, q0, q1, q2, q3, q4, q5, knZ, st0]) rfl ⟨_, by rw [e.out]; rfl, by rw [e.out]; exact World.ownsRow_nil _ _ _ _, ?_⟩
          (repeat (first | with_reducible exact Up.refl _ | with_reducible assumption | with_reducible refine Up.set ?_ (by first | exact Nat.le_refl _ | (simp only []; omega) | (simp; omega)) _ | with_reducible refine Up.alloc ?_ _ | with_reducible refine Up.drew ?_ | refine Up.trans ?_ (by with_reducible assumption)))
        · have e : Hid (prsK t = some ⟨s, ps, n1, n2⟩) := by unfold Hid; rw [HPP.out, hv]; rfl
          have cY := fun wx h => copyI_any ⟨s, ps, n1, n2⟩ ((.slice a' ps.length c')) 0 wx h (by have := (validK_small hv).2.1; have h2 : ps.length ≤ 1024 := this; show ps.length ≤ 1048576; omega)
          rw [hv] at cV
          clear hv
          obtain ⟨hb5, r0, r1, r2, r3, r4, r5⟩ := hK.cells
          go_wp2_with fail
          (with_reducible refine (cV _ (hrd _ (Up.refl _))).mono ?_); rintro e w7 ⟨rfl, U7⟩
          have hK7 := hK.up U7
          have hR7 : KnAt w.heap.size knZ (.slice none 0 0) w7 := hR.up U7
          have hU7 := hU.trans U7
          have hr7 := hrd _ U7
          clear U7 hK hO hR hU HPP hb5 r0 r1 r2 r3 r4 r5 hrd cV
          obtain ⟨hb5, r0, r1, r2, r3, r4, r5⟩ := hK7.cells
          go_wp2_with fail
          (with_reducible refine (cY _ hr7).mono ?_); rintro e w8 ⟨v8, rfl, ho8, U8⟩
          obtain ⟨a8, c8, rfl⟩ := ownsRow_shape ho8
          have hR8 : KnAt w.heap.size knZ (.slice none 0 0) w8 := hR7.up U8
          have HU8 := Lib.hid (hU7.trans U8)
          have HO8 := Lib.hid (ownsRow_base ho8 hU7.size)
          have HB := Lib.hid (box_ne hR8 ho8 (by decide))
          obtain ⟨hb6, q0, q1, q2, q3, q4, q5⟩ := hR8.cells
          simp only [knZ, st0] at q0 q1 q2 q3 q4 q5
          have hf6 := box_free hR8
          clear U8 hK7 hR7 hU7 hr7 ho8 hb5 r0 r1 r2 r3 r4 r5 cY
          simp only [kV]
          go_wp2
          refine bodyPost_ret (v := .tuple #[kV ⟨s, ps, n1, n2⟩ (.slice a8 ps.length c8), .bool true]) (by simp [results, Tryz.results50, go_sem, q0, q1, q2, q3, q4, q5]) rfl ⟨.slice a8 ps.length c8, by rw [e.out]; rfl, ?_, ?_⟩
          · rw [e.out]
            exact KnW.own HO8.out HB.out ⟨s, ps, n1, n2⟩ (.slice a8 ps.length c8)
          · exact KnW.up HU8.out (Nat.le_refl _) ⟨s, ps, n1, n2⟩ (.slice a8 ps.length c8)
end Go.Proofs.YtekogcjdaolcbaaGreatDoor

/- The program's ParseWriter. Conditions: fewer than 2^20 bytes; the listed variables lie as they were laid. -/
namespace Go.Proofs.YtekogcjdaolcbaaGreatDoor
open Go Go.RowKit
set_option maxRecDepth 100000 in
set_option maxHeartbeats 1000000 in
theorem withoutDash_any (l : List UInt8) (w : World) : Calls Tryz.prog 51  #[.string (bs l)] w (fun e w' => e = .returned (.tuple #[.string (bs ((dashP l).getD [])), .bool (dashP l).isSome]) ∧ w = w') := by
  by_cases h : l = [45]
  · have e : Hid (dashP l = some []) := if_pos h
    have hb := bs_eq h
    have hb2 := bl_eq h
    have hb1 : ((bs l).toList == (⟨#[45]⟩ : ByteArray).toList) = true := hb
    clear h
    go_enter Tryz.func51, Tryz.ntmps51
    go_wp2
    ((try simp only [Exit.inBlock, Exit.then]); refine bodyPost_ret (v := _) (by simp [results, Tryz.results51, go_sem]; rfl) rfl ?_)
    exact ⟨by rw [e.out]; rfl, rfl⟩
  · by_cases h0 : l = []
    · have e : Hid (dashP l = none) := by unfold Hid dashP; rw [if_neg h, if_pos h0]
      subst h0
      have hb : (bs []).toList.isEmpty = true := by rw [Lib.toList_data, bs_data]; rfl
      have hb1 : ((bs []).toList == (⟨#[45]⟩ : ByteArray).toList) = false := bs_dif (l := []) (m := [45]) (by simp)
      have hb2 := bl_ne (l := []) (m := [45]) (by simp)
      go_enter Tryz.func51, Tryz.ntmps51
      go_wp2
      ((try simp only [Exit.inBlock, Exit.then]); refine bodyPost_ret (v := _) (by simp [results, Tryz.results51, go_sem]; rfl) rfl ?_)
      exact ⟨by rw [e.out]; rfl, rfl⟩
    · have e : Hid (dashP l = some l) := by unfold Hid dashP; rw [if_neg h, if_neg h0]
      have hb : (bs l).toList.isEmpty = false := by rw [Lib.toList_data, bs_data]; cases l with | nil => exact absurd rfl h0 | cons _ _ => rfl
      have hb1 : ((bs l).toList == (⟨#[45]⟩ : ByteArray).toList) = false := bs_dif h
      have hb2 := bl_ne h
      clear h h0
      go_enter Tryz.func51, Tryz.ntmps51
      go_wp2
      ((try simp only [Exit.inBlock, Exit.then]); refine bodyPost_ret (v := _) (by simp [results, Tryz.results51, go_sem]; rfl) rfl ?_)
      exact ⟨by rw [e.out]; rfl, rfl⟩
theorem dashP_len (l : List UInt8) : ((dashP l).getD []).length ≤ l.length := by unfold dashP; split; simp; split <;> simp
theorem wr4_eq {a b c d : List UInt8} {g : Bool} (hg : begP d = some g) : wr4 a b c d = if ((prsK a).isSome && ((dashP b).isSome && ((prsHex ((dashP b).getD [])).isSome && (dashP c).isSome))) then (if wrvB ⟨(prsK a).getD knZ, (prsHex ((dashP b).getD [])).getD [], (dashP c).getD [], g⟩ then some ⟨(prsK a).getD knZ, (prsHex ((dashP b).getD [])).getD [], (dashP c).getD [], g⟩ else none) else none := by
  unfold wr4
  rw [hg]
  cases prsK a <;> cases dashP b <;> cases dashP c <;> simp
  all_goals (rename_i x y z; cases prsHex y <;> simp)
theorem wr4_no {a b c d : List UInt8} (hg : begP d = none) : wr4 a b c d = none := by unfold wr4; rw [hg]
theorem prsK_lit (a : List UInt8) : -9223372036854775808 ≤ ((prsK a).getD knZ).set.lit ∧ ((prsK a).getD knZ).set.lit ≤ 9223372036854775807 := by
  cases h : prsK a with
  | none => simp [knZ, st0]
  | some k => have := setOk_small (validK_small (fmtK_prs h).2).1; simp only [Option.getD_some]; omega
set_option maxRecDepth 100000 in
set_option maxHeartbeats 8000000 in
theorem pwI_any (t : List UInt8) (w : World) (hL : Lay w) (ht : t.length ≤ 1048576) :
    Calls Tryz.prog 10  #[.string (bs t)] w (PwPost (prsW t) w) := by
  unfold PwPost
  have zT := bs_size t
  have cS := fun wx (hx : Up w wx) => split_any (bs t) 124 wx (hL.up hx).max (by omega)
  rw [bs_data] at cS
  have hxp := splL_piece_le 124 t
  obtain ⟨xs, hxs⟩ : ∃ xs, xs = splL 124 t := ⟨_, rfl⟩
  rw [← hxs] at cS hxp
  have HL := Lib.hid hL
  clear hL
  by_cases h4 : xs.length = 4
  case' neg =>
    have e : Hid (prsW t = none) := prsW_len4 (by rw [← hxs]; exact h4)
    have hB4 : ((xs.length : Int) == 4) = false := by rw [beq_eq_false_iff_ne]; omega
    clear hxs hxp
    go_enter Tryz.func10, Tryz.ntmps10
    go_wp2_with fail
    (with_reducible refine (cS _ (by (repeat (first | with_reducible exact Up.refl _ | with_reducible assumption | with_reducible refine Up.set ?_ (by first | exact Nat.le_refl _ | (simp only []; omega) | (simp; omega)) _ | with_reducible refine Up.alloc ?_ _ | with_reducible refine Up.drew ?_ | refine Up.trans ?_ (by with_reducible assumption))))).mono ?_); rintro e w1 ⟨vp, rfl, ho, U1⟩
    obtain ⟨av, cv, rfl⟩ := ownsRow_shape ho
    simp only [List.length_map] at ho ⊢
    have hR1 : WrAt w.heap.size wr0 (.slice none 0 0) w1 := box_up U1 (MapKept.heap_alloc w _).1
    have hU1 : Up w w1 := by (repeat (first | with_reducible exact Up.refl _ | with_reducible assumption | with_reducible refine Up.set ?_ (by first | exact Nat.le_refl _ | (simp only []; omega) | (simp; omega)) _ | with_reducible refine Up.alloc ?_ _ | with_reducible refine Up.drew ?_ | refine Up.trans ?_ (by with_reducible assumption)))
    obtain ⟨hb1, q0, q1, q2, q3, q4, q5, q6, q7, q8⟩ := hR1.cells
    have hf1 := box_free hR1
    simp only [wr0] at q0 q1 q2 q3 q4 q5 q6 q7 q8
    clear U1 cS
    rename_i e
    go_wp2
    refine bodyPost_ret (v := .tuple #[wrV wr0 (.slice none 0 0), .bool false]) (by simp [results, Tryz.results10, go_sem, q0, q1, q2, q3, q4, q5, q6, q7, q8, wr0, wrV]; rfl) rfl ⟨_, by rw [e.out]; rfl, by rw [e.out]; exact World.ownsRow_nil _ _ _ _, ?_⟩
    (repeat (first | with_reducible exact Up.refl _ | with_reducible assumption | with_reducible refine Up.set ?_ (by first | exact Nat.le_refl _ | (simp only []; omega) | (simp; omega)) _ | with_reducible refine Up.alloc ?_ _ | with_reducible refine Up.drew ?_ | refine Up.trans ?_ (by with_reducible assumption)))
  obtain ⟨a, b, c, d, hx⟩ := len4 h4
  rw [hx] at cS hxp hxs
  have hal := hxp a (by simp)
  have hbl := hxp b (by simp)
  have hcl := hxp c (by simp)
  have hW4 := Lib.hid (prsW_4 hxs.symm)
  clear hxp hxs h4 hx xs
  cases hbeg : begP d with
  | none =>
    have E : Hid (prsW t = none) := by unfold Hid; rw [hW4.out, wr4_no hbeg]
    have hn : d ≠ [110, 101, 119] := fun h => by rw [h] at hbeg; cases hbeg
    have hm : d ≠ [98, 101, 103, 117, 110] := fun h => by rw [h] at hbeg; cases hbeg
    have hb1 := bl_ne hn
    have hb2 := bl_ne hm
    clear hbeg hn hm
    go_enter Tryz.func10, Tryz.ntmps10
    go_wp2_with fail
    (with_reducible refine (cS _ (by (repeat (first | with_reducible exact Up.refl _ | with_reducible assumption | with_reducible refine Up.set ?_ (by first | exact Nat.le_refl _ | (simp only []; omega) | (simp; omega)) _ | with_reducible refine Up.alloc ?_ _ | with_reducible refine Up.drew ?_ | refine Up.trans ?_ (by with_reducible assumption))))).mono ?_); rintro e0 w1 ⟨vp, rfl, ho, U1⟩
    obtain ⟨av, cv, rfl⟩ := ownsRow_shape ho
    simp only [List.length_map, List.length_cons, List.length_nil, Nat.zero_add] at ho ⊢
    have hR1 : WrAt w.heap.size wr0 (.slice none 0 0) w1 := box_up U1 (MapKept.heap_alloc w _).1
    have hU1 : Up w w1 := by (repeat (first | with_reducible exact Up.refl _ | with_reducible assumption | with_reducible refine Up.set ?_ (by first | exact Nat.le_refl _ | (simp only []; omega) | (simp; omega)) _ | with_reducible refine Up.alloc ?_ _ | with_reducible refine Up.drew ?_ | refine Up.trans ?_ (by with_reducible assumption)))
    obtain ⟨g, rfl, hg, -, hcc1, hcc2, c0⟩ := own_strs ho (k := 0) (by simp)
    have c3 := own_strC ho (k := 3) (by simp)
    simp only [List.getElem_cons_zero, List.getElem_cons_succ] at c0 c3
    obtain ⟨hb0, q0, q1, q2, q3, q4, q5, q6, q7, q8⟩ := hR1.cells
    have hf1 := box_free hR1
    simp only [wr0] at q0 q1 q2 q3 q4 q5 q6 q7 q8
    clear U1 cS
    have e := E
    go_wp2
    refine bodyPost_ret (v := .tuple #[wrV wr0 (.slice none 0 0), .bool false]) (by simp [results, Tryz.results10, go_sem, q0, q1, q2, q3, q4, q5, q6, q7, q8, wr0, wrV]; rfl) rfl ⟨_, by rw [e.out]; rfl, by rw [e.out]; exact World.ownsRow_nil _ _ _ _, ?_⟩
    (repeat (first | with_reducible exact Up.refl _ | with_reducible assumption | with_reducible refine Up.set ?_ (by first | exact Nat.le_refl _ | (simp only []; omega) | (simp; omega)) _ | with_reducible refine Up.alloc ?_ _ | with_reducible refine Up.drew ?_ | refine Up.trans ?_ (by with_reducible assumption)))
  | some gb =>
    have HE : Hid (prsW t = if ((prsK a).isSome && ((dashP b).isSome && ((prsHex ((dashP b).getD [])).isSome && (dashP c).isSome))) then (if wrvB ⟨(prsK a).getD knZ, (prsHex ((dashP b).getD [])).getD [], (dashP c).getD [], gb⟩ then some ⟨(prsK a).getD knZ, (prsHex ((dashP b).getD [])).getD [], (dashP c).getD [], gb⟩ else none) else none) := by unfold Hid; rw [hW4.out, wr4_eq hbeg]
    have hdb := begP_text hbeg
    have hd1 : ((bs d).toList == [98, 101, 103, 117, 110]) = gb := by rw [hdb, Lib.toList_data, bs_data]; cases gb <;> rfl
    have hd2 : ((bs d).toList == [110, 101, 119]) = !gb := by rw [hdb, Lib.toList_data, bs_data]; cases gb <;> rfl
    have cA := fun wx (hx : Up w wx) => pkI_any a wx (HL.out.up hx) (by omega)
    have cN := fun wx => withoutDash_any b wx
    have cM := fun wx => withoutDash_any c wx
    have hnb := dashP_len b
    have hnc := dashP_len c
    have cH := fun wx => phI_any ((dashP b).getD []) wx (by omega)
    have hph := prsHex_len ((dashP b).getD [])
    have hkp := prsK_len_le a (by omega)
    have hl := prsK_lit a
    unfold PkPost at cA
    clear hbeg hdb hW4
    generalize (prsK a).getD knZ = k at *
    generalize (prsHex ((dashP b).getD [])).getD [] = p at *
    generalize (dashP c).getD [] = q at *
    generalize (prsHex ((dashP b).getD [])).isSome = bH at *
    generalize (dashP b).getD [] = nb at *
    generalize (prsK a).isSome = bA at *
    generalize (dashP b).isSome = bB at *
    generalize (dashP c).isSome = bC at *
    simp only [kV] at cA
    have hpl : p.length ≤ 1048576 := by omega
    have hql : q.length ≤ 1048576 := by omega
    have hgcase : gb = true ∨ gb = false := by cases gb <;> simp
    go_enter Tryz.func10, Tryz.ntmps10
    go_wp2_with fail
    (with_reducible refine (cS _ (by (repeat (first | with_reducible exact Up.refl _ | with_reducible assumption | with_reducible refine Up.set ?_ (by first | exact Nat.le_refl _ | (simp only []; omega) | (simp; omega)) _ | with_reducible refine Up.alloc ?_ _ | with_reducible refine Up.drew ?_ | refine Up.trans ?_ (by with_reducible assumption))))).mono ?_); rintro e0 w1 ⟨vp, rfl, ho, U1⟩
    obtain ⟨av, cv, rfl⟩ := ownsRow_shape ho
    simp only [List.length_map, List.length_cons, List.length_nil, Nat.zero_add] at ho ⊢
    have hR1 : WrAt w.heap.size wr0 (.slice none 0 0) w1 := box_up U1 (MapKept.heap_alloc w _).1
    have hU1 : Up w w1 := by (repeat (first | with_reducible exact Up.refl _ | with_reducible assumption | with_reducible refine Up.set ?_ (by first | exact Nat.le_refl _ | (simp only []; omega) | (simp; omega)) _ | with_reducible refine Up.alloc ?_ _ | with_reducible refine Up.drew ?_ | refine Up.trans ?_ (by with_reducible assumption)))
    obtain ⟨g, rfl, hg, -, hcc1, hcc2, c0⟩ := own_strs ho (k := 0) (by simp)
    have c3 := own_strC ho (k := 3) (by simp)
    simp only [List.getElem_cons_zero, List.getElem_cons_succ] at c0 c3
    have hb0 := hR1.cells.1
    have hn1 : ¬ w.heap.size = w1.heap.size := by omega
    have hn2 : ¬ w1.heap.size = w.heap.size := by omega
    clear U1 cS
    rcases hgcase with hgg | hgg
    all_goals
      rw [hgg] at hd1 hd2
      have HGG := Lib.hid hgg
      simp only [Bool.not_true, Bool.not_false] at hd2
      clear hgg
      go_wp2_with fail
      (with_reducible refine (cA _ (by (repeat (first | with_reducible exact Up.refl _ | with_reducible assumption | with_reducible refine Up.set ?_ (by first | exact Nat.le_refl _ | (simp only []; omega) | (simp; omega)) _ | with_reducible refine Up.alloc ?_ _ | with_reducible refine Up.drew ?_ | refine Up.trans ?_ (by with_reducible assumption))))).mono ?_); rintro e0 w2 ⟨v2, rfl, ho2, U2⟩
      obtain ⟨a2, cc2, rfl⟩ := ownsRow_shape ho2
      have hX2 : WrAt w1.heap.size wr0 (.slice none 0 0) w2 := box_up U2 (MapKept.heap_alloc w1 _).1
      have hR2 : WrAt w.heap.size wr0 (.slice none 0 0) w2 := box_up U2 (box_up ((Up.refl _).alloc _) hR1)
      have hU2 : Up w w2 := by (repeat (first | with_reducible exact Up.refl _ | with_reducible assumption | with_reducible refine Up.set ?_ (by first | exact Nat.le_refl _ | (simp only []; omega) | (simp; omega)) _ | with_reducible refine Up.alloc ?_ _ | with_reducible refine Up.drew ?_ | refine Up.trans ?_ (by with_reducible assumption)))
      have hof2 := ownsRow_up ho (((Up.refl _).alloc _).trans U2)
      have ho2 := ownsRow_base ho2 (show w.heap.size ≤ _ by rw [size_alloc]; omega)
      have hwk : w.heap.size ≤ w1.heap.size := Nat.le_of_lt hb0
      have HNF := Lib.hid (box_ne hX2 hof2 (by decide))
      have HNO := Lib.hid (box_ne hX2 ho2 (by decide))
      clear c0 c3 hR1 hU1 U2 ho hb0
      have x1 := own_strC hof2 (k := 1) (by simp)
      simp only [List.getElem_cons_zero, List.getElem_cons_succ] at x1
      have hgk : ¬ g = w1.heap.size := fun h => HNF.out (by rw [h]; rfl)
      have hgk2 : ¬ w1.heap.size = g := fun h => hgk h.symm
      obtain ⟨hb2, r0, r1, r2, r3, r4, r5, r6, r7, r8⟩ := hX2.cells
      simp only [wr0] at r0 r1 r2 r3 r4 r5 r6 r7 r8
      have hf2 := box_free hX2
      have hX3 : WrAt w1.heap.size ⟨k, [], [], false⟩ (.slice a2 k.ps.length cc2) (KnW w2 w1.heap.size k (.slice a2 k.ps.length cc2)) := by
        unfold KnW
        exact box_set (box_set (box_set (box_set (box_set (box_set hX2 0 (.int .i64 k.set.ord)) 1 (.int .i64 k.set.lit)) 2 (.int .i64 k.set.most)) 3 (.slice a2 k.ps.length cc2)) 4 (.int .i64 k.base)) 5 (.int .i64 k.last)
      have hR3 : WrAt w.heap.size wr0 (.slice none 0 0) (KnW w2 w1.heap.size k (.slice a2 k.ps.length cc2)) := (KnW.other hn1 _ _).trans hR2
      have hof3 := KnW.own hof2 HNF.out k (.slice a2 k.ps.length cc2)
      have ho3 := KnW.own ho2 HNO.out k (.slice a2 k.ps.length cc2)
      have hU3 := KnW.up hU2 hwk k (.slice a2 k.ps.length cc2)
      have HA := Lib.hid (And.intro hX3 (And.intro hR3 (And.intro hof3 (And.intro ho3 hU3))))
      clear hX3 hR3 hof3 ho3 hU3
      go_wp2_with fail
      (with_reducible refine (cN _).mono ?_); rintro e0 w3 ⟨rfl, rfl⟩
      go_wp2_with fail
      rw [show (World.setCell (World.setCell (World.setCell (World.setCell (World.setCell (World.setCell w2 ⟨w1.heap.size, 0, none⟩ (.int .i64 k.set.ord)) ⟨w1.heap.size, 1, none⟩ (.int .i64 k.set.lit)) ⟨w1.heap.size, 2, none⟩ (.int .i64 k.set.most)) ⟨w1.heap.size, 3, none⟩ (.slice a2 k.ps.length cc2)) ⟨w1.heap.size, 4, none⟩ (.int .i64 k.base)) ⟨w1.heap.size, 5, none⟩ (.int .i64 k.last)) = KnW w2 w1.heap.size k (.slice a2 k.ps.length cc2) from rfl]
      clear hX2 hR2 hof2 ho2 hU2 hb2 r0 r1 r2 r3 r4 r5 r6 r7 r8 hf2 x1
      generalize KnW w2 w1.heap.size k (.slice a2 k.ps.length cc2) = W3 at *
      obtain ⟨hX3, hR3, hof3, ho3, hU3⟩ := HA.out
      clear HA
      (with_reducible refine (cH _).mono ?_); rintro e0 w4 ⟨rfl, U4⟩
      have hX4 := hX3.up U4
      have hR4 := hR3.up U4
      have hof4 := ownsRow_up hof3 U4
      have ho4 := ownsRow_up ho3 U4
      have hU4 := hU3.trans U4
      clear hX3 hR3 hof3 ho3 hU3 U4
      have x2 := own_strC hof4 (k := 2) (by simp)
      have x3 := own_strC hof4 (k := 3) (by simp)
      simp only [List.getElem_cons_zero, List.getElem_cons_succ] at x2 x3
      obtain ⟨hb2, r0, r1, r2, r3, r4, r5, r6, r7, r8⟩ := hX4.cells
      simp only [bs_nil] at r6 r7
      have hf2 := box_free hX4
      obtain ⟨hb6, q0, q1, q2, q3, q4, q5, q6, q7, q8⟩ := hR4.cells
      simp only [wr0] at q0 q1 q2 q3 q4 q5 q6 q7 q8
      have hf6 := box_free hR4
      go_wp2_with fail
      (with_reducible refine (cM _).mono ?_); rintro e0 w5 ⟨rfl, rfl⟩
      cases bA
      · have e : Hid (prsW t = none) := by unfold Hid; rw [HE.out]; simp
        clear HE hX4 hR4 hof4 ho4
        go_wp2
        refine bodyPost_ret (v := .tuple #[wrV wr0 (.slice none 0 0), .bool false]) (by simp [results, Tryz.results10, go_sem, q0, q1, q2, q3, q4, q5, q6, q7, q8, wr0, wrV, hn1, hn2]; rfl) rfl ⟨_, by rw [e.out]; rfl, by rw [e.out]; exact World.ownsRow_nil _ _ _ _, ?_⟩
        (repeat (first | with_reducible exact Up.refl _ | with_reducible assumption | with_reducible refine Up.set ?_ (by first | exact Nat.le_refl _ | (simp only []; omega) | (simp; omega)) _ | with_reducible refine Up.alloc ?_ _ | with_reducible refine Up.drew ?_ | refine Up.trans ?_ (by with_reducible assumption)))
      cases bB
      · have e : Hid (prsW t = none) := by unfold Hid; rw [HE.out]; simp
        clear HE hX4 hR4 hof4 ho4
        go_wp2
        refine bodyPost_ret (v := .tuple #[wrV wr0 (.slice none 0 0), .bool false]) (by simp [results, Tryz.results10, go_sem, q0, q1, q2, q3, q4, q5, q6, q7, q8, wr0, wrV, hn1, hn2]; rfl) rfl ⟨_, by rw [e.out]; rfl, by rw [e.out]; exact World.ownsRow_nil _ _ _ _, ?_⟩
        (repeat (first | with_reducible exact Up.refl _ | with_reducible assumption | with_reducible refine Up.set ?_ (by first | exact Nat.le_refl _ | (simp only []; omega) | (simp; omega)) _ | with_reducible refine Up.alloc ?_ _ | with_reducible refine Up.drew ?_ | refine Up.trans ?_ (by with_reducible assumption)))
      cases bH
      · have e : Hid (prsW t = none) := by unfold Hid; rw [HE.out]; simp
        clear HE hX4 hR4 hof4 ho4
        go_wp2
        refine bodyPost_ret (v := .tuple #[wrV wr0 (.slice none 0 0), .bool false]) (by simp [results, Tryz.results10, go_sem, q0, q1, q2, q3, q4, q5, q6, q7, q8, wr0, wrV, hn1, hn2]; rfl) rfl ⟨_, by rw [e.out]; rfl, by rw [e.out]; exact World.ownsRow_nil _ _ _ _, ?_⟩
        (repeat (first | with_reducible exact Up.refl _ | with_reducible assumption | with_reducible refine Up.set ?_ (by first | exact Nat.le_refl _ | (simp only []; omega) | (simp; omega)) _ | with_reducible refine Up.alloc ?_ _ | with_reducible refine Up.drew ?_ | refine Up.trans ?_ (by with_reducible assumption)))
      cases bC
      · have e : Hid (prsW t = none) := by unfold Hid; rw [HE.out]; simp
        clear HE hX4 hR4 hof4 ho4
        go_wp2
        refine bodyPost_ret (v := .tuple #[wrV wr0 (.slice none 0 0), .bool false]) (by simp [results, Tryz.results10, go_sem, q0, q1, q2, q3, q4, q5, q6, q7, q8, wr0, wrV, hn1, hn2]; rfl) rfl ⟨_, by rw [e.out]; rfl, by rw [e.out]; exact World.ownsRow_nil _ _ _ _, ?_⟩
        (repeat (first | with_reducible exact Up.refl _ | with_reducible assumption | with_reducible refine Up.set ?_ (by first | exact Nat.le_refl _ | (simp only []; omega) | (simp; omega)) _ | with_reducible refine Up.alloc ?_ _ | with_reducible refine Up.drew ?_ | refine Up.trans ?_ (by with_reducible assumption)))
      have HE2 : Hid (prsW t = if wrvB ⟨k, p, q, gb⟩ then some ⟨k, p, q, gb⟩ else none) := by unfold Hid; rw [HE.out]; simp
      clear HE
      have cV := fun wx h => wvI_any ⟨k, p, q, gb⟩ (.slice a2 k.ps.length cc2) 0 wx hl h (by show k.ps.length ≤ 1073741824; omega) (by show p.length ≤ 1073741824; omega) (by show q.length ≤ 1073741824; omega)
      have hXc : WrAt w1.heap.size ⟨k, p, q, gb⟩ (.slice a2 k.ps.length cc2) (World.setCell (World.setCell (World.setCell w4 ⟨w1.heap.size, 6, none⟩ (.string (bs p))) ⟨w1.heap.size, 7, none⟩ (.string (bs q))) ⟨w1.heap.size, 8, none⟩ (.bool gb)) := box_set (box_set (box_set hX4 6 (.string (bs p))) 7 (.string (bs q))) 8 (.bool gb)
      have hRc : WrAt w.heap.size wr0 (.slice none 0 0) (World.setCell (World.setCell (World.setCell w4 ⟨w1.heap.size, 6, none⟩ (.string (bs p))) ⟨w1.heap.size, 7, none⟩ (.string (bs q))) ⟨w1.heap.size, 8, none⟩ (.bool gb)) := box_other (box_other (box_other hR4 (p := ⟨w1.heap.size, 6, none⟩) hn1 _) (p := ⟨w1.heap.size, 7, none⟩) hn1 _) (p := ⟨w1.heap.size, 8, none⟩) hn1 _
      have hNO4 := box_ne hX4 ho4 (by decide)
      have hoc := ownsRow_setb (ownsRow_setb (ownsRow_setb ho4 hNO4 6 (.string (bs p))) hNO4 7 (.string (bs q))) hNO4 8 (.bool gb)
      have hUc : Up w (World.setCell (World.setCell (World.setCell w4 ⟨w1.heap.size, 6, none⟩ (.string (bs p))) ⟨w1.heap.size, 7, none⟩ (.string (bs q))) ⟨w1.heap.size, 8, none⟩ (.bool gb)) := ((hU4.set (p := ⟨w1.heap.size, 6, none⟩) hwk _).set (p := ⟨w1.heap.size, 7, none⟩) hwk _).set (p := ⟨w1.heap.size, 8, none⟩) hwk _
      rw [HGG.out] at hXc hRc hoc hUc
      have HA := Lib.hid (And.intro hXc (And.intro hRc (And.intro hoc hUc)))
      clear hXc hRc hoc hUc hX4 hR4 hof4 ho4 hNO4
      clear hU4
      cases hv : wrvB ⟨k, p, q, gb⟩
      · have e : Hid (prsW t = none) := by unfold Hid; rw [HE2.out, hv]; rfl
        rw [hv] at cV
        simp only [wrV] at cV
        rw [HGG.out] at cV
        clear hv HE2
        go_wp2_with fail
        obtain ⟨hXc, hRc, hoc, hUc⟩ := HA.out
        clear q0 q1 q2 q3 q4 q5 q6 q7 q8 hf6 hb6 r0 r1 r2 r3 r4 r5 r6 r7 r8 hf2 hb2 x2 x3
        (with_reducible refine (cV _ ((RdP.of_own hoc).low (Nat.zero_le _))).mono ?_); rintro e0 w5 ⟨rfl, U5⟩
        have hR5 := hRc.up U5
        have hU5 := hUc.trans U5
        clear hXc hRc hoc hUc U5 HA cV
        obtain ⟨hb6, q0, q1, q2, q3, q4, q5, q6, q7, q8⟩ := hR5.cells
        simp only [wr0] at q0 q1 q2 q3 q4 q5 q6 q7 q8
        have hf6 := box_free hR5
        go_wp2
        refine bodyPost_ret (v := .tuple #[wrV wr0 (.slice none 0 0), .bool false]) (by simp [results, Tryz.results10, go_sem, q0, q1, q2, q3, q4, q5, q6, q7, q8, wr0, wrV]; rfl) rfl ⟨_, by rw [e.out]; rfl, by rw [e.out]; exact World.ownsRow_nil _ _ _ _, ?_⟩
        (repeat (first | with_reducible exact Up.refl _ | with_reducible assumption | with_reducible refine Up.set ?_ (by first | exact Nat.le_refl _ | (simp only []; omega) | (simp; omega)) _ | with_reducible refine Up.alloc ?_ _ | with_reducible refine Up.drew ?_ | refine Up.trans ?_ (by with_reducible assumption)))
      · have e : Hid (prsW t = some ⟨k, p, q, gb⟩) := by unfold Hid; rw [HE2.out, hv]; rfl
        rw [hv] at cV
        simp only [wrV] at cV
        rw [HGG.out] at cV
        clear hv HE2
        go_wp2_with fail
        obtain ⟨hXc, hRc, hoc, hUc⟩ := HA.out
        clear q0 q1 q2 q3 q4 q5 q6 q7 q8 hf6 hb6 r0 r1 r2 r3 r4 r5 r6 r7 r8 hf2 hb2 x2 x3
        (with_reducible refine (cV _ ((RdP.of_own hoc).low (Nat.zero_le _))).mono ?_); rintro e0 w5 ⟨rfl, U5⟩
        have hR5 := hRc.up U5
        have hX5 : WrAt w1.heap.size ⟨k, p, q, gb⟩ (.slice a2 k.ps.length cc2) w5 := by rw [HGG.out]; exact hXc.up U5
        have HO5 := Lib.hid (ownsRow_up hoc U5)
        have HU5 := Lib.hid (hUc.trans U5)
        have HB := Lib.hid (box_ne hR5 HO5.out (by decide))
        clear hXc hRc hoc hUc U5 HA cV
        obtain ⟨hb2, r0, r1, r2, r3, r4, r5, r6, r7, r8⟩ := hX5.cells
        obtain ⟨hb6, q0, q1, q2, q3, q4, q5, q6, q7, q8⟩ := hR5.cells
        simp only [wr0] at q0 q1 q2 q3 q4 q5 q6 q7 q8
        have hf6 := box_free hR5
        go_wp2
        refine bodyPost_ret (v := .tuple #[wrV ⟨k, p, q, gb⟩ (.slice a2 k.ps.length cc2), .bool true]) (by simp [results, Tryz.results10, go_sem, q0, q1, q2, q3, q4, q5, q6, q7, q8, wrV]) rfl ⟨.slice a2 k.ps.length cc2, by rw [e.out]; rfl, ?_, ?_⟩
        · rw [e.out]
          exact WrW.own HO5.out HB.out ⟨k, p, q, gb⟩ (.slice a2 k.ps.length cc2)
        · exact WrW.up HU5.out (Nat.le_refl _) ⟨k, p, q, gb⟩ (.slice a2 k.ps.length cc2)
end Go.Proofs.YtekogcjdaolcbaaGreatDoor

