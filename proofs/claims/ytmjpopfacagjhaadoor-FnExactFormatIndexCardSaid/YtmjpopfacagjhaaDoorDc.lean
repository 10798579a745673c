/- The reference's decimal text of a number. Conditions: at most a million. -/
import Derived.Test.YtmjpopfacagjhaaDoorSets
import Derived.Lib.ItoaLen
import Derived.Lib.ItoaMem
namespace Go.Proofs.YtmjpopfacagjhaaDoor
set_option linter.unusedVariables false
set_option linter.unusedSimpArgs false
open Go.RowKit

theorem dec_big {m : Nat} (h : ¬ m < 10) : Lib.decDigits m = Lib.decDigits (m / 10) ++ [UInt8.ofNat (48 + m % 10)] := by rw [Lib.decDigits, dif_neg h]
theorem dec_len {n : Nat} (h : n ≤ 1000000) : (Lib.decDigits n).length ≤ 20 := by rw [Lib.decDigits_length]; exact Lib.nDigits_le20 n (by omega)
theorem digit_num (m : Nat) (h : m < 10) : strOfNums [48 + (m : Int)] = bs [UInt8.ofNat (48 + m)] := by
  have : ([UInt8.ofNat (48 + m)].map fun b => (b.toNat : Int)) = [48 + (m : Int)] := by
    simp; omega
  rw [← this, bs_num]
def RelDc (n : Nat) (w : World) (v out : Value) (wr : World) : Prop := ∃ (m : Nat) (l : List UInt8), m ≤ n ∧ l.length ≤ 20 ∧ Lib.decDigits m ++ l = Lib.decDigits n ∧ v = .int .i64 m ∧ out = .string (bs l) ∧ Up w wr

set_option maxRecDepth 100000 in
set_option maxHeartbeats 1000000 in
theorem decN_any (n : Nat) (w : World) (hn : n ≤ 1000000) :
    Calls Tryd.prog 14  #[.int .i64 n] w (Same (.string (bs (Lib.decDigits n))) w) := by
  have hc := conv_new1
  have hlen := dec_len hn
  go_enter Tryd.func14, Tryd.ntmps14
  go_wp2
  go_loopw [0, 3] (fun v out wr => RelDc n w v out wr) (fun v _ _ => (intOf v).toNat)
  case atStart => exact ⟨n, [], Nat.le_refl _, by simp, by simp, rfl, rfl, Up.refl _⟩
  case round =>
    obtain ⟨m, l, hm, hl, he, rfl, rfl, hup⟩ := hrel
    have hcl := bs_size l
    have z1 := strOfNums_size
    have HE := Lib.hid he
    have HL := Lib.hid hlen
    clear he hlen
    by_cases hlt : 9 < m
    · have HD : Hid (strOfNums [48 + (m : Int) % 10] = bs [UInt8.ofNat (48 + m % 10)]) := by unfold Hid; rw [show (48 + (m : Int) % 10) = 48 + ((m % 10 : Nat) : Int) by omega, digit_num _ (by omega)]
      have HC := Lib.hid (dec_big (m := m) (by omega))
      have HN : Hid (Lib.decDigits (m / 10) ++ (UInt8.ofNat (48 + m % 10) :: l) = Lib.decDigits n) := by
        have h1 := HE.out; rw [HC.out, List.append_assoc] at h1; exact h1
      have HZ : Hid (l.length + 1 ≤ 20) := by
        have h1 := congrArg List.length HN.out
        have h2 := HL.out
        simp only [List.length_append, List.length_cons] at h1
        show l.length + 1 ≤ 20
        omega
      clear HC HE
      go_wp2
      go_roundw
      case rel => exact ⟨m / 10, UInt8.ofNat (48 + m % 10) :: l, by omega, by have := HZ.out; simpa using this, HN.out, by go_num, by rw [HD.out, bs_app]; rfl, by (repeat (first | with_reducible exact Up.refl _ | with_reducible assumption | with_reducible refine Up.set ?_ (by first | exact Nat.le_refl _ | (simp only []; omega) | (simp; omega)) _ | with_reducible refine Up.alloc ?_ _ | with_reducible refine Up.drew ?_ | refine Up.trans ?_ (by with_reducible assumption)))⟩
      case measure => simp [intOf]; omega
    · have HD : Hid (strOfNums [48 + (m : Int)] = bs [UInt8.ofNat (48 + m)]) := by unfold Hid; rw [digit_num _ (by omega)]
      have HX : Hid (bs [UInt8.ofNat (48 + m)] ++ bs l = bs (Lib.decDigits n)) := by
        unfold Hid
        rw [bs_app, ← HE.out, Lib.decDigits_one (by omega)]
      clear HE
      go_wp2
      go_ret
      exact ⟨by rw [HD.out, HX.out]; rfl, by (repeat (first | with_reducible exact Up.refl _ | with_reducible assumption | with_reducible refine Up.set ?_ (by first | exact Nat.le_refl _ | (simp only []; omega) | (simp; omega)) _ | with_reducible refine Up.alloc ?_ _ | with_reducible refine Up.drew ?_ | refine Up.trans ?_ (by with_reducible assumption)))⟩

set_option maxRecDepth 100000 in
set_option maxHeartbeats 1000000 in
theorem dec_any (n : Int) (w : World) (h0 : -1000000 ≤ n) (h1 : n ≤ 1000000) :
    Calls Tryd.prog 14  #[.int .i64 n] w (Same (.string (bs (Lib.itoa n))) w) := by
  by_cases hn : 0 ≤ n
  · obtain ⟨m, rfl⟩ := Int.eq_ofNat_of_zero_le hn
    rw [show Lib.itoa ((m : Nat) : Int) = Lib.decDigits m from Lib.itoa_nonneg m]
    exact decN_any m w (by omega)
  · have hc := fun wx => decN_any n.natAbs wx (by omega)
    have he : -n = (n.natAbs : Int) := by omega
    have hl := dec_len (n := n.natAbs) (by omega)
    have hb := bs_size (Lib.decDigits n.natAbs)
    have HX : Hid ((⟨#[45]⟩ : ByteArray) ++ bs (Lib.decDigits n.natAbs) = bs (Lib.itoa n)) := by
      have e1 : Lib.itoa n = [45] ++ Lib.decDigits n.natAbs := by unfold Lib.itoa; rw [if_pos (by omega)]; rfl
      unfold Hid
      rw [e1, ← bs_app]; rfl
    generalize Lib.decDigits n.natAbs = D at *
    go_enter Tryd.func14, Tryd.ntmps14
    go_wp2_with (go_at_call 14; (try rw [he]); (with_reducible refine (hc _).mono ?_); rintro e w1 ⟨rfl, U1⟩)
    go_ret
    exact ⟨by rw [HX.out]; rfl, U1⟩

end Go.Proofs.YtmjpopfacagjhaaDoor
