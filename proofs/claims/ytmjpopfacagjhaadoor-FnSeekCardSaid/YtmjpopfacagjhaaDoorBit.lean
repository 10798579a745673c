/- Walks of the reference's functions on bits. Conditions: as each says. -/
import Derived.Test.YtmjpopfacagjhaaDoorSets
namespace Go.Proofs.YtmjpopfacagjhaaDoor
set_option linter.unusedVariables false
set_option linter.unusedSimpArgs false
open Go Go.RowKit

/-- The digit of a number at a place, as a byte. -/
def bitB (n i : Nat) : UInt8 := UInt8.ofNat (48 + n / 2 ^ i % 2)
theorem bitB_nat (n i : Nat) : (bitB n i).toNat = 48 + n / 2 ^ i % 2 := by unfold bitB; rw [UInt8.toNat_ofNat']; omega
def lowL (n wd : Nat) : List UInt8 := (List.range wd).map (bitB n)
theorem lowL_succ (n wd : Nat) : lowL n (wd + 1) = lowL n wd ++ [bitB n wd] := by simp [lowL, List.range_succ]
theorem lowL_length (n wd : Nat) : (lowL n wd).length = wd := by simp [lowL]
/-- The bits of a code in an order. -/
def codeL (o : Int) (n wd : Nat) : List UInt8 := if o = 0 then lowL n wd else (lowL n wd).reverse
theorem codeL_length (o : Int) (n wd : Nat) : (codeL o n wd).length = wd := by unfold codeL; split <;> simp [lowL_length]
theorem codeL_low {o : Int} (h : o = 0) (n wd : Nat) : codeL o n (wd + 1) = codeL o n wd ++ [bitB n wd] := by unfold codeL; rw [if_pos h, if_pos h, lowL_succ]
theorem codeL_high {o : Int} (h : ¬ o = 0) (n wd : Nat) : codeL o n (wd + 1) = [bitB n wd] ++ codeL o n wd := by unfold codeL; rw [if_neg h, if_neg h, lowL_succ]; simp
theorem bit_num (n i : Nat) : strOfNums [48 + (n : Int) / ((2 ^ i : Nat) : Int) % 2] = bs [bitB n i] := by
  rw [← bs_num]
  congr 1
  simp only [List.map_cons, List.map_nil, List.cons.injEq, and_true]
  rw [bitB_nat]
  omega

theorem and_one (x : Nat) (h : x ≤ 1048576) : bits .and .i64 (x : Int) 1 = ((x % 2 : Nat) : Int) := by
  have := bits_mask .i64 63 (by decide) (fun n h0 h1 => IntWalk.i64_in n (by omega)) 1 (by omega) (x : Int) (by omega) (by omega)
  simpa using this
theorem digit_eq (n j : Nat) (hn : n ≤ 1048576) : wrap64 (48 + bits .and .i64 ((n : Int) / 2 ^ j) 1) % 256 = 48 + (n : Int) / ((2 ^ j : Nat) : Int) % 2 := by
  have h1 : ((n : Int) / 2 ^ j) = ((n / 2 ^ j : Nat) : Int) := by simp
  have h2 : n / 2 ^ j ≤ n := Nat.div_le_self _ _
  rw [h1, and_one _ (by omega), IntWalk.wrap64_in _ (by omega)]
  have h3 : ((n : Int) / ((2 ^ j : Nat) : Int)) = ((n / 2 ^ j : Nat) : Int) := by simp
  rw [h3]
  omega
def RelCd (o : Int) (n wd : Nat) (w : World) (out i : Value) (wr : World) : Prop := ∃ j : Nat, j ≤ wd ∧ i = .int .i64 j ∧ out = .string (bs (codeL o n j)) ∧ Up w wr

set_option maxRecDepth 100000 in
set_option maxHeartbeats 1000000 in
theorem l1Code_any (o : Int) (n wd : Nat) (w : World) (hn : n ≤ 1048576) (hw : wd ≤ 16) :
    Calls Tryd.prog 97  #[.int .i64 o, .int .i64 n, .int .i64 wd] w (Same (.string (bs (codeL o n wd))) w) := by
  have hc := conv_new1
  by_cases ho : o = 0
  · subst ho
    go_enter Tryd.func97, Tryd.ntmps97
    go_wp2
    go_loopw [7, 8] (fun out i wr => RelCd 0 n wd w out i wr) (fun _ i _ => wd - (intOf i).toNat)
    case atStart => exact ⟨0, Nat.zero_le _, rfl, by first | rfl | (unfold codeL; split <;> rfl), Up.refl _⟩
    case round =>
      obtain ⟨j, hj, rfl, rfl, hup⟩ := hrel
      have hcl := bs_size (codeL 0 n j)
      rw [codeL_length] at hcl
      have z1 := strOfNums_size
      by_cases hlt : j < wd
      · have HD : Hid (strOfNums [wrap64 (48 + bits .and .i64 ((n : Int) / 2 ^ j) 1) % 256] = bs [bitB n j]) := by unfold Hid; rw [digit_eq n j hn, bit_num]
        have HC := Lib.hid (codeL_low (o := 0) rfl n j)
        go_wp2
        go_roundw
        case rel => exact ⟨j + 1, by omega, by go_num, by rw [HD.out, bs_app, HC.out], by (repeat (first | with_reducible exact Up.refl _ | with_reducible assumption | with_reducible refine Up.set ?_ (by first | exact Nat.le_refl _ | (simp only []; omega) | (simp; omega)) _ | with_reducible refine Up.alloc ?_ _ | with_reducible refine Up.drew ?_ | refine Up.trans ?_ (by with_reducible assumption)))⟩
        case measure => simp [intOf]; omega
      · have e : j = wd := by omega
        subst e
        go_wp2
        go_ret
        exact ⟨rfl, hup⟩
  · have ho' : (o == 0) = false := by simpa using ho
    have HO := Lib.hid ho
    clear ho
    go_enter Tryd.func97, Tryd.ntmps97
    go_wp2
    go_loopw [7, 8] (fun out i wr => RelCd o n wd w out i wr) (fun _ i _ => wd - (intOf i).toNat)
    case atStart => exact ⟨0, Nat.zero_le _, rfl, by first | rfl | (unfold codeL; split <;> rfl), Up.refl _⟩
    case round =>
      obtain ⟨j, hj, rfl, rfl, hup⟩ := hrel
      have hcl := bs_size (codeL o n j)
      rw [codeL_length] at hcl
      have z1 := strOfNums_size
      by_cases hlt : j < wd
      · have HD : Hid (strOfNums [wrap64 (48 + bits .and .i64 ((n : Int) / 2 ^ j) 1) % 256] = bs [bitB n j]) := by unfold Hid; rw [digit_eq n j hn, bit_num]
        have HC := Lib.hid (codeL_high HO.out n j)
        go_wp2
        go_roundw
        case rel => exact ⟨j + 1, by omega, by go_num, by rw [HD.out, bs_app, HC.out], by (repeat (first | with_reducible exact Up.refl _ | with_reducible assumption | with_reducible refine Up.set ?_ (by first | exact Nat.le_refl _ | (simp only []; omega) | (simp; omega)) _ | with_reducible refine Up.alloc ?_ _ | with_reducible refine Up.drew ?_ | refine Up.trans ?_ (by with_reducible assumption)))⟩
        case measure => simp [intOf]; omega
      · have e : j = wd := by omega
        subst e
        go_wp2
        go_ret
        exact ⟨rfl, hup⟩

/-- The number with some bits, the first one being the highest. -/
def numF (l : List UInt8) : Int := l.foldl (fun (n : Int) b => 2 * n + (b.toNat : Int) - 48) 0
theorem numF_snoc (l : List UInt8) (b : UInt8) : numF (l ++ [b]) = 2 * numF l + b.toNat - 48 := by simp [numF, List.foldl_append]
def isBits (l : List UInt8) : Prop := ∀ b ∈ l, b.toNat = 48 ∨ b.toNat = 49
theorem numF_bd {l : List UInt8} (h : isBits l) : 0 ≤ numF l ∧ numF l < ((2 ^ l.length : Nat) : Int) := by
  induction l using snoc_ind with
  | h0 => decide
  | h1 l b ih =>
    obtain ⟨h1, h2⟩ := ih fun x hx => h x (List.mem_append_left _ hx)
    have hb := h b (List.mem_append_right _ (List.mem_singleton.2 rfl))
    rw [numF_snoc, List.length_append, List.length_cons, List.length_nil, Nat.zero_add, Nat.pow_succ]
    omega
theorem isBits.take {l : List UInt8} (h : isBits l) (k : Nat) : isBits (l.take k) := fun b hb => h b (List.mem_of_mem_take hb)
theorem isBits.drop {l : List UInt8} (h : isBits l) (k : Nat) : isBits (l.drop k) := fun b hb => h b (List.mem_of_mem_drop hb)
theorem isBits.app {l m : List UInt8} (h : isBits l) (h' : isBits m) : isBits (l ++ m) := fun b hb => (List.mem_append.1 hb).elim (h b) (h' b)
theorem isBits.rev {l : List UInt8} (h : isBits l) : isBits l.reverse := fun b hb => h b (List.mem_reverse.1 hb)
theorem isBits_code (o : Int) (n wd : Nat) : isBits (codeL o n wd) := by
  have h : isBits (lowL n wd) := fun b hb => by
    simp only [lowL, List.mem_map, List.mem_range] at hb
    obtain ⟨i, -, rfl⟩ := hb
    rw [bitB_nat]; omega
  unfold codeL
  split
  · exact h
  · exact h.rev
/-- The number with some bits in an order. -/
def numL (o : Int) (l : List UInt8) : Int := if o = 0 then numF l.reverse else numF l
theorem numL_bd {o : Int} {l : List UInt8} (h : isBits l) : 0 ≤ numL o l ∧ numL o l < ((2 ^ l.length : Nat) : Int) := by
  unfold numL
  split
  · have := numF_bd h.rev; rwa [List.length_reverse] at this
  · exact numF_bd h

def RelNu (f : Nat → Int) (n : Nat) (t i : Value) : Prop := ∃ j : Nat, j ≤ n ∧ i = .int .i64 j ∧ t = .int .i64 (f j)
theorem pow_len {k n : Nat} (h : k ≤ n) (hn : n ≤ 16) : 2 ^ k ≤ 65536 := by
  have : 2 ^ k ≤ 2 ^ 16 := Nat.pow_le_pow_right (by decide) (by omega)
  simpa using this

set_option maxRecDepth 100000 in
set_option maxHeartbeats 1000000 in
theorem l1Number_any (o : Int) (s : ByteArray) (w : World) (hb : isBits s.data.toList) (hs : s.size ≤ 16) :
    Calls Tryd.prog 95  #[.int .i64 o, .string s] w fun e w' => e = .returned (.int .i64 (numL o s.data.toList)) ∧ w = w' := by
  have hlen := ba_len s
  by_cases ho : o = 0
  · have hE : Hid (numL o s.data.toList = numF s.data.toList.reverse) := by unfold Hid numL; rw [if_pos ho]
    rw [hE.out]
    have hstep : ∀ j, j < s.size → numF (s.data.toList.reverse.take (j + 1)) = 2 * numF (s.data.toList.reverse.take j) + (s.data.toList[s.size - 1 - j]?.getD 0).toNat - 48 := fun j hj => by
      have hj' : j < s.data.toList.reverse.length := by rw [List.length_reverse]; omega
      rw [List.take_succ_eq_append_getElem hj', numF_snoc, List.getElem_reverse, List.getElem?_eq_getElem (by omega)]
      simp only [hlen, Option.getD_some]
    have hbd := fun j => numF_bd (hb.rev.take j)
    have hfin : numF (s.data.toList.reverse.take s.size) = numF s.data.toList.reverse := by rw [List.take_of_length_le (by rw [List.length_reverse]; omega)]
    have hlr : ∀ j, (s.data.toList.reverse.take j).length ≤ j := fun j => by rw [List.length_take]; omega
    generalize hf : (fun j => numF (s.data.toList.reverse.take j)) = f
    have hf' : ∀ j, numF (s.data.toList.reverse.take j) = f j := fun j => by rw [← hf]
    simp only [hf'] at hstep hbd hfin
    have hf0 : f 0 = 0 := by rw [← hf']; rfl
    have HS := Lib.hid hstep
    have HB := Lib.hid hbd
    have HF := Lib.hid hfin
    have HBi := Lib.hid hb
    clear hstep hbd hfin hf hf' hb hE
    subst ho
    go_enter Tryd.func95, Tryd.ntmps95
    go_wp2
    go_loop [5, 6] (fun t i => RelNu f s.size t i) (fun _ i => s.size - (intOf i).toNat)
    case atStart => exact ⟨0, Nat.zero_le _, rfl, by rw [hf0]⟩
    case round =>
      obtain ⟨j, hj, rfl, rfl⟩ := hrel
      have h1 := (HB.out j).1
      have h2 : f j < 65536 := by
        have := (HB.out j).2
        have h3 := pow_len (Nat.le_trans (hlr j) hj) hs
        omega
      by_cases hlt : j < s.size
      · have hu := u8_bd s[s.size - 1 - j]
        have HG : Hid (f (j + 1) = 2 * f j + (s[s.size - 1 - j].toNat : Int) - 48) := by
          have h5 := HS.out j hlt
          rw [List.getElem?_eq_getElem (by omega), Option.getD_some] at h5
          exact h5
        clear hf0
        generalize f j = fj at *
        go_wp2
        go_round
        case rel => exact ⟨j + 1, by omega, by go_num, by rw [HG.out]⟩
        case measure => simp [intOf]; omega
      · have e : j = s.size := by omega
        subst e
        go_wp2
        go_ret
        exact ⟨ret_int HF.out, rfl⟩
  · have hE : Hid (numL o s.data.toList = numF s.data.toList) := by unfold Hid numL; rw [if_neg ho]
    rw [hE.out]
    have hstep : ∀ j, j < s.size → numF (s.data.toList.take (j + 1)) = 2 * numF (s.data.toList.take j) + (s.data.toList[j]?.getD 0).toNat - 48 := fun j hj => by
      have hj' : j < s.data.toList.length := by omega
      rw [List.take_succ_eq_append_getElem hj', numF_snoc, List.getElem?_eq_getElem hj']
      simp only [Option.getD_some]
    have hbd := fun j => numF_bd (hb.take j)
    have hfin : numF (s.data.toList.take s.size) = numF s.data.toList := by rw [List.take_of_length_le (by omega)]
    have hlr : ∀ j, (s.data.toList.take j).length ≤ j := fun j => by rw [List.length_take]; omega
    generalize hf : (fun j => numF (s.data.toList.take j)) = f
    have hf' : ∀ j, numF (s.data.toList.take j) = f j := fun j => by rw [← hf]
    simp only [hf'] at hstep hbd hfin
    have hf0 : f 0 = 0 := by rw [← hf']; rfl
    have HS := Lib.hid hstep
    have HB := Lib.hid hbd
    have HF := Lib.hid hfin
    have ho' : (o == 0) = false := by simpa using ho
    clear hstep hbd hfin hf hf' hb hE ho
    go_enter Tryd.func95, Tryd.ntmps95
    go_wp2
    go_loop [5, 6] (fun t i => RelNu f s.size t i) (fun _ i => s.size - (intOf i).toNat)
    case atStart => exact ⟨0, Nat.zero_le _, rfl, by rw [hf0]⟩
    case round =>
      obtain ⟨j, hj, rfl, rfl⟩ := hrel
      have h1 := (HB.out j).1
      have h2 : f j < 65536 := by
        have := (HB.out j).2
        have h3 := pow_len (Nat.le_trans (hlr j) hj) hs
        omega
      by_cases hlt : j < s.size
      · have hu := u8_bd s[j]
        have HG : Hid (f (j + 1) = 2 * f j + (s[j].toNat : Int) - 48) := by
          have h5 := HS.out j hlt
          rw [List.getElem?_eq_getElem (by omega), Option.getD_some] at h5
          exact h5
        clear hf0
        generalize f j = fj at *
        go_wp2
        go_round
        case rel => exact ⟨j + 1, by omega, by go_num, by rw [HG.out]⟩
        case measure => simp [intOf]; omega
      · have e : j = s.size := by omega
        subst e
        go_wp2
        go_ret
        exact ⟨ret_int HF.out, rfl⟩

/-- A list n times. -/
def rep (n : Nat) (l : List UInt8) : List UInt8 := (List.replicate n l).flatten
theorem rep_zero (l : List UInt8) : rep 0 l = [] := rfl
theorem rep_succ (n : Nat) (l : List UInt8) : rep (n + 1) l = l ++ rep n l := by simp [rep, List.replicate_succ]
theorem rep_even (m : Nat) (l : List UInt8) : rep (2 * m) l = rep m (l ++ l) := by
  induction m with
  | zero => rfl
  | succ m ih => rw [show 2 * (m + 1) = 2 * m + 1 + 1 by omega, rep_succ, rep_succ, ih, rep_succ, List.append_assoc]
theorem rep_length (n : Nat) (l : List UInt8) : (rep n l).length = n * l.length := by
  induction n with
  | zero => simp [rep]
  | succ n ih => rw [rep_succ, List.length_append, ih, Nat.succ_mul]; omega
theorem half_mul (k a : Nat) : k / 2 * (a + a) ≤ k * a := by
  have h : k / 2 * (a + a) = (k / 2 * 2) * a := by rw [Nat.mul_assoc, Nat.two_mul]
  rw [h]
  exact Nat.mul_le_mul_right _ (by omega)
theorem pos_mul {k a : Nat} (h : 0 < k) : a ≤ k * a := Nat.le_mul_of_pos_left a h
structure ManyAt (T : List UInt8) (k : Nat) (l o : List UInt8) : Prop where
  tot : o ++ rep k l = T
  bd : o.length + k * l.length ≤ 1048576
  len : l.length ≤ 2097152
theorem ManyAt.step {T : List UInt8} {k : Nat} {l o : List UInt8} (h : ManyAt T k l o) (hk : 0 < k) : ManyAt T (k / 2) (l ++ l) (if k % 2 = 1 then o ++ l else o) := by
  have h1 := h.bd
  have h2 := half_mul k l.length
  have h3 := pos_mul (a := l.length) hk
  by_cases hp : k % 2 = 1
  · rw [if_pos hp]
    have hk2 : k = 2 * (k / 2) + 1 := by omega
    refine ⟨?_, ?_, by rw [List.length_append]; omega⟩
    · rw [← h.tot, ← rep_even, List.append_assoc, ← rep_succ, ← hk2]
    · have h4 : k / 2 * (l.length + l.length) + l.length = k * l.length := by
        conv => rhs; rw [hk2]
        rw [Nat.add_mul, Nat.one_mul, Nat.mul_comm 2 (k / 2), Nat.mul_assoc, Nat.two_mul]
      rw [List.length_append, List.length_append]; omega
  · rw [if_neg hp]
    have hk2 : k = 2 * (k / 2) := by omega
    refine ⟨?_, by rw [List.length_append]; omega, by rw [List.length_append]; omega⟩
    rw [← h.tot, ← rep_even, ← hk2]
def RelMn (T : List UInt8) (s n o : Value) : Prop := ∃ (k : Nat) (l out : List UInt8), s = .string (bs l) ∧ n = .int .i64 k ∧ o = .string (bs out) ∧ k ≤ 1048576 ∧ ManyAt T k l out

set_option maxRecDepth 100000 in
set_option maxHeartbeats 1000000 in
theorem l9Many_any (s : ByteArray) (n : Nat) (w : World) (hn : n ≤ 1048576) (hb : n * s.size ≤ 1048576) (hs : s.size ≤ 1048576) :
    Calls Tryd.prog 102  #[.string s, .int .i64 n] w fun e w' => e = .returned (.string (bs (rep n s.data.toList))) ∧ w = w' := by
  have hlen := ba_len s
  have HM : Hid (ManyAt (rep n s.data.toList) n s.data.toList []) := ⟨by simp, by simp; omega, by omega⟩
  have HS : Hid (s = bs s.data.toList) := (bs_self s).symm
  generalize rep n s.data.toList = T at *
  clear hb
  go_enter Tryd.func102, Tryd.ntmps102
  go_wp2
  go_loop [0, 1, 5] (fun s n o => RelMn T s n o) (fun _ n _ => (intOf n).toNat)
  case atStart => exact ⟨n, s.data.toList, [], congrArg Value.string HS.out, rfl, rfl, hn, HM.out⟩
  case round =>
    clear HM HS
    obtain ⟨k, l, out, rfl, rfl, rfl, hk, hM⟩ := hrel
    have h1 := hM.bd
    have h2 := hM.len
    have hz1 := bs_size l
    have hz2 := bs_size out
    have HM := Lib.hid hM
    clear hM
    have h1' : out.length ≤ 1048576 := by omega
    clear h1
    by_cases hk0 : 0 < k
    · have hst := HM.out.step hk0
      by_cases hp : k % 2 = 1
      · rw [if_pos hp] at hst
        have HST := Lib.hid hst
        clear hst
        have hp' : (k : Int) % 2 = 1 := by omega
        clear hp
        go_wp2
        go_round
        case rel => exact ⟨k / 2, l ++ l, out ++ l, by rw [bs_app], by go_num, by rw [bs_app], by omega, HST.out⟩
        case measure => simp [intOf]; omega
      · rw [if_neg hp] at hst
        have HST := Lib.hid hst
        clear hst
        have hp' : ((k : Int) % 2 == 1) = false := by simp; omega
        clear hp
        go_wp2
        go_round
        case rel => exact ⟨k / 2, l ++ l, out, by rw [bs_app], by go_num, rfl, by omega, HST.out⟩
        case measure => simp [intOf]; omega
    · have e : k = 0 := by omega
      subst e
      have HT : Hid (out = T) := by have := HM.out.tot; rw [rep_zero, List.append_nil] at this; exact this
      go_wp2
      go_ret
      exact ⟨ret_str (by rw [HT.out]), rfl⟩

end Go.Proofs.YtmjpopfacagjhaaDoor
