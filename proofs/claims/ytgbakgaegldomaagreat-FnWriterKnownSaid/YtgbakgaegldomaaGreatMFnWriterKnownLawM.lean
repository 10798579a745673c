/- Texts joined into one: the walks and laws that the last text leans on. Conditions: as each says. -/
import Derived.Test.YtgbakgaegldomaaGreatMFnWriterKnownLawE
import Derived.Test.YtgbakgaegldomaaGreatMFnWriterKnownLawG
import Derived.Test.YtgbakgaegldomaaGreatMFnWriterKnownLawK
import Derived.Test.YtgbakgaegldomaaGreatMFnWriterKnownLawJ

set_option linter.unusedVariables false
set_option linter.unusedSimpArgs false
/- Walks of the reference's functions on bits. Conditions: as each says. -/
namespace Go.Proofs.YtgbakgaegldomaaGreat
open Go Go.RowKit
def bitB (n i : Nat) : UInt8 := UInt8.ofNat (48 + n / 2 ^ i % 2)
theorem bitB_nat (n i : Nat) : (bitB n i).toNat = 48 + n / 2 ^ i % 2 := by unfold bitB; rw [UInt8.toNat_ofNat']; omega
def lowL (n wd : Nat) : List UInt8 := (List.range wd).map (bitB n)
theorem lowL_succ (n wd : Nat) : lowL n (wd + 1) = lowL n wd ++ [bitB n wd] := by simp [lowL, List.range_succ]
theorem lowL_length (n wd : Nat) : (lowL n wd).length = wd := by simp [lowL]
def codeL (o : Int) (n wd : Nat) : List UInt8 := if o = 0 then lowL n wd else (lowL n wd).reverse
theorem codeL_length (o : Int) (n wd : Nat) : (codeL o n wd).length = wd := by unfold codeL; split <;> simp [lowL_length]
theorem codeL_low {o : Int} (h : o = 0) (n wd : Nat) : codeL o n (wd + 1) = codeL o n wd ++ [bitB n wd] := by unfold codeL; rw [if_pos h, if_pos h, lowL_succ]
theorem codeL_high {o : Int} (h : ¬ o = 0) (n wd : Nat) : codeL o n (wd + 1) = [bitB n wd] ++ codeL o n wd := by unfold codeL; rw [if_neg h, if_neg h, lowL_succ]; simp
theorem bit_num (n i : Nat) : strOfNums [48 + (n : Int) / ((2 ^ i : Nat) : Int) % 2] = bs [bitB n i] := by
  rw [← bs_num]
  congr 1
  simp only [List.map_cons, List.map_nil, List.cons.injEq, and_true]
  rw [bitB_nat]
  omega
theorem and_one (x : Nat) (h : x ≤ 1048576) : bits .and .i64 (x : Int) 1 = ((x % 2 : Nat) : Int) := by
  have := bits_mask .i64 63 (by decide) (fun n h0 h1 => IntWalk.i64_in n (by omega)) 1 (by omega) (x : Int) (by omega) (by omega)
  simpa using this
theorem digit_eq (n j : Nat) (hn : n ≤ 1048576) : wrap64 (48 + bits .and .i64 ((n : Int) / 2 ^ j) 1) % 256 = 48 + (n : Int) / ((2 ^ j : Nat) : Int) % 2 := by
  have h1 : ((n : Int) / 2 ^ j) = ((n / 2 ^ j : Nat) : Int) := by simp
  have h2 : n / 2 ^ j ≤ n := Nat.div_le_self _ _
  rw [h1, and_one _ (by omega), IntWalk.wrap64_in _ (by omega)]
  have h3 : ((n : Int) / ((2 ^ j : Nat) : Int)) = ((n / 2 ^ j : Nat) : Int) := by simp
  rw [h3]
  omega
def RelCd (o : Int) (n wd : Nat) (w : World) (out i : Value) (wr : World) : Prop := ∃ j : Nat, j ≤ wd ∧ i = .int .i64 j ∧ out = .string (bs (codeL o n j)) ∧ Up w wr
set_option maxRecDepth 100000 in
set_option maxHeartbeats 1000000 in
theorem l1Code_any (o : Int) (n wd : Nat) (w : World) (hn : n ≤ 1048576) (hw : wd ≤ 16) :
    Calls Tryz.prog 126  #[.int .i64 o, .int .i64 n, .int .i64 wd] w (Same (.string (bs (codeL o n wd))) w) := by
  have hc := conv_new1
  by_cases ho : o = 0
  · subst ho
    go_enter Tryz.func126, Tryz.ntmps126
    go_wp2
    go_loopw [7, 8] (fun out i wr => RelCd 0 n wd w out i wr) (fun _ i _ => wd - (intOf i).toNat)
    case atStart => exact ⟨0, Nat.zero_le _, rfl, by first | rfl | (unfold codeL; split <;> rfl), Up.refl _⟩
    case round =>
      obtain ⟨j, hj, rfl, rfl, hup⟩ := hrel
      have hcl := bs_size (codeL 0 n j)
      rw [codeL_length] at hcl
      have z1 := strOfNums_size
      by_cases hlt : j < wd
      · have HD : Hid (strOfNums [wrap64 (48 + bits .and .i64 ((n : Int) / 2 ^ j) 1) % 256] = bs [bitB n j]) := by unfold Hid; rw [digit_eq n j hn, bit_num]
        have HC := Lib.hid (codeL_low (o := 0) rfl n j)
        go_wp2
        go_roundw
        case rel => exact ⟨j + 1, by omega, by go_num, by rw [HD.out, bs_app, HC.out], by (repeat (first | with_reducible exact Up.refl _ | with_reducible assumption | with_reducible refine Up.set ?_ (by first | exact Nat.le_refl _ | (simp only []; omega) | (simp; omega)) _ | with_reducible refine Up.alloc ?_ _ | with_reducible refine Up.drew ?_ | refine Up.trans ?_ (by with_reducible assumption)))⟩
        case measure => simp [intOf]; omega
      · have e : j = wd := by omega
        subst e
        go_wp2
        go_ret
        exact ⟨rfl, hup⟩
  · have ho' : (o == 0) = false := by simpa using ho
    have HO := Lib.hid ho
    clear ho
    go_enter Tryz.func126, Tryz.ntmps126
    go_wp2
    go_loopw [7, 8] (fun out i wr => RelCd o n wd w out i wr) (fun _ i _ => wd - (intOf i).toNat)
    case atStart => exact ⟨0, Nat.zero_le _, rfl, by first | rfl | (unfold codeL; split <;> rfl), Up.refl _⟩
    case round =>
      obtain ⟨j, hj, rfl, rfl, hup⟩ := hrel
      have hcl := bs_size (codeL o n j)
      rw [codeL_length] at hcl
      have z1 := strOfNums_size
      by_cases hlt : j < wd
      · have HD : Hid (strOfNums [wrap64 (48 + bits .and .i64 ((n : Int) / 2 ^ j) 1) % 256] = bs [bitB n j]) := by unfold Hid; rw [digit_eq n j hn, bit_num]
        have HC := Lib.hid (codeL_high HO.out n j)
        go_wp2
        go_roundw
        case rel => exact ⟨j + 1, by omega, by go_num, by rw [HD.out, bs_app, HC.out], by (repeat (first | with_reducible exact Up.refl _ | with_reducible assumption | with_reducible refine Up.set ?_ (by first | exact Nat.le_refl _ | (simp only []; omega) | (simp; omega)) _ | with_reducible refine Up.alloc ?_ _ | with_reducible refine Up.drew ?_ | refine Up.trans ?_ (by with_reducible assumption)))⟩
        case measure => simp [intOf]; omega
      · have e : j = wd := by omega
        subst e
        go_wp2
        go_ret
        exact ⟨rfl, hup⟩
def numF (l : List UInt8) : Int := l.foldl (fun (n : Int) b => 2 * n + (b.toNat : Int) - 48) 0
theorem numF_snoc (l : List UInt8) (b : UInt8) : numF (l ++ [b]) = 2 * numF l + b.toNat - 48 := by simp [numF, List.foldl_append]
def isBits (l : List UInt8) : Prop := ∀ b ∈ l, b.toNat = 48 ∨ b.toNat = 49
theorem numF_bd {l : List UInt8} (h : isBits l) : 0 ≤ numF l ∧ numF l < ((2 ^ l.length : Nat) : Int) := by
  induction l using snoc_ind with
  | h0 => decide
  | h1 l b ih =>
    obtain ⟨h1, h2⟩ := ih fun x hx => h x (List.mem_append_left _ hx)
    have hb := h b (List.mem_append_right _ (List.mem_singleton.2 rfl))
    rw [numF_snoc, List.length_append, List.length_cons, List.length_nil, Nat.zero_add, Nat.pow_succ]
    omega
theorem isBits.take {l : List UInt8} (h : isBits l) (k : Nat) : isBits (l.take k) := fun b hb => h b (List.mem_of_mem_take hb)
theorem isBits.drop {l : List UInt8} (h : isBits l) (k : Nat) : isBits (l.drop k) := fun b hb => h b (List.mem_of_mem_drop hb)
theorem isBits.app {l m : List UInt8} (h : isBits l) (h' : isBits m) : isBits (l ++ m) := fun b hb => (List.mem_append.1 hb).elim (h b) (h' b)
theorem isBits.rev {l : List UInt8} (h : isBits l) : isBits l.reverse := fun b hb => h b (List.mem_reverse.1 hb)
theorem isBits_code (o : Int) (n wd : Nat) : isBits (codeL o n wd) := by
  have h : isBits (lowL n wd) := fun b hb => by
    simp only [lowL, List.mem_map, List.mem_range] at hb
    obtain ⟨i, -, rfl⟩ := hb
    rw [bitB_nat]; omega
  unfold codeL
  split
  · exact h
  · exact h.rev
def numL (o : Int) (l : List UInt8) : Int := if o = 0 then numF l.reverse else numF l
theorem numL_bd {o : Int} {l : List UInt8} (h : isBits l) : 0 ≤ numL o l ∧ numL o l < ((2 ^ l.length : Nat) : Int) := by
  unfold numL
  split
  · have := numF_bd h.rev; rwa [List.length_reverse] at this
  · exact numF_bd h
def RelNu (f : Nat → Int) (n : Nat) (t i : Value) : Prop := ∃ j : Nat, j ≤ n ∧ i = .int .i64 j ∧ t = .int .i64 (f j)
theorem pow_len {k n : Nat} (h : k ≤ n) (hn : n ≤ 16) : 2 ^ k ≤ 65536 := by
  have : 2 ^ k ≤ 2 ^ 16 := Nat.pow_le_pow_right (by decide) (by omega)
  simpa using this
set_option maxRecDepth 100000 in
set_option maxHeartbeats 1000000 in
theorem l1Number_any (o : Int) (s : ByteArray) (w : World) (hb : isBits s.data.toList) (hs : s.size ≤ 16) :
    Calls Tryz.prog 125  #[.int .i64 o, .string s] w fun e w' => e = .returned (.int .i64 (numL o s.data.toList)) ∧ w = w' := by
  have hlen := ba_len s
  by_cases ho : o = 0
  · have hE : Hid (numL o s.data.toList = numF s.data.toList.reverse) := by unfold Hid numL; rw [if_pos ho]
    rw [hE.out]
    have hstep : ∀ j, j < s.size → numF (s.data.toList.reverse.take (j + 1)) = 2 * numF (s.data.toList.reverse.take j) + (s.data.toList[s.size - 1 - j]?.getD 0).toNat - 48 := fun j hj => by
      have hj' : j < s.data.toList.reverse.length := by rw [List.length_reverse]; omega
      rw [List.take_succ_eq_append_getElem hj', numF_snoc, List.getElem_reverse, List.getElem?_eq_getElem (by omega)]
      simp only [hlen, Option.getD_some]
    have hbd := fun j => numF_bd (hb.rev.take j)
    have hfin : numF (s.data.toList.reverse.take s.size) = numF s.data.toList.reverse := by rw [List.take_of_length_le (by rw [List.length_reverse]; omega)]
    have hlr : ∀ j, (s.data.toList.reverse.take j).length ≤ j := fun j => by rw [List.length_take]; omega
    generalize hf : (fun j => numF (s.data.toList.reverse.take j)) = f
    have hf' : ∀ j, numF (s.data.toList.reverse.take j) = f j := fun j => by rw [← hf]
    simp only [hf'] at hstep hbd hfin
    have hf0 : f 0 = 0 := by rw [← hf']; rfl
    have HS := Lib.hid hstep
    have HB := Lib.hid hbd
    have HF := Lib.hid hfin
    have HBi := Lib.hid hb
    clear hstep hbd hfin hf hf' hb hE
    subst ho
    go_enter Tryz.func125, Tryz.ntmps125
    go_wp2
    go_loop [5, 6] (fun t i => RelNu f s.size t i) (fun _ i => s.size - (intOf i).toNat)
    case atStart => exact ⟨0, Nat.zero_le _, rfl, by rw [hf0]⟩
    case round =>
      obtain ⟨j, hj, rfl, rfl⟩ := hrel
      have h1 := (HB.out j).1
      have h2 : f j < 65536 := by
        have := (HB.out j).2
        have h3 := pow_len (Nat.le_trans (hlr j) hj) hs
        omega
      by_cases hlt : j < s.size
      · have hu := u8_bd s[s.size - 1 - j]
        have HG : Hid (f (j + 1) = 2 * f j + (s[s.size - 1 - j].toNat : Int) - 48) := by
          have h5 := HS.out j hlt
          rw [List.getElem?_eq_getElem (by omega), Option.getD_some] at h5
          exact h5
        clear hf0
        generalize f j = fj at *
        go_wp2
        go_round
        case rel => exact ⟨j + 1, by omega, by go_num, by rw [HG.out]⟩
        case measure => simp [intOf]; omega
      · have e : j = s.size := by omega
        subst e
        go_wp2
        go_ret
        exact ⟨ret_int HF.out, rfl⟩
  · have hE : Hid (numL o s.data.toList = numF s.data.toList) := by unfold Hid numL; rw [if_neg ho]
    rw [hE.out]
    have hstep : ∀ j, j < s.size → numF (s.data.toList.take (j + 1)) = 2 * numF (s.data.toList.take j) + (s.data.toList[j]?.getD 0).toNat - 48 := fun j hj => by
      have hj' : j < s.data.toList.length := by omega
      rw [List.take_succ_eq_append_getElem hj', numF_snoc, List.getElem?_eq_getElem hj']
      simp only [Option.getD_some]
    have hbd := fun j => numF_bd (hb.take j)
    have hfin : numF (s.data.toList.take s.size) = numF s.data.toList := by rw [List.take_of_length_le (by omega)]
    have hlr : ∀ j, (s.data.toList.take j).length ≤ j := fun j => by rw [List.length_take]; omega
    generalize hf : (fun j => numF (s.data.toList.take j)) = f
    have hf' : ∀ j, numF (s.data.toList.take j) = f j := fun j => by rw [← hf]
    simp only [hf'] at hstep hbd hfin
    have hf0 : f 0 = 0 := by rw [← hf']; rfl
    have HS := Lib.hid hstep
    have HB := Lib.hid hbd
    have HF := Lib.hid hfin
    have ho' : (o == 0) = false := by simpa using ho
    clear hstep hbd hfin hf hf' hb hE ho
    go_enter Tryz.func125, Tryz.ntmps125
    go_wp2
    go_loop [5, 6] (fun t i => RelNu f s.size t i) (fun _ i => s.size - (intOf i).toNat)
    case atStart => exact ⟨0, Nat.zero_le _, rfl, by rw [hf0]⟩
    case round =>
      obtain ⟨j, hj, rfl, rfl⟩ := hrel
      have h1 := (HB.out j).1
      have h2 : f j < 65536 := by
        have := (HB.out j).2
        have h3 := pow_len (Nat.le_trans (hlr j) hj) hs
        omega
      by_cases hlt : j < s.size
      · have hu := u8_bd s[j]
        have HG : Hid (f (j + 1) = 2 * f j + (s[j].toNat : Int) - 48) := by
          have h5 := HS.out j hlt
          rw [List.getElem?_eq_getElem (by omega), Option.getD_some] at h5
          exact h5
        clear hf0
        generalize f j = fj at *
        go_wp2
        go_round
        case rel => exact ⟨j + 1, by omega, by go_num, by rw [HG.out]⟩
        case measure => simp [intOf]; omega
      · have e : j = s.size := by omega
        subst e
        go_wp2
        go_ret
        exact ⟨ret_int HF.out, rfl⟩
def rep (n : Nat) (l : List UInt8) : List UInt8 := (List.replicate n l).flatten
theorem rep_zero (l : List UInt8) : rep 0 l = [] := rfl
theorem rep_succ (n : Nat) (l : List UInt8) : rep (n + 1) l = l ++ rep n l := by simp [rep, List.replicate_succ]
theorem rep_even (m : Nat) (l : List UInt8) : rep (2 * m) l = rep m (l ++ l) := by
  induction m with
  | zero => rfl
  | succ m ih => rw [show 2 * (m + 1) = 2 * m + 1 + 1 by omega, rep_succ, rep_succ, ih, rep_succ, List.append_assoc]
theorem rep_length (n : Nat) (l : List UInt8) : (rep n l).length = n * l.length := by
  induction n with
  | zero => simp [rep]
  | succ n ih => rw [rep_succ, List.length_append, ih, Nat.succ_mul]; omega
theorem half_mul (k a : Nat) : k / 2 * (a + a) ≤ k * a := by
  have h : k / 2 * (a + a) = (k / 2 * 2) * a := by rw [Nat.mul_assoc, Nat.two_mul]
  rw [h]
  exact Nat.mul_le_mul_right _ (by omega)
theorem pos_mul {k a : Nat} (h : 0 < k) : a ≤ k * a := Nat.le_mul_of_pos_left a h
structure ManyAt (T : List UInt8) (k : Nat) (l o : List UInt8) : Prop where
  tot : o ++ rep k l = T
  bd : o.length + k * l.length ≤ 1048576
  len : l.length ≤ 2097152
theorem ManyAt.step {T : List UInt8} {k : Nat} {l o : List UInt8} (h : ManyAt T k l o) (hk : 0 < k) : ManyAt T (k / 2) (l ++ l) (if k % 2 = 1 then o ++ l else o) := by
  have h1 := h.bd
  have h2 := half_mul k l.length
  have h3 := pos_mul (a := l.length) hk
  by_cases hp : k % 2 = 1
  · rw [if_pos hp]
    have hk2 : k = 2 * (k / 2) + 1 := by omega
    refine ⟨?_, ?_, by rw [List.length_append]; omega⟩
    · rw [← h.tot, ← rep_even, List.append_assoc, ← rep_succ, ← hk2]
    · have h4 : k / 2 * (l.length + l.length) + l.length = k * l.length := by
        conv => rhs; rw [hk2]
        rw [Nat.add_mul, Nat.one_mul, Nat.mul_comm 2 (k / 2), Nat.mul_assoc, Nat.two_mul]
      rw [List.length_append, List.length_append]; omega
  · rw [if_neg hp]
    have hk2 : k = 2 * (k / 2) := by omega
    refine ⟨?_, by rw [List.length_append]; omega, by rw [List.length_append]; omega⟩
    rw [← h.tot, ← rep_even, ← hk2]
def RelMn (T : List UInt8) (s n o : Value) : Prop := ∃ (k : Nat) (l out : List UInt8), s = .string (bs l) ∧ n = .int .i64 k ∧ o = .string (bs out) ∧ k ≤ 1048576 ∧ ManyAt T k l out
set_option maxRecDepth 100000 in
set_option maxHeartbeats 1000000 in
theorem l9Many_any (s : ByteArray) (n : Nat) (w : World) (hn : n ≤ 1048576) (hb : n * s.size ≤ 1048576) (hs : s.size ≤ 1048576) :
    Calls Tryz.prog 70  #[.string s, .int .i64 n] w fun e w' => e = .returned (.string (bs (rep n s.data.toList))) ∧ w = w' := by
  have hlen := ba_len s
  have HM : Hid (ManyAt (rep n s.data.toList) n s.data.toList []) := ⟨by simp, by simp; omega, by omega⟩
  have HS : Hid (s = bs s.data.toList) := (bs_self s).symm
  generalize rep n s.data.toList = T at *
  clear hb
  go_enter Tryz.func70, Tryz.ntmps70
  go_wp2
  go_loop [0, 1, 5] (fun s n o => RelMn T s n o) (fun _ n _ => (intOf n).toNat)
  case atStart => exact ⟨n, s.data.toList, [], congrArg Value.string HS.out, rfl, rfl, hn, HM.out⟩
  case round =>
    clear HM HS
    obtain ⟨k, l, out, rfl, rfl, rfl, hk, hM⟩ := hrel
    have h1 := hM.bd
    have h2 := hM.len
    have hz1 := bs_size l
    have hz2 := bs_size out
    have HM := Lib.hid hM
    clear hM
    have h1' : out.length ≤ 1048576 := by omega
    clear h1
    by_cases hk0 : 0 < k
    · have hst := HM.out.step hk0
      by_cases hp : k % 2 = 1
      · rw [if_pos hp] at hst
        have HST := Lib.hid hst
        clear hst
        have hp' : (k : Int) % 2 = 1 := by omega
        clear hp
        go_wp2
        go_round
        case rel => exact ⟨k / 2, l ++ l, out ++ l, by rw [bs_app], by go_num, by rw [bs_app], by omega, HST.out⟩
        case measure => simp [intOf]; omega
      · rw [if_neg hp] at hst
        have HST := Lib.hid hst
        clear hst
        have hp' : ((k : Int) % 2 == 1) = false := by simp; omega
        clear hp
        go_wp2
        go_round
        case rel => exact ⟨k / 2, l ++ l, out, by rw [bs_app], by go_num, rfl, by omega, HST.out⟩
        case measure => simp [intOf]; omega
    · have e : k = 0 := by omega
      subst e
      have HT : Hid (out = T) := by have := HM.out.tot; rw [rep_zero, List.append_nil] at this; exact this
      go_wp2
      go_ret
      exact ⟨ret_str (by rw [HT.out]), rfl⟩
end Go.Proofs.YtgbakgaegldomaaGreat

/- Walks of the reference's functions that put bits into bytes. Conditions: all bytes are bits; the length is bounded. -/
namespace Go.Proofs.YtgbakgaegldomaaGreat
open Go Go.RowKit
def padL (l : List UInt8) : List UInt8 := l ++ List.replicate ((8 - l.length % 8) % 8) 48
theorem padL_length (l : List UInt8) : (padL l).length = 8 * ((l.length + 7) / 8) := by
  unfold padL; rw [List.length_append, List.length_replicate]; omega
theorem rep_one (n : Nat) (b : UInt8) : rep n [b] = List.replicate n b := by
  induction n with
  | zero => rfl
  | succ n ih => rw [rep_succ, ih]; rfl
theorem isBits_pad {l : List UInt8} (h : isBits l) : isBits (padL l) := h.app fun b hb => by rw [List.mem_replicate] at hb; rw [hb.2]; exact .inl rfl
set_option maxRecDepth 100000 in
set_option maxHeartbeats 1000000 in
theorem l1Pad_any (s : ByteArray) (w : World) (hs : s.size ≤ 1048576) :
    Calls Tryz.prog 124  #[.string s] w fun e w' => e = .returned (.string (bs (padL s.data.toList))) ∧ w = w' := by
  have hlen := ba_len s
  have cM := fun w => l9Many_any ⟨#[48]⟩ ((8 - s.size % 8) % 8) w (by omega) (by show _ * 1 ≤ _; omega) (by show 1 ≤ _; omega)
  have e1 : (⟨#[48]⟩ : ByteArray).data.toList = [48] := rfl
  rw [e1, rep_one] at cM
  have hz := bs_size (List.replicate ((8 - s.size % 8) % 8) 48)
  rw [List.length_replicate] at hz
  have HR : Hid (s ++ bs (List.replicate ((8 - s.size % 8) % 8) 48) = bs (padL s.data.toList)) := by
    unfold Hid padL
    rw [hlen, ← bs_app, bs_self]
  have hk : (8 - s.size % 8) % 8 ≤ 7 := by omega
  have hkk : ((8 : Int) - (s.size : Int) % 8) % 8 = ((8 - s.size % 8) % 8 : Nat) := by omega
  generalize (8 - s.size % 8) % 8 = k at *
  clear e1
  go_enter Tryz.func124, Tryz.ntmps124
  go_wp2_with ((go_at_call 70; (with_reducible refine (cM _).mono ?_); rintro e w' ⟨rfl, rfl⟩))
  go_ret
  exact ⟨ret_str (by rw [HR.out]), rfl⟩
def byteN (o : Int) (l : List UInt8) (i : Nat) : UInt8 := ub (numL o ((l.drop (8 * i)).take 8))
def packL (o : Int) (l : List UInt8) : List UInt8 := (List.range ((padL l).length / 8)).map (byteN o (padL l))
theorem packL_length (o : Int) (l : List UInt8) : (packL o l).length = (l.length + 7) / 8 := by unfold packL; rw [List.length_map, List.length_range, padL_length]; omega
def midU (l : List UInt8) (k : Nat) : List UInt8 := l.take k ++ List.replicate (l.length - k) 0
theorem midU_zero (l : List UInt8) : midU l 0 = List.replicate l.length 0 := by simp [midU]
theorem midU_all (l : List UInt8) : midU l l.length = l := by simp [midU]
theorem midU_set (l : List UInt8) (k : Nat) (h : k < l.length) : (midU l k).set k l[k] = midU l (k + 1) := by
  have e : List.replicate (l.length - k) (0 : UInt8) = 0 :: List.replicate (l.length - (k + 1)) 0 := by
    rw [show l.length - k = (l.length - (k + 1)) + 1 by omega]; rfl
  unfold midU
  have e2 : k - (l.take k).length = 0 := by rw [List.length_take]; omega
  rw [e, List.take_succ_eq_append_getElem h, List.set_append_right _ _ (by rw [List.length_take]; omega), e2, List.set_cons_zero, List.append_assoc]
  rfl
theorem midU_at (l : List UInt8) (k : Nat) (h : k < l.length) : (midU l k)[k]? = some 0 := by
  unfold midU
  rw [List.getElem?_append_right (by rw [List.length_take]; omega), List.getElem?_replicate, if_pos (by rw [List.length_take]; omega)]
theorem bs_pad8 (l : List UInt8) (i : Nat) : (bs l).extract (8 * i) (8 * i + 8) = bs ((l.drop (8 * i)).take 8) := by rw [bs_ext, show 8 * i + 8 - 8 * i = 8 by omega]
def RelPk (l : List UInt8) (w : World) (i : Value) (wr : World) : Prop := ∃ k : Nat, k ≤ l.length ∧ i = .int .i64 k ∧ Up w wr ∧ wr.ownsRow w.heap.size 5 1 (.slice (some ⟨w.heap.size, 0, none⟩) l.length l.length) l.length (cellsU (midU l k))
theorem made_list (n : Nat) : (madeCells #[Value.int .u8 0] n).toList.take n = List.replicate n (Value.int .u8 0) := by
  apply List.ext_getElem
  · simp [madeCells]
  · intro i h1 h2
    simp [madeCells, Nat.mod_one]
theorem made_bytes (w : World) (n : Nat) (hn : n ≤ maxLen) : (w.alloc (.cells (madeCells #[.int .u8 0] n) 5)).ownsRow w.heap.size 5 1 (.slice (some ⟨w.heap.size, 0, none⟩) n n) n (cellsU (List.replicate n 0)) := by
  refine ⟨by simp [cellsU], .inr ⟨w.heap.size, n, _, rfl, Nat.le_refl _, (MapKept.heap_alloc w _).1, Nat.le_refl _, hn, ?_, ?_⟩⟩
  · simp [madeCells]
  · rw [Nat.mul_one, made_list]; simp [cellsU]
set_option maxRecDepth 100000 in
set_option maxHeartbeats 2000000 in
theorem l1Pack_any (o : Int) (s : ByteArray) (w : World) (hb : isBits s.data.toList) (hs : s.size ≤ 1048576) :
    Calls Tryz.prog 83  #[.int .i64 o, .string s] w (Same (.string (bs (packL o s.data.toList))) w) := by
  obtain ⟨i0, hi0, hz0, hz1, hz2⟩ := info_parts infoByte
  have hmk : ∀ (w : World) (n : Nat), n ≤ 1048576 → (Instr.makeSlice 22 (.int .i64 (n : Int)) (.int .i64 (n : Int))).run Tryz.prog w = .ok (.slice (some ⟨w.heap.size, 0, none⟩) n n) (w.alloc (.cells (madeCells #[.int .u8 0] n) 5)) := fun w n hn => by
    have := run_make (P := Tryz.prog) w 22 5 i0 _ Tryz.underlying22 hi0 hz0 .i64 .i64 n n (by omega) (Int.le_refl _) (by rw [hz2]; omega) (by omega)
    rw [hz1] at this
    simpa [Value.cells] using this
  clear hz0 hz1 hz2 hi0
  have hlen := ba_len s
  have cP := fun w => l1Pad_any s w hs
  have hpl := padL_length s.data.toList
  have hpb := isBits_pad hb
  have hkl := packL_length o s.data.toList
  have hget : ∀ i (h : i < (packL o s.data.toList).length), (packL o s.data.toList)[i] = byteN o (padL s.data.toList) i := fun i h => by simp [packL]
  rw [hlen] at hpl hkl
  have hz := bs_size (padL s.data.toList)
  have HB := Lib.hid hpb
  have HG := Lib.hid hget
  clear hb hpb hget
  generalize packL o s.data.toList = pk at *
  generalize padL s.data.toList = pd at *
  have hpk : pd.length = 8 * pk.length := by omega
  have hkl' : ((pk.length : Nat) : Int) = ((s.size : Int) + 7) / 8 := by omega
  have hmk' := fun w => hmk w pk.length (by omega)
  rw [hkl'] at hmk'
  clear hmk hpl
  go_enter Tryz.func83, Tryz.ntmps83
  go_wp2_with ((go_at_call 124; (with_reducible refine (cP _).mono ?_); rintro e w' ⟨rfl, rfl⟩))
  have hkn : pk.length = (s.size + 7) / 8 := hkl
  rw [← hkn]
  have hpk2 : pk.length ≤ 131072 := by omega
  clear hkn hkl hkl' hmk' hlen
  go_loopw [7] (fun i wr => RelPk pk w i wr) (fun i _ => pk.length - (intOf i).toNat)
  case atStart => exact ⟨0, Nat.zero_le _, rfl, (Up.refl _).alloc _, by rw [midU_zero]; exact made_bytes w _ (by unfold maxLen; omega)⟩
  case round =>
    obtain ⟨j, hj, rfl, hup, ho⟩ := hrel
    by_cases hlt : j < pk.length
    · have hrl : w.heap.size < wr.heap.size := (ho.lt _ rfl).2
      have d0 := ownsRow_cell ho (cellsU_at (midU_at pk j hlt))
      have f0 := ownsRow_free ho j
      have hb8 : isBits ((pd.drop (8 * j)).take 8) := (HB.out.drop _).take _
      have hl8 : ((pd.drop (8 * j)).take 8).length = 8 := by rw [List.length_take, List.length_drop]; omega
      have HE : Hid ((bs pd).extract (8 * j) (8 * j + 8) = bs ((pd.drop (8 * j)).take 8)) := bs_pad8 pd j
      have cN := fun w => l1Number_any o (bs ((pd.drop (8 * j)).take 8)) w (by rw [bs_data]; exact hb8) (by rw [bs_size, hl8]; omega)
      rw [bs_data, ← HE.out] at cN
      have hnb := numL_bd (o := o) hb8
      rw [hl8] at hnb
      have hn1 := hnb.1
      have hn2 : numL o ((pd.drop (8 * j)).take 8) < 256 := by have := hnb.2; simpa using this
      have HPK : Hid (((pk[j]).toNat : Int) = numL o ((pd.drop (8 * j)).take 8)) := by unfold Hid; rw [HG.out j hlt]; exact ub_nat hn1 hn2
      have HS := Lib.hid (midU_set pk j hlt)
      clear hb8 hnb hl8
      generalize numL o ((pd.drop (8 * j)).take 8) = nm at *
      go_wp2_with ((go_at_call 125; (with_reducible refine (cN _).mono ?_); rintro e w' ⟨rfl, rfl⟩))
      go_roundw
      case rel => exact ⟨j + 1, by omega, by go_num, hup.set (p := ⟨w.heap.size, j, none⟩) (Nat.le_refl _) _, by rw [← HS.out, ← cellsU_set, HPK.out]; exact ownsRow_set ho j _⟩
      case measure => simp [intOf]; omega
    · have e : j = pk.length := by omega
      subst e
      rw [midU_all] at ho
      have hconv := conv_row ho rfl
      go_wp2
      go_ret
      exact ⟨rfl, hup⟩
end Go.Proofs.YtgbakgaegldomaaGreat

/- Walk of the reference's l2Pack. Conditions: what is known is valid (KnD.Ok) and can be read; each code has a width. -/
namespace Go.Proofs.YtgbakgaegldomaaGreat
open Go Go.RowKit
def packC (o : Int) : List Int → List Int → List UInt8
  | x :: xs, w :: ws => codeL o x.toNat w.toNat ++ packC o xs ws
  | _, _ => []
theorem isBits_packC (o : Int) : ∀ (xs ws : List Int), isBits (packC o xs ws)
  | [], ws => by simp [packC, isBits]
  | _ :: _, [] => by simp [packC, isBits]
  | x :: xs, w :: ws => by simp only [packC]; exact (isBits_code _ _ _).app (isBits_packC o xs ws)
structure PkAt (k : KnD) (v : Value) (codes ws : List Int) (vw : Value) (w : World) (i : Nat) (out : Value) (wr : World) : Prop where
  le : i ≤ codes.length
  kn : KnAt w.heap.size k v wr
  wid : ownI wr (w.heap.size + 1) vw ws
  own : ownU wr (w.heap.size + 1) out (packC k.set.ord (codes.take i) (ws.take i))
  up : Up w wr
theorem RdI.at {lo : Nat} {w : World} {a : Option Addr} {n c : Nat} {l : List Int} (h : RdI lo w (.slice a n c) l) {i : Nat} (hi : i < l.length) : ∃ b off, a = some ⟨b, off, none⟩ ∧ b < w.heap.size ∧ w.cell? ⟨b, off + i, none⟩ = some (.int .i64 l[i]) ∧ n = l.length ∧ n ≤ c ∧ c ≤ maxLen ∧ lo ≤ b := by
  obtain ⟨a', c', e, h1, h2, h3⟩ := h
  cases e
  obtain ⟨b, off, e1, e2, e3, e4⟩ := h3 (by omega)
  exact ⟨b, off, e1, e3, e4 i _ (List.getElem?_eq_getElem hi), rfl, h1, h2, e2⟩
end Go.Proofs.YtgbakgaegldomaaGreat

/- Walk of the reference's l2Greedy. Conditions: what is known is valid and can be read; the data fits. -/
namespace Go.Proofs.YtgbakgaegldomaaGreat
open Go Go.RowKit
def KnD.full (k : KnD) : Bool := decide (lastC k.set < k.next) && decide (k.base < k.ps.length)
def greedyN : Nat → KnD → List UInt8 → List Int
  | 0, k, _ => [(k.c : Int) + 1]
  | n + 1, k, d => if d = [] then [(k.c : Int) + 1] else
      k.find (k.longest d) :: (if (k.after (k.find (k.longest d))).full = true ∧ d.drop (k.longest d).length ≠ [] then (k.c : Int) :: greedyN n (k.after (k.find (k.longest d))).cleared (d.drop (k.longest d).length) else greedyN n (k.after (k.find (k.longest d))) (d.drop (k.longest d).length))
def greedy (k : KnD) (d : List UInt8) : List Int := (k.c : Int) :: greedyN d.length k.cleared d
theorem greedyN_nil (n : Nat) (k : KnD) : greedyN n k [] = [(k.c : Int) + 1] := by cases n <;> simp [greedyN]
theorem greedyN_full {n : Nat} {k : KnD} {d : List UInt8} {x : Int} {w : List UInt8} (hd : d ≠ []) (hw : k.longest d = w) (hx : k.find w = x) (hf : (k.after x).full = true) (hn : d.drop w.length ≠ []) : greedyN (n + 1) k d = x :: (k.c : Int) :: greedyN n (k.after x).cleared (d.drop w.length) := by
  subst hw; subst hx
  rw [greedyN, if_neg hd, if_pos ⟨hf, hn⟩]
theorem greedyN_more {n : Nat} {k : KnD} {d : List UInt8} {x : Int} {w : List UInt8} (hd : d ≠ []) (hw : k.longest d = w) (hx : k.find w = x) (hf : ¬ ((k.after x).full = true ∧ d.drop w.length ≠ [])) : greedyN (n + 1) k d = x :: greedyN n (k.after x) (d.drop w.length) := by
  subst hw; subst hx
  rw [greedyN, if_neg hd, if_neg hf]
structure GrAt (T : List Int) (w : World) (k : KnD) (d : List UInt8) (v : Value) (n : Nat) (acc : List Int) (out : Value) (wr : World) : Prop where
  len : d.length ≤ n
  le : d.length ≤ 2000
  sum : acc.length + 2 * d.length ≤ 4001
  tot : acc ++ greedyN n k d = T
  ok : k.Ok
  lit : ∀ b ∈ d, b.toNat < k.c
  kn : KnAt w.heap.size k v wr
  pr : ownPr wr (w.heap.size + 1) v k.ps
  own : ownI wr (w.heap.size + 1) out acc
  up : Up w wr
theorem GrAt.step {T : List Int} {w : World} {k : KnD} {d : List UInt8} {v : Value} {m : Nat} {acc : List Int} {out : Value} {wr : World} (h : GrAt T w k d v (m + 1) acc out wr) (hd : d ≠ []) {x : Int} {wl : List UInt8} (hw : k.longest d = wl) (hx : k.find wl = x)
    (hf : ¬ ((k.after x).full = true ∧ d.drop wl.length ≠ [])) {W : World} {v5 out4 : Value} (h1 : KnAt w.heap.size (k.after x) v5 W) (h2 : ownPr W (w.heap.size + 1) v5 (k.after x).ps) (h3 : ownI W (w.heap.size + 1) out4 (acc ++ [x])) (h4 : Up w W) : GrAt T w (k.after x) (d.drop wl.length) v5 m (acc ++ [x]) out4 W := by
  have hp := KnD.longest_pos (k := k) hd
  have hl := KnD.longest_le (k := k) d
  have hfa := KnD.find_any h.ok hd h.lit
  rw [hw] at hp hl hfa
  rw [hx] at hfa
  have h5 := h.len; have h6 := h.le; have h7 := h.sum
  refine ⟨by rw [List.length_drop]; omega, by rw [List.length_drop]; omega, by rw [List.length_drop, List.length_append]; simp; omega, ?_, KnD.after_ok h.ok hfa.1, fun b hb => h.lit b (List.mem_of_mem_drop hb), h1, h2, h3, h4⟩
  rw [← h.tot, greedyN_more hd hw hx hf, List.append_assoc]; rfl
end Go.Proofs.YtgbakgaegldomaaGreat

