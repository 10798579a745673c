/- Walks of the program's bitsNumber and unpackBytes; the memory of a reading. Conditions: as each says. -/
import Derived.Test.YtgbakgaegldomaaGreatRt
import Derived.Test.YtgbakgaegldomaaGreatWd
import Derived.Test.YtgbakgaegldomaaGreatFo
namespace Go.Proofs.YtgbakgaegldomaaGreat
set_option linter.unusedVariables false
set_option linter.unusedSimpArgs false
open Go Go.RowKit

/-- The sum of the places of the first j bits that are set. -/
def sumW (o : Int) (l : List UInt8) (wd : Nat) : Nat → Int
  | 0 => 0
  | j + 1 => sumW o l wd j + (if (l.getD j 0).toNat = 49 then ((2 ^ plc o j wd : Nat) : Int) else 0)
theorem sumW_step {o : Int} {l : List UInt8} {wd j : Nat} (h : j < l.length) : sumW o l wd (j + 1) = sumW o l wd j + (if (l[j]).toNat = 49 then ((2 ^ plc o j wd : Nat) : Int) else 0) := by
  rw [sumW, List.getD_eq_getElem?_getD, List.getElem?_eq_getElem h]; rfl
theorem sumW_bd (o : Int) (l : List UInt8) {wd : Nat} (hw : wd ≤ 16) : ∀ j, j ≤ wd → 0 ≤ sumW o l wd j ∧ sumW o l wd j ≤ 65536 * j
  | 0, _ => by simp [sumW]
  | j + 1, h => by
    have ih := sumW_bd o l hw j (by omega)
    have h1 := plc_lt (o := o) (i := j) (wd := wd) (by omega)
    have h2 := pow_len (k := plc o j wd) (n := 16) (by omega) (by omega)
    have h3 : (0 : Int) ≤ ((2 ^ plc o j wd : Nat) : Int) := Int.natCast_nonneg _
    have h4 : ((2 ^ plc o j wd : Nat) : Int) ≤ 65536 := by have := Int.ofNat_le.2 h2; exact this
    rw [sumW]
    clear h1 h2
    generalize ((2 ^ plc o j wd : Nat) : Int) = q at *
    split
    · omega
    · omega
theorem sumW_low {l : List UInt8} (hb : isBits l) : ∀ j, j ≤ l.length → sumW 0 l l.length j = numF (l.take j).reverse
  | 0, _ => by simp [sumW, numF]
  | j + 1, h => by
    have hj : j < l.length := h
    rw [sumW_step hj, sumW_low hb j (by omega), List.take_succ_eq_append_getElem hj, List.reverse_append, List.reverse_cons, List.reverse_nil, List.nil_append, List.singleton_append, numF_cons, List.length_reverse, List.length_take, Nat.min_eq_left (by omega)]
    have e : plc 0 j l.length = j := by unfold plc; rw [if_neg (by decide)]
    rw [e]
    rcases hb l[j] (List.getElem_mem hj) with h1 | h1
    · rw [if_neg (by omega), h1]; simp
    · rw [if_pos h1, h1]; simp; omega
theorem sumW_high {l : List UInt8} (hb : isBits l) : ∀ j, j ≤ l.length → sumW 1 l l.length j = numF (l.take j) * ((2 ^ (l.length - j) : Nat) : Int)
  | 0, _ => by simp [sumW, numF]
  | j + 1, h => by
    have hj : j < l.length := h
    rw [sumW_step hj, sumW_high hb j (by omega), List.take_succ_eq_append_getElem hj, numF_snoc]
    have e : plc 1 j l.length = l.length - (j + 1) := by unfold plc; rw [if_pos rfl]; omega
    have e2 : l.length - j = (l.length - (j + 1)) + 1 := by omega
    rw [e, e2, Nat.pow_succ]
    generalize 2 ^ (l.length - (j + 1)) = q
    generalize numF (l.take j) = f
    have e3 : ((q * 2 : Nat) : Int) = (q : Int) * 2 := by simp
    rw [e3]
    rcases hb l[j] (List.getElem_mem hj) with h1 | h1
    · rw [if_neg (by omega), h1, show (2 * f + ((48 : Nat) : Int) - 48) = 2 * f by omega, Int.add_zero, ← Int.mul_assoc, Int.mul_comm (f * (q : Int)) 2, ← Int.mul_assoc]
    · rw [if_pos h1, h1, show (2 * f + ((49 : Nat) : Int) - 48) = 2 * f + 1 by omega, Int.add_mul, Int.one_mul, ← Int.mul_assoc, Int.mul_comm (f * (q : Int)) 2, ← Int.mul_assoc]
theorem sumW_num {o : Int} (ho : o = 0 ∨ o = 1) {l : List UInt8} (hb : isBits l) : sumW o l l.length l.length = numL o l := by
  rcases ho with rfl | rfl
  · rw [sumW_low hb l.length (Nat.le_refl _), List.take_length]; unfold numL; rw [if_pos rfl]
  · rw [sumW_high hb l.length (Nat.le_refl _), List.take_length, Nat.sub_self]; unfold numL; rw [if_neg (by decide)]; simp

def RelBn (o : Int) (l : List UInt8) (wd : Nat) (n i : Value) : Prop := ∃ j : Nat, j ≤ wd ∧ i = .int .i64 j ∧ n = .int .i64 (sumW o l wd j)
set_option maxRecDepth 100000 in
set_option maxHeartbeats 1000000 in
theorem bitsN_any (o : Int) (s : ByteArray) (w : World) (ho : o = 0 ∨ o = 1) (hb : isBits s.data.toList) (hs : s.size ≤ 16) :
    Calls Tryz.prog 103  #[.int .i64 o, .string s] w (fun e w' => e = .returned (.int .i64 (numL o s.data.toList)) ∧ w = w') := by
  have hlen := ba_len s
  have HT : Hid (sumW o s.data.toList s.size s.size = numL o s.data.toList) := by unfold Hid; rw [← sumW_num ho hb, hlen]
  have ho1 := ho
  go_enter Tryz.func103, Tryz.ntmps103
  go_wp2
  go_loop [5, 9] (fun n i => RelBn o s.data.toList s.size n i) (fun _ i => s.size - (intOf i).toNat)
  case atStart => exact ⟨0, Nat.zero_le _, rfl, rfl⟩
  case round =>
    obtain ⟨j, hj, rfl, rfl⟩ := hrel
    have hbd := sumW_bd o s.data.toList (wd := s.size) (by omega) j (by omega)
    have hbd1 := hbd.1
    have hbd2 : sumW o s.data.toList s.size j ≤ 1048576 := by omega
    by_cases hlt : j < s.size
    · have hlt2 : j < s.data.toList.length := by omega
      have HS := Lib.hid (sumW_step (o := o) (wd := s.size) hlt2)
      have hu := u8_bd s[j]
      have e : s[j] = s.data.toList[j] := rfl
      have hpl := plc_lt (o := o) (i := j) (wd := s.size) hlt
      have hpw := pow_len (k := plc o j s.size) (n := 16) (by omega) (by omega)
      have cP : ∀ wx, Calls Tryz.prog 102  #[.int .i64 o, .int .i64 j, .int .i64 s.size] wx (fun e w' => e = .returned (.int .i64 ((2 ^ plc o j s.size : Nat) : Int)) ∧ wx = w') := fun wx => placeI_any o j s.size wx ho1 hlt (by omega)
      have hpw2 : ((2 ^ plc o j s.size : Nat) : Int) ≤ 65536 := by have := Int.ofNat_le.2 hpw; exact this
      have hpw3 : 0 ≤ ((2 ^ plc o j s.size : Nat) : Int) := Int.natCast_nonneg _
      clear hbd hpl hpw
      generalize ((2 ^ plc o j s.size : Nat) : Int) = q at *
      by_cases h1 : (s[j]).toNat = 49
      · have HS2 : Hid (sumW o s.data.toList s.size (j + 1) = sumW o s.data.toList s.size j + q) := by
          unfold Hid; rw [HS.out, if_pos (by rw [← e]; exact h1)]
        have h1' : ((s[j]).toNat : Int) = 49 := by omega
        clear HS e h1 ho ho1
        generalize hf : sumW o s.data.toList s.size j = f at *
        clear hf
        go_wp2_with ((go_at_call 102; (with_reducible refine (cP _).mono ?_); rintro e w' ⟨rfl, rfl⟩))
        go_round
        case rel => exact ⟨j + 1, by omega, by go_num, by rw [HS2.out]⟩
        case measure => simp [intOf]; omega
      · have HS2 : Hid (sumW o s.data.toList s.size (j + 1) = sumW o s.data.toList s.size j) := by
          unfold Hid; rw [HS.out, if_neg (by rw [← e]; exact h1), Int.add_zero]
        have h1' : (((s[j]).toNat : Int) == 49) = false := by simp; omega
        clear HS e h1 ho ho1 cP
        go_wp2
        go_round
        case rel => exact ⟨j + 1, by omega, by go_num, by rw [HS2.out]⟩
        case measure => simp [intOf]; omega
    · have HJ : Hid (j = s.size) := by unfold Hid; omega
      go_wp2
      go_ret
      exact ⟨ret_int (by rw [← HT.out, HJ.out]), rfl⟩

def RelUb (o : Int) (s : List UInt8) (w : World) (out i : Value) (wr : World) : Prop := ∃ n : Nat, i = .int .i64 n ∧ n ≤ s.length ∧ ownU wr w.heap.size out (unpackL o (s.take n)) ∧ Up w wr
theorem mk_u8b (n : Nat) (hn : n ≤ 1048576) (w : World) : (Instr.makeSlice 22 (.int .i64 0) (.int .i64 (n : Int))).run Tryz.prog w = .ok (.slice (some ⟨w.heap.size, 0, none⟩) 0 n) (w.alloc (.cells (madeCells #[.int .u8 0] n) 5)) := by
  obtain ⟨i0, hi0, hz0, hz1, hz2⟩ := info_parts infoByte
  have := run_make (P := Tryz.prog) w 22 5 i0 _ Tryz.underlying22 hi0 hz0 .i64 .i64 0 n (by omega) (by omega) (by rw [hz2]; omega) (by omega)
  rw [hz1] at this
  simpa [Value.cells] using this
theorem own_mk0b {w : World} {base n : Nat} (hb : base ≤ w.heap.size) (hn : n ≤ maxLen) : ownU (w.alloc (.cells (madeCells #[.int .u8 0] n) 5)) base (.slice (some ⟨w.heap.size, 0, none⟩) 0 n) [] :=
  World.ownsRow_made w _ n hb hn (by simp [madeCells])
theorem unpackL_takeb (o : Int) {s : List UInt8} {i : Nat} (h : i < s.length) : unpackL o (s.take (i + 1)) = unpackL o (s.take i) ++ codeL o (s[i]).toNat 8 := by
  rw [List.take_succ_eq_append_getElem h, unpackL_snoc]

set_option maxRecDepth 100000 in
set_option maxHeartbeats 4000000 in
theorem unpackBI_any (o : Int) (s : ByteArray) (w : World) (ho : o = 0 ∨ o = 1) (hs : s.size ≤ 4000) :
    Calls Tryz.prog 52  #[.int .i64 o, .string s] w (Same (.string (bs (unpackL o s.data.toList))) w) := by
  have hlen := ba_len s
  have hmk := mk_u8b (8 * s.size) (by omega)
  have e1 : Hid (((8 * s.size : Nat) : Int) = 8 * (s.size : Int)) := by unfold Hid; omega
  rw [e1.out] at hmk
  have HO := Lib.hid ho
  clear ho
  go_enter Tryz.func52, Tryz.ntmps52
  go_wp2
  go_loopw [5, 13] (fun out i wr => RelUb o s.data.toList w out i wr) (fun _ i _ => s.size - (intOf i).toNat)
  case atStart => exact ⟨0, rfl, Nat.zero_le _, by rw [List.take_zero]; exact own_mk0b (Nat.le_refl _) (by unfold maxLen; omega), by (repeat (first | with_reducible exact Up.refl _ | with_reducible assumption | with_reducible refine Up.set ?_ (by first | exact Nat.le_refl _ | (simp only []; omega) | (simp; omega)) _ | with_reducible refine Up.alloc ?_ _ | with_reducible refine Up.drew ?_ | refine Up.trans ?_ (by with_reducible assumption)))⟩
  case round =>
    clear hmk
    obtain ⟨n, rfl, hle, hown, hup⟩ := hrel
    obtain ⟨a, c, rfl⟩ := ownsRow_shape hown
    have HOW := Lib.hid hown
    have HU := Lib.hid hup
    have hul : (unpackL o (s.data.toList.take n)).length ≤ 32000 := by rw [unpackL_length, List.length_take]; omega
    by_cases hlt : n < s.size
    · have hlt2 : n < s.data.toList.length := by omega
      have hu := u8_bd s[n]
      have HS : Hid (unpackL o (s.data.toList.take (n + 1)) = unpackL o (s.data.toList.take n) ++ codeL o (s[n]).toNat 8) := unpackL_takeb o hlt2
      obtain ⟨cl, hcl⟩ : ∃ cl, cl = codeL o (s[n]).toNat 8 := ⟨_, rfl⟩
      obtain ⟨d, hd⟩ : ∃ d, d = unpackL o (s.data.toList.take n) := ⟨_, rfl⟩
      have cB : Calls Tryz.prog 90  #[.slice a d.length c, .int .i64 o, .int .i64 ((s[n]).toNat : Nat), .int .i64 8] wr (fun e w' => ∃ v', e = .returned v' ∧ ownU w' w.heap.size v' (d ++ cl) ∧ Up w w') := by
        rw [hcl, hd]
        exact bitsI_any w o (s[n]).toNat 8 _ _ wr HO.out (by omega) (by omega) (by omega) HU.out HOW.out
      rw [← hcl, ← hd] at HS
      rw [← hd] at HOW hul ⊢
      clear hcl hd
      clear hown
      go_wp2_with (go_at_call 90; (with_reducible refine cB.mono ?_); rintro e w2 ⟨v2, rfl, ho2, hu2⟩)
      go_roundw
      case rel => exact ⟨n + 1, by go_num, by omega, by rw [HS.out]; exact ho2, hu2⟩
      case measure => simp [intOf]; omega
    · have HT : Hid (s.data.toList.take n = s.data.toList) := List.take_of_length_le (by omega)
      have cv := conv_any hown rfl
      clear hown
      go_wp2
      go_ret
      exact ⟨ret_str (by rw [HT.out]), hup⟩

end Go.Proofs.YtgbakgaegldomaaGreat
