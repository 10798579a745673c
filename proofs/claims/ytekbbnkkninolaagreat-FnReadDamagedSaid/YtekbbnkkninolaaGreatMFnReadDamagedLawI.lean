/- Texts joined into one: the walks and laws that the last text leans on. Conditions: as each says. -/
import Derived.Test.YtekbbnkkninolaaGreatMFnReadDamagedLawH
import Derived.Test.YtekbbnkkninolaaGreatWd
import Derived.Test.YtekbbnkkninolaaGreatFo
import Derived.Test.YtekbbnkkninolaaGreatBa
import Derived.Test.YtekbbnkkninolaaGreatGlen
import Derived.Test.YtekbbnkkninolaaGreatComp

/- Walks of the program's bitsNumber and unpackBytes; the memory of a reading. Conditions: as each says. -/
namespace Go.Proofs.YtekbbnkkninolaaGreat
set_option linter.unusedVariables false
set_option linter.unusedSimpArgs false
open Go Go.RowKit

/-- The sum of the places of the first j bits that are set. -/
def sumW (o : Int) (l : List UInt8) (wd : Nat) : Nat → Int
  | 0 => 0
  | j + 1 => sumW o l wd j + (if (l.getD j 0).toNat = 49 then ((2 ^ plc o j wd : Nat) : Int) else 0)
theorem sumW_step {o : Int} {l : List UInt8} {wd j : Nat} (h : j < l.length) : sumW o l wd (j + 1) = sumW o l wd j + (if (l[j]).toNat = 49 then ((2 ^ plc o j wd : Nat) : Int) else 0) := by
  rw [sumW, List.getD_eq_getElem?_getD, List.getElem?_eq_getElem h]; rfl
theorem sumW_bd (o : Int) (l : List UInt8) {wd : Nat} (hw : wd ≤ 16) : ∀ j, j ≤ wd → 0 ≤ sumW o l wd j ∧ sumW o l wd j ≤ 65536 * j
  | 0, _ => by simp [sumW]
  | j + 1, h => by
    have ih := sumW_bd o l hw j (by omega)
    have h1 := plc_lt (o := o) (i := j) (wd := wd) (by omega)
    have h2 := pow_len (k := plc o j wd) (n := 16) (by omega) (by omega)
    have h3 : (0 : Int) ≤ ((2 ^ plc o j wd : Nat) : Int) := Int.natCast_nonneg _
    have h4 : ((2 ^ plc o j wd : Nat) : Int) ≤ 65536 := by have := Int.ofNat_le.2 h2; exact this
    rw [sumW]
    clear h1 h2
    generalize ((2 ^ plc o j wd : Nat) : Int) = q at *
    split
    · omega
    · omega
theorem sumW_low {l : List UInt8} (hb : isBits l) : ∀ j, j ≤ l.length → sumW 0 l l.length j = numF (l.take j).reverse
  | 0, _ => by simp [sumW, numF]
  | j + 1, h => by
    have hj : j < l.length := h
    rw [sumW_step hj, sumW_low hb j (by omega), List.take_succ_eq_append_getElem hj, List.reverse_append, List.reverse_cons, List.reverse_nil, List.nil_append, List.singleton_append, numF_cons, List.length_reverse, List.length_take, Nat.min_eq_left (by omega)]
    have e : plc 0 j l.length = j := by unfold plc; rw [if_neg (by decide)]
    rw [e]
    rcases hb l[j] (List.getElem_mem hj) with h1 | h1
    · rw [if_neg (by omega), h1]; simp
    · rw [if_pos h1, h1]; simp; omega
theorem sumW_high {l : List UInt8} (hb : isBits l) : ∀ j, j ≤ l.length → sumW 1 l l.length j = numF (l.take j) * ((2 ^ (l.length - j) : Nat) : Int)
  | 0, _ => by simp [sumW, numF]
  | j + 1, h => by
    have hj : j < l.length := h
    rw [sumW_step hj, sumW_high hb j (by omega), List.take_succ_eq_append_getElem hj, numF_snoc]
    have e : plc 1 j l.length = l.length - (j + 1) := by unfold plc; rw [if_pos rfl]; omega
    have e2 : l.length - j = (l.length - (j + 1)) + 1 := by omega
    rw [e, e2, Nat.pow_succ]
    generalize 2 ^ (l.length - (j + 1)) = q
    generalize numF (l.take j) = f
    have e3 : ((q * 2 : Nat) : Int) = (q : Int) * 2 := by simp
    rw [e3]
    rcases hb l[j] (List.getElem_mem hj) with h1 | h1
    · rw [if_neg (by omega), h1, show (2 * f + ((48 : Nat) : Int) - 48) = 2 * f by omega, Int.add_zero, ← Int.mul_assoc, Int.mul_comm (f * (q : Int)) 2, ← Int.mul_assoc]
    · rw [if_pos h1, h1, show (2 * f + ((49 : Nat) : Int) - 48) = 2 * f + 1 by omega, Int.add_mul, Int.one_mul, ← Int.mul_assoc, Int.mul_comm (f * (q : Int)) 2, ← Int.mul_assoc]
theorem sumW_num {o : Int} (ho : o = 0 ∨ o = 1) {l : List UInt8} (hb : isBits l) : sumW o l l.length l.length = numL o l := by
  rcases ho with rfl | rfl
  · rw [sumW_low hb l.length (Nat.le_refl _), List.take_length]; unfold numL; rw [if_pos rfl]
  · rw [sumW_high hb l.length (Nat.le_refl _), List.take_length, Nat.sub_self]; unfold numL; rw [if_neg (by decide)]; simp

def RelBn (o : Int) (l : List UInt8) (wd : Nat) (n i : Value) : Prop := ∃ j : Nat, j ≤ wd ∧ i = .int .i64 j ∧ n = .int .i64 (sumW o l wd j)
set_option maxRecDepth 100000 in
set_option maxHeartbeats 1000000 in
theorem bitsN_any (o : Int) (s : ByteArray) (w : World) (ho : o = 0 ∨ o = 1) (hb : isBits s.data.toList) (hs : s.size ≤ 16) :
    Calls Tryz.prog 196  #[.int .i64 o, .string s] w (fun e w' => e = .returned (.int .i64 (numL o s.data.toList)) ∧ w = w') := by
  have hlen := ba_len s
  have HT : Hid (sumW o s.data.toList s.size s.size = numL o s.data.toList) := by unfold Hid; rw [← sumW_num ho hb, hlen]
  have ho1 := ho
  go_enter Tryz.func196, Tryz.ntmps196
  go_wp2
  go_loop [5, 9] (fun n i => RelBn o s.data.toList s.size n i) (fun _ i => s.size - (intOf i).toNat)
  case atStart => exact ⟨0, Nat.zero_le _, rfl, rfl⟩
  case round =>
    obtain ⟨j, hj, rfl, rfl⟩ := hrel
    have hbd := sumW_bd o s.data.toList (wd := s.size) (by omega) j (by omega)
    have hbd1 := hbd.1
    have hbd2 : sumW o s.data.toList s.size j ≤ 1048576 := by omega
    by_cases hlt : j < s.size
    · have hlt2 : j < s.data.toList.length := by omega
      have HS := Lib.hid (sumW_step (o := o) (wd := s.size) hlt2)
      have hu := u8_bd s[j]
      have e : s[j] = s.data.toList[j] := rfl
      have hpl := plc_lt (o := o) (i := j) (wd := s.size) hlt
      have hpw := pow_len (k := plc o j s.size) (n := 16) (by omega) (by omega)
      have cP : ∀ wx, Calls Tryz.prog 185  #[.int .i64 o, .int .i64 j, .int .i64 s.size] wx (fun e w' => e = .returned (.int .i64 ((2 ^ plc o j s.size : Nat) : Int)) ∧ wx = w') := fun wx => placeI_any o j s.size wx ho1 hlt (by omega)
      have hpw2 : ((2 ^ plc o j s.size : Nat) : Int) ≤ 65536 := by have := Int.ofNat_le.2 hpw; exact this
      have hpw3 : 0 ≤ ((2 ^ plc o j s.size : Nat) : Int) := Int.natCast_nonneg _
      clear hbd hpl hpw
      generalize ((2 ^ plc o j s.size : Nat) : Int) = q at *
      by_cases h1 : (s[j]).toNat = 49
      · have HS2 : Hid (sumW o s.data.toList s.size (j + 1) = sumW o s.data.toList s.size j + q) := by
          unfold Hid; rw [HS.out, if_pos (by rw [← e]; exact h1)]
        have h1' : ((s[j]).toNat : Int) = 49 := by omega
        clear HS e h1 ho ho1
        generalize hf : sumW o s.data.toList s.size j = f at *
        clear hf
        go_wp2_with ((go_at_call 185; (with_reducible refine (cP _).mono ?_); rintro e w' ⟨rfl, rfl⟩))
        go_round
        case rel => exact ⟨j + 1, by omega, by go_num, by rw [HS2.out]⟩
        case measure => simp [intOf]; omega
      · have HS2 : Hid (sumW o s.data.toList s.size (j + 1) = sumW o s.data.toList s.size j) := by
          unfold Hid; rw [HS.out, if_neg (by rw [← e]; exact h1), Int.add_zero]
        have h1' : (((s[j]).toNat : Int) == 49) = false := by simp; omega
        clear HS e h1 ho ho1 cP
        go_wp2
        go_round
        case rel => exact ⟨j + 1, by omega, by go_num, by rw [HS2.out]⟩
        case measure => simp [intOf]; omega
    · have HJ : Hid (j = s.size) := by unfold Hid; omega
      go_wp2
      go_ret
      exact ⟨ret_int (by rw [← HT.out, HJ.out]), rfl⟩

def RelUb (o : Int) (s : List UInt8) (w : World) (out i : Value) (wr : World) : Prop := ∃ n : Nat, i = .int .i64 n ∧ n ≤ s.length ∧ ownU wr w.heap.size out (unpackL o (s.take n)) ∧ Up w wr
theorem mk_u8b (n : Nat) (hn : n ≤ 1048576) (w : World) : (Instr.makeSlice 38 (.int .i64 0) (.int .i64 (n : Int))).run Tryz.prog w = .ok (.slice (some ⟨w.heap.size, 0, none⟩) 0 n) (w.alloc (.cells (madeCells #[.int .u8 0] n) 5)) := by
  obtain ⟨i0, hi0, hz0, hz1, hz2⟩ := info_parts infoByte
  have := run_make (P := Tryz.prog) w 38 5 i0 _ Tryz.underlying38 hi0 hz0 .i64 .i64 0 n (by omega) (by omega) (by rw [hz2]; omega) (by omega)
  rw [hz1] at this
  simpa [Value.cells] using this
theorem own_mk0b {w : World} {base n : Nat} (hb : base ≤ w.heap.size) (hn : n ≤ maxLen) : ownU (w.alloc (.cells (madeCells #[.int .u8 0] n) 5)) base (.slice (some ⟨w.heap.size, 0, none⟩) 0 n) [] :=
  World.ownsRow_made w _ n hb hn (by simp [madeCells])
theorem unpackL_takeb (o : Int) {s : List UInt8} {i : Nat} (h : i < s.length) : unpackL o (s.take (i + 1)) = unpackL o (s.take i) ++ codeL o (s[i]).toNat 8 := by
  rw [List.take_succ_eq_append_getElem h, unpackL_snoc]

set_option maxRecDepth 100000 in
set_option maxHeartbeats 4000000 in
theorem unpackBI_any (o : Int) (s : ByteArray) (w : World) (ho : o = 0 ∨ o = 1) (hs : s.size ≤ 4000) :
    Calls Tryz.prog 165  #[.int .i64 o, .string s] w (Same (.string (bs (unpackL o s.data.toList))) w) := by
  have hlen := ba_len s
  have hmk := mk_u8b (8 * s.size) (by omega)
  have e1 : Hid (((8 * s.size : Nat) : Int) = 8 * (s.size : Int)) := by unfold Hid; omega
  rw [e1.out] at hmk
  have HO := Lib.hid ho
  clear ho
  go_enter Tryz.func165, Tryz.ntmps165
  go_wp2
  go_loopw [5, 13] (fun out i wr => RelUb o s.data.toList w out i wr) (fun _ i _ => s.size - (intOf i).toNat)
  case atStart => exact ⟨0, rfl, Nat.zero_le _, by rw [List.take_zero]; exact own_mk0b (Nat.le_refl _) (by unfold maxLen; omega), by (repeat (first | with_reducible exact Up.refl _ | with_reducible assumption | with_reducible refine Up.set ?_ (by first | exact Nat.le_refl _ | (simp only []; omega) | (simp; omega)) _ | with_reducible refine Up.alloc ?_ _ | with_reducible refine Up.drew ?_ | refine Up.trans ?_ (by with_reducible assumption)))⟩
  case round =>
    clear hmk
    obtain ⟨n, rfl, hle, hown, hup⟩ := hrel
    obtain ⟨a, c, rfl⟩ := ownsRow_shape hown
    have HOW := Lib.hid hown
    have HU := Lib.hid hup
    have hul : (unpackL o (s.data.toList.take n)).length ≤ 32000 := by rw [unpackL_length, List.length_take]; omega
    by_cases hlt : n < s.size
    · have hlt2 : n < s.data.toList.length := by omega
      have hu := u8_bd s[n]
      have HS : Hid (unpackL o (s.data.toList.take (n + 1)) = unpackL o (s.data.toList.take n) ++ codeL o (s[n]).toNat 8) := unpackL_takeb o hlt2
      obtain ⟨cl, hcl⟩ : ∃ cl, cl = codeL o (s[n]).toNat 8 := ⟨_, rfl⟩
      obtain ⟨d, hd⟩ : ∃ d, d = unpackL o (s.data.toList.take n) := ⟨_, rfl⟩
      have cB : Calls Tryz.prog 155  #[.slice a d.length c, .int .i64 o, .int .i64 ((s[n]).toNat : Nat), .int .i64 8] wr (fun e w' => ∃ v', e = .returned v' ∧ ownU w' w.heap.size v' (d ++ cl) ∧ Up w w') := by
        rw [hcl, hd]
        exact bitsI_any w o (s[n]).toNat 8 _ _ wr HO.out (by omega) (by omega) (by omega) HU.out HOW.out
      rw [← hcl, ← hd] at HS
      rw [← hd] at HOW hul ⊢
      clear hcl hd
      clear hown
      go_wp2_with (go_at_call 155; (with_reducible refine cB.mono ?_); rintro e w2 ⟨v2, rfl, ho2, hu2⟩)
      go_roundw
      case rel => exact ⟨n + 1, by go_num, by omega, by rw [HS.out]; exact ho2, hu2⟩
      case measure => simp [intOf]; omega
    · have HT : Hid (s.data.toList.take n = s.data.toList) := List.take_of_length_le (by omega)
      have cv := conv_any hown rfl
      clear hown
      go_wp2
      go_ret
      exact ⟨ret_str (by rw [HT.out]), hup⟩

end Go.Proofs.YtekbbnkkninolaaGreat

/- Walk of the program's readCodes. Conditions: what is known is valid and can be read; all bytes are bits, their number is bounded. -/
namespace Go.Proofs.YtekbbnkkninolaaGreat
set_option linter.unusedVariables false
set_option linter.unusedSimpArgs false
open Go Go.RowKit

/-- A reading lies in the block b. -/
def RgAt (b : Nat) (k : KnD) (v vc vd : Value) (fin pos : Int) (w : World) : Prop := w.heap[b]? = some (.cells #[.int .i64 k.set.ord, .int .i64 k.set.lit, .int .i64 k.set.most, v, .int .i64 k.base, .int .i64 k.last, vc, vd, .int .i64 fin, .int .i64 pos] 151)
theorem RgAt.cells {b : Nat} {k : KnD} {v vc vd : Value} {fin pos : Int} {w : World} (h : RgAt b k v vc vd fin pos w) : b < w.heap.size ∧ w.cell? ⟨b, 0, none⟩ = some (.int .i64 k.set.ord) ∧ w.cell? ⟨b, 1, none⟩ = some (.int .i64 k.set.lit) ∧ w.cell? ⟨b, 2, none⟩ = some (.int .i64 k.set.most) ∧ w.cell? ⟨b, 3, none⟩ = some v ∧ w.cell? ⟨b, 4, none⟩ = some (.int .i64 k.base) ∧ w.cell? ⟨b, 5, none⟩ = some (.int .i64 k.last) ∧
    w.cell? ⟨b, 6, none⟩ = some vc ∧ w.cell? ⟨b, 7, none⟩ = some vd ∧ w.cell? ⟨b, 8, none⟩ = some (.int .i64 fin) ∧ w.cell? ⟨b, 9, none⟩ = some (.int .i64 pos) :=
  ⟨(Array.getElem?_eq_some_iff.1 h).1, box_cell h 0, box_cell h 1, box_cell h 2, box_cell h 3, box_cell h 4, box_cell h 5, box_cell h 6, box_cell h 7, box_cell h 8, box_cell h 9⟩
abbrev rgV (k : KnD) (v vc vd : Value) (fin pos : Int) : Value := .agg #[.int .i64 k.set.ord, .int .i64 k.set.lit, .int .i64 k.set.most, v, .int .i64 k.base, .int .i64 k.last, vc, vd, .int .i64 fin, .int .i64 pos]
def RgW (w : World) (b : Nat) (k : KnD) (v vc vd : Value) (fin pos : Int) : World := (World.setCell (World.setCell (World.setCell (World.setCell (World.setCell (World.setCell (World.setCell (World.setCell (World.setCell (World.setCell w ⟨b, 0, none⟩ (.int .i64 k.set.ord)) ⟨b, 1, none⟩ (.int .i64 k.set.lit)) ⟨b, 2, none⟩ (.int .i64 k.set.most)) ⟨b, 3, none⟩ v) ⟨b, 4, none⟩ (.int .i64 k.base)) ⟨b, 5, none⟩ (.int .i64 k.last)) ⟨b, 6, none⟩ vc) ⟨b, 7, none⟩ vd) ⟨b, 8, none⟩ (.int .i64 fin)) ⟨b, 9, none⟩ (.int .i64 pos))
def RgC (b : Nat) (c0 c1 c2 c3 c4 c5 c6 c7 c8 c9 : Value) (w : World) : Prop := w.heap[b]? = some (.cells #[c0, c1, c2, c3, c4, c5, c6, c7, c8, c9] 151)
section
variable {w : World} {b : Nat} {c0 c1 c2 c3 c4 c5 c6 c7 c8 c9 : Value}
theorem RgC.s0 (h : RgC b c0 c1 c2 c3 c4 c5 c6 c7 c8 c9 w) (u : Value) : RgC b u c1 c2 c3 c4 c5 c6 c7 c8 c9 (w.setCell ⟨b, 0, none⟩ u) := box_set h 0 u
theorem RgC.s1 (h : RgC b c0 c1 c2 c3 c4 c5 c6 c7 c8 c9 w) (u : Value) : RgC b c0 u c2 c3 c4 c5 c6 c7 c8 c9 (w.setCell ⟨b, 1, none⟩ u) := box_set h 1 u
theorem RgC.s2 (h : RgC b c0 c1 c2 c3 c4 c5 c6 c7 c8 c9 w) (u : Value) : RgC b c0 c1 u c3 c4 c5 c6 c7 c8 c9 (w.setCell ⟨b, 2, none⟩ u) := box_set h 2 u
theorem RgC.s3 (h : RgC b c0 c1 c2 c3 c4 c5 c6 c7 c8 c9 w) (u : Value) : RgC b c0 c1 c2 u c4 c5 c6 c7 c8 c9 (w.setCell ⟨b, 3, none⟩ u) := box_set h 3 u
theorem RgC.s4 (h : RgC b c0 c1 c2 c3 c4 c5 c6 c7 c8 c9 w) (u : Value) : RgC b c0 c1 c2 c3 u c5 c6 c7 c8 c9 (w.setCell ⟨b, 4, none⟩ u) := box_set h 4 u
theorem RgC.s5 (h : RgC b c0 c1 c2 c3 c4 c5 c6 c7 c8 c9 w) (u : Value) : RgC b c0 c1 c2 c3 c4 u c6 c7 c8 c9 (w.setCell ⟨b, 5, none⟩ u) := box_set h 5 u
theorem RgC.s6 (h : RgC b c0 c1 c2 c3 c4 c5 c6 c7 c8 c9 w) (u : Value) : RgC b c0 c1 c2 c3 c4 c5 u c7 c8 c9 (w.setCell ⟨b, 6, none⟩ u) := box_set h 6 u
theorem RgC.s7 (h : RgC b c0 c1 c2 c3 c4 c5 c6 c7 c8 c9 w) (u : Value) : RgC b c0 c1 c2 c3 c4 c5 c6 u c8 c9 (w.setCell ⟨b, 7, none⟩ u) := box_set h 7 u
theorem RgC.s8 (h : RgC b c0 c1 c2 c3 c4 c5 c6 c7 c8 c9 w) (u : Value) : RgC b c0 c1 c2 c3 c4 c5 c6 c7 u c9 (w.setCell ⟨b, 8, none⟩ u) := box_set h 8 u
theorem RgC.s9 (h : RgC b c0 c1 c2 c3 c4 c5 c6 c7 c8 c9 w) (u : Value) : RgC b c0 c1 c2 c3 c4 c5 c6 c7 c8 u (w.setCell ⟨b, 9, none⟩ u) := box_set h 9 u
end
theorem RgAt.store {w : World} {b : Nat} {k0 : KnD} {v0 vc0 vd0 : Value} {fin0 pos0 : Int} (h : RgAt b k0 v0 vc0 vd0 fin0 pos0 w) (k : KnD) (v vc vd : Value) (fin pos : Int) : RgAt b k v vc vd fin pos (RgW w b k v vc vd fin pos) :=
  ((((((((((show RgC b _ _ _ _ _ _ _ _ _ _ w from h).s0 (.int .i64 k.set.ord)).s1 (.int .i64 k.set.lit)).s2 (.int .i64 k.set.most)).s3 v).s4 (.int .i64 k.base)).s5 (.int .i64 k.last)).s6 vc).s7 vd).s8 (.int .i64 fin)).s9 (.int .i64 pos)
theorem RgAt.storeK {w : World} {b : Nat} {k0 : KnD} {v0 vc vd : Value} {fin pos : Int} (h : RgAt b k0 v0 vc vd fin pos w) (k : KnD) (v : Value) : RgAt b k v vc vd fin pos (KnW w b k v) :=
  ((((((show RgC b _ _ _ _ _ _ _ _ _ _ w from h).s0 (.int .i64 k.set.ord)).s1 (.int .i64 k.set.lit)).s2 (.int .i64 k.set.most)).s3 v).s4 (.int .i64 k.base)).s5 (.int .i64 k.last)
theorem RgW.up {a w : World} (h : Up a w) {b : Nat} (hb : a.heap.size ≤ b) (k : KnD) (v vc vd : Value) (fin pos : Int) : Up a (RgW w b k v vc vd fin pos) := by
  unfold RgW
  repeat (refine Up.set ?_ (by exact hb) _)
  exact h
theorem RgW.own {w : World} {base : Nat} {e : TypeId} {size n : Nat} {u : Value} {xs : List Value} (h : w.ownsRow base e size u n xs) {b : Nat} (hb : some b ≠ u.ownBlock) (k : KnD) (v vc vd : Value) (fin pos : Int) : (RgW w b k v vc vd fin pos).ownsRow base e size u n xs := by
  unfold RgW
  repeat (refine ownsRow_setb ?_ hb _ _)
  exact h
theorem RgW.other {w : World} {b b' : Nat} (hb : b' ≠ b) (k : KnD) (v vc vd : Value) (fin pos : Int) : (RgW w b k v vc vd fin pos).heap[b']? = w.heap[b']? := by
  unfold RgW
  have hs : ∀ (w : World) (i : Nat) (x : Value), (w.setCell ⟨b, i, none⟩ x).heap[b']? = w.heap[b']? := fun w i x => Below.heap_setCell _ _ _ _ hb
  rw [hs, hs, hs, hs, hs, hs, hs, hs, hs, hs]
theorem fr_grown {v : Value} {w w' : World} (h : Fr (fun b => v.ownBlock = some b) w w') : w.grownBy w' v.ownBlock := ⟨h.os, h.tape, h.output, h.size, fun b hb hne => h.block b hb (fun e => hne e.symm)⟩
theorem gOut_adv {f : FuncId} {args : Array Value} {w : World} {k : KnD} {B : Nat} {v : Value} (h : Calls Tryz.prog f args w (AdvPost k B v w)) : gOut Tryz.prog (fun w w' => w.grownBy w' v.ownBlock) (fun u w' => ∃ vv, u = kV k vv ∧ ownPr w' B vv k.ps) w (.ok (.enter f args) w) :=
  ⟨rfl, h.mono fun e w'' ⟨vv, he, ho, hf⟩ => ⟨_, he, fr_grown hf, vv, rfl, ho⟩⟩

/-- The memory of readCodes. -/
structure RcB (w : World) (k0 : KnD) (v0 : Value) (rb : Nat) (k : KnD) (v : Value) (cs : List Int) (vc : Value) (d : List UInt8) (vd : Value) (fin pos : Int) (wr : World) : Prop where
  kn0 : KnAt w.heap.size k0 v0 wr
  res : RgAt (w.heap.size + 1) ⟨⟨0, 0, 0⟩, [], 0, 0⟩ (.slice none 0 0) (.slice none 0 0) (.slice none 0 0) 0 0 wr
  box : RgAt rb k v vc vd fin pos wr
  lo : w.heap.size + 2 ≤ rb
  pr : ownPr wr (w.heap.size + 2) v k.ps
  own : ownI wr (w.heap.size + 2) vc cs
  dat : ownU wr (w.heap.size + 2) vd d
  up : Up w wr
section
variable {w : World} {k0 : KnD} {v0 : Value} {rb : Nat} {k k' : KnD} {v v' : Value} {cs cs' : List Int} {vc vc' : Value} {d d' : List UInt8} {vd vd' : Value} {fin pos fin' pos' : Int} {wr w' : World}
theorem RcB.upd (h : RcB w k0 v0 rb k v cs vc d vd fin pos wr) (hu : Up wr w') : RcB w k0 v0 rb k v cs vc d vd fin pos w' :=
  ⟨h.kn0.up hu, box_up hu h.res, box_up hu h.box, h.lo, ownsRow_up h.pr hu, ownsRow_up h.own hu, ownsRow_up h.dat hu, h.up.trans hu⟩
theorem RcB.set (h : RcB w k0 v0 rb k v cs vc d vd fin pos wr) (i : Nat) (u : Value) {kx : KnD} {vx vcx vdx : Value} {fx px : Int} (hb : RgAt rb kx vx vcx vdx fx px wr) (hb' : RgAt rb k' v' vc' vd' fin' pos' (wr.setCell ⟨rb, i, none⟩ u)) (hp : ownPr wr (w.heap.size + 2) v' k'.ps) (ho : ownI wr (w.heap.size + 2) vc' cs') (hd : ownU wr (w.heap.size + 2) vd' d') :
    RcB w k0 v0 rb k' v' cs' vc' d' vd' fin' pos' (wr.setCell ⟨rb, i, none⟩ u) :=
  have hl := h.lo
  ⟨(Below.heap_setCell _ _ _ _ (show w.heap.size ≠ rb by omega)).trans h.kn0, (Below.heap_setCell _ _ _ _ (show w.heap.size + 1 ≠ rb by omega)).trans h.res, hb', hl, ownsRow_setb hp (box_ne hb hp (by decide)) i u, ownsRow_setb ho (box_ne hb ho (by decide)) i u, ownsRow_setb hd (box_ne hb hd (by decide)) i u, h.up.set (p := ⟨rb, i, none⟩) (by show w.heap.size ≤ rb; omega) u⟩
theorem RcB.setF (h : RcB w k0 v0 rb k v cs vc d vd fin pos wr) (f : Int) : RcB w k0 v0 rb k v cs vc d vd f pos (wr.setCell ⟨rb, 8, none⟩ (.int .i64 f)) := h.set 8 _ h.box (box_set h.box 8 _) h.pr h.own h.dat
theorem RcB.setP (h : RcB w k0 v0 rb k v cs vc d vd fin pos wr) (p : Int) : RcB w k0 v0 rb k v cs vc d vd fin p (wr.setCell ⟨rb, 9, none⟩ (.int .i64 p)) := h.set 9 _ h.box (box_set h.box 9 _) h.pr h.own h.dat
/-- The row of codes has grown, the box is as it was. -/
structure RcG (w : World) (k0 : KnD) (v0 : Value) (rb : Nat) (k : KnD) (v : Value) (vc : Value) (vd : Value) (fin pos : Int) (wr : World) : Prop where
  kn0 : KnAt w.heap.size k0 v0 wr
  res : RgAt (w.heap.size + 1) ⟨⟨0, 0, 0⟩, [], 0, 0⟩ (.slice none 0 0) (.slice none 0 0) (.slice none 0 0) 0 0 wr
  box : RgAt rb k v vc vd fin pos wr
  up : Up w wr
theorem RcB.grown {e : TypeId} {size n base : Nat} {vr : Value} {xs : List Value} (h : RcB w k0 v0 rb k v cs vc d vd fin pos wr) (ho : wr.ownsRow base e size vr n xs) (hbase : w.heap.size + 2 ≤ base) (he : 151 ≠ e) (hg : wr.grownBy w' vr.ownBlock) : RcG w k0 v0 rb k v vc vd fin pos w' :=
  ⟨h.kn0.gr hg (low_ne (w := w) ho (by omega)), gbox hg h.res (low_ne (w := w) ho (by omega)), gbox hg h.box (box_ne h.box ho he), h.up.grown hg fun y hy => by have := (ho.lt y hy).1; omega⟩
theorem RcB.putC (h : RcB w k0 v0 rb k v cs vc d vd fin pos wr) (hg : wr.grownBy w' vc.ownBlock) (hn : ownI w' (w.heap.size + 2) vc' cs') : RcB w k0 v0 rb k v cs' vc' d vd fin pos (w'.setCell ⟨rb, 6, none⟩ vc') := by
  have hG := h.grown h.own (Nat.le_refl _) (by decide) hg
  have hp := h.pr.kept hg (rows_ne h.pr h.own (by decide))
  have hd := h.dat.kept hg (rows_ne h.dat h.own (by decide))
  have hl := h.lo
  exact ⟨(Below.heap_setCell _ _ _ _ (show w.heap.size ≠ rb by omega)).trans hG.kn0, (Below.heap_setCell _ _ _ _ (show w.heap.size + 1 ≠ rb by omega)).trans hG.res, box_set hG.box 6 _, hl, ownsRow_setb hp (box_ne hG.box hp (by decide)) _ _, ownsRow_setb hn (box_ne hG.box hn (by decide)) _ _, ownsRow_setb hd (box_ne hG.box hd (by decide)) _ _, hG.up.set (p := ⟨rb, 6, none⟩) (by show w.heap.size ≤ rb; omega) _⟩
theorem RcB.putD (h : RcB w k0 v0 rb k v cs vc d vd fin pos wr) (hg : wr.grownBy w' vd.ownBlock) (hn : ownU w' (w.heap.size + 2) vd' d') : RcB w k0 v0 rb k v cs vc d' vd' fin pos (w'.setCell ⟨rb, 7, none⟩ vd') := by
  have hG := h.grown h.dat (Nat.le_refl _) (by decide) hg
  have hp := h.pr.kept hg (rows_ne h.pr h.dat (by decide))
  have ho := h.own.kept hg (rows_ne h.own h.dat (by decide))
  have hl := h.lo
  exact ⟨(Below.heap_setCell _ _ _ _ (show w.heap.size ≠ rb by omega)).trans hG.kn0, (Below.heap_setCell _ _ _ _ (show w.heap.size + 1 ≠ rb by omega)).trans hG.res, box_set hG.box 7 _, hl, ownsRow_setb hp (box_ne hG.box hp (by decide)) _ _, ownsRow_setb ho (box_ne hG.box ho (by decide)) _ _, ownsRow_setb hn (box_ne hG.box hn (by decide)) _ _, hG.up.set (p := ⟨rb, 7, none⟩) (by show w.heap.size ≤ rb; omega) _⟩
theorem RcB.putK (h : RcB w k0 v0 rb k v cs vc d vd fin pos wr) (hg : wr.grownBy w' v.ownBlock) (hn : ownPr w' (w.heap.size + 2) v' k'.ps) : RcB w k0 v0 rb k' v' cs vc d vd fin pos (KnW w' rb k' v') := by
  have hG := h.grown h.pr (Nat.le_refl _) (by decide) hg
  have ho := h.own.kept hg (rows_ne h.own h.pr (by decide))
  have hd := h.dat.kept hg (rows_ne h.dat h.pr (by decide))
  have hl := h.lo
  exact ⟨(KnW.other (show w.heap.size ≠ rb by omega) k' v').trans hG.kn0, (KnW.other (show w.heap.size + 1 ≠ rb by omega) k' v').trans hG.res, hG.box.storeK k' v', hl,
    KnW.own hn (box_ne hG.box hn (by decide)) k' v', KnW.own ho (box_ne hG.box ho (by decide)) k' v', KnW.own hd (box_ne hG.box hd (by decide)) k' v', KnW.up hG.up (by omega) k' v'⟩
end
/-- The plain state of readCodes. -/
structure RcD (T : RdR) (o : Int) (bits : List UInt8) (sz ct : Nat) (k0 : KnD) (m : Nat) (k : KnD) (p : Nat) (cs : List Int) (d : List UInt8) : Prop where
  inv : RdInv bits sz k0 k p cs d
  tot : readN o bits sz ct m k p cs d = T
  len : bits.length ≤ p + m
  cl : ct + cs.length < 3100
def RelRc (T : RdR) (bits : List UInt8) (sz ct : Nat) (k0 : KnD) (v0 : Value) (w : World) (rb : Nat) (q : Value) (wr : World) : Prop := ∃ (k : KnD) (v vc vd : Value) (p m : Nat) (cs : List Int) (d : List UInt8), RcD T k0.set.ord bits sz ct k0 m k p cs d ∧ RcB w k0 v0 rb k v cs vc d vd 1 p wr
def posOf (rb : Nat) (wr : World) : Nat := match wr.cell? ⟨rb, 9, none⟩ with
  | some (.int _ n) => n.toNat
  | _ => 0
theorem posOf_box {rb : Nat} {wr : World} {k : KnD} {v vc vd : Value} {fin pos : Int} (h : RgAt rb k v vc vd fin pos wr) : posOf rb wr = pos.toNat := by
  unfold posOf
  rw [(h.cells).2.2.2.2.2.2.2.2.2.2]
/-- What readCodes leaves. -/
def RcPost (R : RdR) (w : World) (e : Ending) (w' : World) : Prop := ∃ v vc vd, e = .returned (rgV R.k v vc vd R.fin R.pos) ∧ ownPr w' w.heap.size v R.k.ps ∧ ownI w' w.heap.size vc R.codes ∧ ownU w' w.heap.size vd R.data ∧ Up w w'
theorem RcPost.of {w : World} {k0 : KnD} {v0 : Value} {rb : Nat} {k : KnD} {v : Value} {cs : List Int} {vc : Value} {d : List UInt8} {vd : Value} {fin : Int} {p : Nat} {wr : World} (h : RcB w k0 v0 rb k v cs vc d vd fin p wr) : RcPost ⟨k, cs, d, fin, p⟩ w (.returned (rgV k v vc vd fin p)) (RgW wr (w.heap.size + 1) k v vc vd fin p) :=
  ⟨v, vc, vd, rfl, ownsRow_base (RgW.own h.pr (low_ne (w := w) h.pr (by omega)) ..) (by omega), ownsRow_base (RgW.own h.own (low_ne (w := w) h.own (by omega)) ..) (by omega), ownsRow_base (RgW.own h.dat (low_ne (w := w) h.dat (by omega)) ..) (by omega), RgW.up h.up (by omega) ..⟩
theorem top_follows {k : KnD} (h : k.Ok) {x : Int} (h0 : 0 ≤ x) (h1 : x ≤ (k.top : Int)) (h2 : x ≠ (k.c : Int) + 1) (h3 : x ≠ (k.c : Int)) : k.follows x = true := by
  unfold KnD.follows
  rw [Bool.or_eq_true, Bool.and_eq_true, codeOk_iff, decide_eq_true_iff]
  unfold KnD.top at h1
  unfold KnD.next at *
  split at h1
  · next hg =>
    by_cases hx : x = ((k.c + 2 + k.ps.length : Nat) : Int)
    · exact .inr ⟨hg, hx⟩
    · left; omega
  · left; omega
theorem follows_top {k : KnD} (h : k.Ok) {x : Int} (h1 : ¬ x ≤ (k.top : Int)) : x ≠ (k.c : Int) + 1 ∧ x ≠ (k.c : Int) ∧ k.follows x = false := by
  have ht := (KnD.top_bd h).1
  refine ⟨by omega, by omega, ?_⟩
  cases hf : k.follows x
  · rfl
  · exact absurd (KnD.fol_top h hf).2 h1

set_option maxRecDepth 100000 in
set_option maxHeartbeats 8000000 in
theorem readI_any (k : KnD) (v : Value) (lo : Nat) (bits : List UInt8) (sz ct : Nat) (w : World) (h : k.Ok) (hr : RdP lo w v k.ps) (hb : isBits bits) (hl : bits.length ≤ 40000) (hs : sz ≤ 2000) (hc : ct < 3100) :
    Calls Tryz.prog 164  #[kV k v, .string (bs bits), .int .i64 sz, .int .i64 ct] w (RcPost (readN k.set.ord bits sz ct bits.length k 0 [] []) w) := by
  obtain ⟨i0, hi, hz0, hz1, hz2⟩ := info_parts infoIntG
  have hpl0 := h.nums.2.2.2.1
  have cY := fun wx hr => copyI_any k v lo wx hr (by omega)
  have cK0 := fun wx => clearI_any k.set wx h.set
  have cE0 := fun wx => endI_any k.set wx h.set
  have hrt := fun (wq : World) (hu : Up w wq) => hr.up hu
  have HKT := Lib.hid h
  obtain ⟨T, hT⟩ : ∃ T, T = readN k.set.ord bits sz ct bits.length k 0 [] [] := ⟨_, rfl⟩
  rw [← hT]
  have HTT := Lib.hid hT.symm
  have HIB := Lib.hid hb
  have hord0 := (setOk_bd h.set).1
  have HOR := Lib.hid hord0
  have hbz := bs_size bits
  obtain ⟨a, cap, rfl, -, -, -, -⟩ := hr
  simp only [kV] at *
  clear h hT hb hord0
  go_enter Tryz.func164, Tryz.ntmps164
  go_wp2_with (go_at_call 140; (with_reducible refine (cY _ (hrt _ (by (repeat (first | with_reducible exact Up.refl _ | with_reducible assumption | with_reducible refine Up.set ?_ (by first | exact Nat.le_refl _ | (simp only []; omega) | (simp; omega)) _ | with_reducible refine Up.alloc ?_ _ | with_reducible refine Up.drew ?_ | refine Up.trans ?_ (by with_reducible assumption)))))).mono ?_); rintro e w2 ⟨v2, rfl, ho2, U2⟩; obtain ⟨a2, c2, rfl⟩ := ownsRow_shape ho2; have hk2 : KnAt w.heap.size k (.slice a k.ps.length cap) w2 := box_up U2 (box_up ((Up.refl _).alloc _) (MapKept.heap_alloc w _).1); have hq2 : RgAt (w.heap.size + 1) ⟨⟨0, 0, 0⟩, [], 0, 0⟩ (.slice none 0 0) (.slice none 0 0) (.slice none 0 0) 0 0 w2 := box_up U2 (alloc2 w _ _); have hU2 : Up w w2 := (by (repeat (first | with_reducible exact Up.refl _ | with_reducible assumption | with_reducible refine Up.set ?_ (by first | exact Nat.le_refl _ | (simp only []; omega) | (simp; omega)) _ | with_reducible refine Up.alloc ?_ _ | with_reducible refine Up.drew ?_ | refine Up.trans ?_ (by with_reducible assumption)))); have hs2 := U2.size; simp at hs2; have hm2 : RcB w k (.slice a k.ps.length cap) w2.heap.size k (.slice a2 k.ps.length c2) [] (.slice none 0 0) [] (.slice none 0 0) 1 0 (w2.alloc (.cells #[.int .i64 k.set.ord, .int .i64 k.set.lit, .int .i64 k.set.most, .slice a2 k.ps.length c2, .int .i64 k.base, .int .i64 k.last, .slice none 0 0, .slice none 0 0, .int .i64 1, .int .i64 0] 151)) := ⟨box_up ((Up.refl _).alloc _) hk2, box_up ((Up.refl _).alloc _) hq2, (MapKept.heap_alloc w2 _).1, hs2, ownsRow_base (ownsRow_up ho2 ((Up.refl _).alloc _)) (by simp), World.ownsRow_nil _ _ _ _, World.ownsRow_nil _ _ _ _, hU2.alloc _⟩; have HM2 := Lib.hid hm2; clear ho2 hk2 hq2 hm2 hU2)
  generalize w2.alloc (.cells #[.int .i64 k.set.ord, .int .i64 k.set.lit, .int .i64 k.set.most, .slice a2 k.ps.length c2, .int .i64 k.base, .int .i64 k.last, .slice none 0 0, .slice none 0 0, .int .i64 1, .int .i64 0] 151) = W at HM2 ⊢
  generalize w2.heap.size = rb at *
  refine wp_region_upf 6 (by kernel_rfl) (by kernel_rfl) ?_
  simp only [List.take, List.drop]
  repeat (refine wpUp_step (fun K hK => ?_); go_simp; (try simp only [↓IntWalk.iteOmega]); first
    | (refine hK _ _ ?_; clear hK K)
    | (apply stepU_c
       · intro wq hwq; (have hbq := bcell hwq; (repeat (first | refine fills_no (by rfl) ?_ | refine fills_yes (by rfl) (fun vq hvq => ?_))); simp only [List.filter_nil, fills]; unfold upAt; (try ((obtain ⟨-, s0, s1, s2, s3, s4, s5⟩ := (HM2.out.kn0.up hwq).cells))); go_simp; (try go_bits); (try simp only [↓IntWalk.iteOmega]); (try (rw [dif_pos (by omega)]; go_simp; try go_bits)); first | exact upOut_value | (apply upOut_call; (go_at_call 137; exact cK0 _)) | (apply upOut_eq; (go_at_call 137; exact cK0 _)) | (apply upOut_call; (go_at_call 177; exact cE0 _)) | (apply upOut_eq; (go_at_call 177; exact cE0 _)))
       go_simp; refine hK _ _ ?_; clear hK K))
  refine wpUp_nil (fun wq hwq => ?_)
  simp only [fills]
  have HM3 := Lib.hid (HM2.out.upd hwq)
  clear hwq
  go_wp2
  rw [onlyN_normal]
  go_wp2
  have hlo := HM3.out.lo
  go_loopw [12] (fun q wr => RelRc T bits sz ct k (.slice a k.ps.length cap) w rb q wr) (fun _ wr => bits.length - posOf rb wr)
  case atStart => exact ⟨k, _, _, _, 0, bits.length, [], [], ⟨RdInv.start HKT.out hs, HTT.out, by omega, by simpa using hc⟩, HM3.out⟩
  case round =>
    clear HM2 HM3 cY hrt hs2
    obtain ⟨k', v', vc, vd, p, m, cs, d, hD, hB⟩ := hrel
    have HD := Lib.hid hD
    have HB := Lib.hid hB
    have HB0 := Lib.hid hB
    have hok := hD.inv.ok
    obtain ⟨a', c', rfl⟩ := ownsRow_shape hB.pr
    obtain ⟨aw, cw, rfl⟩ := ownsRow_shape hB.own
    obtain ⟨ad, cd, rfl⟩ := ownsRow_shape hB.dat
    obtain ⟨hbr, r0, r1, r2, r3, r4, r5, r6, r7, r8, r9⟩ := (hB).box.cells; have hfb := box_free (hB).box
    obtain ⟨hbq, q0, q1, q2, q3, q4, q5, q6, q7, q8, q9⟩ := RgAt.cells (k := ⟨⟨0, 0, 0⟩, [], 0, 0⟩) (hB).res; have hfq := box_free (hB).res
    obtain ⟨hbk, s0, s1, s2, s3, s4, s5⟩ := hB.kn0.cells
    have hdl := hD.inv.dl
    have hcl := hD.cl
    have hpl := hD.inv.pos
    have hlm := hD.len
    have HSET := Lib.hid hD.inv.set
    have hcc : Hid (k'.c = clr k.set) := by unfold Hid KnD.c; rw [HSET.out]
    have cWd := fun wq hr => widthI_any k' (.slice a' k'.ps.length c') (w.heap.size + 2) wq hok hr
    obtain ⟨hb1, hb2, -, -, -⟩ := hok.nums
    have hwd := KnD.width_bd hok
    have hwd1 := hwd.1
    have hwd2 := hwd.2
    clear hD hB hwd
    by_cases hsh : bits.length < p + k'.width
    · have HR : Hid (T = ⟨k', cs, d, 1, p⟩) := by unfold Hid; rw [← HD.out.tot, readN_short hsh]
      generalize k'.width = wd at *
      simp only [kV] at *
      go_wp2_with ((go_at_call 182; (with_reducible refine (cWd _ (RdP.of_own HB.out.pr)).mono ?_); rintro e w3 ⟨rfl, U3⟩; have B3 := bcell U3; have Z3 := U3.size; (try simp at Z3); (try rw [Nat.add_one_le_iff] at Z3)); obtain ⟨hbr, r0, r1, r2, r3, r4, r5, r6, r7, r8, r9⟩ := (HB.out.upd U3).box.cells; have hfb := box_free (HB.out.upd U3).box; obtain ⟨hbq, q0, q1, q2, q3, q4, q5, q6, q7, q8, q9⟩ := RgAt.cells (k := ⟨⟨0, 0, 0⟩, [], 0, 0⟩) (HB.out.upd U3).res; have hfq := box_free (HB.out.upd U3).res)
      have HFI := Lib.hid (HB.out.upd U3)
      have HQI := Lib.hid (RgAt.store (HFI.out).res ((k')) (.slice a' k'.ps.length c') (.slice aw cs.length cw) (.slice ad d.length cd) (1) ((p : Int)))
      rw [show (World.setCell (World.setCell (World.setCell (World.setCell (World.setCell (World.setCell (World.setCell (World.setCell (World.setCell (World.setCell w3 ⟨w.heap.size + 1, 0, none⟩ (.int .i64 (k').set.ord)) ⟨w.heap.size + 1, 1, none⟩ (.int .i64 (k').set.lit)) ⟨w.heap.size + 1, 2, none⟩ (.int .i64 (k').set.most)) ⟨w.heap.size + 1, 3, none⟩ (.slice a' k'.ps.length c')) ⟨w.heap.size + 1, 4, none⟩ (.int .i64 (k').base)) ⟨w.heap.size + 1, 5, none⟩ (.int .i64 (k').last)) ⟨w.heap.size + 1, 6, none⟩ (.slice aw cs.length cw)) ⟨w.heap.size + 1, 7, none⟩ (.slice ad d.length cd)) ⟨w.heap.size + 1, 8, none⟩ (.int .i64 1)) ⟨w.heap.size + 1, 9, none⟩ (.int .i64 (p : Int))) = RgW w3 (w.heap.size + 1) ((k')) (.slice a' k'.ps.length c') (.slice aw cs.length cw) (.slice ad d.length cd) (1) ((p : Int)) from rfl]
      have HPO := Lib.hid (RcPost.of HFI.out)
      obtain ⟨hbq, q0, q1, q2, q3, q4, q5, q6, q7, q8, q9⟩ := HQI.out.cells
      rw [HR.out]
      refine bodyPost_ret (v := rgV ((k')) (.slice a' k'.ps.length c') (.slice aw cs.length cw) (.slice ad d.length cd) (1) ((p : Int))) (by simp [results, Tryz.results164, go_sem, q0, q1, q2, q3, q4, q5, q6, q7, q8, q9]) rfl ?_
      exact HPO.out
    · obtain ⟨x, hx⟩ : ∃ x, codeAt k.set.ord bits p k'.width = x := ⟨_, rfl⟩
      have hxb := codeAt_bd (o := k.set.ord) HIB.out (p := p) (by omega : k'.width ≤ 16)
      rw [hx] at hxb
      have HX := Lib.hid hx
      have hsub : (bs bits).extract p (p + k'.width) = bs ((bits.drop p).take k'.width) := by rw [bs_ext, Nat.add_sub_cancel_left]
      have cN := fun wx => bitsN_any k.set.ord ((bs bits).extract p (p + k'.width)) wx HOR.out (by rw [hsub, bs_data]; exact (HIB.out.drop _).take _) (by rw [hsub, bs_size, List.length_take]; omega)
      have hnum : numL k.set.ord ((bs bits).extract p (p + k'.width)).data.toList = x := by rw [hsub, bs_data]; exact hx
      rw [hnum] at cN
      obtain ⟨m', rfl⟩ : ∃ m', m = m' + 1 := ⟨m - 1, by omega⟩
      have HSH := Lib.hid hsh
      have hxc := hok.c_bd
      have HOK := Lib.hid hok
      have hx0 := hxb.1
      have hxlt := hxb.2
      have hcan0 := fun wq hr => canI_any k' (.slice a' k'.ps.length c') (w.heap.size + 2) x wq hok hr hx0
      have htopl := (KnD.top_bd hok).1
      clear hsub hnum hx hlm hxb
      generalize hwe : k'.width = wd at *
      have HWE := Lib.hid hwe
      clear hok hwe
      simp only [kV] at *
      go_wp2_with ((go_at_call 182; (with_reducible refine (cWd _ (RdP.of_own HB.out.pr)).mono ?_); rintro e w3 ⟨rfl, U3⟩; have B3 := bcell U3; have Z3 := U3.size; (try simp at Z3); (try rw [Nat.add_one_le_iff] at Z3)); obtain ⟨hbr, r0, r1, r2, r3, r4, r5, r6, r7, r8, r9⟩ := (HB.out.upd U3).box.cells; have hfb := box_free (HB.out.upd U3).box)
      refine wp_region_up 13 (by kernel_rfl) (by kernel_rfl) ?_
      simp only [List.take, List.drop]
      repeat (refine wpUp_step (fun K hK => ?_); go_simp; (try simp only [↓IntWalk.iteOmega]); first
        | (refine hK _ _ ?_; clear hK K)
        | (apply stepU_c
           · intro wq hwq; (have hbq := bcell hwq; (repeat (first | refine fills_no (by rfl) ?_ | refine fills_yes (by rfl) (fun vq hvq => ?_))); simp only [List.filter_nil, fills]; unfold upAt; (try ((obtain ⟨hbr, r0, r1, r2, r3, r4, r5, r6, r7, r8, r9⟩ := ((HB.out.upd U3).upd hwq).box.cells; have hfb := box_free ((HB.out.upd U3).upd hwq).box; obtain ⟨hbk, s0, s1, s2, s3, s4, s5⟩ := (((HB.out.upd U3).upd hwq).kn0).cells))); go_simp; (try go_bits); (try simp only [↓IntWalk.iteOmega]); (try (rw [dif_pos (by omega)]; go_simp; try go_bits)); first | exact upOut_value | (apply upOut_call; (go_at_call 196; exact cN _)) | (apply upOut_eq; (go_at_call 196; exact cN _)))
           go_simp; refine hK _ _ ?_; clear hK K))
      refine wpUp_nil (fun wq hwq => ?_)
      simp only [fills]
      have HB4 := Lib.hid ((HB.out.upd U3).upd hwq)
      clear hwq U3 B3 Z3 HB cN cWd
      obtain ⟨hbr, r0, r1, r2, r3, r4, r5, r6, r7, r8, r9⟩ := (HB4.out).box.cells; have hfb := box_free (HB4.out).box
      go_wp2_with fail
      have hB7 := HB4.out.setP ((p : Int) + (wd : Int))
      have HB7 := Lib.hid hB7
      clear hB7
      generalize World.setCell wq ⟨rb, 9, none⟩ (.int .i64 ((p : Int) + (wd : Int))) = w7 at HB7 ⊢
      by_cases htp : x ≤ ((k'.top : Nat) : Int)
      · have hcan : decide (x ≤ ((k'.top : Nat) : Int)) = true := decide_eq_true htp
        simp only [hcan] at hcan0
        have HTP := Lib.hid htp
        clear hcan htp
        (with_reducible refine (hcan0 _ (RdP.of_own HB7.out.pr)).mono ?_)
        rintro e w8 ⟨rfl, U8⟩
        have HB8 := Lib.hid (HB7.out.upd U8)
        clear U8 HB7 hcan0
        obtain ⟨hbr, r0, r1, r2, r3, r4, r5, r6, r7, r8, r9⟩ := (HB8.out).box.cells; have hfb := box_free (HB8.out).box
        obtain ⟨hbq, q0, q1, q2, q3, q4, q5, q6, q7, q8, q9⟩ := RgAt.cells (k := ⟨⟨0, 0, 0⟩, [], 0, 0⟩) (HB8.out).res; have hfq := box_free (HB8.out).res
        by_cases hx1 : x = (clr k.set : Int) + 1
        · have HX1 : Hid (x = (k'.c : Int) + 1) := by unfold Hid; rw [hcc.out]; exact hx1
          have HR : Hid (T = ⟨k', cs ++ [x], d, 0, p + wd⟩) := by
            unfold Hid; rw [← HD.out.tot, readN_end (x := x) (by rw [HWE.out]; exact HX.out) (by rw [HWE.out]; exact HSH.out) HX1.out, HWE.out]
          have hx1e : (x == (clr k.set : Int) + 1) = true := by simpa using hx1
          clear hx1
          go_wp2_with ((at_builtin; refine wpList_append_own _ rfl _ _ 54 rfl (w.heap.size + 2) 3 i0 (.int .i64 0) 1 8 Tryz.underlying54 hi hz0 hz1 hz2 rfl (by decide) _ _ _ rfl (ownsRow_up (HB8.out).own (Up.alloc (Up.refl _) _)) ⟨w8.heap.size, 0, none⟩ 1 1 [.int .i64 x] rfl rfl (new_cells [.int .i64 x] _ rfl) (by intro u hu; simp at hu; subst hu; rfl) (by unfold maxLen; omega) (by omega) (by have := (HB8.out).kn0.cells.1; have := (HB8.out).res.cells.1; simp; omega) ?_; rintro v12 w12 hown12 hgr12 -; obtain ⟨a12, c12, rfl⟩ := ownsRow_shape hown12; have hg12 := ((HB8.out).upd (Up.alloc (Up.refl _) _)).grown ((HB8.out).upd (Up.alloc (Up.refl _) _)).own (Nat.le_refl _) (by decide) hgr12; have hb12 := ((HB8.out).upd (Up.alloc (Up.refl _) _)).putC hgr12 (ownI_snoc hown12); obtain ⟨hbr, r0, r1, r2, r3, r4, r5, r6, r7, r8, r9⟩ := (hg12).box.cells; have hfb := box_free (hg12).box; obtain ⟨hbq, q0, q1, q2, q3, q4, q5, q6, q7, q8, q9⟩ := RgAt.cells (k := ⟨⟨0, 0, 0⟩, [], 0, 0⟩) (hg12).res; have hfq := box_free (hg12).res; have HB12 := Lib.hid hb12; clear hb12 hown12 hgr12 hg12))
          have HFI := Lib.hid (HB12.out.setF 0)
          have HQI := Lib.hid (RgAt.store (HFI.out).res ((k')) (.slice a' k'.ps.length c') (.slice a12 (cs.length + 1) c12) (.slice ad d.length cd) (0) (((p : Int) + (wd : Int))))
          rw [show (World.setCell (World.setCell (World.setCell (World.setCell (World.setCell (World.setCell (World.setCell (World.setCell (World.setCell (World.setCell (World.setCell (World.setCell w12 ⟨rb, 6, none⟩ (.slice a12 (cs.length + 1) c12)) ⟨rb, 8, none⟩ (.int .i64 0)) ⟨w.heap.size + 1, 0, none⟩ (.int .i64 (k').set.ord)) ⟨w.heap.size + 1, 1, none⟩ (.int .i64 (k').set.lit)) ⟨w.heap.size + 1, 2, none⟩ (.int .i64 (k').set.most)) ⟨w.heap.size + 1, 3, none⟩ (.slice a' k'.ps.length c')) ⟨w.heap.size + 1, 4, none⟩ (.int .i64 (k').base)) ⟨w.heap.size + 1, 5, none⟩ (.int .i64 (k').last)) ⟨w.heap.size + 1, 6, none⟩ (.slice a12 (cs.length + 1) c12)) ⟨w.heap.size + 1, 7, none⟩ (.slice ad d.length cd)) ⟨w.heap.size + 1, 8, none⟩ (.int .i64 0)) ⟨w.heap.size + 1, 9, none⟩ (.int .i64 ((p : Int) + (wd : Int)))) = RgW (World.setCell (World.setCell w12 ⟨rb, 6, none⟩ (.slice a12 (cs.length + 1) c12)) ⟨rb, 8, none⟩ (.int .i64 0)) (w.heap.size + 1) ((k')) (.slice a' k'.ps.length c') (.slice a12 (cs.length + 1) c12) (.slice ad d.length cd) (0) (((p : Int) + (wd : Int))) from rfl]
          have HPO := Lib.hid (RcPost.of (p := p + wd) (by have h := HFI.out; rw [← Int.natCast_add] at h; exact h))
          obtain ⟨hbq, q0, q1, q2, q3, q4, q5, q6, q7, q8, q9⟩ := HQI.out.cells
          rw [HR.out]
          refine bodyPost_ret (v := rgV ((k')) (.slice a' k'.ps.length c') (.slice a12 (cs.length + 1) c12) (.slice ad d.length cd) (0) (((p : Int) + (wd : Int)))) (by simp [results, Tryz.results164, go_sem, q0, q1, q2, q3, q4, q5, q6, q7, q8, q9]) rfl ?_
          (have h := HPO.out; rw [Int.natCast_add] at h; exact h)
        · have HX1 : Hid (x ≠ (k'.c : Int) + 1) := by unfold Hid; rw [hcc.out]; exact hx1
          have hx1e : (x == (clr k.set : Int) + 1) = false := by simpa using hx1
          clear hx1
          by_cases hx2 : x = (clr k.set : Int)
          · have HX2 : Hid (x = (k'.c : Int)) := by unfold Hid; rw [hcc.out]; exact hx2
            have hx2e : (x == (clr k.set : Int)) = true := by simpa using hx2
            clear hx2
            have cAC := fun wq hB hp => advC_any k' (.slice a' k'.ps.length c') (w.heap.size + 2) 0 wq HOK.out hB hp
            rw [← HX2.out] at cAC
            simp only [kV] at cAC
            by_cases h5 : 3100 ≤ ct + (cs.length + 1)
            · have HR : Hid (T = ⟨k'.cleared, cs ++ [x], d, 3, p + wd⟩) := by
                unfold Hid; rw [← HD.out.tot, readN_clearL (x := x) (by rw [HWE.out]; exact HX.out) (by rw [HWE.out]; exact HSH.out) HX2.out h5, HWE.out]
              go_wp2_with fail
              (with_reducible refine (cAC _ (by have := HB8.out.res.cells.1; omega) HB8.out.pr).mono ?_)
              rintro e w9 ⟨v9, rfl, ho9, hF9⟩
              obtain ⟨a9, c9, rfl⟩ := ownsRow_shape ho9
              have hm9 := HB8.out.putK (fr_grown hF9) ho9
              have hg9 := HB8.out.grown HB8.out.pr (Nat.le_refl _) (by decide) (fr_grown hF9)
              obtain ⟨hbr, r0, r1, r2, r3, r4, r5, r6, r7, r8, r9⟩ := (hg9).box.cells; have hfb := box_free (hg9).box
              have HM9 := Lib.hid hm9
              clear hm9 hg9 ho9 hF9
              go_simp
              iterate 11 go_step
              rw [show (World.setCell (World.setCell (World.setCell (World.setCell (World.setCell (World.setCell w9 ⟨rb, 0, none⟩ (.int .i64 (k'.cleared).set.ord)) ⟨rb, 1, none⟩ (.int .i64 (k'.cleared).set.lit)) ⟨rb, 2, none⟩ (.int .i64 (k'.cleared).set.most)) ⟨rb, 3, none⟩ (.slice a9 k'.cleared.ps.length c9)) ⟨rb, 4, none⟩ (.int .i64 (k'.cleared).base)) ⟨rb, 5, none⟩ (.int .i64 (k'.cleared).last)) = KnW w9 rb k'.cleared (.slice a9 k'.cleared.ps.length c9) from rfl]
              generalize KnW w9 rb k'.cleared (.slice a9 k'.cleared.ps.length c9) = W9 at HM9 ⊢
              obtain ⟨hbr, r0, r1, r2, r3, r4, r5, r6, r7, r8, r9⟩ := (HM9.out).box.cells; have hfb := box_free (HM9.out).box
              go_wp2_with ((at_builtin; refine wpList_append_own _ rfl _ _ 54 rfl (w.heap.size + 2) 3 i0 (.int .i64 0) 1 8 Tryz.underlying54 hi hz0 hz1 hz2 rfl (by decide) _ _ _ rfl (ownsRow_up (HM9.out).own (Up.alloc (Up.refl _) _)) ⟨W9.heap.size, 0, none⟩ 1 1 [.int .i64 x] rfl rfl (new_cells [.int .i64 x] _ rfl) (by intro u hu; simp at hu; subst hu; rfl) (by unfold maxLen; omega) (by omega) (by have := (HM9.out).kn0.cells.1; have := (HM9.out).res.cells.1; simp; omega) ?_; rintro v12 w12 hown12 hgr12 -; obtain ⟨a12, c12, rfl⟩ := ownsRow_shape hown12; have hg12 := ((HM9.out).upd (Up.alloc (Up.refl _) _)).grown ((HM9.out).upd (Up.alloc (Up.refl _) _)).own (Nat.le_refl _) (by decide) hgr12; have hb12 := ((HM9.out).upd (Up.alloc (Up.refl _) _)).putC hgr12 (ownI_snoc hown12); obtain ⟨hbr, r0, r1, r2, r3, r4, r5, r6, r7, r8, r9⟩ := (hg12).box.cells; have hfb := box_free (hg12).box; obtain ⟨hbq, q0, q1, q2, q3, q4, q5, q6, q7, q8, q9⟩ := RgAt.cells (k := ⟨⟨0, 0, 0⟩, [], 0, 0⟩) (hg12).res; have hfq := box_free (hg12).res; have HB12 := Lib.hid hb12; clear hb12 hown12 hgr12 hg12))
              have HFI := Lib.hid (HB12.out.setF 3)
              have HQI := Lib.hid (RgAt.store (HFI.out).res ((k'.cleared)) (.slice a9 k'.cleared.ps.length c9) (.slice a12 (cs.length + 1) c12) (.slice ad d.length cd) (3) (((p : Int) + (wd : Int))))
              rw [show (World.setCell (World.setCell (World.setCell (World.setCell (World.setCell (World.setCell (World.setCell (World.setCell (World.setCell (World.setCell (World.setCell (World.setCell w12 ⟨rb, 6, none⟩ (.slice a12 (cs.length + 1) c12)) ⟨rb, 8, none⟩ (.int .i64 3)) ⟨w.heap.size + 1, 0, none⟩ (.int .i64 (k'.cleared).set.ord)) ⟨w.heap.size + 1, 1, none⟩ (.int .i64 (k'.cleared).set.lit)) ⟨w.heap.size + 1, 2, none⟩ (.int .i64 (k'.cleared).set.most)) ⟨w.heap.size + 1, 3, none⟩ (.slice a9 k'.cleared.ps.length c9)) ⟨w.heap.size + 1, 4, none⟩ (.int .i64 (k'.cleared).base)) ⟨w.heap.size + 1, 5, none⟩ (.int .i64 (k'.cleared).last)) ⟨w.heap.size + 1, 6, none⟩ (.slice a12 (cs.length + 1) c12)) ⟨w.heap.size + 1, 7, none⟩ (.slice ad d.length cd)) ⟨w.heap.size + 1, 8, none⟩ (.int .i64 3)) ⟨w.heap.size + 1, 9, none⟩ (.int .i64 ((p : Int) + (wd : Int)))) = RgW (World.setCell (World.setCell w12 ⟨rb, 6, none⟩ (.slice a12 (cs.length + 1) c12)) ⟨rb, 8, none⟩ (.int .i64 3)) (w.heap.size + 1) ((k'.cleared)) (.slice a9 k'.cleared.ps.length c9) (.slice a12 (cs.length + 1) c12) (.slice ad d.length cd) (3) (((p : Int) + (wd : Int))) from rfl]
              have HPO := Lib.hid (RcPost.of (p := p + wd) (by have h := HFI.out; rw [← Int.natCast_add] at h; exact h))
              obtain ⟨hbq, q0, q1, q2, q3, q4, q5, q6, q7, q8, q9⟩ := HQI.out.cells
              rw [HR.out]
              refine bodyPost_ret (v := rgV ((k'.cleared)) (.slice a9 k'.cleared.ps.length c9) (.slice a12 (cs.length + 1) c12) (.slice ad d.length cd) (3) (((p : Int) + (wd : Int)))) (by simp [results, Tryz.results164, go_sem, q0, q1, q2, q3, q4, q5, q6, q7, q8, q9]) rfl ?_
              (have h := HPO.out; rw [Int.natCast_add] at h; exact h)
            · have HR : Hid (readN k.set.ord bits sz ct m' (k'.cleared) (p + wd) (cs ++ [x]) (d) = T) := by
                unfold Hid; rw [← HD.out.tot, readN_clear (x := x) (by rw [HWE.out]; exact HX.out) (by rw [HWE.out]; exact HSH.out) HX2.out h5, HWE.out]
              have HI := Lib.hid (by have := HD.out.inv.clear (by rw [HWE.out]; exact HSH.out); rw [HWE.out, ← HX2.out] at this; exact this)
              have hlm := HD.out.len
              go_wp2_with fail
              (with_reducible refine (cAC _ (by have := HB8.out.res.cells.1; omega) HB8.out.pr).mono ?_)
              rintro e w9 ⟨v9, rfl, ho9, hF9⟩
              obtain ⟨a9, c9, rfl⟩ := ownsRow_shape ho9
              have hm9 := HB8.out.putK (fr_grown hF9) ho9
              have hg9 := HB8.out.grown HB8.out.pr (Nat.le_refl _) (by decide) (fr_grown hF9)
              obtain ⟨hbr, r0, r1, r2, r3, r4, r5, r6, r7, r8, r9⟩ := (hg9).box.cells; have hfb := box_free (hg9).box
              have HM9 := Lib.hid hm9
              clear hm9 hg9 ho9 hF9
              go_simp
              iterate 11 go_step
              rw [show (World.setCell (World.setCell (World.setCell (World.setCell (World.setCell (World.setCell w9 ⟨rb, 0, none⟩ (.int .i64 (k'.cleared).set.ord)) ⟨rb, 1, none⟩ (.int .i64 (k'.cleared).set.lit)) ⟨rb, 2, none⟩ (.int .i64 (k'.cleared).set.most)) ⟨rb, 3, none⟩ (.slice a9 k'.cleared.ps.length c9)) ⟨rb, 4, none⟩ (.int .i64 (k'.cleared).base)) ⟨rb, 5, none⟩ (.int .i64 (k'.cleared).last)) = KnW w9 rb k'.cleared (.slice a9 k'.cleared.ps.length c9) from rfl]
              generalize KnW w9 rb k'.cleared (.slice a9 k'.cleared.ps.length c9) = W9 at HM9 ⊢
              obtain ⟨hbr, r0, r1, r2, r3, r4, r5, r6, r7, r8, r9⟩ := (HM9.out).box.cells; have hfb := box_free (HM9.out).box
              go_wp2_with ((at_builtin; refine wpList_append_own _ rfl _ _ 54 rfl (w.heap.size + 2) 3 i0 (.int .i64 0) 1 8 Tryz.underlying54 hi hz0 hz1 hz2 rfl (by decide) _ _ _ rfl (ownsRow_up (HM9.out).own (Up.alloc (Up.refl _) _)) ⟨W9.heap.size, 0, none⟩ 1 1 [.int .i64 x] rfl rfl (new_cells [.int .i64 x] _ rfl) (by intro u hu; simp at hu; subst hu; rfl) (by unfold maxLen; omega) (by omega) (by have := (HM9.out).kn0.cells.1; have := (HM9.out).res.cells.1; simp; omega) ?_; rintro v12 w12 hown12 hgr12 -; obtain ⟨a12, c12, rfl⟩ := ownsRow_shape hown12; have hg12 := ((HM9.out).upd (Up.alloc (Up.refl _) _)).grown ((HM9.out).upd (Up.alloc (Up.refl _) _)).own (Nat.le_refl _) (by decide) hgr12; have hb12 := ((HM9.out).upd (Up.alloc (Up.refl _) _)).putC hgr12 (ownI_snoc hown12); obtain ⟨hbr, r0, r1, r2, r3, r4, r5, r6, r7, r8, r9⟩ := (hg12).box.cells; have hfb := box_free (hg12).box; obtain ⟨hbq, q0, q1, q2, q3, q4, q5, q6, q7, q8, q9⟩ := RgAt.cells (k := ⟨⟨0, 0, 0⟩, [], 0, 0⟩) (hg12).res; have hfq := box_free (hg12).res; have HB12 := Lib.hid hb12; clear hb12 hown12 hgr12 hg12))
              have hlen9 : posOf rb wr = p := by rw [posOf_box HB0.out.box]; simp
              have HS12 : Hid (RcB w k (.slice a k.ps.length cap) rb (k'.cleared) (.slice a9 k'.cleared.ps.length c9) (cs ++ [x]) (.slice a12 (cs.length + 1) c12) (d) (.slice ad d.length cd) 1 ((p + wd : Nat) : Int) (World.setCell w12 ⟨rb, 6, none⟩ (.slice a12 (cs.length + 1) c12))) := by
                have := HB12.out
                rw [← Int.natCast_add] at this
                exact this
              have hpos9 := posOf_box HS12.out.box
              generalize World.setCell w12 ⟨rb, 6, none⟩ (.slice a12 (cs.length + 1) c12) = W12 at HS12 hpos9 ⊢
              go_roundw
              case rel => exact ⟨k'.cleared, _, _, _, p + wd, m', cs ++ [x], d, ⟨HI.out, HR.out, by omega, by simp; omega⟩, HS12.out⟩
              case measure => rw [hlen9, hpos9]; simp; omega
          · have HX2 : Hid (x ≠ (k'.c : Int)) := by unfold Hid; rw [hcc.out]; exact hx2
            have hx2e : (x == (clr k.set : Int)) = false := by simpa using hx2
            clear hx2
            have hf := top_follows HOK.out hx0 HTP.out HX1.out HX2.out
            have HF := Lib.hid hf
            have cWJ := fun wq hr => wordJ_any k' (.slice a' k'.ps.length c') (w.heap.size + 2) x wq HOK.out hr hf
            have cAW := fun wq hB hp => advW_any k' (.slice a' k'.ps.length c') (w.heap.size + 2) x wq HOK.out hB hp hf HX2.out
            have hwp := KnD.any_pos HOK.out hf
            have hwl1 := KnD.any_len HOK.out hf
            have HFX : Hid (∀ h, (((bs (k'.any x))[0]'h).toNat : Int) = k'.first x) := fun h => by rw [bs_get0]; rfl
            have hfb9 := KnD.first_bd HOK.out hf
            have hsz := bs_size (k'.any x)
            clear hf
            simp only [kV] at cWJ cAW
            by_cases h4 : 2000 < sz + d.length + (k'.any x).length
            · have HR : Hid (T = ⟨k', cs, d, 3, p + wd⟩) := by
                unfold Hid; rw [← HD.out.tot, readN_long (x := x) (by rw [HWE.out]; exact HX.out) (by rw [HWE.out]; exact HSH.out) HX1.out HX2.out HF.out h4, HWE.out]
              generalize k'.any x = wl at *
              go_wp2_with ((go_at_call 184; (with_reducible refine (cWJ _ (RdP.of_own HB8.out.pr)).mono ?_); rintro e w9 ⟨rfl, U9⟩; have B9 := bcell U9; have Z9 := U9.size; (try simp at Z9); (try rw [Nat.add_one_le_iff] at Z9)); obtain ⟨hbr, r0, r1, r2, r3, r4, r5, r6, r7, r8, r9⟩ := (HB8.out.upd U9).box.cells; have hfb := box_free (HB8.out.upd U9).box; obtain ⟨hbq, q0, q1, q2, q3, q4, q5, q6, q7, q8, q9⟩ := RgAt.cells (k := ⟨⟨0, 0, 0⟩, [], 0, 0⟩) (HB8.out.upd U9).res; have hfq := box_free (HB8.out.upd U9).res)
              have HFI := Lib.hid ((HB8.out.upd U9).setF 3)
              have HQI := Lib.hid (RgAt.store (HFI.out).res ((k')) (.slice a' k'.ps.length c') (.slice aw cs.length cw) (.slice ad d.length cd) (3) (((p : Int) + (wd : Int))))
              rw [show (World.setCell (World.setCell (World.setCell (World.setCell (World.setCell (World.setCell (World.setCell (World.setCell (World.setCell (World.setCell (World.setCell w9 ⟨rb, 8, none⟩ (.int .i64 3)) ⟨w.heap.size + 1, 0, none⟩ (.int .i64 (k').set.ord)) ⟨w.heap.size + 1, 1, none⟩ (.int .i64 (k').set.lit)) ⟨w.heap.size + 1, 2, none⟩ (.int .i64 (k').set.most)) ⟨w.heap.size + 1, 3, none⟩ (.slice a' k'.ps.length c')) ⟨w.heap.size + 1, 4, none⟩ (.int .i64 (k').base)) ⟨w.heap.size + 1, 5, none⟩ (.int .i64 (k').last)) ⟨w.heap.size + 1, 6, none⟩ (.slice aw cs.length cw)) ⟨w.heap.size + 1, 7, none⟩ (.slice ad d.length cd)) ⟨w.heap.size + 1, 8, none⟩ (.int .i64 3)) ⟨w.heap.size + 1, 9, none⟩ (.int .i64 ((p : Int) + (wd : Int)))) = RgW (World.setCell w9 ⟨rb, 8, none⟩ (.int .i64 3)) (w.heap.size + 1) ((k')) (.slice a' k'.ps.length c') (.slice aw cs.length cw) (.slice ad d.length cd) (3) (((p : Int) + (wd : Int))) from rfl]
              have HPO := Lib.hid (RcPost.of (p := p + wd) (by have h := HFI.out; rw [← Int.natCast_add] at h; exact h))
              obtain ⟨hbq, q0, q1, q2, q3, q4, q5, q6, q7, q8, q9⟩ := HQI.out.cells
              rw [HR.out]
              refine bodyPost_ret (v := rgV ((k')) (.slice a' k'.ps.length c') (.slice aw cs.length cw) (.slice ad d.length cd) (3) (((p : Int) + (wd : Int)))) (by simp [results, Tryz.results164, go_sem, q0, q1, q2, q3, q4, q5, q6, q7, q8, q9]) rfl ?_
              (have h := HPO.out; rw [Int.natCast_add] at h; exact h)
            · have H4 := Lib.hid h4
              generalize hwl : k'.any x = wl at *
              have HWL := Lib.hid hwl
              clear hwl
              have hfx := HFX.out (by rw [bs_size]; omega)
              by_cases h5 : 3100 ≤ ct + (cs.length + 1)
              · have HR : Hid (T = ⟨k'.after x, cs ++ [x], d ++ wl, 3, p + wd⟩) := by
                  unfold Hid; rw [← HD.out.tot, readN_wordL (x := x) (by rw [HWE.out]; exact HX.out) (by rw [HWE.out]; exact HSH.out) HX1.out HX2.out HF.out (by rw [HWL.out]; exact H4.out) h5, HWE.out, HWL.out]
                go_wp2_with (first | ((go_at_call 184; (with_reducible refine (cWJ _ (RdP.of_own HB8.out.pr)).mono ?_); rintro e w9 ⟨rfl, U9⟩; have B9 := bcell U9; have Z9 := U9.size; (try simp at Z9); (try rw [Nat.add_one_le_iff] at Z9)); obtain ⟨hbr, r0, r1, r2, r3, r4, r5, r6, r7, r8, r9⟩ := (HB8.out.upd U9).box.cells; have hfb := box_free (HB8.out.upd U9).box) | (at_builtin; refine wpList_append_str rfl _ _ rfl (w.heap.size + 2) _ d wl rfl (HB8.out.upd U9).dat rfl (by omega) (by omega) (by have := (HB8.out.upd U9).res.cells.1; omega) ?_; rintro v10 w10 ho10 hg10; obtain ⟨a10, c10, rfl⟩ := ownsRow_shape (ownsRow_n2 (n' := d.length + wl.length) ho10 (by simp)); have hG10 := (HB8.out.upd U9).grown (HB8.out.upd U9).dat (Nat.le_refl _) (by decide) hg10; have hb10 := (HB8.out.upd U9).putD hg10 ho10; obtain ⟨hbr, r0, r1, r2, r3, r4, r5, r6, r7, r8, r9⟩ := (hG10).box.cells; have hfb := box_free (hG10).box; have HB10 := Lib.hid hb10; clear hb10 ho10 hg10 hG10))
                have HB10' := HB10
                generalize World.setCell w10 ⟨rb, 7, none⟩ (.slice a10 (d.length + wl.length) c10) = W10 at HB10' ⊢
                obtain ⟨hbr, r0, r1, r2, r3, r4, r5, r6, r7, r8, r9⟩ := (HB10'.out).box.cells; have hfb := box_free (HB10'.out).box
                refine wp_region_ownf 7 5 (Value.ownBlock (.slice a' k'.ps.length c')) (by kernel_rfl) (by kernel_rfl) ?_
                simp only [List.take, List.drop]
                repeat (refine wpG_step (fun K hK => ?_); go_simp; (try simp only [↓IntWalk.iteOmega]); first
                  | (refine hK _ _ ?_; clear hK K)
                  | (refine stepG_own (by rfl) (by kernel_rfl) ((fun u w' => ∃ vv, u = kV (k'.after x) vv ∧ ownPr w' (w.heap.size + 2) vv (k'.after x).ps)) ((fun v w w' ⟨vv, h1, h2⟩ hu => ⟨vv, h1, ownsRow_up h2 hu⟩)) (fun wq hwq => ?_) ?_
                     · ((repeat (first | refine fills_no (by rfl) ?_ | refine fills_yes (by rfl) (fun vq hvq => ?_))); simp only [List.filter_nil, fills]; (unfold gAt; go_simp; (try rw [hfx]); (with_reducible apply gOut_adv); go_at_call 183; exact cAW _ (by have := (HB10'.out.upd hwq).res.cells.1; omega) (HB10'.out.upd hwq).pr))
                     refine hK _ _ ?_; clear hK K)
                  | (refine stepG_c (by rfl) ?_ ?_ ?_
                     rotate_left
                     · intro wq hwq; (have hbq := gcell hwq; (repeat (first | refine fills_no (by rfl) ?_ | refine fills_yes (by rfl) (fun vq hvq => ?_))); simp only [List.filter_nil, fills]; unfold upAt; (try ((have hG11 := HB10'.out.grown HB10'.out.pr (Nat.le_refl _) (by decide) hwq; obtain ⟨hbr, r0, r1, r2, r3, r4, r5, r6, r7, r8, r9⟩ := (hG11).box.cells; have hfb := box_free (hG11).box))); go_simp; (try go_bits); (try simp only [↓IntWalk.iteOmega]); (try (rw [dif_pos (by omega)]; go_simp; try go_bits)); first | exact upOut_value)
                     go_simp; refine hK _ _ ?_; clear hK K))
                refine wpG_nil (by rfl) (fun wq hwq => ?_)
                simp only [fills]
                rintro u ⟨vv, rfl, ho11⟩
                obtain ⟨a11, c11, rfl⟩ := ownsRow_shape ho11
                have hG11 := HB10'.out.grown HB10'.out.pr (Nat.le_refl _) (by decide) hwq
                have HM11 := Lib.hid (HB10'.out.putK hwq ho11)
                obtain ⟨hbr, r0, r1, r2, r3, r4, r5, r6, r7, r8, r9⟩ := (hG11).box.cells; have hfb := box_free (hG11).box
                clear ho11 hwq hG11
                go_wp2
                rw [onlyN_normal]
                rw [show (World.setCell (World.setCell (World.setCell (World.setCell (World.setCell (World.setCell wq ⟨rb, 0, none⟩ (.int .i64 (k'.after x).set.ord)) ⟨rb, 1, none⟩ (.int .i64 (k'.after x).set.lit)) ⟨rb, 2, none⟩ (.int .i64 (k'.after x).set.most)) ⟨rb, 3, none⟩ (.slice a11 (k'.after x).ps.length c11)) ⟨rb, 4, none⟩ (.int .i64 (k'.after x).base)) ⟨rb, 5, none⟩ (.int .i64 (k'.after x).last)) = KnW wq rb (k'.after x) (.slice a11 (k'.after x).ps.length c11) from rfl]
                generalize KnW wq rb (k'.after x) (.slice a11 (k'.after x).ps.length c11) = W11 at HM11 ⊢
                obtain ⟨hbr, r0, r1, r2, r3, r4, r5, r6, r7, r8, r9⟩ := (HM11.out).box.cells; have hfb := box_free (HM11.out).box
                go_wp2_with ((at_builtin; refine wpList_append_own _ rfl _ _ 54 rfl (w.heap.size + 2) 3 i0 (.int .i64 0) 1 8 Tryz.underlying54 hi hz0 hz1 hz2 rfl (by decide) _ _ _ rfl (ownsRow_up (HM11.out).own (Up.alloc (Up.refl _) _)) ⟨W11.heap.size, 0, none⟩ 1 1 [.int .i64 x] rfl rfl (new_cells [.int .i64 x] _ rfl) (by intro u hu; simp at hu; subst hu; rfl) (by unfold maxLen; omega) (by omega) (by have := (HM11.out).kn0.cells.1; have := (HM11.out).res.cells.1; simp; omega) ?_; rintro v12 w12 hown12 hgr12 -; obtain ⟨a12, c12, rfl⟩ := ownsRow_shape hown12; have hg12 := ((HM11.out).upd (Up.alloc (Up.refl _) _)).grown ((HM11.out).upd (Up.alloc (Up.refl _) _)).own (Nat.le_refl _) (by decide) hgr12; have hb12 := ((HM11.out).upd (Up.alloc (Up.refl _) _)).putC hgr12 (ownI_snoc hown12); obtain ⟨hbr, r0, r1, r2, r3, r4, r5, r6, r7, r8, r9⟩ := (hg12).box.cells; have hfb := box_free (hg12).box; obtain ⟨hbq, q0, q1, q2, q3, q4, q5, q6, q7, q8, q9⟩ := RgAt.cells (k := ⟨⟨0, 0, 0⟩, [], 0, 0⟩) (hg12).res; have hfq := box_free (hg12).res; have HB12 := Lib.hid hb12; clear hb12 hown12 hgr12 hg12))
                have HFI := Lib.hid (HB12.out.setF 3)
                have HQI := Lib.hid (RgAt.store (HFI.out).res ((k'.after x)) (.slice a11 (k'.after x).ps.length c11) (.slice a12 (cs.length + 1) c12) (.slice a10 (d.length + wl.length) c10) (3) (((p : Int) + (wd : Int))))
                rw [show (World.setCell (World.setCell (World.setCell (World.setCell (World.setCell (World.setCell (World.setCell (World.setCell (World.setCell (World.setCell (World.setCell (World.setCell w12 ⟨rb, 6, none⟩ (.slice a12 (cs.length + 1) c12)) ⟨rb, 8, none⟩ (.int .i64 3)) ⟨w.heap.size + 1, 0, none⟩ (.int .i64 (k'.after x).set.ord)) ⟨w.heap.size + 1, 1, none⟩ (.int .i64 (k'.after x).set.lit)) ⟨w.heap.size + 1, 2, none⟩ (.int .i64 (k'.after x).set.most)) ⟨w.heap.size + 1, 3, none⟩ (.slice a11 (k'.after x).ps.length c11)) ⟨w.heap.size + 1, 4, none⟩ (.int .i64 (k'.after x).base)) ⟨w.heap.size + 1, 5, none⟩ (.int .i64 (k'.after x).last)) ⟨w.heap.size + 1, 6, none⟩ (.slice a12 (cs.length + 1) c12)) ⟨w.heap.size + 1, 7, none⟩ (.slice a10 (d.length + wl.length) c10)) ⟨w.heap.size + 1, 8, none⟩ (.int .i64 3)) ⟨w.heap.size + 1, 9, none⟩ (.int .i64 ((p : Int) + (wd : Int)))) = RgW (World.setCell (World.setCell w12 ⟨rb, 6, none⟩ (.slice a12 (cs.length + 1) c12)) ⟨rb, 8, none⟩ (.int .i64 3)) (w.heap.size + 1) ((k'.after x)) (.slice a11 (k'.after x).ps.length c11) (.slice a12 (cs.length + 1) c12) (.slice a10 (d.length + wl.length) c10) (3) (((p : Int) + (wd : Int))) from rfl]
                have HPO := Lib.hid (RcPost.of (p := p + wd) (by have h := HFI.out; rw [← Int.natCast_add] at h; exact h))
                obtain ⟨hbq, q0, q1, q2, q3, q4, q5, q6, q7, q8, q9⟩ := HQI.out.cells
                rw [HR.out]
                refine bodyPost_ret (v := rgV ((k'.after x)) (.slice a11 (k'.after x).ps.length c11) (.slice a12 (cs.length + 1) c12) (.slice a10 (d.length + wl.length) c10) (3) (((p : Int) + (wd : Int)))) (by simp [results, Tryz.results164, go_sem, q0, q1, q2, q3, q4, q5, q6, q7, q8, q9]) rfl ?_
                (have h := HPO.out; rw [Int.natCast_add] at h; exact h)
              · have HR : Hid (readN k.set.ord bits sz ct m' (k'.after x) (p + wd) (cs ++ [x]) (d ++ wl) = T) := by
                  unfold Hid; rw [← HD.out.tot, readN_word (x := x) (by rw [HWE.out]; exact HX.out) (by rw [HWE.out]; exact HSH.out) HX1.out HX2.out HF.out (by rw [HWL.out]; exact H4.out) h5, HWE.out, HWL.out]
                have HI := Lib.hid (by have := HD.out.inv.word (by rw [HWE.out]; exact HSH.out) HX1.out HX2.out HF.out (by rw [HWL.out]; exact H4.out); rw [HWE.out, HWL.out] at this; exact this)
                have hlm := HD.out.len
                go_wp2_with (first | ((go_at_call 184; (with_reducible refine (cWJ _ (RdP.of_own HB8.out.pr)).mono ?_); rintro e w9 ⟨rfl, U9⟩; have B9 := bcell U9; have Z9 := U9.size; (try simp at Z9); (try rw [Nat.add_one_le_iff] at Z9)); obtain ⟨hbr, r0, r1, r2, r3, r4, r5, r6, r7, r8, r9⟩ := (HB8.out.upd U9).box.cells; have hfb := box_free (HB8.out.upd U9).box) | (at_builtin; refine wpList_append_str rfl _ _ rfl (w.heap.size + 2) _ d wl rfl (HB8.out.upd U9).dat rfl (by omega) (by omega) (by have := (HB8.out.upd U9).res.cells.1; omega) ?_; rintro v10 w10 ho10 hg10; obtain ⟨a10, c10, rfl⟩ := ownsRow_shape (ownsRow_n2 (n' := d.length + wl.length) ho10 (by simp)); have hG10 := (HB8.out.upd U9).grown (HB8.out.upd U9).dat (Nat.le_refl _) (by decide) hg10; have hb10 := (HB8.out.upd U9).putD hg10 ho10; obtain ⟨hbr, r0, r1, r2, r3, r4, r5, r6, r7, r8, r9⟩ := (hG10).box.cells; have hfb := box_free (hG10).box; have HB10 := Lib.hid hb10; clear hb10 ho10 hg10 hG10))
                have HB10' := HB10
                generalize World.setCell w10 ⟨rb, 7, none⟩ (.slice a10 (d.length + wl.length) c10) = W10 at HB10' ⊢
                obtain ⟨hbr, r0, r1, r2, r3, r4, r5, r6, r7, r8, r9⟩ := (HB10'.out).box.cells; have hfb := box_free (HB10'.out).box
                refine wp_region_ownf 7 5 (Value.ownBlock (.slice a' k'.ps.length c')) (by kernel_rfl) (by kernel_rfl) ?_
                simp only [List.take, List.drop]
                repeat (refine wpG_step (fun K hK => ?_); go_simp; (try simp only [↓IntWalk.iteOmega]); first
                  | (refine hK _ _ ?_; clear hK K)
                  | (refine stepG_own (by rfl) (by kernel_rfl) ((fun u w' => ∃ vv, u = kV (k'.after x) vv ∧ ownPr w' (w.heap.size + 2) vv (k'.after x).ps)) ((fun v w w' ⟨vv, h1, h2⟩ hu => ⟨vv, h1, ownsRow_up h2 hu⟩)) (fun wq hwq => ?_) ?_
                     · ((repeat (first | refine fills_no (by rfl) ?_ | refine fills_yes (by rfl) (fun vq hvq => ?_))); simp only [List.filter_nil, fills]; (unfold gAt; go_simp; (try rw [hfx]); (with_reducible apply gOut_adv); go_at_call 183; exact cAW _ (by have := (HB10'.out.upd hwq).res.cells.1; omega) (HB10'.out.upd hwq).pr))
                     refine hK _ _ ?_; clear hK K)
                  | (refine stepG_c (by rfl) ?_ ?_ ?_
                     rotate_left
                     · intro wq hwq; (have hbq := gcell hwq; (repeat (first | refine fills_no (by rfl) ?_ | refine fills_yes (by rfl) (fun vq hvq => ?_))); simp only [List.filter_nil, fills]; unfold upAt; (try ((have hG11 := HB10'.out.grown HB10'.out.pr (Nat.le_refl _) (by decide) hwq; obtain ⟨hbr, r0, r1, r2, r3, r4, r5, r6, r7, r8, r9⟩ := (hG11).box.cells; have hfb := box_free (hG11).box))); go_simp; (try go_bits); (try simp only [↓IntWalk.iteOmega]); (try (rw [dif_pos (by omega)]; go_simp; try go_bits)); first | exact upOut_value)
                     go_simp; refine hK _ _ ?_; clear hK K))
                refine wpG_nil (by rfl) (fun wq hwq => ?_)
                simp only [fills]
                rintro u ⟨vv, rfl, ho11⟩
                obtain ⟨a11, c11, rfl⟩ := ownsRow_shape ho11
                have hG11 := HB10'.out.grown HB10'.out.pr (Nat.le_refl _) (by decide) hwq
                have HM11 := Lib.hid (HB10'.out.putK hwq ho11)
                obtain ⟨hbr, r0, r1, r2, r3, r4, r5, r6, r7, r8, r9⟩ := (hG11).box.cells; have hfb := box_free (hG11).box
                clear ho11 hwq hG11
                go_wp2
                rw [onlyN_normal]
                rw [show (World.setCell (World.setCell (World.setCell (World.setCell (World.setCell (World.setCell wq ⟨rb, 0, none⟩ (.int .i64 (k'.after x).set.ord)) ⟨rb, 1, none⟩ (.int .i64 (k'.after x).set.lit)) ⟨rb, 2, none⟩ (.int .i64 (k'.after x).set.most)) ⟨rb, 3, none⟩ (.slice a11 (k'.after x).ps.length c11)) ⟨rb, 4, none⟩ (.int .i64 (k'.after x).base)) ⟨rb, 5, none⟩ (.int .i64 (k'.after x).last)) = KnW wq rb (k'.after x) (.slice a11 (k'.after x).ps.length c11) from rfl]
                generalize KnW wq rb (k'.after x) (.slice a11 (k'.after x).ps.length c11) = W11 at HM11 ⊢
                obtain ⟨hbr, r0, r1, r2, r3, r4, r5, r6, r7, r8, r9⟩ := (HM11.out).box.cells; have hfb := box_free (HM11.out).box
                go_wp2_with ((at_builtin; refine wpList_append_own _ rfl _ _ 54 rfl (w.heap.size + 2) 3 i0 (.int .i64 0) 1 8 Tryz.underlying54 hi hz0 hz1 hz2 rfl (by decide) _ _ _ rfl (ownsRow_up (HM11.out).own (Up.alloc (Up.refl _) _)) ⟨W11.heap.size, 0, none⟩ 1 1 [.int .i64 x] rfl rfl (new_cells [.int .i64 x] _ rfl) (by intro u hu; simp at hu; subst hu; rfl) (by unfold maxLen; omega) (by omega) (by have := (HM11.out).kn0.cells.1; have := (HM11.out).res.cells.1; simp; omega) ?_; rintro v12 w12 hown12 hgr12 -; obtain ⟨a12, c12, rfl⟩ := ownsRow_shape hown12; have hg12 := ((HM11.out).upd (Up.alloc (Up.refl _) _)).grown ((HM11.out).upd (Up.alloc (Up.refl _) _)).own (Nat.le_refl _) (by decide) hgr12; have hb12 := ((HM11.out).upd (Up.alloc (Up.refl _) _)).putC hgr12 (ownI_snoc hown12); obtain ⟨hbr, r0, r1, r2, r3, r4, r5, r6, r7, r8, r9⟩ := (hg12).box.cells; have hfb := box_free (hg12).box; obtain ⟨hbq, q0, q1, q2, q3, q4, q5, q6, q7, q8, q9⟩ := RgAt.cells (k := ⟨⟨0, 0, 0⟩, [], 0, 0⟩) (hg12).res; have hfq := box_free (hg12).res; have HB12 := Lib.hid hb12; clear hb12 hown12 hgr12 hg12))
                have hlen9 : posOf rb wr = p := by rw [posOf_box HB0.out.box]; simp
                have HS12 : Hid (RcB w k (.slice a k.ps.length cap) rb (k'.after x) (.slice a11 (k'.after x).ps.length c11) (cs ++ [x]) (.slice a12 (cs.length + 1) c12) (d ++ wl) (.slice a10 (d.length + wl.length) c10) 1 ((p + wd : Nat) : Int) (World.setCell w12 ⟨rb, 6, none⟩ (.slice a12 (cs.length + 1) c12))) := by
                  have := HB12.out
                  rw [← Int.natCast_add] at this
                  exact this
                have hpos9 := posOf_box HS12.out.box
                generalize World.setCell w12 ⟨rb, 6, none⟩ (.slice a12 (cs.length + 1) c12) = W12 at HS12 hpos9 ⊢
                go_roundw
                case rel => exact ⟨k'.after x, _, _, _, p + wd, m', cs ++ [x], d ++ wl, ⟨HI.out, HR.out, by omega, by simp; omega⟩, HS12.out⟩
                case measure => rw [hlen9, hpos9]; simp; omega
      · have hcan : decide (x ≤ ((k'.top : Nat) : Int)) = false := decide_eq_false htp
        simp only [hcan] at hcan0
        obtain ⟨t1, t2, t3⟩ := follows_top HOK.out htp
        have HR : Hid (T = ⟨k', cs, d, 2, p + wd⟩) := by
          unfold Hid; rw [← HD.out.tot, readN_wrong (x := x) (by rw [HWE.out]; exact HX.out) (by rw [HWE.out]; exact HSH.out) t1 t2 t3, HWE.out]
        clear hcan htp t1 t2 t3
        (with_reducible refine (hcan0 _ (RdP.of_own HB7.out.pr)).mono ?_)
        rintro e w8 ⟨rfl, U8⟩
        have HB8 := Lib.hid (HB7.out.upd U8)
        clear U8 HB7 hcan0
        obtain ⟨hbr, r0, r1, r2, r3, r4, r5, r6, r7, r8, r9⟩ := (HB8.out).box.cells; have hfb := box_free (HB8.out).box
        obtain ⟨hbq, q0, q1, q2, q3, q4, q5, q6, q7, q8, q9⟩ := RgAt.cells (k := ⟨⟨0, 0, 0⟩, [], 0, 0⟩) (HB8.out).res; have hfq := box_free (HB8.out).res
        go_wp2
        have HFI := Lib.hid (HB8.out.setF 2)
        have HQI := Lib.hid (RgAt.store (HFI.out).res ((k')) (.slice a' k'.ps.length c') (.slice aw cs.length cw) (.slice ad d.length cd) (2) (((p : Int) + (wd : Int))))
        rw [show (World.setCell (World.setCell (World.setCell (World.setCell (World.setCell (World.setCell (World.setCell (World.setCell (World.setCell (World.setCell (World.setCell w8 ⟨rb, 8, none⟩ (.int .i64 2)) ⟨w.heap.size + 1, 0, none⟩ (.int .i64 (k').set.ord)) ⟨w.heap.size + 1, 1, none⟩ (.int .i64 (k').set.lit)) ⟨w.heap.size + 1, 2, none⟩ (.int .i64 (k').set.most)) ⟨w.heap.size + 1, 3, none⟩ (.slice a' k'.ps.length c')) ⟨w.heap.size + 1, 4, none⟩ (.int .i64 (k').base)) ⟨w.heap.size + 1, 5, none⟩ (.int .i64 (k').last)) ⟨w.heap.size + 1, 6, none⟩ (.slice aw cs.length cw)) ⟨w.heap.size + 1, 7, none⟩ (.slice ad d.length cd)) ⟨w.heap.size + 1, 8, none⟩ (.int .i64 2)) ⟨w.heap.size + 1, 9, none⟩ (.int .i64 ((p : Int) + (wd : Int)))) = RgW (World.setCell w8 ⟨rb, 8, none⟩ (.int .i64 2)) (w.heap.size + 1) ((k')) (.slice a' k'.ps.length c') (.slice aw cs.length cw) (.slice ad d.length cd) (2) (((p : Int) + (wd : Int))) from rfl]
        have HPO := Lib.hid (RcPost.of (p := p + wd) (by have h := HFI.out; rw [← Int.natCast_add] at h; exact h))
        obtain ⟨hbq, q0, q1, q2, q3, q4, q5, q6, q7, q8, q9⟩ := HQI.out.cells
        rw [HR.out]
        refine bodyPost_ret (v := rgV ((k')) (.slice a' k'.ps.length c') (.slice aw cs.length cw) (.slice ad d.length cd) (2) (((p : Int) + (wd : Int)))) (by simp [results, Tryz.results164, go_sem, q0, q1, q2, q3, q4, q5, q6, q7, q8, q9]) rfl ?_
        (have h := HPO.out; rw [Int.natCast_add] at h; exact h)

end Go.Proofs.YtekbbnkkninolaaGreat

/- Walks of the program's unpack, Decompress, DecompressWith, blockData, BlockData. Conditions: what is known is valid and can be read; strings are no longer than 2^30 bytes. -/
namespace Go.Proofs.YtekbbnkkninolaaGreat
set_option linter.unusedVariables false
set_option linter.unusedSimpArgs false
open Go Go.RowKit

/-- What unpack reads, and how many bytes it uses. -/
def upkR (k : KnD) (s : List UInt8) : RdR := if s.length ≤ 4000 then readS k s else ⟨⟨⟨0, 0, 0⟩, [], 0, 0⟩, [], [], 4, 0⟩
def upkU (k : KnD) (s : List UInt8) : Nat := if s.length ≤ 4000 then usedS s (readS k s) else 0
def UpkPost (R : RdR) (used : Nat) (w : World) (e : Ending) (w' : World) : Prop := ∃ a n c vc vd, e = .returned (.tuple #[rgV R.k (.slice a n c) vc vd R.fin R.pos, .int .i64 used]) ∧ ownI w' w.heap.size vc R.codes ∧ ownU w' w.heap.size vd R.data ∧ Up w w'
/-- A reading with rows of its own. -/
def RdO (base : Nat) (R : RdR) (u : Value) (w : World) : Prop := ∃ v vc vd, u = rgV R.k v vc vd R.fin R.pos ∧ ownPr w base v R.k.ps ∧ ownI w base vc R.codes ∧ ownU w base vd R.data
theorem rdO_closed (base : Nat) (R : RdR) : ∀ u, UpClosed (RdO base R u) := fun u w w' ⟨v, vc, vd, h1, h0, h2, h3⟩ hu => ⟨v, vc, vd, h1, ownsRow_up h0 hu, ownsRow_up h2 hu, ownsRow_up h3 hu⟩
theorem upOut_rd {f : FuncId} {args : Array Value} {w : World} {R : RdR} {base : Nat} (h : Calls Tryz.prog f args w (RcPost R w)) (hb : base ≤ w.heap.size) : upOut Tryz.prog (RdO base R) w (.ok (.enter f args) w) :=
  ⟨rfl, h.mono fun e w' ⟨v, vc, vd, he, hp, ho, hd, hu⟩ => ⟨_, he, hu, v, vc, vd, rfl, ownsRow_base hp hb, ownsRow_base ho hb, ownsRow_base hd hb⟩⟩
/-- A new box for a reading. -/
def RgO (base : Nat) (u : Value) (w : World) : Prop := ∃ b, u = .pointer (some ⟨b, 0, none⟩) ∧ base ≤ b ∧ RgAt b ⟨⟨0, 0, 0⟩, [], 0, 0⟩ (.slice none 0 0) (.slice none 0 0) (.slice none 0 0) 0 0 w
theorem rgO_closed (base : Nat) : ∀ u, UpClosed (RgO base u) := fun u w w' ⟨b, h1, h2, h3⟩ hu => ⟨b, h1, h2, box_up hu h3⟩

set_option maxRecDepth 100000 in
set_option maxHeartbeats 8000000 in
theorem upkI_any (k : KnD) (v : Value) (lo : Nat) (s : ByteArray) (w : World) (h : k.Ok) (hv : k.last = -1 → k.base = k.ps.length) (hr : RdP lo w v k.ps) (hs : s.size ≤ 1073741824) :
    Calls Tryz.prog 134  #[kV k v, .string s] w (UpkPost (upkR k s.data.toList) (upkU k s.data.toList) w) := by
  have cV := fun wx hr => kvI_any k v lo wx h hv hr
  have hrt := fun (wq : World) (hu : Up w wq) => hr.up hu
  have hlen := ba_len s
  unfold upkR upkU
  by_cases h4 : s.size ≤ 4000
  case neg =>
    rw [if_neg (by omega), if_neg (by omega)]
    obtain ⟨a, cap, rfl, -, -, -, -⟩ := hr
    have h4' : (4000 : Int) < (s.size : Int) := by omega
    have h4d : decide ((4000 : Int) < (s.size : Int)) = true := decide_eq_true h4'
    clear h hv hlen
    simp only [kV] at *
    go_enter Tryz.func134, Tryz.ntmps134
    go_wp2_with fail
    (with_reducible refine (cV _ (hrt _ (by (repeat (first | with_reducible exact Up.refl _ | with_reducible assumption | with_reducible refine Up.set ?_ (by first | exact Nat.le_refl _ | (simp only []; omega) | (simp; omega)) _ | with_reducible refine Up.alloc ?_ _ | with_reducible refine Up.drew ?_ | refine Up.trans ?_ (by with_reducible assumption)))))).mono ?_); rintro e w1 ⟨rfl, U1⟩
    have hQ1 : RgAt (w.heap.size + 1) ⟨⟨0, 0, 0⟩, [], 0, 0⟩ (.slice none 0 0) (.slice none 0 0) (.slice none 0 0) 0 0 w1 := box_up U1 (alloc2 w _ _)
    have hU1 : Up w w1 := by (repeat (first | with_reducible exact Up.refl _ | with_reducible assumption | with_reducible refine Up.set ?_ (by first | exact Nat.le_refl _ | (simp only []; omega) | (simp; omega)) _ | with_reducible refine Up.alloc ?_ _ | with_reducible refine Up.drew ?_ | refine Up.trans ?_ (by with_reducible assumption)))
    have HQ := Lib.hid hQ1
    have HU := Lib.hid (RgW.up hU1 (show w.heap.size ≤ w.heap.size + 1 by omega) ⟨⟨0, 0, 0⟩, [], 0, 0⟩ (.slice none 0 0) (.slice none 0 0) (.slice none 0 0) 4 0)
    have HS := Lib.hid (RgAt.store hQ1 ⟨⟨0, 0, 0⟩, [], 0, 0⟩ (.slice none 0 0) (.slice none 0 0) (.slice none 0 0) 4 0)
    obtain ⟨hbq, q0, q1, q2, q3, q4, q5, q6, q7, q8, q9⟩ := RgAt.cells (k := ⟨⟨0, 0, 0⟩, [], 0, 0⟩) hQ1
    (try dsimp only at q0 q1 q2 q3 q4 q5)
    have hfq := box_free hQ1
    clear hQ1 hU1 U1
    go_wp2
    rw [show (World.setCell (World.setCell (World.setCell (World.setCell (World.setCell (World.setCell (World.setCell (World.setCell (World.setCell (World.setCell w1 ⟨w.heap.size + 1, 0, none⟩ (.int .i64 0)) ⟨w.heap.size + 1, 1, none⟩ (.int .i64 0)) ⟨w.heap.size + 1, 2, none⟩ (.int .i64 0)) ⟨w.heap.size + 1, 3, none⟩ (.slice none 0 0)) ⟨w.heap.size + 1, 4, none⟩ (.int .i64 0)) ⟨w.heap.size + 1, 5, none⟩ (.int .i64 0)) ⟨w.heap.size + 1, 6, none⟩ (.slice none 0 0)) ⟨w.heap.size + 1, 7, none⟩ (.slice none 0 0)) ⟨w.heap.size + 1, 8, none⟩ (.int .i64 4)) ⟨w.heap.size + 1, 9, none⟩ (.int .i64 0)) = RgW w1 (w.heap.size + 1) ⟨⟨0, 0, 0⟩, [], 0, 0⟩ (.slice none 0 0) (.slice none 0 0) (.slice none 0 0) 4 0 from rfl]
    obtain ⟨hbq, q0, q1, q2, q3, q4, q5, q6, q7, q8, q9⟩ := RgAt.cells (k := ⟨⟨0, 0, 0⟩, [], 0, 0⟩) HS.out
    (try dsimp only at q0 q1 q2 q3 q4 q5)
    refine bodyPost_ret (v := .tuple #[rgV ⟨⟨0, 0, 0⟩, [], 0, 0⟩ (.slice none 0 0) (.slice none 0 0) (.slice none 0 0) 4 0, .int .i64 0]) ?_ rfl ⟨_, _, _, _, _, rfl, World.ownsRow_nil _ _ _ _, World.ownsRow_nil _ _ _ _, ?_⟩
    · simp [results, Tryz.results134, go_sem, q0, q1, q2, q3, q4, q5, q6, q7, q8, q9]
    · exact HU.out
  case pos =>
    rw [if_pos (by omega), if_pos (by omega)]
    have ho := (setOk_bd h.set).1
    have cU := fun wx => unpackBI_any k.set.ord s wx ho h4
    have hul := unpackL_length k.set.ord s.data.toList
    have cR : ∀ wx, RdP lo wx v k.ps → Calls Tryz.prog 164  #[kV k v, .string (bs (unpackL k.set.ord s.data.toList)), .int .i64 0, .int .i64 0] wx (RcPost (readN k.set.ord (unpackL k.set.ord s.data.toList) 0 0 (unpackL k.set.ord s.data.toList).length k 0 [] []) wx) := fun wx hr => readI_any k v lo (unpackL k.set.ord s.data.toList) 0 0 wx h hr (isBits_unpack _ _) (by omega) (by omega) (by omega)
    rw [hul] at cR
    have hfin := readS_fin h s.data.toList
    have hpos := hfin.pos
    rw [hul] at hpos
    have hp2 : (readS k s.data.toList).pos ≤ 32000 := by omega
    have hF := hfin.fin
    have HE : Hid (readN k.set.ord (unpackL k.set.ord s.data.toList) 0 0 (8 * s.data.toList.length) k 0 [] [] = readS k s.data.toList) := rfl
    rw [HE.out] at cR
    obtain ⟨uu, HUU⟩ : ∃ uu, Hid (usedS s.data.toList (readS k s.data.toList) = uu) := ⟨_, rfl⟩
    rw [HUU.out]
    unfold usedS at HUU
    clear hfin HE hul hpos
    generalize readS k s.data.toList = R at *
    generalize unpackL k.set.ord s.data.toList = bits at *
    obtain ⟨kR, codes, dat, fin, pos⟩ := R
    simp only at hp2 hF cR HUU ⊢
    obtain ⟨a, cap, rfl, -, -, -, -⟩ := hr
    clear h hv ho
    simp only [kV] at *
    go_enter Tryz.func134, Tryz.ntmps134
    go_wp2_with ((go_at_call 150; (with_reducible refine (cV _ (hrt _ (by (repeat (first | with_reducible exact Up.refl _ | with_reducible assumption | with_reducible refine Up.set ?_ (by first | exact Nat.le_refl _ | (simp only []; omega) | (simp; omega)) _ | with_reducible refine Up.alloc ?_ _ | with_reducible refine Up.drew ?_ | refine Up.trans ?_ (by with_reducible assumption)))))).mono ?_); rintro e w1 ⟨rfl, U1⟩; have B1 := bcell U1; have Z1 := U1.size; (try simp at Z1); (try rw [Nat.add_one_le_iff] at Z1)))
    have hK1 : KnAt w.heap.size k (.slice a k.ps.length cap) w1 := box_up U1 (box_up ((Up.refl _).alloc _) (MapKept.heap_alloc w _).1)
    have hQ1 : RgAt (w.heap.size + 1) ⟨⟨0, 0, 0⟩, [], 0, 0⟩ (.slice none 0 0) (.slice none 0 0) (.slice none 0 0) 0 0 w1 := box_up U1 (alloc2 w _ _)
    have hU1 : Up w w1 := by (repeat (first | with_reducible exact Up.refl _ | with_reducible assumption | with_reducible refine Up.set ?_ (by first | exact Nat.le_refl _ | (simp only []; omega) | (simp; omega)) _ | with_reducible refine Up.alloc ?_ _ | with_reducible refine Up.drew ?_ | refine Up.trans ?_ (by with_reducible assumption)))
    have hs1 := U1.size
    simp at hs1
    have HK := Lib.hid hK1
    have HQ := Lib.hid hQ1
    have HU := Lib.hid hU1
    clear hK1 hQ1 hU1 U1 B1 Z1
    refine wp_region_upf 8 (by kernel_rfl) (by kernel_rfl) ?_
    simp only [List.take, List.drop]
    repeat (refine wpUp_step (fun K hK => ?_); go_simp; (try simp only [↓IntWalk.iteOmega]); first
      | (refine hK _ _ ?_; clear hK K)
      | (apply stepU_c
         · intro wq hwq; (have hbq := bcell hwq; (repeat (first | refine fills_no (by rfl) ?_ | refine fills_yes (by rfl) (fun vq hvq => ?_))); simp only [List.filter_nil, fills]; unfold upAt; (try ((obtain ⟨hbk, s0, s1, s2, s3, s4, s5⟩ := (HK.out.up hwq).cells))); go_simp; (try go_bits); (try simp only [↓IntWalk.iteOmega]); (try (rw [dif_pos (by omega)]; go_simp; try go_bits)); first | exact upOut_value | (apply upOut_call; (go_at_call 165; exact cU _)) | (apply upOut_eq; (go_at_call 165; exact cU _)))
         go_simp; refine hK _ _ ?_; clear hK K)
      | (refine stepU_m (by kernel_rfl) ((RdO w1.heap.size ⟨kR, codes, dat, fin, pos⟩)) (rdO_closed _ _) (fun wq hwq => ?_) ?_
         · (have hbq := bcell hwq; (repeat (first | refine fills_no (by rfl) ?_ | refine fills_yes (by rfl) (fun vq hvq => ?_))); simp only [List.filter_nil, fills]; unfold upAt; (try ((obtain ⟨hbk, s0, s1, s2, s3, s4, s5⟩ := (HK.out.up hwq).cells))); go_simp; (try go_bits); (try simp only [↓IntWalk.iteOmega]); (try (rw [dif_pos (by omega)]; go_simp; try go_bits)); ((with_reducible refine upOut_rd (base := w1.heap.size) ?_ hwq.size); go_at_call 164; exact cR _ (hrt _ (HU.out.trans hwq))))
         refine hK _ _ ?_; clear hK K)
      | (refine stepU_m (by kernel_rfl) ((RgO w1.heap.size)) (rgO_closed _) (fun wq hwq => ?_) ?_
         · (have hbq := bcell hwq; (repeat (first | refine fills_no (by rfl) ?_ | refine fills_yes (by rfl) (fun vq hvq => ?_))); simp only [List.filter_nil, fills]; unfold upAt; (try ((obtain ⟨hbk, s0, s1, s2, s3, s4, s5⟩ := (HK.out.up hwq).cells))); go_simp; (try go_bits); (try simp only [↓IntWalk.iteOmega]); (try (rw [dif_pos (by omega)]; go_simp; try go_bits)); (exact ⟨(Up.refl _).alloc _, _, rfl, hwq.size, (MapKept.heap_alloc _ _).1⟩))
         refine hK _ _ ?_; clear hK K))
    refine wpUp_nil (fun wq hwq => ?_)
    simp only [fills]
    rintro u1 ⟨b, rfl, hbb, hbx⟩ u2 ⟨vp, vc, vd, rfl, hvp, hvc, hvd⟩
    obtain ⟨ap, cp, rfl⟩ := ownsRow_shape hvp
    obtain ⟨ac, cc, rfl⟩ := ownsRow_shape hvc
    obtain ⟨ad, cd, rfl⟩ := ownsRow_shape hvd
    obtain ⟨hbr, r0, r1, r2, r3, r4, r5, r6, r7, r8, r9⟩ := RgAt.cells (k := ⟨⟨0, 0, 0⟩, [], 0, 0⟩) hbx
    (try dsimp only at r0 r1 r2 r3 r4 r5)
    have hfb := box_free hbx
    have hB5 := RgAt.store hbx kR (.slice ap kR.ps.length cp) (.slice ac codes.length cc) (.slice ad dat.length cd) fin pos
    have hQ5 := (RgW.other (w := wq) (b := b) (show w.heap.size + 1 ≠ b by omega) kR (.slice ap kR.ps.length cp) (.slice ac codes.length cc) (.slice ad dat.length cd) fin pos).trans (box_up hwq HQ.out)
    have hC5 := RgW.own hvc (box_ne hbx hvc (by decide)) kR (.slice ap kR.ps.length cp) (.slice ac codes.length cc) (.slice ad dat.length cd) fin pos
    have hD5 := RgW.own hvd (box_ne hbx hvd (by decide)) kR (.slice ap kR.ps.length cp) (.slice ac codes.length cc) (.slice ad dat.length cd) fin pos
    have hU5 := RgW.up (HU.out.trans hwq) (show w.heap.size ≤ b by have := HU.out.size; omega) kR (.slice ap kR.ps.length cp) (.slice ac codes.length cc) (.slice ad dat.length cd) fin pos
    have HB5 := Lib.hid hB5
    have HC5 := Lib.hid hC5
    have HD5 := Lib.hid hD5
    have HU5 := Lib.hid hU5
    have HQ5 : Hid (RgAt (w.heap.size + 1) ⟨⟨0, 0, 0⟩, [], 0, 0⟩ (.slice none 0 0) (.slice none 0 0) (.slice none 0 0) 0 0 (RgW wq b kR (.slice ap kR.ps.length cp) (.slice ac codes.length cc) (.slice ad dat.length cd) fin pos)) := hQ5
    clear hB5 hC5 hD5 hU5 hQ5 hvp hvc hvd hbx HK HQ HU cU cR hrt cV
    go_wp2
    rw [onlyN_normal]
    rw [show (World.setCell (World.setCell (World.setCell (World.setCell (World.setCell (World.setCell (World.setCell (World.setCell (World.setCell (World.setCell wq ⟨b, 0, none⟩ (.int .i64 kR.set.ord)) ⟨b, 1, none⟩ (.int .i64 kR.set.lit)) ⟨b, 2, none⟩ (.int .i64 kR.set.most)) ⟨b, 3, none⟩ (.slice ap kR.ps.length cp)) ⟨b, 4, none⟩ (.int .i64 kR.base)) ⟨b, 5, none⟩ (.int .i64 kR.last)) ⟨b, 6, none⟩ (.slice ac codes.length cc)) ⟨b, 7, none⟩ (.slice ad dat.length cd)) ⟨b, 8, none⟩ (.int .i64 fin)) ⟨b, 9, none⟩ (.int .i64 pos)) = RgW wq b kR (.slice ap kR.ps.length cp) (.slice ac codes.length cc) (.slice ad dat.length cd) fin pos from rfl]
    generalize RgW wq b kR (.slice ap kR.ps.length cp) (.slice ac codes.length cc) (.slice ad dat.length cd) fin pos = W5 at *
    clear r0 r1 r2 r3 r4 r5 r6 r7 r8 r9 hfb hwq
    obtain ⟨hbr, r0, r1, r2, r3, r4, r5, r6, r7, r8, r9⟩ := HB5.out.cells
    obtain ⟨hbq, q0, q1, q2, q3, q4, q5, q6, q7, q8, q9⟩ := RgAt.cells (k := ⟨⟨0, 0, 0⟩, [], 0, 0⟩) HQ5.out
    (try dsimp only at q0 q1 q2 q3 q4 q5)
    have hfq := box_free HQ5.out
    have HQS := Lib.hid (RgAt.store HQ5.out kR (.slice ap kR.ps.length cp) (.slice ac codes.length cc) (.slice ad dat.length cd) fin pos)
    have HCS := Lib.hid (ownsRow_base (RgW.own HC5.out (low_ne (w := w) HC5.out (show w.heap.size + 1 < w1.heap.size by omega)) kR (.slice ap kR.ps.length cp) (.slice ac codes.length cc) (.slice ad dat.length cd) fin pos) (show w.heap.size ≤ w1.heap.size by omega))
    have HDS := Lib.hid (ownsRow_base (RgW.own HD5.out (low_ne (w := w) HD5.out (show w.heap.size + 1 < w1.heap.size by omega)) kR (.slice ap kR.ps.length cp) (.slice ac codes.length cc) (.slice ad dat.length cd) fin pos) (show w.heap.size ≤ w1.heap.size by omega))
    have HUS := Lib.hid (RgW.up HU5.out (show w.heap.size ≤ w.heap.size + 1 by omega) kR (.slice ap kR.ps.length cp) (.slice ac codes.length cc) (.slice ad dat.length cd) fin pos)
    by_cases hf1 : fin = 1
    · have hne : (fin == 1) = true := by simpa using hf1
      have HU9 : Hid ((uu : Int) = (s.size : Int)) := by unfold Hid; rw [← HUU.out, if_pos hf1, hlen]
      clear hf1
      go_wp2
      rw [show (World.setCell (World.setCell (World.setCell (World.setCell (World.setCell (World.setCell (World.setCell (World.setCell (World.setCell (World.setCell W5 ⟨w.heap.size + 1, 0, none⟩ (.int .i64 kR.set.ord)) ⟨w.heap.size + 1, 1, none⟩ (.int .i64 kR.set.lit)) ⟨w.heap.size + 1, 2, none⟩ (.int .i64 kR.set.most)) ⟨w.heap.size + 1, 3, none⟩ (.slice ap kR.ps.length cp)) ⟨w.heap.size + 1, 4, none⟩ (.int .i64 kR.base)) ⟨w.heap.size + 1, 5, none⟩ (.int .i64 kR.last)) ⟨w.heap.size + 1, 6, none⟩ (.slice ac codes.length cc)) ⟨w.heap.size + 1, 7, none⟩ (.slice ad dat.length cd)) ⟨w.heap.size + 1, 8, none⟩ (.int .i64 fin)) ⟨w.heap.size + 1, 9, none⟩ (.int .i64 pos)) = RgW W5 (w.heap.size + 1) kR (.slice ap kR.ps.length cp) (.slice ac codes.length cc) (.slice ad dat.length cd) fin pos from rfl]
      obtain ⟨hbq, q0, q1, q2, q3, q4, q5, q6, q7, q8, q9⟩ := HQS.out.cells
      refine bodyPost_ret (v := .tuple #[rgV kR (.slice ap kR.ps.length cp) (.slice ac codes.length cc) (.slice ad dat.length cd) fin pos, .int .i64 s.size]) ?_ rfl ⟨_, _, _, _, _, by rw [HU9.out], HCS.out, HDS.out, HUS.out⟩
      simp [results, Tryz.results134, go_sem, q0, q1, q2, q3, q4, q5, q6, q7, q8, q9]
    · have hne : (fin == 1) = false := by simpa using hf1
      have HU9 : Hid ((uu : Int) = ((pos : Int) + 7) / 8) := by unfold Hid; rw [← HUU.out, if_neg hf1]; omega
      go_wp2
      refine wp_region_own 7 5 (some (w.heap.size + 1)) (by kernel_rfl) (by kernel_rfl) ?_
      simp only [List.take, List.drop]
      repeat (refine wpG_step (fun K hK => ?_); go_simp; (try simp only [↓IntWalk.iteOmega]); first
        | (refine hK _ _ ?_; clear hK K)
        | (refine stepG_own (by rfl) (by kernel_rfl) ((fun u w' => RgAt (w.heap.size + 1) kR (.slice ap kR.ps.length cp) (.slice ac codes.length cc) (.slice ad dat.length cd) fin pos w')) ((fun v w w' h hu => box_up hu h)) (fun wq hwq => ?_) ?_
           · ((repeat (first | refine fills_no (by rfl) ?_ | refine fills_yes (by rfl) (fun vq hvq => ?_))); simp only [List.filter_nil, fills]; (obtain ⟨hbq, q0, q1, q2, q3, q4, q5, q6, q7, q8, q9⟩ := RgAt.cells (k := ⟨⟨0, 0, 0⟩, [], 0, 0⟩) (box_up hwq HQ5.out); (try dsimp only at q0 q1 q2 q3 q4 q5); have hfq := box_free (box_up hwq HQ5.out); unfold gAt; go_simp; exact ⟨(grownBy_set (grownBy_set (grownBy_set (grownBy_set (grownBy_set (grownBy_set (grownBy_set (grownBy_set (grownBy_set (grownBy_set (grownBy_refl _ _) _ _) _ _) _ _) _ _) _ _) _ _) _ _) _ _) _ _) _ _), RgAt.store (show RgAt (w.heap.size + 1) ⟨⟨0, 0, 0⟩, [], 0, 0⟩ (.slice none 0 0) (.slice none 0 0) (.slice none 0 0) 0 0 wq from box_up hwq HQ5.out) kR (.slice ap kR.ps.length cp) (.slice ac codes.length cc) (.slice ad dat.length cd) fin pos⟩))
           refine hK _ _ ?_; clear hK K)
        | (refine stepG_c (by rfl) ?_ ?_ ?_
           rotate_left
           · intro wq hwq; (have hbq := gcell hwq; (repeat (first | refine fills_no (by rfl) ?_ | refine fills_yes (by rfl) (fun vq hvq => ?_))); simp only [List.filter_nil, fills]; unfold upAt; (try ((obtain ⟨hbr, r0, r1, r2, r3, r4, r5, r6, r7, r8, r9⟩ := RgAt.cells (gbox hwq HB5.out (by simp; omega))))); go_simp; (try go_bits); (try simp only [↓IntWalk.iteOmega]); (try (rw [dif_pos (by omega)]; go_simp; try go_bits)); first | exact upOut_value)
           go_simp; refine hK _ _ ?_; clear hK K))
      refine wpG_nil (by rfl) (fun wq hwq => ?_)
      simp only [fills]
      rintro u hkr
      have HCT := Lib.hid (ownsRow_base (HC5.out.kept hwq (low_ne' (w := w) HC5.out (show w.heap.size + 1 < w1.heap.size by omega))) (show w.heap.size ≤ w1.heap.size by omega))
      have HDT := Lib.hid (ownsRow_base (HD5.out.kept hwq (low_ne' (w := w) HD5.out (show w.heap.size + 1 < w1.heap.size by omega))) (show w.heap.size ≤ w1.heap.size by omega))
      have HUT := Lib.hid (up_grown' HU5.out hwq (show w.heap.size ≤ w.heap.size + 1 by omega))
      obtain ⟨hbq, q0, q1, q2, q3, q4, q5, q6, q7, q8, q9⟩ := RgAt.cells hkr
      clear hwq hkr
      go_wp2
      refine bodyPost_ret (v := .tuple #[rgV kR (.slice ap kR.ps.length cp) (.slice ac codes.length cc) (.slice ad dat.length cd) fin pos, .int .i64 (((pos : Int) + 7) / 8)]) ?_ rfl ⟨_, _, _, _, _, by rw [HU9.out], HCT.out, HDT.out, HUT.out⟩
      simp [results, Tryz.results134, go_sem, q0, q1, q2, q3, q4, q5, q6, q7, q8, q9]

theorem upk_dec {k : KnD} (s : List UInt8) : (upkR k s).data = (decK k s).data ∧ (upkR k s).fin = (decK k s).fin ∧ upkU k s = (decK k s).used := by
  unfold upkR upkU decK
  split <;> exact ⟨rfl, rfl, rfl⟩

set_option maxRecDepth 100000 in
set_option maxHeartbeats 4000000 in
theorem decI_any (k : KnD) (v : Value) (lo : Nat) (s : ByteArray) (w : World) (h : k.Ok) (hv : k.last = -1 → k.base = k.ps.length) (hr : RdP lo w v k.ps) (hs : s.size ≤ 1073741824) :
    Calls Tryz.prog 82  #[kV k v, .string s] w (Same (decV (decK k s.data.toList)) w) := by
  have cU := fun wx hr => upkI_any k v lo s wx h hv hr hs
  have hrt := fun (wq : World) (hu : Up w wq) => hr.up hu
  obtain ⟨u1, u2, u3⟩ := upk_dec (k := k) s.data.toList
  unfold decV
  rw [← u1, ← u2, ← u3]
  unfold UpkPost at cU
  obtain ⟨a, cap, rfl, -, -, -, -⟩ := hr
  clear h hv u1 u2 u3
  generalize upkR k s.data.toList = R at *
  generalize upkU k s.data.toList = uu at *
  obtain ⟨kR, codes, dat, fin, pos⟩ := R
  simp only [kV] at *
  go_enter Tryz.func82, Tryz.ntmps82
  go_wp2_with (go_at_call 134; (with_reducible refine (cU _ (hrt _ (by (repeat (first | with_reducible exact Up.refl _ | with_reducible assumption | with_reducible refine Up.set ?_ (by first | exact Nat.le_refl _ | (simp only []; omega) | (simp; omega)) _ | with_reducible refine Up.alloc ?_ _ | with_reducible refine Up.drew ?_ | refine Up.trans ?_ (by with_reducible assumption)))))).mono ?_); rintro e w1 ⟨ap, np, cp, vc, vd, rfl, hvc, hvd, U1⟩; obtain ⟨ac, cc, rfl⟩ := ownsRow_shape hvc; obtain ⟨ad, cd, rfl⟩ := ownsRow_shape hvd; have HD := Lib.hid hvd; clear hvc hvd)
  refine wp_region_up 9 (by kernel_rfl) (by kernel_rfl) ?_
  simp only [List.take, List.drop]
  repeat (refine wpUp_step (fun K hK => ?_); go_simp; (try simp only [↓IntWalk.iteOmega]); first
    | (refine hK _ _ ?_; clear hK K)
    | (apply stepU_c
       · intro wq hwq; (have hbq := bcell hwq; (repeat (first | refine fills_no (by rfl) ?_ | refine fills_yes (by rfl) (fun vq hvq => ?_))); simp only [List.filter_nil, fills]; unfold upAt; (try ((have hconv := conv_any (ownsRow_up (ownsRow_up HD.out (Up.alloc (Up.refl _) _)) hwq) rfl; obtain ⟨hbr, r0, r1, r2, r3, r4, r5, r6, r7, r8, r9⟩ := RgAt.cells (k := kR) (box_up hwq (MapKept.heap_alloc w1 _).1)))); go_simp; (try go_bits); (try simp only [↓IntWalk.iteOmega]); (try (rw [dif_pos (by omega)]; go_simp; try go_bits)); first | exact upOut_value)
       go_simp; refine hK _ _ ?_; clear hK K))
  refine wpUp_nil (fun wq hwq => ?_)
  simp only [fills]
  have hU := ((U1.alloc _).trans hwq)
  clear hwq U1
  go_wp2
  refine bodyPost_ret (v := .tuple #[.string (bs dat), .int .i64 fin, .int .i64 uu]) (by simp [results, Tryz.results82, go_sem]; try rfl) rfl ⟨rfl, ?_⟩
  (repeat (first | with_reducible exact Up.refl _ | with_reducible assumption | with_reducible refine Up.set ?_ (by first | exact Nat.le_refl _ | (simp only []; omega) | (simp; omega)) _ | with_reducible refine Up.alloc ?_ _ | with_reducible refine Up.drew ?_ | refine Up.trans ?_ (by with_reducible assumption)))

end Go.Proofs.YtekbbnkkninolaaGreat

/- Walks of the program's blockData and BlockData. Conditions: what is known is valid and can be read; strings are no longer than 2^30 bytes. -/
namespace Go.Proofs.YtekbbnkkninolaaGreat
set_option linter.unusedVariables false
set_option linter.unusedSimpArgs false
open Go Go.RowKit

/-- The data of a block, the words of the dictionary being known. -/
def datK (k : KnD) (b : BlkD) : Option (List UInt8) := if b.raw then some b.body.data.toList else
  if (decK k b.body.data.toList).fin = 0 ∧ (decK k b.body.data.toList).used = b.body.size ∧ ((decK k b.body.data.toList).data.length : Int) = b.size then some (decK k b.body.data.toList).data else none
theorem datK_eq {s : SetD} {dict : List UInt8} (h : fitsB s dict = true) (b : BlkD) : dataO s dict b = datK (learnK (startK s) dict) b := by
  unfold dataO datK decW
  rw [if_pos h]

set_option maxRecDepth 100000 in
set_option maxHeartbeats 8000000 in
theorem blockDataI_any (k : KnD) (v : Value) (lo : Nat) (b : BlkD) (w : World) (h : k.Ok) (hv : k.last = -1 → k.base = k.ps.length) (hr : RdP lo w v k.ps) (hs : b.body.size ≤ 1073741824) :
    Calls Tryz.prog 74  #[kV k v, blkV b] w (Same (optS (datK k b)) w) := by
  have cD := fun wx hr => decI_any k v lo b.body wx h hv hr hs
  have hrt := fun (wq : World) (hu : Up w wq) => hr.up hu
  unfold datK
  obtain ⟨num, raw, size, body⟩ := b
  simp only at hs cD ⊢
  cases raw
  · simp only [Bool.false_eq_true, if_false]
    obtain ⟨d1, d2, d3, d4⟩ := decK_bd h body.data.toList
    generalize decK k body.data.toList = R at *
    obtain ⟨dd, ff, uu⟩ := R
    simp only at d1 d2 d3 d4 ⊢
    unfold decV at cD
    simp only at cD
    have hbz := bs_size dd
    have hbl : uu ≤ body.size := by simpa using d4
    obtain ⟨a, cap, rfl, -, -, -, -⟩ := hr
    clear d4 h hv
    simp only [kV, blkV] at *
    by_cases h1 : ff = 0
    · by_cases h2 : uu = body.size
      · by_cases h3 : (dd.length : Int) = size
        · rw [if_pos ⟨h1, h2, h3⟩]
          unfold optS
          simp only [Option.getD_some, Option.isSome_some]
          subst h1; subst h2; subst h3
          go_enter Tryz.func74, Tryz.ntmps74
          go_wp2_with ((go_at_call 82; (with_reducible refine (cD _ (hrt _ (by (repeat (first | with_reducible exact Up.refl _ | with_reducible assumption | with_reducible refine Up.set ?_ (by first | exact Nat.le_refl _ | (simp only []; omega) | (simp; omega)) _ | with_reducible refine Up.alloc ?_ _ | with_reducible refine Up.drew ?_ | refine Up.trans ?_ (by with_reducible assumption)))))).mono ?_); rintro e w1 ⟨rfl, U1⟩; have B1 := bcell U1; have Z1 := U1.size; (try simp at Z1); (try rw [Nat.add_one_le_iff] at Z1)))
          go_ret2
          refine ⟨rfl, ?_⟩
          (repeat (first | with_reducible exact Up.refl _ | with_reducible assumption | with_reducible refine Up.set ?_ (by first | exact Nat.le_refl _ | (simp only []; omega) | (simp; omega)) _ | with_reducible refine Up.alloc ?_ _ | with_reducible refine Up.drew ?_ | refine Up.trans ?_ (by with_reducible assumption)))
        · rw [if_neg (fun h => h3 h.2.2)]
          unfold optS
          simp only [Option.getD_none, Option.isSome_none]
          have hne : ((dd.length : Int) == size) = false := by simpa using h3
          subst h1; subst h2
          clear h3
          go_enter Tryz.func74, Tryz.ntmps74
          go_wp2_with ((go_at_call 82; (with_reducible refine (cD _ (hrt _ (by (repeat (first | with_reducible exact Up.refl _ | with_reducible assumption | with_reducible refine Up.set ?_ (by first | exact Nat.le_refl _ | (simp only []; omega) | (simp; omega)) _ | with_reducible refine Up.alloc ?_ _ | with_reducible refine Up.drew ?_ | refine Up.trans ?_ (by with_reducible assumption)))))).mono ?_); rintro e w1 ⟨rfl, U1⟩; have B1 := bcell U1; have Z1 := U1.size; (try simp at Z1); (try rw [Nat.add_one_le_iff] at Z1)))
          go_ret2
          refine ⟨rfl, ?_⟩
          (repeat (first | with_reducible exact Up.refl _ | with_reducible assumption | with_reducible refine Up.set ?_ (by first | exact Nat.le_refl _ | (simp only []; omega) | (simp; omega)) _ | with_reducible refine Up.alloc ?_ _ | with_reducible refine Up.drew ?_ | refine Up.trans ?_ (by with_reducible assumption)))
      · rw [if_neg (fun h => h2 h.2.1)]
        unfold optS
        simp only [Option.getD_none, Option.isSome_none]
        have hne : ((uu : Int) == (body.size : Int)) = false := by simp; omega
        subst h1
        clear h2
        go_enter Tryz.func74, Tryz.ntmps74
        go_wp2_with ((go_at_call 82; (with_reducible refine (cD _ (hrt _ (by (repeat (first | with_reducible exact Up.refl _ | with_reducible assumption | with_reducible refine Up.set ?_ (by first | exact Nat.le_refl _ | (simp only []; omega) | (simp; omega)) _ | with_reducible refine Up.alloc ?_ _ | with_reducible refine Up.drew ?_ | refine Up.trans ?_ (by with_reducible assumption)))))).mono ?_); rintro e w1 ⟨rfl, U1⟩; have B1 := bcell U1; have Z1 := U1.size; (try simp at Z1); (try rw [Nat.add_one_le_iff] at Z1)))
        go_ret2
        refine ⟨rfl, ?_⟩
        (repeat (first | with_reducible exact Up.refl _ | with_reducible assumption | with_reducible refine Up.set ?_ (by first | exact Nat.le_refl _ | (simp only []; omega) | (simp; omega)) _ | with_reducible refine Up.alloc ?_ _ | with_reducible refine Up.drew ?_ | refine Up.trans ?_ (by with_reducible assumption)))
    · rw [if_neg (fun h => h1 h.1)]
      unfold optS
      simp only [Option.getD_none, Option.isSome_none]
      go_enter Tryz.func74, Tryz.ntmps74
      go_wp2_with ((go_at_call 82; (with_reducible refine (cD _ (hrt _ (by (repeat (first | with_reducible exact Up.refl _ | with_reducible assumption | with_reducible refine Up.set ?_ (by first | exact Nat.le_refl _ | (simp only []; omega) | (simp; omega)) _ | with_reducible refine Up.alloc ?_ _ | with_reducible refine Up.drew ?_ | refine Up.trans ?_ (by with_reducible assumption)))))).mono ?_); rintro e w1 ⟨rfl, U1⟩; have B1 := bcell U1; have Z1 := U1.size; (try simp at Z1); (try rw [Nat.add_one_le_iff] at Z1)))
      go_ret2
      refine ⟨rfl, ?_⟩
      (repeat (first | with_reducible exact Up.refl _ | with_reducible assumption | with_reducible refine Up.set ?_ (by first | exact Nat.le_refl _ | (simp only []; omega) | (simp; omega)) _ | with_reducible refine Up.alloc ?_ _ | with_reducible refine Up.drew ?_ | refine Up.trans ?_ (by with_reducible assumption)))
  · simp only [if_true]
    unfold optS
    simp only [Option.getD_some, Option.isSome_some, bs_self]
    obtain ⟨a, cap, rfl, -, -, -, -⟩ := hr
    clear cD h hv
    simp only [kV, blkV] at *
    go_enter Tryz.func74, Tryz.ntmps74
    go_wp2
    go_ret2
    refine ⟨rfl, ?_⟩
    (repeat (first | with_reducible exact Up.refl _ | with_reducible assumption | with_reducible refine Up.set ?_ (by first | exact Nat.le_refl _ | (simp only []; omega) | (simp; omega)) _ | with_reducible refine Up.alloc ?_ _ | with_reducible refine Up.drew ?_ | refine Up.trans ?_ (by with_reducible assumption)))

end Go.Proofs.YtekbbnkkninolaaGreat

/- Walk of the program's ReadIndexed. Conditions: the places can be read; the strings are no longer than 2^30 bytes. -/
namespace Go.Proofs.YtekbbnkkninolaaGreat
set_option linter.unusedVariables false
set_option linter.unusedSimpArgs false
open Go Go.RowKit

structure NiAt (T : Option (List UInt8)) (k : KnD) (vk : Value) (st : ByteArray) (ps : List PlaceD) (to z : Int) (w0 w : World) (i m : Nat) (acc : List UInt8) (wr : World) : Prop where
  fu : i + m = ps.length
  tot : addO acc (needN (datK k) st ps to m i (z + acc.length)) = T
  al : acc.length ≤ 64 * i
  kn : KnAt w.heap.size k vk wr
  up : Up w wr
def RelNi (T : Option (List UInt8)) (k : KnD) (vk : Value) (st : ByteArray) (ps : List PlaceD) (to z : Int) (w0 w : World) (x o : Value) (wr : World) : Prop := ∃ (i m : Nat) (acc : List UInt8), x = .int .i64 i ∧ o = .string (bs acc) ∧ NiAt T k vk st ps to z w0 w i m acc wr

set_option maxRecDepth 100000 in
set_option maxHeartbeats 8000000 in
theorem idxI_any (s : SetD) (dict st : ByteArray) (ps : List PlaceD) (v : Value) (base : Nat) (f t : Int) (w : World) (hli : -9223372036854775808 ≤ s.lit ∧ s.lit ≤ 9223372036854775807) (hi : dict.size ≤ 1073741824) (hs : st.size ≤ 1073741824) (hown : w.ownsRow base 76 2 v ps.length (cellsP ps)) (hl : ps.length ≤ 1048576) :
    Calls Tryz.prog 25  #[setV s, .string dict, .string st, v, .int .i64 f, .int .i64 t] w (Same (optS (idxO (dataO s dict.data.toList) (fitsB s dict.data.toList) st ps f t)) w) := by
  have cS := fun wx => startWI_any s dict wx hli hi
  have cV := fun wx h => validI_any ps v base wx h hl
  have hrow := fun (wq : World) (hu : Up w wq) => ownsRow_up hown hu
  have cK := fun wx h => seekI_any ps v base f wx h hl
  obtain ⟨a, ca, rfl, hm, hsome⟩ := ownsRow_any hown
  clear hown
  cases h1 : fitsB s dict.data.toList
  · have HN : Hid (idxO (dataO s dict.data.toList) false st ps f t = none) := rfl
    rw [h1] at cS
    simp only [Bool.false_eq_true, if_false] at cS
    rw [HN.out]
    clear h1 hsome
    simp only [setV] at *
    go_enter Tryz.func25, Tryz.ntmps25
    go_wp2_with (((go_at_call 64; (with_reducible refine (cS _).mono ?_); rintro e w1 ⟨rfl, U1⟩; have B1 := bcell U1; have Z1 := U1.size; (try simp at Z1); (try rw [Nat.add_one_le_iff] at Z1)); (try have Y1a : w.heap.size < w1.heap.size := (by omega)); (try have Y1b : w.heap.size + 1 < w1.heap.size := (by omega)); (try have Y1c : w.heap.size + 1 + 1 < w1.heap.size := (by omega)); (try have Y1d : w.heap.size + 1 + 1 + 1 < w1.heap.size := (by omega)); skip))
    go_ret2
    refine ⟨rfl, ?_⟩
    (repeat (first | with_reducible exact Up.refl _ | with_reducible assumption | with_reducible refine Up.set ?_ (by first | exact Nat.le_refl _ | (simp only []; omega) | (simp; omega)) _ | with_reducible refine Up.alloc ?_ _ | with_reducible refine Up.drew ?_ | refine Up.trans ?_ (by with_reducible assumption)))
  rw [h1] at cS
  simp only [if_true] at cS
  obtain ⟨f1, f2, f3⟩ := fitsB_lits h1
  have hok : (learnK (startK s) dict.data.toList).Ok := learnK_ok (startK_ok f1) f3
  have hdat : dataO s dict.data.toList = datK (learnK (startK s) dict.data.toList) := funext fun b => datK_eq h1 b
  have hbdd := fun (b : BlkD) (x : List UInt8) (h : datK (learnK (startK s) dict.data.toList) b = some x) (h4 : b.size ≤ 64) (h5 : b.body.size ≤ 64) => dataO_bd (s := s) (dict := dict.data.toList) (by rw [datK_eq h1]; exact h) h4 h5
  rw [hdat]
  have cD := fun v b wx hr hs => blockDataI_any (learnK (startK s) dict.data.toList) v 0 b wx hok (fun _ => rfl) hr hs
  clear f1 f2 f3 hok hdat h1
  generalize learnK (startK s) dict.data.toList = kk at *
  cases h2 : validP ps
  · have HN : Hid (idxO (datK kk) true st ps f t = none) := by unfold Hid idxO idxOk; rw [h2]; rfl
    rw [h2] at cV
    rw [HN.out]
    clear h2 hsome
    simp only [setV, kV] at *
    go_enter Tryz.func25, Tryz.ntmps25
    go_wp2_with (first | (go_at_call 64; (with_reducible refine (cS _).mono ?_); rintro e w1 ⟨v1, rfl, ho1, U1⟩; have B1 := bcell U1; have Z1 := U1.size; simp at Z1; (try rw [Nat.add_one_le_iff] at Z1); obtain ⟨a1, c1, rfl⟩ := ownsRow_shape ho1; clear ho1) | ((go_at_call 71; (with_reducible refine (cV _ (hrow _ (by (repeat (first | with_reducible exact Up.refl _ | with_reducible assumption | with_reducible refine Up.set ?_ (by first | exact Nat.le_refl _ | (simp only []; omega) | (simp; omega)) _ | with_reducible refine Up.alloc ?_ _ | with_reducible refine Up.drew ?_ | refine Up.trans ?_ (by with_reducible assumption)))))).mono ?_); rintro e w2 ⟨rfl, U2⟩; have B2 := bcell U2; have Z2 := U2.size; (try simp at Z2); (try rw [Nat.add_one_le_iff] at Z2)); (try have Y2a : w.heap.size < w2.heap.size := (by omega)); (try have Y2b : w.heap.size + 1 < w2.heap.size := (by omega)); (try have Y2c : w.heap.size + 1 + 1 < w2.heap.size := (by omega)); (try have Y2d : w.heap.size + 1 + 1 + 1 < w2.heap.size := (by omega)); skip))
    go_ret2
    refine ⟨rfl, ?_⟩
    (repeat (first | with_reducible exact Up.refl _ | with_reducible assumption | with_reducible refine Up.set ?_ (by first | exact Nat.le_refl _ | (simp only []; omega) | (simp; omega)) _ | with_reducible refine Up.alloc ?_ _ | with_reducible refine Up.drew ?_ | refine Up.trans ?_ (by with_reducible assumption)))
  obtain ⟨hl40, hpl⟩ := validP_at h2
  rw [h2] at cV
  have HSK : Hid (seekV ps f = seekK ps f ps.length) := by unfold Hid seekV; rw [h2]; rfl
  rw [HSK.out] at cK
  by_cases h3 : 4000 < st.size ∨ f < 0 ∨ t < f ∨ 2000 < t
  · have HN : Hid (idxO (datK kk) true st ps f t = none) := by
      unfold Hid idxO idxOk
      have : (decide (st.size ≤ 4000) && (inB f 0 t && inB t 0 2000)) = false := by
        rcases h3 with h | h | h | h
        · rw [show decide (st.size ≤ 4000) = false by simp; omega]; rfl
        · rw [inB_not.2 (Or.inl h)]; simp
        · rw [inB_not.2 (Or.inr h)]; simp
        · rw [inB_not.2 (Or.inr h)]; simp
      rw [this]; simp
    rw [HN.out]
    clear h2 hsome hpl
    simp only [setV, kV] at *
    have h4 : 4000 < st.size ∨ (st.size ≤ 4000 ∧ f < 0) ∨ (st.size ≤ 4000 ∧ 0 ≤ f ∧ t < f) ∨ (st.size ≤ 4000 ∧ 0 ≤ f ∧ f ≤ t ∧ 2000 < t) := by omega
    clear h3
    rcases h4 with h | ⟨ha, h⟩ | ⟨ha, hb, h⟩ | ⟨ha, hb, hc, h⟩
    all_goals
      go_enter Tryz.func25, Tryz.ntmps25
      go_wp2_with (first | (go_at_call 64; (with_reducible refine (cS _).mono ?_); rintro e w1 ⟨v1, rfl, ho1, U1⟩; have B1 := bcell U1; have Z1 := U1.size; simp at Z1; (try rw [Nat.add_one_le_iff] at Z1); obtain ⟨a1, c1, rfl⟩ := ownsRow_shape ho1; clear ho1) | ((go_at_call 71; (with_reducible refine (cV _ (hrow _ (by (repeat (first | with_reducible exact Up.refl _ | with_reducible assumption | with_reducible refine Up.set ?_ (by first | exact Nat.le_refl _ | (simp only []; omega) | (simp; omega)) _ | with_reducible refine Up.alloc ?_ _ | with_reducible refine Up.drew ?_ | refine Up.trans ?_ (by with_reducible assumption)))))).mono ?_); rintro e w2 ⟨rfl, U2⟩; have B2 := bcell U2; have Z2 := U2.size; (try simp at Z2); (try rw [Nat.add_one_le_iff] at Z2)); (try have Y2a : w.heap.size < w2.heap.size := (by omega)); (try have Y2b : w.heap.size + 1 < w2.heap.size := (by omega)); (try have Y2c : w.heap.size + 1 + 1 < w2.heap.size := (by omega)); (try have Y2d : w.heap.size + 1 + 1 + 1 < w2.heap.size := (by omega)); skip))
      go_ret2
      refine ⟨rfl, ?_⟩
      (repeat (first | with_reducible exact Up.refl _ | with_reducible assumption | with_reducible refine Up.set ?_ (by first | exact Nat.le_refl _ | (simp only []; omega) | (simp; omega)) _ | with_reducible refine Up.alloc ?_ _ | with_reducible refine Up.drew ?_ | refine Up.trans ?_ (by with_reducible assumption)))
  obtain ⟨h3, f0, f1, t1⟩ : st.size ≤ 4000 ∧ 0 ≤ f ∧ f ≤ t ∧ t ≤ 2000 := by omega
  have HN : Hid (idxO (datK kk) true st ps f t = idxR (datK kk) st ps f t) := by
    unfold Hid idxO idxOk
    rw [h2, inB_iff.2 ⟨f0, f1⟩, inB_iff.2 ⟨by omega, t1⟩, decide_eq_true h3]; rfl
  rw [HN.out]
  clear h2 HN
  unfold idxR
  by_cases h6 : f = t
  · rw [if_pos h6]
    clear hsome hpl
    subst h6
    simp only [setV, kV] at *
    go_enter Tryz.func25, Tryz.ntmps25
    go_wp2_with (first | (go_at_call 64; (with_reducible refine (cS _).mono ?_); rintro e w1 ⟨v1, rfl, ho1, U1⟩; have B1 := bcell U1; have Z1 := U1.size; simp at Z1; (try rw [Nat.add_one_le_iff] at Z1); obtain ⟨a1, c1, rfl⟩ := ownsRow_shape ho1; clear ho1) | ((go_at_call 71; (with_reducible refine (cV _ (hrow _ (by (repeat (first | with_reducible exact Up.refl _ | with_reducible assumption | with_reducible refine Up.set ?_ (by first | exact Nat.le_refl _ | (simp only []; omega) | (simp; omega)) _ | with_reducible refine Up.alloc ?_ _ | with_reducible refine Up.drew ?_ | refine Up.trans ?_ (by with_reducible assumption)))))).mono ?_); rintro e w2 ⟨rfl, U2⟩; have B2 := bcell U2; have Z2 := U2.size; (try simp at Z2); (try rw [Nat.add_one_le_iff] at Z2)); (try have Y2a : w.heap.size < w2.heap.size := (by omega)); (try have Y2b : w.heap.size + 1 < w2.heap.size := (by omega)); (try have Y2c : w.heap.size + 1 + 1 < w2.heap.size := (by omega)); (try have Y2d : w.heap.size + 1 + 1 + 1 < w2.heap.size := (by omega)); skip))
    go_ret2
    refine ⟨rfl, ?_⟩
    (repeat (first | with_reducible exact Up.refl _ | with_reducible assumption | with_reducible refine Up.set ?_ (by first | exact Nat.le_refl _ | (simp only []; omega) | (simp; omega)) _ | with_reducible refine Up.alloc ?_ _ | with_reducible refine Up.drew ?_ | refine Up.trans ?_ (by with_reducible assumption)))
  rw [if_neg h6]
  rcases seekK_lt (ps := ps) (o := f) ps.length (Nat.le_refl _) with h7 | ⟨j, j1, -, j3, j4⟩
  · rw [h7, if_pos (by omega)]
    rw [h7] at cK
    clear hsome hpl
    simp only [setV, kV] at *
    go_enter Tryz.func25, Tryz.ntmps25
    go_wp2_with (first | (go_at_call 64; (with_reducible refine (cS _).mono ?_); rintro e w1 ⟨v1, rfl, ho1, U1⟩; have B1 := bcell U1; have Z1 := U1.size; simp at Z1; (try rw [Nat.add_one_le_iff] at Z1); obtain ⟨a1, c1, rfl⟩ := ownsRow_shape ho1; clear ho1) | ((go_at_call 71; (with_reducible refine (cV _ (hrow _ (by (repeat (first | with_reducible exact Up.refl _ | with_reducible assumption | with_reducible refine Up.set ?_ (by first | exact Nat.le_refl _ | (simp only []; omega) | (simp; omega)) _ | with_reducible refine Up.alloc ?_ _ | with_reducible refine Up.drew ?_ | refine Up.trans ?_ (by with_reducible assumption)))))).mono ?_); rintro e w2 ⟨rfl, U2⟩; have B2 := bcell U2; have Z2 := U2.size; (try simp at Z2); (try rw [Nat.add_one_le_iff] at Z2)); (try have Y2a : w.heap.size < w2.heap.size := (by omega)); (try have Y2b : w.heap.size + 1 < w2.heap.size := (by omega)); (try have Y2c : w.heap.size + 1 + 1 < w2.heap.size := (by omega)); (try have Y2d : w.heap.size + 1 + 1 + 1 < w2.heap.size := (by omega)); skip) | ((go_at_call 72; (with_reducible refine (cK _ (hrow _ (by (repeat (first | with_reducible exact Up.refl _ | with_reducible assumption | with_reducible refine Up.set ?_ (by first | exact Nat.le_refl _ | (simp only []; omega) | (simp; omega)) _ | with_reducible refine Up.alloc ?_ _ | with_reducible refine Up.drew ?_ | refine Up.trans ?_ (by with_reducible assumption)))))).mono ?_); rintro e w3 ⟨rfl, U3⟩; have B3 := bcell U3; have Z3 := U3.size; (try simp at Z3); (try rw [Nat.add_one_le_iff] at Z3)); (try have Y3a : w.heap.size < w3.heap.size := (by omega)); (try have Y3b : w.heap.size + 1 < w3.heap.size := (by omega)); (try have Y3c : w.heap.size + 1 + 1 < w3.heap.size := (by omega)); (try have Y3d : w.heap.size + 1 + 1 + 1 < w3.heap.size := (by omega)); skip))
    go_ret2
    refine ⟨rfl, ?_⟩
    (repeat (first | with_reducible exact Up.refl _ | with_reducible assumption | with_reducible refine Up.set ?_ (by first | exact Nat.le_refl _ | (simp only []; omega) | (simp; omega)) _ | with_reducible refine Up.alloc ?_ _ | with_reducible refine Up.drew ?_ | refine Up.trans ?_ (by with_reducible assumption)))
  rw [j3, if_neg (by omega), Int.toNat_natCast]
  rw [j3] at cK
  have hgd : ps.getD j ⟨0, 0⟩ = ps[j] := by rw [List.getD_eq_getElem?_getD, List.getElem?_eq_getElem j1]; rfl
  rw [hgd]
  obtain ⟨g, rfl, hnc, hcm, -, hg, hcells⟩ := hsome (by omega)
  have HC : Hid (∀ i (hi : i < ps.length), w.cell? ⟨g, i * 2, none⟩ = some (.int .i64 (ps[i]).place) ∧ w.cell? ⟨g, i * 2 + 1, none⟩ = some (.int .i64 (ps[i]).start)) := fun i hi => plc_cells hcells (List.getElem?_eq_getElem hi)
  obtain ⟨x0, x1⟩ := HC.out j j1
  obtain ⟨-, -, q3, q4⟩ := hpl j j1
  have HPL := Lib.hid hpl
  unfold fromN
  unfold maxLen at hcm
  obtain ⟨T, HT⟩ : ∃ T, Hid (needN (datK kk) st ps t (ps.length - j) j (ps[j]).start = T) := ⟨_, Lib.hid rfl⟩
  have HGE : Hid (∀ d, T = some d → t ≤ (ps[j]).start + d.length) := fun d h => need_ge (ps.length - j) j (ps[j]).start d (HT.out.trans h)
  rw [HT.out]
  clear hcells hsome hpl j3 hgd HSK hm
  generalize (ps[j]).start = z at *
  generalize (ps[j]).place = pl at *
  simp only [setV, kV] at *
  go_enter Tryz.func25, Tryz.ntmps25
  go_wp2_with (first | (go_at_call 64; (with_reducible refine (cS _).mono ?_); rintro e w1 ⟨v1, rfl, ho1, U1⟩; have B1 := bcell U1; have Z1 := U1.size; simp at Z1; (try rw [Nat.add_one_le_iff] at Z1); have HR1 := Lib.hid ((RdP.of_own ho1).low (Nat.zero_le _)); obtain ⟨a1, c1, rfl⟩ := ownsRow_shape ho1; clear ho1; have hg1 : g < w1.heap.size := (by omega)) | (((go_at_call 71; (with_reducible refine (cV _ (hrow _ (by (repeat (first | with_reducible exact Up.refl _ | with_reducible assumption | with_reducible refine Up.set ?_ (by first | exact Nat.le_refl _ | (simp only []; omega) | (simp; omega)) _ | with_reducible refine Up.alloc ?_ _ | with_reducible refine Up.drew ?_ | refine Up.trans ?_ (by with_reducible assumption)))))).mono ?_); rintro e w2 ⟨rfl, U2⟩; have B2 := bcell U2; have Z2 := U2.size; (try simp at Z2); (try rw [Nat.add_one_le_iff] at Z2)); (try have Y2a : w.heap.size < w2.heap.size := (by omega)); (try have Y2b : w.heap.size + 1 < w2.heap.size := (by omega)); (try have Y2c : w.heap.size + 1 + 1 < w2.heap.size := (by omega)); (try have Y2d : w.heap.size + 1 + 1 + 1 < w2.heap.size := (by omega)); skip); have hg2 : g < w2.heap.size := (by omega); have Y2 : w1.heap.size < w2.heap.size := (by omega)) | (((go_at_call 72; (with_reducible refine (cK _ (hrow _ (by (repeat (first | with_reducible exact Up.refl _ | with_reducible assumption | with_reducible refine Up.set ?_ (by first | exact Nat.le_refl _ | (simp only []; omega) | (simp; omega)) _ | with_reducible refine Up.alloc ?_ _ | with_reducible refine Up.drew ?_ | refine Up.trans ?_ (by with_reducible assumption)))))).mono ?_); rintro e w3 ⟨rfl, U3⟩; have B3 := bcell U3; have Z3 := U3.size; (try simp at Z3); (try rw [Nat.add_one_le_iff] at Z3)); (try have Y3a : w.heap.size < w3.heap.size := (by omega)); (try have Y3b : w.heap.size + 1 < w3.heap.size := (by omega)); (try have Y3c : w.heap.size + 1 + 1 < w3.heap.size := (by omega)); (try have Y3d : w.heap.size + 1 + 1 + 1 < w3.heap.size := (by omega)); skip); have hg3 : g < w3.heap.size := (by omega); have Y3 : w1.heap.size < w3.heap.size := (by omega); have hU3 : Up w w3 := (by (repeat (first | with_reducible exact Up.refl _ | with_reducible assumption | with_reducible refine Up.set ?_ (by first | exact Nat.le_refl _ | (simp only []; omega) | (simp; omega)) _ | with_reducible refine Up.alloc ?_ _ | with_reducible refine Up.drew ?_ | refine Up.trans ?_ (by with_reducible assumption)))); have x3 := (hU3.cell (p := ⟨g, j * 2 + 1, none⟩) hg).trans x1))
  have hK3 : KnAt w1.heap.size kk (.slice a1 kk.ps.length c1) w3 := box_up U3 (box_up U2 (MapKept.heap_alloc w1 _).1)
  have HU13 : Hid (Up w1 w3) := by clear hU3; (repeat (first | with_reducible exact Up.refl _ | with_reducible assumption | with_reducible refine Up.set ?_ (by first | exact Nat.le_refl _ | (simp only []; omega) | (simp; omega)) _ | with_reducible refine Up.alloc ?_ _ | with_reducible refine Up.drew ?_ | refine Up.trans ?_ (by with_reducible assumption)))
  go_loopw [16, 18] (fun x o wr => RelNi T kk (.slice a1 kk.ps.length c1) st ps t z w w1 x o wr) (fun x _ _ => ps.length - (intOf x).toNat)
  case atStart => exact ⟨j, ps.length - j, [], rfl, rfl, ⟨by omega, by rw [addO_nil]; simpa using HT.out, by simp, hK3, HU13.out⟩⟩
  case round =>
    obtain ⟨i, m, acc, rfl, rfl, hM⟩ := hrel
    have HM := Lib.hid hM
    have hfu := hM.fu
    have hal := hM.al
    have hza := bs_size acc
    obtain ⟨hb0, r0, r1, r2, r3, r4, r5⟩ := hM.kn.cells
    have hup : Up w wr := Up.trans (by (repeat (first | with_reducible exact Up.refl _ | with_reducible assumption | with_reducible refine Up.set ?_ (by first | exact Nat.le_refl _ | (simp only []; omega) | (simp; omega)) _ | with_reducible refine Up.alloc ?_ _ | with_reducible refine Up.drew ?_ | refine Up.trans ?_ (by with_reducible assumption)))) hM.up
    have HUW := Lib.hid hup
    have hup1 := hM.up
    clear hM hK3 x3 x0 x1 B1 B2 B3 U2 U3 hU3
    by_cases hlt : z + acc.length < t
    · by_cases hkl : i < ps.length
      · obtain ⟨x0, x1⟩ := HC.out i hkl
        have c0 := (hup.cell (p := ⟨g, i * 2, none⟩) hg).trans x0
        have c1' := (hup.cell (p := ⟨g, i * 2 + 1, none⟩) hg).trans x1
        have hgr := Nat.lt_of_lt_of_le hg hup.size
        obtain ⟨p1, p2, p3, p4⟩ := HPL.out i hkl
        have hpk : ps[i]? = some ps[i] := List.getElem?_eq_getElem hkl
        have HNO : Hid (blkIdx st ps i (z + acc.length) = none → T = none) := fun h => HM.out.tot.symm.trans (by rw [need_none hlt hkl h]; rfl)
        clear x0 x1
        by_cases hst : (ps[i]).start = z + acc.length
        · have hpn : (((ps[i]).place.toNat : Nat) : Int) = (ps[i]).place := by omega
          have cP := fun wx => parseI_any st ((ps[i]).place.toNat : Nat) wx hs
          rw [hpn] at cP
          cases hp : parseOk st (ps[i]).place.toNat
          · have HTN : Hid (T = none) := HNO.out (blkIdx_not hpk (fun h => by rw [hp] at h; exact absurd h.2.2.1 (by decide)))
            have e := parseV_not hp
            rw [hpn] at e
            rw [e] at cP
            unfold noBlock at cP
            clear hp e hpk HNO
            generalize (ps[i]).place = P at *
            generalize (ps[i]).start = Z at *
            subst hst
            go_wp2_with ((((go_at_call 73; (with_reducible refine (cP _).mono ?_); rintro e w4 ⟨rfl, U4⟩; have B4 := bcell U4; have Z4 := U4.size; (try simp at Z4); (try rw [Nat.add_one_le_iff] at Z4)); (try have Y4a : w.heap.size < w4.heap.size := (by omega)); (try have Y4b : w.heap.size + 1 < w4.heap.size := (by omega)); (try have Y4c : w.heap.size + 1 + 1 < w4.heap.size := (by omega)); (try have Y4d : w.heap.size + 1 + 1 + 1 < w4.heap.size := (by omega)); skip); have Y4 : w1.heap.size < w4.heap.size := (by omega)))
            go_ret2
            refine ⟨by rw [HTN.out]; rfl, ?_⟩
            exact HUW.out.trans (by (repeat (first | with_reducible exact Up.refl _ | with_reducible assumption | with_reducible refine Up.set ?_ (by first | exact Nat.le_refl _ | (simp only []; omega) | (simp; omega)) _ | with_reducible refine Up.alloc ?_ _ | with_reducible refine Up.drew ?_ | refine Up.trans ?_ (by with_reducible assumption))))
          · have hb := parse_bd hp
            have e := parseV_yes hp
            rw [hpn, parsed_blk] at e
            rw [e] at cP
            have hbi := fun (hn : numAt st ((ps[i]).place.toNat + 2) = i) => blkIdx_yes (st := st) (at' := z + acc.length) hpk ⟨hst, p1, hp, hn⟩
            have hbn := fun (hn : numAt st ((ps[i]).place.toNat + 2) ≠ i) => HNO.out (blkIdx_not (at' := z + acc.length) hpk (fun h => hn h.2.2.2))
            have hnum : (blkAt st (ps[i]).place.toNat).num = numAt st ((ps[i]).place.toNat + 2) := rfl
            clear hp e hpk HNO hpn
            rw [← hnum] at hbi hbn
            generalize endAt st (ps[i]).place.toNat + 2 = en at *
            generalize blkAt st (ps[i]).place.toNat = b at *
            generalize (ps[i]).place = P at *
            generalize (ps[i]).start = Z at *
            subst hst
            clear hnum
            by_cases hn : b.num = i
            · have hbi2 := hbi hn
              have cD2 := fun wx hr => cD (.slice a1 kk.ps.length c1) b wx hr (by omega)
              have hrt := fun (wq : World) (hu : Up wr wq) => HR1.out.up (hup1.trans hu)
              obtain ⟨m, rfl⟩ : ∃ q, m = q + 1 := ⟨m - 1, by omega⟩
              cases hdo : datK kk b with
              | none =>
                have HTN : Hid (T = none) := HM.out.tot.symm.trans (by rw [need_bad hlt hbi2 hdo]; rfl)
                rw [hdo] at cD2
                clear hdo hbi hbn hbi2 cD
                obtain ⟨bn, br, bz, bb⟩ := b
                simp only at hn
                subst hn
                unfold optS at cD2
                simp only [blkV, Option.getD_none, Option.isSome_none] at cD2 cP
                go_wp2_with (first | (((go_at_call 73; (with_reducible refine (cP _).mono ?_); rintro e w4 ⟨rfl, U4⟩; have B4 := bcell U4; have Z4 := U4.size; (try simp at Z4); (try rw [Nat.add_one_le_iff] at Z4)); (try have Y4a : w.heap.size < w4.heap.size := (by omega)); (try have Y4b : w.heap.size + 1 < w4.heap.size := (by omega)); (try have Y4c : w.heap.size + 1 + 1 < w4.heap.size := (by omega)); (try have Y4d : w.heap.size + 1 + 1 + 1 < w4.heap.size := (by omega)); skip); have Y4 : w1.heap.size < w4.heap.size := (by omega)) | (((go_at_call 74; (with_reducible refine (cD2 _ (hrt _ (by (repeat (first | with_reducible exact Up.refl _ | with_reducible assumption | with_reducible refine Up.set ?_ (by first | exact Nat.le_refl _ | (simp only []; omega) | (simp; omega)) _ | with_reducible refine Up.alloc ?_ _ | with_reducible refine Up.drew ?_ | refine Up.trans ?_ (by with_reducible assumption)))))).mono ?_); rintro e w5 ⟨rfl, U5⟩; have B5 := bcell U5; have Z5 := U5.size; (try simp at Z5); (try rw [Nat.add_one_le_iff] at Z5)); (try have Y5a : w.heap.size < w5.heap.size := (by omega)); (try have Y5b : w.heap.size + 1 < w5.heap.size := (by omega)); (try have Y5c : w.heap.size + 1 + 1 < w5.heap.size := (by omega)); (try have Y5d : w.heap.size + 1 + 1 + 1 < w5.heap.size := (by omega)); skip); have Y5 : w1.heap.size < w5.heap.size := (by omega)))
                go_ret2
                refine ⟨by rw [HTN.out]; rfl, ?_⟩
                exact HUW.out.trans (by (repeat (first | with_reducible exact Up.refl _ | with_reducible assumption | with_reducible refine Up.set ?_ (by first | exact Nat.le_refl _ | (simp only []; omega) | (simp; omega)) _ | with_reducible refine Up.alloc ?_ _ | with_reducible refine Up.drew ?_ | refine Up.trans ?_ (by with_reducible assumption))))
              | some x =>
                have hxl := hbdd b x hdo hb.2.1 hb.2.2
                have hzx := bs_size x
                have HTN : Hid (addO (acc ++ x) (needN (datK kk) st ps t m (i + 1) (z + (acc ++ x).length)) = T) := by
                  unfold Hid
                  rw [List.length_append, Int.natCast_add, ← Int.add_assoc]
                  exact (need_addO acc hlt hbi2 hdo).symm.trans HM.out.tot
                rw [hdo] at cD2
                clear hdo hbi hbn hbi2 cD hbdd
                obtain ⟨bn, br, bz, bb⟩ := b
                simp only at hn
                subst hn
                unfold optS at cD2
                simp only [blkV, Option.getD_some, Option.isSome_some] at cD2 cP
                go_wp2_with (first | (((go_at_call 73; (with_reducible refine (cP _).mono ?_); rintro e w4 ⟨rfl, U4⟩; have B4 := bcell U4; have Z4 := U4.size; (try simp at Z4); (try rw [Nat.add_one_le_iff] at Z4)); (try have Y4a : w.heap.size < w4.heap.size := (by omega)); (try have Y4b : w.heap.size + 1 < w4.heap.size := (by omega)); (try have Y4c : w.heap.size + 1 + 1 < w4.heap.size := (by omega)); (try have Y4d : w.heap.size + 1 + 1 + 1 < w4.heap.size := (by omega)); skip); have Y4 : w1.heap.size < w4.heap.size := (by omega)) | (((go_at_call 74; (with_reducible refine (cD2 _ (hrt _ (by (repeat (first | with_reducible exact Up.refl _ | with_reducible assumption | with_reducible refine Up.set ?_ (by first | exact Nat.le_refl _ | (simp only []; omega) | (simp; omega)) _ | with_reducible refine Up.alloc ?_ _ | with_reducible refine Up.drew ?_ | refine Up.trans ?_ (by with_reducible assumption)))))).mono ?_); rintro e w5 ⟨rfl, U5⟩; have B5 := bcell U5; have Z5 := U5.size; (try simp at Z5); (try rw [Nat.add_one_le_iff] at Z5)); (try have Y5a : w.heap.size < w5.heap.size := (by omega)); (try have Y5b : w.heap.size + 1 < w5.heap.size := (by omega)); (try have Y5c : w.heap.size + 1 + 1 < w5.heap.size := (by omega)); (try have Y5d : w.heap.size + 1 + 1 + 1 < w5.heap.size := (by omega)); skip); have Y5 : w1.heap.size < w5.heap.size := (by omega)))
                go_roundw
                case rel => exact ⟨i + 1, m, acc ++ x, by go_num, congrArg Value.string (bs_app _ _), ⟨by omega, HTN.out, by rw [List.length_append]; omega, box_up (by (repeat (first | with_reducible exact Up.refl _ | with_reducible assumption | with_reducible refine Up.set ?_ (by first | exact Nat.le_refl _ | (simp only []; omega) | (simp; omega)) _ | with_reducible refine Up.alloc ?_ _ | with_reducible refine Up.drew ?_ | refine Up.trans ?_ (by with_reducible assumption)))) HM.out.kn, HM.out.up.trans (by (repeat (first | with_reducible exact Up.refl _ | with_reducible assumption | with_reducible refine Up.set ?_ (by first | exact Nat.le_refl _ | (simp only []; omega) | (simp; omega)) _ | with_reducible refine Up.alloc ?_ _ | with_reducible refine Up.drew ?_ | refine Up.trans ?_ (by with_reducible assumption))))⟩⟩
                case measure => simp [intOf]; omega
            · have HTN : Hid (T = none) := hbn hn
              clear hbi hbn cD
              obtain ⟨bn, br, bz, bb⟩ := b
              simp only at hn
              simp only [blkV] at cP
              go_wp2_with ((((go_at_call 73; (with_reducible refine (cP _).mono ?_); rintro e w4 ⟨rfl, U4⟩; have B4 := bcell U4; have Z4 := U4.size; (try simp at Z4); (try rw [Nat.add_one_le_iff] at Z4)); (try have Y4a : w.heap.size < w4.heap.size := (by omega)); (try have Y4b : w.heap.size + 1 < w4.heap.size := (by omega)); (try have Y4c : w.heap.size + 1 + 1 < w4.heap.size := (by omega)); (try have Y4d : w.heap.size + 1 + 1 + 1 < w4.heap.size := (by omega)); skip); have Y4 : w1.heap.size < w4.heap.size := (by omega)))
              go_ret2
              refine ⟨by rw [HTN.out]; rfl, ?_⟩
              exact HUW.out.trans (by (repeat (first | with_reducible exact Up.refl _ | with_reducible assumption | with_reducible refine Up.set ?_ (by first | exact Nat.le_refl _ | (simp only []; omega) | (simp; omega)) _ | with_reducible refine Up.alloc ?_ _ | with_reducible refine Up.drew ?_ | refine Up.trans ?_ (by with_reducible assumption))))
        · have HTN : Hid (T = none) := HNO.out (blkIdx_not hpk (fun h => hst h.1))
          clear hpk HNO
          generalize (ps[i]).place = P at *
          generalize (ps[i]).start = Z at *
          have hne : (Z == z + (acc.length : Int)) = false := by simpa using hst
          have hne2 : (Z != z + (acc.length : Int)) = true := by simpa using hst
          have hd2 : decide (ps.length ≤ i) = false := by simpa using hkl
          clear hst
          go_wp2
          go_ret2
          refine ⟨by rw [HTN.out]; rfl, ?_⟩
          exact HUW.out.trans (by (repeat (first | with_reducible exact Up.refl _ | with_reducible assumption | with_reducible refine Up.set ?_ (by first | exact Nat.le_refl _ | (simp only []; omega) | (simp; omega)) _ | with_reducible refine Up.alloc ?_ _ | with_reducible refine Up.drew ?_ | refine Up.trans ?_ (by with_reducible assumption))))
      · have HTN : Hid (T = none) := HM.out.tot.symm.trans (by rw [need_out hlt (by omega)]; rfl)
        have e : i = ps.length := by omega
        go_wp2
        go_ret2
        refine ⟨by rw [HTN.out]; rfl, ?_⟩
        exact HUW.out.trans (by (repeat (first | with_reducible exact Up.refl _ | with_reducible assumption | with_reducible refine Up.set ?_ (by first | exact Nat.le_refl _ | (simp only []; omega) | (simp; omega)) _ | with_reducible refine Up.alloc ?_ _ | with_reducible refine Up.drew ?_ | refine Up.trans ?_ (by with_reducible assumption))))
    · have HTN : Hid (T = some acc) := HM.out.tot.symm.trans (by rw [need_end hlt]; simp [addO])
      have hge := HGE.out acc HTN.out
      have HX : Hid ((bs acc).extract (f - z).toNat (t - z).toNat = bs ((acc.drop (f - z).toNat).take ((t - z).toNat - (f - z).toNat))) := bs_ext _ _ _
      go_wp2
      go_ret2
      refine ⟨by rw [HTN.out, HX.out]; rfl, HUW.out⟩

end Go.Proofs.YtekbbnkkninolaaGreat

/- Walks of the program's blocksData and ContainerData. Conditions: what is known is valid and can be read; the strings are no longer than 2^30 bytes. -/
namespace Go.Proofs.YtekbbnkkninolaaGreat
set_option linter.unusedVariables false
set_option linter.unusedSimpArgs false
open Go Go.RowKit

structure BdAt (T : Option (List UInt8)) (k : KnD) (v : Value) (l : List BlkD) (w : World) (j : Nat) (acc : List UInt8) (wr : World) : Prop where
  le : j ≤ l.length
  tot : addO acc (allF (datK k) (l.drop j)) = T
  al : acc.length ≤ 64 * j
  kn : KnAt w.heap.size k v wr
  sb : IsSb (w.heap.size + 1) (w.heap.size + 1) (Lib.byteCells acc) wr
  up : Up w wr
def RelBd (T : Option (List UInt8)) (k : KnD) (v : Value) (l : List BlkD) (w : World) (i : Value) (wr : World) : Prop := ∃ (j : Nat) (acc : List UInt8), i = .int .i64 j ∧ BdAt T k v l w j acc wr

set_option maxRecDepth 100000 in
set_option maxHeartbeats 8000000 in
theorem blocksDataI_any (k : KnD) (v : Value) (lo : Nat) (l : List BlkD) (vb : Value) (w : World) (h : k.Ok) (hv : k.last = -1 → k.base = k.ps.length) (hr : RdP lo w v k.ps) (hb : RdB w vb l) (hok : accOk l) (hbd : ∀ b ∈ l, ∀ x, datK k b = some x → x.length ≤ 64) :
    Calls Tryz.prog 65  #[kV k v, vb] w (Same (optS (allF (datK k) l)) w) := by
  obtain ⟨i0, hi, hz0, hz1, hz2⟩ := info_parts infoBlock
  have cD := fun b wx hr hs => blockDataI_any k v lo b wx h hv hr hs
  have hrt := fun (wq : World) (hu : Up w wq) => hr.up hu
  have HRD := Lib.hid hb
  have HOK := Lib.hid hok
  have HBD := Lib.hid hbd
  have hl40 := hok.1
  obtain ⟨T, HT⟩ : ∃ T, Hid (allF (datK k) l = T) := ⟨_, rfl⟩
  rw [HT.out]
  obtain ⟨ak, capk, rfl, -, -, -, -⟩ := hr
  obtain ⟨a, cap, rfl, hnc, hcm, -⟩ := hb
  unfold maxLen at hcm
  clear hok hbd h hv
  simp only [kV] at *
  go_enter Tryz.func65, Tryz.ntmps65
  go_wp2
  go_loopw [13] (fun i wr => RelBd T k (.slice ak k.ps.length capk) l w i wr) (fun i _ => l.length - (intOf i).toNat)
  case atStart => exact ⟨0, [], rfl, ⟨Nat.zero_le _, by rw [List.drop_zero, addO_nil]; exact HT.out, by simp, box_up ((Up.refl _).alloc _) (MapKept.heap_alloc w _).1, by simpa using isSb_new (w.alloc _), by (repeat (first | with_reducible exact Up.refl _ | with_reducible assumption | with_reducible refine Up.set ?_ (by first | exact Nat.le_refl _ | (simp only []; omega) | (simp; omega)) _ | with_reducible refine Up.alloc ?_ _ | with_reducible refine Up.drew ?_ | refine Up.trans ?_ (by with_reducible assumption)))⟩⟩
  case round =>
    obtain ⟨j, acc, rfl, hM⟩ := hrel
    have HM := Lib.hid hM
    have hj := hM.le
    have hal := hM.al
    have hsbl := hM.sb.lt
    obtain ⟨hb0, r0, r1, r2, r3, r4, r5⟩ := hM.kn.cells
    clear hM
    by_cases hlt : j < l.length
    · obtain ⟨a9, cap9, e9, -, -, hc9⟩ := HRD.out.low HM.out.up
      cases e9
      obtain ⟨g, rfl, hg, hcell⟩ := hc9 (by omega)
      obtain ⟨c0, c1, c2, c3⟩ := hcell j hlt
      obtain ⟨hb1, hb2, hb3⟩ := HOK.out.2 _ (List.getElem_mem hlt)
      have HST := fun acc x h => @addO_step (datK k) l j hlt acc x h
      have HFA := fun acc h => @addO_fail (datK k) l j hlt acc h
      have hxb := fun x h => HBD.out _ (List.getElem_mem hlt) x h
      have cD2 := fun wx hr => cD (l[j]) wx hr (by omega)
      have hrt2 := fun (wq : World) (hu : Up wr wq) => hrt wq (HM.out.up.trans hu)
      clear hcell cD
      cases hdo : datK k l[j] with
      | none =>
        rw [hdo] at cD2
        have HTN : Hid (T = none) := HM.out.tot.symm.trans (HFA _ hdo)
        clear HST HFA hxb
        clear hdo
        generalize l[j] = bj at *
        obtain ⟨bn, br, bz, bb⟩ := bj
        unfold optS at cD2
        simp only [blkV, Option.getD_none, Option.isSome_none] at c0 c1 c2 c3 cD2
        go_wp2_with ((go_at_call 74; (with_reducible refine (cD2 _ (hrt2 _ (by (repeat (first | with_reducible exact Up.refl _ | with_reducible assumption | with_reducible refine Up.set ?_ (by first | exact Nat.le_refl _ | (simp only []; omega) | (simp; omega)) _ | with_reducible refine Up.alloc ?_ _ | with_reducible refine Up.drew ?_ | refine Up.trans ?_ (by with_reducible assumption)))))).mono ?_); rintro e w1 ⟨rfl, U1⟩; have B1 := bcell U1; have Z1 := U1.size; (try simp at Z1); (try rw [Nat.add_one_le_iff] at Z1)))
        go_ret2
        refine ⟨by rw [HTN.out]; rfl, ?_⟩
        exact HM.out.up.trans (by (repeat (first | with_reducible exact Up.refl _ | with_reducible assumption | with_reducible refine Up.set ?_ (by first | exact Nat.le_refl _ | (simp only []; omega) | (simp; omega)) _ | with_reducible refine Up.alloc ?_ _ | with_reducible refine Up.drew ?_ | refine Up.trans ?_ (by with_reducible assumption))))
      | some x =>
        rw [hdo] at cD2
        have hxl := hxb x hdo
        have hzx := bs_size x
        have HTN : Hid (addO (acc ++ x) (allF (datK k) (l.drop (j + 1))) = T) := (HST _ _ hdo).symm.trans HM.out.tot
        clear HST HFA hxb
        clear hdo
        generalize l[j] = bj at *
        obtain ⟨bn, br, bz, bb⟩ := bj
        unfold optS at cD2
        simp only [blkV, Option.getD_some, Option.isSome_some] at c0 c1 c2 c3 cD2
        have cW := fun wx hx hb => sbWrite_any (w.heap.size + 1) (w.heap.size + 1) (Lib.byteCells acc) (bs x) wx hx (by rw [Lib.byteCells_length]; omega) hb
        go_wp2_with ((go_at_call 74; (with_reducible refine (cD2 _ (hrt2 _ (by (repeat (first | with_reducible exact Up.refl _ | with_reducible assumption | with_reducible refine Up.set ?_ (by first | exact Nat.le_refl _ | (simp only []; omega) | (simp; omega)) _ | with_reducible refine Up.alloc ?_ _ | with_reducible refine Up.drew ?_ | refine Up.trans ?_ (by with_reducible assumption)))))).mono ?_); rintro e w5 ⟨rfl, U5⟩; have B5 := bcell U5; have Z5 := U5.size; (try simp at Z5); (try rw [Nat.add_one_le_iff] at Z5)))
        have hU5 : Up wr w5 := by (repeat (first | with_reducible exact Up.refl _ | with_reducible assumption | with_reducible refine Up.set ?_ (by first | exact Nat.le_refl _ | (simp only []; omega) | (simp; omega)) _ | with_reducible refine Up.alloc ?_ _ | with_reducible refine Up.drew ?_ | refine Up.trans ?_ (by with_reducible assumption)))
        (with_reducible refine (cW _ (HM.out.sb.up hU5) (by have := hU5.size; omega)).mono ?_)
        rintro e w6 ⟨rfl, h6, hb6⟩
        have hU6 : Up w w6 := Below.trans (HM.out.up.trans hU5) (hb6.mono (by omega))
        have HK6 := Lib.hid (show KnAt w.heap.size k (.slice ak k.ps.length capk) w6 from (hb6.block _ (by omega)).trans (HM.out.kn.up hU5))
        have HS6 : Hid (IsSb (w.heap.size + 1) (w.heap.size + 1) (Lib.byteCells (acc ++ x)) w6) := by
          have h7 := h6
          rw [strCells_bs9, byteCells_app] at h7
          exact .inr h7
        clear h6 hb6
        go_wp2
        go_roundw
        case rel => exact ⟨j + 1, acc ++ x, by go_num, ⟨by omega, HTN.out, by rw [List.length_append]; omega, HK6.out, HS6.out, hU6⟩⟩
        case measure => simp [intOf]; omega
    · have HTN : Hid (T = some acc) := HM.out.tot.symm.trans (addO_end (by omega) _)
      have cS := fun wx hx hb => sbString_any (w.heap.size + 1) (w.heap.size + 1) acc wx hx hb
      go_wp2_with fail
      (with_reducible refine (cS _ HM.out.sb (by omega)).mono ?_)
      rintro e w7 ⟨rfl, hb7⟩
      have hU7 : Up w w7 := Below.trans HM.out.up (hb7.mono (by omega))
      go_wp2
      refine bodyPost_ret (v := .tuple #[.string (bs acc), .bool true]) (by simp [results, Tryz.results65, go_sem]; try rfl) rfl ⟨by rw [HTN.out]; rfl, hU7⟩

end Go.Proofs.YtekbbnkkninolaaGreat

/- Walk of the program's ContainerData. Conditions: the strings are no longer than 2^30 bytes. -/
namespace Go.Proofs.YtekbbnkkninolaaGreat
set_option linter.unusedVariables false
set_option linter.unusedSimpArgs false
open Go Go.RowKit

set_option maxRecDepth 100000 in
set_option maxHeartbeats 8000000 in
theorem conI_any (s : SetD) (dict st : ByteArray) (w : World) (hli : -9223372036854775808 ≤ s.lit ∧ s.lit ≤ 9223372036854775807) (hi : dict.size ≤ 1073741824) (hs : st.size ≤ 1073741824) :
    Calls Tryz.prog 19  #[setV s, .string dict, .string st] w (Same (optS (conO s dict.data.toList st)) w) := by
  have cS := fun wx => startWI_any s dict wx hli hi
  cases h1 : fitsB s dict.data.toList
  · have HN : Hid (conO s dict.data.toList st = none) := by unfold Hid conO; rw [h1]; rfl
    rw [h1] at cS
    simp only [Bool.false_eq_true, if_false] at cS
    clear h1
    simp only [setV] at *
    go_enter Tryz.func19, Tryz.ntmps19
    go_wp2_with ((go_at_call 64; (with_reducible refine (cS _).mono ?_); rintro e w1 ⟨rfl, U1⟩; have B1 := bcell U1; have Z1 := U1.size; (try simp at Z1); (try rw [Nat.add_one_le_iff] at Z1)))
    go_ret2
    refine ⟨by rw [HN.out]; rfl, ?_⟩
    (repeat (first | with_reducible exact Up.refl _ | with_reducible assumption | with_reducible refine Up.set ?_ (by first | exact Nat.le_refl _ | (simp only []; omega) | (simp; omega)) _ | with_reducible refine Up.alloc ?_ _ | with_reducible refine Up.drew ?_ | refine Up.trans ?_ (by with_reducible assumption)))
  · rw [h1] at cS
    simp only [if_true] at cS
    obtain ⟨f1, f2, f3⟩ := fitsB_lits h1
    have hok : (learnK (startK s) dict.data.toList).Ok := learnK_ok (startK_ok f1) f3
    cases hc : contBlocks st with
    | none =>
      have HN : Hid (conO s dict.data.toList st = none) := by unfold Hid conO; rw [hc]; split <;> rfl
      have cB := fun wx => contI_none hc hs wx
      clear hc h1 f1 f2 f3 hok
      generalize learnK (startK s) dict.data.toList = kk at *
      simp only [setV, kV] at *
      go_enter Tryz.func19, Tryz.ntmps19
      go_wp2_with (go_at_call 64; (with_reducible refine (cS _).mono ?_); rintro e w1 ⟨v1, rfl, ho1, U1⟩; have B1 := bcell U1; have Z1 := U1.size; simp at Z1; (try rw [Nat.add_one_le_iff] at Z1); have Y0 : w.heap.size < w1.heap.size := (by omega); obtain ⟨a1, c1, rfl⟩ := ownsRow_shape ho1; clear ho1)
      go_wp2_with fail
      (with_reducible refine (cB _).mono ?_); rintro e w2 ⟨v2, rfl, -, U2⟩
      go_wp2
      go_ret2
      refine ⟨by rw [HN.out]; rfl, ?_⟩
      (repeat (first | with_reducible exact Up.refl _ | with_reducible assumption | with_reducible refine Up.set ?_ (by first | exact Nat.le_refl _ | (simp only []; omega) | (simp; omega)) _ | with_reducible refine Up.alloc ?_ _ | with_reducible refine Up.drew ?_ | refine Up.trans ?_ (by with_reducible assumption)))
    | some l =>
      have ho := contBlocks_ok hc
      have HN : Hid (conO s dict.data.toList st = allF (datK (learnK (startK s) dict.data.toList)) l) := by
        unfold Hid conO
        rw [h1, hc, show dataO s dict.data.toList = datK (learnK (startK s) dict.data.toList) from funext fun b => datK_eq h1 b]; rfl
      have hbd : ∀ b ∈ l, ∀ x, datK (learnK (startK s) dict.data.toList) b = some x → x.length ≤ 64 := fun b hb x hx => by
        rw [← datK_eq h1] at hx
        exact dataO_bd hx (ho.2 b hb).2.1 (ho.2 b hb).2.2
      have cB := fun wx => contI_some hc hs wx
      have cA := fun v vb wx hr hb => blocksDataI_any (learnK (startK s) dict.data.toList) v 0 l vb wx hok (fun _ => rfl) hr hb ho hbd
      rw [HN.out]
      clear hc h1 f1 f2 f3 hok HN hbd ho
      generalize learnK (startK s) dict.data.toList = kk at *
      unfold optS at *
      generalize (allF (datK kk) l).isSome = ok at *
      generalize (allF (datK kk) l).getD [] = ad at *
      simp only [setV, kV] at *
      go_enter Tryz.func19, Tryz.ntmps19
      go_wp2_with (go_at_call 64; (with_reducible refine (cS _).mono ?_); rintro e w1 ⟨v1, rfl, ho1, U1⟩; have B1 := bcell U1; have Z1 := U1.size; simp at Z1; (try rw [Nat.add_one_le_iff] at Z1); have Y0 : w.heap.size < w1.heap.size := (by omega); have HR1 := Lib.hid ((RdP.of_own ho1).low (Nat.zero_le _)); obtain ⟨a1, c1, rfl⟩ := ownsRow_shape ho1; clear ho1)
      go_wp2_with fail
      (with_reducible refine (cB _).mono ?_); rintro e w2 ⟨v2, rfl, ho2, U2⟩; have B2 := bcell U2; have Z2 := U2.size; simp at Z2; (try rw [Nat.add_one_le_iff] at Z2); have Y2 : w.heap.size < w2.heap.size := (by omega); have Y3 : w1.heap.size < w2.heap.size := (by omega); have HR2 := Lib.hid (RdB.of_own ho2); obtain ⟨a2, c2, rfl⟩ := ownsRow_shape ho2; clear ho2
      go_wp2_with ((go_at_call 65; (with_reducible refine (cA _ _ _ (HR1.out.up (by (repeat (first | with_reducible exact Up.refl _ | with_reducible assumption | with_reducible refine Up.set ?_ (by first | exact Nat.le_refl _ | (simp only []; omega) | (simp; omega)) _ | with_reducible refine Up.alloc ?_ _ | with_reducible refine Up.drew ?_ | refine Up.trans ?_ (by with_reducible assumption))))) (HR2.out.low (by (repeat (first | with_reducible exact Up.refl _ | with_reducible assumption | with_reducible refine Up.set ?_ (by first | exact Nat.le_refl _ | (simp only []; omega) | (simp; omega)) _ | with_reducible refine Up.alloc ?_ _ | with_reducible refine Up.drew ?_ | refine Up.trans ?_ (by with_reducible assumption)))))).mono ?_); rintro e w3 ⟨rfl, U3⟩; have B3 := bcell U3; have Z3 := U3.size; (try simp at Z3); (try rw [Nat.add_one_le_iff] at Z3)))
      go_ret2
      refine ⟨rfl, ?_⟩
      (repeat (first | with_reducible exact Up.refl _ | with_reducible assumption | with_reducible refine Up.set ?_ (by first | exact Nat.le_refl _ | (simp only []; omega) | (simp; omega)) _ | with_reducible refine Up.alloc ?_ _ | with_reducible refine Up.drew ?_ | refine Up.trans ?_ (by with_reducible assumption)))

end Go.Proofs.YtekbbnkkninolaaGreat

