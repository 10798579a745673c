/- Texts joined into one: the walks and laws that the last text leans on. Conditions: as each says. -/
import Derived.Test.YtgbakgaegldomaaGreatMFnWriterKnownLawX
import Derived.Test.YtgbakgaegldomaaGreatMFnWriterKnownLawU
import Derived.Test.YtgbakgaegldomaaGreatMFnWriterKnownLawR
import Derived.Test.YtgbakgaegldomaaGreatMFnWriterKnownLawK
import Derived.Test.YtgbakgaegldomaaGreatMFnWriterKnownLawO
import Derived.Test.YtgbakgaegldomaaGreatMFnWriterKnownLawC

set_option linter.unusedVariables false
set_option linter.unusedSimpArgs false
/- Plain: which writers are valid; what is written by a valid one is valid (for FnWriteParts, FnWriteBits). Conditions: as each says. -/
namespace Go.Proofs.YtgbakgaegldomaaGreat
open Go Go.RowKit
def KnD.vl (k : KnD) : Prop := k.last = -1 → k.base = k.ps.length
theorem valid_of_ok {k : KnD} (h : k.Ok) (hv : k.vl) : validK k = true := by
  have hb0 := h.base0
  have hb1 := h.base1
  have hln := h.len
  have hc : k.c = clr k.set := rfl
  unfold validK
  simp only [Bool.and_eq_true]
  refine ⟨h.set, ?_, ?_, ?_, ?_⟩
  · unfold roomOk
    rw [decide_eq_true_eq]
    omega
  · refine pairsOk_yes fun j hj => ?_
    have := h.ps j hj
    rw [prOk_get hj] at this
    exact this
  · rw [inB_iff]
    exact ⟨hb0, hb1⟩
  · unfold lastOk
    split
    · next hl => rw [hv hl]; simp
    · next hl =>
      rcases h.last with h | h
      · exact absurd h hl
      · exact h
theorem vl_cleared {k : KnD} (h : k.Ok) : k.cleared.vl := fun _ => by
  have hb0 := h.base0
  have hb1 := h.base1
  show k.base = ((k.ps.take k.base.toNat).length : Int)
  rw [List.length_take]; omega
theorem vl_after {k : KnD} (h : k.Ok) {x : Int} (hf : k.follows x = true) : (k.after x).vl := fun hl => by
  have hl : x = -1 := hl
  have := (KnD.find_bd h hf).1
  omega
theorem wrC_vl : ∀ (n : Nat) (k : KnD) (d : List UInt8), k.Ok → k.vl → (∀ b ∈ d, b.toNat < k.c) → (wrC n k d).2.1.vl := by
  intro n
  induction n with
  | zero => intro k d _ hv _; exact hv
  | succ n ih =>
    intro k d hk hv hl
    by_cases hs : d = [] ∨ k.longest d = d
    · rw [wrC_stop hs]; exact hv
    · have hd0 : d ≠ [] := fun e => hs (.inl e)
      obtain ⟨hf, -⟩ := KnD.find_any hk hd0 hl
      have hak := KnD.after_ok hk hf
      have hl' : ∀ b ∈ d.drop (k.longest d).length, b.toNat < k.c := fun b hb => hl b (List.mem_of_mem_drop hb)
      rw [wrC, if_neg hs]
      split
      · exact ih _ _ (KnD.cleared_ok hak) (vl_cleared hak) hl'
      · exact ih _ _ hak (vl_after hk hf) hl'
theorem KnD.find_word {k : KnD} {d : List UInt8} (hd : d ≠ []) (h : 0 ≤ k.find d) : k.longest d = d := by
  have hW : k.isW d := by
    by_cases hc : d.length = 1 ∧ (d.getD 0 0).toNat < k.c
    · exact .inl hc.1
    · unfold KnD.find at h
      rw [if_neg hc] at h
      split at h
      · next i hi =>
        right
        have h1 := List.find?_some hi
        have h2 := List.mem_of_find?_eq_some hi
        exact ⟨i, List.mem_range.1 h2, by simpa using h1⟩
      · omega
  have h2 := KnD.isW_le hd hW (Nat.le_refl _) List.take_length
  have h3 := KnD.longest_le (k := k) d
  have ht := KnD.longest_take (k := k) d
  rw [show (k.longest d).length = d.length by omega, List.take_length] at ht
  exact ht.symm
theorem KnD.word_find {k : KnD} (hk : k.Ok) {d : List UInt8} (hd : d ≠ []) (hl : ∀ b ∈ d, b.toNat < k.c) (h : k.longest d = d) : 0 ≤ k.find d := by
  obtain ⟨hf, -⟩ := KnD.find_any hk hd hl
  rw [h] at hf
  exact (KnD.find_bd hk hf).1
def wrOk (w : WrD) : Prop := w.k.Ok ∧ w.k.vl ∧ (∀ b ∈ w.pend, b.toNat < w.k.c) ∧ w.pend.length ≤ 2000 ∧ isBits w.bits ∧ w.bits.length ≤ 7 ∧ (w.pend = [] ∨ w.k.longest w.pend = w.pend) ∧ (w.beg = false → w.pend = [] ∧ w.bits = [])
theorem isBits_codes (o : Int) : ∀ (xs : List Int) (k : KnD), isBits (bitsS o k xs) := by
  intro xs
  induction xs with
  | nil => intro k b hb; cases hb
  | cons x xs ih =>
    intro k b hb
    rcases List.mem_append.1 hb with hb | hb
    · have := isBits_packC o [x] [(k.width : Int)]
      simp only [packC, List.append_nil, Int.toNat_natCast] at this
      exact this b hb
    · exact ih (k.thru x) b hb
theorem wrOk_write {w : WrD} {d : List UInt8} (h : wrOk w) (hl : ∀ b ∈ d, b.toNat < w.k.c) (hd : (w.pend ++ d).length ≤ 2000) : wrOk (w.write d).1 ∧ (w.write d).1.k.set = w.k.set ∧ (d ≠ [] → (w.write d).1.beg = true ∧ (w.write d).1.pend ≠ []) ∧ ∃ p, w.pend ++ d = p ++ (w.write d).1.pend := by
  obtain ⟨hk, hv, hp, h2, hb, h7, hw, hn⟩ := h
  by_cases hd0 : d = []
  · subst hd0
    unfold WrD.write
    rw [if_pos rfl]
    exact ⟨⟨hk, hv, hp, h2, hb, h7, hw, hn⟩, rfl, fun h => absurd rfl h, [], by simp⟩
  obtain ⟨hok, hos⟩ := WrD.open_ok hk
  have hoc : w.open.2.c = w.k.c := by unfold KnD.c; rw [hos]
  have hov : w.open.2.vl := by
    unfold WrD.open
    split
    · exact hv
    · exact vl_cleared hk
  have hlo : ∀ x ∈ w.pend ++ d, x.toNat < w.open.2.c := fun x hx => by
    rw [hoc]
    exact (List.mem_append.1 hx).elim (hp x) (hl x)
  obtain ⟨q1, q2, q3, q4, p, q5⟩ := wrC_end (w.pend ++ d).length w.open.2 (w.pend ++ d) (Nat.le_refl _) hok hlo
  have q6 := wrC_vl (w.pend ++ d).length w.open.2 (w.pend ++ d) hok hov hlo
  have hcc : (w.codes d).2.1.c = w.k.c := by unfold KnD.c; rw [show (w.codes d).2.1.set = w.open.2.set from q2, hos]
  have q5' : w.pend ++ d = p ++ (w.codes d).2.2 := q5
  have hob : isBits w.open.1 := by
    unfold WrD.open
    split
    · exact hb
    · intro b hb'
      rcases List.mem_append.1 hb' with h | h
      · exact hb b h
      · have := isBits_packC w.k.set.ord [(w.k.c : Int)] [(w.k.width : Int)]
        simp only [packC, List.append_nil, Int.toNat_natCast] at this
        exact this b h
  have hall : isBits (w.all d) := fun b hb' => by
    rcases List.mem_append.1 hb' with h | h
    · exact hob b h
    · exact isBits_codes _ _ _ b h
  unfold WrD.write
  rw [if_neg hd0]
  refine ⟨⟨q1, q6, fun b hb' => ?_, ?_, fun b hb' => hall b (List.mem_of_mem_drop hb'), ?_, q3, fun h => by cases h⟩, q2.trans hos, fun _ => ⟨rfl, q4 (by simp [hd0])⟩, p, q5'⟩
  · show b.toNat < (w.codes d).2.1.c
    rw [hcc, ← hoc]
    exact hlo b (by rw [q5']; exact List.mem_append_right _ hb')
  · have := congrArg List.length q5'
    have h9 : (p ++ (w.codes d).2.2).length = p.length + (w.codes d).2.2.length := List.length_append
    rw [h9] at this
    show (w.codes d).2.2.length ≤ 2000
    omega
  · show ((w.all d).drop ((w.all d).length / 8 * 8)).length ≤ 7
    rw [List.length_drop]; omega
end Go.Proofs.YtgbakgaegldomaaGreat

/- Walks of the program's functions on bits. Conditions: as each says. -/
namespace Go.Proofs.YtgbakgaegldomaaGreat
open Go Go.RowKit
set_option maxRecDepth 100000 in
set_option maxHeartbeats 1000000 in
theorem placeI_any (o : Int) (i wd : Nat) (w : World) (ho : o = 0 ∨ o = 1) (h : i < wd) (hw : wd ≤ 16) :
    Calls Tryz.prog 102  #[.int .i64 o, .int .i64 i, .int .i64 wd] w (fun e w' => e = .returned (.int .i64 ((2 ^ plc o i wd : Nat) : Int)) ∧ w = w') := by
  rcases ho with rfl | rfl
  · have e : Hid (((2 ^ plc 0 i wd : Nat) : Int) = 2 ^ i) := by unfold Hid plc; simp
    have hp := pow2_small (n := i) (by omega)
    go_enter Tryz.func102, Tryz.ntmps102
    go_wp2
    go_ret
    refine ⟨ret_int (by first | (rw [e.out]; done) | (rw [e.out, IntWalk.wrap64_in _ (by omega)])), rfl⟩
  · obtain ⟨m, rfl⟩ : ∃ m, wd = i + 1 + m := ⟨wd - 1 - i, by omega⟩
    have e : Hid (((2 ^ plc 1 i (i + 1 + m) : Nat) : Int) = 2 ^ m) := by unfold Hid plc; rw [if_pos rfl, show i + 1 + m - 1 - i = m by omega]; simp
    have hp := pow2_small (n := m) (by omega)
    go_enter Tryz.func102, Tryz.ntmps102
    go_wp2
    go_ret
    refine ⟨ret_int (by rw [e.out]; first | rfl | (rw [IntWalk.wrap64_in _ (by omega)]) | (rw [show i + 1 + m - 1 - i = m by omega, IntWalk.wrap64_in _ (by omega)])), rfl⟩
theorem ownsRow_n2 {w : World} {base : Nat} {e : TypeId} {size n n' : Nat} {v : Value} {xs : List Value} (h : w.ownsRow base e size v n xs) (hn : n = n') : w.ownsRow base e size v n' xs := hn ▸ h
def RelAB (o : Int) (n wd : Nat) (d : List UInt8) (a0 : World) (v i : Value) (wr : World) : Prop := ∃ j : Nat, i = .int .i64 j ∧ j ≤ wd ∧ ownU wr a0.heap.size v (d ++ (codeL o n wd).take j) ∧ Up a0 wr
theorem ownU_shape {w : World} {base : Nat} {v : Value} {d : List UInt8} (h : ownU w base v d) : ∃ a c, v = .slice a d.length c := ownsRow_shape h
theorem ownU_snoc {w : World} {base n : Nat} {v : Value} {d : List UInt8} {b : UInt8} {x : Int} (hx : x = (b.toNat : Int)) (hn : n = d.length + 1) (h : w.ownsRow base 5 1 v n (cellsU d ++ [.int .u8 x])) : ownU w base v (d ++ [b]) := by
  subst hx; subst hn
  unfold ownU
  rw [cellsU_app, List.length_append]
  exact h
set_option maxRecDepth 100000 in
set_option maxHeartbeats 4000000 in
theorem bitsI_any (a0 : World) (o : Int) (n wd : Nat) (v : Value) (d : List UInt8) (w : World) (ho : o = 0 ∨ o = 1) (hn : n ≤ 1048576) (hw : wd ≤ 16) (hd : d.length ≤ 1048576) (hu : Up a0 w) (hown : ownU w a0.heap.size v d) :
    Calls Tryz.prog 90  #[v, .int .i64 o, .int .i64 n, .int .i64 wd] w (fun e w' => ∃ v', e = .returned v' ∧ ownU w' a0.heap.size v' (d ++ codeL o n wd) ∧ Up a0 w') := by
  obtain ⟨j0, hj, hy0, hy1, hy2⟩ := info_parts infoByte
  have hall : (codeL o n wd).take wd = codeL o n wd := List.take_of_length_le (by rw [codeL_length]; exact Nat.le_refl _)
  have HO := Lib.hid hown
  have HU := Lib.hid hu
  have HA := Lib.hid hall
  have ho1 := ho
  obtain ⟨av, cv, rfl⟩ := ownU_shape hown
  clear hu hown hall
  go_enter Tryz.func90, Tryz.ntmps90
  go_wp2
  go_loopw [0, 12] (fun v i wr => RelAB o n wd d a0 v i wr) (fun _ i _ => wd - (intOf i).toNat)
  case atStart => exact ⟨0, rfl, Nat.zero_le _, by rw [List.take_zero, List.append_nil]; exact HO.out, HU.out⟩
  case round =>
    clear HO HU
    obtain ⟨j, rfl, hj1, hown, hup⟩ := hrel
    have hl : (d ++ (codeL o n wd).take j).length = d.length + j := by rw [List.length_append, List.length_take, codeL_length]; omega
    by_cases hlt : j < wd
    · have cP := fun w => placeI_any o j wd w ho1 hlt hw
      have hk := and_pow n (plc o j wd) hn (by have := plc_lt (o := o) hlt; omega)
      have hdig := Lib.hid (digit_if n (plc o j wd))
      have hT := Lib.hid (codeL_take ho1 (n := n) hlt)
      have hq0 : 0 < 2 ^ plc o j wd := Nat.two_pow_pos _
      generalize bitB n (plc o j wd) = bb at *
      by_cases hb : n / 2 ^ plc o j wd % 2 = 1
      · rw [if_pos hb] at hk hdig
        have hown2 := ownsRow_n2 hown hl
        have HW := Lib.hid hown2
        have HUP := Lib.hid hup
        obtain ⟨ar, cr, rfl⟩ := ownsRow_shape hown2
        clear hb hown hown2 hup
        generalize 2 ^ plc o j wd = q at *
        go_wp2_with (first | (go_at_call 102; (with_reducible refine (cP _).mono ?_); rintro e w' ⟨rfl, rfl⟩) | (at_builtin; refine wpList_append_own _ rfl _ _ 22 rfl a0.heap.size 5 j0 (.int .u8 0) 1 1 Tryz.underlying22 hj hy0 hy1 hy2 rfl (by decide) _ _ _ rfl (ownsRow_up HW.out (Up.alloc (Up.refl _) _)) ⟨wr.heap.size, 0, none⟩ 1 1 [.int .u8 49] rfl rfl (new_cells [.int .u8 49] _ rfl) (by intro u hu; simp at hu; subst hu; rfl) (by unfold maxLen; omega) (by omega) (by have := HUP.out.size; simp; omega) ?_; rintro v4 w4 hown4 hgr4 -; have HG := Lib.hid (And.intro hown4 hgr4); clear hown4 hgr4))
        go_roundw
        case rel => exact ⟨j + 1, by go_num, by omega, by rw [hT.out, ← List.append_assoc]; exact ownU_snoc hdig.out (by omega) HG.out.1, (HUP.out.alloc _).grown HG.out.2 (fun b hb => (HW.out.lt b hb).1)⟩
        case measure => simp [intOf]; omega
      · rw [if_neg hb] at hk hdig
        have hown2 := ownsRow_n2 hown hl
        have HW := Lib.hid hown2
        have HUP := Lib.hid hup
        obtain ⟨ar, cr, rfl⟩ := ownsRow_shape hown2
        clear hb hown hown2 hup
        generalize 2 ^ plc o j wd = q at *
        go_wp2_with (first | (go_at_call 102; (with_reducible refine (cP _).mono ?_); rintro e w' ⟨rfl, rfl⟩) | (at_builtin; refine wpList_append_own _ rfl _ _ 22 rfl a0.heap.size 5 j0 (.int .u8 0) 1 1 Tryz.underlying22 hj hy0 hy1 hy2 rfl (by decide) _ _ _ rfl (ownsRow_up HW.out (Up.alloc (Up.refl _) _)) ⟨wr.heap.size, 0, none⟩ 1 1 [.int .u8 48] rfl rfl (new_cells [.int .u8 48] _ rfl) (by intro u hu; simp at hu; subst hu; rfl) (by unfold maxLen; omega) (by omega) (by have := HUP.out.size; simp; omega) ?_; rintro v4 w4 hown4 hgr4 -; have HG := Lib.hid (And.intro hown4 hgr4); clear hown4 hgr4))
        go_roundw
        case rel => exact ⟨j + 1, by go_num, by omega, by rw [hT.out, ← List.append_assoc]; exact ownU_snoc hdig.out (by omega) HG.out.1, (HUP.out.alloc _).grown HG.out.2 (fun b hb => (HW.out.lt b hb).1)⟩
        case measure => simp [intOf]; omega
    · have e : j = wd := by omega
      subst e
      rw [HA.out] at hown
      have HW := Lib.hid hown
      obtain ⟨ar, cr, rfl⟩ := ownU_shape hown
      clear hown
      go_wp2
      go_ret
      exact ⟨_, rfl, HW.out, hup⟩
def RelBV (n : Nat) (i : Value) (w wr : World) : Prop := ∃ j : Nat, i = .int .i64 j ∧ j ≤ n ∧ w = wr
set_option maxRecDepth 100000 in
set_option maxHeartbeats 1000000 in
theorem bitsVI_any (s : ByteArray) (w : World) (hb : isBits s.data.toList) (hs : s.size ≤ 32000) :
    Calls Tryz.prog 50  #[.string s] w (fun e w' => e = .returned (.bool true) ∧ w = w') := by
  have hlen := ba_len s
  have HB := Lib.hid hb
  clear hb
  go_enter Tryz.func50, Tryz.ntmps50
  go_wp2
  go_loopw [9] (fun i wr => RelBV s.size i w wr) (fun i _ => s.size - (intOf i).toNat)
  case atStart => exact ⟨0, rfl, Nat.zero_le _, rfl⟩
  case round =>
    obtain ⟨j, rfl, hj, rfl⟩ := hrel
    by_cases hlt : j < s.size
    · have hbit := HB.out s[j] (by
        have e : s[j] = s.data.toList[j]'(by omega) := rfl
        rw [e]; exact List.getElem_mem _)
      rcases hbit with h1 | h1
      · go_wp2
        go_roundw
        case rel => exact ⟨j + 1, by go_num, by omega, rfl⟩
        case measure => simp [intOf]; omega
      · go_wp2
        go_roundw
        case rel => exact ⟨j + 1, by go_num, by omega, rfl⟩
        case measure => simp [intOf]; omega
    · go_wp2
      go_ret
      exact ⟨rfl, rfl⟩
def RelPB (o : Int) (l : List UInt8) (w : World) (v f : Value) (wr : World) : Prop := ∃ k n : Nat, f = .int .i64 (n : Int) ∧ n = 8 * k ∧ n ≤ l.length + 7 ∧ ownU wr w.heap.size v ((packL o l).take k) ∧ Up w wr
def RelPI (o : Int) (c : List UInt8) (m : Nat) (b i : Value) (W wr : World) : Prop := ∃ j : Nat, i = .int .i64 j ∧ j ≤ m ∧ b = .int .i64 (sumB o c j) ∧ W = wr
set_option maxRecDepth 100000 in
set_option maxHeartbeats 4000000 in
theorem packI_any (o : Int) (s : ByteArray) (w : World) (ho : o = 0 ∨ o = 1) (hb : isBits s.data.toList) (hs : s.size ≤ 1048576) :
    Calls Tryz.prog 48  #[.int .i64 o, .string s] w (Same (.string (bs (packL o s.data.toList))) w) := by
  obtain ⟨j0, hj, hy0, hy1, hy2⟩ := info_parts infoByte
  have hlen := ba_len s
  have HB := Lib.hid hb
  have ho1 := ho
  clear hb
  go_enter Tryz.func48, Tryz.ntmps48
  go_wp2
  go_loopw [5, 6] (fun v f wr => RelPB o s.data.toList w v f wr) (fun _ f _ => s.size + 8 - (intOf f).toNat)
  case atStart => exact ⟨0, 0, rfl, rfl, by omega, World.ownsRow_nil _ _ _ _, Up.refl _⟩
  case round =>
    obtain ⟨k, f, rfl, hf, hk, hown, hup⟩ := hrel
    by_cases hlt : f < s.size
    · have hkl : 8 * k < s.data.toList.length := by omega
      have hnum := chunk_num ho1 HB.out hkl
      have HT := Lib.hid (packL_take o s.data.toList hkl)
      have HC : Hid (∀ j (h : 8 * k + j < s.size), j < 8 → (chunk s.data.toList k).getD j 0 = s[8 * k + j]) := fun j h h8 => chunk_at (by omega) h8
      have hnb := numL_bd (o := o) (chunk_bits HB.out k)
      rw [chunk_length hkl] at hnb
      have hsb := fun j hj => sumB_bd o (chunk s.data.toList k) j hj
      have hplen : ((packL o s.data.toList).take k).length = k := by rw [List.length_take, packL_length]; omega
      rw [hlen] at hnum
      generalize chunk s.data.toList k = c at *
      obtain ⟨m, hm⟩ : ∃ m, m = min 8 (s.size - 8 * k) := ⟨_, rfl⟩
      rw [← hm] at hnum
      have HN := Lib.hid hnum
      have hm8 : m ≤ 8 := by omega
      have hms : 8 * k + m ≤ s.size := by omega
      have hm3 : ((m : Nat) : Int) = min 8 ((s.size : Int) - ((8 * k : Nat) : Int)) := by omega
      have HM := Lib.hid hm3
      have hown2 := ownsRow_n2 hown hplen
      have HW := Lib.hid hown2
      have HUP := Lib.hid hup
      obtain ⟨ar, cr, rfl⟩ := ownsRow_shape hown2
      clear hown hown2 hup hnum hm hm3
      rw [← hf] at HM HC hms
      have HF := Lib.hid hf
      clear hf
      go_wp2
      all_goals
        go_loopw [7, 20] (fun b i wr' => RelPI o c m b i wr wr') (fun _ i _ => m - (intOf i).toNat)
        case atStart => exact ⟨0, rfl, Nat.zero_le _, rfl, rfl⟩
        case round =>
          obtain ⟨j, rfl, hj2, rfl, rfl⟩ := hrel
          have hmm := HM.out
          by_cases hlj : j < m
          · have hbb := hsb j (by omega)
            have hC := HC.out j (by omega) (by omega)
            have cP : ∀ w, Calls Tryz.prog 102  #[.int .i64 o, .int .i64 j, .int .i64 8] w (fun e w' => e = .returned (.int .i64 ((2 ^ plc o j 8 : Nat) : Int)) ∧ w = w') := fun w => placeI_any o j 8 w ho1 (by omega) (by omega)
            have hpl : 2 ^ plc o j 8 ≤ 2 ^ 7 := Nat.pow_le_pow_right (by decide) (by have := plc_lt (o := o) (show j < 8 by omega); omega)
            have HS : Hid (sumB o c (j + 1) = sumB o c j + (if (s[f + j]).toNat = 49 then ((2 ^ plc o j 8 : Nat) : Int) else 0)) := by unfold Hid; rw [sumB, hC]
            have hfj : f + j < s.size := by omega
            clear hC hsb HC HN HT
            generalize sumB o c j = b at *
            generalize 2 ^ plc o j 8 = q at *
            by_cases h49 : s[f + j].toNat = 49
            · rw [if_pos h49] at HS
              go_wp2_with ((go_at_call 102; (with_reducible refine (cP _).mono ?_); rintro e w' ⟨rfl, rfl⟩))
              go_roundw
              case rel => exact ⟨j + 1, by go_num, by omega, by rw [HS.out], rfl⟩
              case measure => simp [intOf]; omega
            · rw [if_neg h49] at HS
              go_wp2_with ((go_at_call 102; (with_reducible refine (cP _).mono ?_); rintro e w' ⟨rfl, rfl⟩))
              go_roundw
              case rel => exact ⟨j + 1, by go_num, by omega, by rw [HS.out, Int.add_zero], rfl⟩
              case measure => simp [intOf]; omega
          · have e : j = m := by omega
            subst e
            rw [HN.out]
            have hub := ub_nat hnb.1 (by have := hnb.2; omega : numL o c < 256)
            generalize numL o c = nb at *
            have HUB := Lib.hid hub
            have hnb1 := hnb.1
            have hnb2 : nb < 256 := by have := hnb.2; omega
            clear HC hsb hub hnb HN
            go_wp2_with (at_builtin; refine wpList_append_own _ rfl _ _ 22 rfl w.heap.size 5 j0 (.int .u8 0) 1 1 Tryz.underlying22 hj hy0 hy1 hy2 rfl (by decide) _ _ _ rfl (ownsRow_up HW.out (Up.alloc (Up.refl _) _)) ⟨wr.heap.size, 0, none⟩ 1 1 [.int .u8 nb] rfl rfl (new_cells [.int .u8 nb] _ rfl) (by intro u hu; simp at hu; subst hu; rfl) (by unfold maxLen; omega) (by omega) (by have := HUP.out.size; simp; omega) ?_; rintro v4 w4 hown4 hgr4 -; have HG := Lib.hid (And.intro hown4 hgr4); clear hown4 hgr4)
            go_roundw
            case rel => exact ⟨k + 1, f + 8, by go_num, by have := HF.out; omega, by have := HF.out; omega, by rw [HT.out]; exact ownU_snoc HUB.out.symm (by omega) HG.out.1, (HUP.out.alloc _).grown HG.out.2 (fun b hb => (HW.out.lt b hb).1)⟩
            case measure => simp [intOf]; omega
    · have hall : (packL o s.data.toList).take k = packL o s.data.toList := List.take_of_length_le (by rw [packL_length]; omega)
      rw [hall] at hown
      obtain ⟨ar, cr, rfl⟩ := ownU_shape hown
      have hconv := conv_any hown rfl
      have HUP := Lib.hid hup
      clear hown hup hall
      go_wp2
      go_ret
      exact ⟨rfl, HUP.out⟩
end Go.Proofs.YtgbakgaegldomaaGreat

/- As wp_region_own, but stores, moves, extracts and assignments may stand at the end, each behind all that it needs. Conditions: those of the theorem wp_region_ownf. -/
namespace Go.Proofs.YtgbakgaegldomaaGreat
open Go Go.RowKit
section
variable {P : Program}
theorem wp_region_ownf (n0 j0 : Nat) (row : Option Nat) {id : Nat} {Q : Exit → Act → World → Prop} {a : Act} {w : World} {l : List Oper} (hm : P.follows .mixedOrders = true) (hB : flB l.toArray n0 = true)
    (h : WG P l.toArray w row j0 (fun a' w' => wpList P l.toArray (onlyN Q) (l.drop n0) a' w') (l.take n0) 0 [] a) : (Code.region id l.toArray true).wp P Q a w := by
  have T := flB_text hB
  have hle : n0 ≤ l.length := by simpa using T.le
  obtain ⟨D, hU, hT, hZ⟩ := wpF_text (R := gR row j0) (Kc := gK row j0) (C := gC w row j0) (Z := fun a' w' => wpList P l.toArray (onlyN Q) (l.drop n0) a' w') (a0 := a) (n0 := n0) T (l.take n0) 0 [] a (fun _ => False) (fun _ => undef) (fun _ _ _ => False) (by simp [hle]) (fun j hj => by
    simp only [List.length_take] at hj
    simp [show j < n0 by omega]) ⟨(Desc.refl a (fun _ => undef)).congr (fun i => by simp) (fun _ h => h.elim), fun i hi => absurd hi (Nat.not_lt_zero _), fun m hm => (by cases hm), fun i hi => absurd hi (Nat.not_lt_zero _)⟩
    (fun i hi => absurd hi (Nat.not_lt_zero _)) (fun j o hj => absurd hj (Nat.not_lt_zero _)) h.out
  refine wp_region_any hm (wpAny_gf (R := gR row j0) (Kc := gK row j0) (C := gC w row j0) (I := fun S w' => w.grownBy w' row ∧ (¬ S j0 → Up w w')) (fun S w' j hI hS => ?_) (fun S w1 w2 j hI hS hR => ?_) (fun j w' => ?_) (fun k j w1 w2 hne hR => ?_) (a0 := a) (Q := Q) (Q' := onlyN Q) T (fun _ _ h => h) (fun _ _ _ h => h) onlyN_out hU hT (by simpa using hZ) _ (List.range n0) _ a _ (fun _ => undef) (by simp; omega) (fun i hi _ => List.mem_range.2 hi) (fun i hi => ?_) (by simp) (fun i hi his => by
    have : i < l.length := by simpa using his
    simp [this]) (fun j o ho hj => ?_) ?_ ?_ ?_)
  · unfold gC
    split
    · next e => subst e; exact hI.2 hS
    · exact hI.1
  · unfold gR at hR
    split at hR
    · next e => subst e; exact ⟨grownBy_trans hI.1 hR, fun h => absurd (.inr rfl) h⟩
    · next e => exact ⟨grownBy_up hI.1 hR, fun h => (hI.2 fun h' => h (.inl h')).trans hR⟩
  · unfold gR
    split
    · exact grownBy_refl _ _
    · exact Up.refl _
  · unfold gR at hR
    unfold gK
    split at hR
    · next e => subst e; rw [if_neg (fun e => hne e.symm)]; exact hR
    · split
      · exact hR
      · exact up_grownBy hR _
  · have hin := List.mem_range.1 hi
    have : i < l.length := by omega
    exact ⟨hin, by simp [this]⟩
  · rw [getD_replicate_false] at hj; cases hj
  · exact ⟨up_grownBy (Up.drew (Up.refl w)) _, fun _ => Up.drew (Up.refl w)⟩
  · exact (Desc.refl a (fun _ => undef)).congr (fun i => by rw [getD_replicate_false]; simp) (fun _ h => h.elim)
  · intro i hi; rw [getD_replicate_false] at hi; cases hi
end
end Go.Proofs.YtgbakgaegldomaaGreat

