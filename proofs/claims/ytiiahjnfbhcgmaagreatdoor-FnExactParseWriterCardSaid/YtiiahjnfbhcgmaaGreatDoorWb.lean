/- Walks of the program's functions on bits. Conditions: as each says. -/
import Derived.Test.YtiiahjnfbhcgmaaGreatDoorBp
import Derived.Test.YtiiahjnfbhcgmaaGreatDoorWk
import Derived.Test.YtiiahjnfbhcgmaaGreatDoorImps
namespace Go.Proofs.YtiiahjnfbhcgmaaGreatDoor
set_option linter.unusedVariables false
set_option linter.unusedSimpArgs false
open Go Go.RowKit

set_option maxRecDepth 100000 in
set_option maxHeartbeats 1000000 in
theorem placeI_any (o : Int) (i wd : Nat) (w : World) (ho : o = 0 ∨ o = 1) (h : i < wd) (hw : wd ≤ 16) :
    Calls Tryz.prog 121  #[.int .i64 o, .int .i64 i, .int .i64 wd] w (fun e w' => e = .returned (.int .i64 ((2 ^ plc o i wd : Nat) : Int)) ∧ w = w') := by
  rcases ho with rfl | rfl
  · have e : Hid (((2 ^ plc 0 i wd : Nat) : Int) = 2 ^ i) := by unfold Hid plc; simp
    have hp := pow2_small (n := i) (by omega)
    go_enter Tryz.func121, Tryz.ntmps121
    go_wp2
    go_ret
    refine ⟨ret_int (by first | (rw [e.out]; done) | (rw [e.out, IntWalk.wrap64_in _ (by omega)])), rfl⟩
  · obtain ⟨m, rfl⟩ : ∃ m, wd = i + 1 + m := ⟨wd - 1 - i, by omega⟩
    have e : Hid (((2 ^ plc 1 i (i + 1 + m) : Nat) : Int) = 2 ^ m) := by unfold Hid plc; rw [if_pos rfl, show i + 1 + m - 1 - i = m by omega]; simp
    have hp := pow2_small (n := m) (by omega)
    go_enter Tryz.func121, Tryz.ntmps121
    go_wp2
    go_ret
    refine ⟨ret_int (by rw [e.out]; first | rfl | (rw [IntWalk.wrap64_in _ (by omega)]) | (rw [show i + 1 + m - 1 - i = m by omega, IntWalk.wrap64_in _ (by omega)])), rfl⟩

theorem ownsRow_n2 {w : World} {base : Nat} {e : TypeId} {size n n' : Nat} {v : Value} {xs : List Value} (h : w.ownsRow base e size v n xs) (hn : n = n') : w.ownsRow base e size v n' xs := hn ▸ h
def RelAB (o : Int) (n wd : Nat) (d : List UInt8) (a0 : World) (v i : Value) (wr : World) : Prop := ∃ j : Nat, i = .int .i64 j ∧ j ≤ wd ∧ ownU wr a0.heap.size v (d ++ (codeL o n wd).take j) ∧ Up a0 wr
theorem ownU_shape {w : World} {base : Nat} {v : Value} {d : List UInt8} (h : ownU w base v d) : ∃ a c, v = .slice a d.length c := ownsRow_shape h
theorem ownU_snoc {w : World} {base n : Nat} {v : Value} {d : List UInt8} {b : UInt8} {x : Int} (hx : x = (b.toNat : Int)) (hn : n = d.length + 1) (h : w.ownsRow base 5 1 v n (cellsU d ++ [.int .u8 x])) : ownU w base v (d ++ [b]) := by
  subst hx; subst hn
  unfold ownU
  rw [cellsU_app, List.length_append]
  exact h

set_option maxRecDepth 100000 in
set_option maxHeartbeats 4000000 in
theorem bitsI_any (a0 : World) (o : Int) (n wd : Nat) (v : Value) (d : List UInt8) (w : World) (ho : o = 0 ∨ o = 1) (hn : n ≤ 1048576) (hw : wd ≤ 16) (hd : d.length ≤ 1048576) (hu : Up a0 w) (hown : ownU w a0.heap.size v d) :
    Calls Tryz.prog 118  #[v, .int .i64 o, .int .i64 n, .int .i64 wd] w (fun e w' => ∃ v', e = .returned v' ∧ ownU w' a0.heap.size v' (d ++ codeL o n wd) ∧ Up a0 w') := by
  obtain ⟨j0, hj, hy0, hy1, hy2⟩ := info_parts infoByte
  have hall : (codeL o n wd).take wd = codeL o n wd := List.take_of_length_le (by rw [codeL_length]; exact Nat.le_refl _)
  have HO := Lib.hid hown
  have HU := Lib.hid hu
  have HA := Lib.hid hall
  have ho1 := ho
  obtain ⟨av, cv, rfl⟩ := ownU_shape hown
  clear hu hown hall
  go_enter Tryz.func118, Tryz.ntmps118
  go_wp2
  go_loopw [0, 12] (fun v i wr => RelAB o n wd d a0 v i wr) (fun _ i _ => wd - (intOf i).toNat)
  case atStart => exact ⟨0, rfl, Nat.zero_le _, by rw [List.take_zero, List.append_nil]; exact HO.out, HU.out⟩
  case round =>
    clear HO HU
    obtain ⟨j, rfl, hj1, hown, hup⟩ := hrel
    have hl : (d ++ (codeL o n wd).take j).length = d.length + j := by rw [List.length_append, List.length_take, codeL_length]; omega
    by_cases hlt : j < wd
    · have cP := fun w => placeI_any o j wd w ho1 hlt hw
      have hk := and_pow n (plc o j wd) hn (by have := plc_lt (o := o) hlt; omega)
      have hdig := Lib.hid (digit_if n (plc o j wd))
      have hT := Lib.hid (codeL_take ho1 (n := n) hlt)
      have hq0 : 0 < 2 ^ plc o j wd := Nat.two_pow_pos _
      generalize bitB n (plc o j wd) = bb at *
      by_cases hb : n / 2 ^ plc o j wd % 2 = 1
      · rw [if_pos hb] at hk hdig
        have hown2 := ownsRow_n2 hown hl
        have HW := Lib.hid hown2
        have HUP := Lib.hid hup
        obtain ⟨ar, cr, rfl⟩ := ownsRow_shape hown2
        clear hb hown hown2 hup
        generalize 2 ^ plc o j wd = q at *
        go_wp2_with (first | (go_at_call 121; (with_reducible refine (cP _).mono ?_); rintro e w' ⟨rfl, rfl⟩) | (at_builtin; refine wpList_append_own _ rfl _ _ 22 rfl a0.heap.size 5 j0 (.int .u8 0) 1 1 Tryz.underlying22 hj hy0 hy1 hy2 rfl (by decide) _ _ _ rfl (ownsRow_up HW.out (Up.alloc (Up.refl _) _)) ⟨wr.heap.size, 0, none⟩ 1 1 [.int .u8 49] rfl rfl (new_cells [.int .u8 49] _ rfl) (by intro u hu; simp at hu; subst hu; rfl) (by unfold maxLen; omega) (by omega) (by have := HUP.out.size; simp; omega) ?_; rintro v4 w4 hown4 hgr4 -; have HG := Lib.hid (And.intro hown4 hgr4); clear hown4 hgr4))
        go_roundw
        case rel => exact ⟨j + 1, by go_num, by omega, by rw [hT.out, ← List.append_assoc]; exact ownU_snoc hdig.out (by omega) HG.out.1, (HUP.out.alloc _).grown HG.out.2 (fun b hb => (HW.out.lt b hb).1)⟩
        case measure => simp [intOf]; omega
      · rw [if_neg hb] at hk hdig
        have hown2 := ownsRow_n2 hown hl
        have HW := Lib.hid hown2
        have HUP := Lib.hid hup
        obtain ⟨ar, cr, rfl⟩ := ownsRow_shape hown2
        clear hb hown hown2 hup
        generalize 2 ^ plc o j wd = q at *
        go_wp2_with (first | (go_at_call 121; (with_reducible refine (cP _).mono ?_); rintro e w' ⟨rfl, rfl⟩) | (at_builtin; refine wpList_append_own _ rfl _ _ 22 rfl a0.heap.size 5 j0 (.int .u8 0) 1 1 Tryz.underlying22 hj hy0 hy1 hy2 rfl (by decide) _ _ _ rfl (ownsRow_up HW.out (Up.alloc (Up.refl _) _)) ⟨wr.heap.size, 0, none⟩ 1 1 [.int .u8 48] rfl rfl (new_cells [.int .u8 48] _ rfl) (by intro u hu; simp at hu; subst hu; rfl) (by unfold maxLen; omega) (by omega) (by have := HUP.out.size; simp; omega) ?_; rintro v4 w4 hown4 hgr4 -; have HG := Lib.hid (And.intro hown4 hgr4); clear hown4 hgr4))
        go_roundw
        case rel => exact ⟨j + 1, by go_num, by omega, by rw [hT.out, ← List.append_assoc]; exact ownU_snoc hdig.out (by omega) HG.out.1, (HUP.out.alloc _).grown HG.out.2 (fun b hb => (HW.out.lt b hb).1)⟩
        case measure => simp [intOf]; omega
    · have e : j = wd := by omega
      subst e
      rw [HA.out] at hown
      have HW := Lib.hid hown
      obtain ⟨ar, cr, rfl⟩ := ownU_shape hown
      clear hown
      go_wp2
      go_ret
      exact ⟨_, rfl, HW.out, hup⟩

def RelBV (n : Nat) (i : Value) (w wr : World) : Prop := ∃ j : Nat, i = .int .i64 j ∧ j ≤ n ∧ w = wr
set_option maxRecDepth 100000 in
set_option maxHeartbeats 1000000 in
theorem bitsVI_any (s : ByteArray) (w : World) (hb : isBits s.data.toList) (hs : s.size ≤ 32000) :
    Calls Tryz.prog 77  #[.string s] w (fun e w' => e = .returned (.bool true) ∧ w = w') := by
  have hlen := ba_len s
  have HB := Lib.hid hb
  clear hb
  go_enter Tryz.func77, Tryz.ntmps77
  go_wp2
  go_loopw [9] (fun i wr => RelBV s.size i w wr) (fun i _ => s.size - (intOf i).toNat)
  case atStart => exact ⟨0, rfl, Nat.zero_le _, rfl⟩
  case round =>
    obtain ⟨j, rfl, hj, rfl⟩ := hrel
    by_cases hlt : j < s.size
    · have hbit := HB.out s[j] (by
        have e : s[j] = s.data.toList[j]'(by omega) := rfl
        rw [e]; exact List.getElem_mem _)
      rcases hbit with h1 | h1
      · go_wp2
        go_roundw
        case rel => exact ⟨j + 1, by go_num, by omega, rfl⟩
        case measure => simp [intOf]; omega
      · go_wp2
        go_roundw
        case rel => exact ⟨j + 1, by go_num, by omega, rfl⟩
        case measure => simp [intOf]; omega
    · go_wp2
      go_ret
      exact ⟨rfl, rfl⟩

def RelPB (o : Int) (l : List UInt8) (w : World) (v f : Value) (wr : World) : Prop := ∃ k n : Nat, f = .int .i64 (n : Int) ∧ n = 8 * k ∧ n ≤ l.length + 7 ∧ ownU wr w.heap.size v ((packL o l).take k) ∧ Up w wr
def RelPI (o : Int) (c : List UInt8) (m : Nat) (b i : Value) (W wr : World) : Prop := ∃ j : Nat, i = .int .i64 j ∧ j ≤ m ∧ b = .int .i64 (sumB o c j) ∧ W = wr

set_option maxRecDepth 100000 in
set_option maxHeartbeats 4000000 in
theorem packI_any (o : Int) (s : ByteArray) (w : World) (ho : o = 0 ∨ o = 1) (hb : isBits s.data.toList) (hs : s.size ≤ 1048576) :
    Calls Tryz.prog 53  #[.int .i64 o, .string s] w (Same (.string (bs (packL o s.data.toList))) w) := by
  obtain ⟨j0, hj, hy0, hy1, hy2⟩ := info_parts infoByte
  have hlen := ba_len s
  have HB := Lib.hid hb
  have ho1 := ho
  clear hb
  go_enter Tryz.func53, Tryz.ntmps53
  go_wp2
  go_loopw [5, 6] (fun v f wr => RelPB o s.data.toList w v f wr) (fun _ f _ => s.size + 8 - (intOf f).toNat)
  case atStart => exact ⟨0, 0, rfl, rfl, by omega, World.ownsRow_nil _ _ _ _, Up.refl _⟩
  case round =>
    obtain ⟨k, f, rfl, hf, hk, hown, hup⟩ := hrel
    by_cases hlt : f < s.size
    · have hkl : 8 * k < s.data.toList.length := by omega
      have hnum := chunk_num ho1 HB.out hkl
      have HT := Lib.hid (packL_take o s.data.toList hkl)
      have HC : Hid (∀ j (h : 8 * k + j < s.size), j < 8 → (chunk s.data.toList k).getD j 0 = s[8 * k + j]) := fun j h h8 => chunk_at (by omega) h8
      have hnb := numL_bd (o := o) (chunk_bits HB.out k)
      rw [chunk_length hkl] at hnb
      have hsb := fun j hj => sumB_bd o (chunk s.data.toList k) j hj
      have hplen : ((packL o s.data.toList).take k).length = k := by rw [List.length_take, packL_length]; omega
      rw [hlen] at hnum
      generalize chunk s.data.toList k = c at *
      obtain ⟨m, hm⟩ : ∃ m, m = min 8 (s.size - 8 * k) := ⟨_, rfl⟩
      rw [← hm] at hnum
      have HN := Lib.hid hnum
      have hm8 : m ≤ 8 := by omega
      have hms : 8 * k + m ≤ s.size := by omega
      have hm3 : ((m : Nat) : Int) = min 8 ((s.size : Int) - ((8 * k : Nat) : Int)) := by omega
      have HM := Lib.hid hm3
      have hown2 := ownsRow_n2 hown hplen
      have HW := Lib.hid hown2
      have HUP := Lib.hid hup
      obtain ⟨ar, cr, rfl⟩ := ownsRow_shape hown2
      clear hown hown2 hup hnum hm hm3
      rw [← hf] at HM HC hms
      have HF := Lib.hid hf
      clear hf
      go_wp2
      all_goals
        go_loopw [7, 20] (fun b i wr' => RelPI o c m b i wr wr') (fun _ i _ => m - (intOf i).toNat)
        case atStart => exact ⟨0, rfl, Nat.zero_le _, rfl, rfl⟩
        case round =>
          obtain ⟨j, rfl, hj2, rfl, rfl⟩ := hrel
          have hmm := HM.out
          by_cases hlj : j < m
          · have hbb := hsb j (by omega)
            have hC := HC.out j (by omega) (by omega)
            have cP : ∀ w, Calls Tryz.prog 121  #[.int .i64 o, .int .i64 j, .int .i64 8] w (fun e w' => e = .returned (.int .i64 ((2 ^ plc o j 8 : Nat) : Int)) ∧ w = w') := fun w => placeI_any o j 8 w ho1 (by omega) (by omega)
            have hpl : 2 ^ plc o j 8 ≤ 2 ^ 7 := Nat.pow_le_pow_right (by decide) (by have := plc_lt (o := o) (show j < 8 by omega); omega)
            have HS : Hid (sumB o c (j + 1) = sumB o c j + (if (s[f + j]).toNat = 49 then ((2 ^ plc o j 8 : Nat) : Int) else 0)) := by unfold Hid; rw [sumB, hC]
            have hfj : f + j < s.size := by omega
            clear hC hsb HC HN HT
            generalize sumB o c j = b at *
            generalize 2 ^ plc o j 8 = q at *
            by_cases h49 : s[f + j].toNat = 49
            · rw [if_pos h49] at HS
              go_wp2_with ((go_at_call 121; (with_reducible refine (cP _).mono ?_); rintro e w' ⟨rfl, rfl⟩))
              go_roundw
              case rel => exact ⟨j + 1, by go_num, by omega, by rw [HS.out], rfl⟩
              case measure => simp [intOf]; omega
            · rw [if_neg h49] at HS
              go_wp2_with ((go_at_call 121; (with_reducible refine (cP _).mono ?_); rintro e w' ⟨rfl, rfl⟩))
              go_roundw
              case rel => exact ⟨j + 1, by go_num, by omega, by rw [HS.out, Int.add_zero], rfl⟩
              case measure => simp [intOf]; omega
          · have e : j = m := by omega
            subst e
            rw [HN.out]
            have hub := ub_nat hnb.1 (by have := hnb.2; omega : numL o c < 256)
            generalize numL o c = nb at *
            have HUB := Lib.hid hub
            have hnb1 := hnb.1
            have hnb2 : nb < 256 := by have := hnb.2; omega
            clear HC hsb hub hnb HN
            go_wp2_with (at_builtin; refine wpList_append_own _ rfl _ _ 22 rfl w.heap.size 5 j0 (.int .u8 0) 1 1 Tryz.underlying22 hj hy0 hy1 hy2 rfl (by decide) _ _ _ rfl (ownsRow_up HW.out (Up.alloc (Up.refl _) _)) ⟨wr.heap.size, 0, none⟩ 1 1 [.int .u8 nb] rfl rfl (new_cells [.int .u8 nb] _ rfl) (by intro u hu; simp at hu; subst hu; rfl) (by unfold maxLen; omega) (by omega) (by have := HUP.out.size; simp; omega) ?_; rintro v4 w4 hown4 hgr4 -; have HG := Lib.hid (And.intro hown4 hgr4); clear hown4 hgr4)
            go_roundw
            case rel => exact ⟨k + 1, f + 8, by go_num, by have := HF.out; omega, by have := HF.out; omega, by rw [HT.out]; exact ownU_snoc HUB.out.symm (by omega) HG.out.1, (HUP.out.alloc _).grown HG.out.2 (fun b hb => (HW.out.lt b hb).1)⟩
            case measure => simp [intOf]; omega
    · have hall : (packL o s.data.toList).take k = packL o s.data.toList := List.take_of_length_le (by rw [packL_length]; omega)
      rw [hall] at hown
      obtain ⟨ar, cr, rfl⟩ := ownU_shape hown
      have hconv := conv_any hown rfl
      have HUP := Lib.hid hup
      clear hown hup hall
      go_wp2
      go_ret
      exact ⟨rfl, HUP.out⟩

end Go.Proofs.YtiiahjnfbhcgmaaGreatDoor
