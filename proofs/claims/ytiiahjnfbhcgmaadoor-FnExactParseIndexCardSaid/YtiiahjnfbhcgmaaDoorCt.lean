/- The reference's l9Cut; strings.Split and strings.Cut at one byte. Conditions: fewer than 2^20 bytes; bytealg.MaxLen holds an int. -/
import Derived.Test.YtiiahjnfbhcgmaaDoorSpl
import Derived.Test.YtiiahjnfbhcgmaaDoorStr
import Derived.Test.YtiiahjnfbhcgmaaDoorShelf
namespace Go.Proofs.YtiiahjnfbhcgmaaDoor
set_option linter.unusedVariables false
set_option linter.unusedSimpArgs false
open Go Go.RowKit

def bL (b : ByteArray) : List UInt8 := b.data.toList
theorem own_noC {w' : World} {base g : Nat} (hg : g = w'.heap.size) (hb : base ≤ w'.heap.size) : ownS (w'.alloc (.cells #[] 9)) base (.slice (some ⟨g, 0, none⟩) 0 0) [] := by
  subst hg
  exact World.ownsRow_made _ _ _ hb (by unfold maxLen; omega) rfl
theorem own_addC {w : World} {base : Nat} {v : Value} {l : List ByteArray} {t : ByteArray} (h : w.ownsRow base 9 1 v (l.length + 1) (cellsS l ++ [.string t])) : ownS w base v (l ++ [t]) := by
  have e1 : (l ++ [t]).length = l.length + 1 := by simp
  have e2 : cellsS (l ++ [t]) = cellsS l ++ [.string t] := by simp [cellsS]
  unfold ownS
  rw [e1, e2]
  exact h
def RelCt (s : ByteArray) (c : UInt8) (w : World) (out frm i : Value) (wr : World) : Prop := ∃ (k f : Nat) (P : List ByteArray), k ≤ s.size + 1 ∧ f ≤ k ∧ P.length ≤ k ∧ i = .int .i64 k ∧ frm = .int .i64 f ∧ ownS wr w.heap.size out P ∧ Up w wr ∧ (k ≤ s.size → IsSpl c ((bL s).take k) (P.map bL ++ [((bL s).take k).drop f])) ∧ (s.size < k → IsSpl c (bL s) (P.map bL))
theorem bL_ext (s : ByteArray) (f k : Nat) : bL (s.extract f k) = ((bL s).take k).drop f := by
  unfold bL
  rw [Lib.extract_data, List.drop_take]
theorem bL_map (P : List ByteArray) : (P.map bL).map bs = P := by
  rw [List.map_map]
  conv => rhs; rw [← List.map_id P]
  exact List.map_congr_left fun x _ => bs_self x

set_option maxRecDepth 100000 in
set_option maxHeartbeats 1000000 in
theorem l9Cut_any (s : ByteArray) (c : UInt8) (w : World) (hs : s.size ≤ 1048576) :
    Calls Tryd.prog 48  #[.string s, .int .u8 c.toNat] w (fun e w' => ∃ v, e = .returned v ∧ ownS w' w.heap.size v ((splL c s.data.toList).map bs) ∧ Up w w') := by
  obtain ⟨i0, hib, hz0, hz1, hz2⟩ := info_parts infoStr
  go_enter Tryd.func48, Tryd.ntmps48
  go_wp2
  go_loopw [5, 6, 7] (fun out f i wr => RelCt s c w out f i wr) (fun _ _ i _ => s.size + 1 - (intOf i).toNat)
  case atStart => exact ⟨0, 0, [], Nat.zero_le _, Nat.le_refl _, Nat.le_refl _, rfl, rfl, own_noC rfl (Nat.le_refl _), by (repeat (first | with_reducible exact Up.refl _ | with_reducible assumption | with_reducible refine Up.set ?_ (by first | exact Nat.le_refl _ | (simp only []; omega) | (simp; omega)) _ | with_reducible refine Up.alloc ?_ _ | with_reducible refine Up.drew ?_ | refine Up.trans ?_ (by with_reducible assumption))), fun _ => by simpa using IsSpl.nil c, fun h => absurd h (Nat.not_lt_zero _)⟩
  case round =>
    obtain ⟨k, f, P, hk, hf, hP, rfl, rfl, ho, hup, hA, hB⟩ := hrel
    obtain ⟨a, cp, rfl⟩ := ownsRow_shape ho
    have HO := Lib.hid ho
    have HA := Lib.hid hA
    have HB := Lib.hid hB
    have hln := ba_len s
    have HLN := Lib.hid hln
    clear ho hA hB hln
    have hwz := hup.size
    by_cases hlt : k < s.size
    · have hu := u8_bd s[k]
      have hl : k < (bL s).length := by have := HLN.out; unfold bL; omega
      have et : Hid ((bL s).take (k + 1) = (bL s).take k ++ [s[k]]) := by unfold Hid; rw [List.take_succ_eq_append_getElem hl]; rfl
      have ht : ((bL s).take k).length = k := by rw [List.length_take]; omega
      have HT := Lib.hid ht
      clear ht
      by_cases hc : s[k] = c
      · have hq : ((s[k].toNat : Int) == (c.toNat : Int)) = true := by rw [hc]; simp
        have hq2 : (s[k].toNat : Int) = c.toNat := by rw [hc]
        have hkn : ((k : Int) == (s.size : Int)) = false := by rw [beq_eq_false_iff_ne]; omega
        have HC := Lib.hid hc
        clear hc
        go_wp2_with (first | (at_builtin; refine wpList_append_own _ rfl _ _ 62 rfl (w.heap.size) 9 i0 (.string ByteArray.empty) 1 16 Tryd.underlying62 hib hz0 hz1 hz2 rfl (by decide) _ _ _ rfl ((HO.out).alloc _) ⟨(wr).heap.size, 0, none⟩ 1 1 [.string (s.extract f k)] rfl rfl (new_cells [.string (s.extract f k)] _ rfl) (by intro u hu; simp at hu; subst hu; rfl) (by unfold maxLen; omega) (by omega) (by simp; omega) ?_; rintro v2 w2 hown2 hgr2 -) | fail)
        go_roundw
        case rel => exact ⟨k + 1, k + 1, P ++ [s.extract f k], by omega, Nat.le_refl _, by rw [List.length_append, List.length_singleton]; omega, by go_num, by go_num, own_addC hown2, (hup.alloc _).grown hgr2 (fun x hx => (HO.out.lt x hx).1), fun h => by
          have h1 := (HA.out (by omega)).cut
          rw [← HC.out, ← et.out] at h1
          rw [List.map_append, List.map_singleton, bL_ext, ← HC.out]
          rw [List.drop_of_length_le (l := (bL s).take (k + 1)) (by rw [List.length_take]; omega)]
          exact h1, fun h => by omega⟩
        case measure => simp [intOf]; omega
      · have hq : ((s[k].toNat : Int) == (c.toNat : Int)) = false := by
          rw [beq_eq_false_iff_ne]
          intro e
          exact hc (UInt8.toNat_inj.1 (by omega))
        have hkn : ((k : Int) == (s.size : Int)) = false := by rw [beq_eq_false_iff_ne]; omega
        have HC := Lib.hid hc
        clear hc
        go_wp2
        go_roundw
        case rel => exact ⟨k + 1, f, P, by omega, by omega, by omega, by go_num, rfl, HO.out, hup, fun h => by
          have h1 := (HA.out (by omega)).grow (b := s[k]) HC.out
          rw [et.out, List.drop_append_of_le_length (by rw [HT.out]; exact hf)]
          exact h1, fun h => by omega⟩
        case measure => simp [intOf]; omega
    · by_cases he : k = s.size
      · subst he
        have hkn : ((s.size : Int) == (s.size : Int)) = true := by simp
        go_wp2_with (first | (at_builtin; refine wpList_append_own _ rfl _ _ 62 rfl (w.heap.size) 9 i0 (.string ByteArray.empty) 1 16 Tryd.underlying62 hib hz0 hz1 hz2 rfl (by decide) _ _ _ rfl ((HO.out).alloc _) ⟨(wr).heap.size, 0, none⟩ 1 1 [.string (s.extract f s.size)] rfl rfl (new_cells [.string (s.extract f s.size)] _ rfl) (by intro u hu; simp at hu; subst hu; rfl) (by unfold maxLen; omega) (by omega) (by simp; omega) ?_; rintro v2 w2 hown2 hgr2 -) | fail)
        go_roundw
        case rel => exact ⟨s.size + 1, s.size + 1, P ++ [s.extract f s.size], by omega, Nat.le_refl _, by rw [List.length_append, List.length_singleton]; omega, by go_num, by go_num, own_addC hown2, (hup.alloc _).grown hgr2 (fun x hx => (HO.out.lt x hx).1), fun h => by omega, fun h => by
          have h1 := HA.out (by omega)
          rw [List.map_append, List.map_singleton, bL_ext]
          rw [List.take_of_length_le (l := bL s) (by have := HLN.out; unfold bL; omega)] at h1 ⊢
          exact h1⟩
        case measure => simp [intOf]
      · go_wp2
        go_ret
        have e := splL_eq (HB.out (by omega))
        exact ⟨_, rfl, by rw [show splL c s.data.toList = P.map bL from e, bL_map]; exact HO.out, hup⟩

/-- strings.Split at one byte. -/
theorem split_any (s : ByteArray) (c : UInt8) (w : World) (hm : ∃ m, w.cell? ⟨0, 0, none⟩ = some (.int .i64 m)) (hs : s.size ≤ 1048576) :
    Calls Tryd.prog 52 #[.string s, .string ⟨#[c]⟩] w (fun e w' => ∃ v, e = .returned v ∧ ownS w' w.heap.size v ((splL c s.data.toList).map bs) ∧ Up w w') := by
  obtain ⟨m, hm⟩ := hm
  have hk : Lib.countB s ⟨#[c]⟩ = s.data.toList.count c := by
    show Lib.count s.data.toList [c] = _
    exact Lib.count_one c _
  have hd := Lib.splitB_data ⟨#[c]⟩ 0 (s.data.toList.count c) s
  have hd2 : (Lib.splitB ⟨#[c]⟩ 0 (s.data.toList.count c) s).map bL = splL c s.data.toList := by
    rw [← splitK_splL]; exact hd
  have hB : Lib.splitB ⟨#[c]⟩ 0 (s.data.toList.count c) s = (splL c s.data.toList).map bs := by rw [← hd2, bL_map]
  refine (Tryd.strings_Split s ⟨#[c]⟩ m w (by omega) hm (Nat.le_refl _)).mono fun e w' ⟨he, hw⟩ => ?_
  rw [hk, hB] at hw
  have hlen : (splL c s.data.toList).length = s.data.toList.count c + 1 := by
    have := Lib.splitB_all ⟨#[c]⟩ (Nat.le_refl _) 0 _ s hk
    rw [hB, List.length_map] at this; exact this
  have hle := splL_length_le c s.data.toList
  have hln := ba_len s
  refine ⟨_, he, ?_, ?_⟩
  · subst hw
    rw [hk, ← hlen]
    unfold ownS
    rw [List.length_map]
    exact ⟨by simp [cellsS], .inr ⟨w.heap.size, _, _, rfl, Nat.le_refl _, (MapKept.heap_alloc w _).1, Nat.le_refl _, by unfold maxLen; omega, by simp, by rw [Nat.mul_one]; unfold cellsS; rw [List.take_of_length_le (by simp)]⟩⟩
  · subst hw; exact (Up.refl _).alloc _
/-- strings.Cut at one byte. -/
theorem cut_any (l : List UInt8) (c : UInt8) (w : World) (hm : ∃ m, w.cell? ⟨0, 0, none⟩ = some (.int .i64 m)) (hs : l.length ≤ 1048576) :
    Calls Tryd.prog 53 #[.string (bs l), .string ⟨#[c]⟩] w (fun e w' => e = .returned (.tuple #[.string (bs (match cutL c l with | some p => p.1 | none => l)), .string (bs (match cutL c l with | some p => p.2 | none => [])), .bool (cutL c l).isSome]) ∧ Up w w') := by
  obtain ⟨m, hm⟩ := hm
  have hz := bs_size l
  refine (Tryd.strings_Cut (bs l) ⟨#[c]⟩ m w (by omega) hm).mono fun e w' ⟨he, n, hw⟩ => ⟨?_, ?_⟩
  · rw [he]
    have e1 : Lib.cut (bs l).data.toList (⟨#[c]⟩ : ByteArray).data.toList = Lib.cut l [c] := by rw [bs_data]
    rw [e1, cut_cutL]
    cases cutL c l <;> rfl
  · subst hw
    exact ⟨rfl, rfl, rfl, Nat.le_refl _, fun i hi => rfl⟩

end Go.Proofs.YtiiahjnfbhcgmaaDoor
