/- The reference's l9Find and l3None. Conditions: fewer than 2^30 bytes. -/
import Derived.Test.YtiiahjnfbhcgmaaDoorSets
namespace Go.Proofs.YtiiahjnfbhcgmaaDoor
set_option linter.unusedVariables false
set_option linter.unusedSimpArgs false
open Go Go.RowKit

/-- The first place of a byte, or -1. -/
def findL (l : List UInt8) (c : UInt8) : Int := match l.findIdx? (· == c) with
  | some i => (i : Int)
  | none => -1
theorem findL_hit {l : List UInt8} {c : UInt8} {k : Nat} (h : k < l.length) (hc : l[k] = c) (hn : ∀ j (hj : j < l.length), j < k → l[j] ≠ c) : findL l c = k := by
  have : l.findIdx? (· == c) = some k := by
    rw [List.findIdx?_eq_some_iff_getElem]
    exact ⟨h, by simp [hc], fun j hj => by simpa using hn j (by omega) hj⟩
  unfold findL; rw [this]
theorem findL_none {l : List UInt8} {c : UInt8} (hn : ∀ j (hj : j < l.length), l[j] ≠ c) : findL l c = -1 := by
  have : l.findIdx? (· == c) = none := by
    rw [List.findIdx?_eq_none_iff]
    intro x hx
    obtain ⟨j, hj, rfl⟩ := List.getElem_of_mem hx
    simpa using hn j hj
  unfold findL; rw [this]

def RelFd (s : ByteArray) (c : UInt8) (w : World) (i : Value) (wr : World) : Prop := ∃ k : Nat, k ≤ s.size ∧ i = .int .i64 k ∧ (∀ j (hj : j < s.data.toList.length), j < k → s.data.toList[j] ≠ c) ∧ w = wr
set_option maxRecDepth 100000 in
set_option maxHeartbeats 1000000 in
theorem l9Find_any (s : ByteArray) (c : UInt8) (w : World) (hs : s.size ≤ 1073741824) :
    Calls Tryd.prog 50  #[.string s, .int .u8 c.toNat] w (fun e w' => e = .returned (.int .i64 (findL s.data.toList c)) ∧ w = w') := by
  go_enter Tryd.func50, Tryd.ntmps50
  go_wp2
  go_loopw [5] (fun i wr => RelFd s c w i wr) (fun i _ => s.size - (intOf i).toNat)
  case atStart => exact ⟨0, Nat.zero_le _, rfl, fun j hj h => absurd h (Nat.not_lt_zero _), rfl⟩
  case round =>
    obtain ⟨k, hk, rfl, hall, rfl⟩ := hrel
    have HA := Lib.hid hall
    clear hall
    by_cases hlt : k < s.size
    · have hu := u8_bd s[k]
      have hl : k < s.data.toList.length := by simpa using hlt
      by_cases hc : s[k] = c
      · have e : Hid (findL s.data.toList c = k) := findL_hit hl hc HA.out
        have hq : (s[k].toNat : Int) = c.toNat := by rw [hc]
        clear hc
        go_wp2
        go_ret
        exact ⟨by rw [e.out]; rfl, rfl⟩
      · have hN : Hid (∀ j (hj : j < s.data.toList.length), j < k + 1 → s.data.toList[j] ≠ c) := fun j hj hjk => by
          rcases Nat.lt_or_ge j k with h | h
          · exact HA.out j hj h
          · have : j = k := by omega
            subst this; exact hc
        have hq : ((s[k].toNat : Int) == (c.toNat : Int)) = false := by
          rw [beq_eq_false_iff_ne]
          intro e
          exact hc (UInt8.toNat_inj.1 (by omega))
        clear hc
        go_wp2
        go_roundw
        case rel => exact ⟨k + 1, by omega, by go_num, hN.out, rfl⟩
        case measure => simp [intOf]; omega
    · have e : Hid (findL s.data.toList c = -1) := findL_none (fun j hj => HA.out j hj (by have h3 : j < s.data.toList.length := hj; have h4 : s.data.toList.length = s.size := ba_len s; omega))
      go_wp2
      go_ret
      exact ⟨by rw [e.out]; rfl, rfl⟩

/-- A text, or the empty one for a dash. -/
def noneL (l : List UInt8) : List UInt8 := if l = [45] then [] else l
set_option maxRecDepth 100000 in
set_option maxHeartbeats 1000000 in
theorem l3None_any (l : List UInt8) (w : World) : Calls Tryd.prog 49  #[.string (bs l)] w (fun e w' => e = .returned (.string (bs (noneL l))) ∧ w = w') := by
  by_cases h : l = [45]
  · subst h
    have hb : ((bs [45]).toList == (⟨#[45]⟩ : ByteArray).toList) = true := by rw [Lib.toList_data, Lib.toList_data]; rfl
    have hb2 : (bs [45]).toList = [45] := by rw [Lib.toList_data]; rfl
    go_enter Tryd.func49, Tryd.ntmps49
    go_wp2
    go_ret
    exact ⟨rfl, rfl⟩
  · have e : Hid (noneL l = l) := if_neg h
    have hb : ((bs l).toList == (⟨#[45]⟩ : ByteArray).toList) = false := by rw [Lib.toList_data, Lib.toList_data, bs_data]; simpa using h
    have hb2 : ((bs l).toList == [45]) = false := by rw [Lib.toList_data, bs_data]; simpa using h
    have hb3 : ¬ (bs l).toList = [45] := by rw [Lib.toList_data, bs_data]; exact h
    go_enter Tryd.func49, Tryd.ntmps49
    go_wp2
    go_ret
    exact ⟨by rw [e.out]; rfl, rfl⟩

end Go.Proofs.YtiiahjnfbhcgmaaDoor
