/- Texts joined into one: the walks and laws that the last text leans on. Conditions: as each says. -/
import Derived.Test.YtekogcjdaolcbaaGreatDoorMFnWriterTextLawH
import Derived.Test.YtekogcjdaolcbaaGreatDoorSets
import Derived.Lib.Join
import Derived.Lib.ItoaLen

set_option linter.unusedVariables false
set_option linter.unusedSimpArgs false
/- Plain: the text of places. Conditions: none. -/
namespace Go.Proofs.YtekogcjdaolcbaaGreatDoor
open Go
def someL (l : List UInt8) : List UInt8 := if l = [] then [45] else l
theorem join_snoc (xs : List (List UInt8)) (y sep : List UInt8) (h : xs ≠ []) : Lib.join (xs ++ [y]) sep = Lib.join xs sep ++ sep ++ y := by
  cases xs with
  | nil => exact absurd rfl h
  | cons x r =>
    rw [List.cons_append, Lib.join_cons, Lib.join_cons]
    simp [Lib.joinTail]
theorem lens_le (c : Nat) : ∀ xs : List (List UInt8), (∀ x ∈ xs, x.length ≤ c) → Lib.lens xs ≤ c * xs.length
  | [], _ => by simp [Lib.lens]
  | x :: r, h => by
    have h1 := lens_le c r (fun y hy => h y (List.mem_cons_of_mem _ hy))
    have h2 := h x (List.mem_cons_self ..)
    simp only [Lib.lens, List.map_cons, List.sum_cons, List.length_cons, Nat.mul_add, Nat.mul_one] at *
    omega
theorem join_le (c : Nat) (xs : List (List UInt8)) (b : UInt8) (h : ∀ x ∈ xs, x.length ≤ c) : (Lib.join xs [b]).length ≤ (c + 1) * xs.length := by
  cases xs with
  | nil => simp [Lib.join_nil]
  | cons x r =>
    have h1 := lens_le c (x :: r) h
    have h2 := Lib.join_length x r [b]
    have h3 : [b].length * r.length = r.length := by simp
    rw [h2, h3, List.length_cons, Nat.add_mul, Nat.one_mul]
    rw [List.length_cons] at h1
    omega
theorem itoa_le {n : Int} (h0 : -1000000 ≤ n) (h1 : n ≤ 1000000) : (Lib.itoa n).length ≤ 21 := Lib.itoa_length_le n (by omega) (by omega)
end Go.Proofs.YtekogcjdaolcbaaGreatDoor

/- The reference's l9Find and l3None. Conditions: fewer than 2^30 bytes. -/
namespace Go.Proofs.YtekogcjdaolcbaaGreatDoor
open Go Go.RowKit
def findL (l : List UInt8) (c : UInt8) : Int := match l.findIdx? (· == c) with
  | some i => (i : Int)
  | none => -1
theorem findL_hit {l : List UInt8} {c : UInt8} {k : Nat} (h : k < l.length) (hc : l[k] = c) (hn : ∀ j (hj : j < l.length), j < k → l[j] ≠ c) : findL l c = k := by
  have : l.findIdx? (· == c) = some k := by
    rw [List.findIdx?_eq_some_iff_getElem]
    exact ⟨h, by simp [hc], fun j hj => by simpa using hn j (by omega) hj⟩
  unfold findL; rw [this]
theorem findL_none {l : List UInt8} {c : UInt8} (hn : ∀ j (hj : j < l.length), l[j] ≠ c) : findL l c = -1 := by
  have : l.findIdx? (· == c) = none := by
    rw [List.findIdx?_eq_none_iff]
    intro x hx
    obtain ⟨j, hj, rfl⟩ := List.getElem_of_mem hx
    simpa using hn j hj
  unfold findL; rw [this]
def RelFd (s : ByteArray) (c : UInt8) (w : World) (i : Value) (wr : World) : Prop := ∃ k : Nat, k ≤ s.size ∧ i = .int .i64 k ∧ (∀ j (hj : j < s.data.toList.length), j < k → s.data.toList[j] ≠ c) ∧ w = wr
set_option maxRecDepth 100000 in
set_option maxHeartbeats 1000000 in
theorem l9Find_any (s : ByteArray) (c : UInt8) (w : World) (hs : s.size ≤ 1073741824) :
    Calls Tryz.prog 124  #[.string s, .int .u8 c.toNat] w (fun e w' => e = .returned (.int .i64 (findL s.data.toList c)) ∧ w = w') := by
  go_enter Tryz.func124, Tryz.ntmps124
  go_wp2
  go_loopw [5] (fun i wr => RelFd s c w i wr) (fun i _ => s.size - (intOf i).toNat)
  case atStart => exact ⟨0, Nat.zero_le _, rfl, fun j hj h => absurd h (Nat.not_lt_zero _), rfl⟩
  case round =>
    obtain ⟨k, hk, rfl, hall, rfl⟩ := hrel
    have HA := Lib.hid hall
    clear hall
    by_cases hlt : k < s.size
    · have hu := u8_bd s[k]
      have hl : k < s.data.toList.length := by simpa using hlt
      by_cases hc : s[k] = c
      · have e : Hid (findL s.data.toList c = k) := findL_hit hl hc HA.out
        have hq : (s[k].toNat : Int) = c.toNat := by rw [hc]
        clear hc
        go_wp2
        go_ret
        exact ⟨by rw [e.out]; rfl, rfl⟩
      · have hN : Hid (∀ j (hj : j < s.data.toList.length), j < k + 1 → s.data.toList[j] ≠ c) := fun j hj hjk => by
          rcases Nat.lt_or_ge j k with h | h
          · exact HA.out j hj h
          · have : j = k := by omega
            subst this; exact hc
        have hq : ((s[k].toNat : Int) == (c.toNat : Int)) = false := by
          rw [beq_eq_false_iff_ne]
          intro e
          exact hc (UInt8.toNat_inj.1 (by omega))
        clear hc
        go_wp2
        go_roundw
        case rel => exact ⟨k + 1, by omega, by go_num, hN.out, rfl⟩
        case measure => simp [intOf]; omega
    · have e : Hid (findL s.data.toList c = -1) := findL_none (fun j hj => HA.out j hj (by have h3 : j < s.data.toList.length := hj; have h4 : s.data.toList.length = s.size := ba_len s; omega))
      go_wp2
      go_ret
      exact ⟨by rw [e.out]; rfl, rfl⟩
def noneL (l : List UInt8) : List UInt8 := if l = [45] then [] else l
set_option maxRecDepth 100000 in
set_option maxHeartbeats 1000000 in
theorem l3None_any (l : List UInt8) (w : World) : Calls Tryz.prog 71  #[.string (bs l)] w (fun e w' => e = .returned (.string (bs (noneL l))) ∧ w = w') := by
  by_cases h : l = [45]
  · subst h
    have hb : ((bs [45]).toList == (⟨#[45]⟩ : ByteArray).toList) = true := by rw [Lib.toList_data, Lib.toList_data]; rfl
    have hb2 : (bs [45]).toList = [45] := by rw [Lib.toList_data]; rfl
    go_enter Tryz.func71, Tryz.ntmps71
    go_wp2
    go_ret
    exact ⟨rfl, rfl⟩
  · have e : Hid (noneL l = l) := if_neg h
    have hb : ((bs l).toList == (⟨#[45]⟩ : ByteArray).toList) = false := by rw [Lib.toList_data, Lib.toList_data, bs_data]; simpa using h
    have hb2 : ((bs l).toList == [45]) = false := by rw [Lib.toList_data, bs_data]; simpa using h
    have hb3 : ¬ (bs l).toList = [45] := by rw [Lib.toList_data, bs_data]; exact h
    go_enter Tryz.func71, Tryz.ntmps71
    go_wp2
    go_ret
    exact ⟨by rw [e.out]; rfl, rfl⟩
end Go.Proofs.YtekogcjdaolcbaaGreatDoor

