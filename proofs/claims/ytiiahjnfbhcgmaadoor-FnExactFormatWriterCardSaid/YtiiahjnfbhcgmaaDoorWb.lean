/- Walks of the program's functions on bits. Conditions: as each says. -/
import Derived.Test.YtiiahjnfbhcgmaaDoorBp
import Derived.Test.YtiiahjnfbhcgmaaDoorWk
import Derived.Test.YtiiahjnfbhcgmaaDoorImps
namespace Go.Proofs.YtiiahjnfbhcgmaaDoor
set_option linter.unusedVariables false
set_option linter.unusedSimpArgs false
open Go Go.RowKit

theorem ownsRow_n2 {w : World} {base : Nat} {e : TypeId} {size n n' : Nat} {v : Value} {xs : List Value} (h : w.ownsRow base e size v n xs) (hn : n = n') : w.ownsRow base e size v n' xs := hn ▸ h
def RelAB (o : Int) (n wd : Nat) (d : List UInt8) (a0 : World) (v i : Value) (wr : World) : Prop := ∃ j : Nat, i = .int .i64 j ∧ j ≤ wd ∧ ownU wr a0.heap.size v (d ++ (codeL o n wd).take j) ∧ Up a0 wr
theorem ownU_shape {w : World} {base : Nat} {v : Value} {d : List UInt8} (h : ownU w base v d) : ∃ a c, v = .slice a d.length c := ownsRow_shape h
theorem ownU_snoc {w : World} {base n : Nat} {v : Value} {d : List UInt8} {b : UInt8} {x : Int} (hx : x = (b.toNat : Int)) (hn : n = d.length + 1) (h : w.ownsRow base 5 1 v n (cellsU d ++ [.int .u8 x])) : ownU w base v (d ++ [b]) := by
  subst hx; subst hn
  unfold ownU
  rw [cellsU_app, List.length_append]
  exact h

def RelBV (n : Nat) (i : Value) (w wr : World) : Prop := ∃ j : Nat, i = .int .i64 j ∧ j ≤ n ∧ w = wr
set_option maxRecDepth 100000 in
set_option maxHeartbeats 1000000 in
theorem bitsVI_any (s : ByteArray) (w : World) (hb : isBits s.data.toList) (hs : s.size ≤ 32000) :
    Calls Tryd.prog 70  #[.string s] w (fun e w' => e = .returned (.bool true) ∧ w = w') := by
  have hlen := ba_len s
  have HB := Lib.hid hb
  clear hb
  go_enter Tryd.func70, Tryd.ntmps70
  go_wp2
  go_loopw [9] (fun i wr => RelBV s.size i w wr) (fun i _ => s.size - (intOf i).toNat)
  case atStart => exact ⟨0, rfl, Nat.zero_le _, rfl⟩
  case round =>
    obtain ⟨j, rfl, hj, rfl⟩ := hrel
    by_cases hlt : j < s.size
    · have hbit := HB.out s[j] (by
        have e : s[j] = s.data.toList[j]'(by omega) := rfl
        rw [e]; exact List.getElem_mem _)
      rcases hbit with h1 | h1
      · go_wp2
        go_roundw
        case rel => exact ⟨j + 1, by go_num, by omega, rfl⟩
        case measure => simp [intOf]; omega
      · go_wp2
        go_roundw
        case rel => exact ⟨j + 1, by go_num, by omega, rfl⟩
        case measure => simp [intOf]; omega
    · go_wp2
      go_ret
      exact ⟨rfl, rfl⟩

def RelPB (o : Int) (l : List UInt8) (w : World) (v f : Value) (wr : World) : Prop := ∃ k n : Nat, f = .int .i64 (n : Int) ∧ n = 8 * k ∧ n ≤ l.length + 7 ∧ ownU wr w.heap.size v ((packL o l).take k) ∧ Up w wr
def RelPI (o : Int) (c : List UInt8) (m : Nat) (b i : Value) (W wr : World) : Prop := ∃ j : Nat, i = .int .i64 j ∧ j ≤ m ∧ b = .int .i64 (sumB o c j) ∧ W = wr

end Go.Proofs.YtiiahjnfbhcgmaaDoor
