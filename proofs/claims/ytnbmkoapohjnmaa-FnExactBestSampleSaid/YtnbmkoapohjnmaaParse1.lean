/- Walks of the functions that read numbers of two bytes. Conditions: the two bytes are there. -/
import Derived.Test.YtnbmkoapohjnmaaBlk3
namespace Go.Proofs.Ytnbmkoapohjnmaa
set_option linter.unusedVariables false
set_option linter.unusedSimpArgs false
open Go.RowKit

/-- A byte as a number (0 behind the end). -/
def byteAt (s : ByteArray) (k : Nat) : Int := (s.data.toList.getD k 0).toNat
def numAt (s : ByteArray) (k : Nat) : Int := 256 * byteAt s k + byteAt s (k + 1)
theorem byteAt_bd (s : ByteArray) (k : Nat) : 0 ≤ byteAt s k ∧ byteAt s k ≤ 255 := by
  have := (s.data.toList.getD k 0).toNat_lt
  unfold byteAt; omega
theorem numAt_bd (s : ByteArray) (k : Nat) : 0 ≤ numAt s k ∧ numAt s k ≤ 65535 := by
  have := byteAt_bd s k; have := byteAt_bd s (k + 1)
  unfold numAt; omega
theorem byteAt_get (s : ByteArray) (k : Nat) (h : k < s.size) : (s[k].toNat : Int) = byteAt s k := by
  unfold byteAt
  have h' : k < s.data.toList.length := by simpa using h
  rw [List.getD_eq_getElem?_getD, List.getElem?_eq_getElem h']
  rfl
theorem byteAt_extract (s : ByteArray) (i j k : Nat) (hj : j ≤ s.size) (h : i + k < j) : byteAt (s.extract i j) k = byteAt s (i + k) := by
  unfold byteAt
  rw [Lib.extract_data, List.getD_eq_getElem?_getD, List.getD_eq_getElem?_getD, List.getElem?_take, if_pos (by omega), List.getElem?_drop]
theorem numAt_extract (s : ByteArray) (i j k : Nat) (hj : j ≤ s.size) (h : i + k + 1 < j) : numAt (s.extract i j) k = numAt s (i + k) := by
  unfold numAt
  rw [byteAt_extract s i j k hj (by omega), byteAt_extract s i j (k + 1) hj (by omega), Nat.add_assoc]
theorem or_two (x y : Int) (hx : 0 ≤ x) (hx' : x ≤ 255) (hy : 0 ≤ y) (hy' : y ≤ 255) : bits .or .i64 (x * 256) y = 256 * x + y := by
  rw [bits_join .i64 16 (by decide) (fun n h0 h1 => IntWalk.i64_in n (by omega)) 8 (x * 256) y (by omega) (by omega) (by omega) hy (by omega) (by omega)]
  omega

set_option maxRecDepth 100000 in
set_option maxHeartbeats 400000 in
theorem numberAt_any (s : ByteArray) (k : Nat) (w : World) (hs : s.size ≤ 9223372036854775807) (hk : k + 1 < s.size) :
    Calls Try.prog 48 #[.string s, .int .i64 k] w (Same (.int .i64 (numAt s k)) w) := by
  have hu := u8_bd s[k]
  have hu1 := u8_bd s[k+1]
  have hk0 : k < s.size := by omega
  go_enter Try.func48, Try.ntmps48
  go_wp2
  refine wp_region_up 12 (by kernel_rfl) (by kernel_rfl) ?_
  simp only [List.take, List.drop]
  repeat (refine wpUp_step (fun K hK => ?_); go_simp; (try simp only [↓IntWalk.iteOmega]); first
    | (refine hK _ _ ?_; clear hK K)
    | (apply stepU_c
       · intro wq hwq; (have hbq := bcell hwq; (repeat (first | refine fills_no (by rfl) ?_ | refine fills_yes (by rfl) (fun vq hvq => ?_))); simp only [List.filter_nil, fills]; unfold upAt; go_simp; (try go_bits); (try simp only [↓IntWalk.iteOmega]); (try (rw [dif_pos (by omega)]; go_simp; try go_bits)); first | exact upOut_value)
       go_simp; refine hK _ _ ?_; clear hK K))
  refine wpUp_nil (fun wq hwq => ?_)
  simp only [fills]
  go_wp2
  go_ret
  exact ⟨ret_int (by rw [or_two _ _ (by omega) (by omega) (by omega) (by omega), byteAt_get, byteAt_get]; rfl), hwq⟩

/-- The same, the place in the walk's own spelling. -/
theorem numberAt_at (s : ByteArray) (k : Nat) (i : Int) (v : Int) (hi : i = k) (hv : numAt s k = v) (hs : s.size ≤ 9223372036854775807) (hk : k + 1 < s.size) (w : World) :
    Calls Try.prog 48 #[.string s, .int .i64 i] w (Same (.int .i64 v) w) := by
  subst hi; subst hv
  exact numberAt_any s k w hs hk

/-- The parts that ParseBlock reads at a place. -/
def bodyAt (s : ByteArray) (k : Nat) : ByteArray := s.extract (k + 8) (k + 8 + (numAt s (k + 6)).toNat)
def endAt (s : ByteArray) (k : Nat) : Nat := k + 8 + (numAt s (k + 6)).toNat
def headOk (s : ByteArray) (k : Nat) : Bool := decide (k + 10 ≤ s.size) && (byteAt s k == 181) && decide (byteAt s (k + 1) ≤ 1)
def parseOk (s : ByteArray) (k : Nat) : Bool := headOk s k && decide (endAt s k + 2 ≤ s.size) && formB (numAt s (k + 2)) (byteAt s (k + 1) == 0) (numAt s (k + 4)) (bodyAt s k) && (sumOf (s.extract (k + 1) (endAt s k)) == numAt s (endAt s k))
def noBlock : Value := .tuple #[.agg #[.int .i64 0, .bool false, .int .i64 0, .string ByteArray.empty], .int .i64 0, .bool false]
def parsed (s : ByteArray) (k : Nat) : Value := .tuple #[.agg #[.int .i64 (numAt s (k + 2)), .bool (byteAt s (k + 1) == 0), .int .i64 (numAt s (k + 4)), .string (bodyAt s k)], .int .i64 (endAt s k + 2 : Nat), .bool true]
def parseV (s : ByteArray) (at' : Int) : Value := if at' < 0 then noBlock else if parseOk s at'.toNat then parsed s at'.toNat else noBlock

end Go.Proofs.Ytnbmkoapohjnmaa
