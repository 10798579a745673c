/- Walks of the small functions of blocks. Conditions: as each says. -/
import Derived.Test.YtnbmkoapohjnmaaUp
namespace Go.Proofs.Ytnbmkoapohjnmaa
set_option linter.unusedVariables false
set_option linter.unusedSimpArgs false
open Go.RowKit

def inB (n lo hi : Int) : Bool := decide (lo ≤ n) && decide (n ≤ hi)
theorem inB_iff {n lo hi : Int} : inB n lo hi = true ↔ lo ≤ n ∧ n ≤ hi := by simp [inB]
theorem inB_not {n lo hi : Int} : inB n lo hi = false ↔ n < lo ∨ hi < n := by rw [← Bool.not_eq_true, inB_iff]; omega

set_option maxHeartbeats 400000 in
theorem l1In_any (n lo hi : Int) (w : World) :
    Calls Try.prog 41 #[.int .i64 n, .int .i64 lo, .int .i64 hi] w fun e w' => e = .returned (.bool (inB n lo hi)) ∧ w = w' := by
  by_cases h : lo ≤ n
  all_goals
    go_enter Try.func41, Try.ntmps41
    go_wp2
    go_ret
    exact ⟨by simp only [inB]; congr 2; simp; omega, rfl⟩

theorem ret_bool {a b : Bool} (h : a = b) : Ending.returned (.bool a) = .returned (.bool b) := by rw [h]
theorem ret_int {k : IntKind} {a b : Int} (h : a = b) : Ending.returned (.int k a) = .returned (.int k b) := by rw [h]
theorem ret_str {a b : ByteArray} (h : a = b) : Ending.returned (.string a) = .returned (.string b) := by rw [h]

set_option maxHeartbeats 400000 in
theorem l5Number_any (n : Int) (w : World) :
    Calls Try.prog 40 #[.int .i64 n] w fun e w' => e = .returned (.bool (inB n 0 39)) ∧ w = w' := by
  go_enter Try.func40, Try.ntmps40
  go_wp2_with (go_at_call 41; refine (l1In_any _ _ _ _).mono ?_; rintro e w' ⟨rfl, rfl⟩)
  go_ret
  exact ⟨rfl, rfl⟩

set_option maxHeartbeats 400000 in
theorem szBlock_any (n : Int) (r : Bool) (s : Int) (b : ByteArray) (left : Int) (w : World) (hb : b.size ≤ 9223372036854775807) (h0 : 0 ≤ left) (h1 : left ≤ 1048576) :
    Calls Try.prog 9 #[.agg #[.int .i64 n, .bool r, .int .i64 s, .string b], .int .i64 left] w (Same (.int .i64 (if left < b.size then -1 else left - b.size)) w) := by
  by_cases h : left < b.size
  all_goals
    go_enter Try.func9, Try.ntmps9
    go_wp2
    go_ret
    exact ⟨rfl, (Up.refl _).alloc _⟩

set_option maxHeartbeats 400000 in
theorem toBlock_any (n : Int) (r : Bool) (s : Int) (b : ByteArray) (w : World) :
    Calls Try.prog 12 #[.agg #[.int .i64 n, .bool r, .int .i64 s, .string b]] w (Same (.agg #[.int .i64 n, .bool r, .int .i64 s, .string b]) w) := by
  go_enter Try.func12, Try.ntmps12
  go_wp2
  exact bodyPost_ret (v := .agg #[.int .i64 n, .bool r, .int .i64 s, .string b]) (by simp [results, Try.results12, go_sem]) rfl ⟨rfl, (((Up.refl _).alloc _).alloc _).alloc _⟩

/-- 'string([]byte{..})' at one and at two bytes: the slice's cells are known. -/
theorem conv_one (w : World) (b : Nat) (x : Int) (h : w.cell? ⟨b, 0, none⟩ = some (.int .u8 x)) :
    (convert 75 9 (.slice (some ⟨b, 0, none⟩) 1 1)).run Try.prog w = .ok (.string (strOfNums [x])) w :=
  run_convert_bytes_arg (P := Try.prog) w 75 5 Try.underlying75 Try.underlying5 b 0 1 1 [x] rfl (fun i hi => by
    obtain rfl : i = 0 := by omega
    exact h) 9 Try.underlying9
theorem conv_two (w : World) (b : Nat) (x y : Int) (h : w.cell? ⟨b, 0, none⟩ = some (.int .u8 x)) (h' : w.cell? ⟨b, 1, none⟩ = some (.int .u8 y)) :
    (convert 75 9 (.slice (some ⟨b, 0, none⟩) 2 2)).run Try.prog w = .ok (.string (strOfNums [x, y])) w :=
  run_convert_bytes_arg (P := Try.prog) w 75 5 Try.underlying75 Try.underlying5 b 0 2 2 [x, y] rfl (fun i hi => by
    rcases (by omega : i = 0 ∨ i = 1) with rfl | rfl
    · exact h
    · exact h') 9 Try.underlying9

theorem conv_new1 (w : World) (b : Nat) (x : Int) (hb : b = w.heap.size) : (convert 75 9 (.slice (some ⟨b, 0, none⟩) 1 1)).run Try.prog (w.alloc (.cells #[.int .u8 x] 5)) = .ok (.string (strOfNums [x])) (w.alloc (.cells #[.int .u8 x] 5)) :=
  conv_one _ _ _ (by subst hb; simp)
theorem conv_new2 (w : World) (b : Nat) (x y : Int) (hb : b = w.heap.size) : (convert 75 9 (.slice (some ⟨b, 0, none⟩) 2 2)).run Try.prog (w.alloc (.cells #[.int .u8 x, .int .u8 y] 5)) = .ok (.string (strOfNums [x, y])) (w.alloc (.cells #[.int .u8 x, .int .u8 y] 5)) :=
  conv_two _ _ _ _ (by subst hb; simp) (by subst hb; simp)

/-- A made slice of one byte. -/
def Lit1 (x : Int) (v : Value) (w : World) : Prop := ∃ b, v = .slice (some ⟨b, 0, none⟩) 1 1 ∧ b < w.heap.size ∧ w.cell? ⟨b, 0, none⟩ = some (.int .u8 x)
theorem lit1_closed (x : Int) (v : Value) : UpClosed (Lit1 x v) := fun w w' ⟨b, h1, h2, h3⟩ hu =>
  ⟨b, h1, Nat.lt_of_lt_of_le h2 hu.size, (hu.cell (p := ⟨b, 0, none⟩) h2).trans h3⟩
theorem lit1_new (w : World) (x : Int) : Lit1 x (.slice (some ⟨w.heap.size, 0, none⟩) 1 1) (w.alloc (.cells #[.int .u8 x] 5)) := ⟨_, rfl, by simp, by simp⟩
theorem lit1_conv {w : World} {x : Int} {v : Value} (h : Lit1 x v w) : (convert 75 9 v).run Try.prog w = .ok (.string (strOfNums [x])) w := by
  obtain ⟨b, rfl, _, h3⟩ := h
  exact conv_one w b x h3
theorem strOfNums_size (l : List Int) : (strOfNums l).size = l.length := by
  simp [strOfNums, ByteArray.size]
/-- The two bytes of a number. -/
def two (n : Int) : ByteArray := strOfNums [n / 256, n % 256]
theorem two_size (n : Int) : (two n).size = 2 := strOfNums_size _

set_option maxRecDepth 100000 in
set_option maxHeartbeats 400000 in
theorem twoBytes_any (n : Int) (w : World) (h0 : 0 ≤ n) (h1 : n ≤ 65535) :
    Calls Try.prog 38 #[.int .i64 n] w (Same (.string (two n)) w) := by
  have hc := conv_new2
  go_enter Try.func38, Try.ntmps38
  go_wp2
  go_ret
  exact ⟨rfl, (Up.refl _).alloc _⟩

set_option maxRecDepth 100000 in
set_option maxHeartbeats 400000 in
theorem l4Two_any (n : Int) (w : World) (h0 : 0 ≤ n) (h1 : n ≤ 65535) :
    Calls Try.prog 35 #[.int .i64 n] w (Same (.string (two n)) w) := by
  have hc := conv_new2
  go_enter Try.func35, Try.ntmps35
  go_wp2
  go_ret
  exact ⟨rfl, (Up.refl _).alloc _⟩

end Go.Proofs.Ytnbmkoapohjnmaa
