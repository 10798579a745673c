/- Walks of the reference's functions that make blocks and containers. Conditions: as each says; for the outer ones none but the strings' bound. -/
import Derived.Test.YtnbmkoapohjnmaaComp
import Derived.Test.YtnbmkoapohjnmaaBa
namespace Go.Proofs.Ytnbmkoapohjnmaa
set_option linter.unusedVariables false
set_option linter.unusedSimpArgs false
open Go Go.RowKit

/-- The block of data. -/
def blockD (s : SetD) (dict : List UInt8) (n : Int) (d : ByteArray) : BlkD := match compW s dict d.data.toList with
  | some st => if st.length < d.size then ⟨n, false, d.size, bs st⟩ else ⟨n, true, d.size, d⟩
  | none => ⟨n, true, d.size, d⟩
theorem blockD_bd (s : SetD) (dict : List UInt8) (n : Int) (d : ByteArray) : (blockD s dict n d).num = n ∧ (blockD s dict n d).size = d.size ∧ (blockD s dict n d).body.size ≤ d.size := by
  unfold blockD
  split
  · split
    · exact ⟨rfl, rfl, by rw [bs_size]; omega⟩
    · exact ⟨rfl, rfl, Nat.le_refl _⟩
  · exact ⟨rfl, rfl, Nat.le_refl _⟩
theorem blk_eta (b : BlkD) : blkV b = .agg #[.int .i64 b.num, .bool b.raw, .int .i64 b.size, .string b.body] := rfl

set_option maxRecDepth 100000 in
set_option maxHeartbeats 4000000 in
theorem l5Block_any (s : SetD) (dict : ByteArray) (n : Int) (d : ByteArray) (w : World) (hi : dict.size ≤ 1073741824) (hd : d.size ≤ 1073741824) :
    Calls Try.prog 42  #[setV s, .string dict, .int .i64 n, .string d] w (Same (blkV (blockD s dict.data.toList n d)) w) := by
  have cC := fun wx => compWS_any s dict d wx hi hd
  unfold blockD
  cases h : compW s dict.data.toList d.data.toList with
  | none =>
    rw [h] at cC
    unfold optS at cC
    clear h
    simp only [setV, blkV, Option.getD_none, Option.isSome_none] at *
    go_enter Try.func42, Try.ntmps42
    go_wp2_with ((go_at_call 34; (with_reducible refine (cC _).mono ?_); rintro e w1 ⟨rfl, U1⟩; have B1 := bcell U1; have Z1 := U1.size; (try simp at Z1); (try rw [Nat.add_one_le_iff] at Z1)))
    refine bodyPost_ret (v := .agg #[.int .i64 n, .bool true, .int .i64 d.size, .string d]) (by simp [results, Try.results42, go_sem, B1]) rfl ⟨rfl, ?_⟩
    (repeat (first | with_reducible exact Up.refl _ | with_reducible assumption | with_reducible refine Up.set ?_ (by first | exact Nat.le_refl _ | (simp only []; omega) | (simp; omega)) _ | with_reducible refine Up.alloc ?_ _ | with_reducible refine Up.drew ?_ | refine Up.trans ?_ (by with_reducible assumption)))
  | some st =>
    rw [h] at cC
    unfold optS at cC
    have hz := bs_size st
    clear h
    simp only [setV, blkV, Option.getD_some, Option.isSome_some] at *
    by_cases hl : st.length < d.size
    · rw [if_pos hl]
      go_enter Try.func42, Try.ntmps42
      go_wp2_with ((go_at_call 34; (with_reducible refine (cC _).mono ?_); rintro e w1 ⟨rfl, U1⟩; have B1 := bcell U1; have Z1 := U1.size; (try simp at Z1); (try rw [Nat.add_one_le_iff] at Z1)))
      refine bodyPost_ret (v := .agg #[.int .i64 n, .bool false, .int .i64 d.size, .string (bs st)]) (by simp [results, Try.results42, go_sem, B1]) rfl ⟨rfl, ?_⟩
      (repeat (first | with_reducible exact Up.refl _ | with_reducible assumption | with_reducible refine Up.set ?_ (by first | exact Nat.le_refl _ | (simp only []; omega) | (simp; omega)) _ | with_reducible refine Up.alloc ?_ _ | with_reducible refine Up.drew ?_ | refine Up.trans ?_ (by with_reducible assumption)))
    · rw [if_neg hl]
      go_enter Try.func42, Try.ntmps42
      go_wp2_with ((go_at_call 34; (with_reducible refine (cC _).mono ?_); rintro e w1 ⟨rfl, U1⟩; have B1 := bcell U1; have Z1 := U1.size; (try simp at Z1); (try rw [Nat.add_one_le_iff] at Z1)))
      refine bodyPost_ret (v := .agg #[.int .i64 n, .bool true, .int .i64 d.size, .string d]) (by simp [results, Try.results42, go_sem, B1]) rfl ⟨rfl, ?_⟩
      (repeat (first | with_reducible exact Up.refl _ | with_reducible assumption | with_reducible refine Up.set ?_ (by first | exact Nat.le_refl _ | (simp only []; omega) | (simp; omega)) _ | with_reducible refine Up.alloc ?_ _ | with_reducible refine Up.drew ?_ | refine Up.trans ?_ (by with_reducible assumption)))

set_option maxRecDepth 100000 in
set_option maxHeartbeats 1000000 in
theorem l5Ready_any (s : SetD) (d : ByteArray) (w : World) (hd : d.size ≤ 1073741824) :
    Calls Try.prog 28  #[setV s, .string d] w (Same (.bool (fitsB s d.data.toList)) w) := by
  have cF := fun wx => fitsS_any s d wx hd
  simp only [setV] at *
  go_enter Try.func28, Try.ntmps28
  go_wp2_with ((go_at_call 50; (with_reducible refine (cF _).mono ?_); rintro e w1 ⟨rfl, U1⟩; have B1 := bcell U1; have Z1 := U1.size; (try simp at Z1); (try rw [Nat.add_one_le_iff] at Z1)))
  go_ret
  refine ⟨rfl, ?_⟩
  (repeat (first | with_reducible exact Up.refl _ | with_reducible assumption | with_reducible refine Up.set ?_ (by first | exact Nat.le_refl _ | (simp only []; omega) | (simp; omega)) _ | with_reducible refine Up.alloc ?_ _ | with_reducible refine Up.drew ?_ | refine Up.trans ?_ (by with_reducible assumption)))

/-- Whether data can be a block. -/
def blkOk (s : SetD) (dict : List UInt8) (n : Int) (len : Nat) : Bool := fitsB s dict && (inB n 0 39 && inB len 1 64)
def blkO (s : SetD) (dict : List UInt8) (n : Int) (d : ByteArray) : Value := if blkOk s dict n d.size then .tuple #[blkV (blockD s dict n d), .bool true] else .tuple #[blkV ⟨0, false, 0, ByteArray.empty⟩, .bool false]

set_option maxRecDepth 100000 in
set_option maxHeartbeats 4000000 in
theorem blockOfS_any (s : SetD) (dict : ByteArray) (n : Int) (d : ByteArray) (w : World) (hi : dict.size ≤ 1073741824) (hd : d.size ≤ 1073741824) :
    Calls Try.prog 16  #[setV s, .string dict, .int .i64 n, .string d] w (Same (blkO s dict.data.toList n d) w) := by
  have cR := fun wx => l5Ready_any s dict wx hi
  have cN := fun wx => l5Number_any n wx
  have cI := fun wx => l1In_any (d.size : Int) 1 64 wx
  have cB := fun wx => l5Block_any s dict n d wx hi hd
  unfold blkO blkOk
  generalize blockD s dict.data.toList n d = bd at *
  cases h1 : fitsB s dict.data.toList
  · rw [h1] at cR
    clear h1
    simp only [setV, blkV, Bool.false_and, Bool.false_eq_true, if_false] at *
    go_enter Try.func16, Try.ntmps16
    go_wp2_with ((go_at_call 28; (with_reducible refine (cR _).mono ?_); rintro e w1 ⟨rfl, U1⟩; have B1 := bcell U1; have Z1 := U1.size; (try simp at Z1); (try rw [Nat.add_one_le_iff] at Z1)))
    refine bodyPost_ret (v := .tuple #[.agg #[.int .i64 0, .bool false, .int .i64 0, .string ByteArray.empty], .bool false]) (by simp [results, Try.results16, go_sem, B1]; try rfl) rfl ⟨rfl, ?_⟩
    (repeat (first | with_reducible exact Up.refl _ | with_reducible assumption | with_reducible refine Up.set ?_ (by first | exact Nat.le_refl _ | (simp only []; omega) | (simp; omega)) _ | with_reducible refine Up.alloc ?_ _ | with_reducible refine Up.drew ?_ | refine Up.trans ?_ (by with_reducible assumption)))
  · cases h2 : inB n 0 39
    · rw [h1] at cR
      rw [h2] at cN
      clear h1 h2
      simp only [setV, blkV, Bool.true_and, Bool.false_and, Bool.false_eq_true, if_false] at *
      go_enter Try.func16, Try.ntmps16
      go_wp2_with (first | (go_at_call 28; (with_reducible refine (cR _).mono ?_); rintro e w1 ⟨rfl, U1⟩; have B1 := bcell U1; have Z1 := U1.size; (try simp at Z1); (try rw [Nat.add_one_le_iff] at Z1)) | (go_at_call 40; (with_reducible refine (cN _).mono ?_); rintro e w' ⟨rfl, rfl⟩))
      refine bodyPost_ret (v := .tuple #[.agg #[.int .i64 0, .bool false, .int .i64 0, .string ByteArray.empty], .bool false]) (by simp [results, Try.results16, go_sem, B1]; try rfl) rfl ⟨rfl, ?_⟩
      (repeat (first | with_reducible exact Up.refl _ | with_reducible assumption | with_reducible refine Up.set ?_ (by first | exact Nat.le_refl _ | (simp only []; omega) | (simp; omega)) _ | with_reducible refine Up.alloc ?_ _ | with_reducible refine Up.drew ?_ | refine Up.trans ?_ (by with_reducible assumption)))
    · cases h3 : inB (d.size : Int) 1 64
      · rw [h1] at cR
        rw [h2] at cN
        rw [h3] at cI
        clear h1 h2 h3
        simp only [setV, blkV, Bool.true_and, Bool.false_and, Bool.false_eq_true, if_false] at *
        go_enter Try.func16, Try.ntmps16
        go_wp2_with (first | (go_at_call 28; (with_reducible refine (cR _).mono ?_); rintro e w1 ⟨rfl, U1⟩; have B1 := bcell U1; have Z1 := U1.size; (try simp at Z1); (try rw [Nat.add_one_le_iff] at Z1)) | (go_at_call 40; (with_reducible refine (cN _).mono ?_); rintro e w' ⟨rfl, rfl⟩) | (go_at_call 41; (with_reducible refine (cI _).mono ?_); rintro e w' ⟨rfl, rfl⟩))
        refine bodyPost_ret (v := .tuple #[.agg #[.int .i64 0, .bool false, .int .i64 0, .string ByteArray.empty], .bool false]) (by simp [results, Try.results16, go_sem, B1]; try rfl) rfl ⟨rfl, ?_⟩
        (repeat (first | with_reducible exact Up.refl _ | with_reducible assumption | with_reducible refine Up.set ?_ (by first | exact Nat.le_refl _ | (simp only []; omega) | (simp; omega)) _ | with_reducible refine Up.alloc ?_ _ | with_reducible refine Up.drew ?_ | refine Up.trans ?_ (by with_reducible assumption)))
      · rw [h1] at cR
        rw [h2] at cN
        rw [h3] at cI
        clear h1 h2 h3
        simp only [setV, blkV, Bool.true_and, if_true] at *
        go_enter Try.func16, Try.ntmps16
        go_wp2_with (first | (go_at_call 28; (with_reducible refine (cR _).mono ?_); rintro e w1 ⟨rfl, U1⟩; have B1 := bcell U1; have Z1 := U1.size; (try simp at Z1); (try rw [Nat.add_one_le_iff] at Z1)) | (go_at_call 40; (with_reducible refine (cN _).mono ?_); rintro e w' ⟨rfl, rfl⟩) | (go_at_call 41; (with_reducible refine (cI _).mono ?_); rintro e w' ⟨rfl, rfl⟩) | (go_at_call 42; (with_reducible refine (cB _).mono ?_); rintro e w2 ⟨rfl, U2⟩; have B2 := bcell U2; have Z2 := U2.size; (try simp at Z2); (try rw [Nat.add_one_le_iff] at Z2)))
        refine bodyPost_ret (v := .tuple #[.agg #[.int .i64 bd.num, .bool bd.raw, .int .i64 bd.size, .string bd.body], .bool true]) (by simp [results, Try.results16, go_sem, B1, B2, Z1]; try rfl) rfl ⟨rfl, ?_⟩
        (repeat (first | with_reducible exact Up.refl _ | with_reducible assumption | with_reducible refine Up.set ?_ (by first | exact Nat.le_refl _ | (simp only []; omega) | (simp; omega)) _ | with_reducible refine Up.alloc ?_ _ | with_reducible refine Up.drew ?_ | refine Up.trans ?_ (by with_reducible assumption)))

/-- The bytes of the blocks of data. -/
def textD (b : BlkD) : List UInt8 := (textB b.num b.raw b.size b.body).data.toList
def makeN (s : SetD) (dict : List UInt8) (size : Nat) : Nat → Int → List UInt8 → List UInt8
  | 0, _, _ => []
  | n + 1, f, d => if d = [] then [] else textD (blockD s dict f (bs (d.take size))) ++ makeN s dict size n (f + 1) (d.drop size)
theorem makeN_nil (s : SetD) (dict : List UInt8) (size n : Nat) (f : Int) : makeN s dict size n f [] = [] := by cases n <;> simp [makeN]
theorem makeN_step {s : SetD} {dict : List UInt8} {size n : Nat} {f : Int} {d : List UInt8} (hd : d ≠ []) : makeN s dict size (n + 1) f d = textD (blockD s dict f (bs (d.take size))) ++ makeN s dict size n (f + 1) (d.drop size) := by rw [makeN, if_neg hd]
theorem textD_len (b : BlkD) (h : b.body.size ≤ 64) : (textD b).length ≤ 74 := by
  have e : (textD b).length = (textB b.num b.raw b.size b.body).size := rfl
  rw [e]
  simp [textB, inner, strOfNums_size, two_size]
  omega
structure MkAt (T : List UInt8) (s : SetD) (dict : List UInt8) (size : Nat) (w : World) (m : Nat) (f : Int) (d acc : List UInt8) (n : Nat) (wr : World) : Prop where
  tot : acc ++ makeN s dict size n f d = T
  len : d.length ≤ n
  d2 : d.length ≤ 2000
  num : f = 40 - (m : Int)
  m40 : m ≤ 40
  fit : d.length ≤ m * size
  accl : acc.length + 74 * m ≤ 2960
  set : SetAt w.heap.size s.ord s.lit s.most wr
  up : Up w wr
theorem MkAt.step {T : List UInt8} {s : SetD} {dict : List UInt8} {size : Nat} {w : World} {m : Nat} {f : Int} {d acc : List UInt8} {n : Nat} {wr wq : World} (h : MkAt T s dict size w m f d acc n wr) (hd : d ≠ []) (hm : 1 ≤ m) (hn : 1 ≤ n) (hs : 1 ≤ size) (hu : Up wr wq)
    {td : List UInt8} (ht : td = textD (blockD s dict f (bs (d.take size)))) (htl : td.length ≤ 74) : MkAt T s dict size w (m - 1) (f + 1) (d.drop size) (acc ++ td) (n - 1) wq := by
  obtain ⟨m, rfl⟩ : ∃ m', m = m' + 1 := ⟨m - 1, by omega⟩
  obtain ⟨n, rfl⟩ : ∃ n', n = n' + 1 := ⟨n - 1, by omega⟩
  obtain ⟨h1, h2, h3, h4, h5, h6, h7, h8, h9⟩ := h
  have hl := List.length_pos_iff.2 hd
  refine ⟨?_, by rw [List.length_drop]; omega, by rw [List.length_drop]; omega, by omega, by omega, ?_, by rw [List.length_append]; omega, box_up hu h8, h9.trans hu⟩
  · rw [← h1, makeN_step hd, ht, List.append_assoc]; rfl
  · rw [Nat.succ_mul] at h6
    rw [List.length_drop]
    show _ ≤ m * size
    omega
def RelMkC (T : List UInt8) (s : SetD) (dict : List UInt8) (size : Nat) (w : World) (f t out : Value) (wr : World) : Prop := ∃ (m n : Nat) (g : Int) (d acc : List UInt8), f = .int .i64 g ∧ t = .string (bs d) ∧ out = .string (bs acc) ∧ MkAt T s dict size w m g d acc n wr

/-- Whether data can be a container of blocks of a size. -/
def mkOk (s : SetD) (dict : List UInt8) (len : Nat) (size : Int) : Bool := fitsB s dict && (inB size 1 64 && (decide ((len : Int) ≤ size * 40) && decide (len ≤ 2000)))
def mkO (s : SetD) (dict d : List UInt8) (size : Int) : Option (List UInt8) := if mkOk s dict d.length size then some (makeN s dict size.toNat d.length 0 d) else none
theorem mkO_none {s : SetD} {dict d : List UInt8} {size : Int} (h : mkOk s dict d.length size = false) : mkO s dict d size = none := by unfold mkO; rw [h]; rfl
theorem optS_none : optS none = .tuple #[.string ByteArray.empty, .bool false] := rfl

end Go.Proofs.Ytnbmkoapohjnmaa
