/- Walks of the reference's functions that make blocks and containers. Conditions: as each says; for the outer ones none but the strings' bound. -/
import Derived.Test.YtbimdjlcjcdbnaaComp
import Derived.Test.YtbimdjlcjcdbnaaBa
namespace Go.Proofs.Ytbimdjlcjcdbnaa
set_option linter.unusedVariables false
set_option linter.unusedSimpArgs false
open Go Go.RowKit

/-- The block of data. -/
def blockD (s : SetD) (dict : List UInt8) (n : Int) (d : ByteArray) : BlkD := match compW s dict d.data.toList with
  | some st => if st.length < d.size then ⟨n, false, d.size, bs st⟩ else ⟨n, true, d.size, d⟩
  | none => ⟨n, true, d.size, d⟩
theorem blockD_bd (s : SetD) (dict : List UInt8) (n : Int) (d : ByteArray) : (blockD s dict n d).num = n ∧ (blockD s dict n d).size = d.size ∧ (blockD s dict n d).body.size ≤ d.size := by
  unfold blockD
  split
  · split
    · exact ⟨rfl, rfl, by rw [bs_size]; omega⟩
    · exact ⟨rfl, rfl, Nat.le_refl _⟩
  · exact ⟨rfl, rfl, Nat.le_refl _⟩
theorem blk_eta (b : BlkD) : blkV b = .agg #[.int .i64 b.num, .bool b.raw, .int .i64 b.size, .string b.body] := rfl

/-- Whether data can be a block. -/
def blkOk (s : SetD) (dict : List UInt8) (n : Int) (len : Nat) : Bool := fitsB s dict && (inB n 0 39 && inB len 1 64)
def blkO (s : SetD) (dict : List UInt8) (n : Int) (d : ByteArray) : Value := if blkOk s dict n d.size then .tuple #[blkV (blockD s dict n d), .bool true] else .tuple #[blkV ⟨0, false, 0, ByteArray.empty⟩, .bool false]

/-- The bytes of the blocks of data. -/
def textD (b : BlkD) : List UInt8 := (textB b.num b.raw b.size b.body).data.toList
def makeN (s : SetD) (dict : List UInt8) (size : Nat) : Nat → Int → List UInt8 → List UInt8
  | 0, _, _ => []
  | n + 1, f, d => if d = [] then [] else textD (blockD s dict f (bs (d.take size))) ++ makeN s dict size n (f + 1) (d.drop size)
theorem makeN_nil (s : SetD) (dict : List UInt8) (size n : Nat) (f : Int) : makeN s dict size n f [] = [] := by cases n <;> simp [makeN]
theorem makeN_step {s : SetD} {dict : List UInt8} {size n : Nat} {f : Int} {d : List UInt8} (hd : d ≠ []) : makeN s dict size (n + 1) f d = textD (blockD s dict f (bs (d.take size))) ++ makeN s dict size n (f + 1) (d.drop size) := by rw [makeN, if_neg hd]
theorem textD_len (b : BlkD) (h : b.body.size ≤ 64) : (textD b).length ≤ 74 := by
  have e : (textD b).length = (textB b.num b.raw b.size b.body).size := rfl
  rw [e]
  simp [textB, inner, strOfNums_size, two_size]
  omega
structure MkAt (T : List UInt8) (s : SetD) (dict : List UInt8) (size : Nat) (w : World) (m : Nat) (f : Int) (d acc : List UInt8) (n : Nat) (wr : World) : Prop where
  tot : acc ++ makeN s dict size n f d = T
  len : d.length ≤ n
  d2 : d.length ≤ 2000
  num : f = 40 - (m : Int)
  m40 : m ≤ 40
  fit : d.length ≤ m * size
  accl : acc.length + 74 * m ≤ 2960
  set : SetAt w.heap.size s.ord s.lit s.most wr
  up : Up w wr
theorem MkAt.step {T : List UInt8} {s : SetD} {dict : List UInt8} {size : Nat} {w : World} {m : Nat} {f : Int} {d acc : List UInt8} {n : Nat} {wr wq : World} (h : MkAt T s dict size w m f d acc n wr) (hd : d ≠ []) (hm : 1 ≤ m) (hn : 1 ≤ n) (hs : 1 ≤ size) (hu : Up wr wq)
    {td : List UInt8} (ht : td = textD (blockD s dict f (bs (d.take size)))) (htl : td.length ≤ 74) : MkAt T s dict size w (m - 1) (f + 1) (d.drop size) (acc ++ td) (n - 1) wq := by
  obtain ⟨m, rfl⟩ : ∃ m', m = m' + 1 := ⟨m - 1, by omega⟩
  obtain ⟨n, rfl⟩ : ∃ n', n = n' + 1 := ⟨n - 1, by omega⟩
  obtain ⟨h1, h2, h3, h4, h5, h6, h7, h8, h9⟩ := h
  have hl := List.length_pos_iff.2 hd
  refine ⟨?_, by rw [List.length_drop]; omega, by rw [List.length_drop]; omega, by omega, by omega, ?_, by rw [List.length_append]; omega, box_up hu h8, h9.trans hu⟩
  · rw [← h1, makeN_step hd, ht, List.append_assoc]; rfl
  · rw [Nat.succ_mul] at h6
    rw [List.length_drop]
    show _ ≤ m * size
    omega
def RelMkC (T : List UInt8) (s : SetD) (dict : List UInt8) (size : Nat) (w : World) (f t out : Value) (wr : World) : Prop := ∃ (m n : Nat) (g : Int) (d acc : List UInt8), f = .int .i64 g ∧ t = .string (bs d) ∧ out = .string (bs acc) ∧ MkAt T s dict size w m g d acc n wr

/-- Whether data can be a container of blocks of a size. -/
def mkOk (s : SetD) (dict : List UInt8) (len : Nat) (size : Int) : Bool := fitsB s dict && (inB size 1 64 && (decide ((len : Int) ≤ size * 40) && decide (len ≤ 2000)))
def mkO (s : SetD) (dict d : List UInt8) (size : Int) : Option (List UInt8) := if mkOk s dict d.length size then some (makeN s dict size.toNat d.length 0 d) else none
theorem mkO_none {s : SetD} {dict d : List UInt8} {size : Int} (h : mkOk s dict d.length size = false) : mkO s dict d size = none := by unfold mkO; rw [h]; rfl
theorem optS_none : optS none = .tuple #[.string ByteArray.empty, .bool false] := rfl

end Go.Proofs.Ytbimdjlcjcdbnaa
