/- Texts joined into one: the walks and laws that the last text leans on. Conditions: as each says. -/
import Derived.Test.YtiiahjnfbhcgmaaGreatDoorComp
import Derived.Test.YtiiahjnfbhcgmaaGreatDoorBa
import Derived.Test.YtiiahjnfbhcgmaaGreatDoorMFnExactParseWriterLawA
import Derived.Test.YtiiahjnfbhcgmaaGreatDoorSets
import Derived.Test.YtiiahjnfbhcgmaaGreatDoorWk
import Derived.Test.YtiiahjnfbhcgmaaGreatDoorKV
import Derived.Lib.Join
import Derived.Lib.ItoaLen
import Derived.Lib.SplitLaws
import Derived.Lib.ItoaMem

set_option linter.unusedVariables false
set_option linter.unusedSimpArgs false
/- Walks of the reference's functions that make blocks and containers. Conditions: as each says; for the outer ones none but the strings' bound. -/
namespace Go.Proofs.YtiiahjnfbhcgmaaGreatDoor
set_option linter.unusedVariables false
set_option linter.unusedSimpArgs false
open Go Go.RowKit

/-- The block of data. -/
def blockD (s : SetD) (dict : List UInt8) (n : Int) (d : ByteArray) : BlkD := match compW s dict d.data.toList with
  | some st => if st.length < d.size then ⟨n, false, d.size, bs st⟩ else ⟨n, true, d.size, d⟩
  | none => ⟨n, true, d.size, d⟩
/-- The bytes of the blocks of data. -/
def textD (b : BlkD) : List UInt8 := (textB b.num b.raw b.size b.body).data.toList
def makeN (s : SetD) (dict : List UInt8) (size : Nat) : Nat → Int → List UInt8 → List UInt8
  | 0, _, _ => []
  | n + 1, f, d => if d = [] then [] else textD (blockD s dict f (bs (d.take size))) ++ makeN s dict size n (f + 1) (d.drop size)
theorem makeN_step {s : SetD} {dict : List UInt8} {size n : Nat} {f : Int} {d : List UInt8} (hd : d ≠ []) : makeN s dict size (n + 1) f d = textD (blockD s dict f (bs (d.take size))) ++ makeN s dict size n (f + 1) (d.drop size) := by rw [makeN, if_neg hd]
structure MkAt (T : List UInt8) (s : SetD) (dict : List UInt8) (size : Nat) (w : World) (m : Nat) (f : Int) (d acc : List UInt8) (n : Nat) (wr : World) : Prop where
  tot : acc ++ makeN s dict size n f d = T
  len : d.length ≤ n
  d2 : d.length ≤ 2000
  num : f = 40 - (m : Int)
  m40 : m ≤ 40
  fit : d.length ≤ m * size
  accl : acc.length + 74 * m ≤ 2960
  set : SetAt w.heap.size s.ord s.lit s.most wr
  up : Up w wr
theorem MkAt.step {T : List UInt8} {s : SetD} {dict : List UInt8} {size : Nat} {w : World} {m : Nat} {f : Int} {d acc : List UInt8} {n : Nat} {wr wq : World} (h : MkAt T s dict size w m f d acc n wr) (hd : d ≠ []) (hm : 1 ≤ m) (hn : 1 ≤ n) (hs : 1 ≤ size) (hu : Up wr wq)
    {td : List UInt8} (ht : td = textD (blockD s dict f (bs (d.take size)))) (htl : td.length ≤ 74) : MkAt T s dict size w (m - 1) (f + 1) (d.drop size) (acc ++ td) (n - 1) wq := by
  obtain ⟨m, rfl⟩ : ∃ m', m = m' + 1 := ⟨m - 1, by omega⟩
  obtain ⟨n, rfl⟩ : ∃ n', n = n' + 1 := ⟨n - 1, by omega⟩
  obtain ⟨h1, h2, h3, h4, h5, h6, h7, h8, h9⟩ := h
  have hl := List.length_pos_iff.2 hd
  refine ⟨?_, by rw [List.length_drop]; omega, by rw [List.length_drop]; omega, by omega, by omega, ?_, by rw [List.length_append]; omega, box_up hu h8, h9.trans hu⟩
  · rw [← h1, makeN_step hd, ht, List.append_assoc]; rfl
  · rw [Nat.succ_mul] at h6
    rw [List.length_drop]
    show _ ≤ m * size
    omega
end Go.Proofs.YtiiahjnfbhcgmaaGreatDoor

/- Walks of the reference's draws of dictionaries, settings and containers. Conditions: the reader is one (Rdr), its place is bounded; the setting is valid. -/
namespace Go.Proofs.YtiiahjnfbhcgmaaGreatDoor
set_option linter.unusedVariables false
set_option linter.unusedSimpArgs false
open Go Go.RowKit

theorem RdUp.made {rb : Nat} {B : Value} {w w' : World} {p C M : Nat} (hm : Hid (∀ N', Rdr rb B w N' → p ≤ N')) (hg : w.grownBy w' (some rb)) (hr : Rdr rb B w' M) (hM : M ≤ p + C) : RdUp rb B C w w' :=
  ⟨hg, fun N' h' => hr.mono (by have := hm N' h'; omega)⟩
end Go.Proofs.YtiiahjnfbhcgmaaGreatDoor

/- Walks of the reference's draws of a block, from the bytes of an input. Conditions: the bytes can be read. -/
namespace Go.Proofs.YtiiahjnfbhcgmaaGreatDoor
set_option linter.unusedVariables false
set_option linter.unusedSimpArgs false
open Go Go.RowKit

/-- Bytes that are handed in. -/
def ArgU (w : World) (v : Value) (l : List UInt8) : Prop := ∃ (a : Option Addr) (cap : Nat), v = .slice a l.length cap ∧ l.length ≤ cap ∧ cap ≤ maxLen ∧
  (0 < l.length → ∃ b off, a = some ⟨b, off, none⟩ ∧ b < w.heap.size ∧ ∀ i x, l[i]? = some x → w.cell? ⟨b, off + i, none⟩ = some (.int .u8 x.toNat))
theorem ArgU.up {w w' : World} {v : Value} {l : List UInt8} (h : ArgU w v l) (hu : Up w w') : ArgU w' v l := by
  obtain ⟨a, cap, h1, h2, h3, h4⟩ := h
  refine ⟨a, cap, h1, h2, h3, fun hp => ?_⟩
  obtain ⟨b, off, e1, e2, e3⟩ := h4 hp
  exact ⟨b, off, e1, Nat.lt_of_lt_of_le e2 (Below.size hu), fun i x hi => (Below.cell (p := ⟨b, off + i, none⟩) hu e2).trans (e3 i x hi)⟩
end Go.Proofs.YtiiahjnfbhcgmaaGreatDoor

/- Walk of the reference's l5Places. Conditions: the blocks are those of a string (accOk) and can be read. -/
namespace Go.Proofs.YtiiahjnfbhcgmaaGreatDoor
set_option linter.unusedVariables false
set_option linter.unusedSimpArgs false
open Go.RowKit

structure PlaceD where
  place : Int
  start : Int
end Go.Proofs.YtiiahjnfbhcgmaaGreatDoor

/- Walks of the laws' own functions on slices of places and of blocks: equality. Conditions: the rows can be read. -/
namespace Go.Proofs.YtiiahjnfbhcgmaaGreatDoor
set_option linter.unusedVariables false
set_option linter.unusedSimpArgs false
open Go.RowKit

theorem read_cells {w : World} {base : Nat} {e : TypeId} {size n : Nat} {xs : List Value} {g cap : Nat} (h : w.ownsRow base e size (.slice (some ⟨g, 0, none⟩) n cap) n xs) : ∀ j u, xs[j]? = some u → w.cell? ⟨g, j, none⟩ = some u := fun j u hu => ownsRow_cell h hu

end Go.Proofs.YtiiahjnfbhcgmaaGreatDoor

/- Walks of the laws' own functions on slices of places and of blocks: marks, and the look at them. Conditions: the rows are owned; the numbers are small. -/
namespace Go.Proofs.YtiiahjnfbhcgmaaGreatDoor
set_option linter.unusedVariables false
set_option linter.unusedSimpArgs false
open Go.RowKit

theorem set2 (A B : List Value) (c d x y : Value) (m : Nat) (h : A.length = m) : ((A ++ ([c, d] ++ B)).set m x).set (m + 1) y = A ++ ([x, y] ++ B) := by
  subst h
  rw [List.set_append_right _ _ (Nat.le_refl _), List.set_append_right _ _ (by omega)]
  simp
end Go.Proofs.YtiiahjnfbhcgmaaGreatDoor

/- Walks of IndexOf, the program's and the reference's. Conditions: the string's length is below 2^30. -/
namespace Go.Proofs.YtiiahjnfbhcgmaaGreatDoor
set_option linter.unusedVariables false
set_option linter.unusedSimpArgs false
open Go.RowKit

theorem box_other {w : World} {b : Nat} {o : Obj} (h : w.heap[b]? = some o) {p : Addr} (hp : b ≠ p.block) (u : Value) : (w.setCell p u).heap[b]? = some o := by
  rw [Below.heap_setCell _ _ _ _ hp]; exact h

end Go.Proofs.YtiiahjnfbhcgmaaGreatDoor

/- Walks of the laws' own functions that copy places that came in. Conditions: they can be read, and are at most 2^20. -/
namespace Go.Proofs.YtiiahjnfbhcgmaaGreatDoor
set_option linter.unusedVariables false
set_option linter.unusedSimpArgs false
open Go.RowKit

/-- A slice of places that can be read. -/
def ArgP (w : World) (v : Value) (ps : List PlaceD) : Prop := ∃ a cap, v = .slice a ps.length cap ∧ ps.length ≤ maxLen ∧ (0 < ps.length → ∃ b off, a = some ⟨b, off, none⟩ ∧ ps.length ≤ cap ∧ cap ≤ maxLen ∧ b < w.heap.size ∧ ∀ i p, ps[i]? = some p → w.cell? ⟨b, off + i * 2, none⟩ = some (.int .i64 p.place) ∧ w.cell? ⟨b, off + i * 2 + 1, none⟩ = some (.int .i64 p.start))
theorem ArgP.up {w w' : World} {v : Value} {ps : List PlaceD} (h : ArgP w v ps) (hu : Up w w') : ArgP w' v ps := by
  obtain ⟨a, cap, h1, h2, h3⟩ := h
  refine ⟨a, cap, h1, h2, fun hp => ?_⟩
  obtain ⟨b, off, e1, e2, e3, e4, e5⟩ := h3 hp
  exact ⟨b, off, e1, e2, e3, Nat.lt_of_lt_of_le e4 hu.size, fun i p hi => ⟨(hu.cell (p := ⟨b, _, none⟩) e4).trans (e5 i p hi).1, (hu.cell (p := ⟨b, _, none⟩) e4).trans (e5 i p hi).2⟩⟩

end Go.Proofs.YtiiahjnfbhcgmaaGreatDoor

/- Plain: the text of places. Conditions: none. -/
namespace Go.Proofs.YtiiahjnfbhcgmaaGreatDoor
set_option linter.unusedVariables false
set_option linter.unusedSimpArgs false
open Go

/-- A text, or a dash for the empty one. -/
def someL (l : List UInt8) : List UInt8 := if l = [] then [45] else l
theorem join_snoc (xs : List (List UInt8)) (y sep : List UInt8) (h : xs ≠ []) : Lib.join (xs ++ [y]) sep = Lib.join xs sep ++ sep ++ y := by
  cases xs with
  | nil => exact absurd rfl h
  | cons x r =>
    rw [List.cons_append, Lib.join_cons, Lib.join_cons]
    simp [Lib.joinTail]
theorem lens_le (c : Nat) : ∀ xs : List (List UInt8), (∀ x ∈ xs, x.length ≤ c) → Lib.lens xs ≤ c * xs.length
  | [], _ => by simp [Lib.lens]
  | x :: r, h => by
    have h1 := lens_le c r (fun y hy => h y (List.mem_cons_of_mem _ hy))
    have h2 := h x (List.mem_cons_self ..)
    simp only [Lib.lens, List.map_cons, List.sum_cons, List.length_cons, Nat.mul_add, Nat.mul_one] at *
    omega
theorem join_le (c : Nat) (xs : List (List UInt8)) (b : UInt8) (h : ∀ x ∈ xs, x.length ≤ c) : (Lib.join xs [b]).length ≤ (c + 1) * xs.length := by
  cases xs with
  | nil => simp [Lib.join_nil]
  | cons x r =>
    have h1 := lens_le c (x :: r) h
    have h2 := Lib.join_length x r [b]
    have h3 : [b].length * r.length = r.length := by simp
    rw [h2, h3, List.length_cons, Nat.add_mul, Nat.one_mul]
    rw [List.length_cons] at h1
    omega

theorem itoa_le {n : Int} (h0 : -1000000 ≤ n) (h1 : n ≤ 1000000) : (Lib.itoa n).length ≤ 21 := Lib.itoa_length_le n (by omega) (by omega)
end Go.Proofs.YtiiahjnfbhcgmaaGreatDoor

/- The reference's l9Find and l3None. Conditions: fewer than 2^30 bytes. -/
namespace Go.Proofs.YtiiahjnfbhcgmaaGreatDoor
set_option linter.unusedVariables false
set_option linter.unusedSimpArgs false
open Go Go.RowKit

/-- The first place of a byte, or -1. -/
def findL (l : List UInt8) (c : UInt8) : Int := match l.findIdx? (· == c) with
  | some i => (i : Int)
  | none => -1
theorem findL_hit {l : List UInt8} {c : UInt8} {k : Nat} (h : k < l.length) (hc : l[k] = c) (hn : ∀ j (hj : j < l.length), j < k → l[j] ≠ c) : findL l c = k := by
  have : l.findIdx? (· == c) = some k := by
    rw [List.findIdx?_eq_some_iff_getElem]
    exact ⟨h, by simp [hc], fun j hj => by simpa using hn j (by omega) hj⟩
  unfold findL; rw [this]
theorem findL_none {l : List UInt8} {c : UInt8} (hn : ∀ j (hj : j < l.length), l[j] ≠ c) : findL l c = -1 := by
  have : l.findIdx? (· == c) = none := by
    rw [List.findIdx?_eq_none_iff]
    intro x hx
    obtain ⟨j, hj, rfl⟩ := List.getElem_of_mem hx
    simpa using hn j hj
  unfold findL; rw [this]

def RelFd (s : ByteArray) (c : UInt8) (w : World) (i : Value) (wr : World) : Prop := ∃ k : Nat, k ≤ s.size ∧ i = .int .i64 k ∧ (∀ j (hj : j < s.data.toList.length), j < k → s.data.toList[j] ≠ c) ∧ w = wr
set_option maxRecDepth 100000 in
set_option maxHeartbeats 1000000 in
theorem l9Find_any (s : ByteArray) (c : UInt8) (w : World) (hs : s.size ≤ 1073741824) :
    Calls Tryz.prog 107  #[.string s, .int .u8 c.toNat] w (fun e w' => e = .returned (.int .i64 (findL s.data.toList c)) ∧ w = w') := by
  go_enter Tryz.func107, Tryz.ntmps107
  go_wp2
  go_loopw [5] (fun i wr => RelFd s c w i wr) (fun i _ => s.size - (intOf i).toNat)
  case atStart => exact ⟨0, Nat.zero_le _, rfl, fun j hj h => absurd h (Nat.not_lt_zero _), rfl⟩
  case round =>
    obtain ⟨k, hk, rfl, hall, rfl⟩ := hrel
    have HA := Lib.hid hall
    clear hall
    by_cases hlt : k < s.size
    · have hu := u8_bd s[k]
      have hl : k < s.data.toList.length := by simpa using hlt
      by_cases hc : s[k] = c
      · have e : Hid (findL s.data.toList c = k) := findL_hit hl hc HA.out
        have hq : (s[k].toNat : Int) = c.toNat := by rw [hc]
        clear hc
        go_wp2
        go_ret
        exact ⟨by rw [e.out]; rfl, rfl⟩
      · have hN : Hid (∀ j (hj : j < s.data.toList.length), j < k + 1 → s.data.toList[j] ≠ c) := fun j hj hjk => by
          rcases Nat.lt_or_ge j k with h | h
          · exact HA.out j hj h
          · have : j = k := by omega
            subst this; exact hc
        have hq : ((s[k].toNat : Int) == (c.toNat : Int)) = false := by
          rw [beq_eq_false_iff_ne]
          intro e
          exact hc (UInt8.toNat_inj.1 (by omega))
        clear hc
        go_wp2
        go_roundw
        case rel => exact ⟨k + 1, by omega, by go_num, hN.out, rfl⟩
        case measure => simp [intOf]; omega
    · have e : Hid (findL s.data.toList c = -1) := findL_none (fun j hj => HA.out j hj (by have h3 : j < s.data.toList.length := hj; have h4 : s.data.toList.length = s.size := ba_len s; omega))
      go_wp2
      go_ret
      exact ⟨by rw [e.out]; rfl, rfl⟩

/-- A text, or the empty one for a dash. -/
def noneL (l : List UInt8) : List UInt8 := if l = [45] then [] else l
set_option maxRecDepth 100000 in
set_option maxHeartbeats 1000000 in
theorem l3None_any (l : List UInt8) (w : World) : Calls Tryz.prog 83  #[.string (bs l)] w (fun e w' => e = .returned (.string (bs (noneL l))) ∧ w = w') := by
  by_cases h : l = [45]
  · subst h
    have hb : ((bs [45]).toList == (⟨#[45]⟩ : ByteArray).toList) = true := by rw [Lib.toList_data, Lib.toList_data]; rfl
    have hb2 : (bs [45]).toList = [45] := by rw [Lib.toList_data]; rfl
    go_enter Tryz.func83, Tryz.ntmps83
    go_wp2
    go_ret
    exact ⟨rfl, rfl⟩
  · have e : Hid (noneL l = l) := if_neg h
    have hb : ((bs l).toList == (⟨#[45]⟩ : ByteArray).toList) = false := by rw [Lib.toList_data, Lib.toList_data, bs_data]; simpa using h
    have hb2 : ((bs l).toList == [45]) = false := by rw [Lib.toList_data, bs_data]; simpa using h
    have hb3 : ¬ (bs l).toList = [45] := by rw [Lib.toList_data, bs_data]; exact h
    go_enter Tryz.func83, Tryz.ntmps83
    go_wp2
    go_ret
    exact ⟨by rw [e.out]; rfl, rfl⟩

end Go.Proofs.YtiiahjnfbhcgmaaGreatDoor

/- Plain: cutting a text at a byte. Conditions: none. -/
namespace Go.Proofs.YtiiahjnfbhcgmaaGreatDoor
set_option linter.unusedVariables false
set_option linter.unusedSimpArgs false
open Go

/-- The pieces of a text between the bytes c. -/
def splL (c : UInt8) : List UInt8 → List (List UInt8)
  | [] => [[]]
  | b :: r => if b = c then [] :: splL c r else match splL c r with
    | [] => [[b]]
    | x :: t => (b :: x) :: t
theorem splL_cons (c b : UInt8) (r : List UInt8) : splL c (b :: r) = if b = c then [] :: splL c r else match splL c r with
    | [] => [[b]]
    | x :: t => (b :: x) :: t := rfl
/-- xs are the pieces of l. -/
structure IsSpl (c : UInt8) (l : List UInt8) (xs : List (List UInt8)) : Prop where
  ne : xs ≠ []
  no : ∀ x ∈ xs, c ∉ x
  jn : Lib.join xs [c] = l
theorem joinTail_cons (c : UInt8) (x : List UInt8) (t : List (List UInt8)) : Lib.joinTail [c] (x :: t) = c :: (x ++ Lib.joinTail [c] t) := by simp [Lib.joinTail]
theorem splL_is (c : UInt8) : ∀ l, IsSpl c l (splL c l)
  | [] => ⟨by simp [splL], by simp [splL], by simp [splL, Lib.join_one]⟩
  | b :: r => by
    have ih := splL_is c r
    unfold splL
    cases hx : splL c r with
    | nil => exact absurd hx ih.ne
    | cons x t =>
      rw [hx] at ih
      have hj := ih.jn
      rw [Lib.join_cons] at hj
      have hno : ∀ y ∈ t, c ∉ y := fun y hy => ih.no y (List.mem_cons_of_mem _ hy)
      by_cases hb : b = c
      · subst hb
        rw [if_pos rfl]
        exact ⟨by simp, by
          intro y hy
          rcases List.mem_cons.1 hy with rfl | hy
          · simp
          · exact ih.no y hy, by rw [Lib.join_cons, joinTail_cons, hj]; rfl⟩
      · rw [if_neg hb]
        exact ⟨by simp, by
          intro y hy
          rcases List.mem_cons.1 hy with rfl | hy
          · intro h
            rcases List.mem_cons.1 h with h | h
            · exact hb h.symm
            · exact ih.no x (List.mem_cons_self ..) h
          · exact hno y hy, by rw [Lib.join_cons, List.cons_append, hj]⟩
theorem splL_app (c : UInt8) (r : List UInt8) : ∀ x : List UInt8, c ∉ x → splL c (x ++ r) = match splL c r with
    | [] => [x]
    | y :: t => (x ++ y) :: t
  | [], _ => by
    cases h : splL c r with
    | nil => exact absurd h (splL_is c r).ne
    | cons y t => simp [h]
  | b :: x, h => by
    have hb : ¬ b = c := fun e => h (by rw [e]; exact List.mem_cons_self ..)
    have ih := splL_app c r x (fun e => h (List.mem_cons_of_mem _ e))
    rw [List.cons_append, splL_cons, if_neg hb, ih]
    cases h2 : splL c r with
    | nil => exact absurd h2 (splL_is c r).ne
    | cons y t => rfl
theorem splL_tail (c : UInt8) : ∀ (t : List (List UInt8)) (x : List UInt8), c ∉ x → (∀ y ∈ t, c ∉ y) → splL c (x ++ Lib.joinTail [c] t) = x :: t
  | [], x, hx, _ => by
    rw [splL_app c _ x hx]
    simp [Lib.joinTail, splL]
  | y :: t, x, hx, ht => by
    rw [splL_app c _ x hx, joinTail_cons, splL_cons, if_pos rfl, splL_tail c t y (ht y (List.mem_cons_self ..)) (fun z hz => ht z (List.mem_cons_of_mem _ hz))]
    simp
theorem splL_eq {c : UInt8} {l : List UInt8} {xs : List (List UInt8)} (h : IsSpl c l xs) : splL c l = xs := by
  cases xs with
  | nil => exact absurd rfl h.ne
  | cons x t =>
    rw [← h.jn, Lib.join_cons]
    exact splL_tail c t x (h.no x (List.mem_cons_self ..)) (fun y hy => h.no y (List.mem_cons_of_mem _ hy))
theorem splL_join {c : UInt8} {xs : List (List UInt8)} (h0 : xs ≠ []) (h : ∀ x ∈ xs, c ∉ x) : splL c (Lib.join xs [c]) = xs := splL_eq ⟨h0, h, rfl⟩
theorem join_splL (c : UInt8) (l : List UInt8) : Lib.join (splL c l) [c] = l := (splL_is c l).jn
theorem IsSpl.nil (c : UInt8) : IsSpl c [] [[]] := ⟨by simp, by simp, by simp [Lib.join_one]⟩
theorem IsSpl.grow {c : UInt8} {l : List UInt8} {xs : List (List UInt8)} {x : List UInt8} {b : UInt8} (h : IsSpl c l (xs ++ [x])) (hb : b ≠ c) : IsSpl c (l ++ [b]) (xs ++ [x ++ [b]]) := by
  refine ⟨by simp, fun y hy => ?_, ?_⟩
  · rcases List.mem_append.1 hy with hy | hy
    · exact h.no y (List.mem_append_left _ hy)
    · rw [List.mem_singleton] at hy
      subst hy
      intro hc
      rcases List.mem_append.1 hc with hc | hc
      · exact h.no x (by simp) hc
      · rw [List.mem_singleton] at hc; exact hb hc.symm
  · have hj := h.jn
    cases xs with
    | nil => simp only [List.nil_append, Lib.join_one] at hj ⊢; rw [hj]
    | cons y t => rw [join_snoc _ _ _ (by simp)] at hj ⊢; rw [← hj]; simp
theorem IsSpl.cut {c : UInt8} {l : List UInt8} {xs : List (List UInt8)} (h : IsSpl c l xs) : IsSpl c (l ++ [c]) (xs ++ [[]]) := by
  refine ⟨by simp, fun y hy => ?_, ?_⟩
  · rcases List.mem_append.1 hy with hy | hy
    · exact h.no y hy
    · rw [List.mem_singleton] at hy; subst hy; simp
  · rw [join_snoc _ _ _ h.ne, h.jn]; simp
theorem splL_length_le (c : UInt8) : ∀ l, (splL c l).length ≤ l.length + 1
  | [] => by simp [splL]
  | b :: r => by
    have ih := splL_length_le c r
    unfold splL
    split
    · simp; omega
    · split <;> simp_all; omega
theorem splL_piece_le (c : UInt8) : ∀ l, ∀ x ∈ splL c l, x.length ≤ l.length
  | [] => by simp [splL]
  | b :: r => by
    have ih := splL_piece_le c r
    intro x hx
    unfold splL at hx
    split at hx
    · rcases List.mem_cons.1 hx with rfl | hx
      · simp
      · have := ih x hx; simp; omega
    · split at hx
      · simp only [List.mem_singleton] at hx; subst hx; simp
      · rename_i y t he
        rcases List.mem_cons.1 hx with rfl | hx
        · have := ih y (by rw [he]; exact List.mem_cons_self ..); simp; omega
        · have := ih x (by rw [he]; exact List.mem_cons_of_mem _ hx); simp; omega

theorem splitK_splL (c : UInt8) : ∀ l : List UInt8, Lib.splitK [c] 0 (l.count c) l = splL c l
  | [] => rfl
  | b :: r => by
    have ih := splitK_splL c r
    by_cases hb : b = c
    · subst hb
      have hix : Lib.index (b :: r) [b] = 0 := by rw [Lib.index]; simp [List.isPrefixOf]
      rw [List.count_cons_self, Lib.splitK, hix]
      simp only [splL, if_true]
      rw [← ih]; simp
    · have hp : ([c] : List UInt8).isPrefixOf (b :: r) = false := by simp [List.isPrefixOf, Ne.symm hb]
      have hix : Lib.index (b :: r) [c] = if Lib.index r [c] == -1 then -1 else Lib.index r [c] + 1 := by rw [Lib.index, hp]; simp
      rw [List.count_cons_of_ne (by simpa using hb)]
      cases hk : r.count c with
      | zero =>
        rw [hk, Lib.splitK] at ih
        simp only [splL, if_neg hb, Lib.splitK, ← ih]
      | succ k =>
        rw [hk] at ih
        rw [Lib.splitK, hix]
        rw [Lib.splitK] at ih
        by_cases hm : Lib.index r [c] = -1
        · simp only [hm, BEq.rfl, if_true] at ih ⊢
          simp only [splL, if_neg hb, ← ih]
        · have hge := Lib.index_ge r [c]
          obtain ⟨j, hj⟩ : ∃ j : Nat, Lib.index r [c] = j := ⟨(Lib.index r [c]).toNat, by omega⟩
          rw [hj] at ih ⊢
          have e1 : ((j : Int) == -1) = false := by rw [beq_eq_false_iff_ne]; omega
          have e2 : (((j : Int) + 1) == -1) = false := by rw [beq_eq_false_iff_ne]; omega
          have e3 : ((j : Int) + 1).toNat = j + 1 := by omega
          simp only [e1, e2, e3, Int.toNat_natCast, Bool.false_eq_true, if_false, Nat.add_zero, List.length_singleton] at ih ⊢
          simp only [splL, if_neg hb, ← ih]
          simp

/-- The texts ahead of and behind the first byte c. -/
def cutL (c : UInt8) : List UInt8 → Option (List UInt8 × List UInt8)
  | [] => none
  | b :: r => if b = c then some ([], r) else (cutL c r).map fun p => (b :: p.1, p.2)
theorem cutL_cons (c b : UInt8) (r : List UInt8) : cutL c (b :: r) = if b = c then some ([], r) else (cutL c r).map fun p => (b :: p.1, p.2) := rfl
theorem cutL_some {c : UInt8} : ∀ {l x y : List UInt8}, cutL c l = some (x, y) → l = x ++ c :: y ∧ c ∉ x
  | [], x, y, h => by simp [cutL] at h
  | b :: r, x, y, h => by
    unfold cutL at h
    by_cases hb : b = c
    · rw [if_pos hb] at h
      simp only [Option.some.injEq, Prod.mk.injEq] at h
      obtain ⟨rfl, rfl⟩ := h
      exact ⟨by rw [hb]; rfl, by simp⟩
    · rw [if_neg hb] at h
      cases hr : cutL c r with
      | none => rw [hr] at h; simp at h
      | some p =>
        obtain ⟨x', y'⟩ := p
        rw [hr] at h
        simp only [Option.map_some, Option.some.injEq, Prod.mk.injEq] at h
        obtain ⟨rfl, rfl⟩ := h
        obtain ⟨h1, h2⟩ := cutL_some hr
        refine ⟨by rw [h1]; rfl, fun hc => ?_⟩
        rcases List.mem_cons.1 hc with e | e
        · exact hb e.symm
        · exact h2 e
theorem cutL_app {c : UInt8} {y : List UInt8} : ∀ {x : List UInt8}, c ∉ x → cutL c (x ++ c :: y) = some (x, y)
  | [], _ => by simp [cutL]
  | b :: x, h => by
    have hb : ¬ b = c := fun e => h (by rw [e]; exact List.mem_cons_self ..)
    rw [List.cons_append, cutL, if_neg hb, cutL_app (fun e => h (List.mem_cons_of_mem _ e))]
    rfl
theorem cutL_none {c : UInt8} : ∀ {l : List UInt8}, cutL c l = none → c ∉ l
  | [], _ => by simp
  | b :: r, h => by
    unfold cutL at h
    by_cases hb : b = c
    · rw [if_pos hb] at h; simp at h
    · rw [if_neg hb] at h
      have := cutL_none (Option.map_eq_none_iff.1 h)
      intro hc
      rcases List.mem_cons.1 hc with e | e
      · exact hb e.symm
      · exact this e
theorem findL_cut {c : UInt8} {l x y : List UInt8} (h : cutL c l = some (x, y)) : findL l c = (x.length : Int) := by
  obtain ⟨rfl, h2⟩ := cutL_some h
  refine findL_hit (by simp) (by simp) fun j hj hjx => ?_
  rw [List.getElem_append_left hjx]
  exact fun e => h2 (by rw [← e]; exact List.getElem_mem _)
theorem findL_cut_none {c : UInt8} {l : List UInt8} (h : cutL c l = none) : findL l c = -1 :=
  findL_none fun j hj e => cutL_none h (by rw [← e]; exact List.getElem_mem _)
theorem index_cut (c : UInt8) : ∀ l : List UInt8, Lib.index l [c] = match cutL c l with
    | some p => (p.1.length : Int)
    | none => -1
  | [] => rfl
  | b :: r => by
    have ih := index_cut c r
    by_cases hb : b = c
    · subst hb
      rw [Lib.index]; simp [List.isPrefixOf, cutL]
    · have hp : ([c] : List UInt8).isPrefixOf (b :: r) = false := by simp [List.isPrefixOf, Ne.symm hb]
      have hix : Lib.index (b :: r) [c] = if Lib.index r [c] == -1 then -1 else Lib.index r [c] + 1 := by rw [Lib.index, hp]; simp
      rw [hix, ih, cutL_cons, if_neg hb]
      cases hc : cutL c r with
      | none => simp
      | some p =>
        have e1 : ((p.1.length : Int) == -1) = false := by rw [beq_eq_false_iff_ne]; omega
        simp [e1]
theorem cut_cutL (c : UInt8) (l : List UInt8) : Lib.cut l [c] = match cutL c l with
    | some p => (p.1, p.2, true)
    | none => (l, [], false) := by
  unfold Lib.cut
  rw [index_cut]
  cases h : cutL c l with
  | none => simp
  | some p =>
    obtain ⟨x, y⟩ := p
    obtain ⟨rfl, -⟩ := cutL_some h
    simp

/-- All of a list, or nothing. -/
def allP {α β : Type} (f : α → Option β) : List α → Option (List β)
  | [] => some []
  | x :: r => match f x with
    | none => none
    | some y => (allP f r).map (y :: ·)
theorem allP_iff {α β : Type} {f : α → Option β} : ∀ {xs : List α} {ys : List β}, allP f xs = some ys ↔ xs.map f = ys.map some
  | [], ys => by
    simp only [allP, Option.some.injEq, List.map_nil]
    constructor
    · rintro rfl; rfl
    · intro h; exact (List.map_eq_nil_iff.1 h.symm).symm
  | x :: r, ys => by
    unfold allP
    cases hx : f x with
    | none =>
      simp only [List.map_cons, hx]
      cases ys with
      | nil => simp
      | cons y t => simp
    | some y =>
      simp only [List.map_cons, hx, Option.map_eq_some_iff]
      constructor
      · rintro ⟨t, ht, rfl⟩
        rw [allP_iff.1 ht]; rfl
      · intro h
        cases ys with
        | nil => simp at h
        | cons z t =>
          simp only [List.map_cons, List.cons.injEq, Option.some.injEq] at h
          obtain ⟨rfl, h⟩ := h
          exact ⟨t, allP_iff.2 h, rfl⟩
theorem allP_take_succ {α β : Type} {f : α → Option β} {xs : List α} {ys : List β} {y : β} {k : Nat} (hk : k < xs.length) (h : allP f (xs.take k) = some ys) (hy : f xs[k] = some y) : allP f (xs.take (k + 1)) = some (ys ++ [y]) := by
  rw [allP_iff] at h ⊢
  rw [List.take_succ_eq_append_getElem hk, List.map_append, h, List.map_append]
  simp [hy]
theorem allP_len {α β : Type} {f : α → Option β} {xs : List α} {ys : List β} (h : allP f xs = some ys) : ys.length = xs.length := by
  have := congrArg List.length (allP_iff.1 h)
  simpa using this.symm
theorem allP_none {α β : Type} {f : α → Option β} {xs : List α} {k : Nat} (hk : k < xs.length) (h : f xs[k] = none) : allP f xs = none := by
  cases ha : allP f xs with
  | none => rfl
  | some ys =>
    have h1 := allP_iff.1 ha
    have h2 : (xs.map f)[k]? = some none := by simp [hk, h]
    rw [h1] at h2
    simp at h2
theorem allP_map {α β γ : Type} {f : α → Option β} {g : γ → α} {ys : List γ} {q : γ → β} (h : ∀ y ∈ ys, f (g y) = some (q y)) : allP f (ys.map g) = some (ys.map q) := by
  rw [allP_iff, List.map_map, List.map_map]
  exact List.map_congr_left fun y hy => h y hy
theorem allP_text {α β : Type} {f : α → Option β} {g : β → α} {xs : List α} {ys : List β} (h : allP f xs = some ys) (hg : ∀ x y, f x = some y → x = g y) : xs = ys.map g := by
  have h1 := allP_iff.1 h
  clear h
  induction xs generalizing ys with
  | nil => cases ys with
    | nil => rfl
    | cons _ _ => simp at h1
  | cons x r ih => cases ys with
    | nil => simp at h1
    | cons y t =>
      simp only [List.map_cons, List.cons.injEq] at h1
      rw [List.map_cons, hg x y h1.1, ← ih h1.2]

end Go.Proofs.YtiiahjnfbhcgmaaGreatDoor

/- The reference's decimal text of a number. Conditions: at most a million. -/
namespace Go.Proofs.YtiiahjnfbhcgmaaGreatDoor
set_option linter.unusedVariables false
set_option linter.unusedSimpArgs false
open Go.RowKit

theorem dec_big {m : Nat} (h : ¬ m < 10) : Lib.decDigits m = Lib.decDigits (m / 10) ++ [UInt8.ofNat (48 + m % 10)] := by rw [Lib.decDigits, dif_neg h]
theorem dec_len {n : Nat} (h : n ≤ 1000000) : (Lib.decDigits n).length ≤ 20 := by rw [Lib.decDigits_length]; exact Lib.nDigits_le20 n (by omega)
theorem digit_num (m : Nat) (h : m < 10) : strOfNums [48 + (m : Int)] = bs [UInt8.ofNat (48 + m)] := by
  have : ([UInt8.ofNat (48 + m)].map fun b => (b.toNat : Int)) = [48 + (m : Int)] := by
    simp; omega
  rw [← this, bs_num]
def RelDc (n : Nat) (w : World) (v out : Value) (wr : World) : Prop := ∃ (m : Nat) (l : List UInt8), m ≤ n ∧ l.length ≤ 20 ∧ Lib.decDigits m ++ l = Lib.decDigits n ∧ v = .int .i64 m ∧ out = .string (bs l) ∧ Up w wr

set_option maxRecDepth 100000 in
set_option maxHeartbeats 1000000 in
theorem decN_any (n : Nat) (w : World) (hn : n ≤ 1000000) :
    Calls Tryz.prog 105  #[.int .i64 n] w (Same (.string (bs (Lib.decDigits n))) w) := by
  have hc := conv_new1
  have hlen := dec_len hn
  go_enter Tryz.func105, Tryz.ntmps105
  go_wp2
  go_loopw [0, 3] (fun v out wr => RelDc n w v out wr) (fun v _ _ => (intOf v).toNat)
  case atStart => exact ⟨n, [], Nat.le_refl _, by simp, by simp, rfl, rfl, Up.refl _⟩
  case round =>
    obtain ⟨m, l, hm, hl, he, rfl, rfl, hup⟩ := hrel
    have hcl := bs_size l
    have z1 := strOfNums_size
    have HE := Lib.hid he
    have HL := Lib.hid hlen
    clear he hlen
    by_cases hlt : 9 < m
    · have HD : Hid (strOfNums [48 + (m : Int) % 10] = bs [UInt8.ofNat (48 + m % 10)]) := by unfold Hid; rw [show (48 + (m : Int) % 10) = 48 + ((m % 10 : Nat) : Int) by omega, digit_num _ (by omega)]
      have HC := Lib.hid (dec_big (m := m) (by omega))
      have HN : Hid (Lib.decDigits (m / 10) ++ (UInt8.ofNat (48 + m % 10) :: l) = Lib.decDigits n) := by
        have h1 := HE.out; rw [HC.out, List.append_assoc] at h1; exact h1
      have HZ : Hid (l.length + 1 ≤ 20) := by
        have h1 := congrArg List.length HN.out
        have h2 := HL.out
        simp only [List.length_append, List.length_cons] at h1
        show l.length + 1 ≤ 20
        omega
      clear HC HE
      go_wp2
      go_roundw
      case rel => exact ⟨m / 10, UInt8.ofNat (48 + m % 10) :: l, by omega, by have := HZ.out; simpa using this, HN.out, by go_num, by rw [HD.out, bs_app]; rfl, by (repeat (first | with_reducible exact Up.refl _ | with_reducible assumption | with_reducible refine Up.set ?_ (by first | exact Nat.le_refl _ | (simp only []; omega) | (simp; omega)) _ | with_reducible refine Up.alloc ?_ _ | with_reducible refine Up.drew ?_ | refine Up.trans ?_ (by with_reducible assumption)))⟩
      case measure => simp [intOf]; omega
    · have HD : Hid (strOfNums [48 + (m : Int)] = bs [UInt8.ofNat (48 + m)]) := by unfold Hid; rw [digit_num _ (by omega)]
      have HX : Hid (bs [UInt8.ofNat (48 + m)] ++ bs l = bs (Lib.decDigits n)) := by
        unfold Hid
        rw [bs_app, ← HE.out, Lib.decDigits_one (by omega)]
      clear HE
      go_wp2
      go_ret
      exact ⟨by rw [HD.out, HX.out]; rfl, by (repeat (first | with_reducible exact Up.refl _ | with_reducible assumption | with_reducible refine Up.set ?_ (by first | exact Nat.le_refl _ | (simp only []; omega) | (simp; omega)) _ | with_reducible refine Up.alloc ?_ _ | with_reducible refine Up.drew ?_ | refine Up.trans ?_ (by with_reducible assumption)))⟩

set_option maxRecDepth 100000 in
set_option maxHeartbeats 1000000 in
theorem dec_any (n : Int) (w : World) (h0 : -1000000 ≤ n) (h1 : n ≤ 1000000) :
    Calls Tryz.prog 105  #[.int .i64 n] w (Same (.string (bs (Lib.itoa n))) w) := by
  by_cases hn : 0 ≤ n
  · obtain ⟨m, rfl⟩ := Int.eq_ofNat_of_zero_le hn
    rw [show Lib.itoa ((m : Nat) : Int) = Lib.decDigits m from Lib.itoa_nonneg m]
    exact decN_any m w (by omega)
  · have hc := fun wx => decN_any n.natAbs wx (by omega)
    have he : -n = (n.natAbs : Int) := by omega
    have hl := dec_len (n := n.natAbs) (by omega)
    have hb := bs_size (Lib.decDigits n.natAbs)
    have HX : Hid ((⟨#[45]⟩ : ByteArray) ++ bs (Lib.decDigits n.natAbs) = bs (Lib.itoa n)) := by
      have e1 : Lib.itoa n = [45] ++ Lib.decDigits n.natAbs := by unfold Lib.itoa; rw [if_pos (by omega)]; rfl
      unfold Hid
      rw [e1, ← bs_app]; rfl
    generalize Lib.decDigits n.natAbs = D at *
    go_enter Tryz.func105, Tryz.ntmps105
    go_wp2_with (go_at_call 105; (try rw [he]); (with_reducible refine (hc _).mono ?_); rintro e w1 ⟨rfl, U1⟩)
    go_ret
    exact ⟨by rw [HX.out]; rfl, U1⟩

end Go.Proofs.YtiiahjnfbhcgmaaGreatDoor

/- FormatIndex of the reference. Conditions: the places can be read, at most 2^20. -/
namespace Go.Proofs.YtiiahjnfbhcgmaaGreatDoor
set_option linter.unusedVariables false
set_option linter.unusedSimpArgs false
open Go Go.RowKit

theorem bs_nil : bs [] = ⟨#[]⟩ := rfl
set_option maxRecDepth 100000 in
set_option maxHeartbeats 1000000 in
theorem l3Some_any (l : List UInt8) (w : World) : Calls Tryz.prog 73  #[.string (bs l)] w (fun e w' => e = .returned (.string (bs (someL l))) ∧ w = w') := by
  by_cases h : l = []
  · subst h
    have hb : (bs []).toList.isEmpty = true := by rw [Lib.toList_data, bs_data]; rfl
    go_enter Tryz.func73, Tryz.ntmps73
    go_wp2
    go_ret
    exact ⟨rfl, rfl⟩
  · have e : Hid (someL l = l) := if_neg h
    have hb : (bs l).toList.isEmpty = false := by rw [Lib.toList_data, bs_data]; cases l with | nil => exact absurd rfl h | cons _ _ => rfl
    rw [e.out]
    go_enter Tryz.func73, Tryz.ntmps73
    go_wp2
    go_ret
    exact ⟨rfl, rfl⟩

end Go.Proofs.YtiiahjnfbhcgmaaGreatDoor

/- Slices of strings: what can be read, what has been made. Conditions: as each says. -/
namespace Go.Proofs.YtiiahjnfbhcgmaaGreatDoor
set_option linter.unusedVariables false
set_option linter.unusedSimpArgs false
open Go Go.RowKit

theorem infoStr : (Tryz.prog.info? 9).map (fun i => (i.zero, i.size, i.bytes)) = some (some (.string ByteArray.empty), 1, 16) := by kernel_rfl
def cellsS (l : List ByteArray) : List Value := l.map Value.string
/-- A slice of strings that can be read. -/
def ArgS (w : World) (v : Value) (l : List ByteArray) : Prop := ∃ a cap, v = .slice a l.length cap ∧ l.length ≤ maxLen ∧ (∀ s ∈ l, s.size ≤ maxLen) ∧ (0 < l.length → ∃ b off, a = some ⟨b, off, none⟩ ∧ l.length ≤ cap ∧ cap ≤ maxLen ∧ b < w.heap.size ∧ ∀ i s, l[i]? = some s → w.cell? ⟨b, off + i, none⟩ = some (.string s))
theorem ArgS.up {w w' : World} {v : Value} {l : List ByteArray} (h : ArgS w v l) (hu : Up w w') : ArgS w' v l := by
  obtain ⟨a, cap, h1, h2, h2', h3⟩ := h
  refine ⟨a, cap, h1, h2, h2', fun hp => ?_⟩
  obtain ⟨b, off, e1, e2, e3, e4, e5⟩ := h3 hp
  exact ⟨b, off, e1, e2, e3, Nat.lt_of_lt_of_le e4 hu.size, fun i p hi => (hu.cell (p := ⟨b, _, none⟩) e4).trans (e5 i p hi)⟩
def ownS (w : World) (base : Nat) (v : Value) (l : List ByteArray) : Prop := w.ownsRow base 9 1 v l.length (cellsS l)
theorem ArgS.of_own {w : World} {base : Nat} {v : Value} {l : List ByteArray} (h : ownS w base v l) (hs : ∀ s ∈ l, s.size ≤ maxLen) : ArgS w v l := by
  rcases ownsRow_read h with ⟨rfl, h2⟩ | ⟨g, cap, rfl, h1, h2, h3, h4, h5⟩
  · exact ⟨none, 0, by rw [h2], by rw [h2]; exact Nat.zero_le _, hs, fun h => by omega⟩
  · refine ⟨some ⟨g, 0, none⟩, cap, rfl, by omega, hs, fun _ => ⟨g, 0, rfl, h1, h2, h4, fun i x hi => ?_⟩⟩
    rw [Nat.zero_add]
    refine h5 _ _ ?_
    simp [cellsS, hi]
theorem ArgS.at {w : World} {a : Option Addr} {n c : Nat} {l : List ByteArray} (h : ArgS w (.slice a n c) l) {i : Nat} (hi : i < l.length) : ∃ b off, a = some ⟨b, off, none⟩ ∧ b < w.heap.size ∧ w.cell? ⟨b, off + i, none⟩ = some (.string l[i]) ∧ n = l.length ∧ n ≤ c ∧ c ≤ maxLen := by
  obtain ⟨a', c', e, h1, h2, h3⟩ := h
  cases e
  obtain ⟨b, off, e1, e2, e3, e4, e5⟩ := h3 (by omega)
  exact ⟨b, off, e1, e4, e5 i _ (List.getElem?_eq_getElem hi), rfl, e2, e3⟩

end Go.Proofs.YtiiahjnfbhcgmaaGreatDoor

/- Texts joined into one: Eqb, Law. Conditions: as each says. -/

/- Walks of the laws' helpers that take a setting over and compare blocks. Conditions: none. -/
namespace Go.Proofs.YtiiahjnfbhcgmaaGreatDoor
set_option linter.unusedVariables false
set_option linter.unusedSimpArgs false
open Go Go.RowKit

end Go.Proofs.YtiiahjnfbhcgmaaGreatDoor

/- The end of every law's row: the call answers true and nothing that was there has turned. Conditions: those of post_law. -/
namespace Go.Proofs.YtiiahjnfbhcgmaaGreatDoor
set_option linter.unusedVariables false
set_option linter.unusedSimpArgs false
open Go.ChangeShapes Go.WideShapes Go.ChangeAt Go.RowKit

theorem TryzlaidOut : laidOutB Tryz.prog = true := by kernel_rfl
theorem own : ownKnob Tryz.prog.godebug = none := by kernel_rfl

theorem trodAll_up {H : Type} {enc : TypeId × Value → H} {P : Program} (hl : laidOutB P = true) {W W' : World} (hb : Below W.heap.size W W') : ∀ (ts : List TypeId) (vs : List Value) (ds : List (DataW H)) (ps : List MemPlace),
    (∀ t ∈ ts, P.readableRec t = true ∧ t < P.types.size) → (∀ x ∈ ps, x.block < W.heap.size) → DataW.TrodAll enc P W 0 (fun _ => true) true ts vs ds ps → DataW.TrodAll enc P W' 0 (fun b => decide (b < W.heap.size)) true ts vs ds ps
  | [], [], [], _, _, _, h => h
  | t :: ts, v :: vs, d :: ds, ps, ht, hp, h => by
    obtain ⟨p, q, h1, h2, rfl⟩ := h
    refine ⟨p, q, Below.trod hl (ht t (List.mem_cons_self ..)).1 (ht t (List.mem_cons_self ..)).2 h1 hb fun x hx => hp x (List.mem_append_left _ hx), ?_, rfl⟩
    exact trodAll_up hl hb ts vs ds q (fun t h => ht t (List.mem_cons_of_mem _ h)) (fun x hx => hp x (List.mem_append_right _ hx)) h2
  | [], _ :: _, _, _, _, _, h => h.elim
  | _ :: _, [], _, _, _, _, h => h.elim
  | [], [], _ :: _, _, _, _, h => h.elim
  | _ :: _, _ :: _, [], _, _, _, h => h.elim

theorem post_law {H : Type} {enc : TypeId × Value → H} {P : Program} {f : Func} {s : ChangeSpec} {W W' : World} {args : Array Value} {ds gs : List (DataW H)} {before : List MemPlace} {tb : TypeId}
    (hl : laidOutB P = true) (hp : (f.params.all fun t => P.readableRec t && decide (t < P.types.size)) = true) (hrt : f.resultTypes = #[tb]) (htb : P.underlying tb = some .bool) (hvars : s.vars = [])
    (hW : DataW.Whole enc P f.params.toList s.vars false W args.toList ds gs before) (hs : ∀ ds' : List (DataW H), ds' = ds → (s.fn H ds').results = [.lit (.bool true)] ∧ (s.fn H ds').args = ds ∧ (s.fn H ds').vars = []) (hb : Up W W') :
    s.post enc P f false true false false W args (.bool true) W' := by
  have hlt := fun p hp => hW.lt (p := p) hp
  obtain ⟨p, q, hA, hV, rfl, hz, hn⟩ := id hW
  rw [hvars] at hV
  obtain ⟨rfl, rfl⟩ := trodVars_none hV
  obtain ⟨e1, e2, e3⟩ := hs (ds ++ []) (by simp)
  refine ⟨ds, [], p ++ [], [], p, [], hW, ?_, ?_, ?_, ?_, fun h => by cases h⟩
  · rw [e1, hrt]
    exact trodAll_mk1 (shut_bool htb true)
  · rw [e2]
    refine trodAll_up hl hb _ _ _ _ (fun t ht => ?_) (fun x hx => hlt x (by simpa using hx)) hA
    have := Array.all_eq_true_iff_forall_mem.1 hp t (by simpa using ht)
    simpa using this
  · rw [e3, hvars]
    rfl
  · exact hb.frame _

end Go.Proofs.YtiiahjnfbhcgmaaGreatDoor

