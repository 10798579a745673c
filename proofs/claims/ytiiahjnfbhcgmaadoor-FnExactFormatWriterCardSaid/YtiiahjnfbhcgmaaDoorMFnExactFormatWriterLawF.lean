/- Texts joined into one: the walks and laws that the last text leans on. Conditions: as each says. -/
import Derived.Test.YtiiahjnfbhcgmaaDoorTree9
import Derived.Test.YtiiahjnfbhcgmaaDoorTree7
import Derived.Test.YtiiahjnfbhcgmaaDoorGw
import Derived.Test.YtiiahjnfbhcgmaaDoorMFnExactFormatWriterLawE
import Derived.Test.YtiiahjnfbhcgmaaDoorOm
import Derived.Test.YtiiahjnfbhcgmaaDoorFo
import Derived.Test.YtiiahjnfbhcgmaaDoorKvG
import Derived.Test.YtiiahjnfbhcgmaaDoorLearn
import Derived.Test.YtiiahjnfbhcgmaaDoorStep
import Derived.Test.YtiiahjnfbhcgmaaDoorPack
import Derived.Test.YtiiahjnfbhcgmaaDoorComp
import Derived.Test.YtiiahjnfbhcgmaaDoorBa

set_option linter.unusedVariables false
set_option linter.unusedSimpArgs false
/- Walk of the program's greedy. Conditions: what is known is valid and can be read; the data fits. -/
namespace Go.Proofs.YtiiahjnfbhcgmaaDoor
set_option linter.unusedVariables false
set_option linter.unusedSimpArgs false
open Go Go.RowKit

theorem TreeAt.base {lo lo' tb : Nat} {k : KnD} {vp vn vi : Value} {w : World} (h : TreeAt lo tb k vp vn vi w) (hl : lo' ≤ lo) : TreeAt lo' tb k vp vn vi w := ⟨h.box, Nat.le_trans hl h.low, ownsRow_base h.prs hl, ownsRow_base h.nod hl, ownsRow_base h.idx hl⟩
/-- The memory of greedy: the tree, and the row of codes. -/
structure GiW (w : World) (tb : Nat) (k : KnD) (vp vn vi vc : Value) (acc : List Int) (wr : World) : Prop where
  tree : TreeAt w.heap.size tb k vp vn vi wr
  own : ownI wr w.heap.size vc acc
  sep : ∀ b, vc.ownBlock = some b → ¬ Own tb vp vn vi b
  up : Up w wr
theorem GiW.upd {w : World} {tb : Nat} {k : KnD} {vp vn vi vc : Value} {acc : List Int} {wr w' : World} (h : GiW w tb k vp vn vi vc acc wr) (hu : Up wr w') : GiW w tb k vp vn vi vc acc w' := ⟨h.tree.up hu, ownsRow_up h.own hu, h.sep, h.up.trans hu⟩
theorem GiW.app {w : World} {tb : Nat} {k : KnD} {vp vn vi vc : Value} {acc : List Int} {wr w' : World} (h : GiW w tb k vp vn vi vc acc wr) {o : Obj} {x : Int} {v' : Value} (hv : w'.ownsRow w.heap.size 3 1 v' (acc.length + 1) (cellsI acc ++ [.int .i64 x])) (hg : (wr.alloc o).grownBy w' vc.ownBlock) (hn : NewOr (wr.alloc o).heap.size vc v') : GiW w tb k vp vn vi v' (acc ++ [x]) w' := by
  have hA := h.upd (Up.alloc (Up.refl wr) o)
  have hFr : Fr (fun b => vc.ownBlock = some b) (wr.alloc o) w' := (Fr.refl _ _).gr hg (fun b hb => .inl hb)
  refine ⟨hA.tree.fr hFr (fun b hb e => hA.sep b e hb), ?_, ?_, hA.up.grown hg (fun b hb => (hA.own.lt b hb).1)⟩
  · rw [← cellsI_snoc] at hv
    exact ownsRow_n hv (by simp)
  · intro b hb ho
    rcases hn b hb with h1 | h1
    · exact hA.sep b h1 ho
    · have := (hA.tree.own_lo b ho).2; omega
/-- The plain state at a round's beginning, and behind the clear code of a round. -/
structure GiD (T : List Int) (k0 : KnD) (m : Nat) (k : KnD) (d : List UInt8) (acc : List Int) : Prop where
  len : d.length ≤ m
  le : d.length ≤ 2000
  sum : acc.length + 2 * d.length ≤ 4001
  tot : acc ++ (if k.full = true ∧ d ≠ [] then (k.c : Int) :: greedyN m k.cleared d else greedyN m k d) = T
  ok : k.Ok
  set : k.set = k0.set
  lit : ∀ b ∈ d, b.toNat < k0.c
structure GiE (T : List Int) (k0 : KnD) (m : Nat) (k : KnD) (d : List UInt8) (acc : List Int) : Prop where
  len : d.length ≤ m
  le : d.length ≤ 2000
  sum : acc.length + 2 * d.length ≤ 4002
  tot : acc ++ greedyN m k d = T
  ok : k.Ok
  set : k.set = k0.set
  lit : ∀ b ∈ d, b.toNat < k0.c
theorem c_of {k k0 : KnD} (h : k.set = k0.set) : k.c = k0.c := by unfold KnD.c; rw [h]
theorem GiD.nil {T : List Int} {k0 : KnD} {m : Nat} {k : KnD} {acc : List Int} (h : GiD T k0 m k [] acc) : acc ++ [(clr k0.set : Int) + 1] = T := by
  have h1 := h.tot
  rw [if_neg (fun h => h.2 rfl), greedyN_nil, c_of h.set] at h1
  exact h1
theorem GiD.full {T : List Int} {k0 : KnD} {m : Nat} {k : KnD} {d : List UInt8} {acc : List Int} (h : GiD T k0 m k d acc) (hd : d ≠ []) (hf : k.full = true) : GiE T k0 m k.cleared d (acc ++ [(clr k0.set : Int)]) := by
  have h1 := h.tot
  rw [if_pos ⟨hf, hd⟩, c_of h.set] at h1
  exact ⟨h.len, h.le, by have := h.sum; simp; omega, by rw [List.append_assoc]; exact h1, KnD.cleared_ok h.ok, h.set, h.lit⟩
theorem GiE.step {T : List Int} {k0 : KnD} {m : Nat} {k : KnD} {d : List UInt8} {acc : List Int} (h : GiE T k0 m k d acc) (hd : d ≠ []) :
    k.follows (k.find (k.longest d)) = true ∧ ¬ k.find (k.longest d) = (k.c : Int) ∧ 1 ≤ (k.longest d).length ∧ (k.longest d).length ≤ d.length ∧ GiD T k0 (m - 1) (k.after (k.find (k.longest d))) (d.drop (k.longest d).length) (acc ++ [k.find (k.longest d)]) := by
  have hll := KnD.longest_le (k := k) d
  have hlp := KnD.longest_pos (k := k) hd
  have hl : ∀ b ∈ d, b.toNat < k.c := by rw [c_of h.set]; exact h.lit
  obtain ⟨hfw, -⟩ := KnD.find_any h.ok hd hl
  have hpos : 0 < d.length := List.length_pos_iff.2 hd
  have h1 := h.len; have h2 := h.le; have h3 := h.sum; have h4 := h.tot
  obtain ⟨n, rfl⟩ : ∃ n, m = n + 1 := ⟨m - 1, by omega⟩
  refine ⟨hfw, (KnD.fol_ne h.ok hfw).1, hlp, hll, by rw [List.length_drop]; omega, by rw [List.length_drop]; omega, by rw [List.length_drop, List.length_append]; simp; omega, ?_, KnD.after_ok h.ok hfw, h.set, fun b hb => h.lit b (List.mem_of_mem_drop hb)⟩
  rw [greedyN, if_neg hd] at h4
  rw [← h4, List.append_assoc]
  rfl
theorem GiD.start {k : KnD} {d : List UInt8} (hk : k.Ok) (hd : d.length ≤ 2000) (hl : ∀ b ∈ d, b.toNat < k.c) : GiD (greedy k d) k d.length k.cleared d [(clr k.set : Int)] := by
  have hf : k.cleared.full = false := by
    unfold KnD.full KnD.cleared
    have h0 := hk.base0
    have : ¬ k.base < ((k.ps.take k.base.toNat).length : Int) := by rw [List.length_take]; omega
    rw [Bool.and_eq_false_iff]; right
    exact decide_eq_false this
  refine ⟨Nat.le_refl _, hd, by simp; omega, ?_, KnD.cleared_ok hk, rfl, hl⟩
  rw [if_neg (fun h => by rw [hf] at h; cases h.1)]
  rfl
end Go.Proofs.YtiiahjnfbhcgmaaDoor

/- Walks of the program's coderOf, codeOf, CodeOfWord, BitsValid, WriterValid, NewWriter. Conditions: as each says. -/
namespace Go.Proofs.YtiiahjnfbhcgmaaDoor
set_option linter.unusedVariables false
set_option linter.unusedSimpArgs false
open Go Go.RowKit

/-- A writer in a block. -/
def WrAt (b : Nat) (x : WrD) (v : Value) (w : World) : Prop := w.heap[b]? = some (.cells #[.int .i64 x.k.set.ord, .int .i64 x.k.set.lit, .int .i64 x.k.set.most, v, .int .i64 x.k.base, .int .i64 x.k.last, .string (bs x.pend), .string (bs x.bits), .bool x.beg] 43)
theorem WrAt.cells {b : Nat} {x : WrD} {v : Value} {w : World} (h : WrAt b x v w) : b < w.heap.size ∧ w.cell? ⟨b, 0, none⟩ = some (.int .i64 x.k.set.ord) ∧ w.cell? ⟨b, 1, none⟩ = some (.int .i64 x.k.set.lit) ∧ w.cell? ⟨b, 2, none⟩ = some (.int .i64 x.k.set.most) ∧ w.cell? ⟨b, 3, none⟩ = some v ∧ w.cell? ⟨b, 4, none⟩ = some (.int .i64 x.k.base) ∧ w.cell? ⟨b, 5, none⟩ = some (.int .i64 x.k.last) ∧ w.cell? ⟨b, 6, none⟩ = some (.string (bs x.pend)) ∧ w.cell? ⟨b, 7, none⟩ = some (.string (bs x.bits)) ∧ w.cell? ⟨b, 8, none⟩ = some (.bool x.beg) :=
  ⟨(Array.getElem?_eq_some_iff.1 h).1, box_cell h 0, box_cell h 1, box_cell h 2, box_cell h 3, box_cell h 4, box_cell h 5, box_cell h 6, box_cell h 7, box_cell h 8⟩
theorem WrAt.up {b : Nat} {x : WrD} {v : Value} {w w' : World} (h : WrAt b x v w) (hu : Up w w') : WrAt b x v w' := box_up hu h
set_option maxRecDepth 100000 in
set_option maxHeartbeats 4000000 in
theorem codeOf_any (B tb : Nat) (k : KnD) (vp vn vi : Value) (s : ByteArray) (w : World) (h : TreeAt B tb k vp vn vi w) (hk : k.Ok) (hs : 0 < s.size) (hs2 : s.size ≤ 1073741824) (hl : ∀ b ∈ s.data.toList, b.toNat < k.c) :
    Calls Tryd.prog 98  #[.pointer (some ⟨tb, 0, none⟩), .string s] w (Same (if k.longest s.data.toList = s.data.toList then .tuple #[.int .i64 (k.find s.data.toList), .bool true] else .tuple #[.int .i64 0, .bool false]) w) := by
  have cL := fun wq hT => longest_any B tb k vp vn vi s wq hT hk hs hs2 hl
  have cK := fun w => clearI_any k.set w hk.set
  have hsl := ba_len s
  have htb := h.lt
  have hu0 := u8_bd s[0]
  have hne : s.data.toList ≠ [] := fun e => by rw [e] at hsl; simp at hsl; omega
  have hl0 : (s[0]).toNat < clr k.set := hl _ (by
    have e : s[0] = s.data.toList[0]'(by omega) := rfl
    rw [e]; exact List.getElem_mem _)
  have hge : ¬ ((s[0].toNat : Int) ≥ ((clr k.set : Nat) : Int)) := by omega
  have HE : s.toList.isEmpty = false := by rw [Lib.toList_data]; cases hh : s.data.toList with | nil => exact absurd hh hne | cons _ _ => rfl
  obtain ⟨c0, c1, c2, c3, c4, c5, c6, c7⟩ := h.cells
  have hle := KnD.longest_le (k := k) s.data.toList
  have HT := Lib.hid h
  by_cases he : k.longest s.data.toList = s.data.toList
  · rw [if_pos he]
    rw [he, hsl] at cL
    have hlt : ¬ ((s.size : Nat) : Int) < (s.size : Int) := by omega
    clear he h hl hle hne
    generalize k.find s.data.toList = x at *
    go_enter Tryd.func98, Tryd.ntmps98
    go_wp2
    refine wp_region_up 14 (by kernel_rfl) (by kernel_rfl) ?_
    simp only [List.take, List.drop]
    repeat (refine wpUp_step (fun K hK => ?_); go_simp; (try simp only [↓IntWalk.iteOmega]); first
      | (refine hK _ _ ?_; clear hK K)
      | (apply stepU_c
         · intro wq hwq; (have hbq := bcell hwq; (repeat (first | refine fills_no (by rfl) ?_ | refine fills_yes (by rfl) (fun vq hvq => ?_))); simp only [List.filter_nil, fills]; unfold upAt; go_simp; (try go_bits); (try simp only [↓IntWalk.iteOmega]); (try (rw [dif_pos (by omega)]; go_simp; try go_bits)); first | exact upOut_value | (apply upOut_call; (go_at_call 96; exact cK _)) | (apply upOut_eq; (go_at_call 96; exact cK _)))
         go_simp; refine hK _ _ ?_; clear hK K))
    refine wpUp_nil (fun wq hwq => ?_)
    simp only [fills]
    go_wp2_with (first | (go_at_call 124; (with_reducible refine (cL _ (HT.out.up hwq)).mono ?_); rintro e w2 ⟨rfl, U2⟩; have B2 := bcell U2; have Z2 := U2.size; (try simp at Z2); (try rw [Nat.add_one_le_iff] at Z2)))
    go_ret2
    exact ⟨rfl, hwq.trans U2⟩
  · rw [if_neg he]
    have hlt := KnD.longest_lt (k := k) he
    rw [hsl] at hlt
    generalize k.find (k.longest s.data.toList) = x at *
    generalize (k.longest s.data.toList).length = ln at *
    clear he h hl hle hne
    go_enter Tryd.func98, Tryd.ntmps98
    go_wp2
    refine wp_region_up 14 (by kernel_rfl) (by kernel_rfl) ?_
    simp only [List.take, List.drop]
    repeat (refine wpUp_step (fun K hK => ?_); go_simp; (try simp only [↓IntWalk.iteOmega]); first
      | (refine hK _ _ ?_; clear hK K)
      | (apply stepU_c
         · intro wq hwq; (have hbq := bcell hwq; (repeat (first | refine fills_no (by rfl) ?_ | refine fills_yes (by rfl) (fun vq hvq => ?_))); simp only [List.filter_nil, fills]; unfold upAt; go_simp; (try go_bits); (try simp only [↓IntWalk.iteOmega]); (try (rw [dif_pos (by omega)]; go_simp; try go_bits)); first | exact upOut_value | (apply upOut_call; (go_at_call 96; exact cK _)) | (apply upOut_eq; (go_at_call 96; exact cK _)))
         go_simp; refine hK _ _ ?_; clear hK K))
    refine wpUp_nil (fun wq hwq => ?_)
    simp only [fills]
    go_wp2_with (first | (go_at_call 124; (with_reducible refine (cL _ (HT.out.up hwq)).mono ?_); rintro e w2 ⟨rfl, U2⟩; have B2 := bcell U2; have Z2 := U2.size; (try simp at Z2); (try rw [Nat.add_one_le_iff] at Z2)))
    go_ret2
    exact ⟨rfl, hwq.trans U2⟩

set_option maxRecDepth 100000 in
set_option maxHeartbeats 4000000 in
theorem codeWI_any (k : KnD) (v : Value) (lo : Nat) (s : ByteArray) (w : World) (hk : k.Ok) (hv : k.vl) (hr : RdP lo w v k.ps) (hs : 0 < s.size) (hs2 : s.size ≤ 1073741824) (hl : ∀ b ∈ s.data.toList, b.toNat < k.c) :
    Calls Tryd.prog 71  #[kV k v, .string s] w (Same (.tuple #[.int .i64 (if k.longest s.data.toList = s.data.toList then k.find s.data.toList else 0), .bool (decide (k.longest s.data.toList = s.data.toList))]) w) := by
  have cV := fun wq hr => kvI_any k v lo wq hk hv hr
  have cN := fun wq hr => newTree_any k v lo wq hk hr
  have cC := fun B tb vp vn vi wq hT => codeOf_any B tb k vp vn vi s wq hT hk hs hs2 hl
  have hrt := fun (wq : World) (hu : Up w wq) => hr.up hu
  obtain ⟨a, cap, rfl, -, -, -, -⟩ := hr
  by_cases he : k.longest s.data.toList = s.data.toList
  · simp only [he, if_true, decide_true] at cC ⊢
    generalize k.find s.data.toList = x at *
    clear hk hl hv he
    simp only [kV] at *
    go_enter Tryd.func71, Tryd.ntmps71
    go_wp2_with (first | (go_at_call 68; (with_reducible refine (cV _ (hrt _ (by (repeat (first | with_reducible exact Up.refl _ | with_reducible assumption | with_reducible refine Up.set ?_ (by first | exact Nat.le_refl _ | (simp only []; omega) | (simp; omega)) _ | with_reducible refine Up.alloc ?_ _ | with_reducible refine Up.drew ?_ | refine Up.trans ?_ (by with_reducible assumption)))))).mono ?_); rintro e w1 ⟨rfl, U1⟩; have B1 := bcell U1; have Z1 := U1.size; (try simp at Z1); (try rw [Nat.add_one_le_iff] at Z1)) | fail)
    with_reducible refine (cN _ (hrt _ (by (repeat (first | with_reducible exact Up.refl _ | with_reducible assumption | with_reducible refine Up.set ?_ (by first | exact Nat.le_refl _ | (simp only []; omega) | (simp; omega)) _ | with_reducible refine Up.alloc ?_ _ | with_reducible refine Up.drew ?_ | refine Up.trans ?_ (by with_reducible assumption)))))).mono ?_
    rintro e w2 ⟨tb, vp, vn, vi, rfl, hT, U2⟩
    have HT := Lib.hid hT
    clear hT
    go_wp2_with (first | (go_at_call 98; (with_reducible refine (cC _ _ _ _ _ _ HT.out).mono ?_); rintro e w3 ⟨rfl, U3⟩; have B3 := bcell U3; have Z3 := U3.size; (try simp at Z3); (try rw [Nat.add_one_le_iff] at Z3)))
    go_ret2
    refine ⟨rfl, ?_⟩
    (repeat (first | with_reducible exact Up.refl _ | with_reducible assumption | with_reducible refine Up.set ?_ (by first | exact Nat.le_refl _ | (simp only []; omega) | (simp; omega)) _ | with_reducible refine Up.alloc ?_ _ | with_reducible refine Up.drew ?_ | refine Up.trans ?_ (by with_reducible assumption)))
  · simp only [he, if_false, decide_false] at cC ⊢
    clear hk hl hv he
    simp only [kV] at *
    go_enter Tryd.func71, Tryd.ntmps71
    go_wp2_with (first | (go_at_call 68; (with_reducible refine (cV _ (hrt _ (by (repeat (first | with_reducible exact Up.refl _ | with_reducible assumption | with_reducible refine Up.set ?_ (by first | exact Nat.le_refl _ | (simp only []; omega) | (simp; omega)) _ | with_reducible refine Up.alloc ?_ _ | with_reducible refine Up.drew ?_ | refine Up.trans ?_ (by with_reducible assumption)))))).mono ?_); rintro e w1 ⟨rfl, U1⟩; have B1 := bcell U1; have Z1 := U1.size; (try simp at Z1); (try rw [Nat.add_one_le_iff] at Z1)) | fail)
    with_reducible refine (cN _ (hrt _ (by (repeat (first | with_reducible exact Up.refl _ | with_reducible assumption | with_reducible refine Up.set ?_ (by first | exact Nat.le_refl _ | (simp only []; omega) | (simp; omega)) _ | with_reducible refine Up.alloc ?_ _ | with_reducible refine Up.drew ?_ | refine Up.trans ?_ (by with_reducible assumption)))))).mono ?_
    rintro e w2 ⟨tb, vp, vn, vi, rfl, hT, U2⟩
    have HT := Lib.hid hT
    clear hT
    go_wp2_with (first | (go_at_call 98; (with_reducible refine (cC _ _ _ _ _ _ HT.out).mono ?_); rintro e w3 ⟨rfl, U3⟩; have B3 := bcell U3; have Z3 := U3.size; (try simp at Z3); (try rw [Nat.add_one_le_iff] at Z3)))
    go_ret2
    refine ⟨rfl, ?_⟩
    (repeat (first | with_reducible exact Up.refl _ | with_reducible assumption | with_reducible refine Up.set ?_ (by first | exact Nat.le_refl _ | (simp only []; omega) | (simp; omega)) _ | with_reducible refine Up.alloc ?_ _ | with_reducible refine Up.drew ?_ | refine Up.trans ?_ (by with_reducible assumption)))

/-- Bits of a string, and not too many. -/
def bvB (l : List UInt8) : Bool := decide (l.length ≤ 32000) && bitsB l
theorem bitsB_no {s : ByteArray} {j : Nat} (h : j < s.size) (hb : ¬ (s[j].toNat = 48 ∨ s[j].toNat = 49)) : bitsB s.data.toList = false := by
  cases e : bitsB s.data.toList
  · rfl
  · exact absurd (bitsB_iff.1 e s[j] (by
      have e2 : s[j] = s.data.toList[j]'(by rw [ba_len]; exact h) := rfl
      rw [e2]; exact List.getElem_mem _)) hb
theorem bitsB_yes {s : ByteArray} (h : ∀ j (hj : j < s.size), s[j].toNat = 48 ∨ s[j].toNat = 49) : bitsB s.data.toList = true := by
  rw [bitsB_iff]
  intro b hb
  obtain ⟨i, hi, rfl⟩ := List.mem_iff_getElem.1 hb
  exact h i (by rw [ba_len] at hi; exact hi)
def RelBg (s : ByteArray) (i : Value) (w wr : World) : Prop := ∃ j : Nat, i = .int .i64 j ∧ j ≤ s.size ∧ (∀ q (hq : q < s.size), q < j → s[q].toNat = 48 ∨ s[q].toNat = 49) ∧ w = wr
set_option maxRecDepth 100000 in
set_option maxHeartbeats 1000000 in
theorem bvI_any (s : ByteArray) (w : World) (hs : s.size ≤ 1073741824) :
    Calls Tryd.prog 70  #[.string s] w (fun e w' => e = .returned (.bool (bvB s.data.toList)) ∧ w = w') := by
  have hlen := ba_len s
  by_cases h4 : s.size ≤ 32000
  · have HV : Hid (bvB s.data.toList = bitsB s.data.toList) := by unfold Hid bvB; rw [hlen, decide_eq_true h4]; rfl
    rw [HV.out]
    go_enter Tryd.func70, Tryd.ntmps70
    go_wp2
    go_loopw [9] (fun i wr => RelBg s i w wr) (fun i _ => s.size - (intOf i).toNat)
    case atStart => exact ⟨0, rfl, Nat.zero_le _, fun q _ h => absurd h (Nat.not_lt_zero _), rfl⟩
    case round =>
      obtain ⟨j, rfl, hj, hall, rfl⟩ := hrel
      have HA := Lib.hid hall
      clear hall
      by_cases hlt : j < s.size
      · have HN : Hid ((s[j].toNat = 48 ∨ s[j].toNat = 49) → ∀ q (hq : q < s.size), q < j + 1 → s[q].toNat = 48 ∨ s[q].toNat = 49) := fun h q hq hqj => by
          rcases Nat.lt_or_ge q j with h' | h'
          · exact HA.out q hq h'
          · have : q = j := by omega
            subst this; exact h
        by_cases h1 : s[j].toNat = 48
        · have HN' := Lib.hid (HN.out (.inl h1))
          clear HN HA
          go_wp2
          go_roundw
          case rel => exact ⟨j + 1, by go_num, by omega, HN'.out, rfl⟩
          case measure => simp [intOf]; omega
        · by_cases h2 : s[j].toNat = 49
          · have HN' := Lib.hid (HN.out (.inr h2))
            clear HN HA
            go_wp2
            go_roundw
            case rel => exact ⟨j + 1, by go_num, by omega, HN'.out, rfl⟩
            case measure => simp [intOf]; omega
          · have HB : Hid (bitsB s.data.toList = false) := bitsB_no hlt (fun h => h.elim h1 h2)
            have hb1 : ((s[j].toNat : Int) != 48) = true := by simp; omega
            have hb2 : ((s[j].toNat : Int) != 49) = true := by simp; omega
            clear HN HA
            go_wp2
            go_ret
            exact ⟨ret_bool HB.out.symm, rfl⟩
      · have HB : Hid (bitsB s.data.toList = true) := bitsB_yes fun q hq => HA.out q hq (by omega)
        go_wp2
        go_ret
        exact ⟨ret_bool HB.out.symm, rfl⟩
  · have HV : Hid (bvB s.data.toList = false) := by unfold Hid bvB; rw [hlen, decide_eq_false h4]; rfl
    rw [HV.out]
    go_enter Tryd.func70, Tryd.ntmps70
    go_wp2
    go_ret
    exact ⟨rfl, rfl⟩

theorem isEmpty_bs {d : List UInt8} (h : d ≠ []) : (bs d).toList.isEmpty = false := by rw [Lib.toList_data, bs_data]; cases d with | nil => exact absurd rfl h | cons _ _ => rfl
theorem wrvB_k {x : WrD} (h : validK x.k = false) : wrvB x = false := by unfold wrvB; rw [h]; rfl
theorem wrvB_f {x : WrD} (h : fitsB x.k.set x.pend = false) : wrvB x = false := by unfold wrvB; rw [h]; simp
theorem wrvB_b {x : WrD} (h : bvB x.bits = false) : wrvB x = false := by
  unfold wrvB
  have : (bitsB x.bits && decide (x.bits.length ≤ 7)) = false := by
    unfold bvB at h
    cases h1 : bitsB x.bits
    · rfl
    · rw [h1, Bool.and_true] at h
      have : ¬ x.bits.length ≤ 32000 := by simpa using h
      rw [Bool.true_and]
      exact decide_eq_false (by omega)
  rw [this]; simp
theorem wrvB_7 {x : WrD} (h : ¬ x.bits.length ≤ 7) : wrvB x = false := by unfold wrvB; rw [decide_eq_false h]; simp
theorem wrvB_all {x : WrD} (h1 : validK x.k = true) (h2 : fitsB x.k.set x.pend = true) (h3 : bvB x.bits = true) (h4 : x.bits.length ≤ 7) : wrvB x = wrsB x := by
  unfold wrvB
  unfold bvB at h3
  rw [h1, h2, decide_eq_true h4, (Bool.and_eq_true_iff.1 h3).2]
  rfl

set_option maxRecDepth 100000 in
set_option maxHeartbeats 8000000 in
theorem wvI_any (x : WrD) (v : Value) (lo : Nat) (w : World) (hl : -9223372036854775808 ≤ x.k.set.lit ∧ x.k.set.lit ≤ 9223372036854775807) (hr : RdP lo w v x.k.ps) (hps : x.k.ps.length ≤ 1073741824) (hp : x.pend.length ≤ 1073741824) (hb : x.bits.length ≤ 1073741824) :
    Calls Tryd.prog 39  #[wrV x v] w (Same (.bool (wrvB x)) w) := by
  have cV := fun wq hr => kvI_gen x.k v lo wq hl hr hps
  have hrt := fun (wq : World) (hu : Up w wq) => hr.up hu
  have hsp := bs_size x.pend
  have hsb := bs_size x.bits
  have cF := fun wq => fitsI_any x.k.set (bs x.pend) wq hl (by omega)
  have cB := fun wq => bvI_any (bs x.bits) wq (by omega)
  rw [bs_data] at cF cB
  obtain ⟨a, cap, rfl, -, -, -, -⟩ := id hr
  unfold wrV
  cases h1 : validK x.k
  · rw [wrvB_k h1]
    rw [h1] at cV
    clear h1 hr
    simp only [kV] at *
    go_enter Tryd.func39, Tryd.ntmps39
    go_wp2_with (first | (go_at_call 68; (with_reducible refine (cV _ (hrt _ (by (repeat (first | with_reducible exact Up.refl _ | with_reducible assumption | with_reducible refine Up.set ?_ (by first | exact Nat.le_refl _ | (simp only []; omega) | (simp; omega)) _ | with_reducible refine Up.alloc ?_ _ | with_reducible refine Up.drew ?_ | refine Up.trans ?_ (by with_reducible assumption)))))).mono ?_); rintro e w1 ⟨rfl, U1⟩; have B1 := bcell U1; have Z1 := U1.size; (try simp at Z1); (try rw [Nat.add_one_le_iff] at Z1)) | fail)
    go_ret
    refine ⟨rfl, ?_⟩
    (repeat (first | with_reducible exact Up.refl _ | with_reducible assumption | with_reducible refine Up.set ?_ (by first | exact Nat.le_refl _ | (simp only []; omega) | (simp; omega)) _ | with_reducible refine Up.alloc ?_ _ | with_reducible refine Up.drew ?_ | refine Up.trans ?_ (by with_reducible assumption)))
  rw [h1] at cV
  cases h2 : fitsB x.k.set x.pend
  · rw [wrvB_f h2]
    rw [h2] at cF
    clear h1 h2 hr
    simp only [kV, setV] at *
    go_enter Tryd.func39, Tryd.ntmps39
    go_wp2_with (first | (go_at_call 68; (with_reducible refine (cV _ (hrt _ (by (repeat (first | with_reducible exact Up.refl _ | with_reducible assumption | with_reducible refine Up.set ?_ (by first | exact Nat.le_refl _ | (simp only []; omega) | (simp; omega)) _ | with_reducible refine Up.alloc ?_ _ | with_reducible refine Up.drew ?_ | refine Up.trans ?_ (by with_reducible assumption)))))).mono ?_); rintro e w1 ⟨rfl, U1⟩; have B1 := bcell U1; have Z1 := U1.size; (try simp at Z1); (try rw [Nat.add_one_le_iff] at Z1)) | (go_at_call 69; (with_reducible refine (cF _).mono ?_); rintro e w2 ⟨rfl, U2⟩; have B2 := bcell U2; have Z2 := U2.size; (try simp at Z2); (try rw [Nat.add_one_le_iff] at Z2)) | fail)
    go_ret
    refine ⟨rfl, ?_⟩
    (repeat (first | with_reducible exact Up.refl _ | with_reducible assumption | with_reducible refine Up.set ?_ (by first | exact Nat.le_refl _ | (simp only []; omega) | (simp; omega)) _ | with_reducible refine Up.alloc ?_ _ | with_reducible refine Up.drew ?_ | refine Up.trans ?_ (by with_reducible assumption)))
  rw [h2] at cF
  cases h3 : bvB x.bits
  · rw [wrvB_b h3]
    rw [h3] at cB
    clear h1 h2 h3 hr
    simp only [kV, setV] at *
    go_enter Tryd.func39, Tryd.ntmps39
    go_wp2_with (first | (go_at_call 68; (with_reducible refine (cV _ (hrt _ (by (repeat (first | with_reducible exact Up.refl _ | with_reducible assumption | with_reducible refine Up.set ?_ (by first | exact Nat.le_refl _ | (simp only []; omega) | (simp; omega)) _ | with_reducible refine Up.alloc ?_ _ | with_reducible refine Up.drew ?_ | refine Up.trans ?_ (by with_reducible assumption)))))).mono ?_); rintro e w1 ⟨rfl, U1⟩; have B1 := bcell U1; have Z1 := U1.size; (try simp at Z1); (try rw [Nat.add_one_le_iff] at Z1)) | (go_at_call 69; (with_reducible refine (cF _).mono ?_); rintro e w2 ⟨rfl, U2⟩; have B2 := bcell U2; have Z2 := U2.size; (try simp at Z2); (try rw [Nat.add_one_le_iff] at Z2)) | (go_at_call 70; (with_reducible refine (cB _).mono ?_); rintro e w' ⟨rfl, rfl⟩) | fail)
    go_ret
    refine ⟨rfl, ?_⟩
    (repeat (first | with_reducible exact Up.refl _ | with_reducible assumption | with_reducible refine Up.set ?_ (by first | exact Nat.le_refl _ | (simp only []; omega) | (simp; omega)) _ | with_reducible refine Up.alloc ?_ _ | with_reducible refine Up.drew ?_ | refine Up.trans ?_ (by with_reducible assumption)))
  rw [h3] at cB
  by_cases h4 : x.bits.length ≤ 7
  case neg =>
    rw [wrvB_7 h4]
    clear h1 h2 h3 hr
    have h4' : ((x.bits.length : Nat) : Int) ≥ 8 := by omega
    simp only [kV, setV] at *
    go_enter Tryd.func39, Tryd.ntmps39
    go_wp2_with (first | (go_at_call 68; (with_reducible refine (cV _ (hrt _ (by (repeat (first | with_reducible exact Up.refl _ | with_reducible assumption | with_reducible refine Up.set ?_ (by first | exact Nat.le_refl _ | (simp only []; omega) | (simp; omega)) _ | with_reducible refine Up.alloc ?_ _ | with_reducible refine Up.drew ?_ | refine Up.trans ?_ (by with_reducible assumption)))))).mono ?_); rintro e w1 ⟨rfl, U1⟩; have B1 := bcell U1; have Z1 := U1.size; (try simp at Z1); (try rw [Nat.add_one_le_iff] at Z1)) | (go_at_call 69; (with_reducible refine (cF _).mono ?_); rintro e w2 ⟨rfl, U2⟩; have B2 := bcell U2; have Z2 := U2.size; (try simp at Z2); (try rw [Nat.add_one_le_iff] at Z2)) | (go_at_call 70; (with_reducible refine (cB _).mono ?_); rintro e w' ⟨rfl, rfl⟩) | fail)
    go_ret
    refine ⟨rfl, ?_⟩
    (repeat (first | with_reducible exact Up.refl _ | with_reducible assumption | with_reducible refine Up.set ?_ (by first | exact Nat.le_refl _ | (simp only []; omega) | (simp; omega)) _ | with_reducible refine Up.alloc ?_ _ | with_reducible refine Up.drew ?_ | refine Up.trans ?_ (by with_reducible assumption)))
  case pos =>
    have h4' : ¬ ((x.bits.length : Nat) : Int) ≥ 8 := by omega
    rw [wrvB_all h1 h2 h3 h4]
    obtain ⟨hk, hv⟩ := ok_of_valid h1
    obtain ⟨f1, f2, f3⟩ := fitsB_lits h2
    obtain ⟨k, pend, bits, beg⟩ := x
    dsimp only at *
    by_cases hpe : pend = []
    · subst hpe
      simp only [show bs ([] : List UInt8) = (⟨#[]⟩ : ByteArray) from rfl] at *
      by_cases hbe : bits = []
      · subst hbe
        simp only [show bs ([] : List UInt8) = (⟨#[]⟩ : ByteArray) from rfl] at *
        cases beg
        all_goals
          rw [show wrsB (⟨k, [], [], _⟩ : WrD) = true from rfl]
          clear h1 h2 h3 hr hk hv f3
          simp only [kV, setV] at *
          go_enter Tryd.func39, Tryd.ntmps39
          go_wp2_with (first | (go_at_call 68; (with_reducible refine (cV _ (hrt _ (by (repeat (first | with_reducible exact Up.refl _ | with_reducible assumption | with_reducible refine Up.set ?_ (by first | exact Nat.le_refl _ | (simp only []; omega) | (simp; omega)) _ | with_reducible refine Up.alloc ?_ _ | with_reducible refine Up.drew ?_ | refine Up.trans ?_ (by with_reducible assumption)))))).mono ?_); rintro e w1 ⟨rfl, U1⟩; have B1 := bcell U1; have Z1 := U1.size; (try simp at Z1); (try rw [Nat.add_one_le_iff] at Z1)) | (go_at_call 69; (with_reducible refine (cF _).mono ?_); rintro e w2 ⟨rfl, U2⟩; have B2 := bcell U2; have Z2 := U2.size; (try simp at Z2); (try rw [Nat.add_one_le_iff] at Z2)) | (go_at_call 70; (with_reducible refine (cB _).mono ?_); rintro e w' ⟨rfl, rfl⟩) | fail)
          go_ret
          refine ⟨rfl, ?_⟩
          (repeat (first | with_reducible exact Up.refl _ | with_reducible assumption | with_reducible refine Up.set ?_ (by first | exact Nat.le_refl _ | (simp only []; omega) | (simp; omega)) _ | with_reducible refine Up.alloc ?_ _ | with_reducible refine Up.drew ?_ | refine Up.trans ?_ (by with_reducible assumption)))
      · have HBE := isEmpty_bs hbe
        cases beg
        · have HW : Hid (wrsB (⟨k, [], bits, false⟩ : WrD) = false) := by unfold Hid wrsB; simp [hbe]
          rw [HW.out]
          clear h1 h2 h3 hr hk hv f3 hbe
          simp only [kV, setV] at *
          go_enter Tryd.func39, Tryd.ntmps39
          go_wp2_with (first | (go_at_call 68; (with_reducible refine (cV _ (hrt _ (by (repeat (first | with_reducible exact Up.refl _ | with_reducible assumption | with_reducible refine Up.set ?_ (by first | exact Nat.le_refl _ | (simp only []; omega) | (simp; omega)) _ | with_reducible refine Up.alloc ?_ _ | with_reducible refine Up.drew ?_ | refine Up.trans ?_ (by with_reducible assumption)))))).mono ?_); rintro e w1 ⟨rfl, U1⟩; have B1 := bcell U1; have Z1 := U1.size; (try simp at Z1); (try rw [Nat.add_one_le_iff] at Z1)) | (go_at_call 69; (with_reducible refine (cF _).mono ?_); rintro e w2 ⟨rfl, U2⟩; have B2 := bcell U2; have Z2 := U2.size; (try simp at Z2); (try rw [Nat.add_one_le_iff] at Z2)) | (go_at_call 70; (with_reducible refine (cB _).mono ?_); rintro e w' ⟨rfl, rfl⟩) | fail)
          go_ret
          refine ⟨rfl, ?_⟩
          (repeat (first | with_reducible exact Up.refl _ | with_reducible assumption | with_reducible refine Up.set ?_ (by first | exact Nat.le_refl _ | (simp only []; omega) | (simp; omega)) _ | with_reducible refine Up.alloc ?_ _ | with_reducible refine Up.drew ?_ | refine Up.trans ?_ (by with_reducible assumption)))
        · have HW : Hid (wrsB (⟨k, [], bits, true⟩ : WrD) = true) := by unfold Hid wrsB; simp
          rw [HW.out]
          clear h1 h2 h3 hr hk hv f3 hbe
          simp only [kV, setV] at *
          go_enter Tryd.func39, Tryd.ntmps39
          go_wp2_with (first | (go_at_call 68; (with_reducible refine (cV _ (hrt _ (by (repeat (first | with_reducible exact Up.refl _ | with_reducible assumption | with_reducible refine Up.set ?_ (by first | exact Nat.le_refl _ | (simp only []; omega) | (simp; omega)) _ | with_reducible refine Up.alloc ?_ _ | with_reducible refine Up.drew ?_ | refine Up.trans ?_ (by with_reducible assumption)))))).mono ?_); rintro e w1 ⟨rfl, U1⟩; have B1 := bcell U1; have Z1 := U1.size; (try simp at Z1); (try rw [Nat.add_one_le_iff] at Z1)) | (go_at_call 69; (with_reducible refine (cF _).mono ?_); rintro e w2 ⟨rfl, U2⟩; have B2 := bcell U2; have Z2 := U2.size; (try simp at Z2); (try rw [Nat.add_one_le_iff] at Z2)) | (go_at_call 70; (with_reducible refine (cB _).mono ?_); rintro e w' ⟨rfl, rfl⟩) | fail)
          go_ret
          refine ⟨rfl, ?_⟩
          (repeat (first | with_reducible exact Up.refl _ | with_reducible assumption | with_reducible refine Up.set ?_ (by first | exact Nat.le_refl _ | (simp only []; omega) | (simp; omega)) _ | with_reducible refine Up.alloc ?_ _ | with_reducible refine Up.drew ?_ | refine Up.trans ?_ (by with_reducible assumption)))
    · have HPE := isEmpty_bs hpe
      have hpos := List.length_pos_iff.2 hpe
      cases beg
      · have HW : Hid (wrsB (⟨k, pend, bits, false⟩ : WrD) = false) := by unfold Hid wrsB; simp [hpe]
        rw [HW.out]
        clear h1 h2 h3 hr hk hv f3 hpe
        simp only [kV, setV] at *
        go_enter Tryd.func39, Tryd.ntmps39
        go_wp2_with (first | (go_at_call 68; (with_reducible refine (cV _ (hrt _ (by (repeat (first | with_reducible exact Up.refl _ | with_reducible assumption | with_reducible refine Up.set ?_ (by first | exact Nat.le_refl _ | (simp only []; omega) | (simp; omega)) _ | with_reducible refine Up.alloc ?_ _ | with_reducible refine Up.drew ?_ | refine Up.trans ?_ (by with_reducible assumption)))))).mono ?_); rintro e w1 ⟨rfl, U1⟩; have B1 := bcell U1; have Z1 := U1.size; (try simp at Z1); (try rw [Nat.add_one_le_iff] at Z1)) | (go_at_call 69; (with_reducible refine (cF _).mono ?_); rintro e w2 ⟨rfl, U2⟩; have B2 := bcell U2; have Z2 := U2.size; (try simp at Z2); (try rw [Nat.add_one_le_iff] at Z2)) | (go_at_call 70; (with_reducible refine (cB _).mono ?_); rintro e w' ⟨rfl, rfl⟩) | fail)
        go_ret
        refine ⟨rfl, ?_⟩
        (repeat (first | with_reducible exact Up.refl _ | with_reducible assumption | with_reducible refine Up.set ?_ (by first | exact Nat.le_refl _ | (simp only []; omega) | (simp; omega)) _ | with_reducible refine Up.alloc ?_ _ | with_reducible refine Up.drew ?_ | refine Up.trans ?_ (by with_reducible assumption)))
      · have cC := fun wq hr => codeWI_any k (.slice a k.ps.length cap) lo (bs pend) wq hk hv hr (by omega) (by omega) (by rw [bs_data]; exact f3)
        rw [bs_data] at cC
        have HW : Hid (wrsB (⟨k, pend, bits, true⟩ : WrD) = decide (k.longest pend = pend)) := by unfold Hid wrsB; simp [hpe]
        rw [HW.out]
        generalize decide (k.longest pend = pend) = ok at *
        generalize (if k.longest pend = pend then k.find pend else 0) = cd at *
        clear h1 h2 h3 hr hk hv f3 hpe HW
        simp only [kV, setV] at *
        go_enter Tryd.func39, Tryd.ntmps39
        go_wp2_with (first | (go_at_call 68; (with_reducible refine (cV _ (hrt _ (by (repeat (first | with_reducible exact Up.refl _ | with_reducible assumption | with_reducible refine Up.set ?_ (by first | exact Nat.le_refl _ | (simp only []; omega) | (simp; omega)) _ | with_reducible refine Up.alloc ?_ _ | with_reducible refine Up.drew ?_ | refine Up.trans ?_ (by with_reducible assumption)))))).mono ?_); rintro e w1 ⟨rfl, U1⟩; have B1 := bcell U1; have Z1 := U1.size; (try simp at Z1); (try rw [Nat.add_one_le_iff] at Z1)) | (go_at_call 69; (with_reducible refine (cF _).mono ?_); rintro e w2 ⟨rfl, U2⟩; have B2 := bcell U2; have Z2 := U2.size; (try simp at Z2); (try rw [Nat.add_one_le_iff] at Z2)) | (go_at_call 70; (with_reducible refine (cB _).mono ?_); rintro e w' ⟨rfl, rfl⟩) | (go_at_call 71; (with_reducible refine (cC _ (hrt _ (by (repeat (first | with_reducible exact Up.refl _ | with_reducible assumption | with_reducible refine Up.set ?_ (by first | exact Nat.le_refl _ | (simp only []; omega) | (simp; omega)) _ | with_reducible refine Up.alloc ?_ _ | with_reducible refine Up.drew ?_ | refine Up.trans ?_ (by with_reducible assumption)))))).mono ?_); rintro e w4 ⟨rfl, U4⟩; have B4 := bcell U4; have Z4 := U4.size; (try simp at Z4); (try rw [Nat.add_one_le_iff] at Z4)) | fail)
        go_ret
        refine ⟨rfl, ?_⟩
        (repeat (first | with_reducible exact Up.refl _ | with_reducible assumption | with_reducible refine Up.set ?_ (by first | exact Nat.le_refl _ | (simp only []; omega) | (simp; omega)) _ | with_reducible refine Up.alloc ?_ _ | with_reducible refine Up.drew ?_ | refine Up.trans ?_ (by with_reducible assumption)))

end Go.Proofs.YtiiahjnfbhcgmaaDoor

/- Walks of the program's NewWriter, WriteData, CloseWriter, LongestWord. Conditions: the writer's pairs can be read; its texts are no longer than 2^20 bytes. -/
namespace Go.Proofs.YtiiahjnfbhcgmaaDoor
set_option linter.unusedVariables false
set_option linter.unusedSimpArgs false
open Go Go.RowKit

/-- A writer's stores into a block. -/
def WrW (w : World) (b : Nat) (x : WrD) (v : Value) : World := (((KnW w b x.k v).setCell ⟨b, 6, none⟩ (.string (bs x.pend))).setCell ⟨b, 7, none⟩ (.string (bs x.bits))).setCell ⟨b, 8, none⟩ (.bool x.beg)
theorem WrW.up {a w : World} (h : Up a w) {b : Nat} (hb : a.heap.size ≤ b) (x : WrD) (v : Value) : Up a (WrW w b x v) := by
  unfold WrW
  exact (((KnW.up h hb x.k v).set (p := ⟨b, 6, none⟩) hb _).set (p := ⟨b, 7, none⟩) hb _).set (p := ⟨b, 8, none⟩) hb _
theorem WrW.own {w : World} {base : Nat} {e : TypeId} {size n : Nat} {v : Value} {xs : List Value} (h : w.ownsRow base e size v n xs) {b : Nat} (hb : some b ≠ v.ownBlock) (x : WrD) (u : Value) : (WrW w b x u).ownsRow base e size v n xs := by
  unfold WrW
  exact ownsRow_setb (ownsRow_setb (ownsRow_setb (KnW.own h hb x.k u) hb 6 _) hb 7 _) hb 8 _
theorem WrW.other {w : World} {b b' : Nat} (hb : b' ≠ b) (x : WrD) (v : Value) : (WrW w b x v).heap[b']? = w.heap[b']? := by
  unfold WrW
  exact (Below.heap_setCell _ _ _ _ hb).trans ((Below.heap_setCell _ _ _ _ hb).trans ((Below.heap_setCell _ _ _ _ hb).trans (KnW.other hb x.k v)))
def wr0 : WrD := ⟨⟨⟨0, 0, 0⟩, [], 0, 0⟩, [], [], false⟩
theorem WrAt.zero {w : World} {b : Nat} (h : w.heap[b]? = some (.cells #[.int .i64 0, .int .i64 0, .int .i64 0, .slice none 0 0, .int .i64 0, .int .i64 0, .string ⟨#[]⟩, .string ⟨#[]⟩, .bool false] 43)) : WrAt b wr0 (.slice none 0 0) w := h

end Go.Proofs.YtiiahjnfbhcgmaaDoor

/- Walks of the reference's l9OwnKnown, l3Copy, l9OwnWriter, BitsValid, WriterValid, NewWriter. Conditions: the pairs can be read. -/
namespace Go.Proofs.YtiiahjnfbhcgmaaDoor
set_option linter.unusedVariables false
set_option linter.unusedSimpArgs false
open Go Go.RowKit

theorem alloc3c (w : World) (A B C : Obj) : (((w.alloc A).alloc B).alloc C).heap[w.heap.size + 1 + 1]? = some C := by
  have h := (MapKept.heap_alloc ((w.alloc A).alloc B) C).1
  rw [size_alloc, size_alloc] at h
  exact h

set_option maxRecDepth 100000 in
set_option maxHeartbeats 1000000 in
theorem bvS_any (s : ByteArray) (w : World) (hs : s.size ≤ 1073741824) :
    Calls Tryd.prog 63  #[.string s] w (fun e w' => e = .returned (.bool (bvB s.data.toList)) ∧ w = w') := by
  have hlen := ba_len s
  go_enter Tryd.func63, Tryd.ntmps63
  go_wp2
  go_loopw [3] (fun i wr => RelBg s i w wr) (fun i _ => s.size - (intOf i).toNat)
  case atStart => exact ⟨0, rfl, Nat.zero_le _, fun q _ h => absurd h (Nat.not_lt_zero _), rfl⟩
  case round =>
    obtain ⟨j, rfl, hj, hall, rfl⟩ := hrel
    have HA := Lib.hid hall
    clear hall
    by_cases hlt : j < s.size
    · have HN : Hid ((s[j].toNat = 48 ∨ s[j].toNat = 49) → ∀ q (hq : q < s.size), q < j + 1 → s[q].toNat = 48 ∨ s[q].toNat = 49) := fun h q hq hqj => by
        rcases Nat.lt_or_ge q j with h' | h'
        · exact HA.out q hq h'
        · have : q = j := by omega
          subst this; exact h
      by_cases h1 : s[j].toNat = 48
      · have HN' := Lib.hid (HN.out (.inl h1))
        clear HN HA
        go_wp2
        go_roundw
        case rel => exact ⟨j + 1, by go_num, by omega, HN'.out, rfl⟩
        case measure => simp [intOf]; omega
      · by_cases h2 : s[j].toNat = 49
        · have HN' := Lib.hid (HN.out (.inr h2))
          clear HN HA
          go_wp2
          go_roundw
          case rel => exact ⟨j + 1, by go_num, by omega, HN'.out, rfl⟩
          case measure => simp [intOf]; omega
        · have HB : Hid (bitsB s.data.toList = false) := bitsB_no hlt (fun h => h.elim h1 h2)
          have HV : Hid (bvB s.data.toList = false) := by unfold Hid bvB; rw [HB.out, Bool.and_false]
          have hb1 : ((s[j].toNat : Int) != 48) = true := by simp; omega
          have hb2 : ((s[j].toNat : Int) != 49) = true := by simp; omega
          clear HN HA
          go_wp2
          go_ret
          exact ⟨ret_bool HV.out.symm, rfl⟩
    · have HB : Hid (bitsB s.data.toList = true) := bitsB_yes fun q hq => HA.out q hq (by omega)
      have HV : Hid (bvB s.data.toList = decide ((s.size : Int) ≤ 32000)) := by
        unfold Hid bvB
        rw [HB.out, hlen, Bool.and_true]
        by_cases h4 : s.size ≤ 32000
        · rw [decide_eq_true h4, decide_eq_true (by omega)]
        · rw [decide_eq_false h4, decide_eq_false (by omega)]
      go_wp2
      go_ret
      exact ⟨ret_bool HV.out.symm, rfl⟩

set_option maxRecDepth 100000 in
set_option maxHeartbeats 8000000 in
theorem wvS_any (x : WrD) (v : Value) (lo : Nat) (w : World) (hr : RdP lo w v x.k.ps) (hps : x.k.ps.length ≤ 1073741824) (hp : x.pend.length ≤ 1073741824) (hb : x.bits.length ≤ 1073741824) :
    Calls Tryd.prog 34  #[wrV x v] w (Same (.bool (wrvB x)) w) := by
  have cV := fun wq hr => kvS_gen x.k v lo wq hr hps
  have hrt := fun (wq : World) (hu : Up w wq) => hr.up hu
  have hsp := bs_size x.pend
  have hsb := bs_size x.bits
  have cF := fun wq => fitsS_any x.k.set (bs x.pend) wq (by omega)
  have cB := fun wq => bvS_any (bs x.bits) wq (by omega)
  rw [bs_data] at cF cB
  obtain ⟨a, cap, rfl, -, -, -, -⟩ := id hr
  unfold wrV
  cases h1 : validK x.k
  · rw [wrvB_k h1]
    rw [h1] at cV
    clear h1 hr
    simp only [kV] at *
    go_enter Tryd.func34, Tryd.ntmps34
    go_wp2_with (first | (go_at_call 61; (with_reducible refine (cV _ (hrt _ (by (repeat (first | with_reducible exact Up.refl _ | with_reducible assumption | with_reducible refine Up.set ?_ (by first | exact Nat.le_refl _ | (simp only []; omega) | (simp; omega)) _ | with_reducible refine Up.alloc ?_ _ | with_reducible refine Up.drew ?_ | refine Up.trans ?_ (by with_reducible assumption)))))).mono ?_); rintro e w1 ⟨rfl, U1⟩; have B1 := bcell U1; have Z1 := U1.size; (try simp at Z1); (try rw [Nat.add_one_le_iff] at Z1)) | (go_at_call 62; (with_reducible refine (cF _).mono ?_); rintro e w2 ⟨rfl, U2⟩; have B2 := bcell U2; have Z2 := U2.size; (try simp at Z2); (try rw [Nat.add_one_le_iff] at Z2)) | (go_at_call 63; (with_reducible refine (cB _).mono ?_); rintro e w' ⟨rfl, rfl⟩) | fail)
    go_ret
    refine ⟨rfl, ?_⟩
    (repeat (first | with_reducible exact Up.refl _ | with_reducible assumption | with_reducible refine Up.set ?_ (by first | exact Nat.le_refl _ | (simp only []; omega) | (simp; omega)) _ | with_reducible refine Up.alloc ?_ _ | with_reducible refine Up.drew ?_ | refine Up.trans ?_ (by with_reducible assumption)))
  rw [h1] at cV
  cases h2 : fitsB x.k.set x.pend
  · rw [wrvB_f h2]
    rw [h2] at cF
    clear h1 h2 hr
    simp only [kV, setV] at *
    go_enter Tryd.func34, Tryd.ntmps34
    go_wp2_with (first | (go_at_call 61; (with_reducible refine (cV _ (hrt _ (by (repeat (first | with_reducible exact Up.refl _ | with_reducible assumption | with_reducible refine Up.set ?_ (by first | exact Nat.le_refl _ | (simp only []; omega) | (simp; omega)) _ | with_reducible refine Up.alloc ?_ _ | with_reducible refine Up.drew ?_ | refine Up.trans ?_ (by with_reducible assumption)))))).mono ?_); rintro e w1 ⟨rfl, U1⟩; have B1 := bcell U1; have Z1 := U1.size; (try simp at Z1); (try rw [Nat.add_one_le_iff] at Z1)) | (go_at_call 62; (with_reducible refine (cF _).mono ?_); rintro e w2 ⟨rfl, U2⟩; have B2 := bcell U2; have Z2 := U2.size; (try simp at Z2); (try rw [Nat.add_one_le_iff] at Z2)) | (go_at_call 63; (with_reducible refine (cB _).mono ?_); rintro e w' ⟨rfl, rfl⟩) | fail)
    go_ret
    refine ⟨rfl, ?_⟩
    (repeat (first | with_reducible exact Up.refl _ | with_reducible assumption | with_reducible refine Up.set ?_ (by first | exact Nat.le_refl _ | (simp only []; omega) | (simp; omega)) _ | with_reducible refine Up.alloc ?_ _ | with_reducible refine Up.drew ?_ | refine Up.trans ?_ (by with_reducible assumption)))
  rw [h2] at cF
  cases h3 : bvB x.bits
  · rw [wrvB_b h3]
    rw [h3] at cB
    clear h1 h2 h3 hr
    simp only [kV, setV] at *
    go_enter Tryd.func34, Tryd.ntmps34
    go_wp2_with (first | (go_at_call 61; (with_reducible refine (cV _ (hrt _ (by (repeat (first | with_reducible exact Up.refl _ | with_reducible assumption | with_reducible refine Up.set ?_ (by first | exact Nat.le_refl _ | (simp only []; omega) | (simp; omega)) _ | with_reducible refine Up.alloc ?_ _ | with_reducible refine Up.drew ?_ | refine Up.trans ?_ (by with_reducible assumption)))))).mono ?_); rintro e w1 ⟨rfl, U1⟩; have B1 := bcell U1; have Z1 := U1.size; (try simp at Z1); (try rw [Nat.add_one_le_iff] at Z1)) | (go_at_call 62; (with_reducible refine (cF _).mono ?_); rintro e w2 ⟨rfl, U2⟩; have B2 := bcell U2; have Z2 := U2.size; (try simp at Z2); (try rw [Nat.add_one_le_iff] at Z2)) | (go_at_call 63; (with_reducible refine (cB _).mono ?_); rintro e w' ⟨rfl, rfl⟩) | fail)
    go_ret
    refine ⟨rfl, ?_⟩
    (repeat (first | with_reducible exact Up.refl _ | with_reducible assumption | with_reducible refine Up.set ?_ (by first | exact Nat.le_refl _ | (simp only []; omega) | (simp; omega)) _ | with_reducible refine Up.alloc ?_ _ | with_reducible refine Up.drew ?_ | refine Up.trans ?_ (by with_reducible assumption)))
  rw [h3] at cB
  by_cases h4 : x.bits.length ≤ 7
  case neg =>
    rw [wrvB_7 h4]
    clear h1 h2 h3 hr
    have h4' : ((x.bits.length : Nat) : Int) > 7 := by omega
    simp only [kV, setV] at *
    go_enter Tryd.func34, Tryd.ntmps34
    go_wp2_with (first | (go_at_call 61; (with_reducible refine (cV _ (hrt _ (by (repeat (first | with_reducible exact Up.refl _ | with_reducible assumption | with_reducible refine Up.set ?_ (by first | exact Nat.le_refl _ | (simp only []; omega) | (simp; omega)) _ | with_reducible refine Up.alloc ?_ _ | with_reducible refine Up.drew ?_ | refine Up.trans ?_ (by with_reducible assumption)))))).mono ?_); rintro e w1 ⟨rfl, U1⟩; have B1 := bcell U1; have Z1 := U1.size; (try simp at Z1); (try rw [Nat.add_one_le_iff] at Z1)) | (go_at_call 62; (with_reducible refine (cF _).mono ?_); rintro e w2 ⟨rfl, U2⟩; have B2 := bcell U2; have Z2 := U2.size; (try simp at Z2); (try rw [Nat.add_one_le_iff] at Z2)) | (go_at_call 63; (with_reducible refine (cB _).mono ?_); rintro e w' ⟨rfl, rfl⟩) | fail)
    go_ret
    refine ⟨rfl, ?_⟩
    (repeat (first | with_reducible exact Up.refl _ | with_reducible assumption | with_reducible refine Up.set ?_ (by first | exact Nat.le_refl _ | (simp only []; omega) | (simp; omega)) _ | with_reducible refine Up.alloc ?_ _ | with_reducible refine Up.drew ?_ | refine Up.trans ?_ (by with_reducible assumption)))
  case pos =>
    have h4' : ¬ ((x.bits.length : Nat) : Int) > 7 := by omega
    rw [wrvB_all h1 h2 h3 h4]
    obtain ⟨hk, hv⟩ := ok_of_valid h1
    obtain ⟨f1, f2, f3⟩ := fitsB_lits h2
    obtain ⟨k, pend, bits, beg⟩ := x
    dsimp only at *
    by_cases hpe : pend = []
    · subst hpe
      simp only [show bs ([] : List UInt8) = (⟨#[]⟩ : ByteArray) from rfl] at *
      by_cases hbe : bits = []
      · subst hbe
        simp only [show bs ([] : List UInt8) = (⟨#[]⟩ : ByteArray) from rfl] at *
        cases beg
        all_goals
          rw [show wrsB (⟨k, [], [], _⟩ : WrD) = true from rfl]
          clear h1 h2 h3 hr hk hv f3
          simp only [kV, setV] at *
          go_enter Tryd.func34, Tryd.ntmps34
          go_wp2_with (first | (go_at_call 61; (with_reducible refine (cV _ (hrt _ (by (repeat (first | with_reducible exact Up.refl _ | with_reducible assumption | with_reducible refine Up.set ?_ (by first | exact Nat.le_refl _ | (simp only []; omega) | (simp; omega)) _ | with_reducible refine Up.alloc ?_ _ | with_reducible refine Up.drew ?_ | refine Up.trans ?_ (by with_reducible assumption)))))).mono ?_); rintro e w1 ⟨rfl, U1⟩; have B1 := bcell U1; have Z1 := U1.size; (try simp at Z1); (try rw [Nat.add_one_le_iff] at Z1)) | (go_at_call 62; (with_reducible refine (cF _).mono ?_); rintro e w2 ⟨rfl, U2⟩; have B2 := bcell U2; have Z2 := U2.size; (try simp at Z2); (try rw [Nat.add_one_le_iff] at Z2)) | (go_at_call 63; (with_reducible refine (cB _).mono ?_); rintro e w' ⟨rfl, rfl⟩) | fail)
          go_ret
          refine ⟨rfl, ?_⟩
          (repeat (first | with_reducible exact Up.refl _ | with_reducible assumption | with_reducible refine Up.set ?_ (by first | exact Nat.le_refl _ | (simp only []; omega) | (simp; omega)) _ | with_reducible refine Up.alloc ?_ _ | with_reducible refine Up.drew ?_ | refine Up.trans ?_ (by with_reducible assumption)))
      · have HBE := isEmpty_bs hbe
        cases beg
        · have HW : Hid (wrsB (⟨k, [], bits, false⟩ : WrD) = false) := by unfold Hid wrsB; simp [hbe]
          rw [HW.out]
          clear h1 h2 h3 hr hk hv f3 hbe
          simp only [kV, setV] at *
          go_enter Tryd.func34, Tryd.ntmps34
          go_wp2_with (first | (go_at_call 61; (with_reducible refine (cV _ (hrt _ (by (repeat (first | with_reducible exact Up.refl _ | with_reducible assumption | with_reducible refine Up.set ?_ (by first | exact Nat.le_refl _ | (simp only []; omega) | (simp; omega)) _ | with_reducible refine Up.alloc ?_ _ | with_reducible refine Up.drew ?_ | refine Up.trans ?_ (by with_reducible assumption)))))).mono ?_); rintro e w1 ⟨rfl, U1⟩; have B1 := bcell U1; have Z1 := U1.size; (try simp at Z1); (try rw [Nat.add_one_le_iff] at Z1)) | (go_at_call 62; (with_reducible refine (cF _).mono ?_); rintro e w2 ⟨rfl, U2⟩; have B2 := bcell U2; have Z2 := U2.size; (try simp at Z2); (try rw [Nat.add_one_le_iff] at Z2)) | (go_at_call 63; (with_reducible refine (cB _).mono ?_); rintro e w' ⟨rfl, rfl⟩) | fail)
          go_ret
          refine ⟨rfl, ?_⟩
          (repeat (first | with_reducible exact Up.refl _ | with_reducible assumption | with_reducible refine Up.set ?_ (by first | exact Nat.le_refl _ | (simp only []; omega) | (simp; omega)) _ | with_reducible refine Up.alloc ?_ _ | with_reducible refine Up.drew ?_ | refine Up.trans ?_ (by with_reducible assumption)))
        · have HW : Hid (wrsB (⟨k, [], bits, true⟩ : WrD) = true) := by unfold Hid wrsB; simp
          rw [HW.out]
          clear h1 h2 h3 hr hk hv f3 hbe
          simp only [kV, setV] at *
          go_enter Tryd.func34, Tryd.ntmps34
          go_wp2_with (first | (go_at_call 61; (with_reducible refine (cV _ (hrt _ (by (repeat (first | with_reducible exact Up.refl _ | with_reducible assumption | with_reducible refine Up.set ?_ (by first | exact Nat.le_refl _ | (simp only []; omega) | (simp; omega)) _ | with_reducible refine Up.alloc ?_ _ | with_reducible refine Up.drew ?_ | refine Up.trans ?_ (by with_reducible assumption)))))).mono ?_); rintro e w1 ⟨rfl, U1⟩; have B1 := bcell U1; have Z1 := U1.size; (try simp at Z1); (try rw [Nat.add_one_le_iff] at Z1)) | (go_at_call 62; (with_reducible refine (cF _).mono ?_); rintro e w2 ⟨rfl, U2⟩; have B2 := bcell U2; have Z2 := U2.size; (try simp at Z2); (try rw [Nat.add_one_le_iff] at Z2)) | (go_at_call 63; (with_reducible refine (cB _).mono ?_); rintro e w' ⟨rfl, rfl⟩) | fail)
          go_ret
          refine ⟨rfl, ?_⟩
          (repeat (first | with_reducible exact Up.refl _ | with_reducible assumption | with_reducible refine Up.set ?_ (by first | exact Nat.le_refl _ | (simp only []; omega) | (simp; omega)) _ | with_reducible refine Up.alloc ?_ _ | with_reducible refine Up.drew ?_ | refine Up.trans ?_ (by with_reducible assumption)))
    · have HPE := isEmpty_bs hpe
      have hpos := List.length_pos_iff.2 hpe
      cases beg
      · have HW : Hid (wrsB (⟨k, pend, bits, false⟩ : WrD) = false) := by unfold Hid wrsB; simp [hpe]
        rw [HW.out]
        clear h1 h2 h3 hr hk hv f3 hpe
        simp only [kV, setV] at *
        go_enter Tryd.func34, Tryd.ntmps34
        go_wp2_with (first | (go_at_call 61; (with_reducible refine (cV _ (hrt _ (by (repeat (first | with_reducible exact Up.refl _ | with_reducible assumption | with_reducible refine Up.set ?_ (by first | exact Nat.le_refl _ | (simp only []; omega) | (simp; omega)) _ | with_reducible refine Up.alloc ?_ _ | with_reducible refine Up.drew ?_ | refine Up.trans ?_ (by with_reducible assumption)))))).mono ?_); rintro e w1 ⟨rfl, U1⟩; have B1 := bcell U1; have Z1 := U1.size; (try simp at Z1); (try rw [Nat.add_one_le_iff] at Z1)) | (go_at_call 62; (with_reducible refine (cF _).mono ?_); rintro e w2 ⟨rfl, U2⟩; have B2 := bcell U2; have Z2 := U2.size; (try simp at Z2); (try rw [Nat.add_one_le_iff] at Z2)) | (go_at_call 63; (with_reducible refine (cB _).mono ?_); rintro e w' ⟨rfl, rfl⟩) | fail)
        go_ret
        refine ⟨rfl, ?_⟩
        (repeat (first | with_reducible exact Up.refl _ | with_reducible assumption | with_reducible refine Up.set ?_ (by first | exact Nat.le_refl _ | (simp only []; omega) | (simp; omega)) _ | with_reducible refine Up.alloc ?_ _ | with_reducible refine Up.drew ?_ | refine Up.trans ?_ (by with_reducible assumption)))
      · have cC := fun wq hr => l2Find_any k (.slice a k.ps.length cap) lo (bs pend) wq hk hr (by omega)
        rw [bs_data] at cC
        have HW : Hid (wrsB (⟨k, pend, bits, true⟩ : WrD) = decide (k.find pend ≥ 0)) := by
          unfold Hid wrsB
          have : (k.longest pend = pend) ↔ k.find pend ≥ 0 := ⟨KnD.word_find hk hpe f3, KnD.find_word hpe⟩
          simp [hpe, this]
        rw [HW.out]
        generalize k.find pend = cd at *
        clear h1 h2 h3 hr hk hv f3 hpe HW
        simp only [kV, setV] at *
        go_enter Tryd.func34, Tryd.ntmps34
        go_wp2_with (first | (go_at_call 61; (with_reducible refine (cV _ (hrt _ (by (repeat (first | with_reducible exact Up.refl _ | with_reducible assumption | with_reducible refine Up.set ?_ (by first | exact Nat.le_refl _ | (simp only []; omega) | (simp; omega)) _ | with_reducible refine Up.alloc ?_ _ | with_reducible refine Up.drew ?_ | refine Up.trans ?_ (by with_reducible assumption)))))).mono ?_); rintro e w1 ⟨rfl, U1⟩; have B1 := bcell U1; have Z1 := U1.size; (try simp at Z1); (try rw [Nat.add_one_le_iff] at Z1)) | (go_at_call 62; (with_reducible refine (cF _).mono ?_); rintro e w2 ⟨rfl, U2⟩; have B2 := bcell U2; have Z2 := U2.size; (try simp at Z2); (try rw [Nat.add_one_le_iff] at Z2)) | (go_at_call 63; (with_reducible refine (cB _).mono ?_); rintro e w' ⟨rfl, rfl⟩) | (go_at_call 64; (with_reducible refine (cC _ (hrt _ (by (repeat (first | with_reducible exact Up.refl _ | with_reducible assumption | with_reducible refine Up.set ?_ (by first | exact Nat.le_refl _ | (simp only []; omega) | (simp; omega)) _ | with_reducible refine Up.alloc ?_ _ | with_reducible refine Up.drew ?_ | refine Up.trans ?_ (by with_reducible assumption)))))).mono ?_); rintro e w4 ⟨rfl, U4⟩; have B4 := bcell U4; have Z4 := U4.size; (try simp at Z4); (try rw [Nat.add_one_le_iff] at Z4)) | fail)
        go_ret
        refine ⟨rfl, ?_⟩
        (repeat (first | with_reducible exact Up.refl _ | with_reducible assumption | with_reducible refine Up.set ?_ (by first | exact Nat.le_refl _ | (simp only []; omega) | (simp; omega)) _ | with_reducible refine Up.alloc ?_ _ | with_reducible refine Up.drew ?_ | refine Up.trans ?_ (by with_reducible assumption)))

end Go.Proofs.YtiiahjnfbhcgmaaDoor

/- FormatWriter of both sides. Conditions: the pairs can be read, at most 2^20 of each kind; the table of powers of ten lies where it was laid. -/
namespace Go.Proofs.YtiiahjnfbhcgmaaDoor
set_option linter.unusedVariables false
set_option linter.unusedSimpArgs false
open Go Go.RowKit

set_option maxRecDepth 100000 in
set_option maxHeartbeats 1000000 in
theorem l3Bool_any (b : Bool) (w : World) : Calls Tryd.prog 37  #[.bool b] w (fun e w' => e = .returned (.string (bs (begT b))) ∧ w = w') := by
  cases b
  all_goals
    go_enter Tryd.func37, Tryd.ntmps37
    go_wp2
    go_ret
    exact ⟨rfl, rfl⟩
theorem wrL_bs (x : WrD) : (((bs (fmtK x.k) ++ (⟨#[124]⟩ : ByteArray)) ++ bs (someL (fmtHex x.pend)) ++ (⟨#[124]⟩ : ByteArray)) ++ bs (someL x.bits) ++ (⟨#[124]⟩ : ByteArray)) ++ bs (begT x.beg) = bs (wrL x) := by
  rw [show (⟨#[124]⟩ : ByteArray) = bs [124] from rfl]
  simp [bs_app, wrL, Lib.join_cons, Lib.joinTail]
theorem begT_le (b : Bool) : (begT b).length ≤ 5 := by cases b <;> decide
theorem fmtHex_le (l : List UInt8) (h : l.length ≤ 2000) : (fmtHex l).length ≤ 4000 := by
  unfold fmtHex; split
  · rw [hexL_len]; omega
  · simp
theorem wrL_le {x : WrD} (h : wrvB x = true) : (wrL x).length ≤ 51000 := by
  obtain ⟨h1, h2, h3, h4⟩ := wrvB_parts h
  have e1 := fmtK_le x.k
  have e2 := someL_le (fmtHex_le x.pend h2) (by omega)
  have e3 := someL_le h4 (by omega)
  have e4 := begT_le x.beg
  unfold wrL
  rw [join4_len]
  omega
set_option maxRecDepth 100000 in
set_option maxHeartbeats 8000000 in
theorem fwS_any (x : WrD) (v : Value) (lo : Nat) (w : World) (hr : RdP lo w v x.k.ps) (hps : x.k.ps.length ≤ 1073741824) (hp : x.pend.length ≤ 1073741824) (hb : x.bits.length ≤ 1073741824) :
    Calls Tryd.prog 13  #[wrV x v] w (Same (.string (bs (fmtW x))) w) := by
  have cV := fun wx h => wvS_any x v lo wx h hps hp hb
  have cK := fun wx h => fkS_any x.k v lo wx h hps
  have hrt := fun (wq : World) (hu : Up w wq) => hr.up hu
  obtain ⟨a, cap, rfl, -⟩ := hr
  cases hv : wrvB x
  · have e : Hid (fmtW x = []) := by unfold Hid fmtW; rw [hv]; rfl
    rw [hv] at cV
    rw [e.out]
    clear hv cK
    simp only [wrV] at *
    go_enter Tryd.func13, Tryd.ntmps13
    go_wp2_with ((go_at_call 34; (with_reducible refine (cV _ (hrt _ (by (repeat (first | with_reducible exact Up.refl _ | with_reducible assumption | with_reducible refine Up.set ?_ (by first | exact Nat.le_refl _ | (simp only []; omega) | (simp; omega)) _ | with_reducible refine Up.alloc ?_ _ | with_reducible refine Up.drew ?_ | refine Up.trans ?_ (by with_reducible assumption)))))).mono ?_); rintro e w1 ⟨rfl, U1⟩; have B1 := bcell U1; have Z1 := U1.size; (try simp at Z1); (try rw [Nat.add_one_le_iff] at Z1)))
    go_ret
    exact ⟨rfl, by (repeat (first | with_reducible exact Up.refl _ | with_reducible assumption | with_reducible refine Up.set ?_ (by first | exact Nat.le_refl _ | (simp only []; omega) | (simp; omega)) _ | with_reducible refine Up.alloc ?_ _ | with_reducible refine Up.drew ?_ | refine Up.trans ?_ (by with_reducible assumption)))⟩
  · obtain ⟨h1, h2, h3, h4⟩ := wrvB_parts hv
    have e : Hid (fmtW x = wrL x) := by unfold Hid fmtW; rw [hv]; rfl
    rw [hv] at cV
    rw [e.out]
    have HX := Lib.hid (wrL_bs x)
    have cH := fun wx => fhS_any x.pend wx (by omega)
    have cS := fun wx => l3Some_any (fmtHex x.pend) wx
    have cT := fun wx => l3Some_any x.bits wx
    have cB := fun wx => l3Bool_any x.beg wx
    have zK := fmtK_le x.k
    have e2 := someL_le (fmtHex_le x.pend h2) (by omega)
    have e3 := someL_le h4 (by omega)
    have e4 := begT_le x.beg
    have z1 := bs_size (fmtK x.k)
    have z2 := bs_size (someL (fmtHex x.pend))
    have z3 := bs_size (someL x.bits)
    have z4 := bs_size (begT x.beg)
    clear h1 h3 hv e
    simp only [wrV, kV] at *
    generalize fmtK x.k = K at *
    generalize someL (fmtHex x.pend) = H at *
    generalize fmtHex x.pend = H0 at *
    generalize someL x.bits = B at *
    generalize begT x.beg = G at *
    go_enter Tryd.func13, Tryd.ntmps13
    go_wp2_with ((go_at_call 34; (with_reducible refine (cV _ (hrt _ (by (repeat (first | with_reducible exact Up.refl _ | with_reducible assumption | with_reducible refine Up.set ?_ (by first | exact Nat.le_refl _ | (simp only []; omega) | (simp; omega)) _ | with_reducible refine Up.alloc ?_ _ | with_reducible refine Up.drew ?_ | refine Up.trans ?_ (by with_reducible assumption)))))).mono ?_); rintro e w1 ⟨rfl, U1⟩; have B1 := bcell U1; have Z1 := U1.size; (try simp at Z1); (try rw [Nat.add_one_le_iff] at Z1)))
    refine wp_region_up 19 (by kernel_rfl) (by kernel_rfl) ?_
    simp only [List.take, List.drop]
    repeat (refine wpUp_step (fun K hK => ?_); go_simp; (try simp only [↓IntWalk.iteOmega]); first
      | (refine hK _ _ ?_; clear hK K)
      | (apply stepU_c
         · intro wq hwq; (have hbq := bcell hwq; (repeat (first | refine fills_no (by rfl) ?_ | refine fills_yes (by rfl) (fun vq hvq => ?_))); simp only [List.filter_nil, fills]; unfold upAt; go_simp; (try go_bits); (try simp only [↓IntWalk.iteOmega]); (try (rw [dif_pos (by omega)]; go_simp; try go_bits)); first | exact upOut_value | (apply upOut_call; (go_at_call 35; with_reducible exact cK _ (hrt _ (by (repeat (first | with_reducible exact Up.refl _ | with_reducible assumption | with_reducible refine Up.set ?_ (by first | exact Nat.le_refl _ | (simp only []; omega) | (simp; omega)) _ | with_reducible refine Up.alloc ?_ _ | with_reducible refine Up.drew ?_ | refine Up.trans ?_ (by with_reducible assumption))))))) | (apply upOut_eq; (go_at_call 35; with_reducible exact cK _ (hrt _ (by (repeat (first | with_reducible exact Up.refl _ | with_reducible assumption | with_reducible refine Up.set ?_ (by first | exact Nat.le_refl _ | (simp only []; omega) | (simp; omega)) _ | with_reducible refine Up.alloc ?_ _ | with_reducible refine Up.drew ?_ | refine Up.trans ?_ (by with_reducible assumption))))))) | (apply upOut_call; (go_at_call 36; with_reducible exact cH _)) | (apply upOut_eq; (go_at_call 36; with_reducible exact cH _)) | (apply upOut_call; (go_at_call 26; first | with_reducible exact cS _ | with_reducible exact cT _)) | (apply upOut_eq; (go_at_call 26; first | with_reducible exact cS _ | with_reducible exact cT _)) | (apply upOut_call; (go_at_call 37; with_reducible exact cB _)) | (apply upOut_eq; (go_at_call 37; with_reducible exact cB _)))
         go_simp; refine hK _ _ ?_; clear hK K))
    refine wpUp_nil (fun wq hwq => ?_)
    simp only [fills]
    go_wp2
    go_ret
    exact ⟨by rw [← HX.out]; rfl, by (repeat (first | with_reducible exact Up.refl _ | with_reducible assumption | with_reducible refine Up.set ?_ (by first | exact Nat.le_refl _ | (simp only []; omega) | (simp; omega)) _ | with_reducible refine Up.alloc ?_ _ | with_reducible refine Up.drew ?_ | refine Up.trans ?_ (by with_reducible assumption)))⟩

set_option maxRecDepth 100000 in
set_option maxHeartbeats 8000000 in
theorem fwI_any (x : WrD) (v : Value) (lo : Nat) (w : World) (hT : Tab w) (hl : -9223372036854775808 ≤ x.k.set.lit ∧ x.k.set.lit ≤ 9223372036854775807) (hr : RdP lo w v x.k.ps) (hps : x.k.ps.length ≤ 1073741824) (hp : x.pend.length ≤ 1073741824) (hb : x.bits.length ≤ 1073741824) :
    Calls Tryd.prog 15  #[wrV x v] w (Same (.string (bs (fmtW x))) w) := by
  have cV := fun wx h => wvI_any x v lo wx hl h hps hp hb
  have cK := fun wx (hx : Up w wx) h => fkI_any x.k v lo wx (hT.up hx) hl h hps
  have hrt := fun (wq : World) (hu : Up w wq) => hr.up hu
  obtain ⟨a, cap, rfl, -⟩ := hr
  clear hT
  cases hv : wrvB x
  · have e : Hid (fmtW x = []) := by unfold Hid fmtW; rw [hv]; rfl
    rw [hv] at cV
    rw [e.out]
    clear hv cK
    simp only [wrV] at *
    go_enter Tryd.func15, Tryd.ntmps15
    go_wp2_with ((go_at_call 39; (with_reducible refine (cV _ (hrt _ (by (repeat (first | with_reducible exact Up.refl _ | with_reducible assumption | with_reducible refine Up.set ?_ (by first | exact Nat.le_refl _ | (simp only []; omega) | (simp; omega)) _ | with_reducible refine Up.alloc ?_ _ | with_reducible refine Up.drew ?_ | refine Up.trans ?_ (by with_reducible assumption)))))).mono ?_); rintro e w1 ⟨rfl, U1⟩; have B1 := bcell U1; have Z1 := U1.size; (try simp at Z1); (try rw [Nat.add_one_le_iff] at Z1)))
    go_ret
    exact ⟨rfl, by (repeat (first | with_reducible exact Up.refl _ | with_reducible assumption | with_reducible refine Up.set ?_ (by first | exact Nat.le_refl _ | (simp only []; omega) | (simp; omega)) _ | with_reducible refine Up.alloc ?_ _ | with_reducible refine Up.drew ?_ | refine Up.trans ?_ (by with_reducible assumption)))⟩
  · obtain ⟨h1, h2, h3, h4⟩ := wrvB_parts hv
    have e : Hid (fmtW x = wrL x) := by unfold Hid fmtW; rw [hv]; rfl
    have HKL := Lib.hid (wrL_le hv)
    rw [hv] at cV
    rw [e.out]
    have cH := fun wx => fhI_any x.pend wx (by omega)
    have cS := fun wx => orDash_any (fmtHex x.pend) wx
    have cT := fun wx => orDash_any x.bits wx
    have cM := fun (v : Value) (wx : World) (h : MkS w.heap.size [fmtK x.k, someL (fmtHex x.pend), someL x.bits, begT x.beg] v wx) => joinM_any 124 h (by simp) (by simp) (by have := HKL.out; unfold wrL at this; omega)
    rw [show Lib.join [fmtK x.k, someL (fmtHex x.pend), someL x.bits, begT x.beg] [124] = wrL x from rfl] at cM
    clear h1 h3 hv e
    have hbg : x.beg = true ∨ x.beg = false := by cases x.beg <;> simp
    simp only [wrV, kV] at *
    generalize wrL x = R at *
    generalize hF1 : fmtK x.k = KT at *
    generalize hF2 : someL (fmtHex x.pend) = H at *
    generalize hF3 : fmtHex x.pend = H0 at *
    generalize hF4 : someL x.bits = B at *
    clear hF1 hF2 hF3 hF4
    rcases hbg with hg | hg
    all_goals
      rw [hg] at cM cV ⊢
      go_enter Tryd.func15, Tryd.ntmps15
      go_wp2_with ((go_at_call 39; (with_reducible refine (cV _ (hrt _ (by (repeat (first | with_reducible exact Up.refl _ | with_reducible assumption | with_reducible refine Up.set ?_ (by first | exact Nat.le_refl _ | (simp only []; omega) | (simp; omega)) _ | with_reducible refine Up.alloc ?_ _ | with_reducible refine Up.drew ?_ | refine Up.trans ?_ (by with_reducible assumption)))))).mono ?_); rintro e w1 ⟨rfl, U1⟩; have B1 := bcell U1; have Z1 := U1.size; (try simp at Z1); (try rw [Nat.add_one_le_iff] at Z1)))
      have HW : Hid (w.heap.size ≤ w1.heap.size) := (show Up w w1 by (repeat (first | with_reducible exact Up.refl _ | with_reducible assumption | with_reducible refine Up.set ?_ (by first | exact Nat.le_refl _ | (simp only []; omega) | (simp; omega)) _ | with_reducible refine Up.alloc ?_ _ | with_reducible refine Up.drew ?_ | refine Up.trans ?_ (by with_reducible assumption)))).size
      refine wp_region_up 13 (by kernel_rfl) (by kernel_rfl) ?_
      simp only [List.take, List.drop]
    · skip
      repeat (refine wpUp_step (fun K hK => ?_); go_simp; (try simp only [↓IntWalk.iteOmega]); first
        | (refine hK _ _ ?_; clear hK K)
        | (apply stepU_c
           · intro wq hwq; (have hbq := bcell hwq; (repeat (first | refine fills_no (by rfl) ?_ | refine fills_yes (by rfl) (fun vq hvq => ?_))); simp only [List.filter_nil, fills]; unfold upAt; (try (skip)); go_simp; (try go_bits); (try simp only [↓IntWalk.iteOmega]); (try (rw [dif_pos (by omega)]; go_simp; try go_bits)); first | exact upOut_value | (apply upOut_call; (go_at_call 40; with_reducible exact cK _ (by (repeat (first | with_reducible exact Up.refl _ | with_reducible assumption | with_reducible refine Up.set ?_ (by first | exact Nat.le_refl _ | (simp only []; omega) | (simp; omega)) _ | with_reducible refine Up.alloc ?_ _ | with_reducible refine Up.drew ?_ | refine Up.trans ?_ (by with_reducible assumption)))) (hrt _ (by (repeat (first | with_reducible exact Up.refl _ | with_reducible assumption | with_reducible refine Up.set ?_ (by first | exact Nat.le_refl _ | (simp only []; omega) | (simp; omega)) _ | with_reducible refine Up.alloc ?_ _ | with_reducible refine Up.drew ?_ | refine Up.trans ?_ (by with_reducible assumption))))))) | (apply upOut_eq; (go_at_call 40; with_reducible exact cK _ (by (repeat (first | with_reducible exact Up.refl _ | with_reducible assumption | with_reducible refine Up.set ?_ (by first | exact Nat.le_refl _ | (simp only []; omega) | (simp; omega)) _ | with_reducible refine Up.alloc ?_ _ | with_reducible refine Up.drew ?_ | refine Up.trans ?_ (by with_reducible assumption)))) (hrt _ (by (repeat (first | with_reducible exact Up.refl _ | with_reducible assumption | with_reducible refine Up.set ?_ (by first | exact Nat.le_refl _ | (simp only []; omega) | (simp; omega)) _ | with_reducible refine Up.alloc ?_ _ | with_reducible refine Up.drew ?_ | refine Up.trans ?_ (by with_reducible assumption))))))) | (apply upOut_call; (go_at_call 41; with_reducible exact cH _)) | (apply upOut_eq; (go_at_call 41; with_reducible exact cH _)) | (apply upOut_call; (go_at_call 30; first | with_reducible exact cS _ | with_reducible exact cT _)) | (apply upOut_eq; (go_at_call 30; first | with_reducible exact cS _ | with_reducible exact cT _)) | (apply upOut_call; (go_at_call 31; exact cM _ _ hvq)) | (apply upOut_eq; (go_at_call 31; exact cM _ _ hvq)))
           go_simp; refine hK _ _ ?_; clear hK K)
        | (refine stepU_m (by kernel_rfl) (MkS w.heap.size [KT, H, B, begT true]) (mkS_closed _ _) (fun wq hwq => ?_) ?_
           · (have hbq := bcell hwq; (repeat (first | refine fills_no (by rfl) ?_ | refine fills_yes (by rfl) (fun vq hvq => ?_))); simp only [List.filter_nil, fills]; unfold upAt; (try (skip)); go_simp; (try go_bits); (try simp only [↓IntWalk.iteOmega]); (try (rw [dif_pos (by omega)]; go_simp; try go_bits)); exact upOut_make ((Up.refl _).alloc _) (mkS_new hwq HW.out KT H B (begT true)))
           refine hK _ _ ?_; clear hK K))
      refine wpUp_nil (fun wq hwq => ?_)
      simp only [fills]
      intro v _
      go_wp2
      go_ret
      exact ⟨rfl, by (repeat (first | with_reducible exact Up.refl _ | with_reducible assumption | with_reducible refine Up.set ?_ (by first | exact Nat.le_refl _ | (simp only []; omega) | (simp; omega)) _ | with_reducible refine Up.alloc ?_ _ | with_reducible refine Up.drew ?_ | refine Up.trans ?_ (by with_reducible assumption)))⟩
    · skip
      repeat (refine wpUp_step (fun K hK => ?_); go_simp; (try simp only [↓IntWalk.iteOmega]); first
        | (refine hK _ _ ?_; clear hK K)
        | (apply stepU_c
           · intro wq hwq; (have hbq := bcell hwq; (repeat (first | refine fills_no (by rfl) ?_ | refine fills_yes (by rfl) (fun vq hvq => ?_))); simp only [List.filter_nil, fills]; unfold upAt; (try (skip)); go_simp; (try go_bits); (try simp only [↓IntWalk.iteOmega]); (try (rw [dif_pos (by omega)]; go_simp; try go_bits)); first | exact upOut_value | (apply upOut_call; (go_at_call 40; with_reducible exact cK _ (by (repeat (first | with_reducible exact Up.refl _ | with_reducible assumption | with_reducible refine Up.set ?_ (by first | exact Nat.le_refl _ | (simp only []; omega) | (simp; omega)) _ | with_reducible refine Up.alloc ?_ _ | with_reducible refine Up.drew ?_ | refine Up.trans ?_ (by with_reducible assumption)))) (hrt _ (by (repeat (first | with_reducible exact Up.refl _ | with_reducible assumption | with_reducible refine Up.set ?_ (by first | exact Nat.le_refl _ | (simp only []; omega) | (simp; omega)) _ | with_reducible refine Up.alloc ?_ _ | with_reducible refine Up.drew ?_ | refine Up.trans ?_ (by with_reducible assumption))))))) | (apply upOut_eq; (go_at_call 40; with_reducible exact cK _ (by (repeat (first | with_reducible exact Up.refl _ | with_reducible assumption | with_reducible refine Up.set ?_ (by first | exact Nat.le_refl _ | (simp only []; omega) | (simp; omega)) _ | with_reducible refine Up.alloc ?_ _ | with_reducible refine Up.drew ?_ | refine Up.trans ?_ (by with_reducible assumption)))) (hrt _ (by (repeat (first | with_reducible exact Up.refl _ | with_reducible assumption | with_reducible refine Up.set ?_ (by first | exact Nat.le_refl _ | (simp only []; omega) | (simp; omega)) _ | with_reducible refine Up.alloc ?_ _ | with_reducible refine Up.drew ?_ | refine Up.trans ?_ (by with_reducible assumption))))))) | (apply upOut_call; (go_at_call 41; with_reducible exact cH _)) | (apply upOut_eq; (go_at_call 41; with_reducible exact cH _)) | (apply upOut_call; (go_at_call 30; first | with_reducible exact cS _ | with_reducible exact cT _)) | (apply upOut_eq; (go_at_call 30; first | with_reducible exact cS _ | with_reducible exact cT _)) | (apply upOut_call; (go_at_call 31; exact cM _ _ hvq)) | (apply upOut_eq; (go_at_call 31; exact cM _ _ hvq)))
           go_simp; refine hK _ _ ?_; clear hK K)
        | (refine stepU_m (by kernel_rfl) (MkS w.heap.size [KT, H, B, begT false]) (mkS_closed _ _) (fun wq hwq => ?_) ?_
           · (have hbq := bcell hwq; (repeat (first | refine fills_no (by rfl) ?_ | refine fills_yes (by rfl) (fun vq hvq => ?_))); simp only [List.filter_nil, fills]; unfold upAt; (try (skip)); go_simp; (try go_bits); (try simp only [↓IntWalk.iteOmega]); (try (rw [dif_pos (by omega)]; go_simp; try go_bits)); exact upOut_make ((Up.refl _).alloc _) (mkS_new hwq HW.out KT H B (begT false)))
           refine hK _ _ ?_; clear hK K))
      refine wpUp_nil (fun wq hwq => ?_)
      simp only [fills]
      intro v _
      go_wp2
      go_ret
      exact ⟨rfl, by (repeat (first | with_reducible exact Up.refl _ | with_reducible assumption | with_reducible refine Up.set ?_ (by first | exact Nat.le_refl _ | (simp only []; omega) | (simp; omega)) _ | with_reducible refine Up.alloc ?_ _ | with_reducible refine Up.drew ?_ | refine Up.trans ?_ (by with_reducible assumption)))⟩

end Go.Proofs.YtiiahjnfbhcgmaaDoor

/- Walks of the reference's l3Put, l3Begin, l3Write. Conditions: what is known is valid, the pairs can be read, the code can be written. -/
namespace Go.Proofs.YtiiahjnfbhcgmaaDoor
set_option linter.unusedVariables false
set_option linter.unusedSimpArgs false
open Go Go.RowKit

/-- The loop of l3Write: the writer lies in block ob. -/
structure LwAt (T : List UInt8 × KnD × List UInt8) (s : SetD) (v0 : Value) (ps0 : List PairD) (w : World) (ob m : Nat) (k : KnD) (d b : List UInt8) (v : Value) (wr : World) : Prop where
  dat : WlD T s m k d b
  box : WrAt ob ⟨k, d, b, true⟩ v wr
  res : WrAt (w.heap.size + 1) wr0 (.slice none 0 0) wr
  up : Up w wr
  pr : (v = v0 ∧ k.ps = ps0) ∨ ownPr wr w.heap.size v k.ps
end Go.Proofs.YtiiahjnfbhcgmaaDoor

/- Walks of the reference's WriteData and CloseWriter, for writers of any kind. Conditions: the pairs can be read, the texts are no longer than 2^20 bytes. -/
namespace Go.Proofs.YtiiahjnfbhcgmaaDoor
set_option linter.unusedVariables false
set_option linter.unusedSimpArgs false
open Go Go.RowKit

theorem WlD.outs {T : List UInt8 × KnD × List UInt8} {s : SetD} : ∀ (m : Nat) (k : KnD) (d b : List UInt8), WlD T s m k d b → isBits T.1 ∧ T.1.length ≤ 41000 := by
  intro m
  induction m with
  | zero => intro k d b h; have h1 := h.len; have h2 := List.length_pos_iff.2 h.ne; omega
  | succ m ih =>
    intro k d b h
    by_cases hl : k.longest d = d
    · rw [h.stop hl]; exact ⟨h.bit, by have := h.sum; show b.length ≤ 41000; omega⟩
    · obtain ⟨_, h1, h2⟩ := h.step hl
      cases hf : (k.after (k.find (k.longest d))).full
      · exact ih _ _ _ (h2 hf)
      · exact ih _ _ _ (h1 hf)
end Go.Proofs.YtiiahjnfbhcgmaaDoor

/- Walks of the reference's functions that make blocks and containers. Conditions: as each says; for the outer ones none but the strings' bound. -/
namespace Go.Proofs.YtiiahjnfbhcgmaaDoor
set_option linter.unusedVariables false
set_option linter.unusedSimpArgs false
open Go Go.RowKit

/-- The block of data. -/
def blockD (s : SetD) (dict : List UInt8) (n : Int) (d : ByteArray) : BlkD := match compW s dict d.data.toList with
  | some st => if st.length < d.size then ⟨n, false, d.size, bs st⟩ else ⟨n, true, d.size, d⟩
  | none => ⟨n, true, d.size, d⟩
/-- The bytes of the blocks of data. -/
def textD (b : BlkD) : List UInt8 := (textB b.num b.raw b.size b.body).data.toList
def makeN (s : SetD) (dict : List UInt8) (size : Nat) : Nat → Int → List UInt8 → List UInt8
  | 0, _, _ => []
  | n + 1, f, d => if d = [] then [] else textD (blockD s dict f (bs (d.take size))) ++ makeN s dict size n (f + 1) (d.drop size)
theorem makeN_step {s : SetD} {dict : List UInt8} {size n : Nat} {f : Int} {d : List UInt8} (hd : d ≠ []) : makeN s dict size (n + 1) f d = textD (blockD s dict f (bs (d.take size))) ++ makeN s dict size n (f + 1) (d.drop size) := by rw [makeN, if_neg hd]
structure MkAt (T : List UInt8) (s : SetD) (dict : List UInt8) (size : Nat) (w : World) (m : Nat) (f : Int) (d acc : List UInt8) (n : Nat) (wr : World) : Prop where
  tot : acc ++ makeN s dict size n f d = T
  len : d.length ≤ n
  d2 : d.length ≤ 2000
  num : f = 40 - (m : Int)
  m40 : m ≤ 40
  fit : d.length ≤ m * size
  accl : acc.length + 74 * m ≤ 2960
  set : SetAt w.heap.size s.ord s.lit s.most wr
  up : Up w wr
theorem MkAt.step {T : List UInt8} {s : SetD} {dict : List UInt8} {size : Nat} {w : World} {m : Nat} {f : Int} {d acc : List UInt8} {n : Nat} {wr wq : World} (h : MkAt T s dict size w m f d acc n wr) (hd : d ≠ []) (hm : 1 ≤ m) (hn : 1 ≤ n) (hs : 1 ≤ size) (hu : Up wr wq)
    {td : List UInt8} (ht : td = textD (blockD s dict f (bs (d.take size)))) (htl : td.length ≤ 74) : MkAt T s dict size w (m - 1) (f + 1) (d.drop size) (acc ++ td) (n - 1) wq := by
  obtain ⟨m, rfl⟩ : ∃ m', m = m' + 1 := ⟨m - 1, by omega⟩
  obtain ⟨n, rfl⟩ : ∃ n', n = n' + 1 := ⟨n - 1, by omega⟩
  obtain ⟨h1, h2, h3, h4, h5, h6, h7, h8, h9⟩ := h
  have hl := List.length_pos_iff.2 hd
  refine ⟨?_, by rw [List.length_drop]; omega, by rw [List.length_drop]; omega, by omega, by omega, ?_, by rw [List.length_append]; omega, box_up hu h8, h9.trans hu⟩
  · rw [← h1, makeN_step hd, ht, List.append_assoc]; rfl
  · rw [Nat.succ_mul] at h6
    rw [List.length_drop]
    show _ ≤ m * size
    omega
end Go.Proofs.YtiiahjnfbhcgmaaDoor

