/- Texts joined into one: the walks and laws that the last text leans on. Conditions: as each says. -/
import Derived.Test.YtiiahjnfbhcgmaaGreatDoorMFnExactParseWriterLawF
import Derived.Test.YtiiahjnfbhcgmaaGreatDoorMFnExactParseWriterLawE
import Derived.Test.YtiiahjnfbhcgmaaGreatDoorOm
import Derived.Test.YtiiahjnfbhcgmaaGreatDoorFo
import Derived.Test.YtiiahjnfbhcgmaaGreatDoorKvG
import Derived.Test.YtiiahjnfbhcgmaaGreatDoorLearn
import Derived.Test.YtiiahjnfbhcgmaaGreatDoorMFnExactParseWriterLawD

set_option linter.unusedVariables false
set_option linter.unusedSimpArgs false
/- Walks of the program's appendBits onto a marked row and of the coder's write. Conditions: the coder lies in memory (CdEx), what is known is valid, the code can be written. -/
namespace Go.Proofs.YtiiahjnfbhcgmaaGreatDoor
set_option linter.unusedVariables false
set_option linter.unusedSimpArgs false
open Go Go.RowKit

theorem ownM_ne {w : World} {b : Nat} {cs : Array Value} {T : TypeId} (hb : w.heap[b]? = some (.cells cs T)) {base : Nat} {v : Value} {d : List UInt8} (h : ownM w base v d) (hne : T ≠ 5) : some b ≠ v.ownBlock := by
  obtain ⟨g, cap, cur, fz, rfl, h1, h2, -⟩ := h
  intro e
  simp only [Value.ownBlock, Option.some.injEq] at e
  subst e
  rw [h2] at hb
  simp only [Option.some.injEq, Obj.cells.injEq] at hb
  exact hne hb.2.1.symm
theorem ownM_row {w : World} {e : TypeId} {base1 size n : Nat} {v1 : Value} {xs : List Value} (hr : w.ownsRow base1 e size v1 n xs) {base : Nat} {v : Value} {d : List UInt8} (h : ownM w base v d) (hne : e ≠ 5) : v1.ownBlock = none ∨ v1.ownBlock ≠ v.ownBlock := by
  rcases hr.2 with ⟨rfl, _⟩ | ⟨g, cap, cur, rfl, hb, hg, _⟩
  · exact .inl rfl
  · exact .inr (ownM_ne hg h hne)
theorem ownM.setb {w : World} {b : Nat} {base : Nat} {v : Value} {d : List UInt8} (h : ownM w base v d) (hne : some b ≠ v.ownBlock) (i : Nat) (u : Value) : ownM (w.setCell ⟨b, i, none⟩ u) base v d := by
  obtain ⟨g, cap, cur, fz, rfl, h1, h2, h3⟩ := h
  have hgb : g ≠ b := fun e => hne (by simp [Value.ownBlock, e])
  exact ⟨g, cap, cur, fz, rfl, h1, (Below.heap_setCell _ _ _ _ hgb).trans h2, h3⟩

/-- The coder lies in block cb, its tree in tb. -/
structure CdAt (B cb tb : Nat) (k : KnD) (vp vn vi vb : Value) (bits : List UInt8) (w : World) : Prop where
  tree : TreeAt B tb k vp vn vi w
  box : w.heap[cb]? = some (.cells #[.pointer (some ⟨tb, 0, none⟩), vb] 82)
  low : B ≤ cb
  own : ownM w B vb bits
theorem CdAt.up {B cb tb : Nat} {k : KnD} {vp vn vi vb : Value} {bits : List UInt8} {w w' : World} (h : CdAt B cb tb k vp vn vi vb bits w) (hu : Up w w') : CdAt B cb tb k vp vn vi vb bits w' := ⟨h.tree.up hu, box_up hu h.box, h.low, h.own.up hu⟩
theorem CdAt.lt {B cb tb : Nat} {k : KnD} {vp vn vi vb : Value} {bits : List UInt8} {w : World} (h : CdAt B cb tb k vp vn vi vb bits w) : cb < w.heap.size := (Array.getElem?_eq_some_iff.1 h.box).1
/-- The tree and the coder's box, behind an append onto the bits. -/
theorem CdAt.gr {B cb tb : Nat} {k : KnD} {vp vn vi vb : Value} {bits : List UInt8} {w w' : World} (h : CdAt B cb tb k vp vn vi vb bits w) (hg : w.grownBy w' vb.ownBlock) : TreeAt B tb k vp vn vi w' ∧ w'.heap[cb]? = some (.cells #[.pointer (some ⟨tb, 0, none⟩), vb] 82) :=
  ⟨⟨gbox hg h.tree.box (ownM_ne h.tree.box h.own (by decide)), h.tree.low, h.tree.prs.kept hg (ownM_row h.tree.prs h.own (by decide)), h.tree.nod.kept hg (ownM_row h.tree.nod h.own (by decide)), h.tree.idx.kept hg (ownM_row h.tree.idx h.own (by decide))⟩, gbox hg h.box (ownM_ne h.box h.own (by decide))⟩
theorem TreeAt.setb {B tb : Nat} {k : KnD} {vp vn vi : Value} {w : World} (h : TreeAt B tb k vp vn vi w) {b : Nat} {cs : Array Value} {T : TypeId} (hb : w.heap[b]? = some (.cells cs T)) (h1 : T ≠ 89) (h2 : T ≠ 149) (h3 : T ≠ 141) (h4 : T ≠ 3) (i : Nat) (u : Value) : TreeAt B tb k vp vn vi (w.setCell ⟨b, i, none⟩ u) := by
  have hn : b ≠ tb := fun e => by
    subst e
    have := h.box
    unfold TrBox at this
    rw [hb] at this
    cases this
    exact h1 rfl
  exact ⟨(Below.heap_setCell _ _ _ _ (Ne.symm hn)).trans h.box, h.low, ownsRow_setb h.prs (box_ne hb h.prs h2) i u, ownsRow_setb h.nod (box_ne hb h.nod h3) i u, ownsRow_setb h.idx (box_ne hb h.idx h4) i u⟩
/-- The coder's bits are stored. -/
theorem CdAt.put {B cb tb : Nat} {k : KnD} {vp vn vi vb vb' : Value} {bits bits' : List UInt8} {w w' : World} (h : CdAt B cb tb k vp vn vi vb bits w) (hg : w.grownBy w' vb.ownBlock) (ho : ownM w' B vb' bits') : CdAt B cb tb k vp vn vi vb' bits' (w'.setCell ⟨cb, 1, none⟩ vb') := by
  obtain ⟨h1, h2⟩ := h.gr hg
  exact ⟨h1.setb h2 (by decide) (by decide) (by decide) (by decide) 1 vb', box_set h2 1 vb', h.low, ho.setb (ownM_ne h2 ho (by decide)) 1 vb'⟩
/-- A coder of the call's own. -/
def CdEx (a0 : World) (cb : Nat) (k : KnD) (bits : List UInt8) (w : World) : Prop := Up a0 w ∧ ∃ tb vp vn vi vb, CdAt a0.heap.size cb tb k vp vn vi vb bits w
theorem CdEx.up {a0 : World} {cb : Nat} {k : KnD} {bits : List UInt8} {w w' : World} (h : CdEx a0 cb k bits w) (hu : Up w w') : CdEx a0 cb k bits w' := by
  obtain ⟨h1, tb, vp, vn, vi, vb, h2⟩ := h
  exact ⟨h1.trans hu, tb, vp, vn, vi, vb, h2.up hu⟩
end Go.Proofs.YtiiahjnfbhcgmaaGreatDoor

/- Walks of the program's coderOf, codeOf, CodeOfWord, BitsValid, WriterValid, NewWriter. Conditions: as each says. -/
namespace Go.Proofs.YtiiahjnfbhcgmaaGreatDoor
set_option linter.unusedVariables false
set_option linter.unusedSimpArgs false
open Go Go.RowKit

/-- A writer in a block. -/
def WrAt (b : Nat) (x : WrD) (v : Value) (w : World) : Prop := w.heap[b]? = some (.cells #[.int .i64 x.k.set.ord, .int .i64 x.k.set.lit, .int .i64 x.k.set.most, v, .int .i64 x.k.base, .int .i64 x.k.last, .string (bs x.pend), .string (bs x.bits), .bool x.beg] 29)
theorem WrAt.cells {b : Nat} {x : WrD} {v : Value} {w : World} (h : WrAt b x v w) : b < w.heap.size ∧ w.cell? ⟨b, 0, none⟩ = some (.int .i64 x.k.set.ord) ∧ w.cell? ⟨b, 1, none⟩ = some (.int .i64 x.k.set.lit) ∧ w.cell? ⟨b, 2, none⟩ = some (.int .i64 x.k.set.most) ∧ w.cell? ⟨b, 3, none⟩ = some v ∧ w.cell? ⟨b, 4, none⟩ = some (.int .i64 x.k.base) ∧ w.cell? ⟨b, 5, none⟩ = some (.int .i64 x.k.last) ∧ w.cell? ⟨b, 6, none⟩ = some (.string (bs x.pend)) ∧ w.cell? ⟨b, 7, none⟩ = some (.string (bs x.bits)) ∧ w.cell? ⟨b, 8, none⟩ = some (.bool x.beg) :=
  ⟨(Array.getElem?_eq_some_iff.1 h).1, box_cell h 0, box_cell h 1, box_cell h 2, box_cell h 3, box_cell h 4, box_cell h 5, box_cell h 6, box_cell h 7, box_cell h 8⟩
theorem WrAt.up {b : Nat} {x : WrD} {v : Value} {w w' : World} (h : WrAt b x v w) (hu : Up w w') : WrAt b x v w' := box_up hu h
set_option maxRecDepth 100000 in
set_option maxHeartbeats 4000000 in
theorem codeOf_any (B tb : Nat) (k : KnD) (vp vn vi : Value) (s : ByteArray) (w : World) (h : TreeAt B tb k vp vn vi w) (hk : k.Ok) (hs : 0 < s.size) (hs2 : s.size ≤ 1073741824) (hl : ∀ b ∈ s.data.toList, b.toNat < k.c) :
    Calls Tryz.prog 69  #[.pointer (some ⟨tb, 0, none⟩), .string s] w (Same (if k.longest s.data.toList = s.data.toList then .tuple #[.int .i64 (k.find s.data.toList), .bool true] else .tuple #[.int .i64 0, .bool false]) w) := by
  have cL := fun wq hT => longest_any B tb k vp vn vi s wq hT hk hs hs2 hl
  have cK := fun w => clearI_any k.set w hk.set
  have hsl := ba_len s
  have htb := h.lt
  have hu0 := u8_bd s[0]
  have hne : s.data.toList ≠ [] := fun e => by rw [e] at hsl; simp at hsl; omega
  have hl0 : (s[0]).toNat < clr k.set := hl _ (by
    have e : s[0] = s.data.toList[0]'(by omega) := rfl
    rw [e]; exact List.getElem_mem _)
  have hge : ¬ ((s[0].toNat : Int) ≥ ((clr k.set : Nat) : Int)) := by omega
  have HE : s.toList.isEmpty = false := by rw [Lib.toList_data]; cases hh : s.data.toList with | nil => exact absurd hh hne | cons _ _ => rfl
  obtain ⟨c0, c1, c2, c3, c4, c5, c6, c7⟩ := h.cells
  have hle := KnD.longest_le (k := k) s.data.toList
  have HT := Lib.hid h
  by_cases he : k.longest s.data.toList = s.data.toList
  · rw [if_pos he]
    rw [he, hsl] at cL
    have hlt : ¬ ((s.size : Nat) : Int) < (s.size : Int) := by omega
    clear he h hl hle hne
    generalize k.find s.data.toList = x at *
    go_enter Tryz.func69, Tryz.ntmps69
    go_wp2
    refine wp_region_up 14 (by kernel_rfl) (by kernel_rfl) ?_
    simp only [List.take, List.drop]
    repeat (refine wpUp_step (fun K hK => ?_); go_simp; (try simp only [↓IntWalk.iteOmega]); first
      | (refine hK _ _ ?_; clear hK K)
      | (apply stepU_c
         · intro wq hwq; (have hbq := bcell hwq; (repeat (first | refine fills_no (by rfl) ?_ | refine fills_yes (by rfl) (fun vq hvq => ?_))); simp only [List.filter_nil, fills]; unfold upAt; go_simp; (try go_bits); (try simp only [↓IntWalk.iteOmega]); (try (rw [dif_pos (by omega)]; go_simp; try go_bits)); first | exact upOut_value | (apply upOut_call; (go_at_call 52; exact cK _)) | (apply upOut_eq; (go_at_call 52; exact cK _)))
         go_simp; refine hK _ _ ?_; clear hK K))
    refine wpUp_nil (fun wq hwq => ?_)
    simp only [fills]
    go_wp2_with (first | (go_at_call 49; (with_reducible refine (cL _ (HT.out.up hwq)).mono ?_); rintro e w2 ⟨rfl, U2⟩; have B2 := bcell U2; have Z2 := U2.size; (try simp at Z2); (try rw [Nat.add_one_le_iff] at Z2)))
    go_ret2
    exact ⟨rfl, hwq.trans U2⟩
  · rw [if_neg he]
    have hlt := KnD.longest_lt (k := k) he
    rw [hsl] at hlt
    generalize k.find (k.longest s.data.toList) = x at *
    generalize (k.longest s.data.toList).length = ln at *
    clear he h hl hle hne
    go_enter Tryz.func69, Tryz.ntmps69
    go_wp2
    refine wp_region_up 14 (by kernel_rfl) (by kernel_rfl) ?_
    simp only [List.take, List.drop]
    repeat (refine wpUp_step (fun K hK => ?_); go_simp; (try simp only [↓IntWalk.iteOmega]); first
      | (refine hK _ _ ?_; clear hK K)
      | (apply stepU_c
         · intro wq hwq; (have hbq := bcell hwq; (repeat (first | refine fills_no (by rfl) ?_ | refine fills_yes (by rfl) (fun vq hvq => ?_))); simp only [List.filter_nil, fills]; unfold upAt; go_simp; (try go_bits); (try simp only [↓IntWalk.iteOmega]); (try (rw [dif_pos (by omega)]; go_simp; try go_bits)); first | exact upOut_value | (apply upOut_call; (go_at_call 52; exact cK _)) | (apply upOut_eq; (go_at_call 52; exact cK _)))
         go_simp; refine hK _ _ ?_; clear hK K))
    refine wpUp_nil (fun wq hwq => ?_)
    simp only [fills]
    go_wp2_with (first | (go_at_call 49; (with_reducible refine (cL _ (HT.out.up hwq)).mono ?_); rintro e w2 ⟨rfl, U2⟩; have B2 := bcell U2; have Z2 := U2.size; (try simp at Z2); (try rw [Nat.add_one_le_iff] at Z2)))
    go_ret2
    exact ⟨rfl, hwq.trans U2⟩

set_option maxRecDepth 100000 in
set_option maxHeartbeats 4000000 in
theorem codeWI_any (k : KnD) (v : Value) (lo : Nat) (s : ByteArray) (w : World) (hk : k.Ok) (hv : k.vl) (hr : RdP lo w v k.ps) (hs : 0 < s.size) (hs2 : s.size ≤ 1073741824) (hl : ∀ b ∈ s.data.toList, b.toNat < k.c) :
    Calls Tryz.prog 78  #[kV k v, .string s] w (Same (.tuple #[.int .i64 (if k.longest s.data.toList = s.data.toList then k.find s.data.toList else 0), .bool (decide (k.longest s.data.toList = s.data.toList))]) w) := by
  have cV := fun wq hr => kvI_any k v lo wq hk hv hr
  have cN := fun wq hr => newTree_any k v lo wq hk hr
  have cC := fun B tb vp vn vi wq hT => codeOf_any B tb k vp vn vi s wq hT hk hs hs2 hl
  have hrt := fun (wq : World) (hu : Up w wq) => hr.up hu
  obtain ⟨a, cap, rfl, -, -, -, -⟩ := hr
  by_cases he : k.longest s.data.toList = s.data.toList
  · simp only [he, if_true, decide_true] at cC ⊢
    generalize k.find s.data.toList = x at *
    clear hk hl hv he
    simp only [kV] at *
    go_enter Tryz.func78, Tryz.ntmps78
    go_wp2_with (first | (go_at_call 76; (with_reducible refine (cV _ (hrt _ (by (repeat (first | with_reducible exact Up.refl _ | with_reducible assumption | with_reducible refine Up.set ?_ (by first | exact Nat.le_refl _ | (simp only []; omega) | (simp; omega)) _ | with_reducible refine Up.alloc ?_ _ | with_reducible refine Up.drew ?_ | refine Up.trans ?_ (by with_reducible assumption)))))).mono ?_); rintro e w1 ⟨rfl, U1⟩; have B1 := bcell U1; have Z1 := U1.size; (try simp at Z1); (try rw [Nat.add_one_le_iff] at Z1)) | fail)
    with_reducible refine (cN _ (hrt _ (by (repeat (first | with_reducible exact Up.refl _ | with_reducible assumption | with_reducible refine Up.set ?_ (by first | exact Nat.le_refl _ | (simp only []; omega) | (simp; omega)) _ | with_reducible refine Up.alloc ?_ _ | with_reducible refine Up.drew ?_ | refine Up.trans ?_ (by with_reducible assumption)))))).mono ?_
    rintro e w2 ⟨tb, vp, vn, vi, rfl, hT, U2⟩
    have HT := Lib.hid hT
    clear hT
    go_wp2_with (first | (go_at_call 69; (with_reducible refine (cC _ _ _ _ _ _ HT.out).mono ?_); rintro e w3 ⟨rfl, U3⟩; have B3 := bcell U3; have Z3 := U3.size; (try simp at Z3); (try rw [Nat.add_one_le_iff] at Z3)))
    go_ret2
    refine ⟨rfl, ?_⟩
    (repeat (first | with_reducible exact Up.refl _ | with_reducible assumption | with_reducible refine Up.set ?_ (by first | exact Nat.le_refl _ | (simp only []; omega) | (simp; omega)) _ | with_reducible refine Up.alloc ?_ _ | with_reducible refine Up.drew ?_ | refine Up.trans ?_ (by with_reducible assumption)))
  · simp only [he, if_false, decide_false] at cC ⊢
    clear hk hl hv he
    simp only [kV] at *
    go_enter Tryz.func78, Tryz.ntmps78
    go_wp2_with (first | (go_at_call 76; (with_reducible refine (cV _ (hrt _ (by (repeat (first | with_reducible exact Up.refl _ | with_reducible assumption | with_reducible refine Up.set ?_ (by first | exact Nat.le_refl _ | (simp only []; omega) | (simp; omega)) _ | with_reducible refine Up.alloc ?_ _ | with_reducible refine Up.drew ?_ | refine Up.trans ?_ (by with_reducible assumption)))))).mono ?_); rintro e w1 ⟨rfl, U1⟩; have B1 := bcell U1; have Z1 := U1.size; (try simp at Z1); (try rw [Nat.add_one_le_iff] at Z1)) | fail)
    with_reducible refine (cN _ (hrt _ (by (repeat (first | with_reducible exact Up.refl _ | with_reducible assumption | with_reducible refine Up.set ?_ (by first | exact Nat.le_refl _ | (simp only []; omega) | (simp; omega)) _ | with_reducible refine Up.alloc ?_ _ | with_reducible refine Up.drew ?_ | refine Up.trans ?_ (by with_reducible assumption)))))).mono ?_
    rintro e w2 ⟨tb, vp, vn, vi, rfl, hT, U2⟩
    have HT := Lib.hid hT
    clear hT
    go_wp2_with (first | (go_at_call 69; (with_reducible refine (cC _ _ _ _ _ _ HT.out).mono ?_); rintro e w3 ⟨rfl, U3⟩; have B3 := bcell U3; have Z3 := U3.size; (try simp at Z3); (try rw [Nat.add_one_le_iff] at Z3)))
    go_ret2
    refine ⟨rfl, ?_⟩
    (repeat (first | with_reducible exact Up.refl _ | with_reducible assumption | with_reducible refine Up.set ?_ (by first | exact Nat.le_refl _ | (simp only []; omega) | (simp; omega)) _ | with_reducible refine Up.alloc ?_ _ | with_reducible refine Up.drew ?_ | refine Up.trans ?_ (by with_reducible assumption)))

/-- Bits of a string, and not too many. -/
def bvB (l : List UInt8) : Bool := decide (l.length ≤ 32000) && bitsB l
theorem bitsB_no {s : ByteArray} {j : Nat} (h : j < s.size) (hb : ¬ (s[j].toNat = 48 ∨ s[j].toNat = 49)) : bitsB s.data.toList = false := by
  cases e : bitsB s.data.toList
  · rfl
  · exact absurd (bitsB_iff.1 e s[j] (by
      have e2 : s[j] = s.data.toList[j]'(by rw [ba_len]; exact h) := rfl
      rw [e2]; exact List.getElem_mem _)) hb
theorem bitsB_yes {s : ByteArray} (h : ∀ j (hj : j < s.size), s[j].toNat = 48 ∨ s[j].toNat = 49) : bitsB s.data.toList = true := by
  rw [bitsB_iff]
  intro b hb
  obtain ⟨i, hi, rfl⟩ := List.mem_iff_getElem.1 hb
  exact h i (by rw [ba_len] at hi; exact hi)
def RelBg (s : ByteArray) (i : Value) (w wr : World) : Prop := ∃ j : Nat, i = .int .i64 j ∧ j ≤ s.size ∧ (∀ q (hq : q < s.size), q < j → s[q].toNat = 48 ∨ s[q].toNat = 49) ∧ w = wr
set_option maxRecDepth 100000 in
set_option maxHeartbeats 1000000 in
theorem bvI_any (s : ByteArray) (w : World) (hs : s.size ≤ 1073741824) :
    Calls Tryz.prog 77  #[.string s] w (fun e w' => e = .returned (.bool (bvB s.data.toList)) ∧ w = w') := by
  have hlen := ba_len s
  by_cases h4 : s.size ≤ 32000
  · have HV : Hid (bvB s.data.toList = bitsB s.data.toList) := by unfold Hid bvB; rw [hlen, decide_eq_true h4]; rfl
    rw [HV.out]
    go_enter Tryz.func77, Tryz.ntmps77
    go_wp2
    go_loopw [9] (fun i wr => RelBg s i w wr) (fun i _ => s.size - (intOf i).toNat)
    case atStart => exact ⟨0, rfl, Nat.zero_le _, fun q _ h => absurd h (Nat.not_lt_zero _), rfl⟩
    case round =>
      obtain ⟨j, rfl, hj, hall, rfl⟩ := hrel
      have HA := Lib.hid hall
      clear hall
      by_cases hlt : j < s.size
      · have HN : Hid ((s[j].toNat = 48 ∨ s[j].toNat = 49) → ∀ q (hq : q < s.size), q < j + 1 → s[q].toNat = 48 ∨ s[q].toNat = 49) := fun h q hq hqj => by
          rcases Nat.lt_or_ge q j with h' | h'
          · exact HA.out q hq h'
          · have : q = j := by omega
            subst this; exact h
        by_cases h1 : s[j].toNat = 48
        · have HN' := Lib.hid (HN.out (.inl h1))
          clear HN HA
          go_wp2
          go_roundw
          case rel => exact ⟨j + 1, by go_num, by omega, HN'.out, rfl⟩
          case measure => simp [intOf]; omega
        · by_cases h2 : s[j].toNat = 49
          · have HN' := Lib.hid (HN.out (.inr h2))
            clear HN HA
            go_wp2
            go_roundw
            case rel => exact ⟨j + 1, by go_num, by omega, HN'.out, rfl⟩
            case measure => simp [intOf]; omega
          · have HB : Hid (bitsB s.data.toList = false) := bitsB_no hlt (fun h => h.elim h1 h2)
            have hb1 : ((s[j].toNat : Int) != 48) = true := by simp; omega
            have hb2 : ((s[j].toNat : Int) != 49) = true := by simp; omega
            clear HN HA
            go_wp2
            go_ret
            exact ⟨ret_bool HB.out.symm, rfl⟩
      · have HB : Hid (bitsB s.data.toList = true) := bitsB_yes fun q hq => HA.out q hq (by omega)
        go_wp2
        go_ret
        exact ⟨ret_bool HB.out.symm, rfl⟩
  · have HV : Hid (bvB s.data.toList = false) := by unfold Hid bvB; rw [hlen, decide_eq_false h4]; rfl
    rw [HV.out]
    go_enter Tryz.func77, Tryz.ntmps77
    go_wp2
    go_ret
    exact ⟨rfl, rfl⟩

theorem isEmpty_bs {d : List UInt8} (h : d ≠ []) : (bs d).toList.isEmpty = false := by rw [Lib.toList_data, bs_data]; cases d with | nil => exact absurd rfl h | cons _ _ => rfl
theorem wrvB_k {x : WrD} (h : validK x.k = false) : wrvB x = false := by unfold wrvB; rw [h]; rfl
theorem wrvB_f {x : WrD} (h : fitsB x.k.set x.pend = false) : wrvB x = false := by unfold wrvB; rw [h]; simp
theorem wrvB_b {x : WrD} (h : bvB x.bits = false) : wrvB x = false := by
  unfold wrvB
  have : (bitsB x.bits && decide (x.bits.length ≤ 7)) = false := by
    unfold bvB at h
    cases h1 : bitsB x.bits
    · rfl
    · rw [h1, Bool.and_true] at h
      have : ¬ x.bits.length ≤ 32000 := by simpa using h
      rw [Bool.true_and]
      exact decide_eq_false (by omega)
  rw [this]; simp
theorem wrvB_7 {x : WrD} (h : ¬ x.bits.length ≤ 7) : wrvB x = false := by unfold wrvB; rw [decide_eq_false h]; simp
theorem wrvB_all {x : WrD} (h1 : validK x.k = true) (h2 : fitsB x.k.set x.pend = true) (h3 : bvB x.bits = true) (h4 : x.bits.length ≤ 7) : wrvB x = wrsB x := by
  unfold wrvB
  unfold bvB at h3
  rw [h1, h2, decide_eq_true h4, (Bool.and_eq_true_iff.1 h3).2]
  rfl

set_option maxRecDepth 100000 in
set_option maxHeartbeats 8000000 in
theorem wvI_any (x : WrD) (v : Value) (lo : Nat) (w : World) (hl : -9223372036854775808 ≤ x.k.set.lit ∧ x.k.set.lit ≤ 9223372036854775807) (hr : RdP lo w v x.k.ps) (hps : x.k.ps.length ≤ 1073741824) (hp : x.pend.length ≤ 1073741824) (hb : x.bits.length ≤ 1073741824) :
    Calls Tryz.prog 17  #[wrV x v] w (Same (.bool (wrvB x)) w) := by
  have cV := fun wq hr => kvI_gen x.k v lo wq hl hr hps
  have hrt := fun (wq : World) (hu : Up w wq) => hr.up hu
  have hsp := bs_size x.pend
  have hsb := bs_size x.bits
  have cF := fun wq => fitsI_any x.k.set (bs x.pend) wq hl (by omega)
  have cB := fun wq => bvI_any (bs x.bits) wq (by omega)
  rw [bs_data] at cF cB
  obtain ⟨a, cap, rfl, -, -, -, -⟩ := id hr
  unfold wrV
  cases h1 : validK x.k
  · rw [wrvB_k h1]
    rw [h1] at cV
    clear h1 hr
    simp only [kV] at *
    go_enter Tryz.func17, Tryz.ntmps17
    go_wp2_with (first | (go_at_call 76; (with_reducible refine (cV _ (hrt _ (by (repeat (first | with_reducible exact Up.refl _ | with_reducible assumption | with_reducible refine Up.set ?_ (by first | exact Nat.le_refl _ | (simp only []; omega) | (simp; omega)) _ | with_reducible refine Up.alloc ?_ _ | with_reducible refine Up.drew ?_ | refine Up.trans ?_ (by with_reducible assumption)))))).mono ?_); rintro e w1 ⟨rfl, U1⟩; have B1 := bcell U1; have Z1 := U1.size; (try simp at Z1); (try rw [Nat.add_one_le_iff] at Z1)) | fail)
    go_ret
    refine ⟨rfl, ?_⟩
    (repeat (first | with_reducible exact Up.refl _ | with_reducible assumption | with_reducible refine Up.set ?_ (by first | exact Nat.le_refl _ | (simp only []; omega) | (simp; omega)) _ | with_reducible refine Up.alloc ?_ _ | with_reducible refine Up.drew ?_ | refine Up.trans ?_ (by with_reducible assumption)))
  rw [h1] at cV
  cases h2 : fitsB x.k.set x.pend
  · rw [wrvB_f h2]
    rw [h2] at cF
    clear h1 h2 hr
    simp only [kV, setV] at *
    go_enter Tryz.func17, Tryz.ntmps17
    go_wp2_with (first | (go_at_call 76; (with_reducible refine (cV _ (hrt _ (by (repeat (first | with_reducible exact Up.refl _ | with_reducible assumption | with_reducible refine Up.set ?_ (by first | exact Nat.le_refl _ | (simp only []; omega) | (simp; omega)) _ | with_reducible refine Up.alloc ?_ _ | with_reducible refine Up.drew ?_ | refine Up.trans ?_ (by with_reducible assumption)))))).mono ?_); rintro e w1 ⟨rfl, U1⟩; have B1 := bcell U1; have Z1 := U1.size; (try simp at Z1); (try rw [Nat.add_one_le_iff] at Z1)) | (go_at_call 46; (with_reducible refine (cF _).mono ?_); rintro e w2 ⟨rfl, U2⟩; have B2 := bcell U2; have Z2 := U2.size; (try simp at Z2); (try rw [Nat.add_one_le_iff] at Z2)) | fail)
    go_ret
    refine ⟨rfl, ?_⟩
    (repeat (first | with_reducible exact Up.refl _ | with_reducible assumption | with_reducible refine Up.set ?_ (by first | exact Nat.le_refl _ | (simp only []; omega) | (simp; omega)) _ | with_reducible refine Up.alloc ?_ _ | with_reducible refine Up.drew ?_ | refine Up.trans ?_ (by with_reducible assumption)))
  rw [h2] at cF
  cases h3 : bvB x.bits
  · rw [wrvB_b h3]
    rw [h3] at cB
    clear h1 h2 h3 hr
    simp only [kV, setV] at *
    go_enter Tryz.func17, Tryz.ntmps17
    go_wp2_with (first | (go_at_call 76; (with_reducible refine (cV _ (hrt _ (by (repeat (first | with_reducible exact Up.refl _ | with_reducible assumption | with_reducible refine Up.set ?_ (by first | exact Nat.le_refl _ | (simp only []; omega) | (simp; omega)) _ | with_reducible refine Up.alloc ?_ _ | with_reducible refine Up.drew ?_ | refine Up.trans ?_ (by with_reducible assumption)))))).mono ?_); rintro e w1 ⟨rfl, U1⟩; have B1 := bcell U1; have Z1 := U1.size; (try simp at Z1); (try rw [Nat.add_one_le_iff] at Z1)) | (go_at_call 46; (with_reducible refine (cF _).mono ?_); rintro e w2 ⟨rfl, U2⟩; have B2 := bcell U2; have Z2 := U2.size; (try simp at Z2); (try rw [Nat.add_one_le_iff] at Z2)) | (go_at_call 77; (with_reducible refine (cB _).mono ?_); rintro e w' ⟨rfl, rfl⟩) | fail)
    go_ret
    refine ⟨rfl, ?_⟩
    (repeat (first | with_reducible exact Up.refl _ | with_reducible assumption | with_reducible refine Up.set ?_ (by first | exact Nat.le_refl _ | (simp only []; omega) | (simp; omega)) _ | with_reducible refine Up.alloc ?_ _ | with_reducible refine Up.drew ?_ | refine Up.trans ?_ (by with_reducible assumption)))
  rw [h3] at cB
  by_cases h4 : x.bits.length ≤ 7
  case neg =>
    rw [wrvB_7 h4]
    clear h1 h2 h3 hr
    have h4' : ((x.bits.length : Nat) : Int) ≥ 8 := by omega
    simp only [kV, setV] at *
    go_enter Tryz.func17, Tryz.ntmps17
    go_wp2_with (first | (go_at_call 76; (with_reducible refine (cV _ (hrt _ (by (repeat (first | with_reducible exact Up.refl _ | with_reducible assumption | with_reducible refine Up.set ?_ (by first | exact Nat.le_refl _ | (simp only []; omega) | (simp; omega)) _ | with_reducible refine Up.alloc ?_ _ | with_reducible refine Up.drew ?_ | refine Up.trans ?_ (by with_reducible assumption)))))).mono ?_); rintro e w1 ⟨rfl, U1⟩; have B1 := bcell U1; have Z1 := U1.size; (try simp at Z1); (try rw [Nat.add_one_le_iff] at Z1)) | (go_at_call 46; (with_reducible refine (cF _).mono ?_); rintro e w2 ⟨rfl, U2⟩; have B2 := bcell U2; have Z2 := U2.size; (try simp at Z2); (try rw [Nat.add_one_le_iff] at Z2)) | (go_at_call 77; (with_reducible refine (cB _).mono ?_); rintro e w' ⟨rfl, rfl⟩) | fail)
    go_ret
    refine ⟨rfl, ?_⟩
    (repeat (first | with_reducible exact Up.refl _ | with_reducible assumption | with_reducible refine Up.set ?_ (by first | exact Nat.le_refl _ | (simp only []; omega) | (simp; omega)) _ | with_reducible refine Up.alloc ?_ _ | with_reducible refine Up.drew ?_ | refine Up.trans ?_ (by with_reducible assumption)))
  case pos =>
    have h4' : ¬ ((x.bits.length : Nat) : Int) ≥ 8 := by omega
    rw [wrvB_all h1 h2 h3 h4]
    obtain ⟨hk, hv⟩ := ok_of_valid h1
    obtain ⟨f1, f2, f3⟩ := fitsB_lits h2
    obtain ⟨k, pend, bits, beg⟩ := x
    dsimp only at *
    by_cases hpe : pend = []
    · subst hpe
      simp only [show bs ([] : List UInt8) = (⟨#[]⟩ : ByteArray) from rfl] at *
      by_cases hbe : bits = []
      · subst hbe
        simp only [show bs ([] : List UInt8) = (⟨#[]⟩ : ByteArray) from rfl] at *
        cases beg
        all_goals
          rw [show wrsB (⟨k, [], [], _⟩ : WrD) = true from rfl]
          clear h1 h2 h3 hr hk hv f3
          simp only [kV, setV] at *
          go_enter Tryz.func17, Tryz.ntmps17
          go_wp2_with (first | (go_at_call 76; (with_reducible refine (cV _ (hrt _ (by (repeat (first | with_reducible exact Up.refl _ | with_reducible assumption | with_reducible refine Up.set ?_ (by first | exact Nat.le_refl _ | (simp only []; omega) | (simp; omega)) _ | with_reducible refine Up.alloc ?_ _ | with_reducible refine Up.drew ?_ | refine Up.trans ?_ (by with_reducible assumption)))))).mono ?_); rintro e w1 ⟨rfl, U1⟩; have B1 := bcell U1; have Z1 := U1.size; (try simp at Z1); (try rw [Nat.add_one_le_iff] at Z1)) | (go_at_call 46; (with_reducible refine (cF _).mono ?_); rintro e w2 ⟨rfl, U2⟩; have B2 := bcell U2; have Z2 := U2.size; (try simp at Z2); (try rw [Nat.add_one_le_iff] at Z2)) | (go_at_call 77; (with_reducible refine (cB _).mono ?_); rintro e w' ⟨rfl, rfl⟩) | fail)
          go_ret
          refine ⟨rfl, ?_⟩
          (repeat (first | with_reducible exact Up.refl _ | with_reducible assumption | with_reducible refine Up.set ?_ (by first | exact Nat.le_refl _ | (simp only []; omega) | (simp; omega)) _ | with_reducible refine Up.alloc ?_ _ | with_reducible refine Up.drew ?_ | refine Up.trans ?_ (by with_reducible assumption)))
      · have HBE := isEmpty_bs hbe
        cases beg
        · have HW : Hid (wrsB (⟨k, [], bits, false⟩ : WrD) = false) := by unfold Hid wrsB; simp [hbe]
          rw [HW.out]
          clear h1 h2 h3 hr hk hv f3 hbe
          simp only [kV, setV] at *
          go_enter Tryz.func17, Tryz.ntmps17
          go_wp2_with (first | (go_at_call 76; (with_reducible refine (cV _ (hrt _ (by (repeat (first | with_reducible exact Up.refl _ | with_reducible assumption | with_reducible refine Up.set ?_ (by first | exact Nat.le_refl _ | (simp only []; omega) | (simp; omega)) _ | with_reducible refine Up.alloc ?_ _ | with_reducible refine Up.drew ?_ | refine Up.trans ?_ (by with_reducible assumption)))))).mono ?_); rintro e w1 ⟨rfl, U1⟩; have B1 := bcell U1; have Z1 := U1.size; (try simp at Z1); (try rw [Nat.add_one_le_iff] at Z1)) | (go_at_call 46; (with_reducible refine (cF _).mono ?_); rintro e w2 ⟨rfl, U2⟩; have B2 := bcell U2; have Z2 := U2.size; (try simp at Z2); (try rw [Nat.add_one_le_iff] at Z2)) | (go_at_call 77; (with_reducible refine (cB _).mono ?_); rintro e w' ⟨rfl, rfl⟩) | fail)
          go_ret
          refine ⟨rfl, ?_⟩
          (repeat (first | with_reducible exact Up.refl _ | with_reducible assumption | with_reducible refine Up.set ?_ (by first | exact Nat.le_refl _ | (simp only []; omega) | (simp; omega)) _ | with_reducible refine Up.alloc ?_ _ | with_reducible refine Up.drew ?_ | refine Up.trans ?_ (by with_reducible assumption)))
        · have HW : Hid (wrsB (⟨k, [], bits, true⟩ : WrD) = true) := by unfold Hid wrsB; simp
          rw [HW.out]
          clear h1 h2 h3 hr hk hv f3 hbe
          simp only [kV, setV] at *
          go_enter Tryz.func17, Tryz.ntmps17
          go_wp2_with (first | (go_at_call 76; (with_reducible refine (cV _ (hrt _ (by (repeat (first | with_reducible exact Up.refl _ | with_reducible assumption | with_reducible refine Up.set ?_ (by first | exact Nat.le_refl _ | (simp only []; omega) | (simp; omega)) _ | with_reducible refine Up.alloc ?_ _ | with_reducible refine Up.drew ?_ | refine Up.trans ?_ (by with_reducible assumption)))))).mono ?_); rintro e w1 ⟨rfl, U1⟩; have B1 := bcell U1; have Z1 := U1.size; (try simp at Z1); (try rw [Nat.add_one_le_iff] at Z1)) | (go_at_call 46; (with_reducible refine (cF _).mono ?_); rintro e w2 ⟨rfl, U2⟩; have B2 := bcell U2; have Z2 := U2.size; (try simp at Z2); (try rw [Nat.add_one_le_iff] at Z2)) | (go_at_call 77; (with_reducible refine (cB _).mono ?_); rintro e w' ⟨rfl, rfl⟩) | fail)
          go_ret
          refine ⟨rfl, ?_⟩
          (repeat (first | with_reducible exact Up.refl _ | with_reducible assumption | with_reducible refine Up.set ?_ (by first | exact Nat.le_refl _ | (simp only []; omega) | (simp; omega)) _ | with_reducible refine Up.alloc ?_ _ | with_reducible refine Up.drew ?_ | refine Up.trans ?_ (by with_reducible assumption)))
    · have HPE := isEmpty_bs hpe
      have hpos := List.length_pos_iff.2 hpe
      cases beg
      · have HW : Hid (wrsB (⟨k, pend, bits, false⟩ : WrD) = false) := by unfold Hid wrsB; simp [hpe]
        rw [HW.out]
        clear h1 h2 h3 hr hk hv f3 hpe
        simp only [kV, setV] at *
        go_enter Tryz.func17, Tryz.ntmps17
        go_wp2_with (first | (go_at_call 76; (with_reducible refine (cV _ (hrt _ (by (repeat (first | with_reducible exact Up.refl _ | with_reducible assumption | with_reducible refine Up.set ?_ (by first | exact Nat.le_refl _ | (simp only []; omega) | (simp; omega)) _ | with_reducible refine Up.alloc ?_ _ | with_reducible refine Up.drew ?_ | refine Up.trans ?_ (by with_reducible assumption)))))).mono ?_); rintro e w1 ⟨rfl, U1⟩; have B1 := bcell U1; have Z1 := U1.size; (try simp at Z1); (try rw [Nat.add_one_le_iff] at Z1)) | (go_at_call 46; (with_reducible refine (cF _).mono ?_); rintro e w2 ⟨rfl, U2⟩; have B2 := bcell U2; have Z2 := U2.size; (try simp at Z2); (try rw [Nat.add_one_le_iff] at Z2)) | (go_at_call 77; (with_reducible refine (cB _).mono ?_); rintro e w' ⟨rfl, rfl⟩) | fail)
        go_ret
        refine ⟨rfl, ?_⟩
        (repeat (first | with_reducible exact Up.refl _ | with_reducible assumption | with_reducible refine Up.set ?_ (by first | exact Nat.le_refl _ | (simp only []; omega) | (simp; omega)) _ | with_reducible refine Up.alloc ?_ _ | with_reducible refine Up.drew ?_ | refine Up.trans ?_ (by with_reducible assumption)))
      · have cC := fun wq hr => codeWI_any k (.slice a k.ps.length cap) lo (bs pend) wq hk hv hr (by omega) (by omega) (by rw [bs_data]; exact f3)
        rw [bs_data] at cC
        have HW : Hid (wrsB (⟨k, pend, bits, true⟩ : WrD) = decide (k.longest pend = pend)) := by unfold Hid wrsB; simp [hpe]
        rw [HW.out]
        generalize decide (k.longest pend = pend) = ok at *
        generalize (if k.longest pend = pend then k.find pend else 0) = cd at *
        clear h1 h2 h3 hr hk hv f3 hpe HW
        simp only [kV, setV] at *
        go_enter Tryz.func17, Tryz.ntmps17
        go_wp2_with (first | (go_at_call 76; (with_reducible refine (cV _ (hrt _ (by (repeat (first | with_reducible exact Up.refl _ | with_reducible assumption | with_reducible refine Up.set ?_ (by first | exact Nat.le_refl _ | (simp only []; omega) | (simp; omega)) _ | with_reducible refine Up.alloc ?_ _ | with_reducible refine Up.drew ?_ | refine Up.trans ?_ (by with_reducible assumption)))))).mono ?_); rintro e w1 ⟨rfl, U1⟩; have B1 := bcell U1; have Z1 := U1.size; (try simp at Z1); (try rw [Nat.add_one_le_iff] at Z1)) | (go_at_call 46; (with_reducible refine (cF _).mono ?_); rintro e w2 ⟨rfl, U2⟩; have B2 := bcell U2; have Z2 := U2.size; (try simp at Z2); (try rw [Nat.add_one_le_iff] at Z2)) | (go_at_call 77; (with_reducible refine (cB _).mono ?_); rintro e w' ⟨rfl, rfl⟩) | (go_at_call 78; (with_reducible refine (cC _ (hrt _ (by (repeat (first | with_reducible exact Up.refl _ | with_reducible assumption | with_reducible refine Up.set ?_ (by first | exact Nat.le_refl _ | (simp only []; omega) | (simp; omega)) _ | with_reducible refine Up.alloc ?_ _ | with_reducible refine Up.drew ?_ | refine Up.trans ?_ (by with_reducible assumption)))))).mono ?_); rintro e w4 ⟨rfl, U4⟩; have B4 := bcell U4; have Z4 := U4.size; (try simp at Z4); (try rw [Nat.add_one_le_iff] at Z4)) | fail)
        go_ret
        refine ⟨rfl, ?_⟩
        (repeat (first | with_reducible exact Up.refl _ | with_reducible assumption | with_reducible refine Up.set ?_ (by first | exact Nat.le_refl _ | (simp only []; omega) | (simp; omega)) _ | with_reducible refine Up.alloc ?_ _ | with_reducible refine Up.drew ?_ | refine Up.trans ?_ (by with_reducible assumption)))

end Go.Proofs.YtiiahjnfbhcgmaaGreatDoor

/- Walks of the program's NewWriter, WriteData, CloseWriter, LongestWord. Conditions: the writer's pairs can be read; its texts are no longer than 2^20 bytes. -/
namespace Go.Proofs.YtiiahjnfbhcgmaaGreatDoor
set_option linter.unusedVariables false
set_option linter.unusedSimpArgs false
open Go Go.RowKit

/-- A writer's stores into a block. -/
def WrW (w : World) (b : Nat) (x : WrD) (v : Value) : World := (((KnW w b x.k v).setCell ⟨b, 6, none⟩ (.string (bs x.pend))).setCell ⟨b, 7, none⟩ (.string (bs x.bits))).setCell ⟨b, 8, none⟩ (.bool x.beg)
theorem WrAt.store {b : Nat} {x0 : WrD} {v0 : Value} {w : World} (h : WrAt b x0 v0 w) (x : WrD) (v : Value) : WrAt b x v (WrW w b x v) := by
  unfold WrAt at *
  unfold WrW KnW
  have := box_set (box_set (box_set (box_set (box_set (box_set (box_set (box_set (box_set h 0 (.int .i64 x.k.set.ord)) 1 (.int .i64 x.k.set.lit)) 2 (.int .i64 x.k.set.most)) 3 v) 4 (.int .i64 x.k.base)) 5 (.int .i64 x.k.last)) 6 (.string (bs x.pend))) 7 (.string (bs x.bits))) 8 (.bool x.beg)
  simpa using this
theorem WrW.up {a w : World} (h : Up a w) {b : Nat} (hb : a.heap.size ≤ b) (x : WrD) (v : Value) : Up a (WrW w b x v) := by
  unfold WrW
  exact (((KnW.up h hb x.k v).set (p := ⟨b, 6, none⟩) hb _).set (p := ⟨b, 7, none⟩) hb _).set (p := ⟨b, 8, none⟩) hb _
theorem WrW.own {w : World} {base : Nat} {e : TypeId} {size n : Nat} {v : Value} {xs : List Value} (h : w.ownsRow base e size v n xs) {b : Nat} (hb : some b ≠ v.ownBlock) (x : WrD) (u : Value) : (WrW w b x u).ownsRow base e size v n xs := by
  unfold WrW
  exact ownsRow_setb (ownsRow_setb (ownsRow_setb (KnW.own h hb x.k u) hb 6 _) hb 7 _) hb 8 _
theorem WrW.other {w : World} {b b' : Nat} (hb : b' ≠ b) (x : WrD) (v : Value) : (WrW w b x v).heap[b']? = w.heap[b']? := by
  unfold WrW
  exact (Below.heap_setCell _ _ _ _ hb).trans ((Below.heap_setCell _ _ _ _ hb).trans ((Below.heap_setCell _ _ _ _ hb).trans (KnW.other hb x.k v)))
def wr0 : WrD := ⟨⟨⟨0, 0, 0⟩, [], 0, 0⟩, [], [], false⟩
theorem WrAt.zero {w : World} {b : Nat} (h : w.heap[b]? = some (.cells #[.int .i64 0, .int .i64 0, .int .i64 0, .slice none 0 0, .int .i64 0, .int .i64 0, .string ⟨#[]⟩, .string ⟨#[]⟩, .bool false] 29)) : WrAt b wr0 (.slice none 0 0) w := h

end Go.Proofs.YtiiahjnfbhcgmaaGreatDoor

/- Walks of the reference's l9OwnKnown, l3Copy, l9OwnWriter, BitsValid, WriterValid, NewWriter. Conditions: the pairs can be read. -/
namespace Go.Proofs.YtiiahjnfbhcgmaaGreatDoor
set_option linter.unusedVariables false
set_option linter.unusedSimpArgs false
open Go Go.RowKit

set_option maxRecDepth 100000 in
set_option maxHeartbeats 1000000 in
theorem bvS_any (s : ByteArray) (w : World) (hs : s.size ≤ 1073741824) :
    Calls Tryz.prog 124  #[.string s] w (fun e w' => e = .returned (.bool (bvB s.data.toList)) ∧ w = w') := by
  have hlen := ba_len s
  go_enter Tryz.func124, Tryz.ntmps124
  go_wp2
  go_loopw [3] (fun i wr => RelBg s i w wr) (fun i _ => s.size - (intOf i).toNat)
  case atStart => exact ⟨0, rfl, Nat.zero_le _, fun q _ h => absurd h (Nat.not_lt_zero _), rfl⟩
  case round =>
    obtain ⟨j, rfl, hj, hall, rfl⟩ := hrel
    have HA := Lib.hid hall
    clear hall
    by_cases hlt : j < s.size
    · have HN : Hid ((s[j].toNat = 48 ∨ s[j].toNat = 49) → ∀ q (hq : q < s.size), q < j + 1 → s[q].toNat = 48 ∨ s[q].toNat = 49) := fun h q hq hqj => by
        rcases Nat.lt_or_ge q j with h' | h'
        · exact HA.out q hq h'
        · have : q = j := by omega
          subst this; exact h
      by_cases h1 : s[j].toNat = 48
      · have HN' := Lib.hid (HN.out (.inl h1))
        clear HN HA
        go_wp2
        go_roundw
        case rel => exact ⟨j + 1, by go_num, by omega, HN'.out, rfl⟩
        case measure => simp [intOf]; omega
      · by_cases h2 : s[j].toNat = 49
        · have HN' := Lib.hid (HN.out (.inr h2))
          clear HN HA
          go_wp2
          go_roundw
          case rel => exact ⟨j + 1, by go_num, by omega, HN'.out, rfl⟩
          case measure => simp [intOf]; omega
        · have HB : Hid (bitsB s.data.toList = false) := bitsB_no hlt (fun h => h.elim h1 h2)
          have HV : Hid (bvB s.data.toList = false) := by unfold Hid bvB; rw [HB.out, Bool.and_false]
          have hb1 : ((s[j].toNat : Int) != 48) = true := by simp; omega
          have hb2 : ((s[j].toNat : Int) != 49) = true := by simp; omega
          clear HN HA
          go_wp2
          go_ret
          exact ⟨ret_bool HV.out.symm, rfl⟩
    · have HB : Hid (bitsB s.data.toList = true) := bitsB_yes fun q hq => HA.out q hq (by omega)
      have HV : Hid (bvB s.data.toList = decide ((s.size : Int) ≤ 32000)) := by
        unfold Hid bvB
        rw [HB.out, hlen, Bool.and_true]
        by_cases h4 : s.size ≤ 32000
        · rw [decide_eq_true h4, decide_eq_true (by omega)]
        · rw [decide_eq_false h4, decide_eq_false (by omega)]
      go_wp2
      go_ret
      exact ⟨ret_bool HV.out.symm, rfl⟩

set_option maxRecDepth 100000 in
set_option maxHeartbeats 8000000 in
theorem wvS_any (x : WrD) (v : Value) (lo : Nat) (w : World) (hr : RdP lo w v x.k.ps) (hps : x.k.ps.length ≤ 1073741824) (hp : x.pend.length ≤ 1073741824) (hb : x.bits.length ≤ 1073741824) :
    Calls Tryz.prog 55  #[wrV x v] w (Same (.bool (wrvB x)) w) := by
  have cV := fun wq hr => kvS_gen x.k v lo wq hr hps
  have hrt := fun (wq : World) (hu : Up w wq) => hr.up hu
  have hsp := bs_size x.pend
  have hsb := bs_size x.bits
  have cF := fun wq => fitsS_any x.k.set (bs x.pend) wq (by omega)
  have cB := fun wq => bvS_any (bs x.bits) wq (by omega)
  rw [bs_data] at cF cB
  obtain ⟨a, cap, rfl, -, -, -, -⟩ := id hr
  unfold wrV
  cases h1 : validK x.k
  · rw [wrvB_k h1]
    rw [h1] at cV
    clear h1 hr
    simp only [kV] at *
    go_enter Tryz.func55, Tryz.ntmps55
    go_wp2_with (first | (go_at_call 123; (with_reducible refine (cV _ (hrt _ (by (repeat (first | with_reducible exact Up.refl _ | with_reducible assumption | with_reducible refine Up.set ?_ (by first | exact Nat.le_refl _ | (simp only []; omega) | (simp; omega)) _ | with_reducible refine Up.alloc ?_ _ | with_reducible refine Up.drew ?_ | refine Up.trans ?_ (by with_reducible assumption)))))).mono ?_); rintro e w1 ⟨rfl, U1⟩; have B1 := bcell U1; have Z1 := U1.size; (try simp at Z1); (try rw [Nat.add_one_le_iff] at Z1)) | (go_at_call 56; (with_reducible refine (cF _).mono ?_); rintro e w2 ⟨rfl, U2⟩; have B2 := bcell U2; have Z2 := U2.size; (try simp at Z2); (try rw [Nat.add_one_le_iff] at Z2)) | (go_at_call 124; (with_reducible refine (cB _).mono ?_); rintro e w' ⟨rfl, rfl⟩) | fail)
    go_ret
    refine ⟨rfl, ?_⟩
    (repeat (first | with_reducible exact Up.refl _ | with_reducible assumption | with_reducible refine Up.set ?_ (by first | exact Nat.le_refl _ | (simp only []; omega) | (simp; omega)) _ | with_reducible refine Up.alloc ?_ _ | with_reducible refine Up.drew ?_ | refine Up.trans ?_ (by with_reducible assumption)))
  rw [h1] at cV
  cases h2 : fitsB x.k.set x.pend
  · rw [wrvB_f h2]
    rw [h2] at cF
    clear h1 h2 hr
    simp only [kV, setV] at *
    go_enter Tryz.func55, Tryz.ntmps55
    go_wp2_with (first | (go_at_call 123; (with_reducible refine (cV _ (hrt _ (by (repeat (first | with_reducible exact Up.refl _ | with_reducible assumption | with_reducible refine Up.set ?_ (by first | exact Nat.le_refl _ | (simp only []; omega) | (simp; omega)) _ | with_reducible refine Up.alloc ?_ _ | with_reducible refine Up.drew ?_ | refine Up.trans ?_ (by with_reducible assumption)))))).mono ?_); rintro e w1 ⟨rfl, U1⟩; have B1 := bcell U1; have Z1 := U1.size; (try simp at Z1); (try rw [Nat.add_one_le_iff] at Z1)) | (go_at_call 56; (with_reducible refine (cF _).mono ?_); rintro e w2 ⟨rfl, U2⟩; have B2 := bcell U2; have Z2 := U2.size; (try simp at Z2); (try rw [Nat.add_one_le_iff] at Z2)) | (go_at_call 124; (with_reducible refine (cB _).mono ?_); rintro e w' ⟨rfl, rfl⟩) | fail)
    go_ret
    refine ⟨rfl, ?_⟩
    (repeat (first | with_reducible exact Up.refl _ | with_reducible assumption | with_reducible refine Up.set ?_ (by first | exact Nat.le_refl _ | (simp only []; omega) | (simp; omega)) _ | with_reducible refine Up.alloc ?_ _ | with_reducible refine Up.drew ?_ | refine Up.trans ?_ (by with_reducible assumption)))
  rw [h2] at cF
  cases h3 : bvB x.bits
  · rw [wrvB_b h3]
    rw [h3] at cB
    clear h1 h2 h3 hr
    simp only [kV, setV] at *
    go_enter Tryz.func55, Tryz.ntmps55
    go_wp2_with (first | (go_at_call 123; (with_reducible refine (cV _ (hrt _ (by (repeat (first | with_reducible exact Up.refl _ | with_reducible assumption | with_reducible refine Up.set ?_ (by first | exact Nat.le_refl _ | (simp only []; omega) | (simp; omega)) _ | with_reducible refine Up.alloc ?_ _ | with_reducible refine Up.drew ?_ | refine Up.trans ?_ (by with_reducible assumption)))))).mono ?_); rintro e w1 ⟨rfl, U1⟩; have B1 := bcell U1; have Z1 := U1.size; (try simp at Z1); (try rw [Nat.add_one_le_iff] at Z1)) | (go_at_call 56; (with_reducible refine (cF _).mono ?_); rintro e w2 ⟨rfl, U2⟩; have B2 := bcell U2; have Z2 := U2.size; (try simp at Z2); (try rw [Nat.add_one_le_iff] at Z2)) | (go_at_call 124; (with_reducible refine (cB _).mono ?_); rintro e w' ⟨rfl, rfl⟩) | fail)
    go_ret
    refine ⟨rfl, ?_⟩
    (repeat (first | with_reducible exact Up.refl _ | with_reducible assumption | with_reducible refine Up.set ?_ (by first | exact Nat.le_refl _ | (simp only []; omega) | (simp; omega)) _ | with_reducible refine Up.alloc ?_ _ | with_reducible refine Up.drew ?_ | refine Up.trans ?_ (by with_reducible assumption)))
  rw [h3] at cB
  by_cases h4 : x.bits.length ≤ 7
  case neg =>
    rw [wrvB_7 h4]
    clear h1 h2 h3 hr
    have h4' : ((x.bits.length : Nat) : Int) > 7 := by omega
    simp only [kV, setV] at *
    go_enter Tryz.func55, Tryz.ntmps55
    go_wp2_with (first | (go_at_call 123; (with_reducible refine (cV _ (hrt _ (by (repeat (first | with_reducible exact Up.refl _ | with_reducible assumption | with_reducible refine Up.set ?_ (by first | exact Nat.le_refl _ | (simp only []; omega) | (simp; omega)) _ | with_reducible refine Up.alloc ?_ _ | with_reducible refine Up.drew ?_ | refine Up.trans ?_ (by with_reducible assumption)))))).mono ?_); rintro e w1 ⟨rfl, U1⟩; have B1 := bcell U1; have Z1 := U1.size; (try simp at Z1); (try rw [Nat.add_one_le_iff] at Z1)) | (go_at_call 56; (with_reducible refine (cF _).mono ?_); rintro e w2 ⟨rfl, U2⟩; have B2 := bcell U2; have Z2 := U2.size; (try simp at Z2); (try rw [Nat.add_one_le_iff] at Z2)) | (go_at_call 124; (with_reducible refine (cB _).mono ?_); rintro e w' ⟨rfl, rfl⟩) | fail)
    go_ret
    refine ⟨rfl, ?_⟩
    (repeat (first | with_reducible exact Up.refl _ | with_reducible assumption | with_reducible refine Up.set ?_ (by first | exact Nat.le_refl _ | (simp only []; omega) | (simp; omega)) _ | with_reducible refine Up.alloc ?_ _ | with_reducible refine Up.drew ?_ | refine Up.trans ?_ (by with_reducible assumption)))
  case pos =>
    have h4' : ¬ ((x.bits.length : Nat) : Int) > 7 := by omega
    rw [wrvB_all h1 h2 h3 h4]
    obtain ⟨hk, hv⟩ := ok_of_valid h1
    obtain ⟨f1, f2, f3⟩ := fitsB_lits h2
    obtain ⟨k, pend, bits, beg⟩ := x
    dsimp only at *
    by_cases hpe : pend = []
    · subst hpe
      simp only [show bs ([] : List UInt8) = (⟨#[]⟩ : ByteArray) from rfl] at *
      by_cases hbe : bits = []
      · subst hbe
        simp only [show bs ([] : List UInt8) = (⟨#[]⟩ : ByteArray) from rfl] at *
        cases beg
        all_goals
          rw [show wrsB (⟨k, [], [], _⟩ : WrD) = true from rfl]
          clear h1 h2 h3 hr hk hv f3
          simp only [kV, setV] at *
          go_enter Tryz.func55, Tryz.ntmps55
          go_wp2_with (first | (go_at_call 123; (with_reducible refine (cV _ (hrt _ (by (repeat (first | with_reducible exact Up.refl _ | with_reducible assumption | with_reducible refine Up.set ?_ (by first | exact Nat.le_refl _ | (simp only []; omega) | (simp; omega)) _ | with_reducible refine Up.alloc ?_ _ | with_reducible refine Up.drew ?_ | refine Up.trans ?_ (by with_reducible assumption)))))).mono ?_); rintro e w1 ⟨rfl, U1⟩; have B1 := bcell U1; have Z1 := U1.size; (try simp at Z1); (try rw [Nat.add_one_le_iff] at Z1)) | (go_at_call 56; (with_reducible refine (cF _).mono ?_); rintro e w2 ⟨rfl, U2⟩; have B2 := bcell U2; have Z2 := U2.size; (try simp at Z2); (try rw [Nat.add_one_le_iff] at Z2)) | (go_at_call 124; (with_reducible refine (cB _).mono ?_); rintro e w' ⟨rfl, rfl⟩) | fail)
          go_ret
          refine ⟨rfl, ?_⟩
          (repeat (first | with_reducible exact Up.refl _ | with_reducible assumption | with_reducible refine Up.set ?_ (by first | exact Nat.le_refl _ | (simp only []; omega) | (simp; omega)) _ | with_reducible refine Up.alloc ?_ _ | with_reducible refine Up.drew ?_ | refine Up.trans ?_ (by with_reducible assumption)))
      · have HBE := isEmpty_bs hbe
        cases beg
        · have HW : Hid (wrsB (⟨k, [], bits, false⟩ : WrD) = false) := by unfold Hid wrsB; simp [hbe]
          rw [HW.out]
          clear h1 h2 h3 hr hk hv f3 hbe
          simp only [kV, setV] at *
          go_enter Tryz.func55, Tryz.ntmps55
          go_wp2_with (first | (go_at_call 123; (with_reducible refine (cV _ (hrt _ (by (repeat (first | with_reducible exact Up.refl _ | with_reducible assumption | with_reducible refine Up.set ?_ (by first | exact Nat.le_refl _ | (simp only []; omega) | (simp; omega)) _ | with_reducible refine Up.alloc ?_ _ | with_reducible refine Up.drew ?_ | refine Up.trans ?_ (by with_reducible assumption)))))).mono ?_); rintro e w1 ⟨rfl, U1⟩; have B1 := bcell U1; have Z1 := U1.size; (try simp at Z1); (try rw [Nat.add_one_le_iff] at Z1)) | (go_at_call 56; (with_reducible refine (cF _).mono ?_); rintro e w2 ⟨rfl, U2⟩; have B2 := bcell U2; have Z2 := U2.size; (try simp at Z2); (try rw [Nat.add_one_le_iff] at Z2)) | (go_at_call 124; (with_reducible refine (cB _).mono ?_); rintro e w' ⟨rfl, rfl⟩) | fail)
          go_ret
          refine ⟨rfl, ?_⟩
          (repeat (first | with_reducible exact Up.refl _ | with_reducible assumption | with_reducible refine Up.set ?_ (by first | exact Nat.le_refl _ | (simp only []; omega) | (simp; omega)) _ | with_reducible refine Up.alloc ?_ _ | with_reducible refine Up.drew ?_ | refine Up.trans ?_ (by with_reducible assumption)))
        · have HW : Hid (wrsB (⟨k, [], bits, true⟩ : WrD) = true) := by unfold Hid wrsB; simp
          rw [HW.out]
          clear h1 h2 h3 hr hk hv f3 hbe
          simp only [kV, setV] at *
          go_enter Tryz.func55, Tryz.ntmps55
          go_wp2_with (first | (go_at_call 123; (with_reducible refine (cV _ (hrt _ (by (repeat (first | with_reducible exact Up.refl _ | with_reducible assumption | with_reducible refine Up.set ?_ (by first | exact Nat.le_refl _ | (simp only []; omega) | (simp; omega)) _ | with_reducible refine Up.alloc ?_ _ | with_reducible refine Up.drew ?_ | refine Up.trans ?_ (by with_reducible assumption)))))).mono ?_); rintro e w1 ⟨rfl, U1⟩; have B1 := bcell U1; have Z1 := U1.size; (try simp at Z1); (try rw [Nat.add_one_le_iff] at Z1)) | (go_at_call 56; (with_reducible refine (cF _).mono ?_); rintro e w2 ⟨rfl, U2⟩; have B2 := bcell U2; have Z2 := U2.size; (try simp at Z2); (try rw [Nat.add_one_le_iff] at Z2)) | (go_at_call 124; (with_reducible refine (cB _).mono ?_); rintro e w' ⟨rfl, rfl⟩) | fail)
          go_ret
          refine ⟨rfl, ?_⟩
          (repeat (first | with_reducible exact Up.refl _ | with_reducible assumption | with_reducible refine Up.set ?_ (by first | exact Nat.le_refl _ | (simp only []; omega) | (simp; omega)) _ | with_reducible refine Up.alloc ?_ _ | with_reducible refine Up.drew ?_ | refine Up.trans ?_ (by with_reducible assumption)))
    · have HPE := isEmpty_bs hpe
      have hpos := List.length_pos_iff.2 hpe
      cases beg
      · have HW : Hid (wrsB (⟨k, pend, bits, false⟩ : WrD) = false) := by unfold Hid wrsB; simp [hpe]
        rw [HW.out]
        clear h1 h2 h3 hr hk hv f3 hpe
        simp only [kV, setV] at *
        go_enter Tryz.func55, Tryz.ntmps55
        go_wp2_with (first | (go_at_call 123; (with_reducible refine (cV _ (hrt _ (by (repeat (first | with_reducible exact Up.refl _ | with_reducible assumption | with_reducible refine Up.set ?_ (by first | exact Nat.le_refl _ | (simp only []; omega) | (simp; omega)) _ | with_reducible refine Up.alloc ?_ _ | with_reducible refine Up.drew ?_ | refine Up.trans ?_ (by with_reducible assumption)))))).mono ?_); rintro e w1 ⟨rfl, U1⟩; have B1 := bcell U1; have Z1 := U1.size; (try simp at Z1); (try rw [Nat.add_one_le_iff] at Z1)) | (go_at_call 56; (with_reducible refine (cF _).mono ?_); rintro e w2 ⟨rfl, U2⟩; have B2 := bcell U2; have Z2 := U2.size; (try simp at Z2); (try rw [Nat.add_one_le_iff] at Z2)) | (go_at_call 124; (with_reducible refine (cB _).mono ?_); rintro e w' ⟨rfl, rfl⟩) | fail)
        go_ret
        refine ⟨rfl, ?_⟩
        (repeat (first | with_reducible exact Up.refl _ | with_reducible assumption | with_reducible refine Up.set ?_ (by first | exact Nat.le_refl _ | (simp only []; omega) | (simp; omega)) _ | with_reducible refine Up.alloc ?_ _ | with_reducible refine Up.drew ?_ | refine Up.trans ?_ (by with_reducible assumption)))
      · have cC := fun wq hr => l2Find_any k (.slice a k.ps.length cap) lo (bs pend) wq hk hr (by omega)
        rw [bs_data] at cC
        have HW : Hid (wrsB (⟨k, pend, bits, true⟩ : WrD) = decide (k.find pend ≥ 0)) := by
          unfold Hid wrsB
          have : (k.longest pend = pend) ↔ k.find pend ≥ 0 := ⟨KnD.word_find hk hpe f3, KnD.find_word hpe⟩
          simp [hpe, this]
        rw [HW.out]
        generalize k.find pend = cd at *
        clear h1 h2 h3 hr hk hv f3 hpe HW
        simp only [kV, setV] at *
        go_enter Tryz.func55, Tryz.ntmps55
        go_wp2_with (first | (go_at_call 123; (with_reducible refine (cV _ (hrt _ (by (repeat (first | with_reducible exact Up.refl _ | with_reducible assumption | with_reducible refine Up.set ?_ (by first | exact Nat.le_refl _ | (simp only []; omega) | (simp; omega)) _ | with_reducible refine Up.alloc ?_ _ | with_reducible refine Up.drew ?_ | refine Up.trans ?_ (by with_reducible assumption)))))).mono ?_); rintro e w1 ⟨rfl, U1⟩; have B1 := bcell U1; have Z1 := U1.size; (try simp at Z1); (try rw [Nat.add_one_le_iff] at Z1)) | (go_at_call 56; (with_reducible refine (cF _).mono ?_); rintro e w2 ⟨rfl, U2⟩; have B2 := bcell U2; have Z2 := U2.size; (try simp at Z2); (try rw [Nat.add_one_le_iff] at Z2)) | (go_at_call 124; (with_reducible refine (cB _).mono ?_); rintro e w' ⟨rfl, rfl⟩) | (go_at_call 125; (with_reducible refine (cC _ (hrt _ (by (repeat (first | with_reducible exact Up.refl _ | with_reducible assumption | with_reducible refine Up.set ?_ (by first | exact Nat.le_refl _ | (simp only []; omega) | (simp; omega)) _ | with_reducible refine Up.alloc ?_ _ | with_reducible refine Up.drew ?_ | refine Up.trans ?_ (by with_reducible assumption)))))).mono ?_); rintro e w4 ⟨rfl, U4⟩; have B4 := bcell U4; have Z4 := U4.size; (try simp at Z4); (try rw [Nat.add_one_le_iff] at Z4)) | fail)
        go_ret
        refine ⟨rfl, ?_⟩
        (repeat (first | with_reducible exact Up.refl _ | with_reducible assumption | with_reducible refine Up.set ?_ (by first | exact Nat.le_refl _ | (simp only []; omega) | (simp; omega)) _ | with_reducible refine Up.alloc ?_ _ | with_reducible refine Up.drew ?_ | refine Up.trans ?_ (by with_reducible assumption)))

end Go.Proofs.YtiiahjnfbhcgmaaGreatDoor

/- FormatWriter of both sides. Conditions: the pairs can be read, at most 2^20 of each kind; the table of powers of ten lies where it was laid. -/
namespace Go.Proofs.YtiiahjnfbhcgmaaGreatDoor
set_option linter.unusedVariables false
set_option linter.unusedSimpArgs false
open Go Go.RowKit

set_option maxRecDepth 100000 in
set_option maxHeartbeats 1000000 in
theorem l3Bool_any (b : Bool) (w : World) : Calls Tryz.prog 75  #[.bool b] w (fun e w' => e = .returned (.string (bs (begT b))) ∧ w = w') := by
  cases b
  all_goals
    go_enter Tryz.func75, Tryz.ntmps75
    go_wp2
    go_ret
    exact ⟨rfl, rfl⟩
theorem wrL_bs (x : WrD) : (((bs (fmtK x.k) ++ (⟨#[124]⟩ : ByteArray)) ++ bs (someL (fmtHex x.pend)) ++ (⟨#[124]⟩ : ByteArray)) ++ bs (someL x.bits) ++ (⟨#[124]⟩ : ByteArray)) ++ bs (begT x.beg) = bs (wrL x) := by
  rw [show (⟨#[124]⟩ : ByteArray) = bs [124] from rfl]
  simp [bs_app, wrL, Lib.join_cons, Lib.joinTail]
theorem begT_le (b : Bool) : (begT b).length ≤ 5 := by cases b <;> decide
theorem fmtHex_le (l : List UInt8) (h : l.length ≤ 2000) : (fmtHex l).length ≤ 4000 := by
  unfold fmtHex; split
  · rw [hexL_len]; omega
  · simp
set_option maxRecDepth 100000 in
set_option maxHeartbeats 8000000 in
theorem fwS_any (x : WrD) (v : Value) (lo : Nat) (w : World) (hr : RdP lo w v x.k.ps) (hps : x.k.ps.length ≤ 1073741824) (hp : x.pend.length ≤ 1073741824) (hb : x.bits.length ≤ 1073741824) :
    Calls Tryz.prog 16  #[wrV x v] w (Same (.string (bs (fmtW x))) w) := by
  have cV := fun wx h => wvS_any x v lo wx h hps hp hb
  have cK := fun wx h => fkS_any x.k v lo wx h hps
  have hrt := fun (wq : World) (hu : Up w wq) => hr.up hu
  obtain ⟨a, cap, rfl, -⟩ := hr
  cases hv : wrvB x
  · have e : Hid (fmtW x = []) := by unfold Hid fmtW; rw [hv]; rfl
    rw [hv] at cV
    rw [e.out]
    clear hv cK
    simp only [wrV] at *
    go_enter Tryz.func16, Tryz.ntmps16
    go_wp2_with ((go_at_call 55; (with_reducible refine (cV _ (hrt _ (by (repeat (first | with_reducible exact Up.refl _ | with_reducible assumption | with_reducible refine Up.set ?_ (by first | exact Nat.le_refl _ | (simp only []; omega) | (simp; omega)) _ | with_reducible refine Up.alloc ?_ _ | with_reducible refine Up.drew ?_ | refine Up.trans ?_ (by with_reducible assumption)))))).mono ?_); rintro e w1 ⟨rfl, U1⟩; have B1 := bcell U1; have Z1 := U1.size; (try simp at Z1); (try rw [Nat.add_one_le_iff] at Z1)))
    go_ret
    exact ⟨rfl, by (repeat (first | with_reducible exact Up.refl _ | with_reducible assumption | with_reducible refine Up.set ?_ (by first | exact Nat.le_refl _ | (simp only []; omega) | (simp; omega)) _ | with_reducible refine Up.alloc ?_ _ | with_reducible refine Up.drew ?_ | refine Up.trans ?_ (by with_reducible assumption)))⟩
  · obtain ⟨h1, h2, h3, h4⟩ := wrvB_parts hv
    have e : Hid (fmtW x = wrL x) := by unfold Hid fmtW; rw [hv]; rfl
    rw [hv] at cV
    rw [e.out]
    have HX := Lib.hid (wrL_bs x)
    have cH := fun wx => fhS_any x.pend wx (by omega)
    have cS := fun wx => l3Some_any (fmtHex x.pend) wx
    have cT := fun wx => l3Some_any x.bits wx
    have cB := fun wx => l3Bool_any x.beg wx
    have zK := fmtK_le x.k
    have e2 := someL_le (fmtHex_le x.pend h2) (by omega)
    have e3 := someL_le h4 (by omega)
    have e4 := begT_le x.beg
    have z1 := bs_size (fmtK x.k)
    have z2 := bs_size (someL (fmtHex x.pend))
    have z3 := bs_size (someL x.bits)
    have z4 := bs_size (begT x.beg)
    clear h1 h3 hv e
    simp only [wrV, kV] at *
    generalize fmtK x.k = K at *
    generalize someL (fmtHex x.pend) = H at *
    generalize fmtHex x.pend = H0 at *
    generalize someL x.bits = B at *
    generalize begT x.beg = G at *
    go_enter Tryz.func16, Tryz.ntmps16
    go_wp2_with ((go_at_call 55; (with_reducible refine (cV _ (hrt _ (by (repeat (first | with_reducible exact Up.refl _ | with_reducible assumption | with_reducible refine Up.set ?_ (by first | exact Nat.le_refl _ | (simp only []; omega) | (simp; omega)) _ | with_reducible refine Up.alloc ?_ _ | with_reducible refine Up.drew ?_ | refine Up.trans ?_ (by with_reducible assumption)))))).mono ?_); rintro e w1 ⟨rfl, U1⟩; have B1 := bcell U1; have Z1 := U1.size; (try simp at Z1); (try rw [Nat.add_one_le_iff] at Z1)))
    refine wp_region_up 19 (by kernel_rfl) (by kernel_rfl) ?_
    simp only [List.take, List.drop]
    repeat (refine wpUp_step (fun K hK => ?_); go_simp; (try simp only [↓IntWalk.iteOmega]); first
      | (refine hK _ _ ?_; clear hK K)
      | (apply stepU_c
         · intro wq hwq; (have hbq := bcell hwq; (repeat (first | refine fills_no (by rfl) ?_ | refine fills_yes (by rfl) (fun vq hvq => ?_))); simp only [List.filter_nil, fills]; unfold upAt; go_simp; (try go_bits); (try simp only [↓IntWalk.iteOmega]); (try (rw [dif_pos (by omega)]; go_simp; try go_bits)); first | exact upOut_value | (apply upOut_call; (go_at_call 72; with_reducible exact cK _ (hrt _ (by (repeat (first | with_reducible exact Up.refl _ | with_reducible assumption | with_reducible refine Up.set ?_ (by first | exact Nat.le_refl _ | (simp only []; omega) | (simp; omega)) _ | with_reducible refine Up.alloc ?_ _ | with_reducible refine Up.drew ?_ | refine Up.trans ?_ (by with_reducible assumption))))))) | (apply upOut_eq; (go_at_call 72; with_reducible exact cK _ (hrt _ (by (repeat (first | with_reducible exact Up.refl _ | with_reducible assumption | with_reducible refine Up.set ?_ (by first | exact Nat.le_refl _ | (simp only []; omega) | (simp; omega)) _ | with_reducible refine Up.alloc ?_ _ | with_reducible refine Up.drew ?_ | refine Up.trans ?_ (by with_reducible assumption))))))) | (apply upOut_call; (go_at_call 74; with_reducible exact cH _)) | (apply upOut_eq; (go_at_call 74; with_reducible exact cH _)) | (apply upOut_call; (go_at_call 73; first | with_reducible exact cS _ | with_reducible exact cT _)) | (apply upOut_eq; (go_at_call 73; first | with_reducible exact cS _ | with_reducible exact cT _)) | (apply upOut_call; (go_at_call 75; with_reducible exact cB _)) | (apply upOut_eq; (go_at_call 75; with_reducible exact cB _)))
         go_simp; refine hK _ _ ?_; clear hK K))
    refine wpUp_nil (fun wq hwq => ?_)
    simp only [fills]
    go_wp2
    go_ret
    exact ⟨by rw [← HX.out]; rfl, by (repeat (first | with_reducible exact Up.refl _ | with_reducible assumption | with_reducible refine Up.set ?_ (by first | exact Nat.le_refl _ | (simp only []; omega) | (simp; omega)) _ | with_reducible refine Up.alloc ?_ _ | with_reducible refine Up.drew ?_ | refine Up.trans ?_ (by with_reducible assumption)))⟩

end Go.Proofs.YtiiahjnfbhcgmaaGreatDoor

/- The reference's ParseWriter, withoutDash. Conditions: fewer than 2^20 bytes. -/
namespace Go.Proofs.YtiiahjnfbhcgmaaGreatDoor
set_option linter.unusedVariables false
set_option linter.unusedSimpArgs false
open Go Go.RowKit

/-- What ParseWriter leaves. -/
def PwPost (o : Option WrD) (w : World) (e : Ending) (w' : World) : Prop := ∃ v, e = .returned (.tuple #[wrV (o.getD wr0) v, .bool o.isSome]) ∧ ownPr w' w.heap.size v (o.getD wr0).k.ps ∧ Up w w'
theorem prsW_len4 {t : List UInt8} (h : (splL 124 t).length ≠ 4) : prsW t = none := by
  unfold prsW
  split
  · rename_i a b c d e; rw [e] at h; exact absurd rfl h
  · rfl
theorem prsW_4 {t a b c d : List UInt8} (h : splL 124 t = [a, b, c, d]) : prsW t = wr4 a b c d := by unfold prsW; rw [h]
theorem lenW_4 {t a b c d : List UInt8} (h : splL 124 t = [a, b, c, d]) : lenW t = some ⟨(prsK a).getD knZ, (prsHex (noneL b)).getD [], noneL c, decide (d = [98, 101, 103, 117, 110])⟩ := by unfold lenW; rw [h]; rfl
theorem unhex_len : ∀ {t l : List UInt8}, unhex t = some l → l.length ≤ t.length
  | [], l, h => by simp only [unhex, Option.some.injEq] at h; subst h; simp
  | [_], l, h => by simp [unhex] at h
  | a :: b :: r, l, h => by
    rw [unhex_two] at h
    cases hx : hexV a <;> cases hy : hexV b <;> rw [hx, hy] at h
    · cases h
    · cases h
    · cases h
    · obtain ⟨l', h1, rfl⟩ := Option.map_eq_some_iff.1 h
      have := unhex_len h1
      simp only [List.length_cons]; omega
theorem prsHex_len (t : List UInt8) : ((prsHex t).getD []).length ≤ t.length := by
  cases h : prsHex t with
  | none => simp
  | some l =>
    unfold prsHex at h
    split at h
    · exact unhex_len h
    · cases h
theorem noneL_len (t : List UInt8) : (noneL t).length ≤ t.length := by unfold noneL; split <;> simp
theorem prsK_len_le (t : List UInt8) (ht : t.length ≤ 1048576) : ((prsK t).getD knZ).ps.length ≤ 1024 := by
  cases h : prsK t with
  | none => exact Nat.zero_le _
  | some k => exact (validK_small (fmtK_prs h).2).2.1

set_option maxRecDepth 100000 in
set_option maxHeartbeats 8000000 in
theorem pwS_any (t : List UInt8) (w : World) (ht : t.length ≤ 1048576) :
    Calls Tryz.prog 19  #[.string (bs t)] w (PwPost (prsW t) w) := by
  unfold PwPost
  have zT := bs_size t
  have cS := fun wx => l9Cut_n t 124 124 rfl wx ht
  have hxp := splL_piece_le 124 t
  obtain ⟨xs, hxs⟩ : ∃ xs, xs = splL 124 t := ⟨_, rfl⟩
  rw [← hxs] at cS hxp
  by_cases h4 : xs.length = 4
  case' neg =>
    have e : Hid (prsW t = none) := prsW_len4 (by rw [← hxs]; exact h4)
    have hB4 : ((xs.length : Int) == 4) = false := by rw [beq_eq_false_iff_ne]; omega
    rw [e.out]
    clear hxs hxp
    go_enter Tryz.func19, Tryz.ntmps19
    go_wp2_with fail
    (with_reducible refine (cS _).mono ?_); rintro e w1 ⟨vp, rfl, ho, U1⟩
    obtain ⟨av, cv, rfl⟩ := ownsRow_shape ho
    simp only [List.length_map] at ho ⊢
    have hR1 : WrAt w.heap.size wr0 (.slice none 0 0) w1 := box_up U1 (MapKept.heap_alloc w _).1
    have hU1 : Up w w1 := by (repeat (first | with_reducible exact Up.refl _ | with_reducible assumption | with_reducible refine Up.set ?_ (by first | exact Nat.le_refl _ | (simp only []; omega) | (simp; omega)) _ | with_reducible refine Up.alloc ?_ _ | with_reducible refine Up.drew ?_ | refine Up.trans ?_ (by with_reducible assumption)))
    obtain ⟨hb1, q0, q1, q2, q3, q4, q5, q6, q7, q8⟩ := hR1.cells
    have hf1 := box_free hR1
    simp only [wr0] at q0 q1 q2 q3 q4 q5 q6 q7 q8
    clear U1 cS
    go_wp2
    refine bodyPost_ret (v := .tuple #[wrV wr0 (.slice none 0 0), .bool false]) (by simp [results, Tryz.results19, go_sem, q0, q1, q2, q3, q4, q5, q6, q7, q8, wr0, wrV]; rfl) rfl ⟨_, rfl, World.ownsRow_nil _ _ _ _, ?_⟩
    (repeat (first | with_reducible exact Up.refl _ | with_reducible assumption | with_reducible refine Up.set ?_ (by first | exact Nat.le_refl _ | (simp only []; omega) | (simp; omega)) _ | with_reducible refine Up.alloc ?_ _ | with_reducible refine Up.drew ?_ | refine Up.trans ?_ (by with_reducible assumption)))
  obtain ⟨a, b, c, d, hx⟩ := len4 h4
  rw [hx] at cS hxp hxs
  have hal := hxp a (by simp)
  have hbl := hxp b (by simp)
  have hcl := hxp c (by simp)
  have HLK := Lib.hid (lenW_4 hxs.symm)
  have HPK := Lib.hid (prsW_len t)
  have cA := fun wx => pkS_any a wx (by omega)
  have cN := fun wx => l3None_any b wx
  have cM := fun wx => l3None_any c wx
  have hnb := noneL_len b
  have hnc := noneL_len c
  have cH := fun wx => phS_any (noneL b) wx (by omega)
  have hph := prsHex_len (noneL b)
  have hkp := prsK_len_le a (by omega)
  unfold PkPost at cA
  clear hxp hxs h4 hx xs
  obtain ⟨k, hk⟩ : ∃ k, k = (prsK a).getD knZ := ⟨_, rfl⟩
  obtain ⟨p, hp⟩ : ∃ p, p = (prsHex (noneL b)).getD [] := ⟨_, rfl⟩
  obtain ⟨q, hq⟩ : ∃ q, q = noneL c := ⟨_, rfl⟩
  obtain ⟨gb, hgb⟩ : ∃ gb, gb = decide (d = [98, 101, 103, 117, 110]) := ⟨_, rfl⟩
  have hd1 : ((bs d).toList == [98, 101, 103, 117, 110]) = gb := by
    rw [Lib.toList_data, bs_data, hgb, Bool.eq_iff_iff]
    simp
  rw [← hk] at cA HLK hkp
  rw [← hp] at cH HLK hph
  rw [← hq] at cM HLK hnc
  rw [← hgb] at HLK
  clear hk hp hq hgb
  generalize noneL b = nb at *
  generalize (prsK a).isSome = bA at *
  generalize (prsHex nb).isSome = bH at *
  simp only [kV] at cA
  have hpl : p.length ≤ 1048576 := by omega
  have hql : q.length ≤ 1048576 := by omega
  go_enter Tryz.func19, Tryz.ntmps19
  go_wp2_with fail
  (with_reducible refine (cS _).mono ?_); rintro e w1 ⟨vp, rfl, ho, U1⟩
  obtain ⟨av, cv, rfl⟩ := ownsRow_shape ho
  simp only [List.length_map, List.length_cons, List.length_nil, Nat.zero_add] at ho ⊢
  have hR1 : WrAt w.heap.size wr0 (.slice none 0 0) w1 := box_up U1 (MapKept.heap_alloc w _).1
  have hU1 : Up w w1 := by (repeat (first | with_reducible exact Up.refl _ | with_reducible assumption | with_reducible refine Up.set ?_ (by first | exact Nat.le_refl _ | (simp only []; omega) | (simp; omega)) _ | with_reducible refine Up.alloc ?_ _ | with_reducible refine Up.drew ?_ | refine Up.trans ?_ (by with_reducible assumption)))
  obtain ⟨g, rfl, hg, -, hcc1, hcc2, c0⟩ := own_strs ho (k := 0) (by simp)
  have c1 := own_strC ho (k := 1) (by simp)
  have c2 := own_strC ho (k := 2) (by simp)
  have c3 := own_strC ho (k := 3) (by simp)
  simp only [List.getElem_cons_zero, List.getElem_cons_succ] at c0 c1 c2 c3
  clear U1 cS
  go_wp2_with fail
  (with_reducible refine (cA _).mono ?_); rintro e w2 ⟨v2, rfl, ho2, U2⟩
  obtain ⟨a2, cc2, rfl⟩ := ownsRow_shape ho2
  have d1 := (U2.cell (p := ⟨g, 1, none⟩) hg).trans c1
  have hR2 := hR1.up U2
  have hU2 := hU1.trans U2
  have hu12 := Lib.hid U2
  have ho2 := ownsRow_base ho2 hU1.size
  have hg2 := Nat.lt_of_lt_of_le hg U2.size
  clear c0 c1 hR1 hU1 U2 ho
  obtain ⟨W, hW⟩ : ∃ W, Hid (W = w2.alloc (.cells #[.int .i64 k.set.ord, .int .i64 k.set.lit, .int .i64 k.set.most, .slice a2 k.ps.length cc2, .int .i64 k.base, .int .i64 k.last] 27)) := ⟨_, rfl⟩
  have HK : Hid (KnAt w2.heap.size k (.slice a2 k.ps.length cc2) W) := by rw [hW.out]; exact (MapKept.heap_alloc w2 _).1
  have HWU : Hid (Up w2 W) := by rw [hW.out]; exact (Up.refl _).alloc _
  go_wp2_with fail
  rw [← hW.out]
  have hK := HK.out
  have e2 := (HWU.out.cell (p := ⟨g, 2, none⟩) hg2).trans ((hu12.out.cell (p := ⟨g, 2, none⟩) hg).trans c2)
  have e3 := (HWU.out.cell (p := ⟨g, 3, none⟩) hg2).trans ((hu12.out.cell (p := ⟨g, 3, none⟩) hg).trans c3)
  have hgw := Nat.lt_of_lt_of_le hg2 HWU.out.size
  have hR3 := hR2.up HWU.out
  have ho3 := ownsRow_up ho2 HWU.out
  have hU3 := hU2.trans HWU.out
  clear d1 c2 c3 hR2 ho2 hU2 hW HK HWU hu12 hg hg2
  (with_reducible refine (cN _).mono ?_); rintro e w3 ⟨rfl, rfl⟩
  go_wp2_with fail
  (with_reducible refine (cH _).mono ?_); rintro e w4 ⟨rfl, U4⟩
  have f2 := (U4.cell (p := ⟨g, 2, none⟩) hgw).trans e2
  have f3 := (U4.cell (p := ⟨g, 3, none⟩) hgw).trans e3
  have hK4 := hK.up U4
  have hR4 := hR3.up U4
  have ho4 := ownsRow_up ho3 U4
  have hU4 := hU3.trans U4
  have hw4 := hU4.size
  have hgz := Nat.lt_of_lt_of_le hgw U4.size
  clear e2 e3 hgw hK hR3 ho3 hU3 U4
  obtain ⟨hb4, r0, r1, r2, r3, r4, r5⟩ := hK4.cells
  go_wp2
  refine wp_region_up 12 (by kernel_rfl) (by kernel_rfl) ?_
  simp only [List.take, List.drop]
  repeat (refine wpUp_step (fun K hK => ?_); go_simp; (try simp only [↓IntWalk.iteOmega]); first
    | (refine hK _ _ ?_; clear hK K)
    | (apply stepU_c
       · intro wq hwq; (have hbq := bcell hwq; (repeat (first | refine fills_no (by rfl) ?_ | refine fills_yes (by rfl) (fun vq hvq => ?_))); simp only [List.filter_nil, fills]; unfold upAt; (try (skip)); go_simp; (try go_bits); (try simp only [↓IntWalk.iteOmega]); (try (rw [dif_pos (by omega)]; go_simp; try go_bits)); first | exact upOut_value | (apply upOut_call; (go_at_call 83; with_reducible exact cM _)) | (apply upOut_eq; (go_at_call 83; with_reducible exact cM _)))
       go_simp; refine hK _ _ ?_; clear hK K)
    | (refine stepU_m (by kernel_rfl) (Boxed w4.heap.size #[.int .i64 0, .int .i64 0, .int .i64 0, .slice none 0 0, .int .i64 0, .int .i64 0, .string ⟨#[]⟩, .string ⟨#[]⟩, .bool false] 29) (boxed_closed _ _ _) (fun wq hwq => ?_) ?_
       · (have hbq := bcell hwq; (repeat (first | refine fills_no (by rfl) ?_ | refine fills_yes (by rfl) (fun vq hvq => ?_))); simp only [List.filter_nil, fills]; unfold upAt; (try (skip)); go_simp; (try go_bits); (try simp only [↓IntWalk.iteOmega]); (try (rw [dif_pos (by omega)]; go_simp; try go_bits)); exact upOut_make ((Up.refl _).alloc _) (boxed_new hwq.size))
       refine hK _ _ ?_; clear hK K))
  refine wpUp_nil (fun wq hwq => ?_)
  simp only [fills]
  rintro v9 ⟨pb, rfl, hpb, hbox⟩
  intros
  have hx0 : WrAt pb wr0 (.slice none 0 0) wq := hbox
  have hRq := hR4.up hwq
  have hOq := ownsRow_up ho4 hwq
  have hUq := hU4.trans hwq
  have hne : w.heap.size ≠ pb := by have := hR4.cells.1; omega
  have hX := WrAt.store hx0 ⟨k, p, q, gb⟩ (.slice a2 k.ps.length cc2)
  have hRX : WrAt w.heap.size wr0 (.slice none 0 0) (WrW wq pb ⟨k, p, q, gb⟩ (.slice a2 k.ps.length cc2)) := (WrW.other hne _ _).trans hRq
  have hOX : ownPr (WrW wq pb ⟨k, p, q, gb⟩ (.slice a2 k.ps.length cc2)) w.heap.size (.slice a2 k.ps.length cc2) k.ps := WrW.own hOq (box_ne hx0 hOq (by decide)) _ _
  have hUX := WrW.up hUq (b := pb) (by omega) ⟨k, p, q, gb⟩ (.slice a2 k.ps.length cc2)
  obtain ⟨hpl2, z0, z1, z2, z3, z4, z5, z6, z7, z8⟩ := hx0.cells
  simp only [wr0] at z0 z1 z2 z3 z4 z5 z6 z7 z8
  have hfz := box_free hbox
  have HXA := Lib.hid (And.intro hX (And.intro hRX (And.intro hOX hUX)))
  clear hX hRX hOX hUX
  go_wp2_with fail
  rw [show (World.setCell (World.setCell (World.setCell (World.setCell (World.setCell (World.setCell (World.setCell (World.setCell (World.setCell wq ⟨pb, 0, none⟩ (.int .i64 k.set.ord)) ⟨pb, 1, none⟩ (.int .i64 k.set.lit)) ⟨pb, 2, none⟩ (.int .i64 k.set.most)) ⟨pb, 3, none⟩ (.slice a2 k.ps.length cc2)) ⟨pb, 4, none⟩ (.int .i64 k.base)) ⟨pb, 5, none⟩ (.int .i64 k.last)) ⟨pb, 6, none⟩ (.string (bs p))) ⟨pb, 7, none⟩ (.string (bs q))) ⟨pb, 8, none⟩ (.bool gb)) = WrW wq pb ⟨k, p, q, gb⟩ (.slice a2 k.ps.length cc2) from rfl]
  clear hx0 hRq hOq hUq z0 z1 z2 z3 z4 z5 z6 z7 z8 hfz hbox hwq hK4 hR4 ho4 hU4 hpl2 hpb hb4 r0 r1 r2 r3 r4 r5 f2 f3
  generalize WrW wq pb ⟨k, p, q, gb⟩ (.slice a2 k.ps.length cc2) = Z at *
  obtain ⟨hX, hR, hO, hU⟩ := HXA.out
  have cF := fun wx h => fwS_any ⟨k, p, q, gb⟩ (.slice a2 k.ps.length cc2) 0 wx h (by show k.ps.length ≤ 1073741824; omega) (by show p.length ≤ 1073741824; omega) (by show q.length ≤ 1073741824; omega)
  simp only [wrV] at cF
  clear HXA
  (with_reducible refine (cF _ ((RdP.of_own hO).low (Nat.zero_le _))).mono ?_); rintro e w6 ⟨rfl, U6⟩
  have hX6 := hX.up U6
  have hR6 := hR.up U6
  have hO6 := ownsRow_up hO U6
  have hU6 := hU.trans U6
  clear hX hR hO hU U6 cF
  obtain ⟨hb5, r0, r1, r2, r3, r4, r5, r6, r7, r8⟩ := hX6.cells
  obtain ⟨hb6, q0, q1, q2, q3, q4, q5, q6, q7, q8⟩ := hR6.cells
  simp only [wr0] at q0 q1 q2 q3 q4 q5 q6 q7 q8
  have hf6 := box_free hR6
  have HB := Lib.hid (box_ne hR6 hO6 (by decide))
  by_cases hq : fmtW ⟨k, p, q, gb⟩ = t
  · have e : Hid (prsW t = some ⟨k, p, q, gb⟩) := by unfold Hid; rw [HPK.out, HLK.out]; simp only []; rw [if_pos hq]
    have hE := bs_eq hq
    generalize fmtW ⟨k, p, q, gb⟩ = F at *
    clear hq HPK HLK
    go_wp2
    refine bodyPost_ret (v := .tuple #[wrV ⟨k, p, q, gb⟩ (.slice a2 k.ps.length cc2), .bool true]) (by simp [results, Tryz.results19, go_sem, q0, q1, q2, q3, q4, q5, q6, q7, q8, wrV]) rfl ⟨.slice a2 k.ps.length cc2, by rw [e.out]; rfl, ?_, ?_⟩
    · rw [e.out]
      exact WrW.own hO6 HB.out ⟨k, p, q, gb⟩ (.slice a2 k.ps.length cc2)
    · exact WrW.up hU6 (Nat.le_refl _) ⟨k, p, q, gb⟩ (.slice a2 k.ps.length cc2)
  · have e : Hid (prsW t = none) := by unfold Hid; rw [HPK.out, HLK.out]; simp only []; rw [if_neg hq]
    have hE := bs_dif hq
    generalize fmtW ⟨k, p, q, gb⟩ = F at *
    clear hq HPK HLK
    go_wp2
    refine bodyPost_ret (v := .tuple #[wrV wr0 (.slice none 0 0), .bool false]) (by simp [results, Tryz.results19, go_sem, q0, q1, q2, q3, q4, q5, q6, q7, q8, wr0, wrV]; rfl) rfl ⟨_, by rw [e.out]; rfl, by rw [e.out]; exact World.ownsRow_nil _ _ _ _, ?_⟩
    (repeat (first | with_reducible exact Up.refl _ | with_reducible assumption | with_reducible refine Up.set ?_ (by first | exact Nat.le_refl _ | (simp only []; omega) | (simp; omega)) _ | with_reducible refine Up.alloc ?_ _ | with_reducible refine Up.drew ?_ | refine Up.trans ?_ (by with_reducible assumption)))

end Go.Proofs.YtiiahjnfbhcgmaaGreatDoor

/- The program's ParseKnown. Conditions: fewer than 2^20 bytes; the listed variables lie as they were laid. -/
namespace Go.Proofs.YtiiahjnfbhcgmaaGreatDoor
set_option linter.unusedVariables false
set_option linter.unusedSimpArgs false
open Go Go.RowKit

def kn2 (s : SetD) (n1 n2 : Int) (o : Option (List PairD)) : Option KnD := match o with
  | some ps => if validK ⟨s, ps, n1, n2⟩ then some ⟨s, ps, n1, n2⟩ else none
  | none => none
theorem kn4_eq (a b c d : List UInt8) : kn4 a b c d = if ((prsSet a).isSome && ((numP b).isSome && (numP c).isSome)) then kn2 ((prsSet a).getD st0) ((numP b).getD 0) ((numP c).getD 0) (prsP d) else none := by
  unfold kn4 kn2
  cases prsSet a <;> cases numP b <;> cases numP c <;> cases prsP d <;> simp
theorem prsP_dash : prsP [45] = some [] := rfl
theorem prsP_cut {d : List UInt8} (h : d ≠ [45]) : prsP d = allP prP (splL 44 d) := by unfold prsP; rw [if_neg h]
theorem prsSet_lit (a : List UInt8) : -9223372036854775808 ≤ ((prsSet a).getD st0).lit ∧ ((prsSet a).getD st0).lit ≤ 9223372036854775807 := by
  cases h : prsSet a with
  | none => simp [st0]
  | some s => have := setOk_small (fmtSet_prs h).2; simp only [Option.getD_some]; omega
def RelPki (ys : List (List UInt8)) (vp : Value) (s : SetD) (n1 n2 : Int) (kb : Nat) (w : World) (i : Value) (wr : World) : Prop := ∃ (j : Nat) (v : Value) (ps : List PairD), j ≤ ys.length ∧ i = .int .i64 j ∧ allP prP (ys.take j) = some ps ∧ KnAt kb ⟨s, ps, n1, n2⟩ v wr ∧ ownPr wr w.heap.size v ps ∧ ownS wr w.heap.size vp (ys.map bs) ∧ KnAt w.heap.size knZ (.slice none 0 0) wr ∧ Up w wr

set_option maxRecDepth 100000 in
set_option maxHeartbeats 8000000 in
theorem pkI_any (t : List UInt8) (w : World) (hL : Lay w) (ht : t.length ≤ 1048576) :
    Calls Tryz.prog 62  #[.string (bs t)] w (PkPost (prsK t) w) := by
  unfold PkPost
  have zT := bs_size t
  have cS := fun wx (hx : Up w wx) => split_any (bs t) 59 wx (hL.up hx).max (by omega)
  rw [bs_data] at cS
  have hxp := splL_piece_le 59 t
  obtain ⟨xs, hxs⟩ : ∃ xs, xs = splL 59 t := ⟨_, rfl⟩
  rw [← hxs] at cS hxp
  have HL := Lib.hid hL
  clear hL
  by_cases h4 : xs.length = 4
  case' neg =>
    have e : Hid (prsK t = none) := prsK_len4 (by rw [← hxs]; exact h4)
    have hB4 : ((xs.length : Int) == 4) = false := by rw [beq_eq_false_iff_ne]; omega
    rw [e.out]
    clear hxs hxp
    go_enter Tryz.func62, Tryz.ntmps62
    go_wp2_with fail
    (with_reducible refine (cS _ (by (repeat (first | with_reducible exact Up.refl _ | with_reducible assumption | with_reducible refine Up.set ?_ (by first | exact Nat.le_refl _ | (simp only []; omega) | (simp; omega)) _ | with_reducible refine Up.alloc ?_ _ | with_reducible refine Up.drew ?_ | refine Up.trans ?_ (by with_reducible assumption))))).mono ?_); rintro e w1 ⟨vp, rfl, ho, U1⟩
    obtain ⟨av, cv, rfl⟩ := ownsRow_shape ho
    simp only [List.length_map] at ho ⊢
    have hR1 : KnAt w.heap.size knZ (.slice none 0 0) w1 := box_up U1 (MapKept.heap_alloc w _).1
    have hU1 : Up w w1 := by (repeat (first | with_reducible exact Up.refl _ | with_reducible assumption | with_reducible refine Up.set ?_ (by first | exact Nat.le_refl _ | (simp only []; omega) | (simp; omega)) _ | with_reducible refine Up.alloc ?_ _ | with_reducible refine Up.drew ?_ | refine Up.trans ?_ (by with_reducible assumption)))
    obtain ⟨hb1, q0, q1, q2, q3, q4, q5⟩ := hR1.cells
    have hf1 := box_free hR1
    simp only [knZ, st0] at q0 q1 q2 q3 q4 q5
    clear U1 cS
    go_wp2
    refine bodyPost_ret (v := .tuple #[kV knZ (.slice none 0 0), .bool false]) (by simp [results, Tryz.results62, go_sem, q0, q1, q2, q3, q4, q5, knZ, st0]) rfl ⟨_, rfl, World.ownsRow_nil _ _ _ _, ?_⟩
    (repeat (first | with_reducible exact Up.refl _ | with_reducible assumption | with_reducible refine Up.set ?_ (by first | exact Nat.le_refl _ | (simp only []; omega) | (simp; omega)) _ | with_reducible refine Up.alloc ?_ _ | with_reducible refine Up.drew ?_ | refine Up.trans ?_ (by with_reducible assumption)))
  obtain ⟨a, b, c, d, hx⟩ := len4 h4
  rw [hx] at cS hxp hxs
  have hal := hxp a (by simp)
  have hbl := hxp b (by simp)
  have hcl := hxp c (by simp)
  have hdl := hxp d (by simp)
  have HKN : Hid (prsK t = if ((prsSet a).isSome && ((numP b).isSome && (numP c).isSome)) then kn2 ((prsSet a).getD st0) ((numP b).getD 0) ((numP c).getD 0) (prsP d) else none) := by unfold Hid; rw [prsK_4 hxs.symm, kn4_eq]
  have hl := prsSet_lit a
  have cA := fun wx (hx : Up w wx) => psI_any a wx (HL.out.up hx) (by omega)
  have cB := fun wx (hx : Up w wx) => pnum_any b wx (HL.out.up hx) (by omega)
  have cC := fun wx (hx : Up w wx) => pnum_any c wx (HL.out.up hx) (by omega)
  have cD := fun wx (hx : Up w wx) => split_any (bs d) 44 wx (HL.out.up hx).max (by rw [bs_size]; omega)
  rw [bs_data] at cD
  clear hxp hxs h4 hx xs
  unfold psV at cA
  generalize (prsSet a).getD st0 = s at *
  generalize (numP b).getD 0 = n1 at *
  generalize (numP c).getD 0 = n2 at *
  generalize (prsSet a).isSome = bA at *
  generalize (numP b).isSome = bB at *
  generalize (numP c).isSome = bC at *
  simp only [setV] at cA
  go_enter Tryz.func62, Tryz.ntmps62
  go_wp2_with fail
  (with_reducible refine (cS _ (by (repeat (first | with_reducible exact Up.refl _ | with_reducible assumption | with_reducible refine Up.set ?_ (by first | exact Nat.le_refl _ | (simp only []; omega) | (simp; omega)) _ | with_reducible refine Up.alloc ?_ _ | with_reducible refine Up.drew ?_ | refine Up.trans ?_ (by with_reducible assumption))))).mono ?_); rintro e w1 ⟨vp, rfl, ho, U1⟩
  obtain ⟨av, cv, rfl⟩ := ownsRow_shape ho
  simp only [List.length_map, List.length_cons, List.length_nil, Nat.zero_add] at ho ⊢
  have hR1 : KnAt w.heap.size knZ (.slice none 0 0) w1 := box_up U1 (MapKept.heap_alloc w _).1
  have hU1 : Up w w1 := by (repeat (first | with_reducible exact Up.refl _ | with_reducible assumption | with_reducible refine Up.set ?_ (by first | exact Nat.le_refl _ | (simp only []; omega) | (simp; omega)) _ | with_reducible refine Up.alloc ?_ _ | with_reducible refine Up.drew ?_ | refine Up.trans ?_ (by with_reducible assumption)))
  obtain ⟨g, rfl, hg, -, hcc1, hcc2, c0⟩ := own_strs ho (k := 0) (by simp)
  simp only [List.getElem_cons_zero] at c0
  have hb0 := hR1.cells.1
  have hn1 : ¬ w.heap.size = w1.heap.size := by omega
  clear U1 cS
  go_wp2_with fail
  (with_reducible refine (cA _ (by (repeat (first | with_reducible exact Up.refl _ | with_reducible assumption | with_reducible refine Up.set ?_ (by first | exact Nat.le_refl _ | (simp only []; omega) | (simp; omega)) _ | with_reducible refine Up.alloc ?_ _ | with_reducible refine Up.drew ?_ | refine Up.trans ?_ (by with_reducible assumption))))).mono ?_); rintro e w2 ⟨rfl, U2⟩
  have hK2 : KnAt w1.heap.size knZ (.slice none 0 0) w2 := box_up U2 (MapKept.heap_alloc w1 _).1
  have hR2 : KnAt w.heap.size knZ (.slice none 0 0) w2 := box_up U2 (box_up ((Up.refl _).alloc _) hR1)
  have hU2 : Up w w2 := by (repeat (first | with_reducible exact Up.refl _ | with_reducible assumption | with_reducible refine Up.set ?_ (by first | exact Nat.le_refl _ | (simp only []; omega) | (simp; omega)) _ | with_reducible refine Up.alloc ?_ _ | with_reducible refine Up.drew ?_ | refine Up.trans ?_ (by with_reducible assumption)))
  have ho2 := ownsRow_up ho (((Up.refl _).alloc _).trans U2)
  have HNB := Lib.hid (box_ne hK2 ho2 (by decide))
  have hwk : w.heap.size ≤ w1.heap.size := Nat.le_of_lt hb0
  clear c0 hR1 hU1 U2 ho hb0
  generalize w1.heap.size = kb at *
  have x1 := own_strC ho2 (k := 1) (by simp)
  simp only [List.getElem_cons_zero, List.getElem_cons_succ] at x1
  obtain ⟨hb2, r0, r1, r2, r3, r4, r5⟩ := hK2.cells
  simp only [knZ, st0] at r0 r1 r2 r3 r4 r5
  have hf2 := box_free hK2
  have hgk : ¬ g = kb := fun h => HNB.out (by rw [h]; rfl)
  have hgk2 : ¬ kb = g := fun h => hgk h.symm
  have hn2 : ¬ kb = w.heap.size := fun h => hn1 h.symm
  go_wp2_with fail
  (with_reducible refine (cB _ (by (repeat (first | with_reducible exact Up.refl _ | with_reducible assumption | with_reducible refine Up.set ?_ (by first | exact Nat.le_refl _ | (simp only []; omega) | (simp; omega)) _ | with_reducible refine Up.alloc ?_ _ | with_reducible refine Up.drew ?_ | refine Up.trans ?_ (by with_reducible assumption))))).mono ?_); rintro e w3 ⟨rfl, U3⟩
  have hK3 : KnAt kb ⟨s, [], 0, 0⟩ (.slice none 0 0) w3 := box_up U3 (box_set (box_set (box_set hK2 0 (.int .i64 s.ord)) 1 (.int .i64 s.lit)) 2 (.int .i64 s.most))
  have hR3 : KnAt w.heap.size knZ (.slice none 0 0) w3 := box_up U3 (box_other (box_other (box_other hR2 (p := ⟨kb, 0, none⟩) hn1 _) (p := ⟨kb, 1, none⟩) hn1 _) (p := ⟨kb, 2, none⟩) hn1 _)
  have ho3 := ownsRow_up (ownsRow_setb (ownsRow_setb (ownsRow_setb ho2 HNB.out 0 _) HNB.out 1 _) HNB.out 2 _) U3
  have hU3 : Up w w3 := by (repeat (first | with_reducible exact Up.refl _ | with_reducible assumption | with_reducible refine Up.set ?_ (by first | exact Nat.le_refl _ | (simp only []; omega) | (simp; omega)) _ | with_reducible refine Up.alloc ?_ _ | with_reducible refine Up.drew ?_ | refine Up.trans ?_ (by with_reducible assumption)))
  clear U3 hK2 hR2 ho2 hU2 hb2 r0 r1 r2 r3 r4 r5 hf2 x1
  have x2 := own_strC ho3 (k := 2) (by simp)
  simp only [List.getElem_cons_zero, List.getElem_cons_succ] at x2
  obtain ⟨hb2, r0, r1, r2, r3, r4, r5⟩ := hK3.cells
  have hf2 := box_free hK3
  go_wp2_with fail
  (with_reducible refine (cC _ (by (repeat (first | with_reducible exact Up.refl _ | with_reducible assumption | with_reducible refine Up.set ?_ (by first | exact Nat.le_refl _ | (simp only []; omega) | (simp; omega)) _ | with_reducible refine Up.alloc ?_ _ | with_reducible refine Up.drew ?_ | refine Up.trans ?_ (by with_reducible assumption))))).mono ?_); rintro e w4 ⟨rfl, U4⟩
  have hK4 : KnAt kb ⟨s, [], n1, 0⟩ (.slice none 0 0) w4 := box_up U4 (box_set hK3 4 (.int .i64 n1))
  have hR4 : KnAt w.heap.size knZ (.slice none 0 0) w4 := box_up U4 (box_other hR3 (p := ⟨kb, 4, none⟩) hn1 _)
  have ho4 := ownsRow_up (ownsRow_setb ho3 HNB.out 4 _) U4
  have hU4 : Up w w4 := by (repeat (first | with_reducible exact Up.refl _ | with_reducible assumption | with_reducible refine Up.set ?_ (by first | exact Nat.le_refl _ | (simp only []; omega) | (simp; omega)) _ | with_reducible refine Up.alloc ?_ _ | with_reducible refine Up.drew ?_ | refine Up.trans ?_ (by with_reducible assumption)))
  clear U4 hK3 hR3 ho3 hU3 hb2 r0 r1 r2 r3 r4 r5 hf2 x2 cA cB cC
  have x3 := own_strC ho4 (k := 3) (by simp)
  simp only [List.getElem_cons_zero, List.getElem_cons_succ] at x3
  obtain ⟨hb2, r0, r1, r2, r3, r4, r5⟩ := hK4.cells
  have hf2 := box_free hK4
  by_cases hall : (bA && (bB && bC)) = true
  case' neg =>
    have e : Hid (prsK t = none) := by unfold Hid; rw [HKN.out, if_neg hall]
    obtain ⟨hb6, q0, q1, q2, q3, q4, q5⟩ := hR4.cells
    simp only [knZ, st0] at q0 q1 q2 q3 q4 q5
    have hf6 := box_free hR4
    clear hK4 hR4 ho4 HKN x3
    cases bA <;> cases bB <;> cases bC
    all_goals first
      | exact absurd rfl hall
      | skip
    all_goals
      clear hall
      go_wp2
      refine bodyPost_ret (v := .tuple #[kV knZ (.slice none 0 0), .bool false]) (by simp [results, Tryz.results62, go_sem, q0, q1, q2, q3, q4, q5, knZ, st0, hn1, hn2]) rfl ⟨_, by rw [e.out]; rfl, by rw [e.out]; exact World.ownsRow_nil _ _ _ _, ?_⟩
      (repeat (first | with_reducible exact Up.refl _ | with_reducible assumption | with_reducible refine Up.set ?_ (by first | exact Nat.le_refl _ | (simp only []; omega) | (simp; omega)) _ | with_reducible refine Up.alloc ?_ _ | with_reducible refine Up.drew ?_ | refine Up.trans ?_ (by with_reducible assumption)))
  obtain ⟨rfl, rfl, rfl⟩ : bA = true ∧ bB = true ∧ bC = true := by simpa using hall
  have HKP : Hid (prsK t = kn2 s n1 n2 (prsP d)) := by unfold Hid; rw [HKN.out, if_pos hall]
  clear hall HKN
  obtain ⟨W, hW⟩ : ∃ W, Hid (W = w4.setCell ⟨kb, 5, none⟩ (.int .i64 n2)) := ⟨_, rfl⟩
  have HK : Hid (KnAt kb ⟨s, [], n1, n2⟩ (.slice none 0 0) W) := by rw [hW.out]; exact box_set hK4 5 (.int .i64 n2)
  have HR : Hid (KnAt w.heap.size knZ (.slice none 0 0) W) := by rw [hW.out]; exact box_other hR4 (p := ⟨kb, 5, none⟩) hn1 _
  have HU : Hid (Up w W) := by rw [hW.out]; exact hU4.set (p := ⟨kb, 5, none⟩) hwk _
  by_cases hd : d = [45]
  · have hb1 := bl_eq hd
    obtain ⟨ps, hps⟩ : ∃ ps : List PairD, ps = [] := ⟨_, rfl⟩
    have HPP : Hid (prsK t = if validK ⟨s, ps, n1, n2⟩ then some ⟨s, ps, n1, n2⟩ else none) := by unfold Hid; rw [HKP.out, hd, prsP_dash, hps]; rfl
    clear hd cD
    go_wp2_with fail
    rw [← hW.out]
    have hK : KnAt kb ⟨s, ps, n1, n2⟩ (.slice none 0 0) W := by rw [hps]; exact HK.out
    have hR := HR.out
    have hO : ownPr W w.heap.size (.slice none 0 0) ps := by rw [hps]; exact World.ownsRow_nil _ _ _ _
    have hU := HU.out
    have hpl : ps.length ≤ 1073741824 := by rw [hps]; exact Nat.zero_le _
    clear hps HK HR HU hW hb2 r0 r1 r2 r3 r4 r5 hf2 x3 hK4 hR4 ho4 hU4 HKP
    have cV := fun wx h => kvI_gen ⟨s, ps, n1, n2⟩ ((.slice none 0 0)) 0 wx hl h hpl
    have hrd := fun wx (h : Up W wx) => ((RdP.of_own hO).low (Nat.zero_le _)).up h
    cases hv : validK ⟨s, ps, n1, n2⟩
    · have e : Hid (prsK t = none) := by unfold Hid; rw [HPP.out, hv]; rfl
      rw [hv] at cV
      clear hv
      (with_reducible refine (cV _ (hrd _ (Up.refl _))).mono ?_); rintro e w7 ⟨rfl, U7⟩
      have hR7 : KnAt w.heap.size knZ (.slice none 0 0) w7 := hR.up U7
      have hU7 := hU.trans U7
      obtain ⟨hb6, q0, q1, q2, q3, q4, q5⟩ := hR7.cells
      simp only [knZ, st0] at q0 q1 q2 q3 q4 q5
      have hf6 := box_free hR7
      clear U7 hK hO hR hU HPP hrd cV
      go_wp2
      refine bodyPost_ret (v := .tuple #[kV knZ (.slice none 0 0), .bool false]) (by simp [results, Tryz.results62, go_sem, q0, q1, q2, q3, q4, q5, knZ, st0]) rfl ⟨_, by rw [e.out]; rfl, by rw [e.out]; exact World.ownsRow_nil _ _ _ _, ?_⟩
      (repeat (first | with_reducible exact Up.refl _ | with_reducible assumption | with_reducible refine Up.set ?_ (by first | exact Nat.le_refl _ | (simp only []; omega) | (simp; omega)) _ | with_reducible refine Up.alloc ?_ _ | with_reducible refine Up.drew ?_ | refine Up.trans ?_ (by with_reducible assumption)))
    · have e : Hid (prsK t = some ⟨s, ps, n1, n2⟩) := by unfold Hid; rw [HPP.out, hv]; rfl
      have cY := fun wx h => copyI_any ⟨s, ps, n1, n2⟩ ((.slice none 0 0)) 0 wx h (by have := (validK_small hv).2.1; have h2 : ps.length ≤ 1024 := this; show ps.length ≤ 1048576; omega)
      rw [hv] at cV
      clear hv
      (with_reducible refine (cV _ (hrd _ (Up.refl _))).mono ?_); rintro e w7 ⟨rfl, U7⟩
      have hK7 := hK.up U7
      have hR7 : KnAt w.heap.size knZ (.slice none 0 0) w7 := hR.up U7
      have hU7 := hU.trans U7
      have hr7 := hrd _ U7
      clear U7 hK hO hR hU HPP hrd cV
      obtain ⟨hb5, r0, r1, r2, r3, r4, r5⟩ := hK7.cells
      go_wp2_with fail
      (with_reducible refine (cY _ hr7).mono ?_); rintro e w8 ⟨v8, rfl, ho8, U8⟩
      obtain ⟨a8, c8, rfl⟩ := ownsRow_shape ho8
      have hR8 : KnAt w.heap.size knZ (.slice none 0 0) w8 := hR7.up U8
      have HU8 := Lib.hid (hU7.trans U8)
      have HO8 := Lib.hid (ownsRow_base ho8 hU7.size)
      have HB := Lib.hid (box_ne hR8 ho8 (by decide))
      obtain ⟨hb6, q0, q1, q2, q3, q4, q5⟩ := hR8.cells
      simp only [knZ, st0] at q0 q1 q2 q3 q4 q5
      have hf6 := box_free hR8
      clear U8 hK7 hR7 hU7 hr7 ho8 hb5 r0 r1 r2 r3 r4 r5 cY
      simp only [kV]
      go_wp2
      refine bodyPost_ret (v := .tuple #[kV ⟨s, ps, n1, n2⟩ (.slice a8 ps.length c8), .bool true]) (by simp [results, Tryz.results62, go_sem, q0, q1, q2, q3, q4, q5]) rfl ⟨.slice a8 ps.length c8, by rw [e.out]; rfl, ?_, ?_⟩
      · rw [e.out]
        exact KnW.own HO8.out HB.out ⟨s, ps, n1, n2⟩ (.slice a8 ps.length c8)
      · exact KnW.up HU8.out (Nat.le_refl _) ⟨s, ps, n1, n2⟩ (.slice a8 ps.length c8)
  · have hb1 := bl_ne hd
    have hyp := splL_piece_le 44 d
    have hyl := splL_length_le 44 d
    obtain ⟨ys, hys⟩ : ∃ ys, ys = splL 44 d := ⟨_, rfl⟩
    rw [← hys] at hyp hyl cD
    have HLY : Hid (prsK t = kn2 s n1 n2 (allP prP ys)) := by unfold Hid; rw [HKP.out, prsP_cut hd, hys]
    obtain ⟨i0, hi, hz0, hz1, hz2⟩ := info_parts infoPair
    clear hd hys HKP
    go_wp2_with fail
    rw [← hW.out]
    (with_reducible refine (cD _ HU.out).mono ?_); rintro e w5 ⟨vy, rfl, ho5, U5⟩
    obtain ⟨ay, cy, rfl⟩ := ownsRow_shape ho5
    simp only [List.length_map] at ho5 ⊢
    have hK5 := HK.out.up U5
    have hR5 := HR.out.up U5
    have hU5 := HU.out.trans U5
    have ho5 := ownsRow_base ho5 HU.out.size
    clear HK HR HU hW hb2 r0 r1 r2 r3 r4 r5 hf2 x3 hK4 hR4 ho4 hU4 U5 cD
    go_wp2
    go_loopw [63] (fun i wr => RelPki ys (.slice ay ys.length cy) s n1 n2 kb w i wr) (fun i _ => ys.length - (intOf i).toNat)
    case atStart => exact ⟨0, _, [], Nat.zero_le _, rfl, rfl, hK5, World.ownsRow_nil _ _ _ _, ho5, hR5, hU5⟩
    case round =>
      clear hK5 hR5 hU5 ho5
      obtain ⟨j, v, ps, hj, rfl, hps, hK, hO, ho, hR, hU⟩ := hrel
      obtain ⟨a', c', rfl⟩ := ownsRow_shape hO
      have hpj : ps.length = j := by rw [allP_len hps, List.length_take]; omega
      have HPS := Lib.hid hps
      have hpl : ps.length ≤ 1073741824 := by omega
      have HPJ := Lib.hid hpj
      clear hps hpj
      by_cases hlt : j < ys.length
      · obtain ⟨gy, rfl, hgy, -, hy1, hy2, y0⟩ := own_strs ho hlt
        have hyj : (ys[j]).length ≤ t.length := by have := hyp _ (List.getElem_mem hlt); omega
        have cP := fun wx (hx : Up w wx) => parsePair_any ys[j] wx (HL.out.up hx) (by omega)
        unfold PpPost at cP
        have HNO : Hid (prP ys[j] = none → prsK t = none) := fun h => by rw [HLY.out, allP_none hlt h]; rfl
        have HYS : Hid (∀ p, prP ys[j] = some p → allP prP (ys.take (j + 1)) = some (ps ++ [p])) := fun p h => allP_take_succ hlt HPS.out h
        have hwz := hU.size
        have hpl2 : ps.length ≤ 1048577 := by have := HPJ.out; omega
        go_wp2_with fail
        (with_reducible refine (cP _ hU).mono ?_); rintro e w6 ⟨x, y, rfl, hxy, U6⟩
        have hK6 := hK.up U6
        have hR6 := hR.up U6
        have hO6 := ownsRow_up hO U6
        have ho6 := ownsRow_up ho U6
        have hU6 := hU.trans U6
        have hw6 := hU6.size
        clear hK hR hO ho hU U6 cP y0 hgy hwz
        generalize ys[j] = z at *
        cases hp : prP z with
        | none =>
          have e : Hid (prsK t = none) := HNO.out hp
          have hRz : KnAt w.heap.size knZ (.slice none 0 0) (World.alloc (World.setCell (World.setCell (World.setCell (World.setCell (World.setCell (World.setCell w6 ⟨w.heap.size, 0, none⟩ (.int .i64 0)) ⟨w.heap.size, 1, none⟩ (.int .i64 0)) ⟨w.heap.size, 2, none⟩ (.int .i64 0)) ⟨w.heap.size, 3, none⟩ (.slice none 0 0)) ⟨w.heap.size, 4, none⟩ (.int .i64 0)) ⟨w.heap.size, 5, none⟩ (.int .i64 0)) (.cells #[.int .i64 x, .int .i64 y] 149)) := box_up ((Up.refl _).alloc _) (KnAt.store hR6 knZ (.slice none 0 0))
          obtain ⟨-, z0, z1, z2, z3, z4, z5⟩ := hRz.cells
          simp only [knZ, st0] at z0 z1 z2 z3 z4 z5
          obtain ⟨hb6, q0, q1, q2, q3, q4, q5⟩ := hR6.cells
          simp only [knZ, st0] at q0 q1 q2 q3 q4 q5
          have hf6 := box_free hR6
          clear hp hxy HNO HYS hK6 hR6 hO6 ho6
          have hn6 : ¬ w.heap.size = w6.heap.size := by omega
          have hn7 : ¬ w6.heap.size = w.heap.size := by omega
          simp only [Option.isSome_none]
          go_wp2
          refine bodyPost_ret (v := .tuple #[kV knZ (.slice none 0 0), .bool false]) (by simp [results, Tryz.results62, go_sem, q0, q1, q2, q3, q4, q5, knZ, st0, z0, z1, z2, z3, z4, z5]) rfl ⟨_, by rw [e.out]; rfl, by rw [e.out]; exact World.ownsRow_nil _ _ _ _, ?_⟩
          (repeat (first | with_reducible exact Up.refl _ | with_reducible assumption | with_reducible refine Up.set ?_ (by first | exact Nat.le_refl _ | (simp only []; omega) | (simp; omega)) _ | with_reducible refine Up.alloc ?_ _ | with_reducible refine Up.drew ?_ | refine Up.trans ?_ (by with_reducible assumption)))
        | some p =>
          have hpe := hxy p hp
          subst hpe
          have HN := Lib.hid (HYS.out _ hp)
          clear hp hxy HNO HYS
          simp only [Option.isSome_some]
          have HKO := Lib.hid hK6
          have HOO := Lib.hid hO6
          have HRO := Lib.hid hR6
          have HYO := Lib.hid ho6
          have HUO := Lib.hid hU6
          have HN1 := Lib.hid (box_ne hK6 hO6 (by decide))
          have HN2 := Lib.hid (rowsX_ne ho6 hO6 (by decide))
          have HN3 := Lib.hid (box_ne hR6 hO6 (by decide))
          have HN4 := Lib.hid (box_ne hK6 ho6 (by decide))
          obtain ⟨hb2, r0, r1, r2, r3, r4, r5⟩ := hK6.cells
          clear hK6 hR6 hO6 ho6 hU6
          go_wp2_with (at_builtin; refine wpList_append_own _ rfl _ _ 25 rfl w.heap.size 149 i0 (.agg #[.int .i64 0, .int .i64 0]) 2 16 Tryz.underlying25 hi hz0 hz1 hz2 rfl (by decide) _ _ _ rfl ((HOO.out.alloc _).alloc _) ⟨w6.heap.size + 1, 0, none⟩ 1 1 (prC ⟨x, y⟩) rfl rfl (new_cells (prC ⟨x, y⟩) _ (size_alloc _ _).symm) (prC_one _) (by unfold maxLen; omega) (by omega) (by simp; omega) ?_; rintro v2 w7 hown2 hgr2 -; have hU8 := Lib.hid (((Up.refl w6).alloc (.cells #[.int .i64 x, .int .i64 y] 149)).alloc (.cells #[.int .i64 x, .int .i64 y] 149)); have hKp := KnAt.gr (HKO.out.up hU8.out) hgr2 HN1.out; have hRp := KnAt.gr (HRO.out.up hU8.out) hgr2 HN3.out; have hYp := World.ownsRow.kept (ownsRow_up HYO.out hU8.out) hgr2 HN2.out; have hUp : Up w w7 := Up.grown (HUO.out.trans hU8.out) hgr2 (fun q hq => (HOO.out.lt q hq).1); obtain ⟨a3, c3, rfl⟩ := ownsRow_shape hown2; have HNB2 := Lib.hid (box_ne hKp hown2 (by decide)); have HZ := Lib.hid (And.intro hKp (And.intro hRp (And.intro hYp (And.intro hUp hown2)))); obtain ⟨hpz, r0, r1, r2, r3, r4, r5⟩ := KnAt.cells hKp; have hfp := box_free hKp; clear hKp hRp hYp hUp hown2 hgr2 hU8)
          go_roundw
          case rel =>
            obtain ⟨z1, z2, z3, z4, z5⟩ := HZ.out
            refine ⟨j + 1, .slice a3 (ps.length + 1) c3, ps ++ [⟨x, y⟩], by omega, by go_num, HN.out, box_set z1 3 (.slice a3 (ps.length + 1) c3), ?_, ownsRow_setb z3 HN4.out _ _, box_other z2 (p := ⟨kb, 3, none⟩) hn1 _, z4.set (p := ⟨kb, 3, none⟩) hwk _⟩
            unfold ownPr
            rw [cellsPr_snoc, List.length_append]
            exact ownsRow_setb z5 HNB2.out _ _
          case measure => simp [intOf]; omega
      · have hjl : j = ys.length := by omega
        have HPP : Hid (prsK t = if validK ⟨s, ps, n1, n2⟩ then some ⟨s, ps, n1, n2⟩ else none) := by
          have h1 := HPS.out
          rw [hjl, List.take_length] at h1
          unfold Hid; rw [HLY.out, h1]; rfl
        clear hjl
        have cV := fun wx h => kvI_gen ⟨s, ps, n1, n2⟩ ((.slice a' ps.length c')) 0 wx hl h hpl
        have hrd := fun wx (h : Up wr wx) => ((RdP.of_own hO).low (Nat.zero_le _)).up h
        cases hv : validK ⟨s, ps, n1, n2⟩
        · have e : Hid (prsK t = none) := by unfold Hid; rw [HPP.out, hv]; rfl
          rw [hv] at cV
          clear hv
          obtain ⟨hb5, r0, r1, r2, r3, r4, r5⟩ := hK.cells
          go_wp2_with fail
          (with_reducible refine (cV _ (hrd _ (Up.refl _))).mono ?_); rintro e w7 ⟨rfl, U7⟩
          have hR7 : KnAt w.heap.size knZ (.slice none 0 0) w7 := hR.up U7
          have hU7 := hU.trans U7
          obtain ⟨hb6, q0, q1, q2, q3, q4, q5⟩ := hR7.cells
          simp only [knZ, st0] at q0 q1 q2 q3 q4 q5
          have hf6 := box_free hR7
          clear U7 hK hO hR hU HPP hb5 r0 r1 r2 r3 r4 r5 hrd cV
          go_wp2
          refine bodyPost_ret (v := .tuple #[kV knZ (.slice none 0 0), .bool false]) (by simp [results, Tryz.results62, go_sem, q0, q1, q2, q3, q4, q5, knZ, st0]) rfl ⟨_, by rw [e.out]; rfl, by rw [e.out]; exact World.ownsRow_nil _ _ _ _, ?_⟩
          (repeat (first | with_reducible exact Up.refl _ | with_reducible assumption | with_reducible refine Up.set ?_ (by first | exact Nat.le_refl _ | (simp only []; omega) | (simp; omega)) _ | with_reducible refine Up.alloc ?_ _ | with_reducible refine Up.drew ?_ | refine Up.trans ?_ (by with_reducible assumption)))
        · have e : Hid (prsK t = some ⟨s, ps, n1, n2⟩) := by unfold Hid; rw [HPP.out, hv]; rfl
          have cY := fun wx h => copyI_any ⟨s, ps, n1, n2⟩ ((.slice a' ps.length c')) 0 wx h (by have := (validK_small hv).2.1; have h2 : ps.length ≤ 1024 := this; show ps.length ≤ 1048576; omega)
          rw [hv] at cV
          clear hv
          obtain ⟨hb5, r0, r1, r2, r3, r4, r5⟩ := hK.cells
          go_wp2_with fail
          (with_reducible refine (cV _ (hrd _ (Up.refl _))).mono ?_); rintro e w7 ⟨rfl, U7⟩
          have hK7 := hK.up U7
          have hR7 : KnAt w.heap.size knZ (.slice none 0 0) w7 := hR.up U7
          have hU7 := hU.trans U7
          have hr7 := hrd _ U7
          clear U7 hK hO hR hU HPP hb5 r0 r1 r2 r3 r4 r5 hrd cV
          obtain ⟨hb5, r0, r1, r2, r3, r4, r5⟩ := hK7.cells
          go_wp2_with fail
          (with_reducible refine (cY _ hr7).mono ?_); rintro e w8 ⟨v8, rfl, ho8, U8⟩
          obtain ⟨a8, c8, rfl⟩ := ownsRow_shape ho8
          have hR8 : KnAt w.heap.size knZ (.slice none 0 0) w8 := hR7.up U8
          have HU8 := Lib.hid (hU7.trans U8)
          have HO8 := Lib.hid (ownsRow_base ho8 hU7.size)
          have HB := Lib.hid (box_ne hR8 ho8 (by decide))
          obtain ⟨hb6, q0, q1, q2, q3, q4, q5⟩ := hR8.cells
          simp only [knZ, st0] at q0 q1 q2 q3 q4 q5
          have hf6 := box_free hR8
          clear U8 hK7 hR7 hU7 hr7 ho8 hb5 r0 r1 r2 r3 r4 r5 cY
          simp only [kV]
          go_wp2
          refine bodyPost_ret (v := .tuple #[kV ⟨s, ps, n1, n2⟩ (.slice a8 ps.length c8), .bool true]) (by simp [results, Tryz.results62, go_sem, q0, q1, q2, q3, q4, q5]) rfl ⟨.slice a8 ps.length c8, by rw [e.out]; rfl, ?_, ?_⟩
          · rw [e.out]
            exact KnW.own HO8.out HB.out ⟨s, ps, n1, n2⟩ (.slice a8 ps.length c8)
          · exact KnW.up HU8.out (Nat.le_refl _) ⟨s, ps, n1, n2⟩ (.slice a8 ps.length c8)

end Go.Proofs.YtiiahjnfbhcgmaaGreatDoor

/- The program's ParseWriter. Conditions: fewer than 2^20 bytes; the listed variables lie as they were laid. -/
namespace Go.Proofs.YtiiahjnfbhcgmaaGreatDoor
set_option linter.unusedVariables false
set_option linter.unusedSimpArgs false
open Go Go.RowKit

set_option maxRecDepth 100000 in
set_option maxHeartbeats 1000000 in
theorem withoutDash_any (l : List UInt8) (w : World) : Calls Tryz.prog 63  #[.string (bs l)] w (fun e w' => e = .returned (.tuple #[.string (bs ((dashP l).getD [])), .bool (dashP l).isSome]) ∧ w = w') := by
  by_cases h : l = [45]
  · have e : Hid (dashP l = some []) := if_pos h
    have hb := bs_eq h
    have hb2 := bl_eq h
    have hb1 : ((bs l).toList == (⟨#[45]⟩ : ByteArray).toList) = true := hb
    clear h
    go_enter Tryz.func63, Tryz.ntmps63
    go_wp2
    ((try simp only [Exit.inBlock, Exit.then]); refine bodyPost_ret (v := _) (by simp [results, Tryz.results63, go_sem]; rfl) rfl ?_)
    exact ⟨by rw [e.out]; rfl, rfl⟩
  · by_cases h0 : l = []
    · have e : Hid (dashP l = none) := by unfold Hid dashP; rw [if_neg h, if_pos h0]
      subst h0
      have hb : (bs []).toList.isEmpty = true := by rw [Lib.toList_data, bs_data]; rfl
      have hb1 : ((bs []).toList == (⟨#[45]⟩ : ByteArray).toList) = false := bs_dif (l := []) (m := [45]) (by simp)
      have hb2 := bl_ne (l := []) (m := [45]) (by simp)
      go_enter Tryz.func63, Tryz.ntmps63
      go_wp2
      ((try simp only [Exit.inBlock, Exit.then]); refine bodyPost_ret (v := _) (by simp [results, Tryz.results63, go_sem]; rfl) rfl ?_)
      exact ⟨by rw [e.out]; rfl, rfl⟩
    · have e : Hid (dashP l = some l) := by unfold Hid dashP; rw [if_neg h, if_neg h0]
      have hb : (bs l).toList.isEmpty = false := by rw [Lib.toList_data, bs_data]; cases l with | nil => exact absurd rfl h0 | cons _ _ => rfl
      have hb1 : ((bs l).toList == (⟨#[45]⟩ : ByteArray).toList) = false := bs_dif h
      have hb2 := bl_ne h
      clear h h0
      go_enter Tryz.func63, Tryz.ntmps63
      go_wp2
      ((try simp only [Exit.inBlock, Exit.then]); refine bodyPost_ret (v := _) (by simp [results, Tryz.results63, go_sem]; rfl) rfl ?_)
      exact ⟨by rw [e.out]; rfl, rfl⟩
theorem dashP_len (l : List UInt8) : ((dashP l).getD []).length ≤ l.length := by unfold dashP; split; simp; split <;> simp
theorem wr4_eq {a b c d : List UInt8} {g : Bool} (hg : begP d = some g) : wr4 a b c d = if ((prsK a).isSome && ((dashP b).isSome && ((prsHex ((dashP b).getD [])).isSome && (dashP c).isSome))) then (if wrvB ⟨(prsK a).getD knZ, (prsHex ((dashP b).getD [])).getD [], (dashP c).getD [], g⟩ then some ⟨(prsK a).getD knZ, (prsHex ((dashP b).getD [])).getD [], (dashP c).getD [], g⟩ else none) else none := by
  unfold wr4
  rw [hg]
  cases prsK a <;> cases dashP b <;> cases dashP c <;> simp
  all_goals (rename_i x y z; cases prsHex y <;> simp)
theorem wr4_no {a b c d : List UInt8} (hg : begP d = none) : wr4 a b c d = none := by unfold wr4; rw [hg]
theorem prsK_lit (a : List UInt8) : -9223372036854775808 ≤ ((prsK a).getD knZ).set.lit ∧ ((prsK a).getD knZ).set.lit ≤ 9223372036854775807 := by
  cases h : prsK a with
  | none => simp [knZ, st0]
  | some k => have := setOk_small (validK_small (fmtK_prs h).2).1; simp only [Option.getD_some]; omega

set_option maxRecDepth 100000 in
set_option maxHeartbeats 8000000 in
theorem pwI_any (t : List UInt8) (w : World) (hL : Lay w) (ht : t.length ≤ 1048576) :
    Calls Tryz.prog 12  #[.string (bs t)] w (PwPost (prsW t) w) := by
  unfold PwPost
  have zT := bs_size t
  have cS := fun wx (hx : Up w wx) => split_any (bs t) 124 wx (hL.up hx).max (by omega)
  rw [bs_data] at cS
  have hxp := splL_piece_le 124 t
  obtain ⟨xs, hxs⟩ : ∃ xs, xs = splL 124 t := ⟨_, rfl⟩
  rw [← hxs] at cS hxp
  have HL := Lib.hid hL
  clear hL
  by_cases h4 : xs.length = 4
  case' neg =>
    have e : Hid (prsW t = none) := prsW_len4 (by rw [← hxs]; exact h4)
    have hB4 : ((xs.length : Int) == 4) = false := by rw [beq_eq_false_iff_ne]; omega
    clear hxs hxp
    go_enter Tryz.func12, Tryz.ntmps12
    go_wp2_with fail
    (with_reducible refine (cS _ (by (repeat (first | with_reducible exact Up.refl _ | with_reducible assumption | with_reducible refine Up.set ?_ (by first | exact Nat.le_refl _ | (simp only []; omega) | (simp; omega)) _ | with_reducible refine Up.alloc ?_ _ | with_reducible refine Up.drew ?_ | refine Up.trans ?_ (by with_reducible assumption))))).mono ?_); rintro e w1 ⟨vp, rfl, ho, U1⟩
    obtain ⟨av, cv, rfl⟩ := ownsRow_shape ho
    simp only [List.length_map] at ho ⊢
    have hR1 : WrAt w.heap.size wr0 (.slice none 0 0) w1 := box_up U1 (MapKept.heap_alloc w _).1
    have hU1 : Up w w1 := by (repeat (first | with_reducible exact Up.refl _ | with_reducible assumption | with_reducible refine Up.set ?_ (by first | exact Nat.le_refl _ | (simp only []; omega) | (simp; omega)) _ | with_reducible refine Up.alloc ?_ _ | with_reducible refine Up.drew ?_ | refine Up.trans ?_ (by with_reducible assumption)))
    obtain ⟨hb1, q0, q1, q2, q3, q4, q5, q6, q7, q8⟩ := hR1.cells
    have hf1 := box_free hR1
    simp only [wr0] at q0 q1 q2 q3 q4 q5 q6 q7 q8
    clear U1 cS
    rename_i e
    go_wp2
    refine bodyPost_ret (v := .tuple #[wrV wr0 (.slice none 0 0), .bool false]) (by simp [results, Tryz.results12, go_sem, q0, q1, q2, q3, q4, q5, q6, q7, q8, wr0, wrV]; rfl) rfl ⟨_, by rw [e.out]; rfl, by rw [e.out]; exact World.ownsRow_nil _ _ _ _, ?_⟩
    (repeat (first | with_reducible exact Up.refl _ | with_reducible assumption | with_reducible refine Up.set ?_ (by first | exact Nat.le_refl _ | (simp only []; omega) | (simp; omega)) _ | with_reducible refine Up.alloc ?_ _ | with_reducible refine Up.drew ?_ | refine Up.trans ?_ (by with_reducible assumption)))
  obtain ⟨a, b, c, d, hx⟩ := len4 h4
  rw [hx] at cS hxp hxs
  have hal := hxp a (by simp)
  have hbl := hxp b (by simp)
  have hcl := hxp c (by simp)
  have hW4 := Lib.hid (prsW_4 hxs.symm)
  clear hxp hxs h4 hx xs
  cases hbeg : begP d with
  | none =>
    have E : Hid (prsW t = none) := by unfold Hid; rw [hW4.out, wr4_no hbeg]
    have hn : d ≠ [110, 101, 119] := fun h => by rw [h] at hbeg; cases hbeg
    have hm : d ≠ [98, 101, 103, 117, 110] := fun h => by rw [h] at hbeg; cases hbeg
    have hb1 := bl_ne hn
    have hb2 := bl_ne hm
    clear hbeg hn hm
    go_enter Tryz.func12, Tryz.ntmps12
    go_wp2_with fail
    (with_reducible refine (cS _ (by (repeat (first | with_reducible exact Up.refl _ | with_reducible assumption | with_reducible refine Up.set ?_ (by first | exact Nat.le_refl _ | (simp only []; omega) | (simp; omega)) _ | with_reducible refine Up.alloc ?_ _ | with_reducible refine Up.drew ?_ | refine Up.trans ?_ (by with_reducible assumption))))).mono ?_); rintro e0 w1 ⟨vp, rfl, ho, U1⟩
    obtain ⟨av, cv, rfl⟩ := ownsRow_shape ho
    simp only [List.length_map, List.length_cons, List.length_nil, Nat.zero_add] at ho ⊢
    have hR1 : WrAt w.heap.size wr0 (.slice none 0 0) w1 := box_up U1 (MapKept.heap_alloc w _).1
    have hU1 : Up w w1 := by (repeat (first | with_reducible exact Up.refl _ | with_reducible assumption | with_reducible refine Up.set ?_ (by first | exact Nat.le_refl _ | (simp only []; omega) | (simp; omega)) _ | with_reducible refine Up.alloc ?_ _ | with_reducible refine Up.drew ?_ | refine Up.trans ?_ (by with_reducible assumption)))
    obtain ⟨g, rfl, hg, -, hcc1, hcc2, c0⟩ := own_strs ho (k := 0) (by simp)
    have c3 := own_strC ho (k := 3) (by simp)
    simp only [List.getElem_cons_zero, List.getElem_cons_succ] at c0 c3
    obtain ⟨hb0, q0, q1, q2, q3, q4, q5, q6, q7, q8⟩ := hR1.cells
    have hf1 := box_free hR1
    simp only [wr0] at q0 q1 q2 q3 q4 q5 q6 q7 q8
    clear U1 cS
    have e := E
    go_wp2
    refine bodyPost_ret (v := .tuple #[wrV wr0 (.slice none 0 0), .bool false]) (by simp [results, Tryz.results12, go_sem, q0, q1, q2, q3, q4, q5, q6, q7, q8, wr0, wrV]; rfl) rfl ⟨_, by rw [e.out]; rfl, by rw [e.out]; exact World.ownsRow_nil _ _ _ _, ?_⟩
    (repeat (first | with_reducible exact Up.refl _ | with_reducible assumption | with_reducible refine Up.set ?_ (by first | exact Nat.le_refl _ | (simp only []; omega) | (simp; omega)) _ | with_reducible refine Up.alloc ?_ _ | with_reducible refine Up.drew ?_ | refine Up.trans ?_ (by with_reducible assumption)))
  | some gb =>
    have HE : Hid (prsW t = if ((prsK a).isSome && ((dashP b).isSome && ((prsHex ((dashP b).getD [])).isSome && (dashP c).isSome))) then (if wrvB ⟨(prsK a).getD knZ, (prsHex ((dashP b).getD [])).getD [], (dashP c).getD [], gb⟩ then some ⟨(prsK a).getD knZ, (prsHex ((dashP b).getD [])).getD [], (dashP c).getD [], gb⟩ else none) else none) := by unfold Hid; rw [hW4.out, wr4_eq hbeg]
    have hdb := begP_text hbeg
    have hd1 : ((bs d).toList == [98, 101, 103, 117, 110]) = gb := by rw [hdb, Lib.toList_data, bs_data]; cases gb <;> rfl
    have hd2 : ((bs d).toList == [110, 101, 119]) = !gb := by rw [hdb, Lib.toList_data, bs_data]; cases gb <;> rfl
    have cA := fun wx (hx : Up w wx) => pkI_any a wx (HL.out.up hx) (by omega)
    have cN := fun wx => withoutDash_any b wx
    have cM := fun wx => withoutDash_any c wx
    have hnb := dashP_len b
    have hnc := dashP_len c
    have cH := fun wx => phI_any ((dashP b).getD []) wx (by omega)
    have hph := prsHex_len ((dashP b).getD [])
    have hkp := prsK_len_le a (by omega)
    have hl := prsK_lit a
    unfold PkPost at cA
    clear hbeg hdb hW4
    generalize (prsK a).getD knZ = k at *
    generalize (prsHex ((dashP b).getD [])).getD [] = p at *
    generalize (dashP c).getD [] = q at *
    generalize (prsHex ((dashP b).getD [])).isSome = bH at *
    generalize (dashP b).getD [] = nb at *
    generalize (prsK a).isSome = bA at *
    generalize (dashP b).isSome = bB at *
    generalize (dashP c).isSome = bC at *
    simp only [kV] at cA
    have hpl : p.length ≤ 1048576 := by omega
    have hql : q.length ≤ 1048576 := by omega
    have hgcase : gb = true ∨ gb = false := by cases gb <;> simp
    go_enter Tryz.func12, Tryz.ntmps12
    go_wp2_with fail
    (with_reducible refine (cS _ (by (repeat (first | with_reducible exact Up.refl _ | with_reducible assumption | with_reducible refine Up.set ?_ (by first | exact Nat.le_refl _ | (simp only []; omega) | (simp; omega)) _ | with_reducible refine Up.alloc ?_ _ | with_reducible refine Up.drew ?_ | refine Up.trans ?_ (by with_reducible assumption))))).mono ?_); rintro e0 w1 ⟨vp, rfl, ho, U1⟩
    obtain ⟨av, cv, rfl⟩ := ownsRow_shape ho
    simp only [List.length_map, List.length_cons, List.length_nil, Nat.zero_add] at ho ⊢
    have hR1 : WrAt w.heap.size wr0 (.slice none 0 0) w1 := box_up U1 (MapKept.heap_alloc w _).1
    have hU1 : Up w w1 := by (repeat (first | with_reducible exact Up.refl _ | with_reducible assumption | with_reducible refine Up.set ?_ (by first | exact Nat.le_refl _ | (simp only []; omega) | (simp; omega)) _ | with_reducible refine Up.alloc ?_ _ | with_reducible refine Up.drew ?_ | refine Up.trans ?_ (by with_reducible assumption)))
    obtain ⟨g, rfl, hg, -, hcc1, hcc2, c0⟩ := own_strs ho (k := 0) (by simp)
    have c3 := own_strC ho (k := 3) (by simp)
    simp only [List.getElem_cons_zero, List.getElem_cons_succ] at c0 c3
    have hb0 := hR1.cells.1
    have hn1 : ¬ w.heap.size = w1.heap.size := by omega
    have hn2 : ¬ w1.heap.size = w.heap.size := by omega
    clear U1 cS
    rcases hgcase with hgg | hgg
    all_goals
      rw [hgg] at hd1 hd2
      have HGG := Lib.hid hgg
      simp only [Bool.not_true, Bool.not_false] at hd2
      clear hgg
      go_wp2_with fail
      (with_reducible refine (cA _ (by (repeat (first | with_reducible exact Up.refl _ | with_reducible assumption | with_reducible refine Up.set ?_ (by first | exact Nat.le_refl _ | (simp only []; omega) | (simp; omega)) _ | with_reducible refine Up.alloc ?_ _ | with_reducible refine Up.drew ?_ | refine Up.trans ?_ (by with_reducible assumption))))).mono ?_); rintro e0 w2 ⟨v2, rfl, ho2, U2⟩
      obtain ⟨a2, cc2, rfl⟩ := ownsRow_shape ho2
      have hX2 : WrAt w1.heap.size wr0 (.slice none 0 0) w2 := box_up U2 (MapKept.heap_alloc w1 _).1
      have hR2 : WrAt w.heap.size wr0 (.slice none 0 0) w2 := box_up U2 (box_up ((Up.refl _).alloc _) hR1)
      have hU2 : Up w w2 := by (repeat (first | with_reducible exact Up.refl _ | with_reducible assumption | with_reducible refine Up.set ?_ (by first | exact Nat.le_refl _ | (simp only []; omega) | (simp; omega)) _ | with_reducible refine Up.alloc ?_ _ | with_reducible refine Up.drew ?_ | refine Up.trans ?_ (by with_reducible assumption)))
      have hof2 := ownsRow_up ho (((Up.refl _).alloc _).trans U2)
      have ho2 := ownsRow_base ho2 (show w.heap.size ≤ _ by rw [size_alloc]; omega)
      have hwk : w.heap.size ≤ w1.heap.size := Nat.le_of_lt hb0
      have HNF := Lib.hid (box_ne hX2 hof2 (by decide))
      have HNO := Lib.hid (box_ne hX2 ho2 (by decide))
      clear c0 c3 hR1 hU1 U2 ho hb0
      have x1 := own_strC hof2 (k := 1) (by simp)
      simp only [List.getElem_cons_zero, List.getElem_cons_succ] at x1
      have hgk : ¬ g = w1.heap.size := fun h => HNF.out (by rw [h]; rfl)
      have hgk2 : ¬ w1.heap.size = g := fun h => hgk h.symm
      obtain ⟨hb2, r0, r1, r2, r3, r4, r5, r6, r7, r8⟩ := hX2.cells
      simp only [wr0] at r0 r1 r2 r3 r4 r5 r6 r7 r8
      have hf2 := box_free hX2
      have hX3 : WrAt w1.heap.size ⟨k, [], [], false⟩ (.slice a2 k.ps.length cc2) (KnW w2 w1.heap.size k (.slice a2 k.ps.length cc2)) := by
        unfold KnW
        exact box_set (box_set (box_set (box_set (box_set (box_set hX2 0 (.int .i64 k.set.ord)) 1 (.int .i64 k.set.lit)) 2 (.int .i64 k.set.most)) 3 (.slice a2 k.ps.length cc2)) 4 (.int .i64 k.base)) 5 (.int .i64 k.last)
      have hR3 : WrAt w.heap.size wr0 (.slice none 0 0) (KnW w2 w1.heap.size k (.slice a2 k.ps.length cc2)) := (KnW.other hn1 _ _).trans hR2
      have hof3 := KnW.own hof2 HNF.out k (.slice a2 k.ps.length cc2)
      have ho3 := KnW.own ho2 HNO.out k (.slice a2 k.ps.length cc2)
      have hU3 := KnW.up hU2 hwk k (.slice a2 k.ps.length cc2)
      have HA := Lib.hid (And.intro hX3 (And.intro hR3 (And.intro hof3 (And.intro ho3 hU3))))
      clear hX3 hR3 hof3 ho3 hU3
      go_wp2_with fail
      (with_reducible refine (cN _).mono ?_); rintro e0 w3 ⟨rfl, rfl⟩
      go_wp2_with fail
      rw [show (World.setCell (World.setCell (World.setCell (World.setCell (World.setCell (World.setCell w2 ⟨w1.heap.size, 0, none⟩ (.int .i64 k.set.ord)) ⟨w1.heap.size, 1, none⟩ (.int .i64 k.set.lit)) ⟨w1.heap.size, 2, none⟩ (.int .i64 k.set.most)) ⟨w1.heap.size, 3, none⟩ (.slice a2 k.ps.length cc2)) ⟨w1.heap.size, 4, none⟩ (.int .i64 k.base)) ⟨w1.heap.size, 5, none⟩ (.int .i64 k.last)) = KnW w2 w1.heap.size k (.slice a2 k.ps.length cc2) from rfl]
      clear hX2 hR2 hof2 ho2 hU2 hb2 r0 r1 r2 r3 r4 r5 r6 r7 r8 hf2 x1
      generalize KnW w2 w1.heap.size k (.slice a2 k.ps.length cc2) = W3 at *
      obtain ⟨hX3, hR3, hof3, ho3, hU3⟩ := HA.out
      clear HA
      (with_reducible refine (cH _).mono ?_); rintro e0 w4 ⟨rfl, U4⟩
      have hX4 := hX3.up U4
      have hR4 := hR3.up U4
      have hof4 := ownsRow_up hof3 U4
      have ho4 := ownsRow_up ho3 U4
      have hU4 := hU3.trans U4
      clear hX3 hR3 hof3 ho3 hU3 U4
      have x2 := own_strC hof4 (k := 2) (by simp)
      have x3 := own_strC hof4 (k := 3) (by simp)
      simp only [List.getElem_cons_zero, List.getElem_cons_succ] at x2 x3
      obtain ⟨hb2, r0, r1, r2, r3, r4, r5, r6, r7, r8⟩ := hX4.cells
      simp only [bs_nil] at r6 r7
      have hf2 := box_free hX4
      obtain ⟨hb6, q0, q1, q2, q3, q4, q5, q6, q7, q8⟩ := hR4.cells
      simp only [wr0] at q0 q1 q2 q3 q4 q5 q6 q7 q8
      have hf6 := box_free hR4
      go_wp2_with fail
      (with_reducible refine (cM _).mono ?_); rintro e0 w5 ⟨rfl, rfl⟩
      cases bA
      · have e : Hid (prsW t = none) := by unfold Hid; rw [HE.out]; simp
        clear HE hX4 hR4 hof4 ho4
        go_wp2
        refine bodyPost_ret (v := .tuple #[wrV wr0 (.slice none 0 0), .bool false]) (by simp [results, Tryz.results12, go_sem, q0, q1, q2, q3, q4, q5, q6, q7, q8, wr0, wrV, hn1, hn2]; rfl) rfl ⟨_, by rw [e.out]; rfl, by rw [e.out]; exact World.ownsRow_nil _ _ _ _, ?_⟩
        (repeat (first | with_reducible exact Up.refl _ | with_reducible assumption | with_reducible refine Up.set ?_ (by first | exact Nat.le_refl _ | (simp only []; omega) | (simp; omega)) _ | with_reducible refine Up.alloc ?_ _ | with_reducible refine Up.drew ?_ | refine Up.trans ?_ (by with_reducible assumption)))
      cases bB
      · have e : Hid (prsW t = none) := by unfold Hid; rw [HE.out]; simp
        clear HE hX4 hR4 hof4 ho4
        go_wp2
        refine bodyPost_ret (v := .tuple #[wrV wr0 (.slice none 0 0), .bool false]) (by simp [results, Tryz.results12, go_sem, q0, q1, q2, q3, q4, q5, q6, q7, q8, wr0, wrV, hn1, hn2]; rfl) rfl ⟨_, by rw [e.out]; rfl, by rw [e.out]; exact World.ownsRow_nil _ _ _ _, ?_⟩
        (repeat (first | with_reducible exact Up.refl _ | with_reducible assumption | with_reducible refine Up.set ?_ (by first | exact Nat.le_refl _ | (simp only []; omega) | (simp; omega)) _ | with_reducible refine Up.alloc ?_ _ | with_reducible refine Up.drew ?_ | refine Up.trans ?_ (by with_reducible assumption)))
      cases bH
      · have e : Hid (prsW t = none) := by unfold Hid; rw [HE.out]; simp
        clear HE hX4 hR4 hof4 ho4
        go_wp2
        refine bodyPost_ret (v := .tuple #[wrV wr0 (.slice none 0 0), .bool false]) (by simp [results, Tryz.results12, go_sem, q0, q1, q2, q3, q4, q5, q6, q7, q8, wr0, wrV, hn1, hn2]; rfl) rfl ⟨_, by rw [e.out]; rfl, by rw [e.out]; exact World.ownsRow_nil _ _ _ _, ?_⟩
        (repeat (first | with_reducible exact Up.refl _ | with_reducible assumption | with_reducible refine Up.set ?_ (by first | exact Nat.le_refl _ | (simp only []; omega) | (simp; omega)) _ | with_reducible refine Up.alloc ?_ _ | with_reducible refine Up.drew ?_ | refine Up.trans ?_ (by with_reducible assumption)))
      cases bC
      · have e : Hid (prsW t = none) := by unfold Hid; rw [HE.out]; simp
        clear HE hX4 hR4 hof4 ho4
        go_wp2
        refine bodyPost_ret (v := .tuple #[wrV wr0 (.slice none 0 0), .bool false]) (by simp [results, Tryz.results12, go_sem, q0, q1, q2, q3, q4, q5, q6, q7, q8, wr0, wrV, hn1, hn2]; rfl) rfl ⟨_, by rw [e.out]; rfl, by rw [e.out]; exact World.ownsRow_nil _ _ _ _, ?_⟩
        (repeat (first | with_reducible exact Up.refl _ | with_reducible assumption | with_reducible refine Up.set ?_ (by first | exact Nat.le_refl _ | (simp only []; omega) | (simp; omega)) _ | with_reducible refine Up.alloc ?_ _ | with_reducible refine Up.drew ?_ | refine Up.trans ?_ (by with_reducible assumption)))
      have HE2 : Hid (prsW t = if wrvB ⟨k, p, q, gb⟩ then some ⟨k, p, q, gb⟩ else none) := by unfold Hid; rw [HE.out]; simp
      clear HE
      have cV := fun wx h => wvI_any ⟨k, p, q, gb⟩ (.slice a2 k.ps.length cc2) 0 wx hl h (by show k.ps.length ≤ 1073741824; omega) (by show p.length ≤ 1073741824; omega) (by show q.length ≤ 1073741824; omega)
      have hXc : WrAt w1.heap.size ⟨k, p, q, gb⟩ (.slice a2 k.ps.length cc2) (World.setCell (World.setCell (World.setCell w4 ⟨w1.heap.size, 6, none⟩ (.string (bs p))) ⟨w1.heap.size, 7, none⟩ (.string (bs q))) ⟨w1.heap.size, 8, none⟩ (.bool gb)) := box_set (box_set (box_set hX4 6 (.string (bs p))) 7 (.string (bs q))) 8 (.bool gb)
      have hRc : WrAt w.heap.size wr0 (.slice none 0 0) (World.setCell (World.setCell (World.setCell w4 ⟨w1.heap.size, 6, none⟩ (.string (bs p))) ⟨w1.heap.size, 7, none⟩ (.string (bs q))) ⟨w1.heap.size, 8, none⟩ (.bool gb)) := box_other (box_other (box_other hR4 (p := ⟨w1.heap.size, 6, none⟩) hn1 _) (p := ⟨w1.heap.size, 7, none⟩) hn1 _) (p := ⟨w1.heap.size, 8, none⟩) hn1 _
      have hNO4 := box_ne hX4 ho4 (by decide)
      have hoc := ownsRow_setb (ownsRow_setb (ownsRow_setb ho4 hNO4 6 (.string (bs p))) hNO4 7 (.string (bs q))) hNO4 8 (.bool gb)
      have hUc : Up w (World.setCell (World.setCell (World.setCell w4 ⟨w1.heap.size, 6, none⟩ (.string (bs p))) ⟨w1.heap.size, 7, none⟩ (.string (bs q))) ⟨w1.heap.size, 8, none⟩ (.bool gb)) := ((hU4.set (p := ⟨w1.heap.size, 6, none⟩) hwk _).set (p := ⟨w1.heap.size, 7, none⟩) hwk _).set (p := ⟨w1.heap.size, 8, none⟩) hwk _
      rw [HGG.out] at hXc hRc hoc hUc
      have HA := Lib.hid (And.intro hXc (And.intro hRc (And.intro hoc hUc)))
      clear hXc hRc hoc hUc hX4 hR4 hof4 ho4 hNO4
      clear hU4
      cases hv : wrvB ⟨k, p, q, gb⟩
      · have e : Hid (prsW t = none) := by unfold Hid; rw [HE2.out, hv]; rfl
        rw [hv] at cV
        simp only [wrV] at cV
        rw [HGG.out] at cV
        clear hv HE2
        go_wp2_with fail
        obtain ⟨hXc, hRc, hoc, hUc⟩ := HA.out
        clear q0 q1 q2 q3 q4 q5 q6 q7 q8 hf6 hb6 r0 r1 r2 r3 r4 r5 r6 r7 r8 hf2 hb2 x2 x3
        (with_reducible refine (cV _ ((RdP.of_own hoc).low (Nat.zero_le _))).mono ?_); rintro e0 w5 ⟨rfl, U5⟩
        have hR5 := hRc.up U5
        have hU5 := hUc.trans U5
        clear hXc hRc hoc hUc U5 HA cV
        obtain ⟨hb6, q0, q1, q2, q3, q4, q5, q6, q7, q8⟩ := hR5.cells
        simp only [wr0] at q0 q1 q2 q3 q4 q5 q6 q7 q8
        have hf6 := box_free hR5
        go_wp2
        refine bodyPost_ret (v := .tuple #[wrV wr0 (.slice none 0 0), .bool false]) (by simp [results, Tryz.results12, go_sem, q0, q1, q2, q3, q4, q5, q6, q7, q8, wr0, wrV]; rfl) rfl ⟨_, by rw [e.out]; rfl, by rw [e.out]; exact World.ownsRow_nil _ _ _ _, ?_⟩
        (repeat (first | with_reducible exact Up.refl _ | with_reducible assumption | with_reducible refine Up.set ?_ (by first | exact Nat.le_refl _ | (simp only []; omega) | (simp; omega)) _ | with_reducible refine Up.alloc ?_ _ | with_reducible refine Up.drew ?_ | refine Up.trans ?_ (by with_reducible assumption)))
      · have e : Hid (prsW t = some ⟨k, p, q, gb⟩) := by unfold Hid; rw [HE2.out, hv]; rfl
        rw [hv] at cV
        simp only [wrV] at cV
        rw [HGG.out] at cV
        clear hv HE2
        go_wp2_with fail
        obtain ⟨hXc, hRc, hoc, hUc⟩ := HA.out
        clear q0 q1 q2 q3 q4 q5 q6 q7 q8 hf6 hb6 r0 r1 r2 r3 r4 r5 r6 r7 r8 hf2 hb2 x2 x3
        (with_reducible refine (cV _ ((RdP.of_own hoc).low (Nat.zero_le _))).mono ?_); rintro e0 w5 ⟨rfl, U5⟩
        have hR5 := hRc.up U5
        have hX5 : WrAt w1.heap.size ⟨k, p, q, gb⟩ (.slice a2 k.ps.length cc2) w5 := by rw [HGG.out]; exact hXc.up U5
        have HO5 := Lib.hid (ownsRow_up hoc U5)
        have HU5 := Lib.hid (hUc.trans U5)
        have HB := Lib.hid (box_ne hR5 HO5.out (by decide))
        clear hXc hRc hoc hUc U5 HA cV
        obtain ⟨hb2, r0, r1, r2, r3, r4, r5, r6, r7, r8⟩ := hX5.cells
        obtain ⟨hb6, q0, q1, q2, q3, q4, q5, q6, q7, q8⟩ := hR5.cells
        simp only [wr0] at q0 q1 q2 q3 q4 q5 q6 q7 q8
        have hf6 := box_free hR5
        go_wp2
        refine bodyPost_ret (v := .tuple #[wrV ⟨k, p, q, gb⟩ (.slice a2 k.ps.length cc2), .bool true]) (by simp [results, Tryz.results12, go_sem, q0, q1, q2, q3, q4, q5, q6, q7, q8, wrV]) rfl ⟨.slice a2 k.ps.length cc2, by rw [e.out]; rfl, ?_, ?_⟩
        · rw [e.out]
          exact WrW.own HO5.out HB.out ⟨k, p, q, gb⟩ (.slice a2 k.ps.length cc2)
        · exact WrW.up HU5.out (Nat.le_refl _) ⟨k, p, q, gb⟩ (.slice a2 k.ps.length cc2)

end Go.Proofs.YtiiahjnfbhcgmaaGreatDoor

