/- Texts joined into one: the walks and laws that the last text leans on. Conditions: as each says. -/
import Derived.Test.YtgbakgaegldomaaGreatMFnWriterKnownLawXH
import Derived.Test.YtgbakgaegldomaaGreatMFnWriterKnownLawT

set_option linter.unusedVariables false
set_option linter.unusedSimpArgs false
/- Walks of the program's coderOf, codeOf, CodeOfWord, BitsValid, WriterValid, NewWriter. Conditions: as each says. -/
namespace Go.Proofs.YtgbakgaegldomaaGreat
open Go Go.RowKit
def WrAt (b : Nat) (x : WrD) (v : Value) (w : World) : Prop := w.heap[b]? = some (.cells #[.int .i64 x.k.set.ord, .int .i64 x.k.set.lit, .int .i64 x.k.set.most, v, .int .i64 x.k.base, .int .i64 x.k.last, .string (bs x.pend), .string (bs x.bits), .bool x.beg] 37)
theorem WrAt.cells {b : Nat} {x : WrD} {v : Value} {w : World} (h : WrAt b x v w) : b < w.heap.size ∧ w.cell? ⟨b, 0, none⟩ = some (.int .i64 x.k.set.ord) ∧ w.cell? ⟨b, 1, none⟩ = some (.int .i64 x.k.set.lit) ∧ w.cell? ⟨b, 2, none⟩ = some (.int .i64 x.k.set.most) ∧ w.cell? ⟨b, 3, none⟩ = some v ∧ w.cell? ⟨b, 4, none⟩ = some (.int .i64 x.k.base) ∧ w.cell? ⟨b, 5, none⟩ = some (.int .i64 x.k.last) ∧ w.cell? ⟨b, 6, none⟩ = some (.string (bs x.pend)) ∧ w.cell? ⟨b, 7, none⟩ = some (.string (bs x.bits)) ∧ w.cell? ⟨b, 8, none⟩ = some (.bool x.beg) :=
  ⟨(Array.getElem?_eq_some_iff.1 h).1, box_cell h 0, box_cell h 1, box_cell h 2, box_cell h 3, box_cell h 4, box_cell h 5, box_cell h 6, box_cell h 7, box_cell h 8⟩
theorem WrAt.up {b : Nat} {x : WrD} {v : Value} {w w' : World} (h : WrAt b x v w) (hu : Up w w') : WrAt b x v w' := box_up hu h
def TreeO (base : Nat) (k : KnD) (u : Value) (w : World) : Prop := ∃ tb vp vn vi, u = .pointer (some ⟨tb, 0, none⟩) ∧ TreeAt base tb k vp vn vi w
theorem treeO_closed (base : Nat) (k : KnD) : ∀ u, UpClosed (TreeO base k u) := fun u w w' ⟨tb, vp, vn, vi, h1, h2⟩ hu => ⟨tb, vp, vn, vi, h1, h2.up hu⟩
theorem upOut_tree {f : FuncId} {args : Array Value} {w : World} {k : KnD} {base : Nat} (h : Calls Tryz.prog f args w (NewTree k w)) (hb : base ≤ w.heap.size) : upOut Tryz.prog (TreeO base k) w (.ok (.enter f args) w) :=
  ⟨rfl, h.mono fun e w' ⟨tb, vp, vn, vi, he, hT, hu⟩ => ⟨_, he, hu, tb, vp, vn, vi, rfl, hT.base hb⟩⟩
theorem bytO_closed (base : Nat) (d : List UInt8) : ∀ u, UpClosed ((fun (u : Value) w => ownM w base u d) u) := fun u w w' h hu => h.up hu
set_option maxRecDepth 100000 in
set_option maxHeartbeats 8000000 in
theorem coderOf_any (x : WrD) (v : Value) (lo : Nat) (w : World) (hk : x.k.Ok) (hr : RdP lo w v x.k.ps) (hb : x.bits.length ≤ 1000) :
    Calls Tryz.prog 43  #[wrV x v] w (fun e w' => ∃ cb, e = .returned (.pointer (some ⟨cb, 0, none⟩)) ∧ CdEx w cb x.open.2 x.open.1 w') := by
  have cN := fun wq hr => newTree_any x.k v lo wq hk hr
  have cK := fun w => clearI_any x.k.set w hk.set
  have hrt := fun (wq : World) (hu : Up w wq) => hr.up hu
  have hbm : x.bits.length ≤ maxLen := by unfold maxLen; omega
  obtain ⟨a, cap, rfl, -, -, -, -⟩ := hr
  have hA : WrAt w.heap.size x (.slice a x.k.ps.length cap) (w.alloc (.cells #[.int .i64 x.k.set.ord, .int .i64 x.k.set.lit, .int .i64 x.k.set.most, .slice a x.k.ps.length cap, .int .i64 x.k.base, .int .i64 x.k.last, .string (bs x.pend), .string (bs x.bits), .bool x.beg] 37)) := (MapKept.heap_alloc w _).1
  have hbg : ∀ b : Bool, x.beg = b → x.open = if b then (x.bits, x.k) else (x.bits ++ codeL x.k.set.ord x.k.c x.k.width, x.k.cleared) := fun b e => by unfold WrD.open; rw [e]
  have HBG := Lib.hid hbg
  have HK := Lib.hid hk
  clear hbg hk
  cases hbe : x.beg
  all_goals
    have HO := Lib.hid (HBG.out _ hbe)
    rw [hbe] at hA
    unfold WrAt at hA
    rw [hbe] at hA
    unfold wrV
    rw [hbe]
    simp only [kV] at *
    go_enter Tryz.func43, Tryz.ntmps43
    go_wp2
    have hU1 : Up w (w.alloc (.cells #[.int .i64 x.k.set.ord, .int .i64 x.k.set.lit, .int .i64 x.k.set.most, .slice a x.k.ps.length cap, .int .i64 x.k.base, .int .i64 x.k.last, .string (bs x.pend), .string (bs x.bits), .bool x.beg] 37)) := (Up.refl w).alloc _
    rw [hbe] at hU1
    generalize (w.alloc (.cells #[.int .i64 x.k.set.ord, .int .i64 x.k.set.lit, .int .i64 x.k.set.most, .slice a x.k.ps.length cap, .int .i64 x.k.base, .int .i64 x.k.last, .string (bs x.pend), .string (bs x.bits), .bool _] 37)) = W1 at *
    have hA' : WrAt w.heap.size x (.slice a x.k.ps.length cap) W1 := by unfold WrAt; rw [hbe]; exact hA
    have HA := Lib.hid (And.intro hA' hU1)
    have hws := hU1.size
    clear hA hA' hU1
    have HBE := Lib.hid hbe
    clear hbe
    refine wp_region_upR 6 (by kernel_rfl) (by kernel_rfl) ?_
    simp only [List.take, List.drop]
    repeat (refine wpUp_step (fun K hK => ?_); go_simp; (try simp only [↓IntWalk.iteOmega]); first
      | (refine hK _ _ ?_; clear hK K)
      | (apply stepU_c
         · intro wq hwq; (have hbq := bcell hwq; (repeat (first | refine fills_no (by rfl) ?_ | refine fills_yes (by rfl) (fun vq hvq => ?_))); simp only [List.filter_nil, fills]; unfold upAt; (try ((obtain ⟨-, r0, r1, r2, r3, r4, r5, r6, r7, r8⟩ := (HA.out.1.up hwq).cells; have hcv := run_strBytes wq x.bits))); go_simp; (try go_bits); (try simp only [↓IntWalk.iteOmega]); (try (rw [dif_pos (by omega)]; go_simp; try go_bits)); first | exact upOut_value)
         go_simp; refine hK _ _ ?_; clear hK K)
      | (refine stepU_m (by kernel_rfl) (TreeO w.heap.size x.k) (treeO_closed _ _) (fun wq hwq => ?_) ?_
         · (have hbq := bcell hwq; (repeat (first | refine fills_no (by rfl) ?_ | refine fills_yes (by rfl) (fun vq hvq => ?_))); simp only [List.filter_nil, fills]; unfold upAt; (try ((obtain ⟨-, r0, r1, r2, r3, r4, r5, r6, r7, r8⟩ := (HA.out.1.up hwq).cells; have hcv := run_strBytes wq x.bits))); go_simp; (try go_bits); (try simp only [↓IntWalk.iteOmega]); (try (rw [dif_pos (by omega)]; go_simp; try go_bits)); ((with_reducible refine upOut_tree ?_ (Nat.le_trans hws hwq.size)); go_at_call 95; exact cN _ (hrt _ (HA.out.2.trans hwq))))
         refine hK _ _ ?_; clear hK K)
      | (refine stepU_m (by kernel_rfl) ((fun (u : Value) w' => ownM w' w.heap.size u x.bits)) (bytO_closed _ _) (fun wq hwq => ?_) ?_
         · (have hbq := bcell hwq; (repeat (first | refine fills_no (by rfl) ?_ | refine fills_yes (by rfl) (fun vq hvq => ?_))); simp only [List.filter_nil, fills]; unfold upAt; (try ((obtain ⟨-, r0, r1, r2, r3, r4, r5, r6, r7, r8⟩ := (HA.out.1.up hwq).cells; have hcv := run_strBytes wq x.bits))); go_simp; (try go_bits); (try simp only [↓IntWalk.iteOmega]); (try (rw [dif_pos (by omega)]; go_simp; try go_bits)); exact upOut_make (up_bytes _ _) (own_bytes _ _ hbm (Nat.le_trans hws hwq.size)))
         refine hK _ _ ?_; clear hK K))
    refine wpUp_nil (fun wq hwq => ?_)
    simp only [fills]
    rintro u5 hM u2 ⟨tb, vp, vn, vi, rfl, hT⟩
    obtain ⟨gv, cv, rfl⟩ := hM.shape
    have HW := Lib.hid (HA.out.2.trans hwq)
    have HAq := Lib.hid (HA.out.1.up hwq)
    have hcx : CdEx w wq.heap.size x.k x.bits (wq.alloc (.cells #[.pointer (some ⟨tb, 0, none⟩), .slice (some ⟨gv, 0, none⟩) x.bits.length cv] 88)) :=
      ⟨HW.out.alloc _, tb, vp, vn, vi, _, hT.up ((Up.refl _).alloc _), (MapKept.heap_alloc _ _).1, HW.out.size, hM.up ((Up.refl _).alloc _)⟩
    have HC := Lib.hid hcx
    have hqs := hwq.size
    obtain ⟨-, r0, r1, r2, r3, r4, r5, r6, r7, r8⟩ := (HAq.out.up ((Up.refl _).alloc (.cells #[.pointer (some ⟨tb, 0, none⟩), .slice (some ⟨gv, 0, none⟩) x.bits.length cv] 88))).cells
    rw [HBE.out] at r8
    clear hcx hM hT hwq HA HW HAq HBE
    have hwz : w.heap.size < (wq.alloc (.cells #[.pointer (some ⟨tb, 0, none⟩), .slice (some ⟨gv, 0, none⟩) x.bits.length cv] 88)).heap.size := by simp; omega
  · have cWr := fun wx hx => write_any w wq.heap.size x.k x.bits (clr x.k.set) wx hx HK.out (by have := HK.out.nums; omega) (by omega) (.inr (.inl rfl))
    rw [show ((clr x.k.set : Nat) : Int) = (x.k.c : Int) from rfl, thru_clear] at cWr
    rw [show (x.k.c : Int) = ((clr x.k.set : Nat) : Int) from rfl] at cWr
    go_wp2_with (first | (go_at_call 47; (with_reducible refine (cK _).mono ?_); rintro e w3 ⟨rfl, U3⟩; have B3 := bcell U3; have Z3 := U3.size; (try simp at Z3); (try rw [Nat.add_one_le_iff] at Z3)) | fail)
    with_reducible refine (cWr _ (HC.out.up U3)).mono ?_
    rintro e w4 ⟨⟨v4, rfl⟩, hP⟩
    have HP := Lib.hid hP
    clear hP
    go_wp2
    go_ret
    exact ⟨_, rfl, by rw [HO.out]; exact HP.out⟩
  · go_wp2
    go_ret
    exact ⟨_, rfl, by rw [HO.out]; exact HC.out⟩
set_option maxRecDepth 100000 in
set_option maxHeartbeats 4000000 in
theorem codeOf_any (B tb : Nat) (k : KnD) (vp vn vi : Value) (s : ByteArray) (w : World) (h : TreeAt B tb k vp vn vi w) (hk : k.Ok) (hs : 0 < s.size) (hs2 : s.size ≤ 1073741824) (hl : ∀ b ∈ s.data.toList, b.toNat < k.c) :
    Calls Tryz.prog 75  #[.pointer (some ⟨tb, 0, none⟩), .string s] w (Same (if k.longest s.data.toList = s.data.toList then .tuple #[.int .i64 (k.find s.data.toList), .bool true] else .tuple #[.int .i64 0, .bool false]) w) := by
  have cL := fun wq hT => longest_any B tb k vp vn vi s wq hT hk hs hs2 hl
  have cK := fun w => clearI_any k.set w hk.set
  have hsl := ba_len s
  have htb := h.lt
  have hu0 := u8_bd s[0]
  have hne : s.data.toList ≠ [] := fun e => by rw [e] at hsl; simp at hsl; omega
  have hl0 : (s[0]).toNat < clr k.set := hl _ (by
    have e : s[0] = s.data.toList[0]'(by omega) := rfl
    rw [e]; exact List.getElem_mem _)
  have hge : ¬ ((s[0].toNat : Int) ≥ ((clr k.set : Nat) : Int)) := by omega
  have HE : s.toList.isEmpty = false := by rw [Lib.toList_data]; cases hh : s.data.toList with | nil => exact absurd hh hne | cons _ _ => rfl
  obtain ⟨c0, c1, c2, c3, c4, c5, c6, c7⟩ := h.cells
  have hle := KnD.longest_le (k := k) s.data.toList
  have HT := Lib.hid h
  by_cases he : k.longest s.data.toList = s.data.toList
  · rw [if_pos he]
    rw [he, hsl] at cL
    have hlt : ¬ ((s.size : Nat) : Int) < (s.size : Int) := by omega
    clear he h hl hle hne
    generalize k.find s.data.toList = x at *
    go_enter Tryz.func75, Tryz.ntmps75
    go_wp2
    refine wp_region_up 14 (by kernel_rfl) (by kernel_rfl) ?_
    simp only [List.take, List.drop]
    repeat (refine wpUp_step (fun K hK => ?_); go_simp; (try simp only [↓IntWalk.iteOmega]); first
      | (refine hK _ _ ?_; clear hK K)
      | (apply stepU_c
         · intro wq hwq; (have hbq := bcell hwq; (repeat (first | refine fills_no (by rfl) ?_ | refine fills_yes (by rfl) (fun vq hvq => ?_))); simp only [List.filter_nil, fills]; unfold upAt; go_simp; (try go_bits); (try simp only [↓IntWalk.iteOmega]); (try (rw [dif_pos (by omega)]; go_simp; try go_bits)); first | exact upOut_value | (apply upOut_call; (go_at_call 47; exact cK _)) | (apply upOut_eq; (go_at_call 47; exact cK _)))
         go_simp; refine hK _ _ ?_; clear hK K))
    refine wpUp_nil (fun wq hwq => ?_)
    simp only [fills]
    go_wp2_with (first | (go_at_call 44; (with_reducible refine (cL _ (HT.out.up hwq)).mono ?_); rintro e w2 ⟨rfl, U2⟩; have B2 := bcell U2; have Z2 := U2.size; (try simp at Z2); (try rw [Nat.add_one_le_iff] at Z2)))
    go_ret2
    exact ⟨rfl, hwq.trans U2⟩
  · rw [if_neg he]
    have hlt := KnD.longest_lt (k := k) he
    rw [hsl] at hlt
    generalize k.find (k.longest s.data.toList) = x at *
    generalize (k.longest s.data.toList).length = ln at *
    clear he h hl hle hne
    go_enter Tryz.func75, Tryz.ntmps75
    go_wp2
    refine wp_region_up 14 (by kernel_rfl) (by kernel_rfl) ?_
    simp only [List.take, List.drop]
    repeat (refine wpUp_step (fun K hK => ?_); go_simp; (try simp only [↓IntWalk.iteOmega]); first
      | (refine hK _ _ ?_; clear hK K)
      | (apply stepU_c
         · intro wq hwq; (have hbq := bcell hwq; (repeat (first | refine fills_no (by rfl) ?_ | refine fills_yes (by rfl) (fun vq hvq => ?_))); simp only [List.filter_nil, fills]; unfold upAt; go_simp; (try go_bits); (try simp only [↓IntWalk.iteOmega]); (try (rw [dif_pos (by omega)]; go_simp; try go_bits)); first | exact upOut_value | (apply upOut_call; (go_at_call 47; exact cK _)) | (apply upOut_eq; (go_at_call 47; exact cK _)))
         go_simp; refine hK _ _ ?_; clear hK K))
    refine wpUp_nil (fun wq hwq => ?_)
    simp only [fills]
    go_wp2_with (first | (go_at_call 44; (with_reducible refine (cL _ (HT.out.up hwq)).mono ?_); rintro e w2 ⟨rfl, U2⟩; have B2 := bcell U2; have Z2 := U2.size; (try simp at Z2); (try rw [Nat.add_one_le_iff] at Z2)))
    go_ret2
    exact ⟨rfl, hwq.trans U2⟩
set_option maxRecDepth 100000 in
set_option maxHeartbeats 4000000 in
theorem codeWI_any (k : KnD) (v : Value) (lo : Nat) (s : ByteArray) (w : World) (hk : k.Ok) (hv : k.vl) (hr : RdP lo w v k.ps) (hs : 0 < s.size) (hs2 : s.size ≤ 1073741824) (hl : ∀ b ∈ s.data.toList, b.toNat < k.c) :
    Calls Tryz.prog 94  #[kV k v, .string s] w (Same (.tuple #[.int .i64 (if k.longest s.data.toList = s.data.toList then k.find s.data.toList else 0), .bool (decide (k.longest s.data.toList = s.data.toList))]) w) := by
  have cV := fun wq hr => kvI_any k v lo wq hk hv hr
  have cN := fun wq hr => newTree_any k v lo wq hk hr
  have cC := fun B tb vp vn vi wq hT => codeOf_any B tb k vp vn vi s wq hT hk hs hs2 hl
  have hrt := fun (wq : World) (hu : Up w wq) => hr.up hu
  obtain ⟨a, cap, rfl, -, -, -, -⟩ := hr
  by_cases he : k.longest s.data.toList = s.data.toList
  · simp only [he, if_true, decide_true] at cC ⊢
    generalize k.find s.data.toList = x at *
    clear hk hl hv he
    simp only [kV] at *
    go_enter Tryz.func94, Tryz.ntmps94
    go_wp2_with (first | (go_at_call 39; (with_reducible refine (cV _ (hrt _ (by (repeat (first | with_reducible exact Up.refl _ | with_reducible assumption | with_reducible refine Up.set ?_ (by first | exact Nat.le_refl _ | (simp only []; omega) | (simp; omega)) _ | with_reducible refine Up.alloc ?_ _ | with_reducible refine Up.drew ?_ | refine Up.trans ?_ (by with_reducible assumption)))))).mono ?_); rintro e w1 ⟨rfl, U1⟩; have B1 := bcell U1; have Z1 := U1.size; (try simp at Z1); (try rw [Nat.add_one_le_iff] at Z1)) | fail)
    with_reducible refine (cN _ (hrt _ (by (repeat (first | with_reducible exact Up.refl _ | with_reducible assumption | with_reducible refine Up.set ?_ (by first | exact Nat.le_refl _ | (simp only []; omega) | (simp; omega)) _ | with_reducible refine Up.alloc ?_ _ | with_reducible refine Up.drew ?_ | refine Up.trans ?_ (by with_reducible assumption)))))).mono ?_
    rintro e w2 ⟨tb, vp, vn, vi, rfl, hT, U2⟩
    have HT := Lib.hid hT
    clear hT
    go_wp2_with (first | (go_at_call 75; (with_reducible refine (cC _ _ _ _ _ _ HT.out).mono ?_); rintro e w3 ⟨rfl, U3⟩; have B3 := bcell U3; have Z3 := U3.size; (try simp at Z3); (try rw [Nat.add_one_le_iff] at Z3)))
    go_ret2
    refine ⟨rfl, ?_⟩
    (repeat (first | with_reducible exact Up.refl _ | with_reducible assumption | with_reducible refine Up.set ?_ (by first | exact Nat.le_refl _ | (simp only []; omega) | (simp; omega)) _ | with_reducible refine Up.alloc ?_ _ | with_reducible refine Up.drew ?_ | refine Up.trans ?_ (by with_reducible assumption)))
  · simp only [he, if_false, decide_false] at cC ⊢
    clear hk hl hv he
    simp only [kV] at *
    go_enter Tryz.func94, Tryz.ntmps94
    go_wp2_with (first | (go_at_call 39; (with_reducible refine (cV _ (hrt _ (by (repeat (first | with_reducible exact Up.refl _ | with_reducible assumption | with_reducible refine Up.set ?_ (by first | exact Nat.le_refl _ | (simp only []; omega) | (simp; omega)) _ | with_reducible refine Up.alloc ?_ _ | with_reducible refine Up.drew ?_ | refine Up.trans ?_ (by with_reducible assumption)))))).mono ?_); rintro e w1 ⟨rfl, U1⟩; have B1 := bcell U1; have Z1 := U1.size; (try simp at Z1); (try rw [Nat.add_one_le_iff] at Z1)) | fail)
    with_reducible refine (cN _ (hrt _ (by (repeat (first | with_reducible exact Up.refl _ | with_reducible assumption | with_reducible refine Up.set ?_ (by first | exact Nat.le_refl _ | (simp only []; omega) | (simp; omega)) _ | with_reducible refine Up.alloc ?_ _ | with_reducible refine Up.drew ?_ | refine Up.trans ?_ (by with_reducible assumption)))))).mono ?_
    rintro e w2 ⟨tb, vp, vn, vi, rfl, hT, U2⟩
    have HT := Lib.hid hT
    clear hT
    go_wp2_with (first | (go_at_call 75; (with_reducible refine (cC _ _ _ _ _ _ HT.out).mono ?_); rintro e w3 ⟨rfl, U3⟩; have B3 := bcell U3; have Z3 := U3.size; (try simp at Z3); (try rw [Nat.add_one_le_iff] at Z3)))
    go_ret2
    refine ⟨rfl, ?_⟩
    (repeat (first | with_reducible exact Up.refl _ | with_reducible assumption | with_reducible refine Up.set ?_ (by first | exact Nat.le_refl _ | (simp only []; omega) | (simp; omega)) _ | with_reducible refine Up.alloc ?_ _ | with_reducible refine Up.drew ?_ | refine Up.trans ?_ (by with_reducible assumption)))
def bvB (l : List UInt8) : Bool := decide (l.length ≤ 32000) && bitsB l
theorem bitsB_no {s : ByteArray} {j : Nat} (h : j < s.size) (hb : ¬ (s[j].toNat = 48 ∨ s[j].toNat = 49)) : bitsB s.data.toList = false := by
  cases e : bitsB s.data.toList
  · rfl
  · exact absurd (bitsB_iff.1 e s[j] (by
      have e2 : s[j] = s.data.toList[j]'(by rw [ba_len]; exact h) := rfl
      rw [e2]; exact List.getElem_mem _)) hb
theorem bitsB_yes {s : ByteArray} (h : ∀ j (hj : j < s.size), s[j].toNat = 48 ∨ s[j].toNat = 49) : bitsB s.data.toList = true := by
  rw [bitsB_iff]
  intro b hb
  obtain ⟨i, hi, rfl⟩ := List.mem_iff_getElem.1 hb
  exact h i (by rw [ba_len] at hi; exact hi)
def RelBg (s : ByteArray) (i : Value) (w wr : World) : Prop := ∃ j : Nat, i = .int .i64 j ∧ j ≤ s.size ∧ (∀ q (hq : q < s.size), q < j → s[q].toNat = 48 ∨ s[q].toNat = 49) ∧ w = wr
set_option maxRecDepth 100000 in
set_option maxHeartbeats 1000000 in
theorem bvI_any (s : ByteArray) (w : World) (hs : s.size ≤ 1073741824) :
    Calls Tryz.prog 50  #[.string s] w (fun e w' => e = .returned (.bool (bvB s.data.toList)) ∧ w = w') := by
  have hlen := ba_len s
  by_cases h4 : s.size ≤ 32000
  · have HV : Hid (bvB s.data.toList = bitsB s.data.toList) := by unfold Hid bvB; rw [hlen, decide_eq_true h4]; rfl
    rw [HV.out]
    go_enter Tryz.func50, Tryz.ntmps50
    go_wp2
    go_loopw [9] (fun i wr => RelBg s i w wr) (fun i _ => s.size - (intOf i).toNat)
    case atStart => exact ⟨0, rfl, Nat.zero_le _, fun q _ h => absurd h (Nat.not_lt_zero _), rfl⟩
    case round =>
      obtain ⟨j, rfl, hj, hall, rfl⟩ := hrel
      have HA := Lib.hid hall
      clear hall
      by_cases hlt : j < s.size
      · have HN : Hid ((s[j].toNat = 48 ∨ s[j].toNat = 49) → ∀ q (hq : q < s.size), q < j + 1 → s[q].toNat = 48 ∨ s[q].toNat = 49) := fun h q hq hqj => by
          rcases Nat.lt_or_ge q j with h' | h'
          · exact HA.out q hq h'
          · have : q = j := by omega
            subst this; exact h
        by_cases h1 : s[j].toNat = 48
        · have HN' := Lib.hid (HN.out (.inl h1))
          clear HN HA
          go_wp2
          go_roundw
          case rel => exact ⟨j + 1, by go_num, by omega, HN'.out, rfl⟩
          case measure => simp [intOf]; omega
        · by_cases h2 : s[j].toNat = 49
          · have HN' := Lib.hid (HN.out (.inr h2))
            clear HN HA
            go_wp2
            go_roundw
            case rel => exact ⟨j + 1, by go_num, by omega, HN'.out, rfl⟩
            case measure => simp [intOf]; omega
          · have HB : Hid (bitsB s.data.toList = false) := bitsB_no hlt (fun h => h.elim h1 h2)
            have hb1 : ((s[j].toNat : Int) != 48) = true := by simp; omega
            have hb2 : ((s[j].toNat : Int) != 49) = true := by simp; omega
            clear HN HA
            go_wp2
            go_ret
            exact ⟨ret_bool HB.out.symm, rfl⟩
      · have HB : Hid (bitsB s.data.toList = true) := bitsB_yes fun q hq => HA.out q hq (by omega)
        go_wp2
        go_ret
        exact ⟨ret_bool HB.out.symm, rfl⟩
  · have HV : Hid (bvB s.data.toList = false) := by unfold Hid bvB; rw [hlen, decide_eq_false h4]; rfl
    rw [HV.out]
    go_enter Tryz.func50, Tryz.ntmps50
    go_wp2
    go_ret
    exact ⟨rfl, rfl⟩
theorem isEmpty_bs {d : List UInt8} (h : d ≠ []) : (bs d).toList.isEmpty = false := by rw [Lib.toList_data, bs_data]; cases d with | nil => exact absurd rfl h | cons _ _ => rfl
theorem isEmpty_nil : (bs ([] : List UInt8)).toList.isEmpty = true := by rw [Lib.toList_data, bs_data]; rfl
theorem wrvB_k {x : WrD} (h : validK x.k = false) : wrvB x = false := by unfold wrvB; rw [h]; rfl
theorem wrvB_f {x : WrD} (h : fitsB x.k.set x.pend = false) : wrvB x = false := by unfold wrvB; rw [h]; simp
theorem wrvB_b {x : WrD} (h : bvB x.bits = false) : wrvB x = false := by
  unfold wrvB
  have : (bitsB x.bits && decide (x.bits.length ≤ 7)) = false := by
    unfold bvB at h
    cases h1 : bitsB x.bits
    · rfl
    · rw [h1, Bool.and_true] at h
      have : ¬ x.bits.length ≤ 32000 := by simpa using h
      rw [Bool.true_and]
      exact decide_eq_false (by omega)
  rw [this]; simp
theorem wrvB_7 {x : WrD} (h : ¬ x.bits.length ≤ 7) : wrvB x = false := by unfold wrvB; rw [decide_eq_false h]; simp
theorem wrvB_all {x : WrD} (h1 : validK x.k = true) (h2 : fitsB x.k.set x.pend = true) (h3 : bvB x.bits = true) (h4 : x.bits.length ≤ 7) : wrvB x = wrsB x := by
  unfold wrvB
  unfold bvB at h3
  rw [h1, h2, decide_eq_true h4, (Bool.and_eq_true_iff.1 h3).2]
  rfl
set_option maxRecDepth 100000 in
set_option maxHeartbeats 8000000 in
theorem wvI_any (x : WrD) (v : Value) (lo : Nat) (w : World) (hl : -9223372036854775808 ≤ x.k.set.lit ∧ x.k.set.lit ≤ 9223372036854775807) (hr : RdP lo w v x.k.ps) (hps : x.k.ps.length ≤ 1073741824) (hp : x.pend.length ≤ 1073741824) (hb : x.bits.length ≤ 1073741824) :
    Calls Tryz.prog 41  #[wrV x v] w (Same (.bool (wrvB x)) w) := by
  have cV := fun wq hr => kvI_gen x.k v lo wq hl hr hps
  have hrt := fun (wq : World) (hu : Up w wq) => hr.up hu
  have hsp := bs_size x.pend
  have hsb := bs_size x.bits
  have cF := fun wq => fitsI_any x.k.set (bs x.pend) wq hl (by omega)
  have cB := fun wq => bvI_any (bs x.bits) wq (by omega)
  rw [bs_data] at cF cB
  obtain ⟨a, cap, rfl, -, -, -, -⟩ := id hr
  unfold wrV
  cases h1 : validK x.k
  · rw [wrvB_k h1]
    rw [h1] at cV
    clear h1 hr
    simp only [kV] at *
    go_enter Tryz.func41, Tryz.ntmps41
    go_wp2_with (first | (go_at_call 39; (with_reducible refine (cV _ (hrt _ (by (repeat (first | with_reducible exact Up.refl _ | with_reducible assumption | with_reducible refine Up.set ?_ (by first | exact Nat.le_refl _ | (simp only []; omega) | (simp; omega)) _ | with_reducible refine Up.alloc ?_ _ | with_reducible refine Up.drew ?_ | refine Up.trans ?_ (by with_reducible assumption)))))).mono ?_); rintro e w1 ⟨rfl, U1⟩; have B1 := bcell U1; have Z1 := U1.size; (try simp at Z1); (try rw [Nat.add_one_le_iff] at Z1)) | fail)
    go_ret
    refine ⟨rfl, ?_⟩
    (repeat (first | with_reducible exact Up.refl _ | with_reducible assumption | with_reducible refine Up.set ?_ (by first | exact Nat.le_refl _ | (simp only []; omega) | (simp; omega)) _ | with_reducible refine Up.alloc ?_ _ | with_reducible refine Up.drew ?_ | refine Up.trans ?_ (by with_reducible assumption)))
  rw [h1] at cV
  cases h2 : fitsB x.k.set x.pend
  · rw [wrvB_f h2]
    rw [h2] at cF
    clear h1 h2 hr
    simp only [kV, setV] at *
    go_enter Tryz.func41, Tryz.ntmps41
    go_wp2_with (first | (go_at_call 39; (with_reducible refine (cV _ (hrt _ (by (repeat (first | with_reducible exact Up.refl _ | with_reducible assumption | with_reducible refine Up.set ?_ (by first | exact Nat.le_refl _ | (simp only []; omega) | (simp; omega)) _ | with_reducible refine Up.alloc ?_ _ | with_reducible refine Up.drew ?_ | refine Up.trans ?_ (by with_reducible assumption)))))).mono ?_); rintro e w1 ⟨rfl, U1⟩; have B1 := bcell U1; have Z1 := U1.size; (try simp at Z1); (try rw [Nat.add_one_le_iff] at Z1)) | (go_at_call 42; (with_reducible refine (cF _).mono ?_); rintro e w2 ⟨rfl, U2⟩; have B2 := bcell U2; have Z2 := U2.size; (try simp at Z2); (try rw [Nat.add_one_le_iff] at Z2)) | fail)
    go_ret
    refine ⟨rfl, ?_⟩
    (repeat (first | with_reducible exact Up.refl _ | with_reducible assumption | with_reducible refine Up.set ?_ (by first | exact Nat.le_refl _ | (simp only []; omega) | (simp; omega)) _ | with_reducible refine Up.alloc ?_ _ | with_reducible refine Up.drew ?_ | refine Up.trans ?_ (by with_reducible assumption)))
  rw [h2] at cF
  cases h3 : bvB x.bits
  · rw [wrvB_b h3]
    rw [h3] at cB
    clear h1 h2 h3 hr
    simp only [kV, setV] at *
    go_enter Tryz.func41, Tryz.ntmps41
    go_wp2_with (first | (go_at_call 39; (with_reducible refine (cV _ (hrt _ (by (repeat (first | with_reducible exact Up.refl _ | with_reducible assumption | with_reducible refine Up.set ?_ (by first | exact Nat.le_refl _ | (simp only []; omega) | (simp; omega)) _ | with_reducible refine Up.alloc ?_ _ | with_reducible refine Up.drew ?_ | refine Up.trans ?_ (by with_reducible assumption)))))).mono ?_); rintro e w1 ⟨rfl, U1⟩; have B1 := bcell U1; have Z1 := U1.size; (try simp at Z1); (try rw [Nat.add_one_le_iff] at Z1)) | (go_at_call 42; (with_reducible refine (cF _).mono ?_); rintro e w2 ⟨rfl, U2⟩; have B2 := bcell U2; have Z2 := U2.size; (try simp at Z2); (try rw [Nat.add_one_le_iff] at Z2)) | (go_at_call 50; (with_reducible refine (cB _).mono ?_); rintro e w' ⟨rfl, rfl⟩) | fail)
    go_ret
    refine ⟨rfl, ?_⟩
    (repeat (first | with_reducible exact Up.refl _ | with_reducible assumption | with_reducible refine Up.set ?_ (by first | exact Nat.le_refl _ | (simp only []; omega) | (simp; omega)) _ | with_reducible refine Up.alloc ?_ _ | with_reducible refine Up.drew ?_ | refine Up.trans ?_ (by with_reducible assumption)))
  rw [h3] at cB
  by_cases h4 : x.bits.length ≤ 7
  case neg =>
    rw [wrvB_7 h4]
    clear h1 h2 h3 hr
    have h4' : ((x.bits.length : Nat) : Int) ≥ 8 := by omega
    simp only [kV, setV] at *
    go_enter Tryz.func41, Tryz.ntmps41
    go_wp2_with (first | (go_at_call 39; (with_reducible refine (cV _ (hrt _ (by (repeat (first | with_reducible exact Up.refl _ | with_reducible assumption | with_reducible refine Up.set ?_ (by first | exact Nat.le_refl _ | (simp only []; omega) | (simp; omega)) _ | with_reducible refine Up.alloc ?_ _ | with_reducible refine Up.drew ?_ | refine Up.trans ?_ (by with_reducible assumption)))))).mono ?_); rintro e w1 ⟨rfl, U1⟩; have B1 := bcell U1; have Z1 := U1.size; (try simp at Z1); (try rw [Nat.add_one_le_iff] at Z1)) | (go_at_call 42; (with_reducible refine (cF _).mono ?_); rintro e w2 ⟨rfl, U2⟩; have B2 := bcell U2; have Z2 := U2.size; (try simp at Z2); (try rw [Nat.add_one_le_iff] at Z2)) | (go_at_call 50; (with_reducible refine (cB _).mono ?_); rintro e w' ⟨rfl, rfl⟩) | fail)
    go_ret
    refine ⟨rfl, ?_⟩
    (repeat (first | with_reducible exact Up.refl _ | with_reducible assumption | with_reducible refine Up.set ?_ (by first | exact Nat.le_refl _ | (simp only []; omega) | (simp; omega)) _ | with_reducible refine Up.alloc ?_ _ | with_reducible refine Up.drew ?_ | refine Up.trans ?_ (by with_reducible assumption)))
  case pos =>
    have h4' : ¬ ((x.bits.length : Nat) : Int) ≥ 8 := by omega
    rw [wrvB_all h1 h2 h3 h4]
    obtain ⟨hk, hv⟩ := ok_of_valid h1
    obtain ⟨f1, f2, f3⟩ := fitsB_lits h2
    obtain ⟨k, pend, bits, beg⟩ := x
    dsimp only at *
    by_cases hpe : pend = []
    · subst hpe
      simp only [show bs ([] : List UInt8) = (⟨#[]⟩ : ByteArray) from rfl] at *
      by_cases hbe : bits = []
      · subst hbe
        simp only [show bs ([] : List UInt8) = (⟨#[]⟩ : ByteArray) from rfl] at *
        cases beg
        all_goals
          rw [show wrsB (⟨k, [], [], _⟩ : WrD) = true from rfl]
          clear h1 h2 h3 hr hk hv f3
          simp only [kV, setV] at *
          go_enter Tryz.func41, Tryz.ntmps41
          go_wp2_with (first | (go_at_call 39; (with_reducible refine (cV _ (hrt _ (by (repeat (first | with_reducible exact Up.refl _ | with_reducible assumption | with_reducible refine Up.set ?_ (by first | exact Nat.le_refl _ | (simp only []; omega) | (simp; omega)) _ | with_reducible refine Up.alloc ?_ _ | with_reducible refine Up.drew ?_ | refine Up.trans ?_ (by with_reducible assumption)))))).mono ?_); rintro e w1 ⟨rfl, U1⟩; have B1 := bcell U1; have Z1 := U1.size; (try simp at Z1); (try rw [Nat.add_one_le_iff] at Z1)) | (go_at_call 42; (with_reducible refine (cF _).mono ?_); rintro e w2 ⟨rfl, U2⟩; have B2 := bcell U2; have Z2 := U2.size; (try simp at Z2); (try rw [Nat.add_one_le_iff] at Z2)) | (go_at_call 50; (with_reducible refine (cB _).mono ?_); rintro e w' ⟨rfl, rfl⟩) | fail)
          go_ret
          refine ⟨rfl, ?_⟩
          (repeat (first | with_reducible exact Up.refl _ | with_reducible assumption | with_reducible refine Up.set ?_ (by first | exact Nat.le_refl _ | (simp only []; omega) | (simp; omega)) _ | with_reducible refine Up.alloc ?_ _ | with_reducible refine Up.drew ?_ | refine Up.trans ?_ (by with_reducible assumption)))
      · have HBE := isEmpty_bs hbe
        cases beg
        · have HW : Hid (wrsB (⟨k, [], bits, false⟩ : WrD) = false) := by unfold Hid wrsB; simp [hbe]
          rw [HW.out]
          clear h1 h2 h3 hr hk hv f3 hbe
          simp only [kV, setV] at *
          go_enter Tryz.func41, Tryz.ntmps41
          go_wp2_with (first | (go_at_call 39; (with_reducible refine (cV _ (hrt _ (by (repeat (first | with_reducible exact Up.refl _ | with_reducible assumption | with_reducible refine Up.set ?_ (by first | exact Nat.le_refl _ | (simp only []; omega) | (simp; omega)) _ | with_reducible refine Up.alloc ?_ _ | with_reducible refine Up.drew ?_ | refine Up.trans ?_ (by with_reducible assumption)))))).mono ?_); rintro e w1 ⟨rfl, U1⟩; have B1 := bcell U1; have Z1 := U1.size; (try simp at Z1); (try rw [Nat.add_one_le_iff] at Z1)) | (go_at_call 42; (with_reducible refine (cF _).mono ?_); rintro e w2 ⟨rfl, U2⟩; have B2 := bcell U2; have Z2 := U2.size; (try simp at Z2); (try rw [Nat.add_one_le_iff] at Z2)) | (go_at_call 50; (with_reducible refine (cB _).mono ?_); rintro e w' ⟨rfl, rfl⟩) | fail)
          go_ret
          refine ⟨rfl, ?_⟩
          (repeat (first | with_reducible exact Up.refl _ | with_reducible assumption | with_reducible refine Up.set ?_ (by first | exact Nat.le_refl _ | (simp only []; omega) | (simp; omega)) _ | with_reducible refine Up.alloc ?_ _ | with_reducible refine Up.drew ?_ | refine Up.trans ?_ (by with_reducible assumption)))
        · have HW : Hid (wrsB (⟨k, [], bits, true⟩ : WrD) = true) := by unfold Hid wrsB; simp
          rw [HW.out]
          clear h1 h2 h3 hr hk hv f3 hbe
          simp only [kV, setV] at *
          go_enter Tryz.func41, Tryz.ntmps41
          go_wp2_with (first | (go_at_call 39; (with_reducible refine (cV _ (hrt _ (by (repeat (first | with_reducible exact Up.refl _ | with_reducible assumption | with_reducible refine Up.set ?_ (by first | exact Nat.le_refl _ | (simp only []; omega) | (simp; omega)) _ | with_reducible refine Up.alloc ?_ _ | with_reducible refine Up.drew ?_ | refine Up.trans ?_ (by with_reducible assumption)))))).mono ?_); rintro e w1 ⟨rfl, U1⟩; have B1 := bcell U1; have Z1 := U1.size; (try simp at Z1); (try rw [Nat.add_one_le_iff] at Z1)) | (go_at_call 42; (with_reducible refine (cF _).mono ?_); rintro e w2 ⟨rfl, U2⟩; have B2 := bcell U2; have Z2 := U2.size; (try simp at Z2); (try rw [Nat.add_one_le_iff] at Z2)) | (go_at_call 50; (with_reducible refine (cB _).mono ?_); rintro e w' ⟨rfl, rfl⟩) | fail)
          go_ret
          refine ⟨rfl, ?_⟩
          (repeat (first | with_reducible exact Up.refl _ | with_reducible assumption | with_reducible refine Up.set ?_ (by first | exact Nat.le_refl _ | (simp only []; omega) | (simp; omega)) _ | with_reducible refine Up.alloc ?_ _ | with_reducible refine Up.drew ?_ | refine Up.trans ?_ (by with_reducible assumption)))
    · have HPE := isEmpty_bs hpe
      have hpos := List.length_pos_iff.2 hpe
      cases beg
      · have HW : Hid (wrsB (⟨k, pend, bits, false⟩ : WrD) = false) := by unfold Hid wrsB; simp [hpe]
        rw [HW.out]
        clear h1 h2 h3 hr hk hv f3 hpe
        simp only [kV, setV] at *
        go_enter Tryz.func41, Tryz.ntmps41
        go_wp2_with (first | (go_at_call 39; (with_reducible refine (cV _ (hrt _ (by (repeat (first | with_reducible exact Up.refl _ | with_reducible assumption | with_reducible refine Up.set ?_ (by first | exact Nat.le_refl _ | (simp only []; omega) | (simp; omega)) _ | with_reducible refine Up.alloc ?_ _ | with_reducible refine Up.drew ?_ | refine Up.trans ?_ (by with_reducible assumption)))))).mono ?_); rintro e w1 ⟨rfl, U1⟩; have B1 := bcell U1; have Z1 := U1.size; (try simp at Z1); (try rw [Nat.add_one_le_iff] at Z1)) | (go_at_call 42; (with_reducible refine (cF _).mono ?_); rintro e w2 ⟨rfl, U2⟩; have B2 := bcell U2; have Z2 := U2.size; (try simp at Z2); (try rw [Nat.add_one_le_iff] at Z2)) | (go_at_call 50; (with_reducible refine (cB _).mono ?_); rintro e w' ⟨rfl, rfl⟩) | fail)
        go_ret
        refine ⟨rfl, ?_⟩
        (repeat (first | with_reducible exact Up.refl _ | with_reducible assumption | with_reducible refine Up.set ?_ (by first | exact Nat.le_refl _ | (simp only []; omega) | (simp; omega)) _ | with_reducible refine Up.alloc ?_ _ | with_reducible refine Up.drew ?_ | refine Up.trans ?_ (by with_reducible assumption)))
      · have cC := fun wq hr => codeWI_any k (.slice a k.ps.length cap) lo (bs pend) wq hk hv hr (by omega) (by omega) (by rw [bs_data]; exact f3)
        rw [bs_data] at cC
        have HW : Hid (wrsB (⟨k, pend, bits, true⟩ : WrD) = decide (k.longest pend = pend)) := by unfold Hid wrsB; simp [hpe]
        rw [HW.out]
        generalize decide (k.longest pend = pend) = ok at *
        generalize (if k.longest pend = pend then k.find pend else 0) = cd at *
        clear h1 h2 h3 hr hk hv f3 hpe HW
        simp only [kV, setV] at *
        go_enter Tryz.func41, Tryz.ntmps41
        go_wp2_with (first | (go_at_call 39; (with_reducible refine (cV _ (hrt _ (by (repeat (first | with_reducible exact Up.refl _ | with_reducible assumption | with_reducible refine Up.set ?_ (by first | exact Nat.le_refl _ | (simp only []; omega) | (simp; omega)) _ | with_reducible refine Up.alloc ?_ _ | with_reducible refine Up.drew ?_ | refine Up.trans ?_ (by with_reducible assumption)))))).mono ?_); rintro e w1 ⟨rfl, U1⟩; have B1 := bcell U1; have Z1 := U1.size; (try simp at Z1); (try rw [Nat.add_one_le_iff] at Z1)) | (go_at_call 42; (with_reducible refine (cF _).mono ?_); rintro e w2 ⟨rfl, U2⟩; have B2 := bcell U2; have Z2 := U2.size; (try simp at Z2); (try rw [Nat.add_one_le_iff] at Z2)) | (go_at_call 50; (with_reducible refine (cB _).mono ?_); rintro e w' ⟨rfl, rfl⟩) | (go_at_call 94; (with_reducible refine (cC _ (hrt _ (by (repeat (first | with_reducible exact Up.refl _ | with_reducible assumption | with_reducible refine Up.set ?_ (by first | exact Nat.le_refl _ | (simp only []; omega) | (simp; omega)) _ | with_reducible refine Up.alloc ?_ _ | with_reducible refine Up.drew ?_ | refine Up.trans ?_ (by with_reducible assumption)))))).mono ?_); rintro e w4 ⟨rfl, U4⟩; have B4 := bcell U4; have Z4 := U4.size; (try simp at Z4); (try rw [Nat.add_one_le_iff] at Z4)) | fail)
        go_ret
        refine ⟨rfl, ?_⟩
        (repeat (first | with_reducible exact Up.refl _ | with_reducible assumption | with_reducible refine Up.set ?_ (by first | exact Nat.le_refl _ | (simp only []; omega) | (simp; omega)) _ | with_reducible refine Up.alloc ?_ _ | with_reducible refine Up.drew ?_ | refine Up.trans ?_ (by with_reducible assumption)))
end Go.Proofs.YtgbakgaegldomaaGreat

