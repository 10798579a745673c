/- Texts joined into one: the walks and laws that the last text leans on. Conditions: as each says. -/
import Derived.Test.YtgbakgaegldomaaGreatMFnWriterKnownLawXG
import Derived.Test.YtgbakgaegldomaaGreatMFnWriterKnownLawXE
import Derived.Test.YtgbakgaegldomaaGreatMFnWriterKnownLawY

set_option linter.unusedVariables false
set_option linter.unusedSimpArgs false
/- Walks of the program's appendBits onto a marked row and of the coder's write. Conditions: the coder lies in memory (CdEx), what is known is valid, the code can be written. -/
namespace Go.Proofs.YtgbakgaegldomaaGreat
open Go Go.RowKit
theorem grownBy_row {w w1 w2 : World} {row row2 : Option Nat} (h : w.grownBy w1 row) (h2 : w1.grownBy w2 row2) (hr : ∀ b, row2 = some b → row = some b ∨ w.heap.size ≤ b) : w.grownBy w2 row :=
  ⟨h2.os.trans h.os, h2.tape.trans h.tape, h2.output.trans h.output, Nat.le_trans h.size h2.size, fun b hb hne => (h2.block b (Nat.lt_of_lt_of_le hb h.size) (fun e => by
    rcases hr b e.symm with h3 | h3
    · exact hne h3.symm
    · omega)).trans (h.block b hb hne)⟩
def RelAM (o : Int) (n wd : Nat) (d : List UInt8) (B : Nat) (v0 : Value) (w : World) (v i : Value) (wr : World) : Prop := ∃ j : Nat, i = .int .i64 j ∧ j ≤ wd ∧ ownM wr B v (d ++ (codeL o n wd).take j) ∧ w.grownBy wr v0.ownBlock ∧ NewOr w.heap.size v0 v
def AbPost (B : Nat) (v : Value) (d : List UInt8) (w : World) (e : Ending) (w' : World) : Prop := ∃ v', e = .returned v' ∧ ownM w' B v' d ∧ w.grownBy w' v.ownBlock ∧ NewOr w.heap.size v v'
set_option maxRecDepth 100000 in
set_option maxHeartbeats 4000000 in
theorem bitsM_any (B : Nat) (o : Int) (n wd : Nat) (v : Value) (d : List UInt8) (w : World) (ho : o = 0 ∨ o = 1) (hn : n ≤ 1048576) (hw : wd ≤ 16) (hd : d.length ≤ 1000000) (hB : B ≤ w.heap.size) (hown : ownM w B v d) :
    Calls Tryz.prog 90  #[v, .int .i64 o, .int .i64 n, .int .i64 wd] w (AbPost B v (d ++ codeL o n wd) w) := by
  have hall : (codeL o n wd).take wd = codeL o n wd := List.take_of_length_le (by rw [codeL_length]; exact Nat.le_refl _)
  have HO := Lib.hid hown
  have HA := Lib.hid hall
  have ho1 := ho
  obtain ⟨gv, cv, hv⟩ := hown.shape
  have HV := Lib.hid hv
  obtain ⟨row, hrow⟩ : ∃ row, Hid (v.ownBlock = row) := ⟨_, rfl⟩
  unfold AbPost
  subst hv
  clear hown hall
  go_enter Tryz.func90, Tryz.ntmps90
  go_wp2
  go_loopw [0, 12] (fun v i wr => RelAM o n wd d B (.slice (some ⟨gv, 0, none⟩) d.length cv) w v i wr) (fun _ i _ => wd - (intOf i).toNat)
  case atStart => exact ⟨0, rfl, Nat.zero_le _, by rw [List.take_zero, List.append_nil]; exact HO.out, grownBy_refl _ _, fun b hb => .inl hb⟩
  case round =>
    clear HO
    obtain ⟨j, rfl, hj1, hown, hgr, hnew⟩ := hrel
    have hl : (d ++ (codeL o n wd).take j).length = d.length + j := by rw [List.length_append, List.length_take, codeL_length]; omega
    by_cases hlt : j < wd
    · have cP := fun w => placeI_any o j wd w ho1 hlt hw
      have hk := and_pow n (plc o j wd) hn (by have := plc_lt (o := o) hlt; omega)
      have hdig := Lib.hid (digit_if n (plc o j wd))
      have hT := Lib.hid (codeL_take ho1 (n := n) hlt)
      have hq0 : 0 < 2 ^ plc o j wd := Nat.two_pow_pos _
      generalize bitB n (plc o j wd) = bb at *
      have HUP := Lib.hid (And.intro hgr hnew)
      obtain ⟨ar, cr, rfl⟩ := hown.shape
      rw [hl] at hown
      have HW := Lib.hid hown
      by_cases hb : n / 2 ^ plc o j wd % 2 = 1
      · rw [if_pos hb] at hk hdig
        clear hb hown hgr hnew
        generalize 2 ^ plc o j wd = q at *
        go_wp2_with (first | (go_at_call 102; (with_reducible refine (cP _).mono ?_); rintro e w' ⟨rfl, rfl⟩) | (at_builtin; refine wpList_appendM rfl _ _ rfl B _ _ rfl (HW.out.up (Up.alloc (Up.refl _) _)) ⟨wr.heap.size, 0, none⟩ 1 bb rfl (by rw [← hdig.out]; exact box_cell (MapKept.heap_alloc _ _).1 0) rfl (by rw [hl]; omega) (by have := HUP.out.1.size; simp; omega) ?_; rintro v4 w4 hown4 hgr4 hnew4; have HG := Lib.hid (And.intro hown4 (And.intro hgr4 hnew4)); clear hown4 hgr4 hnew4))
        go_roundw
        case rel =>
          obtain ⟨g1, g2, g3⟩ := HG.out
          obtain ⟨u1, u2⟩ := HUP.out
          refine ⟨j + 1, by go_num, by omega, by rw [hT.out, ← List.append_assoc]; exact g1, grownBy_row (grownBy_up u1 ((Up.refl _).alloc _)) g2 u2, fun b hb => ?_⟩
          rcases g3 b hb with h1 | h1
          · exact u2 b h1
          · right; have := u1.size; simp at h1; omega
        case measure => simp [intOf]; omega
      · rw [if_neg hb] at hk hdig
        clear hb hown hgr hnew
        generalize 2 ^ plc o j wd = q at *
        go_wp2_with (first | (go_at_call 102; (with_reducible refine (cP _).mono ?_); rintro e w' ⟨rfl, rfl⟩) | (at_builtin; refine wpList_appendM rfl _ _ rfl B _ _ rfl (HW.out.up (Up.alloc (Up.refl _) _)) ⟨wr.heap.size, 0, none⟩ 1 bb rfl (by rw [← hdig.out]; exact box_cell (MapKept.heap_alloc _ _).1 0) rfl (by rw [hl]; omega) (by have := HUP.out.1.size; simp; omega) ?_; rintro v4 w4 hown4 hgr4 hnew4; have HG := Lib.hid (And.intro hown4 (And.intro hgr4 hnew4)); clear hown4 hgr4 hnew4))
        go_roundw
        case rel =>
          obtain ⟨g1, g2, g3⟩ := HG.out
          obtain ⟨u1, u2⟩ := HUP.out
          refine ⟨j + 1, by go_num, by omega, by rw [hT.out, ← List.append_assoc]; exact g1, grownBy_row (grownBy_up u1 ((Up.refl _).alloc _)) g2 u2, fun b hb => ?_⟩
          rcases g3 b hb with h1 | h1
          · exact u2 b h1
          · right; have := u1.size; simp at h1; omega
        case measure => simp [intOf]; omega
    · have e : j = wd := by omega
      subst e
      rw [HA.out] at hown
      have HW := Lib.hid (And.intro hown (And.intro hgr hnew))
      obtain ⟨ar, cr, rfl⟩ := hown.shape
      clear hown hgr hnew
      go_wp2
      go_ret
      exact ⟨_, rfl, HW.out.1, HW.out.2.1, HW.out.2.2⟩
theorem gOut_ab {f : FuncId} {args : Array Value} {w w0 : World} {B : Nat} {v : Value} {d : List UInt8} (h : Calls Tryz.prog f args w (AbPost B v d w)) (hw : w0.heap.size ≤ w.heap.size) : gOut Tryz.prog (fun w w' => w.grownBy w' v.ownBlock) (fun u w' => ownM w' B u d ∧ NewOr w0.heap.size v u) w (.ok (.enter f args) w) :=
  ⟨rfl, h.mono fun e w'' ⟨vv, he, ho, hg, hn⟩ => ⟨_, he, hg, ho, fun b hb => (hn b hb).imp id (fun h => Nat.le_trans hw h)⟩⟩
theorem ownM_ne {w : World} {b : Nat} {cs : Array Value} {T : TypeId} (hb : w.heap[b]? = some (.cells cs T)) {base : Nat} {v : Value} {d : List UInt8} (h : ownM w base v d) (hne : T ≠ 5) : some b ≠ v.ownBlock := by
  obtain ⟨g, cap, cur, fz, rfl, h1, h2, -⟩ := h
  intro e
  simp only [Value.ownBlock, Option.some.injEq] at e
  subst e
  rw [h2] at hb
  simp only [Option.some.injEq, Obj.cells.injEq] at hb
  exact hne hb.2.1.symm
theorem ownM_row {w : World} {e : TypeId} {base1 size n : Nat} {v1 : Value} {xs : List Value} (hr : w.ownsRow base1 e size v1 n xs) {base : Nat} {v : Value} {d : List UInt8} (h : ownM w base v d) (hne : e ≠ 5) : v1.ownBlock = none ∨ v1.ownBlock ≠ v.ownBlock := by
  rcases hr.2 with ⟨rfl, _⟩ | ⟨g, cap, cur, rfl, hb, hg, _⟩
  · exact .inl rfl
  · exact .inr (ownM_ne hg h hne)
theorem ownM.setb {w : World} {b : Nat} {base : Nat} {v : Value} {d : List UInt8} (h : ownM w base v d) (hne : some b ≠ v.ownBlock) (i : Nat) (u : Value) : ownM (w.setCell ⟨b, i, none⟩ u) base v d := by
  obtain ⟨g, cap, cur, fz, rfl, h1, h2, h3⟩ := h
  have hgb : g ≠ b := fun e => hne (by simp [Value.ownBlock, e])
  exact ⟨g, cap, cur, fz, rfl, h1, (Below.heap_setCell _ _ _ _ hgb).trans h2, h3⟩
structure CdAt (B cb tb : Nat) (k : KnD) (vp vn vi vb : Value) (bits : List UInt8) (w : World) : Prop where
  tree : TreeAt B tb k vp vn vi w
  box : w.heap[cb]? = some (.cells #[.pointer (some ⟨tb, 0, none⟩), vb] 88)
  low : B ≤ cb
  own : ownM w B vb bits
theorem CdAt.up {B cb tb : Nat} {k : KnD} {vp vn vi vb : Value} {bits : List UInt8} {w w' : World} (h : CdAt B cb tb k vp vn vi vb bits w) (hu : Up w w') : CdAt B cb tb k vp vn vi vb bits w' := ⟨h.tree.up hu, box_up hu h.box, h.low, h.own.up hu⟩
theorem CdAt.lt {B cb tb : Nat} {k : KnD} {vp vn vi vb : Value} {bits : List UInt8} {w : World} (h : CdAt B cb tb k vp vn vi vb bits w) : cb < w.heap.size := (Array.getElem?_eq_some_iff.1 h.box).1
theorem CdAt.gr {B cb tb : Nat} {k : KnD} {vp vn vi vb : Value} {bits : List UInt8} {w w' : World} (h : CdAt B cb tb k vp vn vi vb bits w) (hg : w.grownBy w' vb.ownBlock) : TreeAt B tb k vp vn vi w' ∧ w'.heap[cb]? = some (.cells #[.pointer (some ⟨tb, 0, none⟩), vb] 88) :=
  ⟨⟨gbox hg h.tree.box (ownM_ne h.tree.box h.own (by decide)), h.tree.low, h.tree.prs.kept hg (ownM_row h.tree.prs h.own (by decide)), h.tree.nod.kept hg (ownM_row h.tree.nod h.own (by decide)), h.tree.idx.kept hg (ownM_row h.tree.idx h.own (by decide))⟩, gbox hg h.box (ownM_ne h.box h.own (by decide))⟩
theorem TreeAt.setb {B tb : Nat} {k : KnD} {vp vn vi : Value} {w : World} (h : TreeAt B tb k vp vn vi w) {b : Nat} {cs : Array Value} {T : TypeId} (hb : w.heap[b]? = some (.cells cs T)) (h1 : T ≠ 93) (h2 : T ≠ 118) (h3 : T ≠ 137) (h4 : T ≠ 3) (i : Nat) (u : Value) : TreeAt B tb k vp vn vi (w.setCell ⟨b, i, none⟩ u) := by
  have hn : b ≠ tb := fun e => by
    subst e
    have := h.box
    unfold TrBox at this
    rw [hb] at this
    cases this
    exact h1 rfl
  exact ⟨(Below.heap_setCell _ _ _ _ (Ne.symm hn)).trans h.box, h.low, ownsRow_setb h.prs (box_ne hb h.prs h2) i u, ownsRow_setb h.nod (box_ne hb h.nod h3) i u, ownsRow_setb h.idx (box_ne hb h.idx h4) i u⟩
theorem CdAt.put {B cb tb : Nat} {k : KnD} {vp vn vi vb vb' : Value} {bits bits' : List UInt8} {w w' : World} (h : CdAt B cb tb k vp vn vi vb bits w) (hg : w.grownBy w' vb.ownBlock) (ho : ownM w' B vb' bits') : CdAt B cb tb k vp vn vi vb' bits' (w'.setCell ⟨cb, 1, none⟩ vb') := by
  obtain ⟨h1, h2⟩ := h.gr hg
  exact ⟨h1.setb h2 (by decide) (by decide) (by decide) (by decide) 1 vb', box_set h2 1 vb', h.low, ho.setb (ownM_ne h2 ho (by decide)) 1 vb'⟩
def CdEx (a0 : World) (cb : Nat) (k : KnD) (bits : List UInt8) (w : World) : Prop := Up a0 w ∧ ∃ tb vp vn vi vb, CdAt a0.heap.size cb tb k vp vn vi vb bits w
theorem CdEx.up {a0 : World} {cb : Nat} {k : KnD} {bits : List UInt8} {w w' : World} (h : CdEx a0 cb k bits w) (hu : Up w w') : CdEx a0 cb k bits w' := by
  obtain ⟨h1, tb, vp, vn, vi, vb, h2⟩ := h
  exact ⟨h1.trans hu, tb, vp, vn, vi, vb, h2.up hu⟩
theorem CdAt.tr {a0 : World} {cb tb : Nat} {k k' : KnD} {vp vn vi vb : Value} {bits : List UInt8} {w w' : World} (h : CdAt a0.heap.size cb tb k vp vn vi vb bits w) (hu : Up a0 w) (hp : TrPost a0.heap.size tb k' vp vn vi w w') : CdEx a0 cb k' bits w' := by
  obtain ⟨vp', vn', vi', hT, hF, hO⟩ := hp
  have hcb := h.tree.not_own h.box (by decide) (by decide) (by decide) (by decide)
  refine ⟨Fr.upto hu hF (fun b hb => (h.tree.own_lo b hb).1), tb, vp', vn', vi', vb, hT, hF.box h.box hcb, h.low, h.own.fr hF (fun b hb ho => ?_)⟩
  have hM := h.own
  rcases ho with rfl | e | e | e
  · exact ownM_ne h.tree.box hM (by decide) hb.symm
  · exact (ownM_row h.tree.prs hM (by decide)).elim (fun h => by rw [h] at e; cases e) (fun h => h (e.trans hb.symm))
  · exact (ownM_row h.tree.nod hM (by decide)).elim (fun h => by rw [h] at e; cases e) (fun h => h (e.trans hb.symm))
  · exact (ownM_row h.tree.idx hM (by decide)).elim (fun h => by rw [h] at e; cases e) (fun h => h (e.trans hb.symm))
end Go.Proofs.YtgbakgaegldomaaGreat

/- Walks of the program's coder: write, coderOf. Conditions: the coder lies in memory (CdEx), what is known is valid, the code can be written. -/
namespace Go.Proofs.YtgbakgaegldomaaGreat
open Go Go.RowKit
def KnD.puts (k : KnD) (x : Int) : Prop := x = (k.c : Int) + 1 ∨ x = (k.c : Int) ∨ (x ≠ (k.c : Int) ∧ x ≠ (k.c : Int) + 1 ∧ k.follows x = true)
set_option maxRecDepth 100000 in
set_option maxHeartbeats 8000000 in
theorem write_any (a0 : World) (cb : Nat) (k : KnD) (bits : List UInt8) (n : Nat) (w : World) (h : CdEx a0 cb k bits w) (hk : k.Ok) (hn : n ≤ 1048576) (hl : bits.length ≤ 900000) (hf : k.puts n) :
    Calls Tryz.prog 45  #[.pointer (some ⟨cb, 0, none⟩), .int .i64 n] w (fun e w' => (∃ v, e = .returned v) ∧ CdEx a0 cb (k.thru n) (bits ++ codeL k.set.ord n k.width) w') := by
  obtain ⟨hu0, tb, vp, vn, vi, vb, hC⟩ := h
  have cE := fun w => endI_any k.set w hk.set
  have cW := fun wq hr => widthI_any k vp a0.heap.size wq hk hr
  have hwd := KnD.width_bd hk
  have ho := (setOk_bd hk.set).1
  have hkt := hk.tr
  have hcb := hC.lt
  have htb := hC.tree.lt
  obtain ⟨c0, c1, c2, c3, c4, c5, c6, c7⟩ := hC.tree.cells
  have d0 := box_cell hC.box 0
  have d1 := box_cell hC.box 1
  simp at d0 d1
  have hfc := box_free hC.box
  have hbn := ownM_ne hC.tree.box hC.own (by decide)
  have hcn := ownM_ne hC.box hC.own (by decide)
  have cB := fun wq hB hown => bitsM_any a0.heap.size k.set.ord n k.width vb bits wq ho hn (by omega) (by omega) hB hown
  obtain ⟨gv, cv, hv⟩ := hC.own.shape
  obtain ⟨ap, cp, hvp⟩ := hC.tree.shape
  have ec : k.c = clr k.set := rfl
  have HC := Lib.hid hC
  have HU0 := Lib.hid hu0
  have HK := Lib.hid hk
  have HF := Lib.hid hf
  subst hv hvp
  clear hC hu0 hk hf
  simp only [kV] at *
  go_enter Tryz.func45, Tryz.ntmps45
  go_wp2
  have hC1 := HC.out.up ((Up.refl w).alloc (.cells #[.int .i64 k.set.ord, .int .i64 k.set.lit, .int .i64 k.set.most] 24))
  have hS1 : SetAt w.heap.size k.set.ord k.set.lit k.set.most (w.alloc (.cells #[.int .i64 k.set.ord, .int .i64 k.set.lit, .int .i64 k.set.most] 24)) := (MapKept.heap_alloc w _).1
  have hU1 : Up a0 (w.alloc (.cells #[.int .i64 k.set.ord, .int .i64 k.set.lit, .int .i64 k.set.most] 24)) := HU0.out.alloc _
  have hw1 : w.heap.size ≤ (w.alloc (.cells #[.int .i64 k.set.ord, .int .i64 k.set.lit, .int .i64 k.set.most] 24)).heap.size := by simp
  generalize (w.alloc (.cells #[.int .i64 k.set.ord, .int .i64 k.set.lit, .int .i64 k.set.most] 24)) = W1 at *
  have hsn := ownM_ne hS1 hC1.own (by decide)
  have HS1 := Lib.hid hS1
  have HC1 := Lib.hid hC1
  have HU1 := Lib.hid hU1
  have hB1 : a0.heap.size ≤ W1.heap.size := hU1.size
  generalize hsb : w.heap.size = sb at *
  clear hC1 hS1 hU1 c0 c1 c2 c3 c4 c5 c6 c7 d0 d1 hfc HC HU0
  refine wp_region_ownf 19 16 (Value.ownBlock (.slice (some ⟨gv, 0, none⟩) bits.length cv)) (by kernel_rfl) (by kernel_rfl) ?_
  simp only [List.take, List.drop]
  repeat (refine wpG_step (fun K hK => ?_); go_simp; (try simp only [↓IntWalk.iteOmega]); first
    | (refine hK _ _ ?_; clear hK K)
    | (refine stepG_own (by rfl) (by kernel_rfl) ((fun u w' => ownM w' a0.heap.size u (bits ++ codeL k.set.ord n k.width) ∧ NewOr W1.heap.size (.slice (some ⟨gv, 0, none⟩) bits.length cv) u)) ((fun v w w' h hu => ⟨h.1.up hu, h.2⟩)) (fun wq hwq => ?_) ?_
       · ((repeat (first | refine fills_no (by rfl) ?_ | refine fills_yes (by rfl) (fun vq hvq => ?_))); simp only [List.filter_nil, fills]; (unfold gAt; go_simp; (with_reducible refine gOut_ab (v := .slice (some ⟨gv, 0, none⟩) bits.length cv) ?_ hwq.size); go_at_call 90; exact cB _ (Nat.le_trans hB1 hwq.size) (HC1.out.own.up hwq)))
       refine hK _ _ ?_; clear hK K)
    | (refine stepG_c (by rfl) ?_ ?_ ?_
       rotate_left
       · intro wq hwq; (have hbq := gcell hwq; (repeat (first | refine fills_no (by rfl) ?_ | refine fills_yes (by rfl) (fun vq hvq => ?_))); simp only [List.filter_nil, fills]; unfold upAt; (try ((obtain ⟨c0, c1, c2, c3, c4, c5, c6, c7⟩ := (HC1.out.gr hwq).1.cells; have d0 := box_cell (HC1.out.gr hwq).2 0; have d1 := box_cell (HC1.out.gr hwq).2 1; simp at d0 d1; obtain ⟨s9, s0, s1, s2⟩ := SetAt.cells (gbox hwq HS1.out hsn)))); go_simp; (try go_bits); (try simp only [↓IntWalk.iteOmega]); (try (rw [dif_pos (by omega)]; go_simp; try go_bits)); first | exact upOut_value | (apply upOut_call; (go_at_call 100; exact cW _ (RdP.of_own (HC1.out.gr hwq).1.prs))) | (apply upOut_eq; (go_at_call 100; exact cW _ (RdP.of_own (HC1.out.gr hwq).1.prs))))
       go_simp; refine hK _ _ ?_; clear hK K))
  refine wpG_nil (by rfl) (fun wq hwq => ?_)
  simp only [fills]
  rintro v2 ⟨hM, hN⟩
  have hg := hwq
  generalize wq = w2 at *
  obtain ⟨g2, cv2, rfl⟩ := hM.shape
  have hlnb : (bits ++ codeL k.set.ord n k.width).length ≤ 1000000 := by rw [List.length_append, codeL_length]; omega
  generalize hbb : bits ++ codeL k.set.ord n k.width = bb at *
  generalize hln : bb.length = ln at *
  have hput := HC1.out.put hg hM
  have hS2 : SetAt sb k.set.ord k.set.lit k.set.most (w2.setCell ⟨cb, 1, none⟩ (.slice (some ⟨g2, 0, none⟩) ln cv2)) := box_oth (gbox hg HS1.out hsn) (p := ⟨cb, 1, none⟩) (by show sb ≠ cb; omega) _
  have hU2 : Up a0 (w2.setCell ⟨cb, 1, none⟩ (.slice (some ⟨g2, 0, none⟩) ln cv2)) := Up.set (HU1.out.grown hg (fun b hb => (HC1.out.own.lt b hb).1)) HC1.out.low _
  have d1 := box_cell (HC1.out.gr hg).2 1
  have d0 := box_cell (HC1.out.gr hg).2 0
  simp at d0 d1
  have hfc := box_free (HC1.out.gr hg).2
  have hcb2 : cb < w2.heap.size := Nat.lt_of_lt_of_le (HC1.out.lt) hg.size
  have HP := Lib.hid (And.intro hput (And.intro hS2 hU2))
  obtain ⟨s9, s0, s1, s2⟩ := SetAt.cells (gbox hg HS1.out hsn)
  have HBB := Lib.hid hbb
  clear hbb
  clear hput hS2 hU2 hM hg hwq hN HC1 HS1 HU1 hln hlnb
  go_wp2
  rw [onlyN_normal]
  rcases HF.out with hx | hx | ⟨hx1, hx2, hx3⟩
  · have hth : Hid (k.thru n = k) := by unfold Hid KnD.thru; rw [if_pos hx]
    have hxe : ((n : Int) != ((clr k.set : Nat) : Int) + 1) = false := by rw [← ec]; simpa using hx
    clear hx HF
    go_wp2_with (first | ((go_at_call 76; (with_reducible refine (cE _).mono ?_); rintro e w3 ⟨rfl, U3⟩; have B3 := bcell U3; have Z3 := U3.size; (try simp at Z3); (try rw [Nat.add_one_le_iff] at Z3))) | fail)
    go_end0
    exact ⟨⟨_, rfl⟩, by rw [hth.out, HBB.out]; exact ⟨HP.out.2.2.trans U3, _, _, _, _, _, HP.out.1.up U3⟩⟩
  · have hth : Hid (k.thru n = k.cleared) := by unfold Hid; rw [hx]; exact thru_clear k
    have hxe : ((n : Int) != ((clr k.set : Nat) : Int) + 1) = true := by rw [← ec, hx]; simp; omega
    have hxn : n = clr k.set := by rw [ec] at hx; omega
    subst hxn
    have cF := fun wq hT => followC_any a0.heap.size tb k (.slice ap k.ps.length cp) vn vi wq hT hkt HK.out.base0 HK.out.base1
    rw [show k.c = clr k.set from rfl] at cF
    clear hx HF
    go_wp2_with (first | ((go_at_call 76; (with_reducible refine (cE _).mono ?_); rintro e w3 ⟨rfl, U3⟩; have B3 := bcell U3; have Z3 := U3.size; (try simp at Z3); (try rw [Nat.add_one_le_iff] at Z3))) | fail)
    with_reducible refine (cF _ (HP.out.1.up U3).tree).mono ?_
    rintro e w4 ⟨⟨v4, rfl⟩, hP4⟩
    have HQ := Lib.hid ((HP.out.1.up U3).tr (HP.out.2.2.trans U3) hP4)
    clear hP4
    go_wp2
    go_end0
    exact ⟨⟨_, rfl⟩, by rw [hth.out, HBB.out]; exact HQ.out⟩
  · have hth : Hid (k.thru n = k.after n) := KnD.thru_fol HK.out hx3
    have hxe : ((n : Int) != ((clr k.set : Nat) : Int) + 1) = true := by rw [← ec]; simpa using hx2
    have cF := fun wq hT => followW_any a0.heap.size tb k (.slice ap k.ps.length cp) vn vi n wq hT HK.out hx1 hx3
    clear hx1 hx2 hx3 HF
    go_wp2_with (first | ((go_at_call 76; (with_reducible refine (cE _).mono ?_); rintro e w3 ⟨rfl, U3⟩; have B3 := bcell U3; have Z3 := U3.size; (try simp at Z3); (try rw [Nat.add_one_le_iff] at Z3))) | fail)
    with_reducible refine (cF _ (HP.out.1.up U3).tree).mono ?_
    rintro e w4 ⟨⟨v4, rfl⟩, hP4⟩
    have HQ := Lib.hid ((HP.out.1.up U3).tr (HP.out.2.2.trans U3) hP4)
    clear hP4
    go_wp2
    go_end0
    exact ⟨⟨_, rfl⟩, by rw [hth.out, HBB.out]; exact HQ.out⟩
end Go.Proofs.YtgbakgaegldomaaGreat

