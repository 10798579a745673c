/- Texts joined into one: the walks and laws that the last text leans on. Conditions: as each says. -/
import Derived.Test.YtgbakgaegldomaaGreatMFnWriteAllLawH
import Derived.Test.YtgbakgaegldomaaGreatOm
import Derived.Test.YtgbakgaegldomaaGreatTree10
import Derived.Test.YtgbakgaegldomaaGreatFo
import Derived.Test.YtgbakgaegldomaaGreatKvG
import Derived.Test.YtgbakgaegldomaaGreatLearn
import Derived.Test.YtgbakgaegldomaaGreatStep
import Derived.Test.YtgbakgaegldomaaGreatPack
import Derived.Test.YtgbakgaegldomaaGreatMFnWriteAllLawD

/- Walks of the program's appendBits onto a marked row and of the coder's write. Conditions: the coder lies in memory (CdEx), what is known is valid, the code can be written. -/
namespace Go.Proofs.YtgbakgaegldomaaGreat
set_option linter.unusedVariables false
set_option linter.unusedSimpArgs false
open Go Go.RowKit

theorem grownBy_row {w w1 w2 : World} {row row2 : Option Nat} (h : w.grownBy w1 row) (h2 : w1.grownBy w2 row2) (hr : ∀ b, row2 = some b → row = some b ∨ w.heap.size ≤ b) : w.grownBy w2 row :=
  ⟨h2.os.trans h.os, h2.tape.trans h.tape, h2.output.trans h.output, Nat.le_trans h.size h2.size, fun b hb hne => (h2.block b (Nat.lt_of_lt_of_le hb h.size) (fun e => by
    rcases hr b e.symm with h3 | h3
    · exact hne h3.symm
    · omega)).trans (h.block b hb hne)⟩
def RelAM (o : Int) (n wd : Nat) (d : List UInt8) (B : Nat) (v0 : Value) (w : World) (v i : Value) (wr : World) : Prop := ∃ j : Nat, i = .int .i64 j ∧ j ≤ wd ∧ ownM wr B v (d ++ (codeL o n wd).take j) ∧ w.grownBy wr v0.ownBlock ∧ NewOr w.heap.size v0 v
/-- What appendBits leaves of a marked row. -/
def AbPost (B : Nat) (v : Value) (d : List UInt8) (w : World) (e : Ending) (w' : World) : Prop := ∃ v', e = .returned v' ∧ ownM w' B v' d ∧ w.grownBy w' v.ownBlock ∧ NewOr w.heap.size v v'

set_option maxRecDepth 100000 in
set_option maxHeartbeats 4000000 in
theorem bitsM_any (B : Nat) (o : Int) (n wd : Nat) (v : Value) (d : List UInt8) (w : World) (ho : o = 0 ∨ o = 1) (hn : n ≤ 1048576) (hw : wd ≤ 16) (hd : d.length ≤ 1000000) (hB : B ≤ w.heap.size) (hown : ownM w B v d) :
    Calls Tryz.prog 90  #[v, .int .i64 o, .int .i64 n, .int .i64 wd] w (AbPost B v (d ++ codeL o n wd) w) := by
  have hall : (codeL o n wd).take wd = codeL o n wd := List.take_of_length_le (by rw [codeL_length]; exact Nat.le_refl _)
  have HO := Lib.hid hown
  have HA := Lib.hid hall
  have ho1 := ho
  obtain ⟨gv, cv, hv⟩ := hown.shape
  have HV := Lib.hid hv
  obtain ⟨row, hrow⟩ : ∃ row, Hid (v.ownBlock = row) := ⟨_, rfl⟩
  unfold AbPost
  subst hv
  clear hown hall
  go_enter Tryz.func90, Tryz.ntmps90
  go_wp2
  go_loopw [0, 12] (fun v i wr => RelAM o n wd d B (.slice (some ⟨gv, 0, none⟩) d.length cv) w v i wr) (fun _ i _ => wd - (intOf i).toNat)
  case atStart => exact ⟨0, rfl, Nat.zero_le _, by rw [List.take_zero, List.append_nil]; exact HO.out, grownBy_refl _ _, fun b hb => .inl hb⟩
  case round =>
    clear HO
    obtain ⟨j, rfl, hj1, hown, hgr, hnew⟩ := hrel
    have hl : (d ++ (codeL o n wd).take j).length = d.length + j := by rw [List.length_append, List.length_take, codeL_length]; omega
    by_cases hlt : j < wd
    · have cP := fun w => placeI_any o j wd w ho1 hlt hw
      have hk := and_pow n (plc o j wd) hn (by have := plc_lt (o := o) hlt; omega)
      have hdig := Lib.hid (digit_if n (plc o j wd))
      have hT := Lib.hid (codeL_take ho1 (n := n) hlt)
      have hq0 : 0 < 2 ^ plc o j wd := Nat.two_pow_pos _
      generalize bitB n (plc o j wd) = bb at *
      have HUP := Lib.hid (And.intro hgr hnew)
      obtain ⟨ar, cr, rfl⟩ := hown.shape
      rw [hl] at hown
      have HW := Lib.hid hown
      by_cases hb : n / 2 ^ plc o j wd % 2 = 1
      · rw [if_pos hb] at hk hdig
        clear hb hown hgr hnew
        generalize 2 ^ plc o j wd = q at *
        go_wp2_with (first | (go_at_call 102; (with_reducible refine (cP _).mono ?_); rintro e w' ⟨rfl, rfl⟩) | (at_builtin; refine wpList_appendM rfl _ _ rfl B _ _ rfl (HW.out.up (Up.alloc (Up.refl _) _)) ⟨wr.heap.size, 0, none⟩ 1 bb rfl (by rw [← hdig.out]; exact box_cell (MapKept.heap_alloc _ _).1 0) rfl (by rw [hl]; omega) (by have := HUP.out.1.size; simp; omega) ?_; rintro v4 w4 hown4 hgr4 hnew4; have HG := Lib.hid (And.intro hown4 (And.intro hgr4 hnew4)); clear hown4 hgr4 hnew4))
        go_roundw
        case rel =>
          obtain ⟨g1, g2, g3⟩ := HG.out
          obtain ⟨u1, u2⟩ := HUP.out
          refine ⟨j + 1, by go_num, by omega, by rw [hT.out, ← List.append_assoc]; exact g1, grownBy_row (grownBy_up u1 ((Up.refl _).alloc _)) g2 u2, fun b hb => ?_⟩
          rcases g3 b hb with h1 | h1
          · exact u2 b h1
          · right; have := u1.size; simp at h1; omega
        case measure => simp [intOf]; omega
      · rw [if_neg hb] at hk hdig
        clear hb hown hgr hnew
        generalize 2 ^ plc o j wd = q at *
        go_wp2_with (first | (go_at_call 102; (with_reducible refine (cP _).mono ?_); rintro e w' ⟨rfl, rfl⟩) | (at_builtin; refine wpList_appendM rfl _ _ rfl B _ _ rfl (HW.out.up (Up.alloc (Up.refl _) _)) ⟨wr.heap.size, 0, none⟩ 1 bb rfl (by rw [← hdig.out]; exact box_cell (MapKept.heap_alloc _ _).1 0) rfl (by rw [hl]; omega) (by have := HUP.out.1.size; simp; omega) ?_; rintro v4 w4 hown4 hgr4 hnew4; have HG := Lib.hid (And.intro hown4 (And.intro hgr4 hnew4)); clear hown4 hgr4 hnew4))
        go_roundw
        case rel =>
          obtain ⟨g1, g2, g3⟩ := HG.out
          obtain ⟨u1, u2⟩ := HUP.out
          refine ⟨j + 1, by go_num, by omega, by rw [hT.out, ← List.append_assoc]; exact g1, grownBy_row (grownBy_up u1 ((Up.refl _).alloc _)) g2 u2, fun b hb => ?_⟩
          rcases g3 b hb with h1 | h1
          · exact u2 b h1
          · right; have := u1.size; simp at h1; omega
        case measure => simp [intOf]; omega
    · have e : j = wd := by omega
      subst e
      rw [HA.out] at hown
      have HW := Lib.hid (And.intro hown (And.intro hgr hnew))
      obtain ⟨ar, cr, rfl⟩ := hown.shape
      clear hown hgr hnew
      go_wp2
      go_ret
      exact ⟨_, rfl, HW.out.1, HW.out.2.1, HW.out.2.2⟩

theorem gOut_ab {f : FuncId} {args : Array Value} {w w0 : World} {B : Nat} {v : Value} {d : List UInt8} (h : Calls Tryz.prog f args w (AbPost B v d w)) (hw : w0.heap.size ≤ w.heap.size) : gOut Tryz.prog (fun w w' => w.grownBy w' v.ownBlock) (fun u w' => ownM w' B u d ∧ NewOr w0.heap.size v u) w (.ok (.enter f args) w) :=
  ⟨rfl, h.mono fun e w'' ⟨vv, he, ho, hg, hn⟩ => ⟨_, he, hg, ho, fun b hb => (hn b hb).imp id (fun h => Nat.le_trans hw h)⟩⟩
theorem ownM_ne {w : World} {b : Nat} {cs : Array Value} {T : TypeId} (hb : w.heap[b]? = some (.cells cs T)) {base : Nat} {v : Value} {d : List UInt8} (h : ownM w base v d) (hne : T ≠ 5) : some b ≠ v.ownBlock := by
  obtain ⟨g, cap, cur, fz, rfl, h1, h2, -⟩ := h
  intro e
  simp only [Value.ownBlock, Option.some.injEq] at e
  subst e
  rw [h2] at hb
  simp only [Option.some.injEq, Obj.cells.injEq] at hb
  exact hne hb.2.1.symm
theorem ownM_row {w : World} {e : TypeId} {base1 size n : Nat} {v1 : Value} {xs : List Value} (hr : w.ownsRow base1 e size v1 n xs) {base : Nat} {v : Value} {d : List UInt8} (h : ownM w base v d) (hne : e ≠ 5) : v1.ownBlock = none ∨ v1.ownBlock ≠ v.ownBlock := by
  rcases hr.2 with ⟨rfl, _⟩ | ⟨g, cap, cur, rfl, hb, hg, _⟩
  · exact .inl rfl
  · exact .inr (ownM_ne hg h hne)
theorem ownM.setb {w : World} {b : Nat} {base : Nat} {v : Value} {d : List UInt8} (h : ownM w base v d) (hne : some b ≠ v.ownBlock) (i : Nat) (u : Value) : ownM (w.setCell ⟨b, i, none⟩ u) base v d := by
  obtain ⟨g, cap, cur, fz, rfl, h1, h2, h3⟩ := h
  have hgb : g ≠ b := fun e => hne (by simp [Value.ownBlock, e])
  exact ⟨g, cap, cur, fz, rfl, h1, (Below.heap_setCell _ _ _ _ hgb).trans h2, h3⟩

/-- The coder lies in block cb, its tree in tb. -/
structure CdAt (B cb tb : Nat) (k : KnD) (vp vn vi vb : Value) (bits : List UInt8) (w : World) : Prop where
  tree : TreeAt B tb k vp vn vi w
  box : w.heap[cb]? = some (.cells #[.pointer (some ⟨tb, 0, none⟩), vb] 88)
  low : B ≤ cb
  own : ownM w B vb bits
theorem CdAt.up {B cb tb : Nat} {k : KnD} {vp vn vi vb : Value} {bits : List UInt8} {w w' : World} (h : CdAt B cb tb k vp vn vi vb bits w) (hu : Up w w') : CdAt B cb tb k vp vn vi vb bits w' := ⟨h.tree.up hu, box_up hu h.box, h.low, h.own.up hu⟩
theorem CdAt.lt {B cb tb : Nat} {k : KnD} {vp vn vi vb : Value} {bits : List UInt8} {w : World} (h : CdAt B cb tb k vp vn vi vb bits w) : cb < w.heap.size := (Array.getElem?_eq_some_iff.1 h.box).1
/-- The tree and the coder's box, behind an append onto the bits. -/
theorem CdAt.gr {B cb tb : Nat} {k : KnD} {vp vn vi vb : Value} {bits : List UInt8} {w w' : World} (h : CdAt B cb tb k vp vn vi vb bits w) (hg : w.grownBy w' vb.ownBlock) : TreeAt B tb k vp vn vi w' ∧ w'.heap[cb]? = some (.cells #[.pointer (some ⟨tb, 0, none⟩), vb] 88) :=
  ⟨⟨gbox hg h.tree.box (ownM_ne h.tree.box h.own (by decide)), h.tree.low, h.tree.prs.kept hg (ownM_row h.tree.prs h.own (by decide)), h.tree.nod.kept hg (ownM_row h.tree.nod h.own (by decide)), h.tree.idx.kept hg (ownM_row h.tree.idx h.own (by decide))⟩, gbox hg h.box (ownM_ne h.box h.own (by decide))⟩
theorem TreeAt.setb {B tb : Nat} {k : KnD} {vp vn vi : Value} {w : World} (h : TreeAt B tb k vp vn vi w) {b : Nat} {cs : Array Value} {T : TypeId} (hb : w.heap[b]? = some (.cells cs T)) (h1 : T ≠ 93) (h2 : T ≠ 118) (h3 : T ≠ 137) (h4 : T ≠ 3) (i : Nat) (u : Value) : TreeAt B tb k vp vn vi (w.setCell ⟨b, i, none⟩ u) := by
  have hn : b ≠ tb := fun e => by
    subst e
    have := h.box
    unfold TrBox at this
    rw [hb] at this
    cases this
    exact h1 rfl
  exact ⟨(Below.heap_setCell _ _ _ _ (Ne.symm hn)).trans h.box, h.low, ownsRow_setb h.prs (box_ne hb h.prs h2) i u, ownsRow_setb h.nod (box_ne hb h.nod h3) i u, ownsRow_setb h.idx (box_ne hb h.idx h4) i u⟩
/-- The coder's bits are stored. -/
theorem CdAt.put {B cb tb : Nat} {k : KnD} {vp vn vi vb vb' : Value} {bits bits' : List UInt8} {w w' : World} (h : CdAt B cb tb k vp vn vi vb bits w) (hg : w.grownBy w' vb.ownBlock) (ho : ownM w' B vb' bits') : CdAt B cb tb k vp vn vi vb' bits' (w'.setCell ⟨cb, 1, none⟩ vb') := by
  obtain ⟨h1, h2⟩ := h.gr hg
  exact ⟨h1.setb h2 (by decide) (by decide) (by decide) (by decide) 1 vb', box_set h2 1 vb', h.low, ho.setb (ownM_ne h2 ho (by decide)) 1 vb'⟩
/-- A coder of the call's own. -/
def CdEx (a0 : World) (cb : Nat) (k : KnD) (bits : List UInt8) (w : World) : Prop := Up a0 w ∧ ∃ tb vp vn vi vb, CdAt a0.heap.size cb tb k vp vn vi vb bits w
theorem CdEx.up {a0 : World} {cb : Nat} {k : KnD} {bits : List UInt8} {w w' : World} (h : CdEx a0 cb k bits w) (hu : Up w w') : CdEx a0 cb k bits w' := by
  obtain ⟨h1, tb, vp, vn, vi, vb, h2⟩ := h
  exact ⟨h1.trans hu, tb, vp, vn, vi, vb, h2.up hu⟩
/-- The tree has gone on. -/
theorem CdAt.tr {a0 : World} {cb tb : Nat} {k k' : KnD} {vp vn vi vb : Value} {bits : List UInt8} {w w' : World} (h : CdAt a0.heap.size cb tb k vp vn vi vb bits w) (hu : Up a0 w) (hp : TrPost a0.heap.size tb k' vp vn vi w w') : CdEx a0 cb k' bits w' := by
  obtain ⟨vp', vn', vi', hT, hF, hO⟩ := hp
  have hcb := h.tree.not_own h.box (by decide) (by decide) (by decide) (by decide)
  refine ⟨Fr.upto hu hF (fun b hb => (h.tree.own_lo b hb).1), tb, vp', vn', vi', vb, hT, hF.box h.box hcb, h.low, h.own.fr hF (fun b hb ho => ?_)⟩
  have hM := h.own
  rcases ho with rfl | e | e | e
  · exact ownM_ne h.tree.box hM (by decide) hb.symm
  · exact (ownM_row h.tree.prs hM (by decide)).elim (fun h => by rw [h] at e; cases e) (fun h => h (e.trans hb.symm))
  · exact (ownM_row h.tree.nod hM (by decide)).elim (fun h => by rw [h] at e; cases e) (fun h => h (e.trans hb.symm))
  · exact (ownM_row h.tree.idx hM (by decide)).elim (fun h => by rw [h] at e; cases e) (fun h => h (e.trans hb.symm))

end Go.Proofs.YtgbakgaegldomaaGreat

/- Walks of the program's coder: write, coderOf. Conditions: the coder lies in memory (CdEx), what is known is valid, the code can be written. -/
namespace Go.Proofs.YtgbakgaegldomaaGreat
set_option linter.unusedVariables false
set_option linter.unusedSimpArgs false
open Go Go.RowKit

/-- A code that can be written. -/
def KnD.puts (k : KnD) (x : Int) : Prop := x = (k.c : Int) + 1 ∨ x = (k.c : Int) ∨ (x ≠ (k.c : Int) ∧ x ≠ (k.c : Int) + 1 ∧ k.follows x = true)

set_option maxRecDepth 100000 in
set_option maxHeartbeats 8000000 in
theorem write_any (a0 : World) (cb : Nat) (k : KnD) (bits : List UInt8) (n : Nat) (w : World) (h : CdEx a0 cb k bits w) (hk : k.Ok) (hn : n ≤ 1048576) (hl : bits.length ≤ 900000) (hf : k.puts n) :
    Calls Tryz.prog 45  #[.pointer (some ⟨cb, 0, none⟩), .int .i64 n] w (fun e w' => (∃ v, e = .returned v) ∧ CdEx a0 cb (k.thru n) (bits ++ codeL k.set.ord n k.width) w') := by
  obtain ⟨hu0, tb, vp, vn, vi, vb, hC⟩ := h
  have cE := fun w => endI_any k.set w hk.set
  have cW := fun wq hr => widthI_any k vp a0.heap.size wq hk hr
  have hwd := KnD.width_bd hk
  have ho := (setOk_bd hk.set).1
  have hkt := hk.tr
  have hcb := hC.lt
  have htb := hC.tree.lt
  obtain ⟨c0, c1, c2, c3, c4, c5, c6, c7⟩ := hC.tree.cells
  have d0 := box_cell hC.box 0
  have d1 := box_cell hC.box 1
  simp at d0 d1
  have hfc := box_free hC.box
  have hbn := ownM_ne hC.tree.box hC.own (by decide)
  have hcn := ownM_ne hC.box hC.own (by decide)
  have cB := fun wq hB hown => bitsM_any a0.heap.size k.set.ord n k.width vb bits wq ho hn (by omega) (by omega) hB hown
  obtain ⟨gv, cv, hv⟩ := hC.own.shape
  obtain ⟨ap, cp, hvp⟩ := hC.tree.shape
  have ec : k.c = clr k.set := rfl
  have HC := Lib.hid hC
  have HU0 := Lib.hid hu0
  have HK := Lib.hid hk
  have HF := Lib.hid hf
  subst hv hvp
  clear hC hu0 hk hf
  simp only [kV] at *
  go_enter Tryz.func45, Tryz.ntmps45
  go_wp2
  have hC1 := HC.out.up ((Up.refl w).alloc (.cells #[.int .i64 k.set.ord, .int .i64 k.set.lit, .int .i64 k.set.most] 24))
  have hS1 : SetAt w.heap.size k.set.ord k.set.lit k.set.most (w.alloc (.cells #[.int .i64 k.set.ord, .int .i64 k.set.lit, .int .i64 k.set.most] 24)) := (MapKept.heap_alloc w _).1
  have hU1 : Up a0 (w.alloc (.cells #[.int .i64 k.set.ord, .int .i64 k.set.lit, .int .i64 k.set.most] 24)) := HU0.out.alloc _
  have hw1 : w.heap.size ≤ (w.alloc (.cells #[.int .i64 k.set.ord, .int .i64 k.set.lit, .int .i64 k.set.most] 24)).heap.size := by simp
  generalize (w.alloc (.cells #[.int .i64 k.set.ord, .int .i64 k.set.lit, .int .i64 k.set.most] 24)) = W1 at *
  have hsn := ownM_ne hS1 hC1.own (by decide)
  have HS1 := Lib.hid hS1
  have HC1 := Lib.hid hC1
  have HU1 := Lib.hid hU1
  have hB1 : a0.heap.size ≤ W1.heap.size := hU1.size
  generalize hsb : w.heap.size = sb at *
  clear hC1 hS1 hU1 c0 c1 c2 c3 c4 c5 c6 c7 d0 d1 hfc HC HU0
  refine wp_region_ownf 19 16 (Value.ownBlock (.slice (some ⟨gv, 0, none⟩) bits.length cv)) (by kernel_rfl) (by kernel_rfl) ?_
  simp only [List.take, List.drop]
  repeat (refine wpG_step (fun K hK => ?_); go_simp; (try simp only [↓IntWalk.iteOmega]); first
    | (refine hK _ _ ?_; clear hK K)
    | (refine stepG_own (by rfl) (by kernel_rfl) ((fun u w' => ownM w' a0.heap.size u (bits ++ codeL k.set.ord n k.width) ∧ NewOr W1.heap.size (.slice (some ⟨gv, 0, none⟩) bits.length cv) u)) ((fun v w w' h hu => ⟨h.1.up hu, h.2⟩)) (fun wq hwq => ?_) ?_
       · ((repeat (first | refine fills_no (by rfl) ?_ | refine fills_yes (by rfl) (fun vq hvq => ?_))); simp only [List.filter_nil, fills]; (unfold gAt; go_simp; (with_reducible refine gOut_ab (v := .slice (some ⟨gv, 0, none⟩) bits.length cv) ?_ hwq.size); go_at_call 90; exact cB _ (Nat.le_trans hB1 hwq.size) (HC1.out.own.up hwq)))
       refine hK _ _ ?_; clear hK K)
    | (refine stepG_c (by rfl) ?_ ?_ ?_
       rotate_left
       · intro wq hwq; (have hbq := gcell hwq; (repeat (first | refine fills_no (by rfl) ?_ | refine fills_yes (by rfl) (fun vq hvq => ?_))); simp only [List.filter_nil, fills]; unfold upAt; (try ((obtain ⟨c0, c1, c2, c3, c4, c5, c6, c7⟩ := (HC1.out.gr hwq).1.cells; have d0 := box_cell (HC1.out.gr hwq).2 0; have d1 := box_cell (HC1.out.gr hwq).2 1; simp at d0 d1; obtain ⟨s9, s0, s1, s2⟩ := SetAt.cells (gbox hwq HS1.out hsn)))); go_simp; (try go_bits); (try simp only [↓IntWalk.iteOmega]); (try (rw [dif_pos (by omega)]; go_simp; try go_bits)); first | exact upOut_value | (apply upOut_call; (go_at_call 100; exact cW _ (RdP.of_own (HC1.out.gr hwq).1.prs))) | (apply upOut_eq; (go_at_call 100; exact cW _ (RdP.of_own (HC1.out.gr hwq).1.prs))))
       go_simp; refine hK _ _ ?_; clear hK K))
  refine wpG_nil (by rfl) (fun wq hwq => ?_)
  simp only [fills]
  rintro v2 ⟨hM, hN⟩
  have hg := hwq
  generalize wq = w2 at *
  obtain ⟨g2, cv2, rfl⟩ := hM.shape
  have hlnb : (bits ++ codeL k.set.ord n k.width).length ≤ 1000000 := by rw [List.length_append, codeL_length]; omega
  generalize hbb : bits ++ codeL k.set.ord n k.width = bb at *
  generalize hln : bb.length = ln at *
  have hput := HC1.out.put hg hM
  have hS2 : SetAt sb k.set.ord k.set.lit k.set.most (w2.setCell ⟨cb, 1, none⟩ (.slice (some ⟨g2, 0, none⟩) ln cv2)) := box_oth (gbox hg HS1.out hsn) (p := ⟨cb, 1, none⟩) (by show sb ≠ cb; omega) _
  have hU2 : Up a0 (w2.setCell ⟨cb, 1, none⟩ (.slice (some ⟨g2, 0, none⟩) ln cv2)) := Up.set (HU1.out.grown hg (fun b hb => (HC1.out.own.lt b hb).1)) HC1.out.low _
  have d1 := box_cell (HC1.out.gr hg).2 1
  have d0 := box_cell (HC1.out.gr hg).2 0
  simp at d0 d1
  have hfc := box_free (HC1.out.gr hg).2
  have hcb2 : cb < w2.heap.size := Nat.lt_of_lt_of_le (HC1.out.lt) hg.size
  have HP := Lib.hid (And.intro hput (And.intro hS2 hU2))
  obtain ⟨s9, s0, s1, s2⟩ := SetAt.cells (gbox hg HS1.out hsn)
  have HBB := Lib.hid hbb
  clear hbb
  clear hput hS2 hU2 hM hg hwq hN HC1 HS1 HU1 hln hlnb
  go_wp2
  rw [onlyN_normal]
  rcases HF.out with hx | hx | ⟨hx1, hx2, hx3⟩
  · have hth : Hid (k.thru n = k) := by unfold Hid KnD.thru; rw [if_pos hx]
    have hxe : ((n : Int) != ((clr k.set : Nat) : Int) + 1) = false := by rw [← ec]; simpa using hx
    clear hx HF
    go_wp2_with (first | ((go_at_call 76; (with_reducible refine (cE _).mono ?_); rintro e w3 ⟨rfl, U3⟩; have B3 := bcell U3; have Z3 := U3.size; (try simp at Z3); (try rw [Nat.add_one_le_iff] at Z3))) | fail)
    go_end0
    exact ⟨⟨_, rfl⟩, by rw [hth.out, HBB.out]; exact ⟨HP.out.2.2.trans U3, _, _, _, _, _, HP.out.1.up U3⟩⟩
  · have hth : Hid (k.thru n = k.cleared) := by unfold Hid; rw [hx]; exact thru_clear k
    have hxe : ((n : Int) != ((clr k.set : Nat) : Int) + 1) = true := by rw [← ec, hx]; simp; omega
    have hxn : n = clr k.set := by rw [ec] at hx; omega
    subst hxn
    have cF := fun wq hT => followC_any a0.heap.size tb k (.slice ap k.ps.length cp) vn vi wq hT hkt HK.out.base0 HK.out.base1
    rw [show k.c = clr k.set from rfl] at cF
    clear hx HF
    go_wp2_with (first | ((go_at_call 76; (with_reducible refine (cE _).mono ?_); rintro e w3 ⟨rfl, U3⟩; have B3 := bcell U3; have Z3 := U3.size; (try simp at Z3); (try rw [Nat.add_one_le_iff] at Z3))) | fail)
    with_reducible refine (cF _ (HP.out.1.up U3).tree).mono ?_
    rintro e w4 ⟨⟨v4, rfl⟩, hP4⟩
    have HQ := Lib.hid ((HP.out.1.up U3).tr (HP.out.2.2.trans U3) hP4)
    clear hP4
    go_wp2
    go_end0
    exact ⟨⟨_, rfl⟩, by rw [hth.out, HBB.out]; exact HQ.out⟩
  · have hth : Hid (k.thru n = k.after n) := KnD.thru_fol HK.out hx3
    have hxe : ((n : Int) != ((clr k.set : Nat) : Int) + 1) = true := by rw [← ec]; simpa using hx2
    have cF := fun wq hT => followW_any a0.heap.size tb k (.slice ap k.ps.length cp) vn vi n wq hT HK.out hx1 hx3
    clear hx1 hx2 hx3 HF
    go_wp2_with (first | ((go_at_call 76; (with_reducible refine (cE _).mono ?_); rintro e w3 ⟨rfl, U3⟩; have B3 := bcell U3; have Z3 := U3.size; (try simp at Z3); (try rw [Nat.add_one_le_iff] at Z3))) | fail)
    with_reducible refine (cF _ (HP.out.1.up U3).tree).mono ?_
    rintro e w4 ⟨⟨v4, rfl⟩, hP4⟩
    have HQ := Lib.hid ((HP.out.1.up U3).tr (HP.out.2.2.trans U3) hP4)
    clear hP4
    go_wp2
    go_end0
    exact ⟨⟨_, rfl⟩, by rw [hth.out, HBB.out]; exact HQ.out⟩

end Go.Proofs.YtgbakgaegldomaaGreat

/- Walks of the program's coderOf, codeOf, CodeOfWord, BitsValid, WriterValid, NewWriter. Conditions: as each says. -/
namespace Go.Proofs.YtgbakgaegldomaaGreat
set_option linter.unusedVariables false
set_option linter.unusedSimpArgs false
open Go Go.RowKit

/-- A writer in a block. -/
def WrAt (b : Nat) (x : WrD) (v : Value) (w : World) : Prop := w.heap[b]? = some (.cells #[.int .i64 x.k.set.ord, .int .i64 x.k.set.lit, .int .i64 x.k.set.most, v, .int .i64 x.k.base, .int .i64 x.k.last, .string (bs x.pend), .string (bs x.bits), .bool x.beg] 37)
theorem WrAt.cells {b : Nat} {x : WrD} {v : Value} {w : World} (h : WrAt b x v w) : b < w.heap.size ∧ w.cell? ⟨b, 0, none⟩ = some (.int .i64 x.k.set.ord) ∧ w.cell? ⟨b, 1, none⟩ = some (.int .i64 x.k.set.lit) ∧ w.cell? ⟨b, 2, none⟩ = some (.int .i64 x.k.set.most) ∧ w.cell? ⟨b, 3, none⟩ = some v ∧ w.cell? ⟨b, 4, none⟩ = some (.int .i64 x.k.base) ∧ w.cell? ⟨b, 5, none⟩ = some (.int .i64 x.k.last) ∧ w.cell? ⟨b, 6, none⟩ = some (.string (bs x.pend)) ∧ w.cell? ⟨b, 7, none⟩ = some (.string (bs x.bits)) ∧ w.cell? ⟨b, 8, none⟩ = some (.bool x.beg) :=
  ⟨(Array.getElem?_eq_some_iff.1 h).1, box_cell h 0, box_cell h 1, box_cell h 2, box_cell h 3, box_cell h 4, box_cell h 5, box_cell h 6, box_cell h 7, box_cell h 8⟩
theorem WrAt.up {b : Nat} {x : WrD} {v : Value} {w w' : World} (h : WrAt b x v w) (hu : Up w w') : WrAt b x v w' := box_up hu h
/-- A tree of the call's own, new. -/
def TreeO (base : Nat) (k : KnD) (u : Value) (w : World) : Prop := ∃ tb vp vn vi, u = .pointer (some ⟨tb, 0, none⟩) ∧ TreeAt base tb k vp vn vi w
theorem treeO_closed (base : Nat) (k : KnD) : ∀ u, UpClosed (TreeO base k u) := fun u w w' ⟨tb, vp, vn, vi, h1, h2⟩ hu => ⟨tb, vp, vn, vi, h1, h2.up hu⟩
theorem upOut_tree {f : FuncId} {args : Array Value} {w : World} {k : KnD} {base : Nat} (h : Calls Tryz.prog f args w (NewTree k w)) (hb : base ≤ w.heap.size) : upOut Tryz.prog (TreeO base k) w (.ok (.enter f args) w) :=
  ⟨rfl, h.mono fun e w' ⟨tb, vp, vn, vi, he, hT, hu⟩ => ⟨_, he, hu, tb, vp, vn, vi, rfl, hT.base hb⟩⟩
theorem bytO_closed (base : Nat) (d : List UInt8) : ∀ u, UpClosed ((fun (u : Value) w => ownM w base u d) u) := fun u w w' h hu => h.up hu

set_option maxRecDepth 100000 in
set_option maxHeartbeats 8000000 in
theorem coderOf_any (x : WrD) (v : Value) (lo : Nat) (w : World) (hk : x.k.Ok) (hr : RdP lo w v x.k.ps) (hb : x.bits.length ≤ 1000) :
    Calls Tryz.prog 43  #[wrV x v] w (fun e w' => ∃ cb, e = .returned (.pointer (some ⟨cb, 0, none⟩)) ∧ CdEx w cb x.open.2 x.open.1 w') := by
  have cN := fun wq hr => newTree_any x.k v lo wq hk hr
  have cK := fun w => clearI_any x.k.set w hk.set
  have hrt := fun (wq : World) (hu : Up w wq) => hr.up hu
  have hbm : x.bits.length ≤ maxLen := by unfold maxLen; omega
  obtain ⟨a, cap, rfl, -, -, -, -⟩ := hr
  have hA : WrAt w.heap.size x (.slice a x.k.ps.length cap) (w.alloc (.cells #[.int .i64 x.k.set.ord, .int .i64 x.k.set.lit, .int .i64 x.k.set.most, .slice a x.k.ps.length cap, .int .i64 x.k.base, .int .i64 x.k.last, .string (bs x.pend), .string (bs x.bits), .bool x.beg] 37)) := (MapKept.heap_alloc w _).1
  have hbg : ∀ b : Bool, x.beg = b → x.open = if b then (x.bits, x.k) else (x.bits ++ codeL x.k.set.ord x.k.c x.k.width, x.k.cleared) := fun b e => by unfold WrD.open; rw [e]
  have HBG := Lib.hid hbg
  have HK := Lib.hid hk
  clear hbg hk
  cases hbe : x.beg
  all_goals
    have HO := Lib.hid (HBG.out _ hbe)
    rw [hbe] at hA
    unfold WrAt at hA
    rw [hbe] at hA
    unfold wrV
    rw [hbe]
    simp only [kV] at *
    go_enter Tryz.func43, Tryz.ntmps43
    go_wp2
    have hU1 : Up w (w.alloc (.cells #[.int .i64 x.k.set.ord, .int .i64 x.k.set.lit, .int .i64 x.k.set.most, .slice a x.k.ps.length cap, .int .i64 x.k.base, .int .i64 x.k.last, .string (bs x.pend), .string (bs x.bits), .bool x.beg] 37)) := (Up.refl w).alloc _
    rw [hbe] at hU1
    generalize (w.alloc (.cells #[.int .i64 x.k.set.ord, .int .i64 x.k.set.lit, .int .i64 x.k.set.most, .slice a x.k.ps.length cap, .int .i64 x.k.base, .int .i64 x.k.last, .string (bs x.pend), .string (bs x.bits), .bool _] 37)) = W1 at *
    have hA' : WrAt w.heap.size x (.slice a x.k.ps.length cap) W1 := by unfold WrAt; rw [hbe]; exact hA
    have HA := Lib.hid (And.intro hA' hU1)
    have hws := hU1.size
    clear hA hA' hU1
    have HBE := Lib.hid hbe
    clear hbe
    refine wp_region_upR 6 (by kernel_rfl) (by kernel_rfl) ?_
    simp only [List.take, List.drop]
    repeat (refine wpUp_step (fun K hK => ?_); go_simp; (try simp only [↓IntWalk.iteOmega]); first
      | (refine hK _ _ ?_; clear hK K)
      | (apply stepU_c
         · intro wq hwq; (have hbq := bcell hwq; (repeat (first | refine fills_no (by rfl) ?_ | refine fills_yes (by rfl) (fun vq hvq => ?_))); simp only [List.filter_nil, fills]; unfold upAt; (try ((obtain ⟨-, r0, r1, r2, r3, r4, r5, r6, r7, r8⟩ := (HA.out.1.up hwq).cells; have hcv := run_strBytes wq x.bits))); go_simp; (try go_bits); (try simp only [↓IntWalk.iteOmega]); (try (rw [dif_pos (by omega)]; go_simp; try go_bits)); first | exact upOut_value)
         go_simp; refine hK _ _ ?_; clear hK K)
      | (refine stepU_m (by kernel_rfl) (TreeO w.heap.size x.k) (treeO_closed _ _) (fun wq hwq => ?_) ?_
         · (have hbq := bcell hwq; (repeat (first | refine fills_no (by rfl) ?_ | refine fills_yes (by rfl) (fun vq hvq => ?_))); simp only [List.filter_nil, fills]; unfold upAt; (try ((obtain ⟨-, r0, r1, r2, r3, r4, r5, r6, r7, r8⟩ := (HA.out.1.up hwq).cells; have hcv := run_strBytes wq x.bits))); go_simp; (try go_bits); (try simp only [↓IntWalk.iteOmega]); (try (rw [dif_pos (by omega)]; go_simp; try go_bits)); ((with_reducible refine upOut_tree ?_ (Nat.le_trans hws hwq.size)); go_at_call 95; exact cN _ (hrt _ (HA.out.2.trans hwq))))
         refine hK _ _ ?_; clear hK K)
      | (refine stepU_m (by kernel_rfl) ((fun (u : Value) w' => ownM w' w.heap.size u x.bits)) (bytO_closed _ _) (fun wq hwq => ?_) ?_
         · (have hbq := bcell hwq; (repeat (first | refine fills_no (by rfl) ?_ | refine fills_yes (by rfl) (fun vq hvq => ?_))); simp only [List.filter_nil, fills]; unfold upAt; (try ((obtain ⟨-, r0, r1, r2, r3, r4, r5, r6, r7, r8⟩ := (HA.out.1.up hwq).cells; have hcv := run_strBytes wq x.bits))); go_simp; (try go_bits); (try simp only [↓IntWalk.iteOmega]); (try (rw [dif_pos (by omega)]; go_simp; try go_bits)); exact upOut_make (up_bytes _ _) (own_bytes _ _ hbm (Nat.le_trans hws hwq.size)))
         refine hK _ _ ?_; clear hK K))
    refine wpUp_nil (fun wq hwq => ?_)
    simp only [fills]
    rintro u5 hM u2 ⟨tb, vp, vn, vi, rfl, hT⟩
    obtain ⟨gv, cv, rfl⟩ := hM.shape
    have HW := Lib.hid (HA.out.2.trans hwq)
    have HAq := Lib.hid (HA.out.1.up hwq)
    have hcx : CdEx w wq.heap.size x.k x.bits (wq.alloc (.cells #[.pointer (some ⟨tb, 0, none⟩), .slice (some ⟨gv, 0, none⟩) x.bits.length cv] 88)) :=
      ⟨HW.out.alloc _, tb, vp, vn, vi, _, hT.up ((Up.refl _).alloc _), (MapKept.heap_alloc _ _).1, HW.out.size, hM.up ((Up.refl _).alloc _)⟩
    have HC := Lib.hid hcx
    have hqs := hwq.size
    obtain ⟨-, r0, r1, r2, r3, r4, r5, r6, r7, r8⟩ := (HAq.out.up ((Up.refl _).alloc (.cells #[.pointer (some ⟨tb, 0, none⟩), .slice (some ⟨gv, 0, none⟩) x.bits.length cv] 88))).cells
    rw [HBE.out] at r8
    clear hcx hM hT hwq HA HW HAq HBE
    have hwz : w.heap.size < (wq.alloc (.cells #[.pointer (some ⟨tb, 0, none⟩), .slice (some ⟨gv, 0, none⟩) x.bits.length cv] 88)).heap.size := by simp; omega
  · have cWr := fun wx hx => write_any w wq.heap.size x.k x.bits (clr x.k.set) wx hx HK.out (by have := HK.out.nums; omega) (by omega) (.inr (.inl rfl))
    rw [show ((clr x.k.set : Nat) : Int) = (x.k.c : Int) from rfl, thru_clear] at cWr
    rw [show (x.k.c : Int) = ((clr x.k.set : Nat) : Int) from rfl] at cWr
    go_wp2_with (first | (go_at_call 47; (with_reducible refine (cK _).mono ?_); rintro e w3 ⟨rfl, U3⟩; have B3 := bcell U3; have Z3 := U3.size; (try simp at Z3); (try rw [Nat.add_one_le_iff] at Z3)) | fail)
    with_reducible refine (cWr _ (HC.out.up U3)).mono ?_
    rintro e w4 ⟨⟨v4, rfl⟩, hP⟩
    have HP := Lib.hid hP
    clear hP
    go_wp2
    go_ret
    exact ⟨_, rfl, by rw [HO.out]; exact HP.out⟩
  · go_wp2
    go_ret
    exact ⟨_, rfl, by rw [HO.out]; exact HC.out⟩

set_option maxRecDepth 100000 in
set_option maxHeartbeats 4000000 in
theorem codeOf_any (B tb : Nat) (k : KnD) (vp vn vi : Value) (s : ByteArray) (w : World) (h : TreeAt B tb k vp vn vi w) (hk : k.Ok) (hs : 0 < s.size) (hs2 : s.size ≤ 1073741824) (hl : ∀ b ∈ s.data.toList, b.toNat < k.c) :
    Calls Tryz.prog 75  #[.pointer (some ⟨tb, 0, none⟩), .string s] w (Same (if k.longest s.data.toList = s.data.toList then .tuple #[.int .i64 (k.find s.data.toList), .bool true] else .tuple #[.int .i64 0, .bool false]) w) := by
  have cL := fun wq hT => longest_any B tb k vp vn vi s wq hT hk hs hs2 hl
  have cK := fun w => clearI_any k.set w hk.set
  have hsl := ba_len s
  have htb := h.lt
  have hu0 := u8_bd s[0]
  have hne : s.data.toList ≠ [] := fun e => by rw [e] at hsl; simp at hsl; omega
  have hl0 : (s[0]).toNat < clr k.set := hl _ (by
    have e : s[0] = s.data.toList[0]'(by omega) := rfl
    rw [e]; exact List.getElem_mem _)
  have hge : ¬ ((s[0].toNat : Int) ≥ ((clr k.set : Nat) : Int)) := by omega
  have HE : s.toList.isEmpty = false := by rw [Lib.toList_data]; cases hh : s.data.toList with | nil => exact absurd hh hne | cons _ _ => rfl
  obtain ⟨c0, c1, c2, c3, c4, c5, c6, c7⟩ := h.cells
  have hle := KnD.longest_le (k := k) s.data.toList
  have HT := Lib.hid h
  by_cases he : k.longest s.data.toList = s.data.toList
  · rw [if_pos he]
    rw [he, hsl] at cL
    have hlt : ¬ ((s.size : Nat) : Int) < (s.size : Int) := by omega
    clear he h hl hle hne
    generalize k.find s.data.toList = x at *
    go_enter Tryz.func75, Tryz.ntmps75
    go_wp2
    refine wp_region_up 14 (by kernel_rfl) (by kernel_rfl) ?_
    simp only [List.take, List.drop]
    repeat (refine wpUp_step (fun K hK => ?_); go_simp; (try simp only [↓IntWalk.iteOmega]); first
      | (refine hK _ _ ?_; clear hK K)
      | (apply stepU_c
         · intro wq hwq; (have hbq := bcell hwq; (repeat (first | refine fills_no (by rfl) ?_ | refine fills_yes (by rfl) (fun vq hvq => ?_))); simp only [List.filter_nil, fills]; unfold upAt; go_simp; (try go_bits); (try simp only [↓IntWalk.iteOmega]); (try (rw [dif_pos (by omega)]; go_simp; try go_bits)); first | exact upOut_value | (apply upOut_call; (go_at_call 47; exact cK _)) | (apply upOut_eq; (go_at_call 47; exact cK _)))
         go_simp; refine hK _ _ ?_; clear hK K))
    refine wpUp_nil (fun wq hwq => ?_)
    simp only [fills]
    go_wp2_with (first | (go_at_call 44; (with_reducible refine (cL _ (HT.out.up hwq)).mono ?_); rintro e w2 ⟨rfl, U2⟩; have B2 := bcell U2; have Z2 := U2.size; (try simp at Z2); (try rw [Nat.add_one_le_iff] at Z2)))
    go_ret2
    exact ⟨rfl, hwq.trans U2⟩
  · rw [if_neg he]
    have hlt := KnD.longest_lt (k := k) he
    rw [hsl] at hlt
    generalize k.find (k.longest s.data.toList) = x at *
    generalize (k.longest s.data.toList).length = ln at *
    clear he h hl hle hne
    go_enter Tryz.func75, Tryz.ntmps75
    go_wp2
    refine wp_region_up 14 (by kernel_rfl) (by kernel_rfl) ?_
    simp only [List.take, List.drop]
    repeat (refine wpUp_step (fun K hK => ?_); go_simp; (try simp only [↓IntWalk.iteOmega]); first
      | (refine hK _ _ ?_; clear hK K)
      | (apply stepU_c
         · intro wq hwq; (have hbq := bcell hwq; (repeat (first | refine fills_no (by rfl) ?_ | refine fills_yes (by rfl) (fun vq hvq => ?_))); simp only [List.filter_nil, fills]; unfold upAt; go_simp; (try go_bits); (try simp only [↓IntWalk.iteOmega]); (try (rw [dif_pos (by omega)]; go_simp; try go_bits)); first | exact upOut_value | (apply upOut_call; (go_at_call 47; exact cK _)) | (apply upOut_eq; (go_at_call 47; exact cK _)))
         go_simp; refine hK _ _ ?_; clear hK K))
    refine wpUp_nil (fun wq hwq => ?_)
    simp only [fills]
    go_wp2_with (first | (go_at_call 44; (with_reducible refine (cL _ (HT.out.up hwq)).mono ?_); rintro e w2 ⟨rfl, U2⟩; have B2 := bcell U2; have Z2 := U2.size; (try simp at Z2); (try rw [Nat.add_one_le_iff] at Z2)))
    go_ret2
    exact ⟨rfl, hwq.trans U2⟩

set_option maxRecDepth 100000 in
set_option maxHeartbeats 4000000 in
theorem codeWI_any (k : KnD) (v : Value) (lo : Nat) (s : ByteArray) (w : World) (hk : k.Ok) (hv : k.vl) (hr : RdP lo w v k.ps) (hs : 0 < s.size) (hs2 : s.size ≤ 1073741824) (hl : ∀ b ∈ s.data.toList, b.toNat < k.c) :
    Calls Tryz.prog 94  #[kV k v, .string s] w (Same (.tuple #[.int .i64 (if k.longest s.data.toList = s.data.toList then k.find s.data.toList else 0), .bool (decide (k.longest s.data.toList = s.data.toList))]) w) := by
  have cV := fun wq hr => kvI_any k v lo wq hk hv hr
  have cN := fun wq hr => newTree_any k v lo wq hk hr
  have cC := fun B tb vp vn vi wq hT => codeOf_any B tb k vp vn vi s wq hT hk hs hs2 hl
  have hrt := fun (wq : World) (hu : Up w wq) => hr.up hu
  obtain ⟨a, cap, rfl, -, -, -, -⟩ := hr
  by_cases he : k.longest s.data.toList = s.data.toList
  · simp only [he, if_true, decide_true] at cC ⊢
    generalize k.find s.data.toList = x at *
    clear hk hl hv he
    simp only [kV] at *
    go_enter Tryz.func94, Tryz.ntmps94
    go_wp2_with (first | (go_at_call 39; (with_reducible refine (cV _ (hrt _ (by (repeat (first | with_reducible exact Up.refl _ | with_reducible assumption | with_reducible refine Up.set ?_ (by first | exact Nat.le_refl _ | (simp only []; omega) | (simp; omega)) _ | with_reducible refine Up.alloc ?_ _ | with_reducible refine Up.drew ?_ | refine Up.trans ?_ (by with_reducible assumption)))))).mono ?_); rintro e w1 ⟨rfl, U1⟩; have B1 := bcell U1; have Z1 := U1.size; (try simp at Z1); (try rw [Nat.add_one_le_iff] at Z1)) | fail)
    with_reducible refine (cN _ (hrt _ (by (repeat (first | with_reducible exact Up.refl _ | with_reducible assumption | with_reducible refine Up.set ?_ (by first | exact Nat.le_refl _ | (simp only []; omega) | (simp; omega)) _ | with_reducible refine Up.alloc ?_ _ | with_reducible refine Up.drew ?_ | refine Up.trans ?_ (by with_reducible assumption)))))).mono ?_
    rintro e w2 ⟨tb, vp, vn, vi, rfl, hT, U2⟩
    have HT := Lib.hid hT
    clear hT
    go_wp2_with (first | (go_at_call 75; (with_reducible refine (cC _ _ _ _ _ _ HT.out).mono ?_); rintro e w3 ⟨rfl, U3⟩; have B3 := bcell U3; have Z3 := U3.size; (try simp at Z3); (try rw [Nat.add_one_le_iff] at Z3)))
    go_ret2
    refine ⟨rfl, ?_⟩
    (repeat (first | with_reducible exact Up.refl _ | with_reducible assumption | with_reducible refine Up.set ?_ (by first | exact Nat.le_refl _ | (simp only []; omega) | (simp; omega)) _ | with_reducible refine Up.alloc ?_ _ | with_reducible refine Up.drew ?_ | refine Up.trans ?_ (by with_reducible assumption)))
  · simp only [he, if_false, decide_false] at cC ⊢
    clear hk hl hv he
    simp only [kV] at *
    go_enter Tryz.func94, Tryz.ntmps94
    go_wp2_with (first | (go_at_call 39; (with_reducible refine (cV _ (hrt _ (by (repeat (first | with_reducible exact Up.refl _ | with_reducible assumption | with_reducible refine Up.set ?_ (by first | exact Nat.le_refl _ | (simp only []; omega) | (simp; omega)) _ | with_reducible refine Up.alloc ?_ _ | with_reducible refine Up.drew ?_ | refine Up.trans ?_ (by with_reducible assumption)))))).mono ?_); rintro e w1 ⟨rfl, U1⟩; have B1 := bcell U1; have Z1 := U1.size; (try simp at Z1); (try rw [Nat.add_one_le_iff] at Z1)) | fail)
    with_reducible refine (cN _ (hrt _ (by (repeat (first | with_reducible exact Up.refl _ | with_reducible assumption | with_reducible refine Up.set ?_ (by first | exact Nat.le_refl _ | (simp only []; omega) | (simp; omega)) _ | with_reducible refine Up.alloc ?_ _ | with_reducible refine Up.drew ?_ | refine Up.trans ?_ (by with_reducible assumption)))))).mono ?_
    rintro e w2 ⟨tb, vp, vn, vi, rfl, hT, U2⟩
    have HT := Lib.hid hT
    clear hT
    go_wp2_with (first | (go_at_call 75; (with_reducible refine (cC _ _ _ _ _ _ HT.out).mono ?_); rintro e w3 ⟨rfl, U3⟩; have B3 := bcell U3; have Z3 := U3.size; (try simp at Z3); (try rw [Nat.add_one_le_iff] at Z3)))
    go_ret2
    refine ⟨rfl, ?_⟩
    (repeat (first | with_reducible exact Up.refl _ | with_reducible assumption | with_reducible refine Up.set ?_ (by first | exact Nat.le_refl _ | (simp only []; omega) | (simp; omega)) _ | with_reducible refine Up.alloc ?_ _ | with_reducible refine Up.drew ?_ | refine Up.trans ?_ (by with_reducible assumption)))

/-- Bits of a string, and not too many. -/
def bvB (l : List UInt8) : Bool := decide (l.length ≤ 32000) && bitsB l
theorem bitsB_no {s : ByteArray} {j : Nat} (h : j < s.size) (hb : ¬ (s[j].toNat = 48 ∨ s[j].toNat = 49)) : bitsB s.data.toList = false := by
  cases e : bitsB s.data.toList
  · rfl
  · exact absurd (bitsB_iff.1 e s[j] (by
      have e2 : s[j] = s.data.toList[j]'(by rw [ba_len]; exact h) := rfl
      rw [e2]; exact List.getElem_mem _)) hb
theorem bitsB_yes {s : ByteArray} (h : ∀ j (hj : j < s.size), s[j].toNat = 48 ∨ s[j].toNat = 49) : bitsB s.data.toList = true := by
  rw [bitsB_iff]
  intro b hb
  obtain ⟨i, hi, rfl⟩ := List.mem_iff_getElem.1 hb
  exact h i (by rw [ba_len] at hi; exact hi)
def RelBg (s : ByteArray) (i : Value) (w wr : World) : Prop := ∃ j : Nat, i = .int .i64 j ∧ j ≤ s.size ∧ (∀ q (hq : q < s.size), q < j → s[q].toNat = 48 ∨ s[q].toNat = 49) ∧ w = wr
set_option maxRecDepth 100000 in
set_option maxHeartbeats 1000000 in
theorem bvI_any (s : ByteArray) (w : World) (hs : s.size ≤ 1073741824) :
    Calls Tryz.prog 50  #[.string s] w (fun e w' => e = .returned (.bool (bvB s.data.toList)) ∧ w = w') := by
  have hlen := ba_len s
  by_cases h4 : s.size ≤ 32000
  · have HV : Hid (bvB s.data.toList = bitsB s.data.toList) := by unfold Hid bvB; rw [hlen, decide_eq_true h4]; rfl
    rw [HV.out]
    go_enter Tryz.func50, Tryz.ntmps50
    go_wp2
    go_loopw [9] (fun i wr => RelBg s i w wr) (fun i _ => s.size - (intOf i).toNat)
    case atStart => exact ⟨0, rfl, Nat.zero_le _, fun q _ h => absurd h (Nat.not_lt_zero _), rfl⟩
    case round =>
      obtain ⟨j, rfl, hj, hall, rfl⟩ := hrel
      have HA := Lib.hid hall
      clear hall
      by_cases hlt : j < s.size
      · have HN : Hid ((s[j].toNat = 48 ∨ s[j].toNat = 49) → ∀ q (hq : q < s.size), q < j + 1 → s[q].toNat = 48 ∨ s[q].toNat = 49) := fun h q hq hqj => by
          rcases Nat.lt_or_ge q j with h' | h'
          · exact HA.out q hq h'
          · have : q = j := by omega
            subst this; exact h
        by_cases h1 : s[j].toNat = 48
        · have HN' := Lib.hid (HN.out (.inl h1))
          clear HN HA
          go_wp2
          go_roundw
          case rel => exact ⟨j + 1, by go_num, by omega, HN'.out, rfl⟩
          case measure => simp [intOf]; omega
        · by_cases h2 : s[j].toNat = 49
          · have HN' := Lib.hid (HN.out (.inr h2))
            clear HN HA
            go_wp2
            go_roundw
            case rel => exact ⟨j + 1, by go_num, by omega, HN'.out, rfl⟩
            case measure => simp [intOf]; omega
          · have HB : Hid (bitsB s.data.toList = false) := bitsB_no hlt (fun h => h.elim h1 h2)
            have hb1 : ((s[j].toNat : Int) != 48) = true := by simp; omega
            have hb2 : ((s[j].toNat : Int) != 49) = true := by simp; omega
            clear HN HA
            go_wp2
            go_ret
            exact ⟨ret_bool HB.out.symm, rfl⟩
      · have HB : Hid (bitsB s.data.toList = true) := bitsB_yes fun q hq => HA.out q hq (by omega)
        go_wp2
        go_ret
        exact ⟨ret_bool HB.out.symm, rfl⟩
  · have HV : Hid (bvB s.data.toList = false) := by unfold Hid bvB; rw [hlen, decide_eq_false h4]; rfl
    rw [HV.out]
    go_enter Tryz.func50, Tryz.ntmps50
    go_wp2
    go_ret
    exact ⟨rfl, rfl⟩

theorem isEmpty_bs {d : List UInt8} (h : d ≠ []) : (bs d).toList.isEmpty = false := by rw [Lib.toList_data, bs_data]; cases d with | nil => exact absurd rfl h | cons _ _ => rfl
theorem isEmpty_nil : (bs ([] : List UInt8)).toList.isEmpty = true := by rw [Lib.toList_data, bs_data]; rfl
theorem wrvB_k {x : WrD} (h : validK x.k = false) : wrvB x = false := by unfold wrvB; rw [h]; rfl
theorem wrvB_f {x : WrD} (h : fitsB x.k.set x.pend = false) : wrvB x = false := by unfold wrvB; rw [h]; simp
theorem wrvB_b {x : WrD} (h : bvB x.bits = false) : wrvB x = false := by
  unfold wrvB
  have : (bitsB x.bits && decide (x.bits.length ≤ 7)) = false := by
    unfold bvB at h
    cases h1 : bitsB x.bits
    · rfl
    · rw [h1, Bool.and_true] at h
      have : ¬ x.bits.length ≤ 32000 := by simpa using h
      rw [Bool.true_and]
      exact decide_eq_false (by omega)
  rw [this]; simp
theorem wrvB_7 {x : WrD} (h : ¬ x.bits.length ≤ 7) : wrvB x = false := by unfold wrvB; rw [decide_eq_false h]; simp
theorem wrvB_all {x : WrD} (h1 : validK x.k = true) (h2 : fitsB x.k.set x.pend = true) (h3 : bvB x.bits = true) (h4 : x.bits.length ≤ 7) : wrvB x = wrsB x := by
  unfold wrvB
  unfold bvB at h3
  rw [h1, h2, decide_eq_true h4, (Bool.and_eq_true_iff.1 h3).2]
  rfl

set_option maxRecDepth 100000 in
set_option maxHeartbeats 8000000 in
theorem wvI_any (x : WrD) (v : Value) (lo : Nat) (w : World) (hl : -9223372036854775808 ≤ x.k.set.lit ∧ x.k.set.lit ≤ 9223372036854775807) (hr : RdP lo w v x.k.ps) (hps : x.k.ps.length ≤ 1073741824) (hp : x.pend.length ≤ 1073741824) (hb : x.bits.length ≤ 1073741824) :
    Calls Tryz.prog 41  #[wrV x v] w (Same (.bool (wrvB x)) w) := by
  have cV := fun wq hr => kvI_gen x.k v lo wq hl hr hps
  have hrt := fun (wq : World) (hu : Up w wq) => hr.up hu
  have hsp := bs_size x.pend
  have hsb := bs_size x.bits
  have cF := fun wq => fitsI_any x.k.set (bs x.pend) wq hl (by omega)
  have cB := fun wq => bvI_any (bs x.bits) wq (by omega)
  rw [bs_data] at cF cB
  obtain ⟨a, cap, rfl, -, -, -, -⟩ := id hr
  unfold wrV
  cases h1 : validK x.k
  · rw [wrvB_k h1]
    rw [h1] at cV
    clear h1 hr
    simp only [kV] at *
    go_enter Tryz.func41, Tryz.ntmps41
    go_wp2_with (first | (go_at_call 39; (with_reducible refine (cV _ (hrt _ (by (repeat (first | with_reducible exact Up.refl _ | with_reducible assumption | with_reducible refine Up.set ?_ (by first | exact Nat.le_refl _ | (simp only []; omega) | (simp; omega)) _ | with_reducible refine Up.alloc ?_ _ | with_reducible refine Up.drew ?_ | refine Up.trans ?_ (by with_reducible assumption)))))).mono ?_); rintro e w1 ⟨rfl, U1⟩; have B1 := bcell U1; have Z1 := U1.size; (try simp at Z1); (try rw [Nat.add_one_le_iff] at Z1)) | fail)
    go_ret
    refine ⟨rfl, ?_⟩
    (repeat (first | with_reducible exact Up.refl _ | with_reducible assumption | with_reducible refine Up.set ?_ (by first | exact Nat.le_refl _ | (simp only []; omega) | (simp; omega)) _ | with_reducible refine Up.alloc ?_ _ | with_reducible refine Up.drew ?_ | refine Up.trans ?_ (by with_reducible assumption)))
  rw [h1] at cV
  cases h2 : fitsB x.k.set x.pend
  · rw [wrvB_f h2]
    rw [h2] at cF
    clear h1 h2 hr
    simp only [kV, setV] at *
    go_enter Tryz.func41, Tryz.ntmps41
    go_wp2_with (first | (go_at_call 39; (with_reducible refine (cV _ (hrt _ (by (repeat (first | with_reducible exact Up.refl _ | with_reducible assumption | with_reducible refine Up.set ?_ (by first | exact Nat.le_refl _ | (simp only []; omega) | (simp; omega)) _ | with_reducible refine Up.alloc ?_ _ | with_reducible refine Up.drew ?_ | refine Up.trans ?_ (by with_reducible assumption)))))).mono ?_); rintro e w1 ⟨rfl, U1⟩; have B1 := bcell U1; have Z1 := U1.size; (try simp at Z1); (try rw [Nat.add_one_le_iff] at Z1)) | (go_at_call 42; (with_reducible refine (cF _).mono ?_); rintro e w2 ⟨rfl, U2⟩; have B2 := bcell U2; have Z2 := U2.size; (try simp at Z2); (try rw [Nat.add_one_le_iff] at Z2)) | fail)
    go_ret
    refine ⟨rfl, ?_⟩
    (repeat (first | with_reducible exact Up.refl _ | with_reducible assumption | with_reducible refine Up.set ?_ (by first | exact Nat.le_refl _ | (simp only []; omega) | (simp; omega)) _ | with_reducible refine Up.alloc ?_ _ | with_reducible refine Up.drew ?_ | refine Up.trans ?_ (by with_reducible assumption)))
  rw [h2] at cF
  cases h3 : bvB x.bits
  · rw [wrvB_b h3]
    rw [h3] at cB
    clear h1 h2 h3 hr
    simp only [kV, setV] at *
    go_enter Tryz.func41, Tryz.ntmps41
    go_wp2_with (first | (go_at_call 39; (with_reducible refine (cV _ (hrt _ (by (repeat (first | with_reducible exact Up.refl _ | with_reducible assumption | with_reducible refine Up.set ?_ (by first | exact Nat.le_refl _ | (simp only []; omega) | (simp; omega)) _ | with_reducible refine Up.alloc ?_ _ | with_reducible refine Up.drew ?_ | refine Up.trans ?_ (by with_reducible assumption)))))).mono ?_); rintro e w1 ⟨rfl, U1⟩; have B1 := bcell U1; have Z1 := U1.size; (try simp at Z1); (try rw [Nat.add_one_le_iff] at Z1)) | (go_at_call 42; (with_reducible refine (cF _).mono ?_); rintro e w2 ⟨rfl, U2⟩; have B2 := bcell U2; have Z2 := U2.size; (try simp at Z2); (try rw [Nat.add_one_le_iff] at Z2)) | (go_at_call 50; (with_reducible refine (cB _).mono ?_); rintro e w' ⟨rfl, rfl⟩) | fail)
    go_ret
    refine ⟨rfl, ?_⟩
    (repeat (first | with_reducible exact Up.refl _ | with_reducible assumption | with_reducible refine Up.set ?_ (by first | exact Nat.le_refl _ | (simp only []; omega) | (simp; omega)) _ | with_reducible refine Up.alloc ?_ _ | with_reducible refine Up.drew ?_ | refine Up.trans ?_ (by with_reducible assumption)))
  rw [h3] at cB
  by_cases h4 : x.bits.length ≤ 7
  case neg =>
    rw [wrvB_7 h4]
    clear h1 h2 h3 hr
    have h4' : ((x.bits.length : Nat) : Int) ≥ 8 := by omega
    simp only [kV, setV] at *
    go_enter Tryz.func41, Tryz.ntmps41
    go_wp2_with (first | (go_at_call 39; (with_reducible refine (cV _ (hrt _ (by (repeat (first | with_reducible exact Up.refl _ | with_reducible assumption | with_reducible refine Up.set ?_ (by first | exact Nat.le_refl _ | (simp only []; omega) | (simp; omega)) _ | with_reducible refine Up.alloc ?_ _ | with_reducible refine Up.drew ?_ | refine Up.trans ?_ (by with_reducible assumption)))))).mono ?_); rintro e w1 ⟨rfl, U1⟩; have B1 := bcell U1; have Z1 := U1.size; (try simp at Z1); (try rw [Nat.add_one_le_iff] at Z1)) | (go_at_call 42; (with_reducible refine (cF _).mono ?_); rintro e w2 ⟨rfl, U2⟩; have B2 := bcell U2; have Z2 := U2.size; (try simp at Z2); (try rw [Nat.add_one_le_iff] at Z2)) | (go_at_call 50; (with_reducible refine (cB _).mono ?_); rintro e w' ⟨rfl, rfl⟩) | fail)
    go_ret
    refine ⟨rfl, ?_⟩
    (repeat (first | with_reducible exact Up.refl _ | with_reducible assumption | with_reducible refine Up.set ?_ (by first | exact Nat.le_refl _ | (simp only []; omega) | (simp; omega)) _ | with_reducible refine Up.alloc ?_ _ | with_reducible refine Up.drew ?_ | refine Up.trans ?_ (by with_reducible assumption)))
  case pos =>
    have h4' : ¬ ((x.bits.length : Nat) : Int) ≥ 8 := by omega
    rw [wrvB_all h1 h2 h3 h4]
    obtain ⟨hk, hv⟩ := ok_of_valid h1
    obtain ⟨f1, f2, f3⟩ := fitsB_lits h2
    obtain ⟨k, pend, bits, beg⟩ := x
    dsimp only at *
    by_cases hpe : pend = []
    · subst hpe
      simp only [show bs ([] : List UInt8) = (⟨#[]⟩ : ByteArray) from rfl] at *
      by_cases hbe : bits = []
      · subst hbe
        simp only [show bs ([] : List UInt8) = (⟨#[]⟩ : ByteArray) from rfl] at *
        cases beg
        all_goals
          rw [show wrsB (⟨k, [], [], _⟩ : WrD) = true from rfl]
          clear h1 h2 h3 hr hk hv f3
          simp only [kV, setV] at *
          go_enter Tryz.func41, Tryz.ntmps41
          go_wp2_with (first | (go_at_call 39; (with_reducible refine (cV _ (hrt _ (by (repeat (first | with_reducible exact Up.refl _ | with_reducible assumption | with_reducible refine Up.set ?_ (by first | exact Nat.le_refl _ | (simp only []; omega) | (simp; omega)) _ | with_reducible refine Up.alloc ?_ _ | with_reducible refine Up.drew ?_ | refine Up.trans ?_ (by with_reducible assumption)))))).mono ?_); rintro e w1 ⟨rfl, U1⟩; have B1 := bcell U1; have Z1 := U1.size; (try simp at Z1); (try rw [Nat.add_one_le_iff] at Z1)) | (go_at_call 42; (with_reducible refine (cF _).mono ?_); rintro e w2 ⟨rfl, U2⟩; have B2 := bcell U2; have Z2 := U2.size; (try simp at Z2); (try rw [Nat.add_one_le_iff] at Z2)) | (go_at_call 50; (with_reducible refine (cB _).mono ?_); rintro e w' ⟨rfl, rfl⟩) | fail)
          go_ret
          refine ⟨rfl, ?_⟩
          (repeat (first | with_reducible exact Up.refl _ | with_reducible assumption | with_reducible refine Up.set ?_ (by first | exact Nat.le_refl _ | (simp only []; omega) | (simp; omega)) _ | with_reducible refine Up.alloc ?_ _ | with_reducible refine Up.drew ?_ | refine Up.trans ?_ (by with_reducible assumption)))
      · have HBE := isEmpty_bs hbe
        cases beg
        · have HW : Hid (wrsB (⟨k, [], bits, false⟩ : WrD) = false) := by unfold Hid wrsB; simp [hbe]
          rw [HW.out]
          clear h1 h2 h3 hr hk hv f3 hbe
          simp only [kV, setV] at *
          go_enter Tryz.func41, Tryz.ntmps41
          go_wp2_with (first | (go_at_call 39; (with_reducible refine (cV _ (hrt _ (by (repeat (first | with_reducible exact Up.refl _ | with_reducible assumption | with_reducible refine Up.set ?_ (by first | exact Nat.le_refl _ | (simp only []; omega) | (simp; omega)) _ | with_reducible refine Up.alloc ?_ _ | with_reducible refine Up.drew ?_ | refine Up.trans ?_ (by with_reducible assumption)))))).mono ?_); rintro e w1 ⟨rfl, U1⟩; have B1 := bcell U1; have Z1 := U1.size; (try simp at Z1); (try rw [Nat.add_one_le_iff] at Z1)) | (go_at_call 42; (with_reducible refine (cF _).mono ?_); rintro e w2 ⟨rfl, U2⟩; have B2 := bcell U2; have Z2 := U2.size; (try simp at Z2); (try rw [Nat.add_one_le_iff] at Z2)) | (go_at_call 50; (with_reducible refine (cB _).mono ?_); rintro e w' ⟨rfl, rfl⟩) | fail)
          go_ret
          refine ⟨rfl, ?_⟩
          (repeat (first | with_reducible exact Up.refl _ | with_reducible assumption | with_reducible refine Up.set ?_ (by first | exact Nat.le_refl _ | (simp only []; omega) | (simp; omega)) _ | with_reducible refine Up.alloc ?_ _ | with_reducible refine Up.drew ?_ | refine Up.trans ?_ (by with_reducible assumption)))
        · have HW : Hid (wrsB (⟨k, [], bits, true⟩ : WrD) = true) := by unfold Hid wrsB; simp
          rw [HW.out]
          clear h1 h2 h3 hr hk hv f3 hbe
          simp only [kV, setV] at *
          go_enter Tryz.func41, Tryz.ntmps41
          go_wp2_with (first | (go_at_call 39; (with_reducible refine (cV _ (hrt _ (by (repeat (first | with_reducible exact Up.refl _ | with_reducible assumption | with_reducible refine Up.set ?_ (by first | exact Nat.le_refl _ | (simp only []; omega) | (simp; omega)) _ | with_reducible refine Up.alloc ?_ _ | with_reducible refine Up.drew ?_ | refine Up.trans ?_ (by with_reducible assumption)))))).mono ?_); rintro e w1 ⟨rfl, U1⟩; have B1 := bcell U1; have Z1 := U1.size; (try simp at Z1); (try rw [Nat.add_one_le_iff] at Z1)) | (go_at_call 42; (with_reducible refine (cF _).mono ?_); rintro e w2 ⟨rfl, U2⟩; have B2 := bcell U2; have Z2 := U2.size; (try simp at Z2); (try rw [Nat.add_one_le_iff] at Z2)) | (go_at_call 50; (with_reducible refine (cB _).mono ?_); rintro e w' ⟨rfl, rfl⟩) | fail)
          go_ret
          refine ⟨rfl, ?_⟩
          (repeat (first | with_reducible exact Up.refl _ | with_reducible assumption | with_reducible refine Up.set ?_ (by first | exact Nat.le_refl _ | (simp only []; omega) | (simp; omega)) _ | with_reducible refine Up.alloc ?_ _ | with_reducible refine Up.drew ?_ | refine Up.trans ?_ (by with_reducible assumption)))
    · have HPE := isEmpty_bs hpe
      have hpos := List.length_pos_iff.2 hpe
      cases beg
      · have HW : Hid (wrsB (⟨k, pend, bits, false⟩ : WrD) = false) := by unfold Hid wrsB; simp [hpe]
        rw [HW.out]
        clear h1 h2 h3 hr hk hv f3 hpe
        simp only [kV, setV] at *
        go_enter Tryz.func41, Tryz.ntmps41
        go_wp2_with (first | (go_at_call 39; (with_reducible refine (cV _ (hrt _ (by (repeat (first | with_reducible exact Up.refl _ | with_reducible assumption | with_reducible refine Up.set ?_ (by first | exact Nat.le_refl _ | (simp only []; omega) | (simp; omega)) _ | with_reducible refine Up.alloc ?_ _ | with_reducible refine Up.drew ?_ | refine Up.trans ?_ (by with_reducible assumption)))))).mono ?_); rintro e w1 ⟨rfl, U1⟩; have B1 := bcell U1; have Z1 := U1.size; (try simp at Z1); (try rw [Nat.add_one_le_iff] at Z1)) | (go_at_call 42; (with_reducible refine (cF _).mono ?_); rintro e w2 ⟨rfl, U2⟩; have B2 := bcell U2; have Z2 := U2.size; (try simp at Z2); (try rw [Nat.add_one_le_iff] at Z2)) | (go_at_call 50; (with_reducible refine (cB _).mono ?_); rintro e w' ⟨rfl, rfl⟩) | fail)
        go_ret
        refine ⟨rfl, ?_⟩
        (repeat (first | with_reducible exact Up.refl _ | with_reducible assumption | with_reducible refine Up.set ?_ (by first | exact Nat.le_refl _ | (simp only []; omega) | (simp; omega)) _ | with_reducible refine Up.alloc ?_ _ | with_reducible refine Up.drew ?_ | refine Up.trans ?_ (by with_reducible assumption)))
      · have cC := fun wq hr => codeWI_any k (.slice a k.ps.length cap) lo (bs pend) wq hk hv hr (by omega) (by omega) (by rw [bs_data]; exact f3)
        rw [bs_data] at cC
        have HW : Hid (wrsB (⟨k, pend, bits, true⟩ : WrD) = decide (k.longest pend = pend)) := by unfold Hid wrsB; simp [hpe]
        rw [HW.out]
        generalize decide (k.longest pend = pend) = ok at *
        generalize (if k.longest pend = pend then k.find pend else 0) = cd at *
        clear h1 h2 h3 hr hk hv f3 hpe HW
        simp only [kV, setV] at *
        go_enter Tryz.func41, Tryz.ntmps41
        go_wp2_with (first | (go_at_call 39; (with_reducible refine (cV _ (hrt _ (by (repeat (first | with_reducible exact Up.refl _ | with_reducible assumption | with_reducible refine Up.set ?_ (by first | exact Nat.le_refl _ | (simp only []; omega) | (simp; omega)) _ | with_reducible refine Up.alloc ?_ _ | with_reducible refine Up.drew ?_ | refine Up.trans ?_ (by with_reducible assumption)))))).mono ?_); rintro e w1 ⟨rfl, U1⟩; have B1 := bcell U1; have Z1 := U1.size; (try simp at Z1); (try rw [Nat.add_one_le_iff] at Z1)) | (go_at_call 42; (with_reducible refine (cF _).mono ?_); rintro e w2 ⟨rfl, U2⟩; have B2 := bcell U2; have Z2 := U2.size; (try simp at Z2); (try rw [Nat.add_one_le_iff] at Z2)) | (go_at_call 50; (with_reducible refine (cB _).mono ?_); rintro e w' ⟨rfl, rfl⟩) | (go_at_call 94; (with_reducible refine (cC _ (hrt _ (by (repeat (first | with_reducible exact Up.refl _ | with_reducible assumption | with_reducible refine Up.set ?_ (by first | exact Nat.le_refl _ | (simp only []; omega) | (simp; omega)) _ | with_reducible refine Up.alloc ?_ _ | with_reducible refine Up.drew ?_ | refine Up.trans ?_ (by with_reducible assumption)))))).mono ?_); rintro e w4 ⟨rfl, U4⟩; have B4 := bcell U4; have Z4 := U4.size; (try simp at Z4); (try rw [Nat.add_one_le_iff] at Z4)) | fail)
        go_ret
        refine ⟨rfl, ?_⟩
        (repeat (first | with_reducible exact Up.refl _ | with_reducible assumption | with_reducible refine Up.set ?_ (by first | exact Nat.le_refl _ | (simp only []; omega) | (simp; omega)) _ | with_reducible refine Up.alloc ?_ _ | with_reducible refine Up.drew ?_ | refine Up.trans ?_ (by with_reducible assumption)))

end Go.Proofs.YtgbakgaegldomaaGreat

/- Walks of the program's NewWriter, WriteData, CloseWriter, LongestWord. Conditions: the writer's pairs can be read; its texts are no longer than 2^20 bytes. -/
namespace Go.Proofs.YtgbakgaegldomaaGreat
set_option linter.unusedVariables false
set_option linter.unusedSimpArgs false
open Go Go.RowKit

theorem conv_cells {w : World} {g off n cap : Nat} {l : List UInt8} (hn : n = l.length) (h : ∀ i x, l[i]? = some x → w.cell? ⟨g, off + i, none⟩ = some (.int .u8 x.toNat)) :
    (convert 22 9 (.slice (some ⟨g, off, none⟩) n cap)).run Tryz.prog w = .ok (.string (bs l)) w := by
  have := run_convert_bytes_arg (P := Tryz.prog) w 22 5 Tryz.underlying22 Tryz.underlying5 g off n cap (l.map fun b => (b.toNat : Int)) (by simp [hn]) (fun i hi => by
    have hi' : i < l.length := by omega
    rw [h i _ (List.getElem?_eq_getElem hi')]
    simp [List.getD_eq_getElem?_getD, hi']) 9 Tryz.underlying9
  rw [this, bs_num]
theorem conv_M {w : World} {base g n cap m c : Nat} {d : List UInt8} (h : ownM w base (.slice (some ⟨g, 0, none⟩) n cap) d) (hm : m ≤ d.length) : (convert 22 9 (.slice (some ⟨g, 0, none⟩) m c)).run Tryz.prog w = .ok (.string (bs (d.take m))) w := by
  obtain ⟨g', cap', e, -, -, -, -, hc⟩ := h.cells
  simp only [Value.slice.injEq, Option.some.injEq, Addr.mk.injEq, and_true] at e
  obtain ⟨rfl, -, -⟩ := e
  refine conv_cells (by rw [List.length_take]; omega) fun i x hi => ?_
  rw [Nat.zero_add]
  rw [List.getElem?_take] at hi
  split at hi
  · exact hc i x hi
  · cases hi
theorem conv_Md {w : World} {base g n cap m q c : Nat} {d : List UInt8} (h : ownM w base (.slice (some ⟨g, 0, none⟩) n cap) d) (hm : m ≤ d.length) (hq : q = d.length - m) : (convert 22 9 (.slice (some ⟨g, m, none⟩) q c)).run Tryz.prog w = .ok (.string (bs (d.drop m))) w := by
  obtain ⟨g', cap', e, -, -, -, -, hc⟩ := h.cells
  simp only [Value.slice.injEq, Option.some.injEq, Addr.mk.injEq, and_true] at e
  obtain ⟨rfl, -, -⟩ := e
  refine conv_cells (by rw [List.length_drop]; omega) fun i x hi => ?_
  rw [List.getElem?_drop] at hi
  exact hc (m + i) x hi

theorem conv_If {w : World} {base g n cap q c : Nat} {d : List UInt8} (h : ownM w base (.slice (some ⟨g, 0, none⟩) n cap) d) (hq : q ≤ d.length) : (convert 22 9 (.slice (if cap = q then some ⟨g, 0, none⟩ else some ⟨g, q, none⟩) (d.length - q) c)).run Tryz.prog w = .ok (.string (bs (d.drop q))) w := by
  split
  · next hcq =>
    obtain ⟨g', cap', e, -, -, h1, -, hc⟩ := h.cells
    simp only [Value.slice.injEq, Option.some.injEq, Addr.mk.injEq, and_true] at e
    obtain ⟨rfl, -, rfl⟩ := e
    have : d.drop q = [] := List.drop_eq_nil_of_le (by omega)
    rw [this]
    exact conv_cells (off := 0) (by simp; omega) (fun i x hi => by simp at hi)
  · exact conv_Md h hq rfl
/-- A writer's stores into a block. -/
def WrW (w : World) (b : Nat) (x : WrD) (v : Value) : World := (((KnW w b x.k v).setCell ⟨b, 6, none⟩ (.string (bs x.pend))).setCell ⟨b, 7, none⟩ (.string (bs x.bits))).setCell ⟨b, 8, none⟩ (.bool x.beg)
theorem WrAt.store {b : Nat} {x0 : WrD} {v0 : Value} {w : World} (h : WrAt b x0 v0 w) (x : WrD) (v : Value) : WrAt b x v (WrW w b x v) := by
  unfold WrAt at *
  unfold WrW KnW
  have := box_set (box_set (box_set (box_set (box_set (box_set (box_set (box_set (box_set h 0 (.int .i64 x.k.set.ord)) 1 (.int .i64 x.k.set.lit)) 2 (.int .i64 x.k.set.most)) 3 v) 4 (.int .i64 x.k.base)) 5 (.int .i64 x.k.last)) 6 (.string (bs x.pend))) 7 (.string (bs x.bits))) 8 (.bool x.beg)
  simpa using this
theorem WrW.up {a w : World} (h : Up a w) {b : Nat} (hb : a.heap.size ≤ b) (x : WrD) (v : Value) : Up a (WrW w b x v) := by
  unfold WrW
  exact (((KnW.up h hb x.k v).set (p := ⟨b, 6, none⟩) hb _).set (p := ⟨b, 7, none⟩) hb _).set (p := ⟨b, 8, none⟩) hb _
theorem WrW.own {w : World} {base : Nat} {e : TypeId} {size n : Nat} {v : Value} {xs : List Value} (h : w.ownsRow base e size v n xs) {b : Nat} (hb : some b ≠ v.ownBlock) (x : WrD) (u : Value) : (WrW w b x u).ownsRow base e size v n xs := by
  unfold WrW
  exact ownsRow_setb (ownsRow_setb (ownsRow_setb (KnW.own h hb x.k u) hb 6 _) hb 7 _) hb 8 _
theorem WrW.other {w : World} {b b' : Nat} (hb : b' ≠ b) (x : WrD) (v : Value) : (WrW w b x v).heap[b']? = w.heap[b']? := by
  unfold WrW
  exact (Below.heap_setCell _ _ _ _ hb).trans ((Below.heap_setCell _ _ _ _ hb).trans ((Below.heap_setCell _ _ _ _ hb).trans (KnW.other hb x.k v)))
def wr0 : WrD := ⟨⟨⟨0, 0, 0⟩, [], 0, 0⟩, [], [], false⟩
theorem WrAt.zero {w : World} {b : Nat} (h : w.heap[b]? = some (.cells #[.int .i64 0, .int .i64 0, .int .i64 0, .slice none 0 0, .int .i64 0, .int .i64 0, .string ⟨#[]⟩, .string ⟨#[]⟩, .bool false] 37)) : WrAt b wr0 (.slice none 0 0) w := h

/-- What NewWriter gives. -/
def NwPost (k : KnD) (w : World) (e : Ending) (w' : World) : Prop :=
  if validK k then ∃ v, e = .returned (.tuple #[wrV ⟨k, [], [], false⟩ v, .bool true]) ∧ ownPr w' w.heap.size v k.ps ∧ Up w w' else e = .returned (.tuple #[noWr, .bool false]) ∧ Up w w'

set_option maxRecDepth 100000 in
set_option maxHeartbeats 8000000 in
theorem nwI_any (k : KnD) (v : Value) (lo : Nat) (w : World) (hl : -9223372036854775808 ≤ k.set.lit ∧ k.set.lit ≤ 9223372036854775807) (hr : RdP lo w v k.ps) (hps : k.ps.length ≤ 1048576) :
    Calls Tryz.prog 11  #[kV k v] w (NwPost k w) := by
  have cV := fun wq hr => kvI_gen k v lo wq hl hr (by omega)
  have cY := fun wx hr => copyI_any k v lo wx hr (by omega)
  have hrt := fun (wq : World) (hu : Up w wq) => hr.up hu
  obtain ⟨a, cap, rfl, -, -, -, -⟩ := id hr
  unfold NwPost
  cases h1 : validK k
  · simp only [Bool.false_eq_true, if_false]
    rw [h1] at cV
    clear h1 hr
    simp only [kV] at *
    go_enter Tryz.func11, Tryz.ntmps11
    go_wp2_with (first | ((go_at_call 39; (with_reducible refine (cV _ (hrt _ (by (repeat (first | with_reducible exact Up.refl _ | with_reducible assumption | with_reducible refine Up.set ?_ (by first | exact Nat.le_refl _ | (simp only []; omega) | (simp; omega)) _ | with_reducible refine Up.alloc ?_ _ | with_reducible refine Up.drew ?_ | refine Up.trans ?_ (by with_reducible assumption)))))).mono ?_); rintro e w1 ⟨rfl, U1⟩; have B1 := bcell U1; have Z1 := U1.size; (try simp at Z1); (try rw [Nat.add_one_le_iff] at Z1)); obtain ⟨hbz, q0, q1, q2, q3, q4, q5, q6, q7, q8⟩ := WrAt.cells (WrAt.zero (box_up U1 (alloc2 w _ _))); simp only [wr0] at q0 q1 q2 q3 q4 q5 q6 q7 q8; have hfz := box_free (box_up U1 (alloc2 w _ _))) | fail)
    obtain ⟨hbz, q0, q1, q2, q3, q4, q5, q6, q7, q8⟩ := WrAt.cells (WrAt.zero (box_up U1 (alloc2 w _ _)))
    simp only [wr0] at q0 q1 q2 q3 q4 q5 q6 q7 q8
    refine bodyPost_ret (v := .tuple #[noWr, .bool false]) (by simp [results, Tryz.results11, go_sem, q0, q1, q2, q3, q4, q5, q6, q7, q8]; rfl) rfl ⟨rfl, ?_⟩
    (repeat (first | with_reducible exact Up.refl _ | with_reducible assumption | with_reducible refine Up.set ?_ (by first | exact Nat.le_refl _ | (simp only []; omega) | (simp; omega)) _ | with_reducible refine Up.alloc ?_ _ | with_reducible refine Up.drew ?_ | refine Up.trans ?_ (by with_reducible assumption)))
  · simp only [if_true]
    rw [h1] at cV
    clear h1 hr
    simp only [kV] at *
    go_enter Tryz.func11, Tryz.ntmps11
    go_wp2_with (first | ((go_at_call 39; (with_reducible refine (cV _ (hrt _ (by (repeat (first | with_reducible exact Up.refl _ | with_reducible assumption | with_reducible refine Up.set ?_ (by first | exact Nat.le_refl _ | (simp only []; omega) | (simp; omega)) _ | with_reducible refine Up.alloc ?_ _ | with_reducible refine Up.drew ?_ | refine Up.trans ?_ (by with_reducible assumption)))))).mono ?_); rintro e w1 ⟨rfl, U1⟩; have B1 := bcell U1; have Z1 := U1.size; (try simp at Z1); (try rw [Nat.add_one_le_iff] at Z1))) | (go_at_call 40; (with_reducible refine (cY _ (hrt _ (by (repeat (first | with_reducible exact Up.refl _ | with_reducible assumption | with_reducible refine Up.set ?_ (by first | exact Nat.le_refl _ | (simp only []; omega) | (simp; omega)) _ | with_reducible refine Up.alloc ?_ _ | with_reducible refine Up.drew ?_ | refine Up.trans ?_ (by with_reducible assumption)))))).mono ?_); rintro e w2 ⟨v2, rfl, ho2, U2⟩; obtain ⟨a2, c2, rfl⟩ := ownsRow_shape ho2; simp only [kV]; have HZ := Lib.hid (WrAt.zero (box_up (U1.trans U2) (alloc2 w _ _))); obtain ⟨hbz, q0, q1, q2, q3, q4, q5, q6, q7, q8⟩ := WrAt.cells HZ.out; simp only [wr0] at q0 q1 q2 q3 q4 q5 q6 q7 q8; have hfz := box_free HZ.out; have HO := Lib.hid ho2; have hs1 := U1.size; simp at hs1; have HU := Lib.hid (show Up w w2 by (repeat (first | with_reducible exact Up.refl _ | with_reducible assumption | with_reducible refine Up.set ?_ (by first | exact Nat.le_refl _ | (simp only []; omega) | (simp; omega)) _ | with_reducible refine Up.alloc ?_ _ | with_reducible refine Up.drew ?_ | refine Up.trans ?_ (by with_reducible assumption)))); clear ho2) | fail)
    refine bodyPost_ret (v := .tuple #[wrV ⟨k, [], [], false⟩ (.slice a2 k.ps.length c2), .bool true]) (by simp [results, Tryz.results11, go_sem, q0, q1, q2, q3, q4, q5, q6, q7, q8]; rfl) rfl ⟨_, rfl, ?_, ?_⟩
    · exact WrW.own (b := w.heap.size + 1) (x := ⟨k, [], [], false⟩) (ownsRow_base HO.out (by omega)) (fun e => by have := (HO.out.lt _ e.symm).1; omega) _
    · exact WrW.up HU.out (Nat.le_succ _) ⟨k, [], [], false⟩ (.slice a2 k.ps.length c2)


theorem alloc3 (w : World) (A B C : Obj) : (((w.alloc A).alloc B).alloc C).heap[w.heap.size + 1]? = some B := box_up ((Up.refl _).alloc _) (alloc2 w A B)
theorem wdP_none {w w' : World} {e : Ending} (he : e = .returned (.tuple #[noWr, .string ⟨#[]⟩, .bool false])) (hu : Up w w') : WdPost none w e w' := ⟨he, hu⟩

set_option maxRecDepth 100000 in
set_option maxHeartbeats 8000000 in
theorem wdI_no (x : WrD) (v : Value) (lo : Nat) (d : List UInt8) (w : World) (hno : (wrvB x && fitsB x.k.set (x.pend ++ d)) = false) (hl : -9223372036854775808 ≤ x.k.set.lit ∧ x.k.set.lit ≤ 9223372036854775807) (hr : RdP lo w v x.k.ps) (hps : x.k.ps.length ≤ 1048576) (hp : x.pend.length ≤ 1048576) (hb : x.bits.length ≤ 1048576) (hd : d.length ≤ 1048576) :
    Calls Tryz.prog 12  #[wrV x v, .string (bs d)] w (WdPost none w) := by
  have cV := fun wq hr => wvI_any x v lo wq hl hr (by omega) (by omega) (by omega)
  have hrt := fun (wq : World) (hu : Up w wq) => hr.up hu
  have hsp := bs_size x.pend
  have hsd := bs_size d
  obtain ⟨a, cap, rfl, -, -, -, -⟩ := id hr
  cases h1 : wrvB x
  · rw [h1] at cV
    clear h1 hr hno
    unfold wrV at *
    go_enter Tryz.func12, Tryz.ntmps12
    go_wp2_with (first | ((go_at_call 41; (with_reducible refine (cV _ (hrt _ (by (repeat (first | with_reducible exact Up.refl _ | with_reducible assumption | with_reducible refine Up.set ?_ (by first | exact Nat.le_refl _ | (simp only []; omega) | (simp; omega)) _ | with_reducible refine Up.alloc ?_ _ | with_reducible refine Up.drew ?_ | refine Up.trans ?_ (by with_reducible assumption)))))).mono ?_); rintro e w1 ⟨rfl, U1⟩; have B1 := bcell U1; have Z1 := U1.size; (try simp at Z1); (try rw [Nat.add_one_le_iff] at Z1)); obtain ⟨hbz, q0, q1, q2, q3, q4, q5, q6, q7, q8⟩ := WrAt.cells (WrAt.zero (box_up U1 (alloc3 w _ _ _))); simp only [wr0] at q0 q1 q2 q3 q4 q5 q6 q7 q8; have hfz := box_free (box_up U1 (alloc3 w _ _ _))) | fail)
    obtain ⟨hbz, q0, q1, q2, q3, q4, q5, q6, q7, q8⟩ := WrAt.cells (WrAt.zero (box_up U1 (alloc3 w _ _ _)))
    simp only [wr0] at q0 q1 q2 q3 q4 q5 q6 q7 q8
    refine bodyPost_ret (v := .tuple #[noWr, .string ⟨#[]⟩, .bool false]) (by simp [results, Tryz.results12, go_sem, q0, q1, q2, q3, q4, q5, q6, q7, q8]; rfl) rfl (wdP_none rfl ?_)
    (repeat (first | with_reducible exact Up.refl _ | with_reducible assumption | with_reducible refine Up.set ?_ (by first | exact Nat.le_refl _ | (simp only []; omega) | (simp; omega)) _ | with_reducible refine Up.alloc ?_ _ | with_reducible refine Up.drew ?_ | refine Up.trans ?_ (by with_reducible assumption)))
  · rw [h1, Bool.true_and] at hno
    have cF := fun wq => fitsI_any x.k.set (bs (x.pend ++ d)) wq hl (by rw [bs_size, List.length_append]; omega)
    rw [bs_data, hno, ← bs_app] at cF
    rw [h1] at cV
    clear h1 hr hno
    unfold wrV at *
    simp only [kV, setV] at *
    go_enter Tryz.func12, Tryz.ntmps12
    go_wp2_with (first | ((go_at_call 41; (with_reducible refine (cV _ (hrt _ (by (repeat (first | with_reducible exact Up.refl _ | with_reducible assumption | with_reducible refine Up.set ?_ (by first | exact Nat.le_refl _ | (simp only []; omega) | (simp; omega)) _ | with_reducible refine Up.alloc ?_ _ | with_reducible refine Up.drew ?_ | refine Up.trans ?_ (by with_reducible assumption)))))).mono ?_); rintro e w1 ⟨rfl, U1⟩; have B1 := bcell U1; have Z1 := U1.size; (try simp at Z1); (try rw [Nat.add_one_le_iff] at Z1))) | ((go_at_call 42; (with_reducible refine (cF _).mono ?_); rintro e w2 ⟨rfl, U2⟩; have B2 := bcell U2; have Z2 := U2.size; (try simp at Z2); (try rw [Nat.add_one_le_iff] at Z2)); obtain ⟨hbz, q0, q1, q2, q3, q4, q5, q6, q7, q8⟩ := WrAt.cells (WrAt.zero (box_up (U1.trans U2) (alloc3 w _ _ _))); simp only [wr0] at q0 q1 q2 q3 q4 q5 q6 q7 q8; have hfz := box_free (box_up (U1.trans U2) (alloc3 w _ _ _))) | fail)
    obtain ⟨hbz, q0, q1, q2, q3, q4, q5, q6, q7, q8⟩ := WrAt.cells (WrAt.zero (box_up (U1.trans U2) (alloc3 w _ _ _)))
    simp only [wr0] at q0 q1 q2 q3 q4 q5 q6 q7 q8
    refine bodyPost_ret (v := .tuple #[noWr, .string ⟨#[]⟩, .bool false]) (by simp [results, Tryz.results12, go_sem, q0, q1, q2, q3, q4, q5, q6, q7, q8]; rfl) rfl (wdP_none rfl ?_)
    (repeat (first | with_reducible exact Up.refl _ | with_reducible assumption | with_reducible refine Up.set ?_ (by first | exact Nat.le_refl _ | (simp only []; omega) | (simp; omega)) _ | with_reducible refine Up.alloc ?_ _ | with_reducible refine Up.drew ?_ | refine Up.trans ?_ (by with_reducible assumption)))

theorem wr_first (x : WrD) (v : Value) (w : World) (B C : Obj) : WrAt w.heap.size x v (((w.alloc (.cells #[.int .i64 x.k.set.ord, .int .i64 x.k.set.lit, .int .i64 x.k.set.most, v, .int .i64 x.k.base, .int .i64 x.k.last, .string (bs x.pend), .string (bs x.bits), .bool x.beg] 37)).alloc B).alloc C) := box_up (((Up.refl _).alloc _).alloc _) (MapKept.heap_alloc w _).1

set_option maxRecDepth 100000 in
set_option maxHeartbeats 8000000 in
theorem wdI_nil (x : WrD) (v : Value) (lo : Nat) (w : World) (hok : wrvB x = true) (hfit : fitsB x.k.set x.pend = true) (hl : -9223372036854775808 ≤ x.k.set.lit ∧ x.k.set.lit ≤ 9223372036854775807) (hr : RdP lo w v x.k.ps) (hps : x.k.ps.length ≤ 1048576) (hp : x.pend.length ≤ 1048576) (hb : x.bits.length ≤ 1048576) :
    Calls Tryz.prog 12  #[wrV x v, .string ⟨#[]⟩] w (WdPost (some (x, [])) w) := by
  have cV := fun wq hr => wvI_any x v lo wq hl hr (by omega) (by omega) (by omega)
  have hrt := fun (wq : World) (hu : Up w wq) => hr.up hu
  have hsp := bs_size x.pend
  have cF := fun wq => fitsI_any x.k.set (bs x.pend) wq hl (by rw [bs_size]; omega)
  have cY := fun wx hr => copyI_any x.k v lo wx hr (by omega)
  rw [bs_data, hfit] at cF
  rw [hok] at cV
  have hcat : bs x.pend ++ (⟨#[]⟩ : ByteArray) = bs x.pend := by
    have := bs_app x.pend []
    rw [List.append_nil] at this
    exact this
  rw [← hcat] at cF
  obtain ⟨a, cap, rfl, -, -, -, -⟩ := id hr
  unfold WdPost
  simp only []
  clear hok hfit hr hcat
  unfold wrV at *
  simp only [kV, setV] at *
  go_enter Tryz.func12, Tryz.ntmps12
  go_wp2_with (first | ((go_at_call 41; (with_reducible refine (cV _ (hrt _ (by (repeat (first | with_reducible exact Up.refl _ | with_reducible assumption | with_reducible refine Up.set ?_ (by first | exact Nat.le_refl _ | (simp only []; omega) | (simp; omega)) _ | with_reducible refine Up.alloc ?_ _ | with_reducible refine Up.drew ?_ | refine Up.trans ?_ (by with_reducible assumption)))))).mono ?_); rintro e w1 ⟨rfl, U1⟩; have B1 := bcell U1; have Z1 := U1.size; (try simp at Z1); (try rw [Nat.add_one_le_iff] at Z1))) | ((go_at_call 42; (with_reducible refine (cF _).mono ?_); rintro e w2 ⟨rfl, U2⟩; have B2 := bcell U2; have Z2 := U2.size; (try simp at Z2); (try rw [Nat.add_one_le_iff] at Z2)); obtain ⟨hbx, r0, r1, r2, r3, r4, r5, r6, r7, r8⟩ := WrAt.cells (((wr_first x (.slice a x.k.ps.length cap) w _ _).up U1).up U2)) | (go_at_call 40; (with_reducible refine (cY _ (hrt _ (by (repeat (first | with_reducible exact Up.refl _ | with_reducible assumption | with_reducible refine Up.set ?_ (by first | exact Nat.le_refl _ | (simp only []; omega) | (simp; omega)) _ | with_reducible refine Up.alloc ?_ _ | with_reducible refine Up.drew ?_ | refine Up.trans ?_ (by with_reducible assumption)))))).mono ?_); rintro e w3 ⟨v3, rfl, ho3, U3⟩; obtain ⟨a3, c3, rfl⟩ := ownsRow_shape ho3; simp only [kV]; have HZ := Lib.hid (WrAt.zero (box_up ((U1.trans U2).trans U3) (alloc3 w _ _ _))); have HX := Lib.hid ((((wr_first x (.slice a x.k.ps.length cap) w _ _).up U1).up U2).up U3); obtain ⟨hbz, q0, q1, q2, q3, q4, q5, q6, q7, q8⟩ := WrAt.cells HZ.out; simp only [wr0] at q0 q1 q2 q3 q4 q5 q6 q7 q8; obtain ⟨hbx, r0, r1, r2, r3, r4, r5, r6, r7, r8⟩ := WrAt.cells HX.out; have hfx := box_free HX.out; have hfz := box_free HZ.out; have HO := Lib.hid ho3; have hs1 := U1.size; have hs2 := U2.size; simp at hs1; have HU := Lib.hid (show Up w w3 by (repeat (first | with_reducible exact Up.refl _ | with_reducible assumption | with_reducible refine Up.set ?_ (by first | exact Nat.le_refl _ | (simp only []; omega) | (simp; omega)) _ | with_reducible refine Up.alloc ?_ _ | with_reducible refine Up.drew ?_ | refine Up.trans ?_ (by with_reducible assumption)))); clear ho3) | fail)
  refine bodyPost_ret (v := .tuple #[.agg #[.int .i64 x.k.set.ord, .int .i64 x.k.set.lit, .int .i64 x.k.set.most, .slice a3 x.k.ps.length c3, .int .i64 x.k.base, .int .i64 x.k.last, .string (bs x.pend), .string (bs x.bits), .bool x.beg], .string (bs []), .bool true]) (by simp [results, Tryz.results12, go_sem, q0, q1, q2, q3, q4, q5, q6, q7, q8, r0, r1, r2, r3, r4, r5, r6, r7, r8]; rfl) rfl ⟨.slice a3 x.k.ps.length c3, rfl, ?_, ?_⟩
  · have ho := ownsRow_base HO.out (show w.heap.size ≤ w2.heap.size by omega)
    have hlo := fun b e => (HO.out.lt b e).1
    exact WrW.own (b := w.heap.size + 1) (KnW.own ho (b := w.heap.size) (fun e => by have := hlo _ e.symm; omega) x.k _) (fun e => by have := hlo _ e.symm; omega) x _
  · exact WrW.up (KnW.up HU.out (Nat.le_refl _) x.k _) (Nat.le_succ _) x _

def RelWl (T : List UInt8 × KnD × List UInt8) (s : SetD) (a0 : World) (cb : Nat) (t : Value) (wr : World) : Prop := ∃ (k : KnD) (d b : List UInt8) (m : Nat), t = .string (bs d) ∧ WlD T s m k d b ∧ CdEx a0 cb k b wr

set_option maxRecDepth 100000 in
set_option maxHeartbeats 16000000 in
theorem wdI_main (x : WrD) (v : Value) (lo : Nat) (d : List UInt8) (w : World) (hok : wrvB x = true) (hfit : fitsB x.k.set (x.pend ++ d) = true) (hd0 : d ≠ []) (hl : -9223372036854775808 ≤ x.k.set.lit ∧ x.k.set.lit ≤ 9223372036854775807) (hr : RdP lo w v x.k.ps) :
    Calls Tryz.prog 12  #[wrV x v, .string (bs d)] w (WdPost (some (x.write d)) w) := by
  have hwo := wrvB_ok hok
  obtain ⟨f1, f2, f3⟩ := fitsB_lits hfit
  have hk := hwo.1
  have hb7 := hwo.2.2.2.2.2.1
  have hpl := hk.nums.2.2.2.1
  have hp2 := hwo.2.2.2.1
  have cV := fun wq hr => wvI_any x v lo wq hl hr (by omega) (by omega) (by omega)
  have hrt := fun (wq : World) (hu : Up w wq) => hr.up hu
  have hsp := bs_size x.pend
  have hsd := bs_size d
  have hdl : d.length ≤ 2000 := by rw [List.length_append] at f2; omega
  have cF := fun wq => fitsI_any x.k.set (bs (x.pend ++ d)) wq hl (by rw [bs_size, List.length_append]; omega)
  rw [bs_data, hfit, ← bs_app] at cF
  rw [hok] at cV
  have cO := fun wq hr => coderOf_any x v lo wq hk hr (by omega)
  have cC0 := fun w => clearI_any x.k.set w hk.set
  have HST := Lib.hid (WlD.start hwo hd0 (fun b hb => f3 b (List.mem_append_right _ hb)) f2)
  have hwr : Hid (x.write d = (⟨(x.codes d).2.1, (x.codes d).2.2, (x.all d).drop ((x.all d).length / 8 * 8), true⟩, packL x.k.set.ord ((x.all d).take ((x.all d).length / 8 * 8)))) := by
    unfold Hid WrD.write
    rw [if_neg hd0]
  rw [hwr.out]
  obtain ⟨T1, hT1⟩ : ∃ T1, Hid (T1 = x.all d) := ⟨_, rfl⟩
  obtain ⟨T2, hT2⟩ : ∃ T2, Hid (T2 = x.codes d) := ⟨_, rfl⟩
  rw [← hT1.out, ← hT2.out] at HST ⊢
  have HDE := isEmpty_bs hd0
  have ho := (setOk_bd hk.set).1
  have HS := Lib.hid hk.set
  obtain ⟨a, cap, rfl, -, -, -, -⟩ := id hr
  have hso := hk.set
  clear hok hfit hr hwo f1 f3 hwr hT1 hT2 hd0 hk
  unfold wrV at *
  simp only [kV, setV] at *
  go_enter Tryz.func12, Tryz.ntmps12
  go_wp2_with (first | ((go_at_call 41; (with_reducible refine (cV _ (hrt _ (by (repeat (first | with_reducible exact Up.refl _ | with_reducible assumption | with_reducible refine Up.set ?_ (by first | exact Nat.le_refl _ | (simp only []; omega) | (simp; omega)) _ | with_reducible refine Up.alloc ?_ _ | with_reducible refine Up.drew ?_ | refine Up.trans ?_ (by with_reducible assumption)))))).mono ?_); rintro e w1 ⟨rfl, U1⟩; have B1 := bcell U1; have Z1 := U1.size; (try simp at Z1); (try rw [Nat.add_one_le_iff] at Z1))) | ((go_at_call 42; (with_reducible refine (cF _).mono ?_); rintro e w2 ⟨rfl, U2⟩; have B2 := bcell U2; have Z2 := U2.size; (try simp at Z2); (try rw [Nat.add_one_le_iff] at Z2)); obtain ⟨hbx, r0, r1, r2, r3, r4, r5, r6, r7, r8⟩ := WrAt.cells (((wr_first x (.slice a x.k.ps.length cap) w _ _).up U1).up U2)) | fail)
  with_reducible refine (cO _ (hrt _ (by (repeat (first | with_reducible exact Up.refl _ | with_reducible assumption | with_reducible refine Up.set ?_ (by first | exact Nat.le_refl _ | (simp only []; omega) | (simp; omega)) _ | with_reducible refine Up.alloc ?_ _ | with_reducible refine Up.drew ?_ | refine Up.trans ?_ (by with_reducible assumption)))))).mono ?_
  rintro e w3 ⟨cb, rfl, hC⟩
  have U3 := hC.1
  have HX := Lib.hid (((wr_first x (.slice a x.k.ps.length cap) w _ _).up U1).up U2)
  have HZ := Lib.hid (WrAt.zero (box_up (U1.trans U2) (alloc3 w _ _ _)))
  have hS3 : SetAt (w.heap.size + 1 + 1) x.k.set.ord x.k.set.lit x.k.set.most w2 := box_up (U1.trans U2) (by have := (MapKept.heap_alloc ((w.alloc (.cells #[.int .i64 x.k.set.ord, .int .i64 x.k.set.lit, .int .i64 x.k.set.most, .slice a x.k.ps.length cap, .int .i64 x.k.base, .int .i64 x.k.last, .string (bs x.pend), .string (bs x.bits), .bool x.beg] 37)).alloc (.cells #[.int .i64 0, .int .i64 0, .int .i64 0, .slice none 0 0, .int .i64 0, .int .i64 0, .string ⟨#[]⟩, .string ⟨#[]⟩, .bool false] 37)) (.cells #[.int .i64 x.k.set.ord, .int .i64 x.k.set.lit, .int .i64 x.k.set.most] 24)).1; simpa using this)
  have HS3 := Lib.hid hS3
  have HU := Lib.hid (show Up w w2 by (repeat (first | with_reducible exact Up.refl _ | with_reducible assumption | with_reducible refine Up.set ?_ (by first | exact Nat.le_refl _ | (simp only []; omega) | (simp; omega)) _ | with_reducible refine Up.alloc ?_ _ | with_reducible refine Up.drew ?_ | refine Up.trans ?_ (by with_reducible assumption))))
  have hw2s : w.heap.size + 3 ≤ w2.heap.size := by have h1 := U1.size; have h2 := U2.size; simp at h1; omega
  have HC := Lib.hid hC
  obtain ⟨hbx, r0, r1, r2, r3, r4, r5, r6, r7, r8⟩ := WrAt.cells (HX.out.up U3)
  clear hC U1 U2 U3 B1 B2 Z1 Z2 hS3 cV cF cO hrt
  go_wp2
  go_loopw [9] (fun t wr => RelWl (T1, T2.2) x.k.set w2 cb t wr) (fun t _ => slen t)
  case atStart => exact ⟨x.open.2, x.pend ++ d, x.open.1, _, congrArg Value.string (bs_app _ _), HST.out, HC.out⟩
  case round =>
    clear HST HC r0 r1 r2 r3 r4 r5 r6 r7 r8
    obtain ⟨k, e, b, m, rfl, hD, hCx⟩ := hrel
    obtain ⟨hUx, tb, vp, vn, vi, vb, hC⟩ := id hCx
    have hok := hD.ok
    have hset := hD.set
    have hne := hD.ne
    have hle2 := hD.le
    have hsum := hD.sum
    have hpos := List.length_pos_iff.2 hne
    have hse := bs_size e
    have cL := fun wq hT => longest_any w2.heap.size tb k vp vn vi (bs e) wq hT hok (by rw [bs_size]; exact hpos) (by rw [bs_size]; omega) (by rw [bs_data]; exact hD.lits)
    rw [bs_data] at cL
    have d0 := box_cell hC.box 0
    simp at d0
    have hcbl := hC.lt
    have hsz := hUx.size
    by_cases hle : k.longest e = e
    · have hT := hD.stop hle
      simp only [Prod.mk.injEq] at hT
      obtain ⟨hT1, hT2⟩ := hT
      have hk2 : T2.2.1 = k := by rw [hT2]
      have hp2 : T2.2.2 = e := by rw [hT2]
      rw [hle] at cL
      have HT2 := Lib.hid (And.intro hk2 hp2)
      subst hT1
      have hbit := hD.bit
      have cPk := fun wq => packI_any x.k.set.ord (bs (T1.take (T1.length / 8 * 8))) wq ho (by rw [bs_data]; exact hbit.take _) (by rw [bs_size, List.length_take]; omega)
      rw [bs_data] at cPk
      have cYk := fun wx hr => copyI_any k vp w2.heap.size wx hr (by have := hok.nums; omega)
      simp only [kV] at cYk
      have HD := Lib.hid hD
      have HCx := Lib.hid hCx
      have HCA := Lib.hid hC
      clear hD hCx hC hT2 hle hne hk2 hp2 hbit hset
      go_wp2_with (first | ((go_at_call 44; (with_reducible refine (cL _ HCA.out.tree).mono ?_); rintro e w4 ⟨rfl, U4⟩; have B4 := bcell U4; have Z4 := U4.size; (try simp at Z4); (try rw [Nat.add_one_le_iff] at Z4))) | fail)
      obtain ⟨gv, cv, hvb⟩ := HCA.out.own.shape
      subst hvb
      obtain ⟨ap, cp, hvp⟩ := HCA.out.tree.shape
      subst hvp
      obtain ⟨g0, c0, e0, -, -, hcv1, hcv2, -⟩ := HCA.out.own.cells
      simp only [Value.slice.injEq] at e0
      obtain ⟨-, -, rfl⟩ := e0
      clear g0
      have hU4 := HU.out.trans (HCx.out.1.trans U4)
      have HCB := Lib.hid (HCA.out.up U4)
      have HW4 := Lib.hid (And.intro (hUx.trans U4) hU4)
      have hblen : T1.length ≤ 41000 := by omega
      have hq : ((T1.length : Int) - (T1.length : Int) % 8) = ((T1.length / 8 * 8 : Nat) : Int) := by omega
      have hq2 : T1.length / 8 * 8 ≤ T1.length := by omega
      have HQ := Lib.hid hq
      unfold maxLen at hcv2
      clear hU4 U4 B4 Z4 HCA HCx d0 cL hq hUx
      refine wp_region_up 12 (by kernel_rfl) (by kernel_rfl) ?_
      simp only [List.take, List.drop]
      repeat (refine wpUp_step (fun K hK => ?_); go_simp; (try simp only [↓IntWalk.iteOmega]); first
        | (refine hK _ _ ?_; clear hK K)
        | (apply stepU_c
           · intro wq hwq; (have hbq := bcell hwq; (repeat (first | refine fills_no (by rfl) ?_ | refine fills_yes (by rfl) (fun vq hvq => ?_))); simp only [List.filter_nil, fills]; unfold upAt; (try ((have d1 := box_cell (HCB.out.up hwq).box 1; simp at d1))); go_simp; (try go_bits); (try simp only [↓IntWalk.iteOmega]); (try (rw [dif_pos (by omega)]; go_simp; try go_bits)); first | exact upOut_value)
           go_simp; refine hK _ _ ?_; clear hK K))
      refine wpUp_nil (fun wq hwq => ?_)
      simp only [fills]
      rw [HQ.out]
      have hqlen : (T1.drop (T1.length / 8 * 8)).length = T1.length - T1.length / 8 * 8 := List.length_drop
      have hqt : ((T1.length : Nat) : Int) - ((T1.length / 8 * 8 : Nat) : Int) = ((T1.length - T1.length / 8 * 8 : Nat) : Int) := by omega
      have hck : (cv : Int) - ((T1.length / 8 * 8 : Nat) : Int) = ((cv - T1.length / 8 * 8 : Nat) : Int) := by omega
      generalize T1.length / 8 * 8 = q at *
      go_wp2
      have HCD := Lib.hid (HCB.out.up hwq)
      have HWD := Lib.hid (And.intro (HW4.out.1.trans hwq) (HW4.out.2.trans hwq))
      clear hwq HQ HCB HW4
      refine wp_region_up 10 (by kernel_rfl) (by kernel_rfl) ?_
      simp only [List.take, List.drop]
      repeat (refine wpUp_step (fun K hK => ?_); go_simp; (try simp only [↓IntWalk.iteOmega]); first
        | (refine hK _ _ ?_; clear hK K)
        | (apply stepU_c
           · intro wq hwq; (have hbq := bcell hwq; (repeat (first | refine fills_no (by rfl) ?_ | refine fills_yes (by rfl) (fun vq hvq => ?_))); simp only [List.filter_nil, fills]; unfold upAt; (try ((have d1 := box_cell (HCD.out.up hwq).box 1; simp at d1; obtain ⟨-, s0, s1, s2⟩ := SetAt.cells (box_up (HWD.out.1.trans hwq) HS3.out); have hconv := conv_M (m := q) (c := cv) (HCD.out.up hwq).own hq2))); go_simp; (try go_bits); (try simp only [↓IntWalk.iteOmega]); (try (rw [dif_pos (by omega)]; go_simp; try go_bits)); first | exact upOut_value | (apply upOut_call; (go_at_call 48; exact cPk _)) | (apply upOut_eq; (go_at_call 48; exact cPk _)))
           go_simp; refine hK _ _ ?_; clear hK K))
      refine wpUp_nil (fun wq hwq => ?_)
      simp only [fills]
      go_wp2
      have HCE := Lib.hid (HCD.out.up hwq)
      have HWE := Lib.hid (And.intro (HWD.out.1.trans hwq) (HWD.out.2.trans hwq))
      clear hwq HCD HWD
      refine wp_region_upf 18 (by kernel_rfl) (by kernel_rfl) ?_
      simp only [List.take, List.drop]
      repeat (refine wpUp_step (fun K hK => ?_); go_simp; (try simp only [↓IntWalk.iteOmega]); first
        | (refine hK _ _ ?_; clear hK K)
        | (refine stepU_m (by kernel_rfl) ((fun (u : Value) w' => ∃ v9, u = wrV ⟨k, e, T1.drop q, true⟩ v9 ∧ ownPr w' w2.heap.size v9 k.ps)) ((fun u w w' ⟨v9, h1, h2⟩ hu => ⟨v9, h1, ownsRow_up h2 hu⟩)) (fun wq hwq => ?_) ?_
           · (have hbq := bcell hwq; (repeat (first | refine fills_no (by rfl) ?_ | refine fills_yes (by rfl) (fun vq hvq => ?_))); simp only [List.filter_nil, fills]; (obtain ⟨v9, rfl, ho9⟩ := hvq; unfold upAt; go_simp; exact upOut_make (Up.refl _) ⟨v9, rfl, ho9⟩))
           refine hK _ _ ?_; clear hK K)
        | (apply stepU_c
           · intro wq hwq; (have hbq := bcell hwq; (repeat (first | refine fills_no (by rfl) ?_ | refine fills_yes (by rfl) (fun vq hvq => ?_))); simp only [List.filter_nil, fills]; unfold upAt; (try ((have d0 := box_cell (HCE.out.up hwq).box 0; have d1 := box_cell (HCE.out.up hwq).box 1; simp at d0 d1; obtain ⟨c0, c1, c2, c3, c4, c5, c6, c7⟩ := (HCE.out.up hwq).tree.cells; have hconv := conv_If (c := cv - q) (HCE.out.up hwq).own hq2))); go_simp; (try go_bits); (try simp only [↓IntWalk.iteOmega]); (try (rw [dif_pos (by omega)]; go_simp; try go_bits)); first | exact upOut_value)
           go_simp; refine hK _ _ ?_; clear hK K)
        | (refine stepU_m (by kernel_rfl) (KnO w2.heap.size k) (knO_closed _ _) (fun wq hwq => ?_) ?_
           · (have hbq := bcell hwq; (repeat (first | refine fills_no (by rfl) ?_ | refine fills_yes (by rfl) (fun vq hvq => ?_))); simp only [List.filter_nil, fills]; unfold upAt; (try ((have d0 := box_cell (HCE.out.up hwq).box 0; have d1 := box_cell (HCE.out.up hwq).box 1; simp at d0 d1; obtain ⟨c0, c1, c2, c3, c4, c5, c6, c7⟩ := (HCE.out.up hwq).tree.cells; have hconv := conv_If (c := cv - q) (HCE.out.up hwq).own hq2))); go_simp; (try go_bits); (try simp only [↓IntWalk.iteOmega]); (try (rw [dif_pos (by omega)]; go_simp; try go_bits)); ((with_reducible refine upOut_known ?_ (Nat.le_trans HWE.out.1.size hwq.size)); go_at_call 40; exact cYk _ (RdP.of_own (HCE.out.up hwq).tree.prs)))
           refine hK _ _ ?_; clear hK K))
      refine wpUp_nil (fun wq hwq => ?_)
      simp only [fills]
      rintro u1 ⟨v9, rfl, ho9⟩ u2 -
      obtain ⟨a9, c9, rfl⟩ := ownsRow_shape ho9
      have HZq := Lib.hid (WrAt.up HZ.out (HWE.out.1.trans hwq))
      obtain ⟨hbz, q0, q1, q2, q3, q4, q5, q6, q7, q8⟩ := WrAt.cells HZq.out
      simp only [wr0] at q0 q1 q2 q3 q4 q5 q6 q7 q8
      have hfz := box_free HZq.out
      have HO9 := Lib.hid ho9
      have HU9 := Lib.hid (HWE.out.2.trans hwq)
      have hne9 : some (w.heap.size + 1) ≠ Value.ownBlock (.slice a9 k.ps.length c9) := fun e => by have := (ho9.lt _ e.symm).1; omega
      clear ho9 hwq HWE HCE
      generalize (if cv = q then (some (⟨gv, 0, none⟩ : Addr)) else some ⟨gv, q, none⟩) = sl at *
      unfold wrV
      go_wp2
      rw [onlyN_normal]
      go_wp2
      refine bodyPost_ret (v := .tuple #[wrV ⟨k, e, T1.drop q, true⟩ (.slice a9 k.ps.length c9), .string (bs (packL x.k.set.ord (T1.take q))), .bool true]) (by simp [results, Tryz.results12, go_sem, q0, q1, q2, q3, q4, q5, q6, q7, q8]; rfl) rfl ?_
      rw [HT2.out.1, HT2.out.2]
      refine ⟨_, rfl, ?_, ?_⟩
      · exact WrW.own (b := w.heap.size + 1) (x := ⟨k, e, T1.drop q, true⟩) (ownsRow_base HO9.out (by omega)) hne9 _
      · exact WrW.up HU9.out (Nat.le_succ _) ⟨k, e, T1.drop q, true⟩ (.slice a9 k.ps.length c9)
    · obtain ⟨⟨hfw, hxc, hxe, hlp, hlt⟩, hfull, hmore⟩ := hD.step hle
      have hfb := KnD.find_bd hok hfw
      have hc := c_of hset
      obtain ⟨n, hn⟩ := Int.eq_ofNat_of_zero_le hfb.1
      have hka := KnD.after_ok hok hfw
      have hth := KnD.thru_fol hok hfw
      have hwd := KnD.width_bd hok
      obtain ⟨k9, hk9⟩ : ∃ k9, Hid (k9 = k.after (k.find (k.longest e))) := ⟨_, rfl⟩
      rw [← hk9.out] at hfull hmore hka hth
      rw [hn] at hfull hmore hth cL hxc hxe hfw
      rw [Int.toNat_natCast] at hfull hmore
      have hs9 : k9.set = x.k.set := by rw [hk9.out]; exact hset
      have cWr := fun wx hx => write_any w2 cb k b n wx hx hok (by omega) (by omega) (.inr (.inr ⟨hxc, hxe, hfw⟩))
      rw [hth, hset] at cWr
      have hbd : (bs e).extract (k.longest e).length e.length = bs (e.drop (k.longest e).length) := by rw [bs_ext]; congr 1; exact List.take_of_length_le (by rw [List.length_drop]; omega)
      have HBD := Lib.hid hbd
      have hlen9 : (b ++ codeL x.k.set.ord n k.width).length ≤ 800000 := by rw [List.length_append, codeL_length]; omega
      have HX9 := Lib.hid (And.intro hfull hmore)
      have HK9 := Lib.hid hka
      have HS9 := Lib.hid hs9
      have HCx := Lib.hid hCx
      have HCA := Lib.hid hC
      have hdl9 : (e.drop (k.longest e).length).length < e.length := by rw [List.length_drop]; omega
      clear hfull hmore hth hxc hxe hfw hn hk9 hbd hle hD hCx hC hok hset hs9 hc hka
      generalize b ++ codeL x.k.set.ord n k.width = b9 at *
      generalize e.drop (k.longest e).length = e9 at *
      generalize (k.longest e).length = ln at *
      go_wp2_with (first | ((go_at_call 44; (with_reducible refine (cL _ HCA.out.tree).mono ?_); rintro e w4 ⟨rfl, U4⟩; have B4 := bcell U4; have Z4 := U4.size; (try simp at Z4); (try rw [Nat.add_one_le_iff] at Z4))) | fail)
      with_reducible refine (cWr _ (HCx.out.up U4)).mono ?_
      rintro ee w5 ⟨⟨v5, rfl⟩, hC5⟩
      have HC5 := Lib.hid hC5
      obtain ⟨hU5, tb5, vp5, vn5, vi5, vb5, hA5⟩ := hC5
      have d0 := box_cell hA5.box 0
      simp at d0
      obtain ⟨c0, c1, c2, c3, c4, c5, c6, c7⟩ := hA5.tree.cells
      obtain ⟨ap, cp, hvp⟩ := hA5.tree.shape
      subst hvp
      have hok9 := HK9.out
      have hpl9 := hok9.nums.2.2.2.1
      have cQ := fun w => fullI_any k9.set k9.base k9.last ap k9.ps.length cp w hok9.set (by omega)
      rw [fullN_eq] at cQ
      simp only [knV] at cQ
      have hcb5 := hA5.lt
      have htb5 := hA5.tree.lt
      have hsz5 := hU5.size
      clear hok9 hA5 B4 U4
      cases hf : k9.full
      · rw [hf] at cQ
        have HN := Lib.hid (HX9.out.2 hf)
        clear hf
        go_wp2_with (first | ((go_at_call 46; (with_reducible refine (cQ _).mono ?_); rintro e w6 ⟨rfl, U6⟩; have B6 := bcell U6; have Z6 := U6.size; (try simp at Z6); (try rw [Nat.add_one_le_iff] at Z6))) | fail)
        rw [HBD.out]
        go_roundw
        case rel => exact ⟨k9, e9, b9, m - 1, rfl, HN.out, HC5.out.up U6⟩
        case measure => simp only [slen]; rw [bs_size, bs_size]; exact hdl9
      · rw [hf] at cQ
        have HN := Lib.hid (HX9.out.1 hf)
        have hclr := (clr_bd HS.out).2.1
        have hc9 : k9.c = clr x.k.set := by unfold KnD.c; rw [HS9.out]
        have cWc := fun wx hx => write_any w2 cb k9 b9 (clr x.k.set) wx hx HK9.out (by omega) (by omega) (.inr (.inl (by rw [hc9])))
        rw [show k9.thru ((clr x.k.set : Nat) : Int) = k9.cleared by rw [← hc9]; exact thru_clear k9, HS9.out] at cWc
        obtain ⟨hbs, s0, s1, s2⟩ := SetAt.cells (box_up hU5 HS3.out)
        have HUU := Lib.hid hU5
        clear hf hc9
        go_wp2_with (first | ((go_at_call 46; (with_reducible refine (cQ _).mono ?_); rintro e w6 ⟨rfl, U6⟩; have B6 := bcell U6; have Z6 := U6.size; (try simp at Z6); (try rw [Nat.add_one_le_iff] at Z6))) | ((go_at_call 47; (with_reducible refine (cC0 _).mono ?_); rintro e w7 ⟨rfl, U7⟩; have B7 := bcell U7; have Z7 := U7.size; (try simp at Z7); (try rw [Nat.add_one_le_iff] at Z7))) | fail)
        with_reducible refine (cWc _ (HC5.out.up (U6.trans U7))).mono ?_
        rintro ee w8 ⟨⟨v8, rfl⟩, hC8⟩
        have HC8 := Lib.hid hC8
        clear hC8
        go_wp2
        rw [HBD.out]
        go_roundw
        case rel => exact ⟨k9.cleared, e9, _, m - 1, rfl, HN.out, HC8.out⟩
        case measure => simp only [slen]; rw [bs_size, bs_size]; exact hdl9

/-- WriteData for a writer of any kind. -/
theorem wdI_any (x : WrD) (v : Value) (lo : Nat) (d : List UInt8) (w : World) (hl : -9223372036854775808 ≤ x.k.set.lit ∧ x.k.set.lit ≤ 9223372036854775807) (hr : RdP lo w v x.k.ps) (hps : x.k.ps.length ≤ 1048576) (hp : x.pend.length ≤ 1048576) (hb : x.bits.length ≤ 1048576) (hd : d.length ≤ 1048576) :
    Calls Tryz.prog 12  #[wrV x v, .string (bs d)] w (WdPost (wdO x d) w) := by
  cases h : (wrvB x && fitsB x.k.set (x.pend ++ d))
  · rw [wdO_none h]
    exact wdI_no x v lo d w h hl hr hps hp hb hd
  · rw [wdO_some h]
    obtain ⟨h1, h2⟩ := Bool.and_eq_true_iff.1 h
    by_cases hd0 : d = []
    · subst hd0
      rw [List.append_nil] at h2
      have e : x.write [] = (x, []) := by unfold WrD.write; rw [if_pos rfl]
      rw [e]
      exact wdI_nil x v lo w h1 h2 hl hr hps hp hb
    · exact wdI_main x v lo d w h1 h2 hd0 hl hr

end Go.Proofs.YtgbakgaegldomaaGreat

/- Walks of the reference's l9OwnKnown, l3Copy, l9OwnWriter, BitsValid, WriterValid, NewWriter. Conditions: the pairs can be read. -/
namespace Go.Proofs.YtgbakgaegldomaaGreat
set_option linter.unusedVariables false
set_option linter.unusedSimpArgs false
open Go Go.RowKit

theorem wpList_copyE {ops : Array Oper} {rest : List Oper} {o : Oper} {a : Act} {w : World} {Q : Exit → Act → World → Prop} (hgd : o.guard = none) (s x : Operand)
    (ho : o.op = .call { callee := .builtin .append, args := #[s, x], argTypes := #[25, 25] }) (base lo : Nat) {vs vx : Value} (hs : a.eval s = vs) (hx : a.eval x = vx) {g : Nat} (hvs : vs = .slice (some ⟨g, 0, none⟩) 0 0) (hown : w.ownsRow base 118 2 vs 0 []) (ps : List PairD) (hr : RdP lo w vx ps) (hl : ps.length ≤ 1048576) (hbase : base ≤ w.heap.size)
    (h : ∀ v' w', ownPr w' base v' ps → Up w w' → wpList Tryz.prog ops Q rest (a.put o.dst v') w') : wpList Tryz.prog ops Q (o :: rest) a w :=
  wpList_plain hgd fun _ hK => (gAt_up (upAt_copy s x ho base lo hs hx hvs hown ps hr hl hbase)).wp (fun v' w' hu hD => hK _ _ (h v' w' hD hu))

theorem own_empty2 (w : World) (A B : Obj) : (((w.alloc A).alloc B).alloc (.cells #[] 118)).ownsRow (w.heap.size + 2) 118 2 (.slice (some ⟨w.heap.size + 1 + 1, 0, none⟩) 0 0) 0 [] := by
  have h := World.ownsRow_made (base := w.heap.size + 2) (e := 118) (size := 2) ((w.alloc A).alloc B) #[] 0 (by simp) (by unfold maxLen; omega) (by simp)
  simpa using h
theorem own_empty3 (w : World) (A B C : Obj) : ((((w.alloc A).alloc B).alloc C).alloc (.cells #[] 118)).ownsRow (w.heap.size + 3) 118 2 (.slice (some ⟨w.heap.size + 1 + 1 + 1, 0, none⟩) 0 0) 0 [] := by
  have h := World.ownsRow_made (base := w.heap.size + 3) (e := 118) (size := 2) (((w.alloc A).alloc B).alloc C) #[] 0 (by simp) (by unfold maxLen; omega) (by simp)
  simpa using h

set_option maxRecDepth 100000 in
set_option maxHeartbeats 4000000 in
theorem ownKS_any (k : KnD) (v : Value) (lo : Nat) (w : World) (hr : RdP lo w v k.ps) (hl : k.ps.length ≤ 1048576) :
    Calls Tryz.prog 120  #[kV k v] w (KnPost k w) := by
  have hrt := fun (wq : World) (hu : Up w wq) => hr.up hu
  obtain ⟨a, cap, rfl, -, -, -, -⟩ := hr
  simp only [kV]
  have hn2 : w.heap.size + 2 ≤ ((w.alloc (.cells #[.int .i64 k.set.ord, .int .i64 k.set.lit, .int .i64 k.set.most, .slice a k.ps.length cap, .int .i64 k.base, .int .i64 k.last] 27)).alloc (.cells #[.int .i64 0, .int .i64 0, .int .i64 0, .slice none 0 0, .int .i64 0, .int .i64 0] 27)).heap.size := by simp
  go_enter Tryz.func120, Tryz.ntmps120
  go_wp2_with (at_builtin; refine wpList_copyE rfl _ _ rfl (w.heap.size + 2) lo rfl rfl rfl (own_empty2 w _ _) k.ps (hrt _ (by (repeat (first | with_reducible exact Up.refl _ | with_reducible assumption | with_reducible refine Up.set ?_ (by first | exact Nat.le_refl _ | (simp only []; omega) | (simp; omega)) _ | with_reducible refine Up.alloc ?_ _ | with_reducible refine Up.drew ?_ | refine Up.trans ?_ (by with_reducible assumption))))) hl (by simp) ?_; rintro v2 w2 hv2 hU2; obtain ⟨a2, c2, rfl⟩ := ownsRow_shape hv2; obtain ⟨hb0, r0, r1, r2, r3, r4, r5⟩ := KnAt.cells (b := w.heap.size) (k := k) (v := .slice a k.ps.length cap) (box_up hU2 (box_up (((Up.refl _).alloc _).alloc _) (MapKept.heap_alloc w _).1)); have hf0 := box_free (box_up hU2 (box_up (((Up.refl _).alloc _).alloc _) (MapKept.heap_alloc w _).1)); obtain ⟨hb1, q0, q1, q2, q3, q4, q5⟩ := KnAt.cells (b := w.heap.size + 1) (k := ⟨⟨0, 0, 0⟩, [], 0, 0⟩) (v := .slice none 0 0) (box_up hU2 (alloc3 w _ _ _)); have hf1 := box_free (box_up hU2 (alloc3 w _ _ _)); have HV := Lib.hid hv2; clear hv2)
  refine bodyPost_ret (v := kV k (.slice a2 k.ps.length c2)) (by simp [results, Tryz.results120, go_sem, q0, q1, q2, q3, q4, q5]) rfl ⟨_, rfl, ?_, ?_⟩
  · refine ownsRow_base (base := w.heap.size + 2) ?_ (by omega)
    repeat (with_reducible refine ownsRow_setne ?_ (by omega) _ _)
    exact HV.out
  · (repeat (first | with_reducible exact Up.refl _ | with_reducible assumption | with_reducible refine Up.set ?_ (by first | exact Nat.le_refl _ | (simp only []; omega) | (simp; omega)) _ | with_reducible refine Up.alloc ?_ _ | with_reducible refine Up.drew ?_ | refine Up.trans ?_ (by with_reducible assumption)))

theorem alloc3c (w : World) (A B C : Obj) : (((w.alloc A).alloc B).alloc C).heap[w.heap.size + 1 + 1]? = some C := by
  have h := (MapKept.heap_alloc ((w.alloc A).alloc B) C).1
  rw [size_alloc, size_alloc] at h
  exact h

set_option maxRecDepth 100000 in
set_option maxHeartbeats 4000000 in
theorem copyS_any (k : KnD) (v : Value) (lo : Nat) (w : World) (hr : RdP lo w v k.ps) (hl : k.ps.length ≤ 1048576) :
    Calls Tryz.prog 78  #[kV k v] w (KnPost k w) := by
  have hrt := fun (wq : World) (hu : Up w wq) => hr.up hu
  obtain ⟨a, cap, rfl, -, -, -, -⟩ := hr
  simp only [kV]
  have hn2 : w.heap.size + 2 ≤ ((w.alloc (.cells #[.int .i64 k.set.ord, .int .i64 k.set.lit, .int .i64 k.set.most, .slice a k.ps.length cap, .int .i64 k.base, .int .i64 k.last] 27)).alloc (.cells #[.int .i64 0, .int .i64 0, .int .i64 0, .slice none 0 0, .int .i64 0, .int .i64 0] 27)).heap.size := by simp
  go_enter Tryz.func78, Tryz.ntmps78
  go_wp2_with (at_builtin; refine wpList_copyE rfl _ _ rfl (w.heap.size + 3) lo rfl rfl rfl (own_empty3 w _ _ _) k.ps (hrt _ (by (repeat (first | with_reducible exact Up.refl _ | with_reducible assumption | with_reducible refine Up.set ?_ (by first | exact Nat.le_refl _ | (simp only []; omega) | (simp; omega)) _ | with_reducible refine Up.alloc ?_ _ | with_reducible refine Up.drew ?_ | refine Up.trans ?_ (by with_reducible assumption))))) hl (by simp) ?_; rintro v2 w2 hv2 hU2; obtain ⟨a2, c2, rfl⟩ := ownsRow_shape hv2; obtain ⟨hb1, q0, q1, q2, q3, q4, q5⟩ := KnAt.cells (b := w.heap.size + 1) (k := ⟨⟨0, 0, 0⟩, [], 0, 0⟩) (v := .slice none 0 0) (box_up hU2 (box_up ((Up.refl _).alloc _) (alloc3 w _ _ _))); have hf1 := box_free (box_up hU2 (box_up ((Up.refl _).alloc _) (alloc3 w _ _ _))); obtain ⟨hb2, s0, s1, s2, s3, s4, s5⟩ := KnAt.cells (b := w.heap.size + 1 + 1) (k := k) (v := .slice a k.ps.length cap) (box_up hU2 (box_up ((Up.refl _).alloc _) (alloc3c w _ _ _))); have hf2 := box_free (box_up hU2 (box_up ((Up.refl _).alloc _) (alloc3c w _ _ _))); have HV := Lib.hid hv2; clear hv2)
  refine bodyPost_ret (v := kV k (.slice a2 k.ps.length c2)) (by simp [results, Tryz.results78, go_sem, q0, q1, q2, q3, q4, q5]) rfl ⟨_, rfl, ?_, ?_⟩
  · refine ownsRow_base (base := w.heap.size + 3) ?_ (by omega)
    repeat (with_reducible refine ownsRow_setne ?_ (by omega) _ _)
    exact HV.out
  · (repeat (first | with_reducible exact Up.refl _ | with_reducible assumption | with_reducible refine Up.set ?_ (by first | exact Nat.le_refl _ | (simp only []; omega) | (simp; omega)) _ | with_reducible refine Up.alloc ?_ _ | with_reducible refine Up.drew ?_ | refine Up.trans ?_ (by with_reducible assumption)))

/-- A writer whose pairs are a row of the call's own. -/
def WoPost (x : WrD) (w : World) (e : Ending) (w' : World) : Prop := ∃ v, e = .returned (wrV x v) ∧ ownPr w' w.heap.size v x.k.ps ∧ Up w w'

set_option maxRecDepth 100000 in
set_option maxHeartbeats 4000000 in
theorem ownWS_any (x : WrD) (v : Value) (lo : Nat) (w : World) (hr : RdP lo w v x.k.ps) (hl : x.k.ps.length ≤ 1048576) :
    Calls Tryz.prog 79  #[wrV x v] w (WoPost x w) := by
  have hrt := fun (wq : World) (hu : Up w wq) => hr.up hu
  have cO := fun wq hr => ownKS_any x.k v lo wq hr hl
  obtain ⟨a, cap, rfl, -, -, -, -⟩ := hr
  unfold wrV
  simp only [kV] at *
  go_enter Tryz.func79, Tryz.ntmps79
  go_wp2_with (first | (go_at_call 120; (with_reducible refine (cO _ (hrt _ (by (repeat (first | with_reducible exact Up.refl _ | with_reducible assumption | with_reducible refine Up.set ?_ (by first | exact Nat.le_refl _ | (simp only []; omega) | (simp; omega)) _ | with_reducible refine Up.alloc ?_ _ | with_reducible refine Up.drew ?_ | refine Up.trans ?_ (by with_reducible assumption)))))).mono ?_); rintro e w2 ⟨v2, rfl, ho2, U2⟩; obtain ⟨a2, c2, rfl⟩ := ownsRow_shape ho2; simp only [kV]; obtain ⟨hbz, q0, q1, q2, q3, q4, q5, q6, q7, q8⟩ := WrAt.cells (WrAt.zero (box_up U2 (alloc2 w _ _))); simp only [wr0] at q0 q1 q2 q3 q4 q5 q6 q7 q8; have hfz := box_free (box_up U2 (alloc2 w _ _)); have hx2 : WrAt w.heap.size x (.slice a x.k.ps.length cap) w2 := box_up U2 (box_up ((Up.refl _).alloc _) (MapKept.heap_alloc w _).1); obtain ⟨hbx, r0, r1, r2, r3, r4, r5, r6, r7, r8⟩ := WrAt.cells hx2; have hfx := box_free hx2; have HO := Lib.hid ho2; have HU := Lib.hid (show Up w w2 by (repeat (first | with_reducible exact Up.refl _ | with_reducible assumption | with_reducible refine Up.set ?_ (by first | exact Nat.le_refl _ | (simp only []; omega) | (simp; omega)) _ | with_reducible refine Up.alloc ?_ _ | with_reducible refine Up.drew ?_ | refine Up.trans ?_ (by with_reducible assumption)))); clear ho2 hx2) | fail)
  refine bodyPost_ret (v := wrV x (.slice a2 x.k.ps.length c2)) (by simp [results, Tryz.results79, go_sem, q0, q1, q2, q3, q4, q5, q6, q7, q8]; rfl) rfl ⟨_, rfl, ?_, ?_⟩
  · have ho := ownsRow_base (base' := w.heap.size + 2) HO.out (by simp)
    refine ownsRow_base (base := w.heap.size + 2) ?_ (by omega)
    repeat (with_reducible refine ownsRow_setne ?_ (by omega) _ _)
    exact ho
  · exact WrW.up (KnW.up HU.out (Nat.le_refl _) x.k _) (Nat.le_succ _) x _

set_option maxRecDepth 100000 in
set_option maxHeartbeats 1000000 in
theorem bvS_any (s : ByteArray) (w : World) (hs : s.size ≤ 1073741824) :
    Calls Tryz.prog 121  #[.string s] w (fun e w' => e = .returned (.bool (bvB s.data.toList)) ∧ w = w') := by
  have hlen := ba_len s
  go_enter Tryz.func121, Tryz.ntmps121
  go_wp2
  go_loopw [3] (fun i wr => RelBg s i w wr) (fun i _ => s.size - (intOf i).toNat)
  case atStart => exact ⟨0, rfl, Nat.zero_le _, fun q _ h => absurd h (Nat.not_lt_zero _), rfl⟩
  case round =>
    obtain ⟨j, rfl, hj, hall, rfl⟩ := hrel
    have HA := Lib.hid hall
    clear hall
    by_cases hlt : j < s.size
    · have HN : Hid ((s[j].toNat = 48 ∨ s[j].toNat = 49) → ∀ q (hq : q < s.size), q < j + 1 → s[q].toNat = 48 ∨ s[q].toNat = 49) := fun h q hq hqj => by
        rcases Nat.lt_or_ge q j with h' | h'
        · exact HA.out q hq h'
        · have : q = j := by omega
          subst this; exact h
      by_cases h1 : s[j].toNat = 48
      · have HN' := Lib.hid (HN.out (.inl h1))
        clear HN HA
        go_wp2
        go_roundw
        case rel => exact ⟨j + 1, by go_num, by omega, HN'.out, rfl⟩
        case measure => simp [intOf]; omega
      · by_cases h2 : s[j].toNat = 49
        · have HN' := Lib.hid (HN.out (.inr h2))
          clear HN HA
          go_wp2
          go_roundw
          case rel => exact ⟨j + 1, by go_num, by omega, HN'.out, rfl⟩
          case measure => simp [intOf]; omega
        · have HB : Hid (bitsB s.data.toList = false) := bitsB_no hlt (fun h => h.elim h1 h2)
          have HV : Hid (bvB s.data.toList = false) := by unfold Hid bvB; rw [HB.out, Bool.and_false]
          have hb1 : ((s[j].toNat : Int) != 48) = true := by simp; omega
          have hb2 : ((s[j].toNat : Int) != 49) = true := by simp; omega
          clear HN HA
          go_wp2
          go_ret
          exact ⟨ret_bool HV.out.symm, rfl⟩
    · have HB : Hid (bitsB s.data.toList = true) := bitsB_yes fun q hq => HA.out q hq (by omega)
      have HV : Hid (bvB s.data.toList = decide ((s.size : Int) ≤ 32000)) := by
        unfold Hid bvB
        rw [HB.out, hlen, Bool.and_true]
        by_cases h4 : s.size ≤ 32000
        · rw [decide_eq_true h4, decide_eq_true (by omega)]
        · rw [decide_eq_false h4, decide_eq_false (by omega)]
      go_wp2
      go_ret
      exact ⟨ret_bool HV.out.symm, rfl⟩

set_option maxRecDepth 100000 in
set_option maxHeartbeats 8000000 in
theorem wvS_any (x : WrD) (v : Value) (lo : Nat) (w : World) (hr : RdP lo w v x.k.ps) (hps : x.k.ps.length ≤ 1073741824) (hp : x.pend.length ≤ 1073741824) (hb : x.bits.length ≤ 1073741824) :
    Calls Tryz.prog 80  #[wrV x v] w (Same (.bool (wrvB x)) w) := by
  have cV := fun wq hr => kvS_gen x.k v lo wq hr hps
  have hrt := fun (wq : World) (hu : Up w wq) => hr.up hu
  have hsp := bs_size x.pend
  have hsb := bs_size x.bits
  have cF := fun wq => fitsS_any x.k.set (bs x.pend) wq (by omega)
  have cB := fun wq => bvS_any (bs x.bits) wq (by omega)
  rw [bs_data] at cF cB
  obtain ⟨a, cap, rfl, -, -, -, -⟩ := id hr
  unfold wrV
  cases h1 : validK x.k
  · rw [wrvB_k h1]
    rw [h1] at cV
    clear h1 hr
    simp only [kV] at *
    go_enter Tryz.func80, Tryz.ntmps80
    go_wp2_with (first | (go_at_call 77; (with_reducible refine (cV _ (hrt _ (by (repeat (first | with_reducible exact Up.refl _ | with_reducible assumption | with_reducible refine Up.set ?_ (by first | exact Nat.le_refl _ | (simp only []; omega) | (simp; omega)) _ | with_reducible refine Up.alloc ?_ _ | with_reducible refine Up.drew ?_ | refine Up.trans ?_ (by with_reducible assumption)))))).mono ?_); rintro e w1 ⟨rfl, U1⟩; have B1 := bcell U1; have Z1 := U1.size; (try simp at Z1); (try rw [Nat.add_one_le_iff] at Z1)) | (go_at_call 81; (with_reducible refine (cF _).mono ?_); rintro e w2 ⟨rfl, U2⟩; have B2 := bcell U2; have Z2 := U2.size; (try simp at Z2); (try rw [Nat.add_one_le_iff] at Z2)) | (go_at_call 121; (with_reducible refine (cB _).mono ?_); rintro e w' ⟨rfl, rfl⟩) | fail)
    go_ret
    refine ⟨rfl, ?_⟩
    (repeat (first | with_reducible exact Up.refl _ | with_reducible assumption | with_reducible refine Up.set ?_ (by first | exact Nat.le_refl _ | (simp only []; omega) | (simp; omega)) _ | with_reducible refine Up.alloc ?_ _ | with_reducible refine Up.drew ?_ | refine Up.trans ?_ (by with_reducible assumption)))
  rw [h1] at cV
  cases h2 : fitsB x.k.set x.pend
  · rw [wrvB_f h2]
    rw [h2] at cF
    clear h1 h2 hr
    simp only [kV, setV] at *
    go_enter Tryz.func80, Tryz.ntmps80
    go_wp2_with (first | (go_at_call 77; (with_reducible refine (cV _ (hrt _ (by (repeat (first | with_reducible exact Up.refl _ | with_reducible assumption | with_reducible refine Up.set ?_ (by first | exact Nat.le_refl _ | (simp only []; omega) | (simp; omega)) _ | with_reducible refine Up.alloc ?_ _ | with_reducible refine Up.drew ?_ | refine Up.trans ?_ (by with_reducible assumption)))))).mono ?_); rintro e w1 ⟨rfl, U1⟩; have B1 := bcell U1; have Z1 := U1.size; (try simp at Z1); (try rw [Nat.add_one_le_iff] at Z1)) | (go_at_call 81; (with_reducible refine (cF _).mono ?_); rintro e w2 ⟨rfl, U2⟩; have B2 := bcell U2; have Z2 := U2.size; (try simp at Z2); (try rw [Nat.add_one_le_iff] at Z2)) | (go_at_call 121; (with_reducible refine (cB _).mono ?_); rintro e w' ⟨rfl, rfl⟩) | fail)
    go_ret
    refine ⟨rfl, ?_⟩
    (repeat (first | with_reducible exact Up.refl _ | with_reducible assumption | with_reducible refine Up.set ?_ (by first | exact Nat.le_refl _ | (simp only []; omega) | (simp; omega)) _ | with_reducible refine Up.alloc ?_ _ | with_reducible refine Up.drew ?_ | refine Up.trans ?_ (by with_reducible assumption)))
  rw [h2] at cF
  cases h3 : bvB x.bits
  · rw [wrvB_b h3]
    rw [h3] at cB
    clear h1 h2 h3 hr
    simp only [kV, setV] at *
    go_enter Tryz.func80, Tryz.ntmps80
    go_wp2_with (first | (go_at_call 77; (with_reducible refine (cV _ (hrt _ (by (repeat (first | with_reducible exact Up.refl _ | with_reducible assumption | with_reducible refine Up.set ?_ (by first | exact Nat.le_refl _ | (simp only []; omega) | (simp; omega)) _ | with_reducible refine Up.alloc ?_ _ | with_reducible refine Up.drew ?_ | refine Up.trans ?_ (by with_reducible assumption)))))).mono ?_); rintro e w1 ⟨rfl, U1⟩; have B1 := bcell U1; have Z1 := U1.size; (try simp at Z1); (try rw [Nat.add_one_le_iff] at Z1)) | (go_at_call 81; (with_reducible refine (cF _).mono ?_); rintro e w2 ⟨rfl, U2⟩; have B2 := bcell U2; have Z2 := U2.size; (try simp at Z2); (try rw [Nat.add_one_le_iff] at Z2)) | (go_at_call 121; (with_reducible refine (cB _).mono ?_); rintro e w' ⟨rfl, rfl⟩) | fail)
    go_ret
    refine ⟨rfl, ?_⟩
    (repeat (first | with_reducible exact Up.refl _ | with_reducible assumption | with_reducible refine Up.set ?_ (by first | exact Nat.le_refl _ | (simp only []; omega) | (simp; omega)) _ | with_reducible refine Up.alloc ?_ _ | with_reducible refine Up.drew ?_ | refine Up.trans ?_ (by with_reducible assumption)))
  rw [h3] at cB
  by_cases h4 : x.bits.length ≤ 7
  case neg =>
    rw [wrvB_7 h4]
    clear h1 h2 h3 hr
    have h4' : ((x.bits.length : Nat) : Int) > 7 := by omega
    simp only [kV, setV] at *
    go_enter Tryz.func80, Tryz.ntmps80
    go_wp2_with (first | (go_at_call 77; (with_reducible refine (cV _ (hrt _ (by (repeat (first | with_reducible exact Up.refl _ | with_reducible assumption | with_reducible refine Up.set ?_ (by first | exact Nat.le_refl _ | (simp only []; omega) | (simp; omega)) _ | with_reducible refine Up.alloc ?_ _ | with_reducible refine Up.drew ?_ | refine Up.trans ?_ (by with_reducible assumption)))))).mono ?_); rintro e w1 ⟨rfl, U1⟩; have B1 := bcell U1; have Z1 := U1.size; (try simp at Z1); (try rw [Nat.add_one_le_iff] at Z1)) | (go_at_call 81; (with_reducible refine (cF _).mono ?_); rintro e w2 ⟨rfl, U2⟩; have B2 := bcell U2; have Z2 := U2.size; (try simp at Z2); (try rw [Nat.add_one_le_iff] at Z2)) | (go_at_call 121; (with_reducible refine (cB _).mono ?_); rintro e w' ⟨rfl, rfl⟩) | fail)
    go_ret
    refine ⟨rfl, ?_⟩
    (repeat (first | with_reducible exact Up.refl _ | with_reducible assumption | with_reducible refine Up.set ?_ (by first | exact Nat.le_refl _ | (simp only []; omega) | (simp; omega)) _ | with_reducible refine Up.alloc ?_ _ | with_reducible refine Up.drew ?_ | refine Up.trans ?_ (by with_reducible assumption)))
  case pos =>
    have h4' : ¬ ((x.bits.length : Nat) : Int) > 7 := by omega
    rw [wrvB_all h1 h2 h3 h4]
    obtain ⟨hk, hv⟩ := ok_of_valid h1
    obtain ⟨f1, f2, f3⟩ := fitsB_lits h2
    obtain ⟨k, pend, bits, beg⟩ := x
    dsimp only at *
    by_cases hpe : pend = []
    · subst hpe
      simp only [show bs ([] : List UInt8) = (⟨#[]⟩ : ByteArray) from rfl] at *
      by_cases hbe : bits = []
      · subst hbe
        simp only [show bs ([] : List UInt8) = (⟨#[]⟩ : ByteArray) from rfl] at *
        cases beg
        all_goals
          rw [show wrsB (⟨k, [], [], _⟩ : WrD) = true from rfl]
          clear h1 h2 h3 hr hk hv f3
          simp only [kV, setV] at *
          go_enter Tryz.func80, Tryz.ntmps80
          go_wp2_with (first | (go_at_call 77; (with_reducible refine (cV _ (hrt _ (by (repeat (first | with_reducible exact Up.refl _ | with_reducible assumption | with_reducible refine Up.set ?_ (by first | exact Nat.le_refl _ | (simp only []; omega) | (simp; omega)) _ | with_reducible refine Up.alloc ?_ _ | with_reducible refine Up.drew ?_ | refine Up.trans ?_ (by with_reducible assumption)))))).mono ?_); rintro e w1 ⟨rfl, U1⟩; have B1 := bcell U1; have Z1 := U1.size; (try simp at Z1); (try rw [Nat.add_one_le_iff] at Z1)) | (go_at_call 81; (with_reducible refine (cF _).mono ?_); rintro e w2 ⟨rfl, U2⟩; have B2 := bcell U2; have Z2 := U2.size; (try simp at Z2); (try rw [Nat.add_one_le_iff] at Z2)) | (go_at_call 121; (with_reducible refine (cB _).mono ?_); rintro e w' ⟨rfl, rfl⟩) | fail)
          go_ret
          refine ⟨rfl, ?_⟩
          (repeat (first | with_reducible exact Up.refl _ | with_reducible assumption | with_reducible refine Up.set ?_ (by first | exact Nat.le_refl _ | (simp only []; omega) | (simp; omega)) _ | with_reducible refine Up.alloc ?_ _ | with_reducible refine Up.drew ?_ | refine Up.trans ?_ (by with_reducible assumption)))
      · have HBE := isEmpty_bs hbe
        cases beg
        · have HW : Hid (wrsB (⟨k, [], bits, false⟩ : WrD) = false) := by unfold Hid wrsB; simp [hbe]
          rw [HW.out]
          clear h1 h2 h3 hr hk hv f3 hbe
          simp only [kV, setV] at *
          go_enter Tryz.func80, Tryz.ntmps80
          go_wp2_with (first | (go_at_call 77; (with_reducible refine (cV _ (hrt _ (by (repeat (first | with_reducible exact Up.refl _ | with_reducible assumption | with_reducible refine Up.set ?_ (by first | exact Nat.le_refl _ | (simp only []; omega) | (simp; omega)) _ | with_reducible refine Up.alloc ?_ _ | with_reducible refine Up.drew ?_ | refine Up.trans ?_ (by with_reducible assumption)))))).mono ?_); rintro e w1 ⟨rfl, U1⟩; have B1 := bcell U1; have Z1 := U1.size; (try simp at Z1); (try rw [Nat.add_one_le_iff] at Z1)) | (go_at_call 81; (with_reducible refine (cF _).mono ?_); rintro e w2 ⟨rfl, U2⟩; have B2 := bcell U2; have Z2 := U2.size; (try simp at Z2); (try rw [Nat.add_one_le_iff] at Z2)) | (go_at_call 121; (with_reducible refine (cB _).mono ?_); rintro e w' ⟨rfl, rfl⟩) | fail)
          go_ret
          refine ⟨rfl, ?_⟩
          (repeat (first | with_reducible exact Up.refl _ | with_reducible assumption | with_reducible refine Up.set ?_ (by first | exact Nat.le_refl _ | (simp only []; omega) | (simp; omega)) _ | with_reducible refine Up.alloc ?_ _ | with_reducible refine Up.drew ?_ | refine Up.trans ?_ (by with_reducible assumption)))
        · have HW : Hid (wrsB (⟨k, [], bits, true⟩ : WrD) = true) := by unfold Hid wrsB; simp
          rw [HW.out]
          clear h1 h2 h3 hr hk hv f3 hbe
          simp only [kV, setV] at *
          go_enter Tryz.func80, Tryz.ntmps80
          go_wp2_with (first | (go_at_call 77; (with_reducible refine (cV _ (hrt _ (by (repeat (first | with_reducible exact Up.refl _ | with_reducible assumption | with_reducible refine Up.set ?_ (by first | exact Nat.le_refl _ | (simp only []; omega) | (simp; omega)) _ | with_reducible refine Up.alloc ?_ _ | with_reducible refine Up.drew ?_ | refine Up.trans ?_ (by with_reducible assumption)))))).mono ?_); rintro e w1 ⟨rfl, U1⟩; have B1 := bcell U1; have Z1 := U1.size; (try simp at Z1); (try rw [Nat.add_one_le_iff] at Z1)) | (go_at_call 81; (with_reducible refine (cF _).mono ?_); rintro e w2 ⟨rfl, U2⟩; have B2 := bcell U2; have Z2 := U2.size; (try simp at Z2); (try rw [Nat.add_one_le_iff] at Z2)) | (go_at_call 121; (with_reducible refine (cB _).mono ?_); rintro e w' ⟨rfl, rfl⟩) | fail)
          go_ret
          refine ⟨rfl, ?_⟩
          (repeat (first | with_reducible exact Up.refl _ | with_reducible assumption | with_reducible refine Up.set ?_ (by first | exact Nat.le_refl _ | (simp only []; omega) | (simp; omega)) _ | with_reducible refine Up.alloc ?_ _ | with_reducible refine Up.drew ?_ | refine Up.trans ?_ (by with_reducible assumption)))
    · have HPE := isEmpty_bs hpe
      have hpos := List.length_pos_iff.2 hpe
      cases beg
      · have HW : Hid (wrsB (⟨k, pend, bits, false⟩ : WrD) = false) := by unfold Hid wrsB; simp [hpe]
        rw [HW.out]
        clear h1 h2 h3 hr hk hv f3 hpe
        simp only [kV, setV] at *
        go_enter Tryz.func80, Tryz.ntmps80
        go_wp2_with (first | (go_at_call 77; (with_reducible refine (cV _ (hrt _ (by (repeat (first | with_reducible exact Up.refl _ | with_reducible assumption | with_reducible refine Up.set ?_ (by first | exact Nat.le_refl _ | (simp only []; omega) | (simp; omega)) _ | with_reducible refine Up.alloc ?_ _ | with_reducible refine Up.drew ?_ | refine Up.trans ?_ (by with_reducible assumption)))))).mono ?_); rintro e w1 ⟨rfl, U1⟩; have B1 := bcell U1; have Z1 := U1.size; (try simp at Z1); (try rw [Nat.add_one_le_iff] at Z1)) | (go_at_call 81; (with_reducible refine (cF _).mono ?_); rintro e w2 ⟨rfl, U2⟩; have B2 := bcell U2; have Z2 := U2.size; (try simp at Z2); (try rw [Nat.add_one_le_iff] at Z2)) | (go_at_call 121; (with_reducible refine (cB _).mono ?_); rintro e w' ⟨rfl, rfl⟩) | fail)
        go_ret
        refine ⟨rfl, ?_⟩
        (repeat (first | with_reducible exact Up.refl _ | with_reducible assumption | with_reducible refine Up.set ?_ (by first | exact Nat.le_refl _ | (simp only []; omega) | (simp; omega)) _ | with_reducible refine Up.alloc ?_ _ | with_reducible refine Up.drew ?_ | refine Up.trans ?_ (by with_reducible assumption)))
      · have cC := fun wq hr => l2Find_any k (.slice a k.ps.length cap) lo (bs pend) wq hk hr (by omega)
        rw [bs_data] at cC
        have HW : Hid (wrsB (⟨k, pend, bits, true⟩ : WrD) = decide (k.find pend ≥ 0)) := by
          unfold Hid wrsB
          have : (k.longest pend = pend) ↔ k.find pend ≥ 0 := ⟨KnD.word_find hk hpe f3, KnD.find_word hpe⟩
          simp [hpe, this]
        rw [HW.out]
        generalize k.find pend = cd at *
        clear h1 h2 h3 hr hk hv f3 hpe HW
        simp only [kV, setV] at *
        go_enter Tryz.func80, Tryz.ntmps80
        go_wp2_with (first | (go_at_call 77; (with_reducible refine (cV _ (hrt _ (by (repeat (first | with_reducible exact Up.refl _ | with_reducible assumption | with_reducible refine Up.set ?_ (by first | exact Nat.le_refl _ | (simp only []; omega) | (simp; omega)) _ | with_reducible refine Up.alloc ?_ _ | with_reducible refine Up.drew ?_ | refine Up.trans ?_ (by with_reducible assumption)))))).mono ?_); rintro e w1 ⟨rfl, U1⟩; have B1 := bcell U1; have Z1 := U1.size; (try simp at Z1); (try rw [Nat.add_one_le_iff] at Z1)) | (go_at_call 81; (with_reducible refine (cF _).mono ?_); rintro e w2 ⟨rfl, U2⟩; have B2 := bcell U2; have Z2 := U2.size; (try simp at Z2); (try rw [Nat.add_one_le_iff] at Z2)) | (go_at_call 121; (with_reducible refine (cB _).mono ?_); rintro e w' ⟨rfl, rfl⟩) | (go_at_call 86; (with_reducible refine (cC _ (hrt _ (by (repeat (first | with_reducible exact Up.refl _ | with_reducible assumption | with_reducible refine Up.set ?_ (by first | exact Nat.le_refl _ | (simp only []; omega) | (simp; omega)) _ | with_reducible refine Up.alloc ?_ _ | with_reducible refine Up.drew ?_ | refine Up.trans ?_ (by with_reducible assumption)))))).mono ?_); rintro e w4 ⟨rfl, U4⟩; have B4 := bcell U4; have Z4 := U4.size; (try simp at Z4); (try rw [Nat.add_one_le_iff] at Z4)) | fail)
        go_ret
        refine ⟨rfl, ?_⟩
        (repeat (first | with_reducible exact Up.refl _ | with_reducible assumption | with_reducible refine Up.set ?_ (by first | exact Nat.le_refl _ | (simp only []; omega) | (simp; omega)) _ | with_reducible refine Up.alloc ?_ _ | with_reducible refine Up.drew ?_ | refine Up.trans ?_ (by with_reducible assumption)))

set_option maxRecDepth 100000 in
set_option maxHeartbeats 8000000 in
theorem nwS_any (k : KnD) (v : Value) (lo : Nat) (w : World) (hr : RdP lo w v k.ps) (hps : k.ps.length ≤ 1048576) :
    Calls Tryz.prog 34  #[kV k v] w (NwPost k w) := by
  have cV := fun wq hr => kvS_gen k v lo wq hr (by omega)
  have cY := fun wx hr => copyS_any k v lo wx hr (by omega)
  have hrt := fun (wq : World) (hu : Up w wq) => hr.up hu
  obtain ⟨a, cap, rfl, -, -, -, -⟩ := id hr
  unfold NwPost
  cases h1 : validK k
  · simp only [Bool.false_eq_true, if_false]
    rw [h1] at cV
    clear h1 hr
    simp only [kV] at *
    go_enter Tryz.func34, Tryz.ntmps34
    go_wp2_with (first | ((go_at_call 77; (with_reducible refine (cV _ (hrt _ (by (repeat (first | with_reducible exact Up.refl _ | with_reducible assumption | with_reducible refine Up.set ?_ (by first | exact Nat.le_refl _ | (simp only []; omega) | (simp; omega)) _ | with_reducible refine Up.alloc ?_ _ | with_reducible refine Up.drew ?_ | refine Up.trans ?_ (by with_reducible assumption)))))).mono ?_); rintro e w1 ⟨rfl, U1⟩; have B1 := bcell U1; have Z1 := U1.size; (try simp at Z1); (try rw [Nat.add_one_le_iff] at Z1)); obtain ⟨hbz, q0, q1, q2, q3, q4, q5, q6, q7, q8⟩ := WrAt.cells (WrAt.zero (box_up U1 (alloc2 w _ _))); simp only [wr0] at q0 q1 q2 q3 q4 q5 q6 q7 q8; have hfz := box_free (box_up U1 (alloc2 w _ _))) | fail)
    obtain ⟨hbz, q0, q1, q2, q3, q4, q5, q6, q7, q8⟩ := WrAt.cells (WrAt.zero (box_up U1 (alloc2 w _ _)))
    simp only [wr0] at q0 q1 q2 q3 q4 q5 q6 q7 q8
    refine bodyPost_ret (v := .tuple #[noWr, .bool false]) (by simp [results, Tryz.results34, go_sem, q0, q1, q2, q3, q4, q5, q6, q7, q8]; rfl) rfl ⟨rfl, ?_⟩
    (repeat (first | with_reducible exact Up.refl _ | with_reducible assumption | with_reducible refine Up.set ?_ (by first | exact Nat.le_refl _ | (simp only []; omega) | (simp; omega)) _ | with_reducible refine Up.alloc ?_ _ | with_reducible refine Up.drew ?_ | refine Up.trans ?_ (by with_reducible assumption)))
  · simp only [if_true]
    rw [h1] at cV
    clear h1 hr
    simp only [kV] at *
    go_enter Tryz.func34, Tryz.ntmps34
    go_wp2_with (first | ((go_at_call 77; (with_reducible refine (cV _ (hrt _ (by (repeat (first | with_reducible exact Up.refl _ | with_reducible assumption | with_reducible refine Up.set ?_ (by first | exact Nat.le_refl _ | (simp only []; omega) | (simp; omega)) _ | with_reducible refine Up.alloc ?_ _ | with_reducible refine Up.drew ?_ | refine Up.trans ?_ (by with_reducible assumption)))))).mono ?_); rintro e w1 ⟨rfl, U1⟩; have B1 := bcell U1; have Z1 := U1.size; (try simp at Z1); (try rw [Nat.add_one_le_iff] at Z1))) | (go_at_call 78; (with_reducible refine (cY _ (hrt _ (by (repeat (first | with_reducible exact Up.refl _ | with_reducible assumption | with_reducible refine Up.set ?_ (by first | exact Nat.le_refl _ | (simp only []; omega) | (simp; omega)) _ | with_reducible refine Up.alloc ?_ _ | with_reducible refine Up.drew ?_ | refine Up.trans ?_ (by with_reducible assumption)))))).mono ?_); rintro e w2 ⟨v2, rfl, ho2, U2⟩; obtain ⟨a2, c2, rfl⟩ := ownsRow_shape ho2; simp only [kV]; have HZ := Lib.hid (WrAt.zero (box_up (U1.trans U2) (alloc2 w _ _))); obtain ⟨hbz, q0, q1, q2, q3, q4, q5, q6, q7, q8⟩ := WrAt.cells HZ.out; simp only [wr0] at q0 q1 q2 q3 q4 q5 q6 q7 q8; have hfz := box_free HZ.out; have HO := Lib.hid ho2; have hs1 := U1.size; simp at hs1; have HU := Lib.hid (show Up w w2 by (repeat (first | with_reducible exact Up.refl _ | with_reducible assumption | with_reducible refine Up.set ?_ (by first | exact Nat.le_refl _ | (simp only []; omega) | (simp; omega)) _ | with_reducible refine Up.alloc ?_ _ | with_reducible refine Up.drew ?_ | refine Up.trans ?_ (by with_reducible assumption)))); clear ho2) | fail)
    refine bodyPost_ret (v := .tuple #[wrV ⟨k, [], [], false⟩ (.slice a2 k.ps.length c2), .bool true]) (by simp [results, Tryz.results34, go_sem, q0, q1, q2, q3, q4, q5, q6, q7, q8]; rfl) rfl ⟨_, rfl, ?_, ?_⟩
    · exact WrW.own (b := w.heap.size + 1) (x := ⟨k, [], [], false⟩) (ownsRow_base HO.out (by omega)) (fun e => by have := (HO.out.lt _ e.symm).1; omega) _
    · exact WrW.up HU.out (Nat.le_succ _) ⟨k, [], [], false⟩ (.slice a2 k.ps.length c2)

end Go.Proofs.YtgbakgaegldomaaGreat

/- Walks of the reference's l3Put, l3Begin, l3Write. Conditions: what is known is valid, the pairs can be read, the code can be written. -/
namespace Go.Proofs.YtgbakgaegldomaaGreat
set_option linter.unusedVariables false
set_option linter.unusedSimpArgs false
open Go Go.RowKit

/-- What the functions that write a writer's codes leave: the pairs are those that were there, or a row of the call's own. -/
def PutPost (y : WrD) (ps : List PairD) (v : Value) (w : World) (e : Ending) (w' : World) : Prop := ∃ v', e = .returned (wrV y v') ∧ ((v' = v ∧ y.k.ps = ps) ∨ ownPr w' w.heap.size v' y.k.ps) ∧ Up w w'
theorem put_rd {y : WrD} {ps : List PairD} {v v' : Value} {lo : Nat} {w w' : World} (h : (v' = v ∧ y.k.ps = ps) ∨ ownPr w' w.heap.size v' y.k.ps) (hr : RdP lo w v ps) (hu : Up w w') : RdP 0 w' v' y.k.ps := by
  rcases h with ⟨rfl, e⟩ | h
  · rw [e]; exact (hr.up hu).low (Nat.zero_le _)
  · exact (RdP.of_own h).low (Nat.zero_le _)
def putW (x : WrD) (n : Nat) : WrD := ⟨x.k.thru n, x.pend, x.bits ++ codeL x.k.set.ord n x.k.width, x.beg⟩

theorem wr_second (x : WrD) (v : Value) (w : World) (A B : Obj) : WrAt (w.heap.size + 1 + 1) x v (((w.alloc A).alloc B).alloc (.cells #[.int .i64 x.k.set.ord, .int .i64 x.k.set.lit, .int .i64 x.k.set.most, v, .int .i64 x.k.base, .int .i64 x.k.last, .string (bs x.pend), .string (bs x.bits), .bool x.beg] 37)) := alloc3c w _ _ _

set_option maxRecDepth 100000 in
set_option maxHeartbeats 8000000 in
theorem put_any (x : WrD) (v : Value) (lo : Nat) (n : Nat) (w : World) (hk : x.k.Ok) (hr : RdP lo w v x.k.ps) (hn : n ≤ 1048576) (hb : x.bits.length ≤ 900000) (hf : x.k.puts n) :
    Calls Tryz.prog 85  #[wrV x v, .int .i64 n] w (PutPost (putW x n) x.k.ps v w) := by
  have hrt := fun (wq : World) (hu : Up w wq) => hr.up hu
  have hwd := KnD.width_bd hk
  have cW := fun wq hr => l2Width_any x.k v lo wq hk hr
  have cC := fun wq => l1Code_any x.k.set.ord n x.k.width wq hn (by omega)
  have cE := fun wq => l1End_any x.k.set wq hk.set
  have hcat : bs x.bits ++ bs (codeL x.k.set.ord n x.k.width) = bs (x.bits ++ codeL x.k.set.ord n x.k.width) := bs_app _ _
  have HR := Lib.hid hr
  obtain ⟨a, cap, rfl, -, -, -, -⟩ := id hr
  have HF := Lib.hid hf
  have HK := Lib.hid hk
  have ec : x.k.c = clr x.k.set := rfl
  have hs1 := bs_size x.bits
  have hs2 := bs_size (codeL x.k.set.ord n x.k.width)
  rw [codeL_length] at hs2
  unfold wrV
  simp only [kV] at *
  clear hr hf hk
  go_enter Tryz.func85, Tryz.ntmps85
  go_wp2
  have hX0 := wr_first x (.slice a x.k.ps.length cap) w (.cells #[.int .i64 0, .int .i64 0, .int .i64 0, .slice none 0 0, .int .i64 0, .int .i64 0, .string ⟨#[]⟩, .string ⟨#[]⟩, .bool false] 37) (.cells #[.int .i64 x.k.set.ord, .int .i64 x.k.set.lit, .int .i64 x.k.set.most, .slice a x.k.ps.length cap, .int .i64 x.k.base, .int .i64 x.k.last, .string (bs x.pend), .string (bs x.bits), .bool x.beg] 37)
  have hX1 := WrAt.zero (alloc3 w (.cells #[.int .i64 x.k.set.ord, .int .i64 x.k.set.lit, .int .i64 x.k.set.most, .slice a x.k.ps.length cap, .int .i64 x.k.base, .int .i64 x.k.last, .string (bs x.pend), .string (bs x.bits), .bool x.beg] 37) (.cells #[.int .i64 0, .int .i64 0, .int .i64 0, .slice none 0 0, .int .i64 0, .int .i64 0, .string ⟨#[]⟩, .string ⟨#[]⟩, .bool false] 37) (.cells #[.int .i64 x.k.set.ord, .int .i64 x.k.set.lit, .int .i64 x.k.set.most, .slice a x.k.ps.length cap, .int .i64 x.k.base, .int .i64 x.k.last, .string (bs x.pend), .string (bs x.bits), .bool x.beg] 37))
  have hX2 := wr_second x (.slice a x.k.ps.length cap) w (.cells #[.int .i64 x.k.set.ord, .int .i64 x.k.set.lit, .int .i64 x.k.set.most, .slice a x.k.ps.length cap, .int .i64 x.k.base, .int .i64 x.k.last, .string (bs x.pend), .string (bs x.bits), .bool x.beg] 37) (.cells #[.int .i64 0, .int .i64 0, .int .i64 0, .slice none 0 0, .int .i64 0, .int .i64 0, .string ⟨#[]⟩, .string ⟨#[]⟩, .bool false] 37)
  have hU1 : Up w (((w.alloc (.cells #[.int .i64 x.k.set.ord, .int .i64 x.k.set.lit, .int .i64 x.k.set.most, .slice a x.k.ps.length cap, .int .i64 x.k.base, .int .i64 x.k.last, .string (bs x.pend), .string (bs x.bits), .bool x.beg] 37)).alloc (.cells #[.int .i64 0, .int .i64 0, .int .i64 0, .slice none 0 0, .int .i64 0, .int .i64 0, .string ⟨#[]⟩, .string ⟨#[]⟩, .bool false] 37)).alloc (.cells #[.int .i64 x.k.set.ord, .int .i64 x.k.set.lit, .int .i64 x.k.set.most, .slice a x.k.ps.length cap, .int .i64 x.k.base, .int .i64 x.k.last, .string (bs x.pend), .string (bs x.bits), .bool x.beg] 37)) := by (repeat (first | with_reducible exact Up.refl _ | with_reducible assumption | with_reducible refine Up.set ?_ (by first | exact Nat.le_refl _ | (simp only []; omega) | (simp; omega)) _ | with_reducible refine Up.alloc ?_ _ | with_reducible refine Up.drew ?_ | refine Up.trans ?_ (by with_reducible assumption)))
  have hW3 : w.heap.size + 3 ≤ (((w.alloc (.cells #[.int .i64 x.k.set.ord, .int .i64 x.k.set.lit, .int .i64 x.k.set.most, .slice a x.k.ps.length cap, .int .i64 x.k.base, .int .i64 x.k.last, .string (bs x.pend), .string (bs x.bits), .bool x.beg] 37)).alloc (.cells #[.int .i64 0, .int .i64 0, .int .i64 0, .slice none 0 0, .int .i64 0, .int .i64 0, .string ⟨#[]⟩, .string ⟨#[]⟩, .bool false] 37)).alloc (.cells #[.int .i64 x.k.set.ord, .int .i64 x.k.set.lit, .int .i64 x.k.set.most, .slice a x.k.ps.length cap, .int .i64 x.k.base, .int .i64 x.k.last, .string (bs x.pend), .string (bs x.bits), .bool x.beg] 37)).heap.size := by simp
  generalize (((w.alloc (.cells #[.int .i64 x.k.set.ord, .int .i64 x.k.set.lit, .int .i64 x.k.set.most, .slice a x.k.ps.length cap, .int .i64 x.k.base, .int .i64 x.k.last, .string (bs x.pend), .string (bs x.bits), .bool x.beg] 37)).alloc (.cells #[.int .i64 0, .int .i64 0, .int .i64 0, .slice none 0 0, .int .i64 0, .int .i64 0, .string ⟨#[]⟩, .string ⟨#[]⟩, .bool false] 37)).alloc (.cells #[.int .i64 x.k.set.ord, .int .i64 x.k.set.lit, .int .i64 x.k.set.most, .slice a x.k.ps.length cap, .int .i64 x.k.base, .int .i64 x.k.last, .string (bs x.pend), .string (bs x.bits), .bool x.beg] 37)) = W1 at *
  have HX := Lib.hid (And.intro hX0 (And.intro hX1 (And.intro hX2 hU1)))
  clear hX0 hX1 hX2 hU1
  refine wp_region_up 12 (by kernel_rfl) (by kernel_rfl) ?_
  simp only [List.take, List.drop]
  repeat (refine wpUp_step (fun K hK => ?_); go_simp; (try simp only [↓IntWalk.iteOmega]); first
    | (refine hK _ _ ?_; clear hK K)
    | (apply stepU_c
       · intro wq hwq; (have hbq := bcell hwq; (repeat (first | refine fills_no (by rfl) ?_ | refine fills_yes (by rfl) (fun vq hvq => ?_))); simp only [List.filter_nil, fills]; unfold upAt; (try ((obtain ⟨-, r0, r1, r2, r3, r4, r5, r6, r7, r8⟩ := (HX.out.1.up hwq).cells))); go_simp; (try go_bits); (try simp only [↓IntWalk.iteOmega]); (try (rw [dif_pos (by omega)]; go_simp; try go_bits)); first | exact upOut_value | (apply upOut_call; (go_at_call 127; exact cW _ (hrt _ (HX.out.2.2.2.trans hwq)))) | (apply upOut_eq; (go_at_call 127; exact cW _ (hrt _ (HX.out.2.2.2.trans hwq)))) | (apply upOut_call; (go_at_call 126; exact cC _)) | (apply upOut_eq; (go_at_call 126; exact cC _)))
       go_simp; refine hK _ _ ?_; clear hK K))
  refine wpUp_nil (fun wq hwq => ?_)
  simp only [fills]
  have HQ := Lib.hid (And.intro (HX.out.1.up hwq) (And.intro (HX.out.2.1.up hwq) (And.intro (HX.out.2.2.1.up hwq) (HX.out.2.2.2.trans hwq))))
  have hzq := hwq.size
  clear hwq HX
  obtain ⟨hbx, r0, r1, r2, r3, r4, r5, r6, r7, r8⟩ := HQ.out.1.cells
  obtain ⟨hby, s0, s1, s2, s3, s4, s5, s6, s7, s8⟩ := HQ.out.2.2.1.cells
  have hfy := box_free HQ.out.2.2.1
  obtain ⟨hbz, q0, q1, q2, q3, q4, q5, q6, q7, q8⟩ := HQ.out.2.1.cells
  simp only [wr0] at q0 q1 q2 q3 q4 q5 q6 q7 q8
  have hfz := box_free HQ.out.2.1
  go_wp2_with fail
  have hyput : ∀ y, WrAt (w.heap.size + 1 + 1) ⟨x.k, x.pend, x.bits ++ y, x.beg⟩ (.slice a x.k.ps.length cap) (wq.setCell ⟨w.heap.size + 1 + 1, 7, none⟩ (.string (bs (x.bits ++ y)))) := fun y => by
    have := box_set HQ.out.2.2.1 7 (.string (bs (x.bits ++ y)))
    unfold WrAt
    simpa using this
  have HY := Lib.hid (hyput (codeL x.k.set.ord n x.k.width))
  have HZ : Hid (WrAt (w.heap.size + 1) wr0 (.slice none 0 0) (wq.setCell ⟨w.heap.size + 1 + 1, 7, none⟩ (.string (bs (x.bits ++ codeL x.k.set.ord n x.k.width))))) := (Below.heap_setCell _ _ _ _ (show w.heap.size + 1 ≠ w.heap.size + 1 + 1 by omega)).trans HQ.out.2.1
  have HX : Hid (WrAt w.heap.size x (.slice a x.k.ps.length cap) (wq.setCell ⟨w.heap.size + 1 + 1, 7, none⟩ (.string (bs (x.bits ++ codeL x.k.set.ord n x.k.width))))) := (Below.heap_setCell _ _ _ _ (show w.heap.size ≠ w.heap.size + 1 + 1 by omega)).trans HQ.out.1
  have HUW : Hid (Up w (wq.setCell ⟨w.heap.size + 1 + 1, 7, none⟩ (.string (bs (x.bits ++ codeL x.k.set.ord n x.k.width))))) := HQ.out.2.2.2.set (p := ⟨w.heap.size + 1 + 1, 7, none⟩) (by show w.heap.size ≤ w.heap.size + 1 + 1; omega) _
  have hz9 : wq.heap.size ≤ (wq.setCell ⟨w.heap.size + 1 + 1, 7, none⟩ (.string (bs (x.bits ++ codeL x.k.set.ord n x.k.width)))).heap.size := by simp [World.setCell]
  have hfin : ∀ kk, kk = x.k.thru n → putW x n = ⟨kk, x.pend, x.bits ++ codeL x.k.set.ord n x.k.width, x.beg⟩ := fun kk e => by unfold putW; rw [e]
  have HFIN := Lib.hid hfin
  clear hyput hcat hfin cC cW
  generalize x.bits ++ codeL x.k.set.ord n x.k.width = b9 at *
  clear r0 r1 r2 r3 r4 r5 r6 r7 r8 q0 q1 q2 q3 q4 q5 q6 q7 q8 s0 s1 s2 s3 s4 s5 s6 s7 s8 hfy hfz HQ
  generalize wq.setCell ⟨w.heap.size + 1 + 1, 7, none⟩ (.string (bs b9)) = W2 at *
  have hl2 : w.heap.size + 3 ≤ W2.heap.size := by omega
  obtain ⟨hbx, r0, r1, r2, r3, r4, r5, r6, r7, r8⟩ := HX.out.cells
  obtain ⟨hby, s0, s1, s2, s3, s4, s5, s6, s7, s8⟩ := HY.out.cells
  obtain ⟨hbz, q0, q1, q2, q3, q4, q5, q6, q7, q8⟩ := HZ.out.cells
  simp only [wr0] at q0 q1 q2 q3 q4 q5 q6 q7 q8
  have hfy := box_free HY.out
  have hfz := box_free HZ.out
  rcases HF.out with hx | hx
  · have hth : Hid (x.k = x.k.thru n) := by unfold Hid KnD.thru; rw [if_pos hx]
    have hxe : ((n : Int) != ((clr x.k.set : Nat) : Int) + 1) = false := by rw [← ec]; simpa using hx
    have HFI := Lib.hid (HFIN.out x.k hth.out)
    clear hx HF hth HFIN
    with_reducible refine (cE _).mono ?_
    rintro e w3 ⟨rfl, U3⟩
    have B3 := bcell U3
    have hl3 := U3.size
    go_wp2_with fail
    have HU3 := Lib.hid (HUW.out.trans U3)
    obtain ⟨-, q0, q1, q2, q3, q4, q5, q6, q7, q8⟩ := (HZ.out.up U3).cells
    simp only [wr0] at q0 q1 q2 q3 q4 q5 q6 q7 q8
    refine bodyPost_ret (v := wrV ⟨x.k, x.pend, b9, x.beg⟩ (.slice a x.k.ps.length cap)) (by simp [results, Tryz.results85, go_sem, q0, q1, q2, q3, q4, q5, q6, q7, q8]; rfl) rfl ?_
    rw [HFI.out]
    exact ⟨_, rfl, .inl ⟨rfl, rfl⟩, WrW.up HU3.out (Nat.le_succ _) ⟨x.k, x.pend, b9, x.beg⟩ (.slice a x.k.ps.length cap)⟩
  · have hnc : (n : Int) ≠ (x.k.c : Int) + 1 := by rcases hx with hx | ⟨_, hx, _⟩ <;> omega
    have hsf : (n : Int) ≠ (x.k.c : Int) → x.k.follows n = true := fun h => by rcases hx with hx | ⟨_, _, hx⟩; exact absurd hx h; exact hx
    have hth : Hid (x.k.step n = x.k.thru n) := by
      unfold Hid KnD.step KnD.thru
      rw [if_neg hnc]
    have cS := fun wq hr => l2Step_any x.k (.slice a x.k.ps.length cap) lo n wq HK.out hr hsf
    have hst : (x.k.step n).set = x.k.set := by unfold KnD.step; split <;> rfl
    have HST := Lib.hid hst
    have HFI := Lib.hid (HFIN.out (x.k.step n) hth.out)
    have hxe : ((n : Int) != ((clr x.k.set : Nat) : Int) + 1) = true := by rw [← ec]; simpa using hnc
    clear hx HF hth HFIN hnc hsf hst
    generalize x.k.step n = kk at *
    simp only [kV] at cS
    with_reducible refine (cE _).mono ?_
    rintro e w3 ⟨rfl, U3⟩
    have B3 := bcell U3
    have hl3 := U3.size
    go_wp2_with (first | (go_at_call 128; (with_reducible refine (cS _ (hrt _ (HUW.out.trans U3))).mono ?_); rintro e w4 ⟨v4, rfl, ho4, U4⟩; obtain ⟨a4, c4, rfl⟩ := ownsRow_shape ho4; simp only [kV]; obtain ⟨hbz, q0, q1, q2, q3, q4, q5, q6, q7, q8⟩ := ((HZ.out.up U3).up U4).cells; simp only [wr0] at q0 q1 q2 q3 q4 q5 q6 q7 q8; have hfz := box_free ((HZ.out.up U3).up U4); obtain ⟨hby, s0, s1, s2, s3, s4, s5, s6, s7, s8⟩ := ((HY.out.up U3).up U4).cells; have hfy := box_free ((HY.out.up U3).up U4); have HO := Lib.hid ho4; have HU4 := Lib.hid ((HUW.out.trans U3).trans U4); clear ho4) | fail)
    refine bodyPost_ret (v := wrV ⟨kk, x.pend, b9, x.beg⟩ (.slice a4 kk.ps.length c4)) (by simp [results, Tryz.results85, go_sem, q0, q1, q2, q3, q4, q5, q6, q7, q8]; rfl) rfl ?_
    rw [HFI.out]
    have hlo := fun b e => (HO.out.lt b e).1
    refine ⟨_, rfl, .inr ?_, ?_⟩
    · exact WrW.own (b := w.heap.size + 1) (KnW.own (ownsRow_base HO.out (by omega)) (b := w.heap.size + 1 + 1) (fun e => by have := hlo _ e.symm; omega) kk _) (fun e => by have := hlo _ e.symm; omega) ⟨kk, x.pend, b9, x.beg⟩ _
    · exact WrW.up (KnW.up HU4.out (show w.heap.size ≤ w.heap.size + 1 + 1 by omega) kk _) (Nat.le_succ _) ⟨kk, x.pend, b9, x.beg⟩ _

/-- The same of a value. -/
def PutO (base : Nat) (y : WrD) (ps : List PairD) (v : Value) (u : Value) (w : World) : Prop := ∃ v', u = wrV y v' ∧ ((v' = v ∧ y.k.ps = ps) ∨ ownPr w base v' y.k.ps)
theorem putO_closed (base : Nat) (y : WrD) (ps : List PairD) (v : Value) : ∀ u, UpClosed (PutO base y ps v u) := fun u w w' ⟨v', h1, h2⟩ hu => ⟨v', h1, h2.imp id (fun h => ownsRow_up h hu)⟩
theorem upOut_put {f : FuncId} {args : Array Value} {w : World} {y : WrD} {ps : List PairD} {v : Value} {base : Nat} (h : Calls Tryz.prog f args w (PutPost y ps v w)) (hb : base ≤ w.heap.size) : upOut Tryz.prog (PutO base y ps v) w (.ok (.enter f args) w) :=
  ⟨rfl, h.mono fun e w' ⟨v', he, h2, hu⟩ => ⟨_, he, hu, v', rfl, h2.imp id (fun h => ownsRow_base h hb)⟩⟩
theorem put_shape {w : World} {base : Nat} {ps qs : List PairD} {a : Option Addr} {cap : Nat} {v' : Value} (h : (v' = .slice a ps.length cap ∧ qs = ps) ∨ ownPr w base v' qs) : ∃ a' c', v' = .slice a' qs.length c' := by
  rcases h with ⟨rfl, e⟩ | h
  · rw [e]; exact ⟨_, _, rfl⟩
  · exact ownsRow_shape h
/-- A writer that has begun. -/
def begW (x : WrD) : WrD := ⟨x.open.2, x.pend, x.open.1, true⟩

set_option maxRecDepth 100000 in
set_option maxHeartbeats 8000000 in
theorem begin_any (x : WrD) (v : Value) (lo : Nat) (w : World) (hk : x.k.Ok) (hr : RdP lo w v x.k.ps) (hb : x.bits.length ≤ 900000) :
    Calls Tryz.prog 84  #[wrV x v] w (PutPost (begW x) x.k.ps v w) := by
  have hrt := fun (wq : World) (hu : Up w wq) => hr.up hu
  have cK := fun wq => l1Clear_any x.k.set wq hk.set
  have hc := (hk.nums)
  have cP := fun wq hr => put_any x v lo (clr x.k.set) wq hk hr (by omega) hb (.inr (.inl rfl))
  obtain ⟨a, cap, rfl, -, -, -, -⟩ := id hr
  have hpw : putW x (clr x.k.set) = ⟨x.k.cleared, x.pend, x.bits ++ codeL x.k.set.ord x.k.c x.k.width, x.beg⟩ := by
    unfold putW
    rw [show ((clr x.k.set : Nat) : Int) = (x.k.c : Int) from rfl, thru_clear]
    rfl
  rw [hpw] at cP
  have HK := Lib.hid hk
  clear hpw hr hk
  obtain ⟨k, pend, bits, beg⟩ := x
  dsimp only at *
  cases beg
  · have HO : Hid (begW ⟨k, pend, bits, false⟩ = ⟨k.cleared, pend, bits ++ codeL k.set.ord k.c k.width, true⟩) := rfl
    unfold wrV at *
    simp only [kV, setV] at *
    go_enter Tryz.func84, Tryz.ntmps84
    go_wp2_with fail
    have hX0 : WrAt w.heap.size ⟨k, pend, bits, false⟩ (.slice a k.ps.length cap) ((w.alloc (.cells #[.int .i64 k.set.ord, .int .i64 k.set.lit, .int .i64 k.set.most, .slice a k.ps.length cap, .int .i64 k.base, .int .i64 k.last, .string (bs pend), .string (bs bits), .bool false] 37)).alloc (.cells #[.int .i64 0, .int .i64 0, .int .i64 0, .slice none 0 0, .int .i64 0, .int .i64 0, .string ⟨#[]⟩, .string ⟨#[]⟩, .bool false] 37)) := box_up ((Up.refl _).alloc _) (MapKept.heap_alloc w _).1
    have hX1 := WrAt.zero (alloc2 w (.cells #[.int .i64 k.set.ord, .int .i64 k.set.lit, .int .i64 k.set.most, .slice a k.ps.length cap, .int .i64 k.base, .int .i64 k.last, .string (bs pend), .string (bs bits), .bool false] 37) (.cells #[.int .i64 0, .int .i64 0, .int .i64 0, .slice none 0 0, .int .i64 0, .int .i64 0, .string ⟨#[]⟩, .string ⟨#[]⟩, .bool false] 37))
    have hU1 : Up w ((w.alloc (.cells #[.int .i64 k.set.ord, .int .i64 k.set.lit, .int .i64 k.set.most, .slice a k.ps.length cap, .int .i64 k.base, .int .i64 k.last, .string (bs pend), .string (bs bits), .bool false] 37)).alloc (.cells #[.int .i64 0, .int .i64 0, .int .i64 0, .slice none 0 0, .int .i64 0, .int .i64 0, .string ⟨#[]⟩, .string ⟨#[]⟩, .bool false] 37)) := by (repeat (first | with_reducible exact Up.refl _ | with_reducible assumption | with_reducible refine Up.set ?_ (by first | exact Nat.le_refl _ | (simp only []; omega) | (simp; omega)) _ | with_reducible refine Up.alloc ?_ _ | with_reducible refine Up.drew ?_ | refine Up.trans ?_ (by with_reducible assumption)))
    have hW2 : w.heap.size + 2 ≤ ((w.alloc (.cells #[.int .i64 k.set.ord, .int .i64 k.set.lit, .int .i64 k.set.most, .slice a k.ps.length cap, .int .i64 k.base, .int .i64 k.last, .string (bs pend), .string (bs bits), .bool false] 37)).alloc (.cells #[.int .i64 0, .int .i64 0, .int .i64 0, .slice none 0 0, .int .i64 0, .int .i64 0, .string ⟨#[]⟩, .string ⟨#[]⟩, .bool false] 37)).heap.size := by simp
    generalize ((w.alloc (.cells #[.int .i64 k.set.ord, .int .i64 k.set.lit, .int .i64 k.set.most, .slice a k.ps.length cap, .int .i64 k.base, .int .i64 k.last, .string (bs pend), .string (bs bits), .bool false] 37)).alloc (.cells #[.int .i64 0, .int .i64 0, .int .i64 0, .slice none 0 0, .int .i64 0, .int .i64 0, .string ⟨#[]⟩, .string ⟨#[]⟩, .bool false] 37)) = W1 at *
    have HX := Lib.hid (And.intro hX0 (And.intro hX1 hU1))
    clear hX0 hX1 hU1
    refine wp_region_up 7 (by kernel_rfl) (by kernel_rfl) ?_
    simp only [List.take, List.drop]
    repeat (refine wpUp_step (fun K hK => ?_); go_simp; (try simp only [↓IntWalk.iteOmega]); first
      | (refine hK _ _ ?_; clear hK K)
      | (apply stepU_c
         · intro wq hwq; (have hbq := bcell hwq; (repeat (first | refine fills_no (by rfl) ?_ | refine fills_yes (by rfl) (fun vq hvq => ?_))); simp only [List.filter_nil, fills]; unfold upAt; (try ((obtain ⟨-, r0, r1, r2, r3, r4, r5, r6, r7, r8⟩ := (HX.out.1.up hwq).cells))); go_simp; (try go_bits); (try simp only [↓IntWalk.iteOmega]); (try (rw [dif_pos (by omega)]; go_simp; try go_bits)); first | exact upOut_value | (apply upOut_call; (go_at_call 69; exact cK _)) | (apply upOut_eq; (go_at_call 69; exact cK _)))
         go_simp; refine hK _ _ ?_; clear hK K)
      | (refine stepU_m (by kernel_rfl) (PutO W1.heap.size ⟨k.cleared, pend, bits ++ codeL k.set.ord k.c k.width, false⟩ k.ps (.slice a k.ps.length cap)) (putO_closed _ _ _ _) (fun wq hwq => ?_) ?_
         · (have hbq := bcell hwq; (repeat (first | refine fills_no (by rfl) ?_ | refine fills_yes (by rfl) (fun vq hvq => ?_))); simp only [List.filter_nil, fills]; unfold upAt; (try ((obtain ⟨-, r0, r1, r2, r3, r4, r5, r6, r7, r8⟩ := (HX.out.1.up hwq).cells))); go_simp; (try go_bits); (try simp only [↓IntWalk.iteOmega]); (try (rw [dif_pos (by omega)]; go_simp; try go_bits)); ((with_reducible refine upOut_put ?_ hwq.size); go_at_call 85; exact cP _ (hrt _ (HX.out.2.2.trans hwq))))
         refine hK _ _ ?_; clear hK K)
      | (refine stepU_m (by kernel_rfl) (Boxed W1.heap.size #[.int .i64 0, .int .i64 0, .int .i64 0, .slice none 0 0, .int .i64 0, .int .i64 0, .string ⟨#[]⟩, .string ⟨#[]⟩, .bool false] 37) (boxed_closed _ _ _) (fun wq hwq => ?_) ?_
         · (have hbq := bcell hwq; (repeat (first | refine fills_no (by rfl) ?_ | refine fills_yes (by rfl) (fun vq hvq => ?_))); simp only [List.filter_nil, fills]; unfold upAt; (try ((obtain ⟨-, r0, r1, r2, r3, r4, r5, r6, r7, r8⟩ := (HX.out.1.up hwq).cells))); go_simp; (try go_bits); (try simp only [↓IntWalk.iteOmega]); (try (rw [dif_pos (by omega)]; go_simp; try go_bits)); exact upOut_make ((Up.refl _).alloc _) (boxed_new hwq.size))
         refine hK _ _ ?_; clear hK K))
    refine wpUp_nil (fun wq hwq => ?_)
    simp only [fills]
    rintro v3 ⟨pb, rfl, hpb, hbox⟩ u ⟨v9, rfl, h9⟩
    generalize bits ++ codeL k.set.ord k.c k.width = b9 at *
    obtain ⟨a9, c9, rfl⟩ := put_shape h9
    dsimp only at h9
    have H9 := Lib.hid h9
    have HB := Lib.hid hbox
    obtain ⟨hbz, q0, q1, q2, q3, q4, q5, q6, q7, q8⟩ := WrAt.cells (HX.out.2.1.up hwq)
    simp only [wr0] at q0 q1 q2 q3 q4 q5 q6 q7 q8
    have hfz := box_free (HX.out.2.1.up hwq)
    obtain ⟨hby, s0, s1, s2, s3, s4, s5, s6, s7, s8⟩ := WrAt.cells (WrAt.zero hbox)
    simp only [wr0] at s0 s1 s2 s3 s4 s5 s6 s7 s8
    have hfy := box_free hbox
    have HU := Lib.hid (HX.out.2.2.trans hwq)
    have hn1 : ¬ w.heap.size + 1 = pb := by omega
    have hn2 : ¬ pb = w.heap.size + 1 := by omega
    have hkc : k.cleared.set = k.set := rfl
    generalize k.cleared = kk at *
    clear h9 hbox hkc cP cK hrt
    have hY : WrAt pb ⟨kk, pend, b9, true⟩ (.slice a9 kk.ps.length c9) ((((((((((wq.setCell ⟨pb, 0, none⟩ (.int .i64 kk.set.ord)).setCell ⟨pb, 1, none⟩ (.int .i64 kk.set.lit)).setCell ⟨pb, 2, none⟩ (.int .i64 kk.set.most)).setCell ⟨pb, 3, none⟩ (.slice a9 kk.ps.length c9)).setCell ⟨pb, 4, none⟩ (.int .i64 kk.base)).setCell ⟨pb, 5, none⟩ (.int .i64 kk.last)).setCell ⟨pb, 6, none⟩ (.string (bs pend))).setCell ⟨pb, 7, none⟩ (.string (bs b9))).setCell ⟨pb, 8, none⟩ (.bool false)).setCell ⟨pb, 8, none⟩ (.bool true)) := by
      have h0 := WrAt.store (WrAt.zero HB.out) ⟨kk, pend, b9, false⟩ (.slice a9 kk.ps.length c9)
      unfold WrAt at h0
      have h1 := box_set h0 8 (.bool true)
      unfold WrAt
      simpa [WrW, KnW] using h1
    have hZ : WrAt (w.heap.size + 1) wr0 (.slice none 0 0) ((((((((((wq.setCell ⟨pb, 0, none⟩ (.int .i64 kk.set.ord)).setCell ⟨pb, 1, none⟩ (.int .i64 kk.set.lit)).setCell ⟨pb, 2, none⟩ (.int .i64 kk.set.most)).setCell ⟨pb, 3, none⟩ (.slice a9 kk.ps.length c9)).setCell ⟨pb, 4, none⟩ (.int .i64 kk.base)).setCell ⟨pb, 5, none⟩ (.int .i64 kk.last)).setCell ⟨pb, 6, none⟩ (.string (bs pend))).setCell ⟨pb, 7, none⟩ (.string (bs b9))).setCell ⟨pb, 8, none⟩ (.bool false)).setCell ⟨pb, 8, none⟩ (.bool true)) := (Below.heap_setCell _ _ _ _ hn1).trans ((WrW.other hn1 ⟨kk, pend, b9, false⟩ (.slice a9 kk.ps.length c9)).trans (HX.out.2.1.up hwq))
    have hU5 : Up w ((((((((((wq.setCell ⟨pb, 0, none⟩ (.int .i64 kk.set.ord)).setCell ⟨pb, 1, none⟩ (.int .i64 kk.set.lit)).setCell ⟨pb, 2, none⟩ (.int .i64 kk.set.most)).setCell ⟨pb, 3, none⟩ (.slice a9 kk.ps.length c9)).setCell ⟨pb, 4, none⟩ (.int .i64 kk.base)).setCell ⟨pb, 5, none⟩ (.int .i64 kk.last)).setCell ⟨pb, 6, none⟩ (.string (bs pend))).setCell ⟨pb, 7, none⟩ (.string (bs b9))).setCell ⟨pb, 8, none⟩ (.bool false)).setCell ⟨pb, 8, none⟩ (.bool true)) := by
      have hU := HU.out
      (repeat (first | with_reducible exact Up.refl _ | with_reducible assumption | with_reducible refine Up.set ?_ (by first | exact Nat.le_refl _ | (simp only []; omega) | (simp; omega)) _ | with_reducible refine Up.alloc ?_ _ | with_reducible refine Up.drew ?_ | refine Up.trans ?_ (by with_reducible assumption)))
    have hO5 : (.slice a9 kk.ps.length c9 = Value.slice a k.ps.length cap ∧ kk.ps = k.ps) ∨ ownPr ((((((((((wq.setCell ⟨pb, 0, none⟩ (.int .i64 kk.set.ord)).setCell ⟨pb, 1, none⟩ (.int .i64 kk.set.lit)).setCell ⟨pb, 2, none⟩ (.int .i64 kk.set.most)).setCell ⟨pb, 3, none⟩ (.slice a9 kk.ps.length c9)).setCell ⟨pb, 4, none⟩ (.int .i64 kk.base)).setCell ⟨pb, 5, none⟩ (.int .i64 kk.last)).setCell ⟨pb, 6, none⟩ (.string (bs pend))).setCell ⟨pb, 7, none⟩ (.string (bs b9))).setCell ⟨pb, 8, none⟩ (.bool false)).setCell ⟨pb, 8, none⟩ (.bool true)) W1.heap.size (.slice a9 kk.ps.length c9) kk.ps := by
      refine H9.out.imp id (fun h => ?_)
      have hne1 : some pb ≠ Value.ownBlock (.slice a9 kk.ps.length c9) := box_ne HB.out h (by decide)
      repeat (with_reducible refine ownsRow_setb ?_ hne1 _ _)
      exact h
    have HALL := Lib.hid (And.intro hY (And.intro hZ (And.intro hU5 hO5)))
    clear hY hZ hU5 hO5 hwq HX
    unfold wrV
    go_simp
    iterate 17 go_step
    clear q0 q1 q2 q3 q4 q5 q6 q7 q8 s0 s1 s2 s3 s4 s5 s6 s7 s8 hfy hfz HU HB H9
    generalize ((((((((((wq.setCell ⟨pb, 0, none⟩ (.int .i64 kk.set.ord)).setCell ⟨pb, 1, none⟩ (.int .i64 kk.set.lit)).setCell ⟨pb, 2, none⟩ (.int .i64 kk.set.most)).setCell ⟨pb, 3, none⟩ (.slice a9 kk.ps.length c9)).setCell ⟨pb, 4, none⟩ (.int .i64 kk.base)).setCell ⟨pb, 5, none⟩ (.int .i64 kk.last)).setCell ⟨pb, 6, none⟩ (.string (bs pend))).setCell ⟨pb, 7, none⟩ (.string (bs b9))).setCell ⟨pb, 8, none⟩ (.bool false)).setCell ⟨pb, 8, none⟩ (.bool true)) = W5 at HALL ⊢
    obtain ⟨hY, hZ, hU5, hO5⟩ := HALL.out
    obtain ⟨hby, s0, s1, s2, s3, s4, s5, s6, s7, s8⟩ := hY.cells
    obtain ⟨hbz, q0, q1, q2, q3, q4, q5, q6, q7, q8⟩ := hZ.cells
    simp only [wr0] at q0 q1 q2 q3 q4 q5 q6 q7 q8
    have hfz := box_free hZ
    clear hY hZ hO5
    go_wp2_with fail
    refine bodyPost_ret (v := wrV ⟨kk, pend, b9, true⟩ (.slice a9 kk.ps.length c9)) (by simp [results, Tryz.results84, go_sem, q0, q1, q2, q3, q4, q5, q6, q7, q8]; rfl) rfl ?_
    rw [HO.out]
    refine ⟨.slice a9 kk.ps.length c9, rfl, ?_, ?_⟩
    · refine HALL.out.2.2.2.imp id (fun h => ?_)
      have hne2 : some (w.heap.size + 1) ≠ Value.ownBlock (.slice a9 kk.ps.length c9) := fun e => by have := (h.lt _ e.symm).1; omega
      have h' := ownsRow_base (base' := w.heap.size) h (by omega)
      repeat (with_reducible refine ownsRow_setb ?_ hne2 _ _)
      exact h'
    · (repeat (first | with_reducible exact Up.refl _ | with_reducible assumption | with_reducible refine Up.set ?_ (by first | exact Nat.le_refl _ | (simp only []; omega) | (simp; omega)) _ | with_reducible refine Up.alloc ?_ _ | with_reducible refine Up.drew ?_ | refine Up.trans ?_ (by with_reducible assumption)))
  · have HO : Hid (begW ⟨k, pend, bits, true⟩ = ⟨k, pend, bits, true⟩) := rfl
    unfold wrV at *
    clear cP cK
    simp only [kV, setV] at *
    go_enter Tryz.func84, Tryz.ntmps84
    go_wp2_with fail
    obtain ⟨-, q0, q1, q2, q3, q4, q5, q6, q7, q8⟩ := WrAt.cells (WrAt.zero (alloc2 w (.cells #[.int .i64 k.set.ord, .int .i64 k.set.lit, .int .i64 k.set.most, .slice a k.ps.length cap, .int .i64 k.base, .int .i64 k.last, .string (bs pend), .string (bs bits), .bool true] 37) (.cells #[.int .i64 0, .int .i64 0, .int .i64 0, .slice none 0 0, .int .i64 0, .int .i64 0, .string ⟨#[]⟩, .string ⟨#[]⟩, .bool false] 37)))
    simp only [wr0] at q0 q1 q2 q3 q4 q5 q6 q7 q8
    refine bodyPost_ret (v := wrV ⟨k, pend, bits, true⟩ (.slice a k.ps.length cap)) (by simp [results, Tryz.results84, go_sem, q0, q1, q2, q3, q4, q5, q6, q7, q8]; rfl) rfl ?_
    rw [HO.out]
    refine ⟨.slice a k.ps.length cap, rfl, .inl ⟨rfl, rfl⟩, ?_⟩
    (repeat (first | with_reducible exact Up.refl _ | with_reducible assumption | with_reducible refine Up.set ?_ (by first | exact Nat.le_refl _ | (simp only []; omega) | (simp; omega)) _ | with_reducible refine Up.alloc ?_ _ | with_reducible refine Up.drew ?_ | refine Up.trans ?_ (by with_reducible assumption)))

/-- The length of a writer's pending data. -/
def plenC (b : Nat) (w : World) : Nat := match w.cell? ⟨b, 6, none⟩ with
  | some (.string s) => s.size
  | _ => 0
theorem plenC_at {b : Nat} {x : WrD} {v : Value} {w : World} (h : WrAt b x v w) : plenC b w = x.pend.length := by
  obtain ⟨-, -, -, -, -, -, -, h6, -⟩ := h.cells
  unfold plenC
  rw [h6]
  exact bs_size _
theorem bs_ne {a b : List UInt8} (h : a ≠ b) : ((bs a).toList == (bs b).toList) = false := by
  rw [Lib.toList_data, Lib.toList_data, bs_data, bs_data]
  simpa using h
/-- The loop of l3Write: the writer lies in block ob. -/
structure LwAt (T : List UInt8 × KnD × List UInt8) (s : SetD) (v0 : Value) (ps0 : List PairD) (w : World) (ob m : Nat) (k : KnD) (d b : List UInt8) (v : Value) (wr : World) : Prop where
  dat : WlD T s m k d b
  box : WrAt ob ⟨k, d, b, true⟩ v wr
  res : WrAt (w.heap.size + 1) wr0 (.slice none 0 0) wr
  up : Up w wr
  pr : (v = v0 ∧ k.ps = ps0) ∨ ownPr wr w.heap.size v k.ps
def RelLw (T : List UInt8 × KnD × List UInt8) (s : SetD) (v0 : Value) (ps0 : List PairD) (w : World) (ob : Nat) (wr : World) : Prop := ∃ m k d b v, LwAt T s v0 ps0 w ob m k d b v wr
theorem LwAt.rd {T : List UInt8 × KnD × List UInt8} {s : SetD} {v0 v : Value} {ps0 : List PairD} {w wr : World} {ob m lo : Nat} {k : KnD} {d b : List UInt8} (h : LwAt T s v0 ps0 w ob m k d b v wr) (hr : RdP lo w v0 ps0) : RdP 0 wr v k.ps := by
  rcases h.pr with ⟨rfl, e⟩ | h1
  · rw [e]; exact (hr.up h.up).low (Nat.zero_le _)
  · exact (RdP.of_own h1).low (Nat.zero_le _)

set_option maxRecDepth 100000 in
set_option maxHeartbeats 16000000 in
theorem l3Write_any (x : WrD) (v : Value) (lo : Nat) (d : List UInt8) (w : World) (hx : wrOk x) (hd0 : d ≠ []) (hl : ∀ b ∈ d, b.toNat < clr x.k.set) (hn : (x.pend ++ d).length ≤ 2000) (hr : RdP lo w v x.k.ps) :
    Calls Tryz.prog 82  #[wrV x v, .string (bs d)] w (PutPost ⟨(x.codes d).2.1, (x.codes d).2.2, x.all d, true⟩ x.k.ps v w) := by
  have HST := Lib.hid (WlD.start hx hd0 hl hn)
  have hb7 := hx.2.2.2.2.2.1
  have cB := fun wq hr => begin_any x v lo wq hx.1 hr (by omega)
  have hrt := fun (wq : World) (hu : Up w wq) => hr.up hu
  have HR := Lib.hid hr
  obtain ⟨T1, hT1⟩ : ∃ T1, Hid (T1 = x.all d) := ⟨_, rfl⟩
  obtain ⟨T2, hT2⟩ : ∃ T2, Hid (T2 = x.codes d) := ⟨_, rfl⟩
  rw [← hT1.out, ← hT2.out] at HST ⊢
  have hcat : bs x.pend ++ bs d = bs (x.pend ++ d) := bs_app _ _
  have hsp := bs_size x.pend
  have hsd := bs_size d
  have hdl : d.length ≤ 2000 := by rw [List.length_append] at hn; omega
  have hn2 : x.pend.length + d.length ≤ 2000 := by rw [List.length_append] at hn; omega
  have hbw : begW x = ⟨x.open.2, x.pend, x.open.1, true⟩ := rfl
  rw [hbw] at cB
  obtain ⟨a, cap, rfl, -, -, -, -⟩ := id hr
  have hos := Lib.hid (WrD.open_ok hx.1).2
  clear hx hr hT1 hT2 hl hbw
  generalize x.open.2 = ko at *
  generalize x.open.1 = bo at *
  unfold wrV at *
  go_enter Tryz.func82, Tryz.ntmps82
  go_wp2_with fail
  with_reducible refine (cB _ (hrt _ (by (repeat (first | with_reducible exact Up.refl _ | with_reducible assumption | with_reducible refine Up.set ?_ (by first | exact Nat.le_refl _ | (simp only []; omega) | (simp; omega)) _ | with_reducible refine Up.alloc ?_ _ | with_reducible refine Up.drew ?_ | refine Up.trans ?_ (by with_reducible assumption)))))).mono ?_
  rintro e w2 ⟨v2, rfl, hp2, U2⟩
  obtain ⟨a2, c2, rfl⟩ := put_shape hp2
  dsimp only at hp2
  have hX2 : WrAt w.heap.size x (.slice a x.k.ps.length cap) w2 := box_up U2 (box_up ((Up.refl _).alloc _) (MapKept.heap_alloc w _).1)
  have hZ2 := WrAt.zero (box_up U2 (alloc2 w _ _))
  have hU2 : Up w w2 := by (repeat (first | with_reducible exact Up.refl _ | with_reducible assumption | with_reducible refine Up.set ?_ (by first | exact Nat.le_refl _ | (simp only []; omega) | (simp; omega)) _ | with_reducible refine Up.alloc ?_ _ | with_reducible refine Up.drew ?_ | refine Up.trans ?_ (by with_reducible assumption)))
  have hl2 : w.heap.size + 2 ≤ w2.heap.size := by have := U2.size; simp at this; exact this
  obtain ⟨hbx, r0, r1, r2, r3, r4, r5, r6, r7, r8⟩ := hX2.cells
  have HH := Lib.hid (And.intro hX2 (And.intro hZ2 (And.intro hU2 hp2)))
  clear hX2 hZ2 hU2 hp2 U2 cB
  unfold wrV
  go_wp2_with fail
  have hA : WrAt w2.heap.size ⟨ko, x.pend ++ d, bo, true⟩ (.slice a2 ko.ps.length c2) (w2.alloc (.cells #[.int .i64 ko.set.ord, .int .i64 ko.set.lit, .int .i64 ko.set.most, .slice a2 ko.ps.length c2, .int .i64 ko.base, .int .i64 ko.last, .string (bs (x.pend ++ d)), .string (bs bo), .bool true] 37)) := (MapKept.heap_alloc w2 _).1
  have hL0 : RelLw (T1, T2.2) x.k.set (.slice a x.k.ps.length cap) x.k.ps w w2.heap.size (w2.alloc (.cells #[.int .i64 ko.set.ord, .int .i64 ko.set.lit, .int .i64 ko.set.most, .slice a2 ko.ps.length c2, .int .i64 ko.base, .int .i64 ko.last, .string (bs (x.pend ++ d)), .string (bs bo), .bool true] 37)) :=
    ⟨_, ko, x.pend ++ d, bo, .slice a2 ko.ps.length c2, HST.out, hA, HH.out.2.1.up ((Up.refl _).alloc _), HH.out.2.2.1.alloc _, HH.out.2.2.2.imp id (fun h => ownsRow_base (ownsRow_up h ((Up.refl _).alloc _)) (by simp; omega))⟩
  have HL0 := Lib.hid hL0
  clear hA hL0 HST HH r0 r1 r2 r3 r4 r5 r6 r7 r8
  go_loopw [6] (fun _ wr => RelLw (T1, T2.2) x.k.set (.slice a x.k.ps.length cap) x.k.ps w w2.heap.size wr) (fun _ wr => plenC w2.heap.size wr)
  case atStart => exact HL0.out
  case round =>
    clear HL0 hcat hsp hsd hn hn2 hb7 hd0 hos
    obtain ⟨m, k, e, b, v1, hL⟩ := hrel
    have hok := hL.dat.ok
    have HSET := Lib.hid hL.dat.set
    have hne := hL.dat.ne
    have hle2 := hL.dat.le
    have hsum := hL.dat.sum
    have hpos := List.length_pos_iff.2 hne
    have hse := bs_size e
    have hpl := hok.nums.2.2.2.1
    obtain ⟨a1, c1, rfl⟩ := put_shape hL.pr
    have hrd := fun (wq : World) (hu : Up wr wq) => (hL.rd HR.out).up hu
    have cL := fun wq hr => l2Longest_any k (.slice a1 k.ps.length c1) 0 (bs e) wq hok hr (by rw [bs_size]; exact hpos) (by rw [bs_size]; omega)
    rw [bs_data] at cL
    obtain ⟨hbx, r0, r1, r2, r3, r4, r5, r6, r7, r8⟩ := hL.box.cells
    obtain ⟨hbz, q0, q1, q2, q3, q4, q5, q6, q7, q8⟩ := hL.res.cells
    simp only [wr0] at q0 q1 q2 q3 q4 q5 q6 q7 q8
    have hszr := hL.up.size
    have hfz := box_free hL.res
    have hfx := box_free hL.box
    simp only [kV] at cL
    have HM := Lib.hid (plenC_at hL.box)
    by_cases hle : k.longest e = e
    · have hT := hL.dat.stop hle
      simp only [Prod.mk.injEq] at hT
      obtain ⟨hT1, hT2⟩ := hT
      have HT2 := Lib.hid (And.intro (show T2.2.1 = k by rw [hT2]) (show T2.2.2 = e by rw [hT2]))
      subst hT1
      rw [hle] at cL
      have HL := Lib.hid hL
      clear hL hT2 hle hne hok HM
      go_wp2_with (first | ((go_at_call 123; (with_reducible refine (cL _ (hrd _ (Up.refl _))).mono ?_); rintro e w4 ⟨rfl, U4⟩; have B4 := bcell U4; have Z4 := U4.size; (try simp at Z4); (try rw [Nat.add_one_le_iff] at Z4))) | fail)
      have HU4 := Lib.hid U4
      obtain ⟨-, q0, q1, q2, q3, q4, q5, q6, q7, q8⟩ := (HL.out.res.up U4).cells
      simp only [wr0] at q0 q1 q2 q3 q4 q5 q6 q7 q8
      refine bodyPost_ret (v := wrV ⟨k, e, T1, true⟩ (.slice a1 k.ps.length c1)) (by simp [results, Tryz.results82, go_sem, q0, q1, q2, q3, q4, q5, q6, q7, q8]; rfl) rfl ?_
      rw [HT2.out.1, HT2.out.2]
      refine ⟨.slice a1 k.ps.length c1, rfl, ?_, ?_⟩
      · refine HL.out.pr.imp id (fun h => ?_)
        have hne2 : some (w.heap.size + 1) ≠ Value.ownBlock (.slice a1 k.ps.length c1) := box_ne HL.out.res h (by decide)
        have h' := ownsRow_up h HU4.out
        repeat (with_reducible refine ownsRow_setb ?_ hne2 _ _)
        exact h'
      · have hU := HL.out.up.trans HU4.out
        (repeat (first | with_reducible exact Up.refl _ | with_reducible assumption | with_reducible refine Up.set ?_ (by first | exact Nat.le_refl _ | (simp only []; omega) | (simp; omega)) _ | with_reducible refine Up.alloc ?_ _ | with_reducible refine Up.drew ?_ | refine Up.trans ?_ (by with_reducible assumption)))
    · have hne1 := bs_ne hle
      obtain ⟨⟨hfw, hxc, hxe, hlp, hlt⟩, hfull, hmore⟩ := hL.dat.step hle
      have hfb := KnD.find_bd hok hfw
      have hc := c_of HSET.out
      obtain ⟨n, hn⟩ := Int.eq_ofNat_of_zero_le hfb.1
      have hka := KnD.after_ok hok hfw
      have hth := KnD.thru_fol hok hfw
      have hwd := KnD.width_bd hok
      obtain ⟨k9, hk9⟩ : ∃ k9, Hid (k9 = k.after (k.find (k.longest e))) := ⟨_, rfl⟩
      rw [← hk9.out] at hfull hmore hka hth
      have cF := fun wq hr => l2Find_any k (.slice a1 k.ps.length c1) 0 (bs (k.longest e)) wq hok hr (by rw [bs_size]; omega)
      rw [bs_data] at cF
      rw [hn] at hfull hmore hth hxc hxe hfw cF
      rw [Int.toNat_natCast] at hfull hmore
      have hs9 : k9.set = x.k.set := by rw [hk9.out]; exact HSET.out
      have cP := fun wq hr => put_any ⟨k, e, b, true⟩ (.slice a1 k.ps.length c1) 0 n wq hok hr (by omega) (by show b.length ≤ 900000; omega) (.inr (.inr ⟨hxc, hxe, hfw⟩))
      have hpw : putW ⟨k, e, b, true⟩ n = ⟨k9, e, b ++ codeL x.k.set.ord n k.width, true⟩ := by
        unfold putW
        dsimp only
        rw [hth, HSET.out]
      rw [hpw] at cP
      have hbd : (bs e).extract (k.longest e).length e.length = bs (e.drop (k.longest e).length) := by rw [bs_ext]; congr 1; exact List.take_of_length_le (by rw [List.length_drop]; omega)
      have HBD := Lib.hid hbd
      have hlen9 : (b ++ codeL x.k.set.ord n k.width).length ≤ 800000 := by rw [List.length_append, codeL_length]; omega
      have HX9 := Lib.hid (And.intro hfull hmore)
      have HK9 := Lib.hid hka
      have HS9 := Lib.hid hs9
      have hdl9 : (e.drop (k.longest e).length).length < e.length := by rw [List.length_drop]; omega
      have hlw := bs_size (k.longest e)
      have HL := Lib.hid hL
      clear hfull hmore hth hxc hxe hfw hn hk9 hbd hle hL hok hs9 hc hka hpw
      generalize b ++ codeL x.k.set.ord n k.width = b9 at *
      generalize e.drop (k.longest e).length = e9 at *
      generalize hwl : k.longest e = wl at *
      have HWL := Lib.hid hwl
      clear hwl
      unfold wrV at cP
      go_wp2_with (first | ((go_at_call 123; (with_reducible refine (cL _ (hrd _ (Up.refl _))).mono ?_); rintro e w4 ⟨rfl, U4⟩; have B4 := bcell U4; have Z4 := U4.size; (try simp at Z4); (try rw [Nat.add_one_le_iff] at Z4))) | fail)
      have HL4 := Lib.hid (And.intro (HL.out.box.up U4) (And.intro (HL.out.res.up U4) (HL.out.up.trans U4)))
      have HU4 := Lib.hid U4
      have hz4 := U4.size
      clear U4 B4 cL r0 r1 r2 r3 r4 r5 r6 r7 r8 q0 q1 q2 q3 q4 q5 q6 q7 q8 hfz hfx
      refine wp_region_up 6 (by kernel_rfl) (by kernel_rfl) ?_
      simp only [List.take, List.drop]
      repeat (refine wpUp_step (fun K hK => ?_); go_simp; (try simp only [↓IntWalk.iteOmega]); first
        | (refine hK _ _ ?_; clear hK K)
        | (apply stepU_c
           · intro wq hwq; (have hbq := bcell hwq; (repeat (first | refine fills_no (by rfl) ?_ | refine fills_yes (by rfl) (fun vq hvq => ?_))); simp only [List.filter_nil, fills]; unfold upAt; (try ((obtain ⟨-, r0, r1, r2, r3, r4, r5, r6, r7, r8⟩ := (HL4.out.1.up hwq).cells))); go_simp; (try go_bits); (try simp only [↓IntWalk.iteOmega]); (try (rw [dif_pos (by omega)]; go_simp; try go_bits)); first | exact upOut_value | (apply upOut_call; (go_at_call 86; exact cF _ (hrd _ (HU4.out.trans hwq)))) | (apply upOut_eq; (go_at_call 86; exact cF _ (hrd _ (HU4.out.trans hwq)))))
           go_simp; refine hK _ _ ?_; clear hK K)
        | (refine stepU_m (by kernel_rfl) (PutO w4.heap.size ⟨k9, e, b9, true⟩ k.ps (.slice a1 k.ps.length c1)) (putO_closed _ _ _ _) (fun wq hwq => ?_) ?_
           · (have hbq := bcell hwq; (repeat (first | refine fills_no (by rfl) ?_ | refine fills_yes (by rfl) (fun vq hvq => ?_))); simp only [List.filter_nil, fills]; unfold upAt; (try ((obtain ⟨-, r0, r1, r2, r3, r4, r5, r6, r7, r8⟩ := (HL4.out.1.up hwq).cells))); go_simp; (try go_bits); (try simp only [↓IntWalk.iteOmega]); (try (rw [dif_pos (by omega)]; go_simp; try go_bits)); ((with_reducible refine upOut_put ?_ hwq.size); go_at_call 85; exact cP _ (hrd _ (HU4.out.trans hwq))))
           refine hK _ _ ?_; clear hK K))
      refine wpUp_nil (fun wq hwq => ?_)
      simp only [fills]
      rintro u ⟨v9, rfl, h9⟩
      obtain ⟨a9, c9, rfl⟩ := put_shape h9
      dsimp only at h9
      have H9 := Lib.hid h9
      have HQ := Lib.hid (And.intro (HL4.out.1.up hwq) (And.intro (HL4.out.2.1.up hwq) (HL4.out.2.2.trans hwq)))
      have HUQ := Lib.hid (HU4.out.trans hwq)
      obtain ⟨hbx, r0, r1, r2, r3, r4, r5, r6, r7, r8⟩ := HQ.out.1.cells
      have hfx := box_free HQ.out.1
      have hzq := hwq.size
      clear hwq h9 HL4 HU4 cF cP
      unfold wrV
      go_wp2_with fail
      rw [HBD.out]
      have hne3 : w.heap.size + 1 ≠ w2.heap.size := by omega
      have hY : WrAt w2.heap.size ⟨k9, e9, b9, true⟩ (.slice a9 k9.ps.length c9) ((((((((((wq.setCell ⟨w2.heap.size, 0, none⟩ (.int .i64 k9.set.ord)).setCell ⟨w2.heap.size, 1, none⟩ (.int .i64 k9.set.lit)).setCell ⟨w2.heap.size, 2, none⟩ (.int .i64 k9.set.most)).setCell ⟨w2.heap.size, 3, none⟩ (.slice a9 k9.ps.length c9)).setCell ⟨w2.heap.size, 4, none⟩ (.int .i64 k9.base)).setCell ⟨w2.heap.size, 5, none⟩ (.int .i64 k9.last)).setCell ⟨w2.heap.size, 6, none⟩ (.string (bs e))).setCell ⟨w2.heap.size, 7, none⟩ (.string (bs b9))).setCell ⟨w2.heap.size, 8, none⟩ (.bool true)).setCell ⟨w2.heap.size, 6, none⟩ (.string (bs e9))) := by
        have h0 := WrAt.store HQ.out.1 ⟨k9, e, b9, true⟩ (.slice a9 k9.ps.length c9)
        unfold WrAt at h0
        have h1 := box_set h0 6 (.string (bs e9))
        unfold WrAt
        simpa [WrW, KnW] using h1
      have hZ : WrAt (w.heap.size + 1) wr0 (.slice none 0 0) ((((((((((wq.setCell ⟨w2.heap.size, 0, none⟩ (.int .i64 k9.set.ord)).setCell ⟨w2.heap.size, 1, none⟩ (.int .i64 k9.set.lit)).setCell ⟨w2.heap.size, 2, none⟩ (.int .i64 k9.set.most)).setCell ⟨w2.heap.size, 3, none⟩ (.slice a9 k9.ps.length c9)).setCell ⟨w2.heap.size, 4, none⟩ (.int .i64 k9.base)).setCell ⟨w2.heap.size, 5, none⟩ (.int .i64 k9.last)).setCell ⟨w2.heap.size, 6, none⟩ (.string (bs e))).setCell ⟨w2.heap.size, 7, none⟩ (.string (bs b9))).setCell ⟨w2.heap.size, 8, none⟩ (.bool true)).setCell ⟨w2.heap.size, 6, none⟩ (.string (bs e9))) := (Below.heap_setCell _ _ _ _ hne3).trans ((WrW.other hne3 ⟨k9, e, b9, true⟩ (.slice a9 k9.ps.length c9)).trans HQ.out.2.1)
      have hU5 : Up w ((((((((((wq.setCell ⟨w2.heap.size, 0, none⟩ (.int .i64 k9.set.ord)).setCell ⟨w2.heap.size, 1, none⟩ (.int .i64 k9.set.lit)).setCell ⟨w2.heap.size, 2, none⟩ (.int .i64 k9.set.most)).setCell ⟨w2.heap.size, 3, none⟩ (.slice a9 k9.ps.length c9)).setCell ⟨w2.heap.size, 4, none⟩ (.int .i64 k9.base)).setCell ⟨w2.heap.size, 5, none⟩ (.int .i64 k9.last)).setCell ⟨w2.heap.size, 6, none⟩ (.string (bs e))).setCell ⟨w2.heap.size, 7, none⟩ (.string (bs b9))).setCell ⟨w2.heap.size, 8, none⟩ (.bool true)).setCell ⟨w2.heap.size, 6, none⟩ (.string (bs e9))) := by
        have hU := HQ.out.2.2
        (repeat (first | with_reducible exact Up.refl _ | with_reducible assumption | with_reducible refine Up.set ?_ (by first | exact Nat.le_refl _ | (simp only []; omega) | (simp; omega)) _ | with_reducible refine Up.alloc ?_ _ | with_reducible refine Up.drew ?_ | refine Up.trans ?_ (by with_reducible assumption)))
      have hown : ∀ (vv : Value) (ps : List PairD), ownPr wq w.heap.size vv ps → ownPr ((((((((((wq.setCell ⟨w2.heap.size, 0, none⟩ (.int .i64 k9.set.ord)).setCell ⟨w2.heap.size, 1, none⟩ (.int .i64 k9.set.lit)).setCell ⟨w2.heap.size, 2, none⟩ (.int .i64 k9.set.most)).setCell ⟨w2.heap.size, 3, none⟩ (.slice a9 k9.ps.length c9)).setCell ⟨w2.heap.size, 4, none⟩ (.int .i64 k9.base)).setCell ⟨w2.heap.size, 5, none⟩ (.int .i64 k9.last)).setCell ⟨w2.heap.size, 6, none⟩ (.string (bs e))).setCell ⟨w2.heap.size, 7, none⟩ (.string (bs b9))).setCell ⟨w2.heap.size, 8, none⟩ (.bool true)).setCell ⟨w2.heap.size, 6, none⟩ (.string (bs e9))) w.heap.size vv ps := fun vv ps h => by
        have hne1 : some w2.heap.size ≠ Value.ownBlock vv := box_ne HQ.out.1 h (by decide)
        repeat (with_reducible refine ownsRow_setb ?_ hne1 _ _)
        exact h
      have HALL0 := Lib.hid (And.intro hY (And.intro hZ (And.intro hU5 hown)))
      clear hY hZ hU5 hown hne3 HBD HWL r0 r1 r2 r3 r4 r5 r6 r7 r8 hfx
      generalize ((((((((((wq.setCell ⟨w2.heap.size, 0, none⟩ (.int .i64 k9.set.ord)).setCell ⟨w2.heap.size, 1, none⟩ (.int .i64 k9.set.lit)).setCell ⟨w2.heap.size, 2, none⟩ (.int .i64 k9.set.most)).setCell ⟨w2.heap.size, 3, none⟩ (.slice a9 k9.ps.length c9)).setCell ⟨w2.heap.size, 4, none⟩ (.int .i64 k9.base)).setCell ⟨w2.heap.size, 5, none⟩ (.int .i64 k9.last)).setCell ⟨w2.heap.size, 6, none⟩ (.string (bs e))).setCell ⟨w2.heap.size, 7, none⟩ (.string (bs b9))).setCell ⟨w2.heap.size, 8, none⟩ (.bool true)).setCell ⟨w2.heap.size, 6, none⟩ (.string (bs e9))) = W5 at HALL0 ⊢
      have hO5 : (.slice a9 k9.ps.length c9 = Value.slice a x.k.ps.length cap ∧ k9.ps = x.k.ps) ∨ ownPr W5 w.heap.size (.slice a9 k9.ps.length c9) k9.ps := by
        rcases H9.out with ⟨h1, h2⟩ | h
        · rw [h1, h2]
          exact HL.out.pr.imp id (fun h => HALL0.out.2.2.2 _ _ (ownsRow_up h HUQ.out))
        · exact .inr (HALL0.out.2.2.2 _ _ (ownsRow_base h (by have := HL.out.up.size; omega)))
      have HALL := Lib.hid (And.intro HALL0.out.1 (And.intro HALL0.out.2.1 (And.intro HALL0.out.2.2.1 hO5)))
      clear hO5 HALL0 H9 HQ HUQ HL
      clear hzq hbx
      obtain ⟨hbx, r0, r1, r2, r3, r4, r5, r6, r7, r8⟩ := HALL.out.1.cells
      have hok9 := HK9.out
      have hpl9 := hok9.nums.2.2.2.1
      have hrd9 := fun (wq : World) (hu : Up W5 wq) => (show RdP 0 W5 (.slice a9 k9.ps.length c9) k9.ps by
        rcases HALL.out.2.2.2 with ⟨h1, h2⟩ | h
        · rw [h1, h2]; exact (HR.out.up HALL.out.2.2.1).low (Nat.zero_le _)
        · exact (RdP.of_own h).low (Nat.zero_le _)).up hu
      have cN := fun wx hr => l2Next_any k9 (.slice a9 k9.ps.length c9) 0 wx hok9 hr
      have cLa := fun wx => l1Last_any k9.set wx hok9.set
      have hnx := KnD.next_bd hok9
      have hlb := hok9.nums.2.2.1
      simp only [kV, setV] at cN cLa
      have hlw2 : Up w W5 := HALL.out.2.2.1
      have hlz := hlw2.size
      by_cases e1 : lastC k9.set < k9.next
      · by_cases e2 : k9.base < k9.ps.length
        · have hf : k9.full = true := by unfold KnD.full; rw [decide_eq_true e1, decide_eq_true e2]; rfl
          have HN := Lib.hid (HX9.out.1 hf)
          clear hf
          generalize k9.next = nx9 at *
          generalize lastC k9.set = lc9 at *
          refine wp_region_up 18 (by kernel_rfl) (by kernel_rfl) ?_
          simp only [List.take, List.drop]
          repeat (refine wpUp_step (fun K hK => ?_); go_simp; (try simp only [↓IntWalk.iteOmega]); first
            | (refine hK _ _ ?_; clear hK K)
            | (apply stepU_c
               · intro wq hwq; (have hbq := bcell hwq; (repeat (first | refine fills_no (by rfl) ?_ | refine fills_yes (by rfl) (fun vq hvq => ?_))); simp only [List.filter_nil, fills]; unfold upAt; (try ((obtain ⟨-, r0, r1, r2, r3, r4, r5, r6, r7, r8⟩ := (HALL.out.1.up hwq).cells))); go_simp; (try go_bits); (try simp only [↓IntWalk.iteOmega]); (try (rw [dif_pos (by omega)]; go_simp; try go_bits)); first | exact upOut_value | (apply upOut_call; (go_at_call 73; exact cN _ (hrd9 _ hwq))) | (apply upOut_eq; (go_at_call 73; exact cN _ (hrd9 _ hwq))) | (apply upOut_call; (go_at_call 117; exact cLa _)) | (apply upOut_eq; (go_at_call 117; exact cLa _)))
               go_simp; refine hK _ _ ?_; clear hK K))
          refine wpUp_nil (fun wq hwq => ?_)
          simp only [fills]
          go_wp2_with fail
          have HA := Lib.hid (And.intro (HALL.out.1.up hwq) (And.intro (HALL.out.2.1.up hwq) (And.intro (HALL.out.2.2.1.trans hwq) (HALL.out.2.2.2.imp id (fun h => ownsRow_up h hwq)))))
          have hrd8 := fun (wx : World) (hu : Up wq wx) => hrd9 wx (hwq.trans hu)
          clear hwq HALL hrd9 r0 r1 r2 r3 r4 r5 r6 r7 r8 cN cLa hbx
          generalize wq = W6 at *
          have hclr := (clr_bd hok9.set).2.1
          have cK := fun wx => l1Clear_any k9.set wx hok9.set
          have cP9 := fun wq hr => put_any ⟨k9, e9, b9, true⟩ (.slice a9 k9.ps.length c9) 0 (clr k9.set) wq hok9 hr (by omega) (by show b9.length ≤ 900000; omega) (.inr (.inl rfl))
          have hpw9 : putW ⟨k9, e9, b9, true⟩ (clr k9.set) = ⟨k9.cleared, e9, b9 ++ codeL x.k.set.ord (clr x.k.set) k9.width, true⟩ := by
            unfold putW
            dsimp only
            rw [show ((clr k9.set : Nat) : Int) = (k9.c : Int) from rfl, thru_clear, HS9.out]
          rw [hpw9] at cP9
          clear hpw9
          generalize b9 ++ codeL x.k.set.ord (clr x.k.set) k9.width = b10 at *
          unfold wrV at cP9
          simp only [setV] at cK
          refine wp_region_up 6 (by kernel_rfl) (by kernel_rfl) ?_
          simp only [List.take, List.drop]
          repeat (refine wpUp_step (fun K hK => ?_); go_simp; (try simp only [↓IntWalk.iteOmega]); first
            | (refine hK _ _ ?_; clear hK K)
            | (apply stepU_c
               · intro wq hwq; (have hbq := bcell hwq; (repeat (first | refine fills_no (by rfl) ?_ | refine fills_yes (by rfl) (fun vq hvq => ?_))); simp only [List.filter_nil, fills]; unfold upAt; (try ((obtain ⟨-, r0, r1, r2, r3, r4, r5, r6, r7, r8⟩ := (HA.out.1.up hwq).cells))); go_simp; (try go_bits); (try simp only [↓IntWalk.iteOmega]); (try (rw [dif_pos (by omega)]; go_simp; try go_bits)); first | exact upOut_value | (apply upOut_call; (go_at_call 69; exact cK _)) | (apply upOut_eq; (go_at_call 69; exact cK _)))
               go_simp; refine hK _ _ ?_; clear hK K)
            | (refine stepU_m (by kernel_rfl) (PutO W6.heap.size ⟨k9.cleared, e9, b10, true⟩ k9.ps (.slice a9 k9.ps.length c9)) (putO_closed _ _ _ _) (fun wq hwq => ?_) ?_
               · (have hbq := bcell hwq; (repeat (first | refine fills_no (by rfl) ?_ | refine fills_yes (by rfl) (fun vq hvq => ?_))); simp only [List.filter_nil, fills]; unfold upAt; (try ((obtain ⟨-, r0, r1, r2, r3, r4, r5, r6, r7, r8⟩ := (HA.out.1.up hwq).cells))); go_simp; (try go_bits); (try simp only [↓IntWalk.iteOmega]); (try (rw [dif_pos (by omega)]; go_simp; try go_bits)); ((with_reducible refine upOut_put ?_ hwq.size); go_at_call 85; exact cP9 _ (hrd8 _ hwq)))
               refine hK _ _ ?_; clear hK K))
          refine wpUp_nil (fun wq hwq => ?_)
          simp only [fills]
          rintro u ⟨v10, rfl, h10⟩
          obtain ⟨a10, c10, rfl⟩ := put_shape h10
          dsimp only at h10
          have H10 := Lib.hid h10
          have HQ := Lib.hid (And.intro (HA.out.1.up hwq) (And.intro (HA.out.2.1.up hwq) (HA.out.2.2.1.trans hwq)))
          have HUQ := Lib.hid hwq
          obtain ⟨hbx, r0, r1, r2, r3, r4, r5, r6, r7, r8⟩ := HQ.out.1.cells
          have hfx := box_free HQ.out.1
          have hzq := hwq.size
          have hz6 := HA.out.2.2.1.size
          clear hwq h10 cP9 cK
          generalize k9.cleared = kc at *
          have hne3 : w.heap.size + 1 ≠ w2.heap.size := by omega
          have hY : WrAt w2.heap.size ⟨kc, e9, b10, true⟩ (.slice a10 kc.ps.length c10) (((((((((wq.setCell ⟨w2.heap.size, 0, none⟩ (.int .i64 kc.set.ord)).setCell ⟨w2.heap.size, 1, none⟩ (.int .i64 kc.set.lit)).setCell ⟨w2.heap.size, 2, none⟩ (.int .i64 kc.set.most)).setCell ⟨w2.heap.size, 3, none⟩ (.slice a10 kc.ps.length c10)).setCell ⟨w2.heap.size, 4, none⟩ (.int .i64 kc.base)).setCell ⟨w2.heap.size, 5, none⟩ (.int .i64 kc.last)).setCell ⟨w2.heap.size, 6, none⟩ (.string (bs e9))).setCell ⟨w2.heap.size, 7, none⟩ (.string (bs b10))).setCell ⟨w2.heap.size, 8, none⟩ (.bool true)) := by
            have h0 := WrAt.store HQ.out.1 ⟨kc, e9, b10, true⟩ (.slice a10 kc.ps.length c10)
            simpa [WrW, KnW] using h0
          have hZ : WrAt (w.heap.size + 1) wr0 (.slice none 0 0) (((((((((wq.setCell ⟨w2.heap.size, 0, none⟩ (.int .i64 kc.set.ord)).setCell ⟨w2.heap.size, 1, none⟩ (.int .i64 kc.set.lit)).setCell ⟨w2.heap.size, 2, none⟩ (.int .i64 kc.set.most)).setCell ⟨w2.heap.size, 3, none⟩ (.slice a10 kc.ps.length c10)).setCell ⟨w2.heap.size, 4, none⟩ (.int .i64 kc.base)).setCell ⟨w2.heap.size, 5, none⟩ (.int .i64 kc.last)).setCell ⟨w2.heap.size, 6, none⟩ (.string (bs e9))).setCell ⟨w2.heap.size, 7, none⟩ (.string (bs b10))).setCell ⟨w2.heap.size, 8, none⟩ (.bool true)) := (WrW.other hne3 ⟨kc, e9, b10, true⟩ (.slice a10 kc.ps.length c10)).trans HQ.out.2.1
          have hU5 : Up w (((((((((wq.setCell ⟨w2.heap.size, 0, none⟩ (.int .i64 kc.set.ord)).setCell ⟨w2.heap.size, 1, none⟩ (.int .i64 kc.set.lit)).setCell ⟨w2.heap.size, 2, none⟩ (.int .i64 kc.set.most)).setCell ⟨w2.heap.size, 3, none⟩ (.slice a10 kc.ps.length c10)).setCell ⟨w2.heap.size, 4, none⟩ (.int .i64 kc.base)).setCell ⟨w2.heap.size, 5, none⟩ (.int .i64 kc.last)).setCell ⟨w2.heap.size, 6, none⟩ (.string (bs e9))).setCell ⟨w2.heap.size, 7, none⟩ (.string (bs b10))).setCell ⟨w2.heap.size, 8, none⟩ (.bool true)) := by
            have hU := HQ.out.2.2
            (repeat (first | with_reducible exact Up.refl _ | with_reducible assumption | with_reducible refine Up.set ?_ (by first | exact Nat.le_refl _ | (simp only []; omega) | (simp; omega)) _ | with_reducible refine Up.alloc ?_ _ | with_reducible refine Up.drew ?_ | refine Up.trans ?_ (by with_reducible assumption)))
          have hown : ∀ (vv : Value) (ps : List PairD), ownPr wq w.heap.size vv ps → ownPr (((((((((wq.setCell ⟨w2.heap.size, 0, none⟩ (.int .i64 kc.set.ord)).setCell ⟨w2.heap.size, 1, none⟩ (.int .i64 kc.set.lit)).setCell ⟨w2.heap.size, 2, none⟩ (.int .i64 kc.set.most)).setCell ⟨w2.heap.size, 3, none⟩ (.slice a10 kc.ps.length c10)).setCell ⟨w2.heap.size, 4, none⟩ (.int .i64 kc.base)).setCell ⟨w2.heap.size, 5, none⟩ (.int .i64 kc.last)).setCell ⟨w2.heap.size, 6, none⟩ (.string (bs e9))).setCell ⟨w2.heap.size, 7, none⟩ (.string (bs b10))).setCell ⟨w2.heap.size, 8, none⟩ (.bool true)) w.heap.size vv ps := fun vv ps h => by
            have hne1 : some w2.heap.size ≠ Value.ownBlock vv := box_ne HQ.out.1 h (by decide)
            repeat (with_reducible refine ownsRow_setb ?_ hne1 _ _)
            exact h
          have HALL0 := Lib.hid (And.intro hY (And.intro hZ (And.intro hU5 hown)))
          clear hY hZ hU5 hown hne3
          unfold wrV
          go_wp2_with fail
          clear r0 r1 r2 r3 r4 r5 r6 r7 r8 hfx
          generalize (((((((((wq.setCell ⟨w2.heap.size, 0, none⟩ (.int .i64 kc.set.ord)).setCell ⟨w2.heap.size, 1, none⟩ (.int .i64 kc.set.lit)).setCell ⟨w2.heap.size, 2, none⟩ (.int .i64 kc.set.most)).setCell ⟨w2.heap.size, 3, none⟩ (.slice a10 kc.ps.length c10)).setCell ⟨w2.heap.size, 4, none⟩ (.int .i64 kc.base)).setCell ⟨w2.heap.size, 5, none⟩ (.int .i64 kc.last)).setCell ⟨w2.heap.size, 6, none⟩ (.string (bs e9))).setCell ⟨w2.heap.size, 7, none⟩ (.string (bs b10))).setCell ⟨w2.heap.size, 8, none⟩ (.bool true)) = W9 at HALL0 ⊢
          have hO9 : (.slice a10 kc.ps.length c10 = Value.slice a x.k.ps.length cap ∧ kc.ps = x.k.ps) ∨ ownPr W9 w.heap.size (.slice a10 kc.ps.length c10) kc.ps := by
            rcases H10.out with ⟨h1, h2⟩ | h
            · rw [h1, h2]
              exact HA.out.2.2.2.imp id (fun h => HALL0.out.2.2.2 _ _ (ownsRow_up h HUQ.out))
            · exact .inr (HALL0.out.2.2.2 _ _ (ownsRow_base h (by omega)))
          have HO9 := Lib.hid hO9
          clear hO9
          go_roundw
          case rel => exact ⟨m - 1, kc, e9, b10, _, HN.out, HALL0.out.1, HALL0.out.2.1, HALL0.out.2.2.1, HO9.out⟩
          case measure => rw [HM.out, plenC_at HALL0.out.1]; exact hdl9
        · have hf : k9.full = false := by unfold KnD.full; rw [decide_eq_false e2, Bool.and_false]
          have HN := Lib.hid (HX9.out.2 hf)
          clear hf
          generalize k9.next = nx9 at *
          generalize lastC k9.set = lc9 at *
          refine wp_region_up 18 (by kernel_rfl) (by kernel_rfl) ?_
          simp only [List.take, List.drop]
          repeat (refine wpUp_step (fun K hK => ?_); go_simp; (try simp only [↓IntWalk.iteOmega]); first
            | (refine hK _ _ ?_; clear hK K)
            | (apply stepU_c
               · intro wq hwq; (have hbq := bcell hwq; (repeat (first | refine fills_no (by rfl) ?_ | refine fills_yes (by rfl) (fun vq hvq => ?_))); simp only [List.filter_nil, fills]; unfold upAt; (try ((obtain ⟨-, r0, r1, r2, r3, r4, r5, r6, r7, r8⟩ := (HALL.out.1.up hwq).cells))); go_simp; (try go_bits); (try simp only [↓IntWalk.iteOmega]); (try (rw [dif_pos (by omega)]; go_simp; try go_bits)); first | exact upOut_value | (apply upOut_call; (go_at_call 73; exact cN _ (hrd9 _ hwq))) | (apply upOut_eq; (go_at_call 73; exact cN _ (hrd9 _ hwq))) | (apply upOut_call; (go_at_call 117; exact cLa _)) | (apply upOut_eq; (go_at_call 117; exact cLa _)))
               go_simp; refine hK _ _ ?_; clear hK K))
          refine wpUp_nil (fun wq hwq => ?_)
          simp only [fills]
          go_wp2_with fail
          go_roundw
          case rel => exact ⟨m - 1, k9, e9, b9, _, HN.out, HALL.out.1.up hwq, HALL.out.2.1.up hwq, HALL.out.2.2.1.trans hwq, HALL.out.2.2.2.imp id (fun h => ownsRow_up h hwq)⟩
          case measure => rw [HM.out, plenC_at (HALL.out.1.up hwq)]; exact hdl9
      · have hf : k9.full = false := by unfold KnD.full; rw [decide_eq_false e1, Bool.false_and]
        have HN := Lib.hid (HX9.out.2 hf)
        clear hf
        generalize k9.next = nx9 at *
        generalize lastC k9.set = lc9 at *
        refine wp_region_up 18 (by kernel_rfl) (by kernel_rfl) ?_
        simp only [List.take, List.drop]
        repeat (refine wpUp_step (fun K hK => ?_); go_simp; (try simp only [↓IntWalk.iteOmega]); first
          | (refine hK _ _ ?_; clear hK K)
          | (apply stepU_c
             · intro wq hwq; (have hbq := bcell hwq; (repeat (first | refine fills_no (by rfl) ?_ | refine fills_yes (by rfl) (fun vq hvq => ?_))); simp only [List.filter_nil, fills]; unfold upAt; (try ((obtain ⟨-, r0, r1, r2, r3, r4, r5, r6, r7, r8⟩ := (HALL.out.1.up hwq).cells))); go_simp; (try go_bits); (try simp only [↓IntWalk.iteOmega]); (try (rw [dif_pos (by omega)]; go_simp; try go_bits)); first | exact upOut_value | (apply upOut_call; (go_at_call 73; exact cN _ (hrd9 _ hwq))) | (apply upOut_eq; (go_at_call 73; exact cN _ (hrd9 _ hwq))) | (apply upOut_call; (go_at_call 117; exact cLa _)) | (apply upOut_eq; (go_at_call 117; exact cLa _)))
             go_simp; refine hK _ _ ?_; clear hK K))
        refine wpUp_nil (fun wq hwq => ?_)
        simp only [fills]
        go_wp2_with fail
        go_roundw
        case rel => exact ⟨m - 1, k9, e9, b9, _, HN.out, HALL.out.1.up hwq, HALL.out.2.1.up hwq, HALL.out.2.2.1.trans hwq, HALL.out.2.2.2.imp id (fun h => ownsRow_up h hwq)⟩
        case measure => rw [HM.out, plenC_at (HALL.out.1.up hwq)]; exact hdl9

end Go.Proofs.YtgbakgaegldomaaGreat

/- Walks of the reference's WriteData and CloseWriter, for writers of any kind. Conditions: the pairs can be read, the texts are no longer than 2^20 bytes. -/
namespace Go.Proofs.YtgbakgaegldomaaGreat
set_option linter.unusedVariables false
set_option linter.unusedSimpArgs false
open Go Go.RowKit

theorem WlD.outs {T : List UInt8 × KnD × List UInt8} {s : SetD} : ∀ (m : Nat) (k : KnD) (d b : List UInt8), WlD T s m k d b → isBits T.1 ∧ T.1.length ≤ 41000 := by
  intro m
  induction m with
  | zero => intro k d b h; have h1 := h.len; have h2 := List.length_pos_iff.2 h.ne; omega
  | succ m ih =>
    intro k d b h
    by_cases hl : k.longest d = d
    · rw [h.stop hl]; exact ⟨h.bit, by have := h.sum; show b.length ≤ 41000; omega⟩
    · obtain ⟨_, h1, h2⟩ := h.step hl
      cases hf : (k.after (k.find (k.longest d))).full
      · exact ih _ _ _ (h2 hf)
      · exact ih _ _ _ (h1 hf)
theorem wdS_pre (x : WrD) (v1 : Value) (a : Option Addr) (cap : Nat) (w w1 : World) (ho : ownPr w1 (w.heap.size + 2) v1 x.k.ps) (hx : WrAt w.heap.size x (.slice a x.k.ps.length cap) w1) (hz : WrAt (w.heap.size + 1) wr0 (.slice none 0 0) w1) (hu : Up w w1) :
    WrAt w.heap.size x v1 (WrW w1 w.heap.size x v1) ∧ WrAt (w.heap.size + 1) wr0 (.slice none 0 0) (WrW w1 w.heap.size x v1) ∧ Up w (WrW w1 w.heap.size x v1) ∧ ownPr (WrW w1 w.heap.size x v1) (w.heap.size + 2) v1 x.k.ps :=
  ⟨WrAt.store hx x v1, (WrW.other (by omega) x v1).trans hz, WrW.up hu (Nat.le_refl _) x v1, WrW.own ho (fun e => by have := (ho.lt _ e.symm).1; omega) x v1⟩

set_option maxRecDepth 100000 in
set_option maxHeartbeats 16000000 in
theorem wdS_any (x : WrD) (v : Value) (lo : Nat) (d : List UInt8) (w : World) (hr : RdP lo w v x.k.ps) (hps : x.k.ps.length ≤ 1048576) (hp : x.pend.length ≤ 1048576) (hb : x.bits.length ≤ 1048576) (hd : d.length ≤ 1048576) :
    Calls Tryz.prog 35  #[wrV x v, .string (bs d)] w (WdPost (wdO x d) w) := by
  have cO := fun wq hr => ownWS_any x v lo wq hr hps
  have hrt := fun (wq : World) (hu : Up w wq) => hr.up hu
  have hsp := bs_size x.pend
  have hsd := bs_size d
  have hn2 : (bs x.pend).size + (bs d).size ≤ 2097152 := by omega
  have hcat : bs x.pend ++ bs d = bs (x.pend ++ d) := bs_app _ _
  obtain ⟨a, cap, rfl, -, -, -, -⟩ := id hr
  clear hr
  unfold wrV at *
  go_enter Tryz.func35, Tryz.ntmps35
  go_wp2_with fail
  with_reducible refine (cO _ (hrt _ (by (repeat (first | with_reducible exact Up.refl _ | with_reducible assumption | with_reducible refine Up.set ?_ (by first | exact Nat.le_refl _ | (simp only []; omega) | (simp; omega)) _ | with_reducible refine Up.alloc ?_ _ | with_reducible refine Up.drew ?_ | refine Up.trans ?_ (by with_reducible assumption)))))).mono ?_
  rintro e w1 ⟨v1, rfl, ho1, U1⟩
  obtain ⟨a1, c1, rfl⟩ := ownsRow_shape ho1
  have hX := WrAt.up (show WrAt w.heap.size x (.slice a x.k.ps.length cap) _ from box_up ((Up.refl _).alloc _) (MapKept.heap_alloc w _).1) U1
  have hZ := WrAt.zero (box_up U1 (alloc2 w _ _))
  have hU1 : Up w w1 := by (repeat (first | with_reducible exact Up.refl _ | with_reducible assumption | with_reducible refine Up.set ?_ (by first | exact Nat.le_refl _ | (simp only []; omega) | (simp; omega)) _ | with_reducible refine Up.alloc ?_ _ | with_reducible refine Up.drew ?_ | refine Up.trans ?_ (by with_reducible assumption)))
  have hl1 : w.heap.size + 2 ≤ w1.heap.size := by have := U1.size; simp at this; exact this
  have HP := Lib.hid (wdS_pre x (.slice a1 x.k.ps.length c1) a cap w w1 (ownsRow_base ho1 (by simp)) hX hZ hU1)
  have hlz : w1.heap.size ≤ (WrW w1 w.heap.size x (.slice a1 x.k.ps.length c1)).heap.size := by unfold WrW KnW; simp [World.setCell]
  obtain ⟨hbx, r0, r1, r2, r3, r4, r5, r6, r7, r8⟩ := hX.cells
  have hfx := box_free hX
  clear ho1 hX hZ hU1 U1 cO hrt
  unfold wrV
  go_wp2_with fail
  rw [show (((((((((w1.setCell ⟨w.heap.size, 0, none⟩ (.int .i64 x.k.set.ord)).setCell ⟨w.heap.size, 1, none⟩ (.int .i64 x.k.set.lit)).setCell ⟨w.heap.size, 2, none⟩ (.int .i64 x.k.set.most)).setCell ⟨w.heap.size, 3, none⟩ (.slice a1 x.k.ps.length c1)).setCell ⟨w.heap.size, 4, none⟩ (.int .i64 x.k.base)).setCell ⟨w.heap.size, 5, none⟩ (.int .i64 x.k.last)).setCell ⟨w.heap.size, 6, none⟩ (.string (bs x.pend))).setCell ⟨w.heap.size, 7, none⟩ (.string (bs x.bits))).setCell ⟨w.heap.size, 8, none⟩ (.bool x.beg)) = WrW w1 w.heap.size x (.slice a1 x.k.ps.length c1) from rfl]
  clear r0 r1 r2 r3 r4 r5 r6 r7 r8 hbx hfx
  generalize WrW w1 w.heap.size x (.slice a1 x.k.ps.length c1) = W1 at HP hlz ⊢
  have hlW : w.heap.size + 2 ≤ W1.heap.size := by omega
  clear hlz hl1
  have hrt := fun (wq : World) (hu : Up W1 wq) => (RdP.of_own HP.out.2.2.2).up hu
  have cV := fun wq hr => wvS_any x (.slice a1 x.k.ps.length c1) (w.heap.size + 2) wq hr (by omega) (by omega) (by omega)
  unfold wrV at cV
  obtain ⟨hbx, r0, r1, r2, r3, r4, r5, r6, r7, r8⟩ := HP.out.1.cells
  have hfx := box_free HP.out.1
  obtain ⟨hbz, q0, q1, q2, q3, q4, q5, q6, q7, q8⟩ := HP.out.2.1.cells
  simp only [wr0] at q0 q1 q2 q3 q4 q5 q6 q7 q8
  have hfz := box_free HP.out.2.1
  cases hok : wrvB x
  · have HNO := Lib.hid (wdO_none (w := x) (d := d) (by rw [hok]; rfl))
    rw [hok] at cV
    clear hok
    with_reducible refine (cV _ (hrt _ (Up.refl _))).mono ?_
    rintro e w3 ⟨rfl, U3⟩
    have B3 := bcell U3
    have hl3 := U3.size
    have HU3 := Lib.hid (HP.out.2.2.1.trans U3)
    go_wp2_with fail
    obtain ⟨-, q0, q1, q2, q3, q4, q5, q6, q7, q8⟩ := (HP.out.2.1.up U3).cells
    simp only [wr0] at q0 q1 q2 q3 q4 q5 q6 q7 q8
    refine bodyPost_ret (v := .tuple #[noWr, .string ⟨#[]⟩, .bool false]) (by simp [results, Tryz.results35, go_sem, q0, q1, q2, q3, q4, q5, q6, q7, q8]; rfl) rfl ?_
    rw [HNO.out]
    refine wdP_none rfl ?_
    have hU := HU3.out
    (repeat (first | with_reducible exact Up.refl _ | with_reducible assumption | with_reducible refine Up.set ?_ (by first | exact Nat.le_refl _ | (simp only []; omega) | (simp; omega)) _ | with_reducible refine Up.alloc ?_ _ | with_reducible refine Up.drew ?_ | refine Up.trans ?_ (by with_reducible assumption)))
  · rw [hok] at cV
    have cF := fun wq => fitsS_any x.k.set (bs (x.pend ++ d)) wq (by rw [bs_size, List.length_append]; omega)
    rw [bs_data] at cF
    simp only [setV] at cF
    cases hfit : fitsB x.k.set (x.pend ++ d)
    · have HNO := Lib.hid (wdO_none (w := x) (d := d) (by rw [hok, hfit]; rfl))
      rw [hfit] at cF
      clear hok hfit
      with_reducible refine (cV _ (hrt _ (Up.refl _))).mono ?_
      rintro e w3 ⟨rfl, U3⟩
      have B3 := bcell U3
      have hl3 := U3.size
      go_wp2_with (first | (go_at_call 81; (with_reducible refine (cF _).mono ?_); rintro e w4 ⟨rfl, U4⟩; have B4 := bcell U4; have hl4 := U4.size; obtain ⟨hbz, q0, q1, q2, q3, q4, q5, q6, q7, q8⟩ := ((HP.out.2.1.up U3).up U4).cells; simp only [wr0] at q0 q1 q2 q3 q4 q5 q6 q7 q8; have hfz := box_free ((HP.out.2.1.up U3).up U4); obtain ⟨hbx, r0, r1, r2, r3, r4, r5, r6, r7, r8⟩ := ((HP.out.1.up U3).up U4).cells; have hfx := box_free ((HP.out.1.up U3).up U4)) | fail)
      have HU3 := Lib.hid ((HP.out.2.2.1.trans U3).trans U4)
      refine bodyPost_ret (v := .tuple #[noWr, .string ⟨#[]⟩, .bool false]) (by simp [results, Tryz.results35, go_sem, q0, q1, q2, q3, q4, q5, q6, q7, q8]; rfl) rfl ?_
      rw [HNO.out]
      refine wdP_none rfl ?_
      have hU := HU3.out
      (repeat (first | with_reducible exact Up.refl _ | with_reducible assumption | with_reducible refine Up.set ?_ (by first | exact Nat.le_refl _ | (simp only []; omega) | (simp; omega)) _ | with_reducible refine Up.alloc ?_ _ | with_reducible refine Up.drew ?_ | refine Up.trans ?_ (by with_reducible assumption)))
    · have HYES := Lib.hid (wdO_some (w := x) (d := d) (by rw [hok, hfit]; rfl))
      rw [hfit] at cF
      have hwok := wrvB_ok hok
      have hfits := fitsB_lits hfit
      clear hok hfit
      with_reducible refine (cV _ (hrt _ (Up.refl _))).mono ?_
      rintro e w3 ⟨rfl, U3⟩
      have B3 := bcell U3
      have hl3 := U3.size
      by_cases hd0 : d = []
      · subst hd0
        have HDE := isEmpty_nil
        rw [List.append_nil] at cF
        have cY := fun wx hr => copyS_any x.k (.slice a1 x.k.ps.length c1) (w.heap.size + 2) wx hr (by omega)
        simp only [kV] at cY
        go_wp2_with (first | (go_at_call 81; (with_reducible refine (cF _).mono ?_); rintro e w4 ⟨rfl, U4⟩; have B4 := bcell U4; have hl4 := U4.size; obtain ⟨hbz, q0, q1, q2, q3, q4, q5, q6, q7, q8⟩ := ((HP.out.2.1.up U3).up U4).cells; simp only [wr0] at q0 q1 q2 q3 q4 q5 q6 q7 q8; have hfz := box_free ((HP.out.2.1.up U3).up U4); obtain ⟨hbx, r0, r1, r2, r3, r4, r5, r6, r7, r8⟩ := ((HP.out.1.up U3).up U4).cells; have hfx := box_free ((HP.out.1.up U3).up U4)) | fail)
        have hUa : Up w4 (w4.alloc (.cells #[.int .i64 x.k.set.ord, .int .i64 x.k.set.lit, .int .i64 x.k.set.most, .slice a1 x.k.ps.length c1, .int .i64 x.k.base, .int .i64 x.k.last, .string (bs x.pend), .string (bs x.bits), .bool x.beg] 37)) := (Up.refl _).alloc _
        have hA : WrAt w4.heap.size x (.slice a1 x.k.ps.length c1) (w4.alloc (.cells #[.int .i64 x.k.set.ord, .int .i64 x.k.set.lit, .int .i64 x.k.set.most, .slice a1 x.k.ps.length c1, .int .i64 x.k.base, .int .i64 x.k.last, .string (bs x.pend), .string (bs x.bits), .bool x.beg] 37)) := (MapKept.heap_alloc w4 _).1
        have HA := Lib.hid (And.intro hA (And.intro (((HP.out.2.1.up U3).up U4).up hUa) (((HP.out.2.2.1.trans U3).trans U4).trans hUa)))
        have hzA : w4.heap.size < (w4.alloc (.cells #[.int .i64 x.k.set.ord, .int .i64 x.k.set.lit, .int .i64 x.k.set.most, .slice a1 x.k.ps.length c1, .int .i64 x.k.base, .int .i64 x.k.last, .string (bs x.pend), .string (bs x.bits), .bool x.beg] 37)).heap.size := by simp
        with_reducible refine (cY _ (hrt _ ((U3.trans U4).trans hUa))).mono ?_
        clear hA hUa
        generalize w4.alloc (.cells #[.int .i64 x.k.set.ord, .int .i64 x.k.set.lit, .int .i64 x.k.set.most, .slice a1 x.k.ps.length c1, .int .i64 x.k.base, .int .i64 x.k.last, .string (bs x.pend), .string (bs x.bits), .bool x.beg] 37) = W6 at *
        rintro e w5 ⟨v5, rfl, ho5, U5⟩
        obtain ⟨a5, c5, rfl⟩ := ownsRow_shape ho5
        have HQ := Lib.hid (And.intro (HA.out.1.up U5) (And.intro (HA.out.2.1.up U5) (And.intro (HA.out.2.2.trans U5) ho5)))
        have hzq := U5.size
        have HW := Lib.hid (HYES.out.trans (congrArg some (show x.write [] = (x, []) by unfold WrD.write; rw [if_pos rfl])))
        clear ho5 U5 HA HYES HP U3 U4 cY cF cV hrt r0 r1 r2 r3 r4 r5 r6 r7 r8 q0 q1 q2 q3 q4 q5 q6 q7 q8 hbx hbz hfx hfz B3 B4
        obtain ⟨hby, s0, s1, s2, s3, s4, s5, s6, s7, s8⟩ := HQ.out.1.cells
        have hfy := box_free HQ.out.1
        obtain ⟨hbz, q0, q1, q2, q3, q4, q5, q6, q7, q8⟩ := HQ.out.2.1.cells
        simp only [wr0] at q0 q1 q2 q3 q4 q5 q6 q7 q8
        have hfz := box_free HQ.out.2.1
        simp only [kV]
        go_wp2_with fail
        refine bodyPost_ret (v := .tuple #[wrV x (.slice a5 x.k.ps.length c5), .string ⟨#[]⟩, .bool true]) (by simp [results, Tryz.results35, go_sem, q0, q1, q2, q3, q4, q5, q6, q7, q8]; rfl) rfl ?_
        rw [HW.out]
        refine ⟨.slice a5 x.k.ps.length c5, rfl, ?_, ?_⟩
        · have ho := ownsRow_base HQ.out.2.2.2 (show w.heap.size ≤ W6.heap.size by omega)
          have hlo := fun b e => (HQ.out.2.2.2.lt b e).1
          have hne1 : some (w.heap.size + 1) ≠ Value.ownBlock (.slice a5 x.k.ps.length c5) := fun e => by have := hlo _ e.symm; omega
          have hne2 : some w4.heap.size ≠ Value.ownBlock (.slice a5 x.k.ps.length c5) := fun e => by have := hlo _ e.symm; omega
          repeat (first | with_reducible refine ownsRow_setb ?_ hne1 _ _ | with_reducible refine ownsRow_setb ?_ hne2 _ _)
          exact ho
        · have hU := HQ.out.2.2.1
          (repeat (first | with_reducible exact Up.refl _ | with_reducible assumption | with_reducible refine Up.set ?_ (by first | exact Nat.le_refl _ | (simp only []; omega) | (simp; omega)) _ | with_reducible refine Up.alloc ?_ _ | with_reducible refine Up.drew ?_ | refine Up.trans ?_ (by with_reducible assumption)))
      · have HDE := isEmpty_bs hd0
        have cL := fun wq hr => l3Write_any x (.slice a1 x.k.ps.length c1) (w.heap.size + 2) d wq hwok hd0 (fun b hb => hfits.2.2 b (List.mem_append_right _ hb)) hfits.2.1 hr
        have hsx := WlD.outs _ _ _ _ (WlD.start hwok hd0 (fun b hb => hfits.2.2 b (List.mem_append_right _ hb)) hfits.2.1)
        have hso := Lib.hid hwok.1.set
        have hwr : Hid (x.write d = (⟨(x.codes d).2.1, (x.codes d).2.2, (x.all d).drop ((x.all d).length / 8 * 8), true⟩, packL x.k.set.ord ((x.all d).take ((x.all d).length / 8 * 8)))) := by
          unfold Hid WrD.write
          rw [if_neg hd0]
        have HW := Lib.hid (HYES.out.trans (congrArg some hwr.out))
        clear hwr HYES
        dsimp only at hsx
        generalize x.all d = b5 at *
        generalize (x.codes d).2.1 = k5 at *
        generalize (x.codes d).2.2 = p5 at *
        unfold wrV at cL
        clear hwok hfits
        go_wp2_with (first | (go_at_call 81; (with_reducible refine (cF _).mono ?_); rintro e w4 ⟨rfl, U4⟩; have B4 := bcell U4; have hl4 := U4.size; obtain ⟨hbz, q0, q1, q2, q3, q4, q5, q6, q7, q8⟩ := ((HP.out.2.1.up U3).up U4).cells; simp only [wr0] at q0 q1 q2 q3 q4 q5 q6 q7 q8; have hfz := box_free ((HP.out.2.1.up U3).up U4); obtain ⟨hbx, r0, r1, r2, r3, r4, r5, r6, r7, r8⟩ := ((HP.out.1.up U3).up U4).cells; have hfx := box_free ((HP.out.1.up U3).up U4)) | fail)
        have HH := Lib.hid (And.intro ((HP.out.1.up U3).up U4) (And.intro ((HP.out.2.1.up U3).up U4) (And.intro ((HP.out.2.2.1.trans U3).trans U4) (ownsRow_up (ownsRow_up HP.out.2.2.2 U3) U4))))
        with_reducible refine (cL _ (hrt _ (U3.trans U4))).mono ?_
        rintro e w5 ⟨v5, rfl, h5, U5⟩
        obtain ⟨a5, c5, rfl⟩ := put_shape h5
        dsimp only at h5
        have ho5 : ownPr w5 (w.heap.size + 2) (.slice a5 k5.ps.length c5) k5.ps := by
          rcases h5 with ⟨h1, h2⟩ | h
          · rw [h1, h2]; exact ownsRow_up HH.out.2.2.2 U5
          · exact ownsRow_base h (by omega)
        have HG := Lib.hid (And.intro (HH.out.1.up U5) (And.intro (HH.out.2.1.up U5) (And.intro (HH.out.2.2.1.trans U5) ho5)))
        have hl5 := U5.size
        have hb5 := bs_size b5
        obtain ⟨hbx, r0, r1, r2, r3, r4, r5, r6, r7, r8⟩ := HG.out.1.cells
        clear HH HP U3 U4 U5 h5 ho5 cL cV cF hrt q0 q1 q2 q3 q4 q5 q6 q7 q8 hfx hfz hbz B3 B4
        unfold wrV
        go_simp
        iterate 17 go_step
        have hA : WrAt w5.heap.size ⟨k5, p5, b5, true⟩ (.slice a5 k5.ps.length c5) (w5.alloc (.cells #[.int .i64 k5.set.ord, .int .i64 k5.set.lit, .int .i64 k5.set.most, .slice a5 k5.ps.length c5, .int .i64 k5.base, .int .i64 k5.last, .string (bs p5), .string (bs b5), .bool true] 37)) := (MapKept.heap_alloc w5 _).1
        have hUa : Up w5 (w5.alloc (.cells #[.int .i64 k5.set.ord, .int .i64 k5.set.lit, .int .i64 k5.set.most, .slice a5 k5.ps.length c5, .int .i64 k5.base, .int .i64 k5.last, .string (bs p5), .string (bs b5), .bool true] 37)) := (Up.refl _).alloc _
        have HA := Lib.hid (And.intro hA (And.intro (HG.out.1.up hUa) (And.intro (HG.out.2.1.up hUa) (And.intro (HG.out.2.2.1.trans hUa) (ownsRow_up HG.out.2.2.2 hUa)))))
        have hzA : w5.heap.size < (w5.alloc (.cells #[.int .i64 k5.set.ord, .int .i64 k5.set.lit, .int .i64 k5.set.most, .slice a5 k5.ps.length c5, .int .i64 k5.base, .int .i64 k5.last, .string (bs p5), .string (bs b5), .bool true] 37)).heap.size := by simp
        clear hA hUa HG r0 r1 r2 r3 r4 r5 r6 r7 r8 hbx
        generalize w5.alloc (.cells #[.int .i64 k5.set.ord, .int .i64 k5.set.lit, .int .i64 k5.set.most, .slice a5 k5.ps.length c5, .int .i64 k5.base, .int .i64 k5.last, .string (bs p5), .string (bs b5), .bool true] 37) = W6 at *
        obtain ⟨hbx, r0, r1, r2, r3, r4, r5, r6, r7, r8⟩ := HA.out.2.1.cells
        obtain ⟨hby, s0, s1, s2, s3, s4, s5, s6, s7, s8⟩ := HA.out.1.cells
        go_wp2_with fail
        have hnb : b5.length / 8 * 8 ≤ b5.length := by omega
        rw [show ((b5.length : Int) / 8 * 8) = ((b5.length / 8 * 8 : Nat) : Int) by omega]
        have hdr : (bs b5).extract (b5.length / 8 * 8) b5.length = bs (b5.drop (b5.length / 8 * 8)) := by rw [bs_ext]; congr 1; exact List.take_of_length_le (by rw [List.length_drop]; omega)
        have htk : (bs b5).extract 0 (b5.length / 8 * 8) = bs (b5.take (b5.length / 8 * 8)) := by rw [bs_ext, List.drop_zero, Nat.sub_zero]
        have hibt : isBits (b5.take (b5.length / 8 * 8)) := fun b hb => hsx.1 b (List.mem_of_mem_take hb)
        have cK := fun wx => l1Pack_any x.k.set.ord (bs (b5.take (b5.length / 8 * 8))) wx (by rw [bs_data]; exact hibt) (by rw [bs_size, List.length_take]; omega)
        rw [bs_data] at cK
        generalize b5.take (b5.length / 8 * 8) = t5 at *
        generalize b5.drop (b5.length / 8 * 8) = u5 at *
        generalize b5.length / 8 * 8 = n5 at *
        have HDR := Lib.hid hdr
        have HTK := Lib.hid htk
        clear hdr htk hibt
        refine wp_region_up 9 (by kernel_rfl) (by kernel_rfl) ?_
        simp only [List.take, List.drop]
        repeat (refine wpUp_step (fun K hK => ?_); go_simp; (try simp only [↓IntWalk.iteOmega]); first
          | (refine hK _ _ ?_; clear hK K)
          | (apply stepU_c
             · intro wq hwq; (have hbq := bcell hwq; (repeat (first | refine fills_no (by rfl) ?_ | refine fills_yes (by rfl) (fun vq hvq => ?_))); simp only [List.filter_nil, fills]; unfold upAt; (try ((obtain ⟨-, r0, r1, r2, r3, r4, r5, r6, r7, r8⟩ := (HA.out.2.1.up hwq).cells; obtain ⟨hby, s0, s1, s2, s3, s4, s5, s6, s7, s8⟩ := (HA.out.1.up hwq).cells))); go_simp; (try go_bits); (try simp only [↓IntWalk.iteOmega]); (try (rw [dif_pos (by omega)]; go_simp; try go_bits)); first | exact upOut_value | (apply upOut_call; (rw [HTK.out]; go_at_call 83; exact cK _)) | (apply upOut_eq; (rw [HTK.out]; go_at_call 83; exact cK _)) | (apply upOut_call; (go_at_call 83; exact cK _)) | (apply upOut_eq; (go_at_call 83; exact cK _)))
             go_simp; refine hK _ _ ?_; clear hK K))
        refine wpUp_nil (fun wq hwq => ?_)
        simp only [fills]
        have HQ := Lib.hid (And.intro (HA.out.1.up hwq) (And.intro (HA.out.2.2.1.up hwq) (And.intro (HA.out.2.2.2.1.trans hwq) (ownsRow_up HA.out.2.2.2.2 hwq))))
        have hzq := hwq.size
        clear hwq HA cK r0 r1 r2 r3 r4 r5 r6 r7 r8 s0 s1 s2 s3 s4 s5 s6 s7 s8 hbx hby
        obtain ⟨hby, s0, s1, s2, s3, s4, s5, s6, s7, s8⟩ := HQ.out.1.cells
        have hfy := box_free HQ.out.1
        obtain ⟨hbz, q0, q1, q2, q3, q4, q5, q6, q7, q8⟩ := HQ.out.2.1.cells
        simp only [wr0] at q0 q1 q2 q3 q4 q5 q6 q7 q8
        have hfz := box_free HQ.out.2.1
        generalize packL x.k.set.ord t5 = y5 at *
        go_wp2_with fail
        refine bodyPost_ret (v := .tuple #[wrV ⟨k5, p5, u5, true⟩ (.slice a5 k5.ps.length c5), .string (bs y5), .bool true]) (by simp [results, Tryz.results35, go_sem, q0, q1, q2, q3, q4, q5, q6, q7, q8, HDR.out]; rfl) rfl ?_
        rw [HW.out]
        refine ⟨.slice a5 k5.ps.length c5, rfl, ?_, ?_⟩
        · have ho := ownsRow_base HQ.out.2.2.2 (show w.heap.size ≤ w.heap.size + 2 by omega)
          have hlo := fun b e => (HQ.out.2.2.2.lt b e).1
          have hne1 : some (w.heap.size + 1) ≠ Value.ownBlock (.slice a5 k5.ps.length c5) := fun e => by have := hlo _ e.symm; omega
          have hne2 : some w5.heap.size ≠ Value.ownBlock (.slice a5 k5.ps.length c5) := box_ne HQ.out.1 HQ.out.2.2.2 (by decide)
          repeat (first | with_reducible refine ownsRow_setb ?_ hne1 _ _ | with_reducible refine ownsRow_setb ?_ hne2 _ _)
          exact ho
        · have hU := HQ.out.2.2.1
          (repeat (first | with_reducible exact Up.refl _ | with_reducible assumption | with_reducible refine Up.set ?_ (by first | exact Nat.le_refl _ | (simp only []; omega) | (simp; omega)) _ | with_reducible refine Up.alloc ?_ _ | with_reducible refine Up.drew ?_ | refine Up.trans ?_ (by with_reducible assumption)))

end Go.Proofs.YtgbakgaegldomaaGreat

/- Walks of the program's CloseWriter and LongestWord. Conditions: the pairs can be read. -/
namespace Go.Proofs.YtgbakgaegldomaaGreat
set_option linter.unusedVariables false
set_option linter.unusedSimpArgs false
open Go Go.RowKit

theorem wcO_none {x : WrD} (h : wrvB x = false) : wcO x = none := by unfold wcO; rw [h]; rfl
theorem wcO_some {x : WrD} (h : wrvB x = true) : wcO x = some x.close := by unfold wcO; rw [h]; rfl
theorem optS_no : optS none = .tuple #[.string ⟨#[]⟩, .bool false] := rfl
/-- What closes a writer whose data has all its codes. -/
theorem close_nil {x : WrD} (h : x.pend = []) : x.close = packL x.k.set.ord (x.open.1 ++ codeL x.k.set.ord (clr x.k.set + 1) x.open.2.width) := by
  unfold WrD.close
  rw [if_pos h, List.nil_append]
  show packL _ (_ ++ (codeL _ ((x.k.c : Int) + 1).toNat _ ++ [])) = _
  rw [List.append_nil]
  rfl
/-- What closes a writer of which a word has no code yet. -/
theorem close_word {x : WrD} {n : Nat} (h : x.pend ≠ []) (ho : x.open = (x.bits, x.k)) (hn : x.k.find x.pend = n) (hth : x.k.thru n = x.k.after n) : x.close = packL x.k.set.ord ((x.bits ++ codeL x.k.set.ord n x.k.width) ++ codeL x.k.set.ord (clr x.k.set + 1) (x.k.after n).width) := by
  unfold WrD.close
  rw [if_neg h, ho]
  dsimp only
  rw [hn]
  show packL _ (_ ++ (codeL _ (n : Int).toNat _ ++ (codeL _ ((x.k.c : Int) + 1).toNat (x.k.thru n).width ++ []))) = _
  rw [List.append_nil, hth, Int.toNat_natCast, List.append_assoc]
  rfl

set_option maxRecDepth 100000 in
set_option maxHeartbeats 16000000 in
theorem wcI_any (x : WrD) (v : Value) (lo : Nat) (w : World) (hl : -9223372036854775808 ≤ x.k.set.lit ∧ x.k.set.lit ≤ 9223372036854775807) (hr : RdP lo w v x.k.ps) (hps : x.k.ps.length ≤ 1048576) (hp : x.pend.length ≤ 1048576) (hb : x.bits.length ≤ 1048576) :
    Calls Tryz.prog 32  #[wrV x v] w (Same (optS (wcO x)) w) := by
  have cV := fun wq hr => wvI_any x v lo wq hl hr (by omega) (by omega) (by omega)
  have hrt := fun (wq : World) (hu : Up w wq) => hr.up hu
  cases hok : wrvB x
  · rw [wcO_none hok, optS_no]
    rw [hok] at cV
    obtain ⟨a, cap, rfl, -, -, -, -⟩ := id hr
    clear hr hok
    unfold wrV at *
    go_enter Tryz.func32, Tryz.ntmps32
    go_wp2_with (first | (go_at_call 41; (with_reducible refine (cV _ (hrt _ (by (repeat (first | with_reducible exact Up.refl _ | with_reducible assumption | with_reducible refine Up.set ?_ (by first | exact Nat.le_refl _ | (simp only []; omega) | (simp; omega)) _ | with_reducible refine Up.alloc ?_ _ | with_reducible refine Up.drew ?_ | refine Up.trans ?_ (by with_reducible assumption)))))).mono ?_); rintro e w1 ⟨rfl, U1⟩; have B1 := bcell U1; have Z1 := U1.size; (try simp at Z1); (try rw [Nat.add_one_le_iff] at Z1)) | fail)
    go_ret2
    refine ⟨rfl, ?_⟩
    (repeat (first | with_reducible exact Up.refl _ | with_reducible assumption | with_reducible refine Up.set ?_ (by first | exact Nat.le_refl _ | (simp only []; omega) | (simp; omega)) _ | with_reducible refine Up.alloc ?_ _ | with_reducible refine Up.drew ?_ | refine Up.trans ?_ (by with_reducible assumption)))
  · rw [wcO_some hok]
    rw [hok] at cV
    have hwo := wrvB_ok hok
    have hk := hwo.1
    have hb7 := hwo.2.2.2.2.2.1
    have hbit := hwo.2.2.2.2.1
    have hp2 := hwo.2.2.2.1
    have cO := fun wq hr => coderOf_any x v lo wq hk hr (by omega)
    have cE := fun wq => endI_any x.k.set wq hk.set
    have ho := (setOk_bd hk.set).1
    have hcb := (clr_bd hk.set).2.1
    have hsp := bs_size x.pend
    obtain ⟨hob1, hob2⟩ := open_len hwo
    obtain ⟨hok1, hos1⟩ := WrD.open_ok hk
    unfold optS
    simp only [Option.getD_some, Option.isSome_some]
    obtain ⟨a, cap, rfl, -, -, -, -⟩ := id hr
    by_cases hpe : x.pend = []
    · have HC := Lib.hid (close_nil hpe)
      have hw9 := KnD.width_bd hok1
      have cWe := fun (a0 : World) cb wx hx => write_any a0 cb x.open.2 x.open.1 (clr x.k.set + 1) wx hx hok1 (by omega) (by omega) (.inl (by unfold KnD.c; rw [hos1]; omega))
      have hth : x.open.2.thru ((clr x.k.set + 1 : Nat) : Int) = x.open.2 := by
        unfold KnD.thru
        rw [if_pos (by unfold KnD.c; rw [hos1]; omega)]
      rw [hth, hos1, show ((clr x.k.set + 1 : Nat) : Int) = (clr x.k.set : Int) + 1 from by omega] at cWe
      rw [HC.out]
      have hbits : isBits (x.open.1 ++ codeL x.k.set.ord (clr x.k.set + 1) x.open.2.width) := hob2.app (isBits_code _ _ _)
      have hbl : (x.open.1 ++ codeL x.k.set.ord (clr x.k.set + 1) x.open.2.width).length ≤ 100 := by rw [List.length_append, codeL_length]; omega
      generalize x.open.1 ++ codeL x.k.set.ord (clr x.k.set + 1) x.open.2.width = b9 at *
      have cPk := fun wq => packI_any x.k.set.ord (bs b9) wq ho (by rw [bs_data]; exact hbits) (by rw [bs_size]; omega)
      rw [bs_data] at cPk
      have HPE : Hid (bs x.pend = ⟨#[]⟩) := by unfold Hid; rw [hpe]; rfl
      clear hok hwo hk hth hr hpe HC hob2 hbit hok1
      unfold wrV at *
      simp only [setV] at cE
      go_enter Tryz.func32, Tryz.ntmps32
      go_wp2_with (first | (go_at_call 41; (with_reducible refine (cV _ (hrt _ (by (repeat (first | with_reducible exact Up.refl _ | with_reducible assumption | with_reducible refine Up.set ?_ (by first | exact Nat.le_refl _ | (simp only []; omega) | (simp; omega)) _ | with_reducible refine Up.alloc ?_ _ | with_reducible refine Up.drew ?_ | refine Up.trans ?_ (by with_reducible assumption)))))).mono ?_); rintro e w1 ⟨rfl, U1⟩; have B1 := bcell U1; have Z1 := U1.size; (try simp at Z1); (try rw [Nat.add_one_le_iff] at Z1)) | fail)
      with_reducible refine (cO _ (hrt _ (by (repeat (first | with_reducible exact Up.refl _ | with_reducible assumption | with_reducible refine Up.set ?_ (by first | exact Nat.le_refl _ | (simp only []; omega) | (simp; omega)) _ | with_reducible refine Up.alloc ?_ _ | with_reducible refine Up.drew ?_ | refine Up.trans ?_ (by with_reducible assumption)))))).mono ?_
      rintro e w2 ⟨cb, rfl, hC⟩
      have U2 := hC.1
      have hX : WrAt w.heap.size x (.slice a x.k.ps.length cap) w2 := box_up (U1.trans U2) (MapKept.heap_alloc w _).1
      have HX := Lib.hid (show WrAt w.heap.size x (.slice a x.k.ps.length cap) w1 from box_up U1 (MapKept.heap_alloc w _).1)
      have HU1 := Lib.hid (show Up w w1 by (repeat (first | with_reducible exact Up.refl _ | with_reducible assumption | with_reducible refine Up.set ?_ (by first | exact Nat.le_refl _ | (simp only []; omega) | (simp; omega)) _ | with_reducible refine Up.alloc ?_ _ | with_reducible refine Up.drew ?_ | refine Up.trans ?_ (by with_reducible assumption))))
      obtain ⟨hbx, r0, r1, r2, r3, r4, r5, r6, r7, r8⟩ := hX.cells
      have HC := Lib.hid hC
      have HU := Lib.hid (show Up w w2 by (repeat (first | with_reducible exact Up.refl _ | with_reducible assumption | with_reducible refine Up.set ?_ (by first | exact Nat.le_refl _ | (simp only []; omega) | (simp; omega)) _ | with_reducible refine Up.alloc ?_ _ | with_reducible refine Up.drew ?_ | refine Up.trans ?_ (by with_reducible assumption))))
      clear hX hC U2 U1 B1 Z1
      rw [HPE.out] at r6
      go_wp2_with (first | (go_at_call 76; (with_reducible refine (cE _).mono ?_); rintro e w3 ⟨rfl, U3⟩; have B3 := bcell U3; have Z3 := U3.size; (try simp at Z3); (try rw [Nat.add_one_le_iff] at Z3)) | fail)
      with_reducible refine (cWe w1 cb _ (HC.out.up U3)).mono ?_
      rintro e w4 ⟨⟨v4, rfl⟩, hC4⟩
      obtain ⟨hU4, tb, vp, vn, vi, vb, hA⟩ := hC4
      obtain ⟨gv, cv, hvb⟩ := hA.own.shape
      subst hvb
      have HA := Lib.hid hA
      have HX4 := Lib.hid (And.intro (HX.out.up hU4) (HU1.out.trans hU4))
      clear hA hU4 HC HU U3 B3 Z3 r0 r1 r2 r3 r4 r5 r6 r7 r8 hbx cWe cO
      go_wp2_with fail
      refine wp_region_up 10 (by kernel_rfl) (by kernel_rfl) ?_
      simp only [List.take, List.drop]
      repeat (refine wpUp_step (fun K hK => ?_); go_simp; (try simp only [↓IntWalk.iteOmega]); first
        | (refine hK _ _ ?_; clear hK K)
        | (apply stepU_c
           · intro wq hwq; (have hbq := bcell hwq; (repeat (first | refine fills_no (by rfl) ?_ | refine fills_yes (by rfl) (fun vq hvq => ?_))); simp only [List.filter_nil, fills]; unfold upAt; (try ((have d1 := box_cell (HA.out.up hwq).box 1; simp at d1; obtain ⟨-, r0, r1, r2, r3, r4, r5, r6, r7, r8⟩ := (HX4.out.1.up hwq).cells; have hconv := conv_M (m := b9.length) (c := cv) (HA.out.up hwq).own (Nat.le_refl _); rw [List.take_length] at hconv))); go_simp; (try go_bits); (try simp only [↓IntWalk.iteOmega]); (try (rw [dif_pos (by omega)]; go_simp; try go_bits)); first | exact upOut_value | (apply upOut_call; (go_at_call 48; exact cPk _)) | (apply upOut_eq; (go_at_call 48; exact cPk _)))
           go_simp; refine hK _ _ ?_; clear hK K))
      refine wpUp_nil (fun wq hwq => ?_)
      simp only [fills]
      go_wp2
      go_ret2
      exact ⟨rfl, HX4.out.2.trans hwq⟩
    · have HPE := isEmpty_bs hpe
      have hpos := List.length_pos_iff.2 hpe
      have hbeg : x.beg = true := by
        cases h : x.beg
        · exact absurd (hwo.2.2.2.2.2.2.2 h).1 hpe
        · rfl
      have hopen : x.open = (x.bits, x.k) := by unfold WrD.open; rw [hbeg]; rfl
      have hlg : x.k.longest x.pend = x.pend := (hwo.2.2.2.2.2.2.1).resolve_left hpe
      have hlit := hwo.2.2.1
      obtain ⟨hfw, -⟩ := KnD.find_any hk hpe hlit
      rw [hlg] at hfw
      have hfb := KnD.find_bd hk hfw
      have hne := KnD.fol_ne hk hfw
      obtain ⟨n, hn⟩ := Int.eq_ofNat_of_zero_le hfb.1
      have hth := KnD.thru_fol hk hfw
      have hka := KnD.after_ok hk hfw
      have hwd := KnD.width_bd hk
      have hwa := KnD.width_bd hka
      have cC := fun B tb vp vn vi wq hT => codeOf_any B tb x.k vp vn vi (bs x.pend) wq hT hk (by rw [bs_size]; exact hpos) (by rw [bs_size]; omega) (by rw [bs_data]; exact hlit)
      rw [bs_data] at cC
      simp only [hlg, if_true] at cC
      rw [hn] at hth hne hka hwa hfw cC hfb
      have HC := Lib.hid (close_word hpe hopen hn hth)
      rw [HC.out]
      rw [hopen] at cO
      have hs9 : (x.k.after n).set = x.k.set := rfl
      have cWn := fun (a0 : World) cb wx hx => write_any a0 cb x.k x.bits n wx hx hk (by omega) (by omega) (.inr (.inr ⟨hne.1, hne.2, hfw⟩))
      rw [hth] at cWn
      have hbl : (x.bits ++ codeL x.k.set.ord n x.k.width).length ≤ 100 := by rw [List.length_append, codeL_length]; omega
      have hbits : isBits (x.bits ++ codeL x.k.set.ord n x.k.width) := hbit.app (isBits_code _ _ _)
      generalize x.bits ++ codeL x.k.set.ord n x.k.width = b8 at *
      generalize x.k.after n = k9 at *
      have cWe := fun (a0 : World) cb wx hx => write_any a0 cb k9 b8 (clr x.k.set + 1) wx hx hka (by omega) (by omega) (.inl (by unfold KnD.c; rw [hs9]; omega))
      have hth9 : k9.thru ((clr x.k.set + 1 : Nat) : Int) = k9 := by
        unfold KnD.thru
        rw [if_pos (by unfold KnD.c; rw [hs9]; omega)]
      rw [hth9, hs9, show ((clr x.k.set + 1 : Nat) : Int) = (clr x.k.set : Int) + 1 from by omega] at cWe
      have hbits9 : isBits (b8 ++ codeL x.k.set.ord (clr x.k.set + 1) k9.width) := hbits.app (isBits_code _ _ _)
      have hbl9 : (b8 ++ codeL x.k.set.ord (clr x.k.set + 1) k9.width).length ≤ 200 := by rw [List.length_append, codeL_length]; omega
      generalize b8 ++ codeL x.k.set.ord (clr x.k.set + 1) k9.width = b9 at *
      have cPk := fun wq => packI_any x.k.set.ord (bs b9) wq ho (by rw [bs_data]; exact hbits9) (by rw [bs_size]; omega)
      rw [bs_data] at cPk
      clear hok hwo hk hth hr hpe HC hob2 hbit hok1 hlg hlit hfw hne hn hka hs9 hth9 hbeg hopen
      unfold wrV at *
      simp only [setV] at cE
      go_enter Tryz.func32, Tryz.ntmps32
      go_wp2_with (first | (go_at_call 41; (with_reducible refine (cV _ (hrt _ (by (repeat (first | with_reducible exact Up.refl _ | with_reducible assumption | with_reducible refine Up.set ?_ (by first | exact Nat.le_refl _ | (simp only []; omega) | (simp; omega)) _ | with_reducible refine Up.alloc ?_ _ | with_reducible refine Up.drew ?_ | refine Up.trans ?_ (by with_reducible assumption)))))).mono ?_); rintro e w1 ⟨rfl, U1⟩; have B1 := bcell U1; have Z1 := U1.size; (try simp at Z1); (try rw [Nat.add_one_le_iff] at Z1)) | fail)
      with_reducible refine (cO _ (hrt _ (by (repeat (first | with_reducible exact Up.refl _ | with_reducible assumption | with_reducible refine Up.set ?_ (by first | exact Nat.le_refl _ | (simp only []; omega) | (simp; omega)) _ | with_reducible refine Up.alloc ?_ _ | with_reducible refine Up.drew ?_ | refine Up.trans ?_ (by with_reducible assumption)))))).mono ?_
      rintro e w2 ⟨cb, rfl, hC⟩
      have U2 := hC.1
      have hX : WrAt w.heap.size x (.slice a x.k.ps.length cap) w2 := box_up (U1.trans U2) (MapKept.heap_alloc w _).1
      have HX := Lib.hid (show WrAt w.heap.size x (.slice a x.k.ps.length cap) w1 from box_up U1 (MapKept.heap_alloc w _).1)
      have HU1 := Lib.hid (show Up w w1 by (repeat (first | with_reducible exact Up.refl _ | with_reducible assumption | with_reducible refine Up.set ?_ (by first | exact Nat.le_refl _ | (simp only []; omega) | (simp; omega)) _ | with_reducible refine Up.alloc ?_ _ | with_reducible refine Up.drew ?_ | refine Up.trans ?_ (by with_reducible assumption))))
      obtain ⟨hbx, r0, r1, r2, r3, r4, r5, r6, r7, r8⟩ := hX.cells
      have HC := Lib.hid hC
      clear hX hC U2 U1 B1 Z1
      go_wp2_with fail
      obtain ⟨hU2, tb2, vp2, vn2, vi2, vb2, hA2⟩ := id HC.out
      have HA2 := Lib.hid hA2
      have HXX := Lib.hid (HX.out.up hU2)
      clear hA2 hU2
      refine wp_region_up 11 (by kernel_rfl) (by kernel_rfl) ?_
      simp only [List.take, List.drop]
      repeat (refine wpUp_step (fun K hK => ?_); go_simp; (try simp only [↓IntWalk.iteOmega]); first
        | (refine hK _ _ ?_; clear hK K)
        | (apply stepU_c
           · intro wq hwq; (have hbq := bcell hwq; (repeat (first | refine fills_no (by rfl) ?_ | refine fills_yes (by rfl) (fun vq hvq => ?_))); simp only [List.filter_nil, fills]; unfold upAt; (try ((have d0 := box_cell (HA2.out.up hwq).box 0; simp at d0; obtain ⟨-, r0, r1, r2, r3, r4, r5, r6, r7, r8⟩ := (HXX.out.up hwq).cells))); go_simp; (try go_bits); (try simp only [↓IntWalk.iteOmega]); (try (rw [dif_pos (by omega)]; go_simp; try go_bits)); first | exact upOut_value | (apply upOut_call; (go_at_call 75; exact cC _ _ _ _ _ _ (HA2.out.up hwq).tree)) | (apply upOut_eq; (go_at_call 75; exact cC _ _ _ _ _ _ (HA2.out.up hwq).tree)))
           go_simp; refine hK _ _ ?_; clear hK K))
      refine wpUp_nil (fun wq hwq => ?_)
      simp only [fills]
      go_wp2_with fail
      with_reducible refine (cWn w1 cb _ (HC.out.up hwq)).mono ?_
      rintro e w3 ⟨⟨v3, rfl⟩, hC3⟩
      have HC3 := Lib.hid hC3
      obtain ⟨hbx, r0, r1, r2, r3, r4, r5, r6, r7, r8⟩ := (HX.out.up hC3.1).cells
      clear hC3 HC HA2 HXX hwq
      go_wp2_with (first | (go_at_call 76; (with_reducible refine (cE _).mono ?_); rintro e w3 ⟨rfl, U3⟩; have B3 := bcell U3; have Z3 := U3.size; (try simp at Z3); (try rw [Nat.add_one_le_iff] at Z3)) | fail)
      with_reducible refine (cWe w1 cb _ (HC3.out.up U3)).mono ?_
      rintro e w4 ⟨⟨v4, rfl⟩, hC4⟩
      obtain ⟨hU4, tb, vp, vn, vi, vb, hA⟩ := hC4
      obtain ⟨gv, cv, hvb⟩ := hA.own.shape
      subst hvb
      have HA := Lib.hid hA
      have HX4 := Lib.hid (And.intro (HX.out.up hU4) (HU1.out.trans hU4))
      clear hA hU4 HC3 U3 B3 Z3 r0 r1 r2 r3 r4 r5 r6 r7 r8 hbx cWe cO
      go_wp2_with fail
      refine wp_region_up 10 (by kernel_rfl) (by kernel_rfl) ?_
      simp only [List.take, List.drop]
      repeat (refine wpUp_step (fun K hK => ?_); go_simp; (try simp only [↓IntWalk.iteOmega]); first
        | (refine hK _ _ ?_; clear hK K)
        | (apply stepU_c
           · intro wq hwq; (have hbq := bcell hwq; (repeat (first | refine fills_no (by rfl) ?_ | refine fills_yes (by rfl) (fun vq hvq => ?_))); simp only [List.filter_nil, fills]; unfold upAt; (try ((have d1 := box_cell (HA.out.up hwq).box 1; simp at d1; obtain ⟨-, r0, r1, r2, r3, r4, r5, r6, r7, r8⟩ := (HX4.out.1.up hwq).cells; have hconv := conv_M (m := b9.length) (c := cv) (HA.out.up hwq).own (Nat.le_refl _); rw [List.take_length] at hconv))); go_simp; (try go_bits); (try simp only [↓IntWalk.iteOmega]); (try (rw [dif_pos (by omega)]; go_simp; try go_bits)); first | exact upOut_value | (apply upOut_call; (go_at_call 48; exact cPk _)) | (apply upOut_eq; (go_at_call 48; exact cPk _)))
           go_simp; refine hK _ _ ?_; clear hK K))
      refine wpUp_nil (fun wq hwq => ?_)
      simp only [fills]
      go_wp2
      go_ret2
      exact ⟨rfl, HX4.out.2.trans hwq⟩

end Go.Proofs.YtgbakgaegldomaaGreat

/- Walk of the reference's CloseWriter, for writers of any kind. Condition: the pairs can be read. -/
namespace Go.Proofs.YtgbakgaegldomaaGreat
set_option linter.unusedVariables false
set_option linter.unusedSimpArgs false
open Go Go.RowKit

set_option maxRecDepth 100000 in
set_option maxHeartbeats 16000000 in
theorem wcS_any (x : WrD) (v : Value) (lo : Nat) (w : World) (hr : RdP lo w v x.k.ps) (hps : x.k.ps.length ≤ 1048576) (hp : x.pend.length ≤ 1048576) (hb : x.bits.length ≤ 1048576) :
    Calls Tryz.prog 36  #[wrV x v] w (Same (optS (wcO x)) w) := by
  have cV := fun wq hr => wvS_any x v lo wq hr (by omega) (by omega) (by omega)
  have hrt := fun (wq : World) (hu : Up w wq) => hr.up hu
  cases hok : wrvB x
  · rw [wcO_none hok, optS_no]
    rw [hok] at cV
    obtain ⟨a, cap, rfl, -, -, -, -⟩ := id hr
    clear hr hok
    unfold wrV at *
    go_enter Tryz.func36, Tryz.ntmps36
    go_wp2_with (first | (go_at_call 80; (with_reducible refine (cV _ (hrt _ (by (repeat (first | with_reducible exact Up.refl _ | with_reducible assumption | with_reducible refine Up.set ?_ (by first | exact Nat.le_refl _ | (simp only []; omega) | (simp; omega)) _ | with_reducible refine Up.alloc ?_ _ | with_reducible refine Up.drew ?_ | refine Up.trans ?_ (by with_reducible assumption)))))).mono ?_); rintro e w1 ⟨rfl, U1⟩; have B1 := bcell U1; have Z1 := U1.size; (try simp at Z1); (try rw [Nat.add_one_le_iff] at Z1)) | fail)
    go_ret2
    refine ⟨rfl, ?_⟩
    (repeat (first | with_reducible exact Up.refl _ | with_reducible assumption | with_reducible refine Up.set ?_ (by first | exact Nat.le_refl _ | (simp only []; omega) | (simp; omega)) _ | with_reducible refine Up.alloc ?_ _ | with_reducible refine Up.drew ?_ | refine Up.trans ?_ (by with_reducible assumption)))
  · rw [wcO_some hok]
    rw [hok] at cV
    have hwo := wrvB_ok hok
    have hk := hwo.1
    have hb7 := hwo.2.2.2.2.2.1
    have hbit := hwo.2.2.2.2.1
    have hp2 := hwo.2.2.2.1
    have cB := fun wq hr => begin_any x v lo wq hk hr (by omega)
    rw [show begW x = ⟨x.open.2, x.pend, x.open.1, true⟩ from rfl] at cB
    have cE := fun wq => l1End_any x.k.set wq hk.set
    have hcb := (clr_bd hk.set).2.1
    have hsp := bs_size x.pend
    obtain ⟨hob1, hob2⟩ := open_len hwo
    obtain ⟨hok1, hos1⟩ := WrD.open_ok hk
    unfold optS
    simp only [Option.getD_some, Option.isSome_some]
    have HR := Lib.hid hr
    obtain ⟨a, cap, rfl, -, -, -, -⟩ := id hr
    by_cases hpe : x.pend = []
    · have HC := Lib.hid (close_nil hpe)
      have hopw := KnD.width_bd hok1
      rw [HC.out]
      have HPE : Hid (bs x.pend = ⟨#[]⟩) := by unfold Hid; rw [hpe]; rfl
      have HK9 := Lib.hid (And.intro hok1 (And.intro hos1 (And.intro hob1 hob2)))
      clear hok hwo hk hr hpe HC hob2 hbit hok1 hos1 hob1
      generalize x.open.1 = b9 at *
      generalize x.open.2 = k9 at *
      unfold wrV at *
      simp only [setV] at cE
      go_enter Tryz.func36, Tryz.ntmps36
      go_wp2_with (first | (go_at_call 80; (with_reducible refine (cV _ (hrt _ (by (repeat (first | with_reducible exact Up.refl _ | with_reducible assumption | with_reducible refine Up.set ?_ (by first | exact Nat.le_refl _ | (simp only []; omega) | (simp; omega)) _ | with_reducible refine Up.alloc ?_ _ | with_reducible refine Up.drew ?_ | refine Up.trans ?_ (by with_reducible assumption)))))).mono ?_); rintro e w1 ⟨rfl, U1⟩; have B1 := bcell U1; have Z1 := U1.size; (try simp at Z1); (try rw [Nat.add_one_le_iff] at Z1)) | fail)
      with_reducible refine (cB _ (hrt _ (by (repeat (first | with_reducible exact Up.refl _ | with_reducible assumption | with_reducible refine Up.set ?_ (by first | exact Nat.le_refl _ | (simp only []; omega) | (simp; omega)) _ | with_reducible refine Up.alloc ?_ _ | with_reducible refine Up.drew ?_ | refine Up.trans ?_ (by with_reducible assumption)))))).mono ?_
      rintro e w2 ⟨v2, rfl, hp2', U2⟩
      obtain ⟨a2, c2, rfl⟩ := put_shape hp2'
      dsimp only at hp2'
      have hX : WrAt w.heap.size x (.slice a x.k.ps.length cap) w2 := box_up (U1.trans U2) (MapKept.heap_alloc w _).1
      have hU2 : Up w w2 := by (repeat (first | with_reducible exact Up.refl _ | with_reducible assumption | with_reducible refine Up.set ?_ (by first | exact Nat.le_refl _ | (simp only []; omega) | (simp; omega)) _ | with_reducible refine Up.alloc ?_ _ | with_reducible refine Up.drew ?_ | refine Up.trans ?_ (by with_reducible assumption)))
      have hrd2 := put_rd (y := ⟨k9, x.pend, b9, true⟩) hp2' (HR.out.up (show Up w w1 by (repeat (first | with_reducible exact Up.refl _ | with_reducible assumption | with_reducible refine Up.set ?_ (by first | exact Nat.le_refl _ | (simp only []; omega) | (simp; omega)) _ | with_reducible refine Up.alloc ?_ _ | with_reducible refine Up.drew ?_ | refine Up.trans ?_ (by with_reducible assumption))))) U2
      have hl2 : w.heap.size + 1 ≤ w2.heap.size := by have h1 := U1.size; have h2 := U2.size; simp at h1; omega
      clear U1 U2 hp2' cB cV B1 Z1
      dsimp only at hrd2
      unfold wrV
      go_simp
      iterate 13 go_step
      have hUa : Up w2 (w2.alloc (.cells #[.int .i64 k9.set.ord, .int .i64 k9.set.lit, .int .i64 k9.set.most, .slice a2 k9.ps.length c2, .int .i64 k9.base, .int .i64 k9.last, .string (bs x.pend), .string (bs b9), .bool true] 37)) := (Up.refl _).alloc _
      have hA : WrAt w2.heap.size ⟨k9, x.pend, b9, true⟩ (.slice a2 k9.ps.length c2) (w2.alloc (.cells #[.int .i64 k9.set.ord, .int .i64 k9.set.lit, .int .i64 k9.set.most, .slice a2 k9.ps.length c2, .int .i64 k9.base, .int .i64 k9.last, .string (bs x.pend), .string (bs b9), .bool true] 37)) := (MapKept.heap_alloc w2 _).1
      have HA := Lib.hid (And.intro hA (And.intro (hX.up hUa) (And.intro (hU2.trans hUa) (hrd2.up hUa))))
      have hzA : w2.heap.size < (w2.alloc (.cells #[.int .i64 k9.set.ord, .int .i64 k9.set.lit, .int .i64 k9.set.most, .slice a2 k9.ps.length c2, .int .i64 k9.base, .int .i64 k9.last, .string (bs x.pend), .string (bs b9), .bool true] 37)).heap.size := by simp
      clear hA hX hU2 hrd2 hUa hrt
      generalize w2.alloc (.cells #[.int .i64 k9.set.ord, .int .i64 k9.set.lit, .int .i64 k9.set.most, .slice a2 k9.ps.length c2, .int .i64 k9.base, .int .i64 k9.last, .string (bs x.pend), .string (bs b9), .bool true] 37) = W3 at *
      obtain ⟨hbx, r0, r1, r2, r3, r4, r5, r6, r7, r8⟩ := HA.out.2.1.cells
      obtain ⟨hby, s0, s1, s2, s3, s4, s5, s6, s7, s8⟩ := HA.out.1.cells
      rw [HPE.out] at r6
      go_wp2_with fail
      have hw9 := KnD.width_bd HK9.out.1
      have hs9 := HK9.out.2.1
      have hl9 := HK9.out.2.2.1
      have hib : isBits (b9 ++ codeL x.k.set.ord (clr x.k.set + 1) k9.width) := HK9.out.2.2.2.app (isBits_code _ _ _)
      have hil : (b9 ++ codeL x.k.set.ord (clr x.k.set + 1) k9.width).length ≤ 1000 := by rw [List.length_append, codeL_length]; omega
      have cE9 := fun wq => l1End_any k9.set wq HK9.out.1.set
      have cP := fun wq hr => put_any ⟨k9, x.pend, b9, true⟩ (.slice a2 k9.ps.length c2) 0 (clr k9.set + 1) wq HK9.out.1 hr (by rw [hs9]; omega) (by show b9.length ≤ 900000; omega) (.inl (by show ((clr k9.set + 1 : Nat) : Int) = (k9.c : Int) + 1; unfold KnD.c; omega))
      have hpw : putW ⟨k9, x.pend, b9, true⟩ (clr k9.set + 1) = ⟨k9, x.pend, b9 ++ codeL x.k.set.ord (clr x.k.set + 1) k9.width, true⟩ := by
        unfold putW
        dsimp only
        rw [show k9.thru ((clr k9.set + 1 : Nat) : Int) = k9 by unfold KnD.thru; rw [if_pos (by unfold KnD.c; omega)], hs9]
      rw [hpw, show ((clr k9.set + 1 : Nat) : Int) = (clr k9.set : Int) + 1 from by omega] at cP
      clear hpw hs9 cE
      generalize b9 ++ codeL x.k.set.ord (clr x.k.set + 1) k9.width = bz at *
      have cK := fun wx => l1Pack_any x.k.set.ord (bs bz) wx (by rw [bs_data]; exact hib) (by rw [bs_size]; omega)
      rw [bs_data] at cK
      unfold wrV at cP
      simp only [setV] at cE9
      refine wp_region_up 6 (by kernel_rfl) (by kernel_rfl) ?_
      simp only [List.take, List.drop]
      repeat (refine wpUp_step (fun K hK => ?_); go_simp; (try simp only [↓IntWalk.iteOmega]); first
        | (refine hK _ _ ?_; clear hK K)
        | (apply stepU_c
           · intro wq hwq; (have hbq := bcell hwq; (repeat (first | refine fills_no (by rfl) ?_ | refine fills_yes (by rfl) (fun vq hvq => ?_))); simp only [List.filter_nil, fills]; unfold upAt; (try (skip)); go_simp; (try go_bits); (try simp only [↓IntWalk.iteOmega]); (try (rw [dif_pos (by omega)]; go_simp; try go_bits)); first | exact upOut_value | (apply upOut_call; (go_at_call 72; exact cE9 _)) | (apply upOut_eq; (go_at_call 72; exact cE9 _)))
           go_simp; refine hK _ _ ?_; clear hK K)
        | (refine stepU_m (by kernel_rfl) (PutO W3.heap.size ⟨k9, x.pend, bz, true⟩ k9.ps (.slice a2 k9.ps.length c2)) (putO_closed _ _ _ _) (fun wq hwq => ?_) ?_
           · (have hbq := bcell hwq; (repeat (first | refine fills_no (by rfl) ?_ | refine fills_yes (by rfl) (fun vq hvq => ?_))); simp only [List.filter_nil, fills]; unfold upAt; (try (skip)); go_simp; (try go_bits); (try simp only [↓IntWalk.iteOmega]); (try (rw [dif_pos (by omega)]; go_simp; try go_bits)); ((with_reducible refine upOut_put ?_ hwq.size); go_at_call 85; exact cP _ (HA.out.2.2.2.up hwq)))
           refine hK _ _ ?_; clear hK K))
      refine wpUp_nil (fun wq hwq => ?_)
      simp only [fills]
      rintro u ⟨vz, rfl, hz⟩
      obtain ⟨az, cz, rfl⟩ := put_shape hz
      have HQ := Lib.hid (And.intro (HA.out.1.up hwq) (And.intro (HA.out.2.1.up hwq) (HA.out.2.2.1.trans hwq)))
      have hzq := hwq.size
      clear hwq hz HA cP cE9 r0 r1 r2 r3 r4 r5 r6 r7 r8 s0 s1 s2 s3 s4 s5 s6 s7 s8 hbx hby
      obtain ⟨hby, s0, s1, s2, s3, s4, s5, s6, s7, s8⟩ := HQ.out.1.cells
      have hfy := box_free HQ.out.1
      dsimp only
      unfold wrV
      go_simp
      iterate 4 go_step
      have hY : WrAt w2.heap.size ⟨k9, x.pend, bz, true⟩ (.slice az k9.ps.length cz) (((((((((wq.setCell ⟨w2.heap.size, 0, none⟩ (.int .i64 k9.set.ord)).setCell ⟨w2.heap.size, 1, none⟩ (.int .i64 k9.set.lit)).setCell ⟨w2.heap.size, 2, none⟩ (.int .i64 k9.set.most)).setCell ⟨w2.heap.size, 3, none⟩ (.slice az k9.ps.length cz)).setCell ⟨w2.heap.size, 4, none⟩ (.int .i64 k9.base)).setCell ⟨w2.heap.size, 5, none⟩ (.int .i64 k9.last)).setCell ⟨w2.heap.size, 6, none⟩ (.string (bs x.pend))).setCell ⟨w2.heap.size, 7, none⟩ (.string (bs bz))).setCell ⟨w2.heap.size, 8, none⟩ (.bool true)) := by
        have h0 := WrAt.store HQ.out.1 ⟨k9, x.pend, bz, true⟩ (.slice az k9.ps.length cz)
        simpa [WrW, KnW] using h0
      have hneb : w.heap.size ≠ w2.heap.size := by omega
      have hX : WrAt w.heap.size x (.slice a x.k.ps.length cap) (((((((((wq.setCell ⟨w2.heap.size, 0, none⟩ (.int .i64 k9.set.ord)).setCell ⟨w2.heap.size, 1, none⟩ (.int .i64 k9.set.lit)).setCell ⟨w2.heap.size, 2, none⟩ (.int .i64 k9.set.most)).setCell ⟨w2.heap.size, 3, none⟩ (.slice az k9.ps.length cz)).setCell ⟨w2.heap.size, 4, none⟩ (.int .i64 k9.base)).setCell ⟨w2.heap.size, 5, none⟩ (.int .i64 k9.last)).setCell ⟨w2.heap.size, 6, none⟩ (.string (bs x.pend))).setCell ⟨w2.heap.size, 7, none⟩ (.string (bs bz))).setCell ⟨w2.heap.size, 8, none⟩ (.bool true)) := (WrW.other hneb ⟨k9, x.pend, bz, true⟩ (.slice az k9.ps.length cz)).trans HQ.out.2.1
      have hU5 : Up w (((((((((wq.setCell ⟨w2.heap.size, 0, none⟩ (.int .i64 k9.set.ord)).setCell ⟨w2.heap.size, 1, none⟩ (.int .i64 k9.set.lit)).setCell ⟨w2.heap.size, 2, none⟩ (.int .i64 k9.set.most)).setCell ⟨w2.heap.size, 3, none⟩ (.slice az k9.ps.length cz)).setCell ⟨w2.heap.size, 4, none⟩ (.int .i64 k9.base)).setCell ⟨w2.heap.size, 5, none⟩ (.int .i64 k9.last)).setCell ⟨w2.heap.size, 6, none⟩ (.string (bs x.pend))).setCell ⟨w2.heap.size, 7, none⟩ (.string (bs bz))).setCell ⟨w2.heap.size, 8, none⟩ (.bool true)) := by
        have hU := HQ.out.2.2
        (repeat (first | with_reducible exact Up.refl _ | with_reducible assumption | with_reducible refine Up.set ?_ (by first | exact Nat.le_refl _ | (simp only []; omega) | (simp; omega)) _ | with_reducible refine Up.alloc ?_ _ | with_reducible refine Up.drew ?_ | refine Up.trans ?_ (by with_reducible assumption)))
      have HF := Lib.hid (And.intro hY (And.intro hX hU5))
      clear hY hX hU5 HQ s0 s1 s2 s3 s4 s5 s6 s7 s8 hfy
      generalize (((((((((wq.setCell ⟨w2.heap.size, 0, none⟩ (.int .i64 k9.set.ord)).setCell ⟨w2.heap.size, 1, none⟩ (.int .i64 k9.set.lit)).setCell ⟨w2.heap.size, 2, none⟩ (.int .i64 k9.set.most)).setCell ⟨w2.heap.size, 3, none⟩ (.slice az k9.ps.length cz)).setCell ⟨w2.heap.size, 4, none⟩ (.int .i64 k9.base)).setCell ⟨w2.heap.size, 5, none⟩ (.int .i64 k9.last)).setCell ⟨w2.heap.size, 6, none⟩ (.string (bs x.pend))).setCell ⟨w2.heap.size, 7, none⟩ (.string (bs bz))).setCell ⟨w2.heap.size, 8, none⟩ (.bool true)) = W9 at HF ⊢
      obtain ⟨hby, s0, s1, s2, s3, s4, s5, s6, s7, s8⟩ := HF.out.1.cells
      obtain ⟨hbx, r0, r1, r2, r3, r4, r5, r6, r7, r8⟩ := HF.out.2.1.cells
      go_wp2_with (first | ((go_at_call 83; (with_reducible refine (cK _).mono ?_); rintro e w8 ⟨rfl, U8⟩; have B8 := bcell U8; have Z8 := U8.size; (try simp at Z8); (try rw [Nat.add_one_le_iff] at Z8))) | fail)
      go_ret2
      exact ⟨rfl, HF.out.2.2.trans U8⟩
    · have HPE := isEmpty_bs hpe
      have hpos := List.length_pos_iff.2 hpe
      have hbeg : x.beg = true := by
        cases h : x.beg
        · exact absurd (hwo.2.2.2.2.2.2.2 h).1 hpe
        · rfl
      have hopen : x.open = (x.bits, x.k) := by unfold WrD.open; rw [hbeg]; rfl
      have hlg : x.k.longest x.pend = x.pend := (hwo.2.2.2.2.2.2.1).resolve_left hpe
      have hlit := hwo.2.2.1
      obtain ⟨hfw, -⟩ := KnD.find_any hk hpe hlit
      rw [hlg] at hfw
      have hfb := KnD.find_bd hk hfw
      have hne := KnD.fol_ne hk hfw
      have cF := fun wq v lo hr => l2Find_any x.k v lo (bs x.pend) wq hk hr (by omega)
      rw [bs_data] at cF
      obtain ⟨n, hn⟩ := Int.eq_ofNat_of_zero_le hfb.1
      have hth := KnD.thru_fol hk hfw
      have hka := KnD.after_ok hk hfw
      have hwd := KnD.width_bd hk
      rw [hn] at hth hne hka hfw cF hfb
      have HC := Lib.hid (close_word hpe hopen hn hth)
      rw [HC.out]
      rw [hopen] at cB
      dsimp only at cB
      have hs9 : (x.k.after n).set = x.k.set := rfl
      have hbl : (x.bits ++ codeL x.k.set.ord n x.k.width).length ≤ 100 := by rw [List.length_append, codeL_length]; omega
      have hbits : isBits (x.bits ++ codeL x.k.set.ord n x.k.width) := hbit.app (isBits_code _ _ _)
      have hpwn : putW ⟨x.k, x.pend, x.bits, true⟩ n = ⟨x.k.after n, x.pend, x.bits ++ codeL x.k.set.ord n x.k.width, true⟩ := by
        unfold putW
        dsimp only
        rw [hth]
      have cPn := fun wq v lo hr => put_any ⟨x.k, x.pend, x.bits, true⟩ v lo n wq hk hr (by omega) (by show x.bits.length ≤ 900000; omega) (.inr (.inr ⟨hne.1, hne.2, hfw⟩))
      rw [hpwn] at cPn
      have HK9 := Lib.hid (And.intro hka (And.intro hs9 (And.intro hbl hbits)))
      clear hok hwo hk hr hpe HC hob2 hbit hok1 hos1 hob1 hpwn hth hfw hne hn hfb hlit hlg hopen hka hs9 hbl hbits hbeg
      generalize x.bits ++ codeL x.k.set.ord n x.k.width = b9 at *
      generalize x.k.after n = k9 at *
      unfold wrV at cPn
      simp only [kV] at cF
      unfold wrV at *
      simp only [setV] at cE
      go_enter Tryz.func36, Tryz.ntmps36
      go_wp2_with (first | (go_at_call 80; (with_reducible refine (cV _ (hrt _ (by (repeat (first | with_reducible exact Up.refl _ | with_reducible assumption | with_reducible refine Up.set ?_ (by first | exact Nat.le_refl _ | (simp only []; omega) | (simp; omega)) _ | with_reducible refine Up.alloc ?_ _ | with_reducible refine Up.drew ?_ | refine Up.trans ?_ (by with_reducible assumption)))))).mono ?_); rintro e w1 ⟨rfl, U1⟩; have B1 := bcell U1; have Z1 := U1.size; (try simp at Z1); (try rw [Nat.add_one_le_iff] at Z1)) | fail)
      with_reducible refine (cB _ (hrt _ (by (repeat (first | with_reducible exact Up.refl _ | with_reducible assumption | with_reducible refine Up.set ?_ (by first | exact Nat.le_refl _ | (simp only []; omega) | (simp; omega)) _ | with_reducible refine Up.alloc ?_ _ | with_reducible refine Up.drew ?_ | refine Up.trans ?_ (by with_reducible assumption)))))).mono ?_
      rintro e w2 ⟨v2, rfl, hp2', U2⟩
      obtain ⟨a2, c2, rfl⟩ := put_shape hp2'
      dsimp only at hp2'
      have hX : WrAt w.heap.size x (.slice a x.k.ps.length cap) w2 := box_up (U1.trans U2) (MapKept.heap_alloc w _).1
      have hU2 : Up w w2 := by (repeat (first | with_reducible exact Up.refl _ | with_reducible assumption | with_reducible refine Up.set ?_ (by first | exact Nat.le_refl _ | (simp only []; omega) | (simp; omega)) _ | with_reducible refine Up.alloc ?_ _ | with_reducible refine Up.drew ?_ | refine Up.trans ?_ (by with_reducible assumption)))
      have hrd2 := put_rd (y := ⟨x.k, x.pend, x.bits, true⟩) hp2' (HR.out.up (show Up w w1 by (repeat (first | with_reducible exact Up.refl _ | with_reducible assumption | with_reducible refine Up.set ?_ (by first | exact Nat.le_refl _ | (simp only []; omega) | (simp; omega)) _ | with_reducible refine Up.alloc ?_ _ | with_reducible refine Up.drew ?_ | refine Up.trans ?_ (by with_reducible assumption))))) U2
      have hl2 : w.heap.size + 1 ≤ w2.heap.size := by have h1 := U1.size; have h2 := U2.size; simp at h1; omega
      clear U1 U2 hp2' cB cV B1 Z1
      dsimp only at hrd2
      unfold wrV
      go_simp
      iterate 13 go_step
      have hUa : Up w2 (w2.alloc (.cells #[.int .i64 x.k.set.ord, .int .i64 x.k.set.lit, .int .i64 x.k.set.most, .slice a2 x.k.ps.length c2, .int .i64 x.k.base, .int .i64 x.k.last, .string (bs x.pend), .string (bs x.bits), .bool true] 37)) := (Up.refl _).alloc _
      have hA : WrAt w2.heap.size ⟨x.k, x.pend, x.bits, true⟩ (.slice a2 x.k.ps.length c2) (w2.alloc (.cells #[.int .i64 x.k.set.ord, .int .i64 x.k.set.lit, .int .i64 x.k.set.most, .slice a2 x.k.ps.length c2, .int .i64 x.k.base, .int .i64 x.k.last, .string (bs x.pend), .string (bs x.bits), .bool true] 37)) := (MapKept.heap_alloc w2 _).1
      have HA := Lib.hid (And.intro hA (And.intro (hX.up hUa) (And.intro (hU2.trans hUa) (hrd2.up hUa))))
      have hzA : w2.heap.size < (w2.alloc (.cells #[.int .i64 x.k.set.ord, .int .i64 x.k.set.lit, .int .i64 x.k.set.most, .slice a2 x.k.ps.length c2, .int .i64 x.k.base, .int .i64 x.k.last, .string (bs x.pend), .string (bs x.bits), .bool true] 37)).heap.size := by simp
      have HD := Lib.hid (And.intro hrd2 hUa)
      clear hA hX hU2 hrd2 hUa hrt
      generalize w2.alloc (.cells #[.int .i64 x.k.set.ord, .int .i64 x.k.set.lit, .int .i64 x.k.set.most, .slice a2 x.k.ps.length c2, .int .i64 x.k.base, .int .i64 x.k.last, .string (bs x.pend), .string (bs x.bits), .bool true] 37) = W3 at *
      obtain ⟨hbx, r0, r1, r2, r3, r4, r5, r6, r7, r8⟩ := HA.out.2.1.cells
      obtain ⟨hby, s0, s1, s2, s3, s4, s5, s6, s7, s8⟩ := HA.out.1.cells
      go_wp2_with fail
      refine wp_region_up 7 (by kernel_rfl) (by kernel_rfl) ?_
      simp only [List.take, List.drop]
      repeat (refine wpUp_step (fun K hK => ?_); go_simp; (try simp only [↓IntWalk.iteOmega]); first
        | (refine hK _ _ ?_; clear hK K)
        | (apply stepU_c
           · intro wq hwq; (have hbq := bcell hwq; (repeat (first | refine fills_no (by rfl) ?_ | refine fills_yes (by rfl) (fun vq hvq => ?_))); simp only [List.filter_nil, fills]; unfold upAt; (try (skip)); go_simp; (try go_bits); (try simp only [↓IntWalk.iteOmega]); (try (rw [dif_pos (by omega)]; go_simp; try go_bits)); first | exact upOut_value | (apply upOut_call; (go_at_call 86; exact cF _ _ _ (HA.out.2.2.2.up hwq))) | (apply upOut_eq; (go_at_call 86; exact cF _ _ _ (HA.out.2.2.2.up hwq))))
           go_simp; refine hK _ _ ?_; clear hK K)
        | (refine stepU_m (by kernel_rfl) (PutO W3.heap.size ⟨k9, x.pend, b9, true⟩ x.k.ps (.slice a2 x.k.ps.length c2)) (putO_closed _ _ _ _) (fun wq hwq => ?_) ?_
           · (have hbq := bcell hwq; (repeat (first | refine fills_no (by rfl) ?_ | refine fills_yes (by rfl) (fun vq hvq => ?_))); simp only [List.filter_nil, fills]; unfold upAt; (try (skip)); go_simp; (try go_bits); (try simp only [↓IntWalk.iteOmega]); (try (rw [dif_pos (by omega)]; go_simp; try go_bits)); ((with_reducible refine upOut_put ?_ hwq.size); go_at_call 85; exact cPn _ _ _ (HA.out.2.2.2.up hwq)))
           refine hK _ _ ?_; clear hK K))
      refine wpUp_nil (fun wq hwq => ?_)
      simp only [fills]
      rintro u ⟨v9, rfl, h9⟩
      obtain ⟨a9, c9, rfl⟩ := put_shape h9
      dsimp only at h9
      have hrd9 : RdP 0 wq (.slice a9 k9.ps.length c9) k9.ps := by
        rcases h9 with ⟨h1, h2⟩ | h
        · rw [h1, h2]; exact HA.out.2.2.2.up hwq
        · exact (RdP.of_own h).low (Nat.zero_le _)
      have HQ := Lib.hid (And.intro (HA.out.1.up hwq) (And.intro (HA.out.2.1.up hwq) (And.intro (HA.out.2.2.1.trans hwq) hrd9)))
      have hzq := hwq.size
      have H9 := Lib.hid h9
      have HUQ := Lib.hid hwq
      clear hwq h9 hrd9 HA cF cPn r0 r1 r2 r3 r4 r5 r6 r7 r8 s0 s1 s2 s3 s4 s5 s6 s7 s8 hbx hby
      obtain ⟨hby, s0, s1, s2, s3, s4, s5, s6, s7, s8⟩ := HQ.out.1.cells
      have hfy := box_free HQ.out.1
      unfold wrV
      go_simp
      iterate 4 go_step
      have hY : WrAt w2.heap.size ⟨k9, x.pend, b9, true⟩ (.slice a9 k9.ps.length c9) (((((((((wq.setCell ⟨w2.heap.size, 0, none⟩ (.int .i64 k9.set.ord)).setCell ⟨w2.heap.size, 1, none⟩ (.int .i64 k9.set.lit)).setCell ⟨w2.heap.size, 2, none⟩ (.int .i64 k9.set.most)).setCell ⟨w2.heap.size, 3, none⟩ (.slice a9 k9.ps.length c9)).setCell ⟨w2.heap.size, 4, none⟩ (.int .i64 k9.base)).setCell ⟨w2.heap.size, 5, none⟩ (.int .i64 k9.last)).setCell ⟨w2.heap.size, 6, none⟩ (.string (bs x.pend))).setCell ⟨w2.heap.size, 7, none⟩ (.string (bs b9))).setCell ⟨w2.heap.size, 8, none⟩ (.bool true)) := by
        have h0 := WrAt.store HQ.out.1 ⟨k9, x.pend, b9, true⟩ (.slice a9 k9.ps.length c9)
        simpa [WrW, KnW] using h0
      have hneb : w.heap.size ≠ w2.heap.size := by omega
      have hX : WrAt w.heap.size x (.slice a x.k.ps.length cap) (((((((((wq.setCell ⟨w2.heap.size, 0, none⟩ (.int .i64 k9.set.ord)).setCell ⟨w2.heap.size, 1, none⟩ (.int .i64 k9.set.lit)).setCell ⟨w2.heap.size, 2, none⟩ (.int .i64 k9.set.most)).setCell ⟨w2.heap.size, 3, none⟩ (.slice a9 k9.ps.length c9)).setCell ⟨w2.heap.size, 4, none⟩ (.int .i64 k9.base)).setCell ⟨w2.heap.size, 5, none⟩ (.int .i64 k9.last)).setCell ⟨w2.heap.size, 6, none⟩ (.string (bs x.pend))).setCell ⟨w2.heap.size, 7, none⟩ (.string (bs b9))).setCell ⟨w2.heap.size, 8, none⟩ (.bool true)) := (WrW.other hneb ⟨k9, x.pend, b9, true⟩ (.slice a9 k9.ps.length c9)).trans HQ.out.2.1
      have hU5 : Up w (((((((((wq.setCell ⟨w2.heap.size, 0, none⟩ (.int .i64 k9.set.ord)).setCell ⟨w2.heap.size, 1, none⟩ (.int .i64 k9.set.lit)).setCell ⟨w2.heap.size, 2, none⟩ (.int .i64 k9.set.most)).setCell ⟨w2.heap.size, 3, none⟩ (.slice a9 k9.ps.length c9)).setCell ⟨w2.heap.size, 4, none⟩ (.int .i64 k9.base)).setCell ⟨w2.heap.size, 5, none⟩ (.int .i64 k9.last)).setCell ⟨w2.heap.size, 6, none⟩ (.string (bs x.pend))).setCell ⟨w2.heap.size, 7, none⟩ (.string (bs b9))).setCell ⟨w2.heap.size, 8, none⟩ (.bool true)) := by
        have hU := HQ.out.2.2.1
        (repeat (first | with_reducible exact Up.refl _ | with_reducible assumption | with_reducible refine Up.set ?_ (by first | exact Nat.le_refl _ | (simp only []; omega) | (simp; omega)) _ | with_reducible refine Up.alloc ?_ _ | with_reducible refine Up.drew ?_ | refine Up.trans ?_ (by with_reducible assumption)))
      have hRd : RdP 0 (((((((((wq.setCell ⟨w2.heap.size, 0, none⟩ (.int .i64 k9.set.ord)).setCell ⟨w2.heap.size, 1, none⟩ (.int .i64 k9.set.lit)).setCell ⟨w2.heap.size, 2, none⟩ (.int .i64 k9.set.most)).setCell ⟨w2.heap.size, 3, none⟩ (.slice a9 k9.ps.length c9)).setCell ⟨w2.heap.size, 4, none⟩ (.int .i64 k9.base)).setCell ⟨w2.heap.size, 5, none⟩ (.int .i64 k9.last)).setCell ⟨w2.heap.size, 6, none⟩ (.string (bs x.pend))).setCell ⟨w2.heap.size, 7, none⟩ (.string (bs b9))).setCell ⟨w2.heap.size, 8, none⟩ (.bool true)) (.slice a9 k9.ps.length c9) k9.ps := by
        rcases H9.out with ⟨h1, h2⟩ | h
        · have hr9 : RdP 0 w2 (.slice a9 k9.ps.length c9) k9.ps := by rw [h1, h2]; exact HD.out.1
          have hU : Up w2 wq := HD.out.2.trans HUQ.out
          refine hr9.up ?_
          (repeat (first | with_reducible exact Up.refl _ | with_reducible assumption | with_reducible refine Up.set ?_ (by first | exact Nat.le_refl _ | (simp only []; omega) | (simp; omega)) _ | with_reducible refine Up.alloc ?_ _ | with_reducible refine Up.drew ?_ | refine Up.trans ?_ (by with_reducible assumption)))
        · have hne1 := box_ne HQ.out.1 h (by decide)
          refine (RdP.of_own (base := W3.heap.size) ?_).low (Nat.zero_le _)
          repeat (with_reducible refine ownsRow_setb ?_ hne1 _ _)
          exact h
      have HA := Lib.hid (And.intro hY (And.intro hX (And.intro hU5 hRd)))
      have hzA : w2.heap.size < (((((((((wq.setCell ⟨w2.heap.size, 0, none⟩ (.int .i64 k9.set.ord)).setCell ⟨w2.heap.size, 1, none⟩ (.int .i64 k9.set.lit)).setCell ⟨w2.heap.size, 2, none⟩ (.int .i64 k9.set.most)).setCell ⟨w2.heap.size, 3, none⟩ (.slice a9 k9.ps.length c9)).setCell ⟨w2.heap.size, 4, none⟩ (.int .i64 k9.base)).setCell ⟨w2.heap.size, 5, none⟩ (.int .i64 k9.last)).setCell ⟨w2.heap.size, 6, none⟩ (.string (bs x.pend))).setCell ⟨w2.heap.size, 7, none⟩ (.string (bs b9))).setCell ⟨w2.heap.size, 8, none⟩ (.bool true)).heap.size := by simp [World.setCell]; omega
      clear hY hX hU5 HQ hRd s0 s1 s2 s3 s4 s5 s6 s7 s8 hfy hby hzq hneb
      generalize (((((((((wq.setCell ⟨w2.heap.size, 0, none⟩ (.int .i64 k9.set.ord)).setCell ⟨w2.heap.size, 1, none⟩ (.int .i64 k9.set.lit)).setCell ⟨w2.heap.size, 2, none⟩ (.int .i64 k9.set.most)).setCell ⟨w2.heap.size, 3, none⟩ (.slice a9 k9.ps.length c9)).setCell ⟨w2.heap.size, 4, none⟩ (.int .i64 k9.base)).setCell ⟨w2.heap.size, 5, none⟩ (.int .i64 k9.last)).setCell ⟨w2.heap.size, 6, none⟩ (.string (bs x.pend))).setCell ⟨w2.heap.size, 7, none⟩ (.string (bs b9))).setCell ⟨w2.heap.size, 8, none⟩ (.bool true)) = W5 at *
      obtain ⟨hbx, r0, r1, r2, r3, r4, r5, r6, r7, r8⟩ := HA.out.2.1.cells
      obtain ⟨hby, s0, s1, s2, s3, s4, s5, s6, s7, s8⟩ := HA.out.1.cells
      go_wp2_with fail
      have hw9 := KnD.width_bd HK9.out.1
      have hs9 := HK9.out.2.1
      have hl9 := HK9.out.2.2.1
      have hib : isBits (b9 ++ codeL x.k.set.ord (clr x.k.set + 1) k9.width) := HK9.out.2.2.2.app (isBits_code _ _ _)
      have hil : (b9 ++ codeL x.k.set.ord (clr x.k.set + 1) k9.width).length ≤ 1000 := by rw [List.length_append, codeL_length]; omega
      have cE9 := fun wq => l1End_any k9.set wq HK9.out.1.set
      have cP := fun wq hr => put_any ⟨k9, x.pend, b9, true⟩ (.slice a9 k9.ps.length c9) 0 (clr k9.set + 1) wq HK9.out.1 hr (by rw [hs9]; omega) (by show b9.length ≤ 900000; omega) (.inl (by show ((clr k9.set + 1 : Nat) : Int) = (k9.c : Int) + 1; unfold KnD.c; omega))
      have hpw : putW ⟨k9, x.pend, b9, true⟩ (clr k9.set + 1) = ⟨k9, x.pend, b9 ++ codeL x.k.set.ord (clr x.k.set + 1) k9.width, true⟩ := by
        unfold putW
        dsimp only
        rw [show k9.thru ((clr k9.set + 1 : Nat) : Int) = k9 by unfold KnD.thru; rw [if_pos (by unfold KnD.c; omega)], hs9]
      rw [hpw, show ((clr k9.set + 1 : Nat) : Int) = (clr k9.set : Int) + 1 from by omega] at cP
      clear hpw hs9 cE
      generalize b9 ++ codeL x.k.set.ord (clr x.k.set + 1) k9.width = bz at *
      have cK := fun wx => l1Pack_any x.k.set.ord (bs bz) wx (by rw [bs_data]; exact hib) (by rw [bs_size]; omega)
      rw [bs_data] at cK
      unfold wrV at cP
      simp only [setV] at cE9
      refine wp_region_up 6 (by kernel_rfl) (by kernel_rfl) ?_
      simp only [List.take, List.drop]
      repeat (refine wpUp_step (fun K hK => ?_); go_simp; (try simp only [↓IntWalk.iteOmega]); first
        | (refine hK _ _ ?_; clear hK K)
        | (apply stepU_c
           · intro wq hwq; (have hbq := bcell hwq; (repeat (first | refine fills_no (by rfl) ?_ | refine fills_yes (by rfl) (fun vq hvq => ?_))); simp only [List.filter_nil, fills]; unfold upAt; (try (skip)); go_simp; (try go_bits); (try simp only [↓IntWalk.iteOmega]); (try (rw [dif_pos (by omega)]; go_simp; try go_bits)); first | exact upOut_value | (apply upOut_call; (go_at_call 72; exact cE9 _)) | (apply upOut_eq; (go_at_call 72; exact cE9 _)))
           go_simp; refine hK _ _ ?_; clear hK K)
        | (refine stepU_m (by kernel_rfl) (PutO W5.heap.size ⟨k9, x.pend, bz, true⟩ k9.ps (.slice a9 k9.ps.length c9)) (putO_closed _ _ _ _) (fun wq hwq => ?_) ?_
           · (have hbq := bcell hwq; (repeat (first | refine fills_no (by rfl) ?_ | refine fills_yes (by rfl) (fun vq hvq => ?_))); simp only [List.filter_nil, fills]; unfold upAt; (try (skip)); go_simp; (try go_bits); (try simp only [↓IntWalk.iteOmega]); (try (rw [dif_pos (by omega)]; go_simp; try go_bits)); ((with_reducible refine upOut_put ?_ hwq.size); go_at_call 85; exact cP _ (HA.out.2.2.2.up hwq)))
           refine hK _ _ ?_; clear hK K))
      refine wpUp_nil (fun wq hwq => ?_)
      simp only [fills]
      rintro u ⟨vz, rfl, hz⟩
      obtain ⟨az, cz, rfl⟩ := put_shape hz
      have HQ := Lib.hid (And.intro (HA.out.1.up hwq) (And.intro (HA.out.2.1.up hwq) (HA.out.2.2.1.trans hwq)))
      have hzq := hwq.size
      clear hwq hz HA cP cE9 r0 r1 r2 r3 r4 r5 r6 r7 r8 s0 s1 s2 s3 s4 s5 s6 s7 s8 hbx hby
      obtain ⟨hby, s0, s1, s2, s3, s4, s5, s6, s7, s8⟩ := HQ.out.1.cells
      have hfy := box_free HQ.out.1
      dsimp only
      unfold wrV
      go_simp
      iterate 4 go_step
      have hY : WrAt w2.heap.size ⟨k9, x.pend, bz, true⟩ (.slice az k9.ps.length cz) (((((((((wq.setCell ⟨w2.heap.size, 0, none⟩ (.int .i64 k9.set.ord)).setCell ⟨w2.heap.size, 1, none⟩ (.int .i64 k9.set.lit)).setCell ⟨w2.heap.size, 2, none⟩ (.int .i64 k9.set.most)).setCell ⟨w2.heap.size, 3, none⟩ (.slice az k9.ps.length cz)).setCell ⟨w2.heap.size, 4, none⟩ (.int .i64 k9.base)).setCell ⟨w2.heap.size, 5, none⟩ (.int .i64 k9.last)).setCell ⟨w2.heap.size, 6, none⟩ (.string (bs x.pend))).setCell ⟨w2.heap.size, 7, none⟩ (.string (bs bz))).setCell ⟨w2.heap.size, 8, none⟩ (.bool true)) := by
        have h0 := WrAt.store HQ.out.1 ⟨k9, x.pend, bz, true⟩ (.slice az k9.ps.length cz)
        simpa [WrW, KnW] using h0
      have hneb : w.heap.size ≠ w2.heap.size := by omega
      have hX : WrAt w.heap.size x (.slice a x.k.ps.length cap) (((((((((wq.setCell ⟨w2.heap.size, 0, none⟩ (.int .i64 k9.set.ord)).setCell ⟨w2.heap.size, 1, none⟩ (.int .i64 k9.set.lit)).setCell ⟨w2.heap.size, 2, none⟩ (.int .i64 k9.set.most)).setCell ⟨w2.heap.size, 3, none⟩ (.slice az k9.ps.length cz)).setCell ⟨w2.heap.size, 4, none⟩ (.int .i64 k9.base)).setCell ⟨w2.heap.size, 5, none⟩ (.int .i64 k9.last)).setCell ⟨w2.heap.size, 6, none⟩ (.string (bs x.pend))).setCell ⟨w2.heap.size, 7, none⟩ (.string (bs bz))).setCell ⟨w2.heap.size, 8, none⟩ (.bool true)) := (WrW.other hneb ⟨k9, x.pend, bz, true⟩ (.slice az k9.ps.length cz)).trans HQ.out.2.1
      have hU5 : Up w (((((((((wq.setCell ⟨w2.heap.size, 0, none⟩ (.int .i64 k9.set.ord)).setCell ⟨w2.heap.size, 1, none⟩ (.int .i64 k9.set.lit)).setCell ⟨w2.heap.size, 2, none⟩ (.int .i64 k9.set.most)).setCell ⟨w2.heap.size, 3, none⟩ (.slice az k9.ps.length cz)).setCell ⟨w2.heap.size, 4, none⟩ (.int .i64 k9.base)).setCell ⟨w2.heap.size, 5, none⟩ (.int .i64 k9.last)).setCell ⟨w2.heap.size, 6, none⟩ (.string (bs x.pend))).setCell ⟨w2.heap.size, 7, none⟩ (.string (bs bz))).setCell ⟨w2.heap.size, 8, none⟩ (.bool true)) := by
        have hU := HQ.out.2.2
        (repeat (first | with_reducible exact Up.refl _ | with_reducible assumption | with_reducible refine Up.set ?_ (by first | exact Nat.le_refl _ | (simp only []; omega) | (simp; omega)) _ | with_reducible refine Up.alloc ?_ _ | with_reducible refine Up.drew ?_ | refine Up.trans ?_ (by with_reducible assumption)))
      have HF := Lib.hid (And.intro hY (And.intro hX hU5))
      clear hY hX hU5 HQ s0 s1 s2 s3 s4 s5 s6 s7 s8 hfy
      generalize (((((((((wq.setCell ⟨w2.heap.size, 0, none⟩ (.int .i64 k9.set.ord)).setCell ⟨w2.heap.size, 1, none⟩ (.int .i64 k9.set.lit)).setCell ⟨w2.heap.size, 2, none⟩ (.int .i64 k9.set.most)).setCell ⟨w2.heap.size, 3, none⟩ (.slice az k9.ps.length cz)).setCell ⟨w2.heap.size, 4, none⟩ (.int .i64 k9.base)).setCell ⟨w2.heap.size, 5, none⟩ (.int .i64 k9.last)).setCell ⟨w2.heap.size, 6, none⟩ (.string (bs x.pend))).setCell ⟨w2.heap.size, 7, none⟩ (.string (bs bz))).setCell ⟨w2.heap.size, 8, none⟩ (.bool true)) = W9 at HF ⊢
      obtain ⟨hby, s0, s1, s2, s3, s4, s5, s6, s7, s8⟩ := HF.out.1.cells
      obtain ⟨hbx, r0, r1, r2, r3, r4, r5, r6, r7, r8⟩ := HF.out.2.1.cells
      go_wp2_with (first | ((go_at_call 83; (with_reducible refine (cK _).mono ?_); rintro e w8 ⟨rfl, U8⟩; have B8 := bcell U8; have Z8 := U8.size; (try simp at Z8); (try rw [Nat.add_one_le_iff] at Z8))) | fail)
      go_ret2
      exact ⟨rfl, HF.out.2.2.trans U8⟩

end Go.Proofs.YtgbakgaegldomaaGreat

/- Plain: what WriteData leaves, valid or not, as one value; what szWriter says of the sizes. Conditions: none. -/
namespace Go.Proofs.YtgbakgaegldomaaGreat
set_option linter.unusedVariables false
set_option linter.unusedSimpArgs false
open Go Go.RowKit

/-- The writer that WriteData hands back, be there one or not. -/
def oWr (o : Option (WrD × List UInt8)) : WrD := (o.map (·.1)).getD wr0
def oBy (o : Option (WrD × List UInt8)) : List UInt8 := (o.map (·.2)).getD []
theorem ownPr_nil (w : World) (base : Nat) : ownPr w base (.slice none 0 0) [] := ⟨by simp [cellsPr], .inl ⟨rfl, rfl⟩⟩
theorem wdP_all {o : Option (WrD × List UInt8)} {w w' : World} {e : Ending} (h : WdPost o w e w') : ∃ v, e = .returned (.tuple #[wrV (oWr o) v, .string (bs (oBy o)), .bool o.isSome]) ∧ ownPr w' w.heap.size v (oWr o).k.ps ∧ Up w w' := by
  cases o with
  | none => exact ⟨.slice none 0 0, h.1, ownPr_nil _ _, h.2⟩
  | some x => obtain ⟨v, he, ho, hu⟩ := h; exact ⟨v, he, ho, hu⟩
end Go.Proofs.YtgbakgaegldomaaGreat

/- WriteAll of the reference, for what is known of any kind and any parts. Conditions: the parts are at most 2^20, each of at most 2^20 bytes. -/
namespace Go.Proofs.YtgbakgaegldomaaGreat
set_option linter.unusedVariables false
set_option linter.unusedSimpArgs false
open Go Go.RowKit

/-- All parts, then the end. -/
def waW : WrD → List ByteArray → List UInt8 → Option (List UInt8)
  | w, [], out => (wcO w).map (out ++ ·)
  | w, p :: ps, out => match wdO w p.data.toList with
    | none => none
    | some r => waW r.1 ps (out ++ r.2)
def waG (k : KnD) (ps : List ByteArray) : Option (List UInt8) := if validK k then waW ⟨k, [], [], false⟩ ps [] else none
/-- The writer that NewWriter hands back, be there one or not. -/
def nwX (k : KnD) : WrD := if validK k then ⟨k, [], [], false⟩ else wr0
theorem nwP_all {k : KnD} {w w' : World} {e : Ending} (h : NwPost k w e w') : ∃ v, e = .returned (.tuple #[wrV (nwX k) v, .bool (validK k)]) ∧ ownPr w' w.heap.size v (nwX k).k.ps ∧ Up w w' := by
  unfold NwPost at h
  unfold nwX
  split at h
  · rename_i hv
    rw [if_pos hv, hv]
    exact h
  · rename_i hv
    rw [if_neg hv, Bool.eq_false_iff.2 hv]
    exact ⟨.slice none 0 0, h.1, ownPr_nil _ _, h.2⟩
theorem wdO_case {x : WrD} {d : List UInt8} : (wdO x d = none ∧ oWr (wdO x d) = wr0 ∧ oBy (wdO x d) = []) ∨ (∃ r, wdO x d = some r ∧ oWr (wdO x d) = r.1 ∧ oBy (wdO x d) = r.2 ∧ wrOk r.1 ∧ r.2.length ≤ 41000) := by
  cases hb : (wrvB x && fitsB x.k.set (x.pend ++ d))
  · left
    rw [wdO_none hb]
    exact ⟨rfl, rfl, rfl⟩
  · right
    obtain ⟨h1, h2⟩ := Bool.and_eq_true_iff.1 hb
    obtain ⟨-, h3, h4⟩ := fitsB_lits h2
    have hx := wrvB_ok h1
    have hl : ∀ b ∈ d, b.toNat < clr x.k.set := fun b hb => h4 b (List.mem_append_right _ hb)
    rw [wdO_some hb]
    refine ⟨x.write d, rfl, rfl, rfl, (wrOk_write hx hl h3).1, ?_⟩
    unfold WrD.write
    split
    · exact Nat.zero_le _
    · rename_i h
      have hs := (WlD.outs _ _ _ _ (WlD.start hx h hl h3)).2
      show (packL _ _).length ≤ 41000
      rw [packL_length, List.length_take]
      have hs' : (x.all d).length ≤ 41000 := hs
      omega
theorem wrOk_new {k : KnD} (h : validK k = true) : wrOk ⟨k, [], [], false⟩ := by
  obtain ⟨h1, h2⟩ := ok_of_valid h
  exact ⟨h1, h2, (fun b hb => absurd hb (List.not_mem_nil)), Nat.zero_le _, (fun b hb => absurd hb (List.not_mem_nil)), Nat.zero_le _, .inl rfl, fun _ => ⟨rfl, rfl⟩⟩
/-- What is small about a valid writer. -/
theorem wrOk_bd {x : WrD} (h : wrOk x) : (-9223372036854775808 ≤ x.k.set.lit ∧ x.k.set.lit ≤ 9223372036854775807) ∧ x.k.ps.length ≤ 1048576 ∧ x.pend.length ≤ 1048576 ∧ x.bits.length ≤ 1048576 := by
  have h1 := h.1.nums
  have h2 := h.2.2.2.1
  have h3 := h.2.2.2.2.2.1
  obtain ⟨-, ⟨g1, g2⟩, -, -⟩ := setOk_bd h.1.set
  exact ⟨by omega, by omega, by omega, by omega⟩
theorem close_len {x : WrD} (h : wrOk x) : x.close.length ≤ 1000 := by
  obtain ⟨h1, -⟩ := open_len h
  obtain ⟨hok, -⟩ := WrD.open_ok h.1
  have h7 := h.2.2.2.2.2.1
  by_cases hpe : x.pend = []
  · have := KnD.width_bd hok
    rw [close_nil hpe, packL_length, List.length_append, codeL_length]; omega
  · have hbeg : x.beg = true := by
      cases hb : x.beg
      · exact absurd (h.2.2.2.2.2.2.2 hb).1 hpe
      · rfl
    have hopen : x.open = (x.bits, x.k) := by unfold WrD.open; rw [hbeg]; rfl
    have hlg : x.k.longest x.pend = x.pend := (h.2.2.2.2.2.2.1).resolve_left hpe
    obtain ⟨hfw, -⟩ := KnD.find_any h.1 hpe h.2.2.1
    rw [hlg] at hfw
    have hfb := KnD.find_bd h.1 hfw
    obtain ⟨n, hn⟩ := Int.eq_ofNat_of_zero_le hfb.1
    have hth := KnD.thru_fol h.1 hfw
    have hwd := KnD.width_bd h.1
    have hwa := KnD.width_bd (KnD.after_ok h.1 hfw)
    rw [hn] at hth hwa
    rw [close_word hpe hopen hn hth, packL_length, List.length_append, List.length_append, codeL_length, codeL_length]; omega

structure WaAt (T : Option (List UInt8)) (ps : List ByteArray) (j : Nat) (ok : Bool) (x : WrD) (out : List UInt8) : Prop where
  le : j ≤ ps.length
  len : out.length ≤ 41000 * j
  yes : ok = true → wrOk x ∧ waW x (ps.drop j) out = T
  no : ok = false → x = wr0 ∧ T = none
theorem WaAt.bd {T : Option (List UInt8)} {ps : List ByteArray} {j : Nat} {ok : Bool} {x : WrD} {out : List UInt8} (h : WaAt T ps j ok x out) : (-9223372036854775808 ≤ x.k.set.lit ∧ x.k.set.lit ≤ 9223372036854775807) ∧ x.k.ps.length ≤ 1048576 ∧ x.pend.length ≤ 1048576 ∧ x.bits.length ≤ 1048576 := by
  cases ok
  · rw [(h.no rfl).1]; decide
  · exact wrOk_bd (h.yes rfl).1
theorem WaAt.start (k : KnD) (ps : List ByteArray) : WaAt (waG k ps) ps 0 (validK k) (nwX k) [] := by
  unfold waG nwX
  refine WaAt.mk (Nat.zero_le _) (Nat.zero_le _) (fun h => ?_) (fun h => ?_)
  · rw [if_pos h, if_pos h]
    exact ⟨wrOk_new h, rfl⟩
  · rw [if_neg (by rw [h]; simp), if_neg (by rw [h]; simp)]
    exact ⟨rfl, rfl⟩
theorem WaAt.next {T : Option (List UInt8)} {ps : List ByteArray} {j : Nat} {x : WrD} {out : List UInt8} (h : WaAt T ps j true x out) (hj : j < ps.length) :
    WaAt T ps (j + 1) (wdO x ps[j].data.toList).isSome (oWr (wdO x ps[j].data.toList)) (out ++ oBy (wdO x ps[j].data.toList)) ∧ (oBy (wdO x ps[j].data.toList)).length ≤ 41000 := by
  have hT := (h.yes rfl).2
  rw [List.drop_eq_getElem_cons hj, waW] at hT
  have hl := h.len
  generalize ps[j].data.toList = d at *
  obtain h0 | ⟨r, h1, h2, h3, h4, h5⟩ := wdO_case (x := x) (d := d)
  · obtain ⟨h1, h2, h3⟩ := h0
    rw [h2, h3]
    rw [h1] at hT ⊢
    exact ⟨WaAt.mk hj (by rw [List.append_nil]; omega) (fun e => by cases e) (fun _ => ⟨rfl, hT.symm⟩), Nat.zero_le _⟩
  · rw [h2, h3]
    rw [h1] at hT ⊢
    exact ⟨WaAt.mk hj (by rw [List.length_append]; omega) (fun _ => ⟨h4, hT⟩) (fun e => by cases e), h5⟩
theorem WaAt.fin {T : Option (List UInt8)} {ps : List ByteArray} {j : Nat} {x : WrD} {out : List UInt8} (h : WaAt T ps j true x out) (hj : j = ps.length) : wcO x = some x.close ∧ T = some (out ++ x.close) ∧ x.close.length ≤ 1000 := by
  obtain ⟨h1, h2⟩ := h.yes rfl
  rw [hj, List.drop_length, waW, wcO_some (wrvB_of h1)] at h2
  exact ⟨wcO_some (wrvB_of h1), h2.symm, close_len h1⟩

def RelWs (T : Option (List UInt8)) (ps : List ByteArray) (b : Nat) (w1 : World) (ok out by' i : Value) (wr : World) : Prop := ∃ (j : Nat) (o : Bool) (x : WrD) (v : Value) (out' : List UInt8) (s : ByteArray),
  ok = .bool o ∧ out = .string (bs out') ∧ by' = .string s ∧ i = .int .i64 j ∧ WaAt T ps j o x out' ∧ WrAt b x v wr ∧ RdP 0 wr v x.k.ps ∧ Up w1 wr

def PtO (lo : Nat) (o : Option (WrD × List UInt8)) (u : Value) (w : World) : Prop := ∃ v, u = .tuple #[wrV (oWr o) v, .string (bs (oBy o)), .bool o.isSome] ∧ RdP lo w v (oWr o).k.ps
theorem ptO_closed {lo : Nat} {o : Option (WrD × List UInt8)} : ∀ u, UpClosed (PtO lo o u) := fun u w w' ⟨v, h1, h2⟩ hu => ⟨v, h1, h2.up hu⟩
def WrO' (lo : Nat) (y : WrD) (u : Value) (w : World) : Prop := ∃ v, u = wrV y v ∧ RdP lo w v y.k.ps
theorem wrO'_closed {lo : Nat} {y : WrD} : ∀ u, UpClosed (WrO' lo y u) := fun u w w' ⟨v, h1, h2⟩ hu => ⟨v, h1, h2.up hu⟩
theorem upOut_ptO {f : FuncId} {args : Array Value} {w : World} {o : Option (WrD × List UInt8)} {lo : Nat} (h : Calls Tryz.prog f args w (WdPost o w)) (hb : lo ≤ w.heap.size) : upOut Tryz.prog (PtO lo o) w (.ok (.enter f args) w) :=
  ⟨rfl, h.mono fun e w' hP => by obtain ⟨v, he, ho, hu⟩ := wdP_all hP; exact ⟨_, he, hu, v, rfl, (RdP.of_own ho).low hb⟩⟩

set_option maxRecDepth 100000 in
set_option maxHeartbeats 8000000 in
theorem waS_any (k : KnD) (v vp : Value) (lo : Nat) (ps : List ByteArray) (w : World) (hr : RdP lo w v k.ps) (hps : k.ps.length ≤ 1048576) (hp : ArgS w vp ps) (hn : ps.length ≤ 1048576) (hsz : ∀ s ∈ ps, s.size ≤ 1048576) :
    Calls Tryz.prog 8  #[kV k v, vp] w (Same (optS (waG k ps)) w) := by
  have cN := fun wq hr => nwS_any k v lo wq hr hps
  have hrt := fun (wq : World) (hu : Up w wq) => hr.up hu
  have hpt := fun (wq : World) (hu : Up w wq) => hp.up hu
  have hS := Lib.hid (WaAt.start k ps)
  obtain ⟨a, cap, rfl, -, -, -, -⟩ := id hr
  obtain ⟨ap, cp, rfl, hpm, -, -⟩ := id hp
  obtain ⟨T, hT⟩ : ∃ T, Hid (T = waG k ps) := ⟨_, rfl⟩
  rw [← hT.out] at hS ⊢
  unfold maxLen at hpm
  simp only [kV] at *
  go_enter Tryz.func8, Tryz.ntmps8
  go_wp2_with fail
  (with_reducible refine (cN _ (hrt _ (by (repeat (first | with_reducible exact Up.refl _ | with_reducible assumption | with_reducible refine Up.set ?_ (by first | exact Nat.le_refl _ | (simp only []; omega) | (simp; omega)) _ | with_reducible refine Up.alloc ?_ _ | with_reducible refine Up.drew ?_ | refine Up.trans ?_ (by with_reducible assumption)))))).mono ?_); rintro e w1 hP; obtain ⟨v1, rfl, ho1, U1⟩ := nwP_all hP
  obtain ⟨a1, c1, rfl⟩ := ownsRow_shape ho1
  have hU1 : Up w w1 := by (repeat (first | with_reducible exact Up.refl _ | with_reducible assumption | with_reducible refine Up.set ?_ (by first | exact Nat.le_refl _ | (simp only []; omega) | (simp; omega)) _ | with_reducible refine Up.alloc ?_ _ | with_reducible refine Up.drew ?_ | refine Up.trans ?_ (by with_reducible assumption)))
  generalize nwX k = x0 at *
  generalize validK k = ok0 at *
  clear hP U1 cN hr hp
  unfold wrV
  go_wp2_with fail
  have hX1 : WrAt w1.heap.size x0 (.slice a1 x0.k.ps.length c1) (w1.alloc (.cells #[.int .i64 x0.k.set.ord, .int .i64 x0.k.set.lit, .int .i64 x0.k.set.most, .slice a1 x0.k.ps.length c1, .int .i64 x0.k.base, .int .i64 x0.k.last, .string (bs x0.pend), .string (bs x0.bits), .bool x0.beg] 37)) := (MapKept.heap_alloc w1 _).1
  have hUa : Up w1 (w1.alloc (.cells #[.int .i64 x0.k.set.ord, .int .i64 x0.k.set.lit, .int .i64 x0.k.set.most, .slice a1 x0.k.ps.length c1, .int .i64 x0.k.base, .int .i64 x0.k.last, .string (bs x0.pend), .string (bs x0.bits), .bool x0.beg] 37)) := (Up.refl _).alloc _
  have hr1 : RdP 0 (w1.alloc (.cells #[.int .i64 x0.k.set.ord, .int .i64 x0.k.set.lit, .int .i64 x0.k.set.most, .slice a1 x0.k.ps.length c1, .int .i64 x0.k.base, .int .i64 x0.k.last, .string (bs x0.pend), .string (bs x0.bits), .bool x0.beg] 37)) (.slice a1 x0.k.ps.length c1) x0.k.ps := ((RdP.of_own ho1).low (Nat.zero_le _)).up hUa
  have HL0 := Lib.hid (And.intro hX1 (And.intro hUa hr1))
  clear hX1 hUa hr1 ho1
  generalize (w1.alloc (.cells #[.int .i64 x0.k.set.ord, .int .i64 x0.k.set.lit, .int .i64 x0.k.set.most, .slice a1 x0.k.ps.length c1, .int .i64 x0.k.base, .int .i64 x0.k.last, .string (bs x0.pend), .string (bs x0.bits), .bool x0.beg] 37)) = W at *
  go_loopw [7, 8, 9, 10] (fun ok out by' i wr => RelWs T ps w1.heap.size w1 ok out by' i wr) (fun _ _ _ i _ => ps.length - (intOf i).toNat)
  case atStart => exact ⟨0, ok0, x0, _, [], _, rfl, rfl, rfl, rfl, hS.out, HL0.out.1, HL0.out.2.2, HL0.out.2.1⟩
  case round =>
    clear HL0 hS
    obtain ⟨j, o, x, v, out', s, rfl, rfl, rfl, rfl, hM, hX, hrx, hU⟩ := hrel
    have hUw := hU1.trans hU
    obtain ⟨hb1, hb2, hb3, hb4⟩ := hM.bd
    have hol := hM.len
    have hj := hM.le
    have hos := bs_size out'
    obtain ⟨av, cv, rfl, -⟩ := id hrx
    obtain ⟨hbk, r0, r1, r2, r3, r4, r5, r6, r7, r8⟩ := hX.cells
    cases o
    · obtain ⟨hx0, hT0⟩ := hM.no rfl
      have cC := fun wq h => wcS_any x (.slice av x.k.ps.length cv) 0 wq h hb2 hb3 hb4
      obtain ⟨sa, sb, hsab⟩ : ∃ sa sb, optS (wcO x) = .tuple #[.string sa, .bool sb] := ⟨_, _, rfl⟩
      rw [hsab] at cC
      have HT0 := Lib.hid hT0
      clear hsab hM hx0 hT0
      unfold wrV at cC
      by_cases hlt : j < ps.length
      · go_wp2_with fail
        (with_reducible refine (cC _ hrx).mono ?_); rintro e w7 ⟨rfl, U7⟩
        go_wp2_with fail
        go_ret2
        exact ⟨by rw [HT0.out]; rfl, hUw.trans U7⟩
      · go_wp2_with fail
        (with_reducible refine (cC _ hrx).mono ?_); rintro e w7 ⟨rfl, U7⟩
        go_wp2_with fail
        go_ret2
        exact ⟨by rw [HT0.out]; rfl, hUw.trans U7⟩
    · by_cases hlt : j < ps.length
      · obtain ⟨gb, off, rfl, hgb, hgk, -, hnc, hcm⟩ := (hpt _ hUw).at hlt
        unfold maxLen at hcm
        have hs1 := hsz _ (List.getElem_mem hlt)
        obtain ⟨hN, hNl⟩ := hM.next hlt
        have HN := Lib.hid hN
        have hsl : (ps[j]).data.toList.length = (ps[j]).size := rfl
        have cI1 : ∀ wq v, RdP 0 wq v x.k.ps → Calls Tryz.prog 35  #[wrV x v, .string (ps[j])] wq (WdPost (wdO x (ps[j]).data.toList) wq) := fun wq v h => wdS_any x v 0 (ps[j]).data.toList wq h hb2 hb3 hb4 (by omega)
        clear hN hM hsl
        generalize wdO x (ps[j]).data.toList = X at *
        generalize ps[j] = s1 at *
        have hyl := bs_size (oBy X)
        have hcat : bs out' ++ bs (oBy X) = bs (out' ++ oBy X) := bs_app _ _
        unfold wrV at cI1
        have hgw : gb < wr.heap.size := hgb
        go_wp2_with fail
        refine wp_region_upf 10 (by kernel_rfl) (by kernel_rfl) ?_
        simp only [List.take, List.drop]
        repeat (refine wpUp_step (fun K hK => ?_); go_simp; (try simp only [↓IntWalk.iteOmega]); first
          | (refine hK _ _ ?_; clear hK K)
          | (apply stepU_c
             · intro wq hwq; (have hbq := bcell hwq; (repeat (first | refine fills_no (by rfl) ?_ | refine fills_yes (by rfl) (fun vq hvq => ?_))); simp only [List.filter_nil, fills]; unfold upAt; (try ((obtain ⟨v', rfl, hv'⟩ := hvq))); go_simp; (try go_bits); (try simp only [↓IntWalk.iteOmega]); (try (rw [dif_pos (by omega)]; go_simp; try go_bits)); first | exact upOut_value)
             go_simp; refine hK _ _ ?_; clear hK K)
          | (refine stepU_m (by kernel_rfl) (PtO (w1.heap.size + 1) X) (ptO_closed) (fun wq hwq => ?_) ?_
             · (have hbq := bcell hwq; (repeat (first | refine fills_no (by rfl) ?_ | refine fills_yes (by rfl) (fun vq hvq => ?_))); simp only [List.filter_nil, fills]; unfold upAt; (try ((obtain ⟨v', rfl, hv'⟩ := hvq))); go_simp; (try go_bits); (try simp only [↓IntWalk.iteOmega]); (try (rw [dif_pos (by omega)]; go_simp; try go_bits)); ((with_reducible refine upOut_ptO ?_ (by have := hwq.size; omega)); exact cI1 _ _ (hrx.up hwq)))
             refine hK _ _ ?_; clear hK K)
          | (refine stepU_m (by kernel_rfl) (PtO (w1.heap.size + 1) X) (ptO_closed) (fun wq hwq => ?_) ?_
             · (have hbq := bcell hwq; (repeat (first | refine fills_no (by rfl) ?_ | refine fills_yes (by rfl) (fun vq hvq => ?_))); simp only [List.filter_nil, fills]; unfold upAt; (try ((obtain ⟨v', rfl, hv'⟩ := hvq))); go_simp; (try go_bits); (try simp only [↓IntWalk.iteOmega]); (try (rw [dif_pos (by omega)]; go_simp; try go_bits)); (exact ⟨Up.refl _, v', rfl, hv'⟩))
             refine hK _ _ ?_; clear hK K)
          | (refine stepU_m (by kernel_rfl) (WrO' (w1.heap.size + 1) (oWr X)) (wrO'_closed) (fun wq hwq => ?_) ?_
             · (have hbq := bcell hwq; (repeat (first | refine fills_no (by rfl) ?_ | refine fills_yes (by rfl) (fun vq hvq => ?_))); simp only [List.filter_nil, fills]; unfold upAt; (try ((obtain ⟨v', rfl, hv'⟩ := hvq))); go_simp; (try go_bits); (try simp only [↓IntWalk.iteOmega]); (try (rw [dif_pos (by omega)]; go_simp; try go_bits)); (exact ⟨Up.refl _, v', rfl, hv'⟩))
             refine hK _ _ ?_; clear hK K))
        refine wpUp_nil (fun wq hwq => ?_)
        simp only [fills]
        rintro u1 ⟨v9, rfl, hv9⟩ u2 ⟨v2', rfl, -⟩ u3 ⟨v3', rfl, -⟩
        obtain ⟨a9, c9, rfl, -⟩ := id hv9
        have hXq := hX.up hwq
        generalize oWr X = y1 at *
        have hK2 : WrAt w1.heap.size y1 (.slice a9 y1.k.ps.length c9) (WrW wq w1.heap.size y1 (.slice a9 y1.k.ps.length c9)) := WrAt.store hXq y1 _
        have hr9 : RdP 0 (WrW wq w1.heap.size y1 (.slice a9 y1.k.ps.length c9)) (.slice a9 y1.k.ps.length c9) y1.k.ps := by
          unfold WrW KnW
          refine RdP.low (lo := w1.heap.size + 1) ?_ (Nat.zero_le _)
          (repeat (with_reducible refine RdP.set ?_ (Nat.lt_succ_self _) _ _)); exact hv9
        have hU9 : Up w1 (WrW wq w1.heap.size y1 (.slice a9 y1.k.ps.length c9)) := WrW.up (hU.trans hwq) (Nat.le_refl _) y1 _
        have HH := Lib.hid (And.intro hK2 (And.intro hr9 hU9))
        obtain ⟨hbq, q0, q1, q2, q3, q4, q5, q6, q7, q8⟩ := hXq.cells
        have hfr := box_free hXq
        clear hK2 hr9 hU9 hXq hv9 hrx hX r0 r1 r2 r3 r4 r5 r6 r7 r8
        unfold wrV
        go_simp
        iterate 4 go_step
        rw [show (((((((((wq.setCell ⟨w1.heap.size, 0, none⟩ (.int .i64 y1.k.set.ord)).setCell ⟨w1.heap.size, 1, none⟩ (.int .i64 y1.k.set.lit)).setCell ⟨w1.heap.size, 2, none⟩ (.int .i64 y1.k.set.most)).setCell ⟨w1.heap.size, 3, none⟩ (.slice a9 y1.k.ps.length c9)).setCell ⟨w1.heap.size, 4, none⟩ (.int .i64 y1.k.base)).setCell ⟨w1.heap.size, 5, none⟩ (.int .i64 y1.k.last)).setCell ⟨w1.heap.size, 6, none⟩ (.string (bs y1.pend))).setCell ⟨w1.heap.size, 7, none⟩ (.string (bs y1.bits))).setCell ⟨w1.heap.size, 8, none⟩ (.bool y1.beg)) = WrW wq w1.heap.size y1 (.slice a9 y1.k.ps.length c9) from rfl]
        generalize WrW wq w1.heap.size y1 (.slice a9 y1.k.ps.length c9) = W9 at *
        clear q0 q1 q2 q3 q4 q5 q6 q7 q8 hfr hbq
        go_wp2_with fail
        rw [onlyN_normal]
        go_wp2_with fail
        go_roundw
        case rel => exact ⟨j + 1, _, y1, _, out' ++ oBy X, _, rfl, rfl, rfl, by go_num, HN.out, HH.out.1, HH.out.2.1, HH.out.2.2⟩
        case measure => simp [intOf]; omega
      · obtain ⟨h1, h2, h3⟩ := hM.fin (by omega)
        have cC := fun wq h => wcS_any x (.slice av x.k.ps.length cv) 0 wq h hb2 hb3 hb4
        rw [h1] at cC
        have hcs := bs_size x.close
        have hcat : bs out' ++ bs x.close = bs (out' ++ x.close) := bs_app _ _
        have HT2 := Lib.hid h2
        clear h1 h2 hM
        unfold optS at cC
        simp only [Option.getD_some, Option.isSome_some] at cC
        unfold wrV at cC
        generalize x.close = cl at *
        go_wp2_with fail
        (with_reducible refine (cC _ hrx).mono ?_); rintro e w7 ⟨rfl, U7⟩
        go_wp2_with fail
        go_ret2
        exact ⟨by rw [HT2.out]; rfl, hUw.trans U7⟩

end Go.Proofs.YtgbakgaegldomaaGreat

