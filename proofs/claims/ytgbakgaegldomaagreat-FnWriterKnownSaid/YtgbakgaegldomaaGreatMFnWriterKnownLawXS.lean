/- Texts joined into one: the walks and laws that the last text leans on. Conditions: as each says. -/
import Derived.Test.YtgbakgaegldomaaGreatMFnWriterKnownLawXR

set_option linter.unusedVariables false
set_option linter.unusedSimpArgs false
/- Walk of the program's readCodes. Conditions: what is known is valid and can be read; all bytes are bits, their number is bounded. -/
namespace Go.Proofs.YtgbakgaegldomaaGreat
open Go Go.RowKit
def RgAt (b : Nat) (k : KnD) (v vc vd : Value) (fin pos : Int) (w : World) : Prop := w.heap[b]? = some (.cells #[.int .i64 k.set.ord, .int .i64 k.set.lit, .int .i64 k.set.most, v, .int .i64 k.base, .int .i64 k.last, vc, vd, .int .i64 fin, .int .i64 pos] 100)
theorem RgAt.cells {b : Nat} {k : KnD} {v vc vd : Value} {fin pos : Int} {w : World} (h : RgAt b k v vc vd fin pos w) : b < w.heap.size ∧ w.cell? ⟨b, 0, none⟩ = some (.int .i64 k.set.ord) ∧ w.cell? ⟨b, 1, none⟩ = some (.int .i64 k.set.lit) ∧ w.cell? ⟨b, 2, none⟩ = some (.int .i64 k.set.most) ∧ w.cell? ⟨b, 3, none⟩ = some v ∧ w.cell? ⟨b, 4, none⟩ = some (.int .i64 k.base) ∧ w.cell? ⟨b, 5, none⟩ = some (.int .i64 k.last) ∧
    w.cell? ⟨b, 6, none⟩ = some vc ∧ w.cell? ⟨b, 7, none⟩ = some vd ∧ w.cell? ⟨b, 8, none⟩ = some (.int .i64 fin) ∧ w.cell? ⟨b, 9, none⟩ = some (.int .i64 pos) :=
  ⟨(Array.getElem?_eq_some_iff.1 h).1, box_cell h 0, box_cell h 1, box_cell h 2, box_cell h 3, box_cell h 4, box_cell h 5, box_cell h 6, box_cell h 7, box_cell h 8, box_cell h 9⟩
abbrev rgV (k : KnD) (v vc vd : Value) (fin pos : Int) : Value := .agg #[.int .i64 k.set.ord, .int .i64 k.set.lit, .int .i64 k.set.most, v, .int .i64 k.base, .int .i64 k.last, vc, vd, .int .i64 fin, .int .i64 pos]
def RgW (w : World) (b : Nat) (k : KnD) (v vc vd : Value) (fin pos : Int) : World := (World.setCell (World.setCell (World.setCell (World.setCell (World.setCell (World.setCell (World.setCell (World.setCell (World.setCell (World.setCell w ⟨b, 0, none⟩ (.int .i64 k.set.ord)) ⟨b, 1, none⟩ (.int .i64 k.set.lit)) ⟨b, 2, none⟩ (.int .i64 k.set.most)) ⟨b, 3, none⟩ v) ⟨b, 4, none⟩ (.int .i64 k.base)) ⟨b, 5, none⟩ (.int .i64 k.last)) ⟨b, 6, none⟩ vc) ⟨b, 7, none⟩ vd) ⟨b, 8, none⟩ (.int .i64 fin)) ⟨b, 9, none⟩ (.int .i64 pos))
def RgC (b : Nat) (c0 c1 c2 c3 c4 c5 c6 c7 c8 c9 : Value) (w : World) : Prop := w.heap[b]? = some (.cells #[c0, c1, c2, c3, c4, c5, c6, c7, c8, c9] 100)
section
variable {w : World} {b : Nat} {c0 c1 c2 c3 c4 c5 c6 c7 c8 c9 : Value}
theorem RgC.s0 (h : RgC b c0 c1 c2 c3 c4 c5 c6 c7 c8 c9 w) (u : Value) : RgC b u c1 c2 c3 c4 c5 c6 c7 c8 c9 (w.setCell ⟨b, 0, none⟩ u) := box_set h 0 u
theorem RgC.s1 (h : RgC b c0 c1 c2 c3 c4 c5 c6 c7 c8 c9 w) (u : Value) : RgC b c0 u c2 c3 c4 c5 c6 c7 c8 c9 (w.setCell ⟨b, 1, none⟩ u) := box_set h 1 u
theorem RgC.s2 (h : RgC b c0 c1 c2 c3 c4 c5 c6 c7 c8 c9 w) (u : Value) : RgC b c0 c1 u c3 c4 c5 c6 c7 c8 c9 (w.setCell ⟨b, 2, none⟩ u) := box_set h 2 u
theorem RgC.s3 (h : RgC b c0 c1 c2 c3 c4 c5 c6 c7 c8 c9 w) (u : Value) : RgC b c0 c1 c2 u c4 c5 c6 c7 c8 c9 (w.setCell ⟨b, 3, none⟩ u) := box_set h 3 u
theorem RgC.s4 (h : RgC b c0 c1 c2 c3 c4 c5 c6 c7 c8 c9 w) (u : Value) : RgC b c0 c1 c2 c3 u c5 c6 c7 c8 c9 (w.setCell ⟨b, 4, none⟩ u) := box_set h 4 u
theorem RgC.s5 (h : RgC b c0 c1 c2 c3 c4 c5 c6 c7 c8 c9 w) (u : Value) : RgC b c0 c1 c2 c3 c4 u c6 c7 c8 c9 (w.setCell ⟨b, 5, none⟩ u) := box_set h 5 u
theorem RgC.s6 (h : RgC b c0 c1 c2 c3 c4 c5 c6 c7 c8 c9 w) (u : Value) : RgC b c0 c1 c2 c3 c4 c5 u c7 c8 c9 (w.setCell ⟨b, 6, none⟩ u) := box_set h 6 u
theorem RgC.s7 (h : RgC b c0 c1 c2 c3 c4 c5 c6 c7 c8 c9 w) (u : Value) : RgC b c0 c1 c2 c3 c4 c5 c6 u c8 c9 (w.setCell ⟨b, 7, none⟩ u) := box_set h 7 u
theorem RgC.s8 (h : RgC b c0 c1 c2 c3 c4 c5 c6 c7 c8 c9 w) (u : Value) : RgC b c0 c1 c2 c3 c4 c5 c6 c7 u c9 (w.setCell ⟨b, 8, none⟩ u) := box_set h 8 u
theorem RgC.s9 (h : RgC b c0 c1 c2 c3 c4 c5 c6 c7 c8 c9 w) (u : Value) : RgC b c0 c1 c2 c3 c4 c5 c6 c7 c8 u (w.setCell ⟨b, 9, none⟩ u) := box_set h 9 u
end
theorem RgAt.store {w : World} {b : Nat} {k0 : KnD} {v0 vc0 vd0 : Value} {fin0 pos0 : Int} (h : RgAt b k0 v0 vc0 vd0 fin0 pos0 w) (k : KnD) (v vc vd : Value) (fin pos : Int) : RgAt b k v vc vd fin pos (RgW w b k v vc vd fin pos) :=
  ((((((((((show RgC b _ _ _ _ _ _ _ _ _ _ w from h).s0 (.int .i64 k.set.ord)).s1 (.int .i64 k.set.lit)).s2 (.int .i64 k.set.most)).s3 v).s4 (.int .i64 k.base)).s5 (.int .i64 k.last)).s6 vc).s7 vd).s8 (.int .i64 fin)).s9 (.int .i64 pos)
theorem RgAt.storeK {w : World} {b : Nat} {k0 : KnD} {v0 vc vd : Value} {fin pos : Int} (h : RgAt b k0 v0 vc vd fin pos w) (k : KnD) (v : Value) : RgAt b k v vc vd fin pos (KnW w b k v) :=
  ((((((show RgC b _ _ _ _ _ _ _ _ _ _ w from h).s0 (.int .i64 k.set.ord)).s1 (.int .i64 k.set.lit)).s2 (.int .i64 k.set.most)).s3 v).s4 (.int .i64 k.base)).s5 (.int .i64 k.last)
theorem RgW.up {a w : World} (h : Up a w) {b : Nat} (hb : a.heap.size ≤ b) (k : KnD) (v vc vd : Value) (fin pos : Int) : Up a (RgW w b k v vc vd fin pos) := by
  unfold RgW
  repeat (refine Up.set ?_ (by exact hb) _)
  exact h
theorem RgW.own {w : World} {base : Nat} {e : TypeId} {size n : Nat} {u : Value} {xs : List Value} (h : w.ownsRow base e size u n xs) {b : Nat} (hb : some b ≠ u.ownBlock) (k : KnD) (v vc vd : Value) (fin pos : Int) : (RgW w b k v vc vd fin pos).ownsRow base e size u n xs := by
  unfold RgW
  repeat (refine ownsRow_setb ?_ hb _ _)
  exact h
theorem RgW.other {w : World} {b b' : Nat} (hb : b' ≠ b) (k : KnD) (v vc vd : Value) (fin pos : Int) : (RgW w b k v vc vd fin pos).heap[b']? = w.heap[b']? := by
  unfold RgW
  have hs : ∀ (w : World) (i : Nat) (x : Value), (w.setCell ⟨b, i, none⟩ x).heap[b']? = w.heap[b']? := fun w i x => Below.heap_setCell _ _ _ _ hb
  rw [hs, hs, hs, hs, hs, hs, hs, hs, hs, hs]
theorem fr_grown {v : Value} {w w' : World} (h : Fr (fun b => v.ownBlock = some b) w w') : w.grownBy w' v.ownBlock := ⟨h.os, h.tape, h.output, h.size, fun b hb hne => h.block b hb (fun e => hne e.symm)⟩
theorem gOut_adv {f : FuncId} {args : Array Value} {w : World} {k : KnD} {B : Nat} {v : Value} (h : Calls Tryz.prog f args w (AdvPost k B v w)) : gOut Tryz.prog (fun w w' => w.grownBy w' v.ownBlock) (fun u w' => ∃ vv, u = kV k vv ∧ ownPr w' B vv k.ps) w (.ok (.enter f args) w) :=
  ⟨rfl, h.mono fun e w'' ⟨vv, he, ho, hf⟩ => ⟨_, he, fr_grown hf, vv, rfl, ho⟩⟩
structure RcB (w : World) (k0 : KnD) (v0 : Value) (rb : Nat) (k : KnD) (v : Value) (cs : List Int) (vc : Value) (d : List UInt8) (vd : Value) (fin pos : Int) (wr : World) : Prop where
  kn0 : KnAt w.heap.size k0 v0 wr
  res : RgAt (w.heap.size + 1) ⟨⟨0, 0, 0⟩, [], 0, 0⟩ (.slice none 0 0) (.slice none 0 0) (.slice none 0 0) 0 0 wr
  box : RgAt rb k v vc vd fin pos wr
  lo : w.heap.size + 2 ≤ rb
  pr : ownPr wr (w.heap.size + 2) v k.ps
  own : ownI wr (w.heap.size + 2) vc cs
  dat : ownU wr (w.heap.size + 2) vd d
  up : Up w wr
section
variable {w : World} {k0 : KnD} {v0 : Value} {rb : Nat} {k k' : KnD} {v v' : Value} {cs cs' : List Int} {vc vc' : Value} {d d' : List UInt8} {vd vd' : Value} {fin pos fin' pos' : Int} {wr w' : World}
theorem RcB.upd (h : RcB w k0 v0 rb k v cs vc d vd fin pos wr) (hu : Up wr w') : RcB w k0 v0 rb k v cs vc d vd fin pos w' :=
  ⟨h.kn0.up hu, box_up hu h.res, box_up hu h.box, h.lo, ownsRow_up h.pr hu, ownsRow_up h.own hu, ownsRow_up h.dat hu, h.up.trans hu⟩
theorem RcB.set (h : RcB w k0 v0 rb k v cs vc d vd fin pos wr) (i : Nat) (u : Value) {kx : KnD} {vx vcx vdx : Value} {fx px : Int} (hb : RgAt rb kx vx vcx vdx fx px wr) (hb' : RgAt rb k' v' vc' vd' fin' pos' (wr.setCell ⟨rb, i, none⟩ u)) (hp : ownPr wr (w.heap.size + 2) v' k'.ps) (ho : ownI wr (w.heap.size + 2) vc' cs') (hd : ownU wr (w.heap.size + 2) vd' d') :
    RcB w k0 v0 rb k' v' cs' vc' d' vd' fin' pos' (wr.setCell ⟨rb, i, none⟩ u) :=
  have hl := h.lo
  ⟨(Below.heap_setCell _ _ _ _ (show w.heap.size ≠ rb by omega)).trans h.kn0, (Below.heap_setCell _ _ _ _ (show w.heap.size + 1 ≠ rb by omega)).trans h.res, hb', hl, ownsRow_setb hp (box_ne hb hp (by decide)) i u, ownsRow_setb ho (box_ne hb ho (by decide)) i u, ownsRow_setb hd (box_ne hb hd (by decide)) i u, h.up.set (p := ⟨rb, i, none⟩) (by show w.heap.size ≤ rb; omega) u⟩
theorem RcB.setF (h : RcB w k0 v0 rb k v cs vc d vd fin pos wr) (f : Int) : RcB w k0 v0 rb k v cs vc d vd f pos (wr.setCell ⟨rb, 8, none⟩ (.int .i64 f)) := h.set 8 _ h.box (box_set h.box 8 _) h.pr h.own h.dat
theorem RcB.setP (h : RcB w k0 v0 rb k v cs vc d vd fin pos wr) (p : Int) : RcB w k0 v0 rb k v cs vc d vd fin p (wr.setCell ⟨rb, 9, none⟩ (.int .i64 p)) := h.set 9 _ h.box (box_set h.box 9 _) h.pr h.own h.dat
structure RcG (w : World) (k0 : KnD) (v0 : Value) (rb : Nat) (k : KnD) (v : Value) (vc : Value) (vd : Value) (fin pos : Int) (wr : World) : Prop where
  kn0 : KnAt w.heap.size k0 v0 wr
  res : RgAt (w.heap.size + 1) ⟨⟨0, 0, 0⟩, [], 0, 0⟩ (.slice none 0 0) (.slice none 0 0) (.slice none 0 0) 0 0 wr
  box : RgAt rb k v vc vd fin pos wr
  up : Up w wr
theorem RcB.grown {e : TypeId} {size n base : Nat} {vr : Value} {xs : List Value} (h : RcB w k0 v0 rb k v cs vc d vd fin pos wr) (ho : wr.ownsRow base e size vr n xs) (hbase : w.heap.size + 2 ≤ base) (he : 100 ≠ e) (hg : wr.grownBy w' vr.ownBlock) : RcG w k0 v0 rb k v vc vd fin pos w' :=
  ⟨h.kn0.gr hg (low_ne (w := w) ho (by omega)), gbox hg h.res (low_ne (w := w) ho (by omega)), gbox hg h.box (box_ne h.box ho he), h.up.grown hg fun y hy => by have := (ho.lt y hy).1; omega⟩
theorem RcB.putC (h : RcB w k0 v0 rb k v cs vc d vd fin pos wr) (hg : wr.grownBy w' vc.ownBlock) (hn : ownI w' (w.heap.size + 2) vc' cs') : RcB w k0 v0 rb k v cs' vc' d vd fin pos (w'.setCell ⟨rb, 6, none⟩ vc') := by
  have hG := h.grown h.own (Nat.le_refl _) (by decide) hg
  have hp := h.pr.kept hg (rows_ne h.pr h.own (by decide))
  have hd := h.dat.kept hg (rows_ne h.dat h.own (by decide))
  have hl := h.lo
  exact ⟨(Below.heap_setCell _ _ _ _ (show w.heap.size ≠ rb by omega)).trans hG.kn0, (Below.heap_setCell _ _ _ _ (show w.heap.size + 1 ≠ rb by omega)).trans hG.res, box_set hG.box 6 _, hl, ownsRow_setb hp (box_ne hG.box hp (by decide)) _ _, ownsRow_setb hn (box_ne hG.box hn (by decide)) _ _, ownsRow_setb hd (box_ne hG.box hd (by decide)) _ _, hG.up.set (p := ⟨rb, 6, none⟩) (by show w.heap.size ≤ rb; omega) _⟩
theorem RcB.putD (h : RcB w k0 v0 rb k v cs vc d vd fin pos wr) (hg : wr.grownBy w' vd.ownBlock) (hn : ownU w' (w.heap.size + 2) vd' d') : RcB w k0 v0 rb k v cs vc d' vd' fin pos (w'.setCell ⟨rb, 7, none⟩ vd') := by
  have hG := h.grown h.dat (Nat.le_refl _) (by decide) hg
  have hp := h.pr.kept hg (rows_ne h.pr h.dat (by decide))
  have ho := h.own.kept hg (rows_ne h.own h.dat (by decide))
  have hl := h.lo
  exact ⟨(Below.heap_setCell _ _ _ _ (show w.heap.size ≠ rb by omega)).trans hG.kn0, (Below.heap_setCell _ _ _ _ (show w.heap.size + 1 ≠ rb by omega)).trans hG.res, box_set hG.box 7 _, hl, ownsRow_setb hp (box_ne hG.box hp (by decide)) _ _, ownsRow_setb ho (box_ne hG.box ho (by decide)) _ _, ownsRow_setb hn (box_ne hG.box hn (by decide)) _ _, hG.up.set (p := ⟨rb, 7, none⟩) (by show w.heap.size ≤ rb; omega) _⟩
theorem RcB.putK (h : RcB w k0 v0 rb k v cs vc d vd fin pos wr) (hg : wr.grownBy w' v.ownBlock) (hn : ownPr w' (w.heap.size + 2) v' k'.ps) : RcB w k0 v0 rb k' v' cs vc d vd fin pos (KnW w' rb k' v') := by
  have hG := h.grown h.pr (Nat.le_refl _) (by decide) hg
  have ho := h.own.kept hg (rows_ne h.own h.pr (by decide))
  have hd := h.dat.kept hg (rows_ne h.dat h.pr (by decide))
  have hl := h.lo
  exact ⟨(KnW.other (show w.heap.size ≠ rb by omega) k' v').trans hG.kn0, (KnW.other (show w.heap.size + 1 ≠ rb by omega) k' v').trans hG.res, hG.box.storeK k' v', hl,
    KnW.own hn (box_ne hG.box hn (by decide)) k' v', KnW.own ho (box_ne hG.box ho (by decide)) k' v', KnW.own hd (box_ne hG.box hd (by decide)) k' v', KnW.up hG.up (by omega) k' v'⟩
end
structure RcD (T : RdR) (o : Int) (bits : List UInt8) (sz ct : Nat) (k0 : KnD) (m : Nat) (k : KnD) (p : Nat) (cs : List Int) (d : List UInt8) : Prop where
  inv : RdInv bits sz k0 k p cs d
  tot : readN o bits sz ct m k p cs d = T
  len : bits.length ≤ p + m
  cl : ct + cs.length < 3100
def RelRc (T : RdR) (bits : List UInt8) (sz ct : Nat) (k0 : KnD) (v0 : Value) (w : World) (rb : Nat) (q : Value) (wr : World) : Prop := ∃ (k : KnD) (v vc vd : Value) (p m : Nat) (cs : List Int) (d : List UInt8), RcD T k0.set.ord bits sz ct k0 m k p cs d ∧ RcB w k0 v0 rb k v cs vc d vd 1 p wr
def posOf (rb : Nat) (wr : World) : Nat := match wr.cell? ⟨rb, 9, none⟩ with
  | some (.int _ n) => n.toNat
  | _ => 0
theorem posOf_box {rb : Nat} {wr : World} {k : KnD} {v vc vd : Value} {fin pos : Int} (h : RgAt rb k v vc vd fin pos wr) : posOf rb wr = pos.toNat := by
  unfold posOf
  rw [(h.cells).2.2.2.2.2.2.2.2.2.2]
def RcPost (R : RdR) (w : World) (e : Ending) (w' : World) : Prop := ∃ v vc vd, e = .returned (rgV R.k v vc vd R.fin R.pos) ∧ ownPr w' w.heap.size v R.k.ps ∧ ownI w' w.heap.size vc R.codes ∧ ownU w' w.heap.size vd R.data ∧ Up w w'
theorem RcPost.of {w : World} {k0 : KnD} {v0 : Value} {rb : Nat} {k : KnD} {v : Value} {cs : List Int} {vc : Value} {d : List UInt8} {vd : Value} {fin : Int} {p : Nat} {wr : World} (h : RcB w k0 v0 rb k v cs vc d vd fin p wr) : RcPost ⟨k, cs, d, fin, p⟩ w (.returned (rgV k v vc vd fin p)) (RgW wr (w.heap.size + 1) k v vc vd fin p) :=
  ⟨v, vc, vd, rfl, ownsRow_base (RgW.own h.pr (low_ne (w := w) h.pr (by omega)) ..) (by omega), ownsRow_base (RgW.own h.own (low_ne (w := w) h.own (by omega)) ..) (by omega), ownsRow_base (RgW.own h.dat (low_ne (w := w) h.dat (by omega)) ..) (by omega), RgW.up h.up (by omega) ..⟩
theorem top_follows {k : KnD} (h : k.Ok) {x : Int} (h0 : 0 ≤ x) (h1 : x ≤ (k.top : Int)) (h2 : x ≠ (k.c : Int) + 1) (h3 : x ≠ (k.c : Int)) : k.follows x = true := by
  unfold KnD.follows
  rw [Bool.or_eq_true, Bool.and_eq_true, codeOk_iff, decide_eq_true_iff]
  unfold KnD.top at h1
  unfold KnD.next at *
  split at h1
  · next hg =>
    by_cases hx : x = ((k.c + 2 + k.ps.length : Nat) : Int)
    · exact .inr ⟨hg, hx⟩
    · left; omega
  · left; omega
theorem follows_top {k : KnD} (h : k.Ok) {x : Int} (h1 : ¬ x ≤ (k.top : Int)) : x ≠ (k.c : Int) + 1 ∧ x ≠ (k.c : Int) ∧ k.follows x = false := by
  have ht := (KnD.top_bd h).1
  refine ⟨by omega, by omega, ?_⟩
  cases hf : k.follows x
  · rfl
  · exact absurd (KnD.fol_top h hf).2 h1
set_option maxRecDepth 100000 in
set_option maxHeartbeats 8000000 in
theorem readI_any (k : KnD) (v : Value) (lo : Nat) (bits : List UInt8) (sz ct : Nat) (w : World) (h : k.Ok) (hr : RdP lo w v k.ps) (hb : isBits bits) (hl : bits.length ≤ 40000) (hs : sz ≤ 2000) (hc : ct < 3100) :
    Calls Tryz.prog 53  #[kV k v, .string (bs bits), .int .i64 sz, .int .i64 ct] w (RcPost (readN k.set.ord bits sz ct bits.length k 0 [] []) w) := by
  obtain ⟨i0, hi, hz0, hz1, hz2⟩ := info_parts infoIntG
  have hpl0 := h.nums.2.2.2.1
  have cY := fun wx hr => copyI_any k v lo wx hr (by omega)
  have cK0 := fun wx => clearI_any k.set wx h.set
  have cE0 := fun wx => endI_any k.set wx h.set
  have hrt := fun (wq : World) (hu : Up w wq) => hr.up hu
  have HKT := Lib.hid h
  obtain ⟨T, hT⟩ : ∃ T, T = readN k.set.ord bits sz ct bits.length k 0 [] [] := ⟨_, rfl⟩
  rw [← hT]
  have HTT := Lib.hid hT.symm
  have HIB := Lib.hid hb
  have hord0 := (setOk_bd h.set).1
  have HOR := Lib.hid hord0
  have hbz := bs_size bits
  obtain ⟨a, cap, rfl, -, -, -, -⟩ := hr
  simp only [kV] at *
  clear h hT hb hord0
  go_enter Tryz.func53, Tryz.ntmps53
  go_wp2_with (go_at_call 40; (with_reducible refine (cY _ (hrt _ (by (repeat (first | with_reducible exact Up.refl _ | with_reducible assumption | with_reducible refine Up.set ?_ (by first | exact Nat.le_refl _ | (simp only []; omega) | (simp; omega)) _ | with_reducible refine Up.alloc ?_ _ | with_reducible refine Up.drew ?_ | refine Up.trans ?_ (by with_reducible assumption)))))).mono ?_); rintro e w2 ⟨v2, rfl, ho2, U2⟩; obtain ⟨a2, c2, rfl⟩ := ownsRow_shape ho2; have hk2 : KnAt w.heap.size k (.slice a k.ps.length cap) w2 := box_up U2 (box_up ((Up.refl _).alloc _) (MapKept.heap_alloc w _).1); have hq2 : RgAt (w.heap.size + 1) ⟨⟨0, 0, 0⟩, [], 0, 0⟩ (.slice none 0 0) (.slice none 0 0) (.slice none 0 0) 0 0 w2 := box_up U2 (alloc2 w _ _); have hU2 : Up w w2 := (by (repeat (first | with_reducible exact Up.refl _ | with_reducible assumption | with_reducible refine Up.set ?_ (by first | exact Nat.le_refl _ | (simp only []; omega) | (simp; omega)) _ | with_reducible refine Up.alloc ?_ _ | with_reducible refine Up.drew ?_ | refine Up.trans ?_ (by with_reducible assumption)))); have hs2 := U2.size; simp at hs2; have hm2 : RcB w k (.slice a k.ps.length cap) w2.heap.size k (.slice a2 k.ps.length c2) [] (.slice none 0 0) [] (.slice none 0 0) 1 0 (w2.alloc (.cells #[.int .i64 k.set.ord, .int .i64 k.set.lit, .int .i64 k.set.most, .slice a2 k.ps.length c2, .int .i64 k.base, .int .i64 k.last, .slice none 0 0, .slice none 0 0, .int .i64 1, .int .i64 0] 100)) := ⟨box_up ((Up.refl _).alloc _) hk2, box_up ((Up.refl _).alloc _) hq2, (MapKept.heap_alloc w2 _).1, hs2, ownsRow_base (ownsRow_up ho2 ((Up.refl _).alloc _)) (by simp), World.ownsRow_nil _ _ _ _, World.ownsRow_nil _ _ _ _, hU2.alloc _⟩; have HM2 := Lib.hid hm2; clear ho2 hk2 hq2 hm2 hU2)
  generalize w2.alloc (.cells #[.int .i64 k.set.ord, .int .i64 k.set.lit, .int .i64 k.set.most, .slice a2 k.ps.length c2, .int .i64 k.base, .int .i64 k.last, .slice none 0 0, .slice none 0 0, .int .i64 1, .int .i64 0] 100) = W at HM2 ⊢
  generalize w2.heap.size = rb at *
  refine wp_region_upf 6 (by kernel_rfl) (by kernel_rfl) ?_
  simp only [List.take, List.drop]
  repeat (refine wpUp_step (fun K hK => ?_); go_simp; (try simp only [↓IntWalk.iteOmega]); first
    | (refine hK _ _ ?_; clear hK K)
    | (apply stepU_c
       · intro wq hwq; (have hbq := bcell hwq; (repeat (first | refine fills_no (by rfl) ?_ | refine fills_yes (by rfl) (fun vq hvq => ?_))); simp only [List.filter_nil, fills]; unfold upAt; (try ((obtain ⟨-, s0, s1, s2, s3, s4, s5⟩ := (HM2.out.kn0.up hwq).cells))); go_simp; (try go_bits); (try simp only [↓IntWalk.iteOmega]); (try (rw [dif_pos (by omega)]; go_simp; try go_bits)); first | exact upOut_value | (apply upOut_call; (go_at_call 47; exact cK0 _)) | (apply upOut_eq; (go_at_call 47; exact cK0 _)) | (apply upOut_call; (go_at_call 76; exact cE0 _)) | (apply upOut_eq; (go_at_call 76; exact cE0 _)))
       go_simp; refine hK _ _ ?_; clear hK K))
  refine wpUp_nil (fun wq hwq => ?_)
  simp only [fills]
  have HM3 := Lib.hid (HM2.out.upd hwq)
  clear hwq
  go_wp2
  rw [onlyN_normal]
  go_wp2
  have hlo := HM3.out.lo
  go_loopw [12] (fun q wr => RelRc T bits sz ct k (.slice a k.ps.length cap) w rb q wr) (fun _ wr => bits.length - posOf rb wr)
  case atStart => exact ⟨k, _, _, _, 0, bits.length, [], [], ⟨RdInv.start HKT.out hs, HTT.out, by omega, by simpa using hc⟩, HM3.out⟩
  case round =>
    clear HM2 HM3 cY hrt hs2
    obtain ⟨k', v', vc, vd, p, m, cs, d, hD, hB⟩ := hrel
    have HD := Lib.hid hD
    have HB := Lib.hid hB
    have HB0 := Lib.hid hB
    have hok := hD.inv.ok
    obtain ⟨a', c', rfl⟩ := ownsRow_shape hB.pr
    obtain ⟨aw, cw, rfl⟩ := ownsRow_shape hB.own
    obtain ⟨ad, cd, rfl⟩ := ownsRow_shape hB.dat
    obtain ⟨hbr, r0, r1, r2, r3, r4, r5, r6, r7, r8, r9⟩ := (hB).box.cells; have hfb := box_free (hB).box
    obtain ⟨hbq, q0, q1, q2, q3, q4, q5, q6, q7, q8, q9⟩ := RgAt.cells (k := ⟨⟨0, 0, 0⟩, [], 0, 0⟩) (hB).res; have hfq := box_free (hB).res
    obtain ⟨hbk, s0, s1, s2, s3, s4, s5⟩ := hB.kn0.cells
    have hdl := hD.inv.dl
    have hcl := hD.cl
    have hpl := hD.inv.pos
    have hlm := hD.len
    have HSET := Lib.hid hD.inv.set
    have hcc : Hid (k'.c = clr k.set) := by unfold Hid KnD.c; rw [HSET.out]
    have cWd := fun wq hr => widthI_any k' (.slice a' k'.ps.length c') (w.heap.size + 2) wq hok hr
    obtain ⟨hb1, hb2, -, -, -⟩ := hok.nums
    have hwd := KnD.width_bd hok
    have hwd1 := hwd.1
    have hwd2 := hwd.2
    clear hD hB hwd
    by_cases hsh : bits.length < p + k'.width
    · have HR : Hid (T = ⟨k', cs, d, 1, p⟩) := by unfold Hid; rw [← HD.out.tot, readN_short hsh]
      generalize k'.width = wd at *
      simp only [kV] at *
      go_wp2_with ((go_at_call 100; (with_reducible refine (cWd _ (RdP.of_own HB.out.pr)).mono ?_); rintro e w3 ⟨rfl, U3⟩; have B3 := bcell U3; have Z3 := U3.size; (try simp at Z3); (try rw [Nat.add_one_le_iff] at Z3)); obtain ⟨hbr, r0, r1, r2, r3, r4, r5, r6, r7, r8, r9⟩ := (HB.out.upd U3).box.cells; have hfb := box_free (HB.out.upd U3).box; obtain ⟨hbq, q0, q1, q2, q3, q4, q5, q6, q7, q8, q9⟩ := RgAt.cells (k := ⟨⟨0, 0, 0⟩, [], 0, 0⟩) (HB.out.upd U3).res; have hfq := box_free (HB.out.upd U3).res)
      have HFI := Lib.hid (HB.out.upd U3)
      have HQI := Lib.hid (RgAt.store (HFI.out).res ((k')) (.slice a' k'.ps.length c') (.slice aw cs.length cw) (.slice ad d.length cd) (1) ((p : Int)))
      rw [show (World.setCell (World.setCell (World.setCell (World.setCell (World.setCell (World.setCell (World.setCell (World.setCell (World.setCell (World.setCell w3 ⟨w.heap.size + 1, 0, none⟩ (.int .i64 (k').set.ord)) ⟨w.heap.size + 1, 1, none⟩ (.int .i64 (k').set.lit)) ⟨w.heap.size + 1, 2, none⟩ (.int .i64 (k').set.most)) ⟨w.heap.size + 1, 3, none⟩ (.slice a' k'.ps.length c')) ⟨w.heap.size + 1, 4, none⟩ (.int .i64 (k').base)) ⟨w.heap.size + 1, 5, none⟩ (.int .i64 (k').last)) ⟨w.heap.size + 1, 6, none⟩ (.slice aw cs.length cw)) ⟨w.heap.size + 1, 7, none⟩ (.slice ad d.length cd)) ⟨w.heap.size + 1, 8, none⟩ (.int .i64 1)) ⟨w.heap.size + 1, 9, none⟩ (.int .i64 (p : Int))) = RgW w3 (w.heap.size + 1) ((k')) (.slice a' k'.ps.length c') (.slice aw cs.length cw) (.slice ad d.length cd) (1) ((p : Int)) from rfl]
      have HPO := Lib.hid (RcPost.of HFI.out)
      obtain ⟨hbq, q0, q1, q2, q3, q4, q5, q6, q7, q8, q9⟩ := HQI.out.cells
      rw [HR.out]
      refine bodyPost_ret (v := rgV ((k')) (.slice a' k'.ps.length c') (.slice aw cs.length cw) (.slice ad d.length cd) (1) ((p : Int))) (by simp [results, Tryz.results53, go_sem, q0, q1, q2, q3, q4, q5, q6, q7, q8, q9]) rfl ?_
      exact HPO.out
    · obtain ⟨x, hx⟩ : ∃ x, codeAt k.set.ord bits p k'.width = x := ⟨_, rfl⟩
      have hxb := codeAt_bd (o := k.set.ord) HIB.out (p := p) (by omega : k'.width ≤ 16)
      rw [hx] at hxb
      have HX := Lib.hid hx
      have hsub : (bs bits).extract p (p + k'.width) = bs ((bits.drop p).take k'.width) := by rw [bs_ext, Nat.add_sub_cancel_left]
      have cN := fun wx => bitsN_any k.set.ord ((bs bits).extract p (p + k'.width)) wx HOR.out (by rw [hsub, bs_data]; exact (HIB.out.drop _).take _) (by rw [hsub, bs_size, List.length_take]; omega)
      have hnum : numL k.set.ord ((bs bits).extract p (p + k'.width)).data.toList = x := by rw [hsub, bs_data]; exact hx
      rw [hnum] at cN
      obtain ⟨m', rfl⟩ : ∃ m', m = m' + 1 := ⟨m - 1, by omega⟩
      have HSH := Lib.hid hsh
      have hxc := hok.c_bd
      have HOK := Lib.hid hok
      have hx0 := hxb.1
      have hxlt := hxb.2
      have hcan0 := fun wq hr => canI_any k' (.slice a' k'.ps.length c') (w.heap.size + 2) x wq hok hr hx0
      have htopl := (KnD.top_bd hok).1
      clear hsub hnum hx hlm hxb
      generalize hwe : k'.width = wd at *
      have HWE := Lib.hid hwe
      clear hok hwe
      simp only [kV] at *
      go_wp2_with ((go_at_call 100; (with_reducible refine (cWd _ (RdP.of_own HB.out.pr)).mono ?_); rintro e w3 ⟨rfl, U3⟩; have B3 := bcell U3; have Z3 := U3.size; (try simp at Z3); (try rw [Nat.add_one_le_iff] at Z3)); obtain ⟨hbr, r0, r1, r2, r3, r4, r5, r6, r7, r8, r9⟩ := (HB.out.upd U3).box.cells; have hfb := box_free (HB.out.upd U3).box)
      refine wp_region_up 13 (by kernel_rfl) (by kernel_rfl) ?_
      simp only [List.take, List.drop]
      repeat (refine wpUp_step (fun K hK => ?_); go_simp; (try simp only [↓IntWalk.iteOmega]); first
        | (refine hK _ _ ?_; clear hK K)
        | (apply stepU_c
           · intro wq hwq; (have hbq := bcell hwq; (repeat (first | refine fills_no (by rfl) ?_ | refine fills_yes (by rfl) (fun vq hvq => ?_))); simp only [List.filter_nil, fills]; unfold upAt; (try ((obtain ⟨hbr, r0, r1, r2, r3, r4, r5, r6, r7, r8, r9⟩ := ((HB.out.upd U3).upd hwq).box.cells; have hfb := box_free ((HB.out.upd U3).upd hwq).box; obtain ⟨hbk, s0, s1, s2, s3, s4, s5⟩ := (((HB.out.upd U3).upd hwq).kn0).cells))); go_simp; (try go_bits); (try simp only [↓IntWalk.iteOmega]); (try (rw [dif_pos (by omega)]; go_simp; try go_bits)); first | exact upOut_value | (apply upOut_call; (go_at_call 103; exact cN _)) | (apply upOut_eq; (go_at_call 103; exact cN _)))
           go_simp; refine hK _ _ ?_; clear hK K))
      refine wpUp_nil (fun wq hwq => ?_)
      simp only [fills]
      have HB4 := Lib.hid ((HB.out.upd U3).upd hwq)
      clear hwq U3 B3 Z3 HB cN cWd
      obtain ⟨hbr, r0, r1, r2, r3, r4, r5, r6, r7, r8, r9⟩ := (HB4.out).box.cells; have hfb := box_free (HB4.out).box
      go_wp2_with fail
      have hB7 := HB4.out.setP ((p : Int) + (wd : Int))
      have HB7 := Lib.hid hB7
      clear hB7
      generalize World.setCell wq ⟨rb, 9, none⟩ (.int .i64 ((p : Int) + (wd : Int))) = w7 at HB7 ⊢
      by_cases htp : x ≤ ((k'.top : Nat) : Int)
      · have hcan : decide (x ≤ ((k'.top : Nat) : Int)) = true := decide_eq_true htp
        simp only [hcan] at hcan0
        have HTP := Lib.hid htp
        clear hcan htp
        (with_reducible refine (hcan0 _ (RdP.of_own HB7.out.pr)).mono ?_)
        rintro e w8 ⟨rfl, U8⟩
        have HB8 := Lib.hid (HB7.out.upd U8)
        clear U8 HB7 hcan0
        obtain ⟨hbr, r0, r1, r2, r3, r4, r5, r6, r7, r8, r9⟩ := (HB8.out).box.cells; have hfb := box_free (HB8.out).box
        obtain ⟨hbq, q0, q1, q2, q3, q4, q5, q6, q7, q8, q9⟩ := RgAt.cells (k := ⟨⟨0, 0, 0⟩, [], 0, 0⟩) (HB8.out).res; have hfq := box_free (HB8.out).res
        by_cases hx1 : x = (clr k.set : Int) + 1
        · have HX1 : Hid (x = (k'.c : Int) + 1) := by unfold Hid; rw [hcc.out]; exact hx1
          have HR : Hid (T = ⟨k', cs ++ [x], d, 0, p + wd⟩) := by
            unfold Hid; rw [← HD.out.tot, readN_end (x := x) (by rw [HWE.out]; exact HX.out) (by rw [HWE.out]; exact HSH.out) HX1.out, HWE.out]
          have hx1e : (x == (clr k.set : Int) + 1) = true := by simpa using hx1
          clear hx1
          go_wp2_with ((at_builtin; refine wpList_append_own _ rfl _ _ 75 rfl (w.heap.size + 2) 3 i0 (.int .i64 0) 1 8 Tryz.underlying75 hi hz0 hz1 hz2 rfl (by decide) _ _ _ rfl (ownsRow_up (HB8.out).own (Up.alloc (Up.refl _) _)) ⟨w8.heap.size, 0, none⟩ 1 1 [.int .i64 x] rfl rfl (new_cells [.int .i64 x] _ rfl) (by intro u hu; simp at hu; subst hu; rfl) (by unfold maxLen; omega) (by omega) (by have := (HB8.out).kn0.cells.1; have := (HB8.out).res.cells.1; simp; omega) ?_; rintro v12 w12 hown12 hgr12 -; obtain ⟨a12, c12, rfl⟩ := ownsRow_shape hown12; have hg12 := ((HB8.out).upd (Up.alloc (Up.refl _) _)).grown ((HB8.out).upd (Up.alloc (Up.refl _) _)).own (Nat.le_refl _) (by decide) hgr12; have hb12 := ((HB8.out).upd (Up.alloc (Up.refl _) _)).putC hgr12 (ownI_snoc hown12); obtain ⟨hbr, r0, r1, r2, r3, r4, r5, r6, r7, r8, r9⟩ := (hg12).box.cells; have hfb := box_free (hg12).box; obtain ⟨hbq, q0, q1, q2, q3, q4, q5, q6, q7, q8, q9⟩ := RgAt.cells (k := ⟨⟨0, 0, 0⟩, [], 0, 0⟩) (hg12).res; have hfq := box_free (hg12).res; have HB12 := Lib.hid hb12; clear hb12 hown12 hgr12 hg12))
          have HFI := Lib.hid (HB12.out.setF 0)
          have HQI := Lib.hid (RgAt.store (HFI.out).res ((k')) (.slice a' k'.ps.length c') (.slice a12 (cs.length + 1) c12) (.slice ad d.length cd) (0) (((p : Int) + (wd : Int))))
          rw [show (World.setCell (World.setCell (World.setCell (World.setCell (World.setCell (World.setCell (World.setCell (World.setCell (World.setCell (World.setCell (World.setCell (World.setCell w12 ⟨rb, 6, none⟩ (.slice a12 (cs.length + 1) c12)) ⟨rb, 8, none⟩ (.int .i64 0)) ⟨w.heap.size + 1, 0, none⟩ (.int .i64 (k').set.ord)) ⟨w.heap.size + 1, 1, none⟩ (.int .i64 (k').set.lit)) ⟨w.heap.size + 1, 2, none⟩ (.int .i64 (k').set.most)) ⟨w.heap.size + 1, 3, none⟩ (.slice a' k'.ps.length c')) ⟨w.heap.size + 1, 4, none⟩ (.int .i64 (k').base)) ⟨w.heap.size + 1, 5, none⟩ (.int .i64 (k').last)) ⟨w.heap.size + 1, 6, none⟩ (.slice a12 (cs.length + 1) c12)) ⟨w.heap.size + 1, 7, none⟩ (.slice ad d.length cd)) ⟨w.heap.size + 1, 8, none⟩ (.int .i64 0)) ⟨w.heap.size + 1, 9, none⟩ (.int .i64 ((p : Int) + (wd : Int)))) = RgW (World.setCell (World.setCell w12 ⟨rb, 6, none⟩ (.slice a12 (cs.length + 1) c12)) ⟨rb, 8, none⟩ (.int .i64 0)) (w.heap.size + 1) ((k')) (.slice a' k'.ps.length c') (.slice a12 (cs.length + 1) c12) (.slice ad d.length cd) (0) (((p : Int) + (wd : Int))) from rfl]
          have HPO := Lib.hid (RcPost.of (p := p + wd) (by have h := HFI.out; rw [← Int.natCast_add] at h; exact h))
          obtain ⟨hbq, q0, q1, q2, q3, q4, q5, q6, q7, q8, q9⟩ := HQI.out.cells
          rw [HR.out]
          refine bodyPost_ret (v := rgV ((k')) (.slice a' k'.ps.length c') (.slice a12 (cs.length + 1) c12) (.slice ad d.length cd) (0) (((p : Int) + (wd : Int)))) (by simp [results, Tryz.results53, go_sem, q0, q1, q2, q3, q4, q5, q6, q7, q8, q9]) rfl ?_
          (have h := HPO.out; rw [Int.natCast_add] at h; exact h)
        · have HX1 : Hid (x ≠ (k'.c : Int) + 1) := by unfold Hid; rw [hcc.out]; exact hx1
          have hx1e : (x == (clr k.set : Int) + 1) = false := by simpa using hx1
          clear hx1
          by_cases hx2 : x = (clr k.set : Int)
          · have HX2 : Hid (x = (k'.c : Int)) := by unfold Hid; rw [hcc.out]; exact hx2
            have hx2e : (x == (clr k.set : Int)) = true := by simpa using hx2
            clear hx2
            have cAC := fun wq hB hp => advC_any k' (.slice a' k'.ps.length c') (w.heap.size + 2) 0 wq HOK.out hB hp
            rw [← HX2.out] at cAC
            simp only [kV] at cAC
            by_cases h5 : 3100 ≤ ct + (cs.length + 1)
            · have HR : Hid (T = ⟨k'.cleared, cs ++ [x], d, 3, p + wd⟩) := by
                unfold Hid; rw [← HD.out.tot, readN_clearL (x := x) (by rw [HWE.out]; exact HX.out) (by rw [HWE.out]; exact HSH.out) HX2.out h5, HWE.out]
              go_wp2_with fail
              (with_reducible refine (cAC _ (by have := HB8.out.res.cells.1; omega) HB8.out.pr).mono ?_)
              rintro e w9 ⟨v9, rfl, ho9, hF9⟩
              obtain ⟨a9, c9, rfl⟩ := ownsRow_shape ho9
              have hm9 := HB8.out.putK (fr_grown hF9) ho9
              have hg9 := HB8.out.grown HB8.out.pr (Nat.le_refl _) (by decide) (fr_grown hF9)
              obtain ⟨hbr, r0, r1, r2, r3, r4, r5, r6, r7, r8, r9⟩ := (hg9).box.cells; have hfb := box_free (hg9).box
              have HM9 := Lib.hid hm9
              clear hm9 hg9 ho9 hF9
              go_simp
              iterate 11 go_step
              rw [show (World.setCell (World.setCell (World.setCell (World.setCell (World.setCell (World.setCell w9 ⟨rb, 0, none⟩ (.int .i64 (k'.cleared).set.ord)) ⟨rb, 1, none⟩ (.int .i64 (k'.cleared).set.lit)) ⟨rb, 2, none⟩ (.int .i64 (k'.cleared).set.most)) ⟨rb, 3, none⟩ (.slice a9 k'.cleared.ps.length c9)) ⟨rb, 4, none⟩ (.int .i64 (k'.cleared).base)) ⟨rb, 5, none⟩ (.int .i64 (k'.cleared).last)) = KnW w9 rb k'.cleared (.slice a9 k'.cleared.ps.length c9) from rfl]
              generalize KnW w9 rb k'.cleared (.slice a9 k'.cleared.ps.length c9) = W9 at HM9 ⊢
              obtain ⟨hbr, r0, r1, r2, r3, r4, r5, r6, r7, r8, r9⟩ := (HM9.out).box.cells; have hfb := box_free (HM9.out).box
              go_wp2_with ((at_builtin; refine wpList_append_own _ rfl _ _ 75 rfl (w.heap.size + 2) 3 i0 (.int .i64 0) 1 8 Tryz.underlying75 hi hz0 hz1 hz2 rfl (by decide) _ _ _ rfl (ownsRow_up (HM9.out).own (Up.alloc (Up.refl _) _)) ⟨W9.heap.size, 0, none⟩ 1 1 [.int .i64 x] rfl rfl (new_cells [.int .i64 x] _ rfl) (by intro u hu; simp at hu; subst hu; rfl) (by unfold maxLen; omega) (by omega) (by have := (HM9.out).kn0.cells.1; have := (HM9.out).res.cells.1; simp; omega) ?_; rintro v12 w12 hown12 hgr12 -; obtain ⟨a12, c12, rfl⟩ := ownsRow_shape hown12; have hg12 := ((HM9.out).upd (Up.alloc (Up.refl _) _)).grown ((HM9.out).upd (Up.alloc (Up.refl _) _)).own (Nat.le_refl _) (by decide) hgr12; have hb12 := ((HM9.out).upd (Up.alloc (Up.refl _) _)).putC hgr12 (ownI_snoc hown12); obtain ⟨hbr, r0, r1, r2, r3, r4, r5, r6, r7, r8, r9⟩ := (hg12).box.cells; have hfb := box_free (hg12).box; obtain ⟨hbq, q0, q1, q2, q3, q4, q5, q6, q7, q8, q9⟩ := RgAt.cells (k := ⟨⟨0, 0, 0⟩, [], 0, 0⟩) (hg12).res; have hfq := box_free (hg12).res; have HB12 := Lib.hid hb12; clear hb12 hown12 hgr12 hg12))
              have HFI := Lib.hid (HB12.out.setF 3)
              have HQI := Lib.hid (RgAt.store (HFI.out).res ((k'.cleared)) (.slice a9 k'.cleared.ps.length c9) (.slice a12 (cs.length + 1) c12) (.slice ad d.length cd) (3) (((p : Int) + (wd : Int))))
              rw [show (World.setCell (World.setCell (World.setCell (World.setCell (World.setCell (World.setCell (World.setCell (World.setCell (World.setCell (World.setCell (World.setCell (World.setCell w12 ⟨rb, 6, none⟩ (.slice a12 (cs.length + 1) c12)) ⟨rb, 8, none⟩ (.int .i64 3)) ⟨w.heap.size + 1, 0, none⟩ (.int .i64 (k'.cleared).set.ord)) ⟨w.heap.size + 1, 1, none⟩ (.int .i64 (k'.cleared).set.lit)) ⟨w.heap.size + 1, 2, none⟩ (.int .i64 (k'.cleared).set.most)) ⟨w.heap.size + 1, 3, none⟩ (.slice a9 k'.cleared.ps.length c9)) ⟨w.heap.size + 1, 4, none⟩ (.int .i64 (k'.cleared).base)) ⟨w.heap.size + 1, 5, none⟩ (.int .i64 (k'.cleared).last)) ⟨w.heap.size + 1, 6, none⟩ (.slice a12 (cs.length + 1) c12)) ⟨w.heap.size + 1, 7, none⟩ (.slice ad d.length cd)) ⟨w.heap.size + 1, 8, none⟩ (.int .i64 3)) ⟨w.heap.size + 1, 9, none⟩ (.int .i64 ((p : Int) + (wd : Int)))) = RgW (World.setCell (World.setCell w12 ⟨rb, 6, none⟩ (.slice a12 (cs.length + 1) c12)) ⟨rb, 8, none⟩ (.int .i64 3)) (w.heap.size + 1) ((k'.cleared)) (.slice a9 k'.cleared.ps.length c9) (.slice a12 (cs.length + 1) c12) (.slice ad d.length cd) (3) (((p : Int) + (wd : Int))) from rfl]
              have HPO := Lib.hid (RcPost.of (p := p + wd) (by have h := HFI.out; rw [← Int.natCast_add] at h; exact h))
              obtain ⟨hbq, q0, q1, q2, q3, q4, q5, q6, q7, q8, q9⟩ := HQI.out.cells
              rw [HR.out]
              refine bodyPost_ret (v := rgV ((k'.cleared)) (.slice a9 k'.cleared.ps.length c9) (.slice a12 (cs.length + 1) c12) (.slice ad d.length cd) (3) (((p : Int) + (wd : Int)))) (by simp [results, Tryz.results53, go_sem, q0, q1, q2, q3, q4, q5, q6, q7, q8, q9]) rfl ?_
              (have h := HPO.out; rw [Int.natCast_add] at h; exact h)
            · have HR : Hid (readN k.set.ord bits sz ct m' (k'.cleared) (p + wd) (cs ++ [x]) (d) = T) := by
                unfold Hid; rw [← HD.out.tot, readN_clear (x := x) (by rw [HWE.out]; exact HX.out) (by rw [HWE.out]; exact HSH.out) HX2.out h5, HWE.out]
              have HI := Lib.hid (by have := HD.out.inv.clear (by rw [HWE.out]; exact HSH.out); rw [HWE.out, ← HX2.out] at this; exact this)
              have hlm := HD.out.len
              go_wp2_with fail
              (with_reducible refine (cAC _ (by have := HB8.out.res.cells.1; omega) HB8.out.pr).mono ?_)
              rintro e w9 ⟨v9, rfl, ho9, hF9⟩
              obtain ⟨a9, c9, rfl⟩ := ownsRow_shape ho9
              have hm9 := HB8.out.putK (fr_grown hF9) ho9
              have hg9 := HB8.out.grown HB8.out.pr (Nat.le_refl _) (by decide) (fr_grown hF9)
              obtain ⟨hbr, r0, r1, r2, r3, r4, r5, r6, r7, r8, r9⟩ := (hg9).box.cells; have hfb := box_free (hg9).box
              have HM9 := Lib.hid hm9
              clear hm9 hg9 ho9 hF9
              go_simp
              iterate 11 go_step
              rw [show (World.setCell (World.setCell (World.setCell (World.setCell (World.setCell (World.setCell w9 ⟨rb, 0, none⟩ (.int .i64 (k'.cleared).set.ord)) ⟨rb, 1, none⟩ (.int .i64 (k'.cleared).set.lit)) ⟨rb, 2, none⟩ (.int .i64 (k'.cleared).set.most)) ⟨rb, 3, none⟩ (.slice a9 k'.cleared.ps.length c9)) ⟨rb, 4, none⟩ (.int .i64 (k'.cleared).base)) ⟨rb, 5, none⟩ (.int .i64 (k'.cleared).last)) = KnW w9 rb k'.cleared (.slice a9 k'.cleared.ps.length c9) from rfl]
              generalize KnW w9 rb k'.cleared (.slice a9 k'.cleared.ps.length c9) = W9 at HM9 ⊢
              obtain ⟨hbr, r0, r1, r2, r3, r4, r5, r6, r7, r8, r9⟩ := (HM9.out).box.cells; have hfb := box_free (HM9.out).box
              go_wp2_with ((at_builtin; refine wpList_append_own _ rfl _ _ 75 rfl (w.heap.size + 2) 3 i0 (.int .i64 0) 1 8 Tryz.underlying75 hi hz0 hz1 hz2 rfl (by decide) _ _ _ rfl (ownsRow_up (HM9.out).own (Up.alloc (Up.refl _) _)) ⟨W9.heap.size, 0, none⟩ 1 1 [.int .i64 x] rfl rfl (new_cells [.int .i64 x] _ rfl) (by intro u hu; simp at hu; subst hu; rfl) (by unfold maxLen; omega) (by omega) (by have := (HM9.out).kn0.cells.1; have := (HM9.out).res.cells.1; simp; omega) ?_; rintro v12 w12 hown12 hgr12 -; obtain ⟨a12, c12, rfl⟩ := ownsRow_shape hown12; have hg12 := ((HM9.out).upd (Up.alloc (Up.refl _) _)).grown ((HM9.out).upd (Up.alloc (Up.refl _) _)).own (Nat.le_refl _) (by decide) hgr12; have hb12 := ((HM9.out).upd (Up.alloc (Up.refl _) _)).putC hgr12 (ownI_snoc hown12); obtain ⟨hbr, r0, r1, r2, r3, r4, r5, r6, r7, r8, r9⟩ := (hg12).box.cells; have hfb := box_free (hg12).box; obtain ⟨hbq, q0, q1, q2, q3, q4, q5, q6, q7, q8, q9⟩ := RgAt.cells (k := ⟨⟨0, 0, 0⟩, [], 0, 0⟩) (hg12).res; have hfq := box_free (hg12).res; have HB12 := Lib.hid hb12; clear hb12 hown12 hgr12 hg12))
              have hlen9 : posOf rb wr = p := by rw [posOf_box HB0.out.box]; simp
              have HS12 : Hid (RcB w k (.slice a k.ps.length cap) rb (k'.cleared) (.slice a9 k'.cleared.ps.length c9) (cs ++ [x]) (.slice a12 (cs.length + 1) c12) (d) (.slice ad d.length cd) 1 ((p + wd : Nat) : Int) (World.setCell w12 ⟨rb, 6, none⟩ (.slice a12 (cs.length + 1) c12))) := by
                have := HB12.out
                rw [← Int.natCast_add] at this
                exact this
              have hpos9 := posOf_box HS12.out.box
              generalize World.setCell w12 ⟨rb, 6, none⟩ (.slice a12 (cs.length + 1) c12) = W12 at HS12 hpos9 ⊢
              go_roundw
              case rel => exact ⟨k'.cleared, _, _, _, p + wd, m', cs ++ [x], d, ⟨HI.out, HR.out, by omega, by simp; omega⟩, HS12.out⟩
              case measure => rw [hlen9, hpos9]; simp; omega
          · have HX2 : Hid (x ≠ (k'.c : Int)) := by unfold Hid; rw [hcc.out]; exact hx2
            have hx2e : (x == (clr k.set : Int)) = false := by simpa using hx2
            clear hx2
            have hf := top_follows HOK.out hx0 HTP.out HX1.out HX2.out
            have HF := Lib.hid hf
            have cWJ := fun wq hr => wordJ_any k' (.slice a' k'.ps.length c') (w.heap.size + 2) x wq HOK.out hr hf
            have cAW := fun wq hB hp => advW_any k' (.slice a' k'.ps.length c') (w.heap.size + 2) x wq HOK.out hB hp hf HX2.out
            have hwp := KnD.any_pos HOK.out hf
            have hwl1 := KnD.any_len HOK.out hf
            have HFX : Hid (∀ h, (((bs (k'.any x))[0]'h).toNat : Int) = k'.first x) := fun h => by rw [bs_get0]; rfl
            have hfb9 := KnD.first_bd HOK.out hf
            have hsz := bs_size (k'.any x)
            clear hf
            simp only [kV] at cWJ cAW
            by_cases h4 : 2000 < sz + d.length + (k'.any x).length
            · have HR : Hid (T = ⟨k', cs, d, 3, p + wd⟩) := by
                unfold Hid; rw [← HD.out.tot, readN_long (x := x) (by rw [HWE.out]; exact HX.out) (by rw [HWE.out]; exact HSH.out) HX1.out HX2.out HF.out h4, HWE.out]
              generalize k'.any x = wl at *
              go_wp2_with ((go_at_call 106; (with_reducible refine (cWJ _ (RdP.of_own HB8.out.pr)).mono ?_); rintro e w9 ⟨rfl, U9⟩; have B9 := bcell U9; have Z9 := U9.size; (try simp at Z9); (try rw [Nat.add_one_le_iff] at Z9)); obtain ⟨hbr, r0, r1, r2, r3, r4, r5, r6, r7, r8, r9⟩ := (HB8.out.upd U9).box.cells; have hfb := box_free (HB8.out.upd U9).box; obtain ⟨hbq, q0, q1, q2, q3, q4, q5, q6, q7, q8, q9⟩ := RgAt.cells (k := ⟨⟨0, 0, 0⟩, [], 0, 0⟩) (HB8.out.upd U9).res; have hfq := box_free (HB8.out.upd U9).res)
              have HFI := Lib.hid ((HB8.out.upd U9).setF 3)
              have HQI := Lib.hid (RgAt.store (HFI.out).res ((k')) (.slice a' k'.ps.length c') (.slice aw cs.length cw) (.slice ad d.length cd) (3) (((p : Int) + (wd : Int))))
              rw [show (World.setCell (World.setCell (World.setCell (World.setCell (World.setCell (World.setCell (World.setCell (World.setCell (World.setCell (World.setCell (World.setCell w9 ⟨rb, 8, none⟩ (.int .i64 3)) ⟨w.heap.size + 1, 0, none⟩ (.int .i64 (k').set.ord)) ⟨w.heap.size + 1, 1, none⟩ (.int .i64 (k').set.lit)) ⟨w.heap.size + 1, 2, none⟩ (.int .i64 (k').set.most)) ⟨w.heap.size + 1, 3, none⟩ (.slice a' k'.ps.length c')) ⟨w.heap.size + 1, 4, none⟩ (.int .i64 (k').base)) ⟨w.heap.size + 1, 5, none⟩ (.int .i64 (k').last)) ⟨w.heap.size + 1, 6, none⟩ (.slice aw cs.length cw)) ⟨w.heap.size + 1, 7, none⟩ (.slice ad d.length cd)) ⟨w.heap.size + 1, 8, none⟩ (.int .i64 3)) ⟨w.heap.size + 1, 9, none⟩ (.int .i64 ((p : Int) + (wd : Int)))) = RgW (World.setCell w9 ⟨rb, 8, none⟩ (.int .i64 3)) (w.heap.size + 1) ((k')) (.slice a' k'.ps.length c') (.slice aw cs.length cw) (.slice ad d.length cd) (3) (((p : Int) + (wd : Int))) from rfl]
              have HPO := Lib.hid (RcPost.of (p := p + wd) (by have h := HFI.out; rw [← Int.natCast_add] at h; exact h))
              obtain ⟨hbq, q0, q1, q2, q3, q4, q5, q6, q7, q8, q9⟩ := HQI.out.cells
              rw [HR.out]
              refine bodyPost_ret (v := rgV ((k')) (.slice a' k'.ps.length c') (.slice aw cs.length cw) (.slice ad d.length cd) (3) (((p : Int) + (wd : Int)))) (by simp [results, Tryz.results53, go_sem, q0, q1, q2, q3, q4, q5, q6, q7, q8, q9]) rfl ?_
              (have h := HPO.out; rw [Int.natCast_add] at h; exact h)
            · have H4 := Lib.hid h4
              generalize hwl : k'.any x = wl at *
              have HWL := Lib.hid hwl
              clear hwl
              have hfx := HFX.out (by rw [bs_size]; omega)
              by_cases h5 : 3100 ≤ ct + (cs.length + 1)
              · have HR : Hid (T = ⟨k'.after x, cs ++ [x], d ++ wl, 3, p + wd⟩) := by
                  unfold Hid; rw [← HD.out.tot, readN_wordL (x := x) (by rw [HWE.out]; exact HX.out) (by rw [HWE.out]; exact HSH.out) HX1.out HX2.out HF.out (by rw [HWL.out]; exact H4.out) h5, HWE.out, HWL.out]
                go_wp2_with (first | ((go_at_call 106; (with_reducible refine (cWJ _ (RdP.of_own HB8.out.pr)).mono ?_); rintro e w9 ⟨rfl, U9⟩; have B9 := bcell U9; have Z9 := U9.size; (try simp at Z9); (try rw [Nat.add_one_le_iff] at Z9)); obtain ⟨hbr, r0, r1, r2, r3, r4, r5, r6, r7, r8, r9⟩ := (HB8.out.upd U9).box.cells; have hfb := box_free (HB8.out.upd U9).box) | (at_builtin; refine wpList_append_str rfl _ _ rfl (w.heap.size + 2) _ d wl rfl (HB8.out.upd U9).dat rfl (by omega) (by omega) (by have := (HB8.out.upd U9).res.cells.1; omega) ?_; rintro v10 w10 ho10 hg10; obtain ⟨a10, c10, rfl⟩ := ownsRow_shape (ownsRow_n2 (n' := d.length + wl.length) ho10 (by simp)); have hG10 := (HB8.out.upd U9).grown (HB8.out.upd U9).dat (Nat.le_refl _) (by decide) hg10; have hb10 := (HB8.out.upd U9).putD hg10 ho10; obtain ⟨hbr, r0, r1, r2, r3, r4, r5, r6, r7, r8, r9⟩ := (hG10).box.cells; have hfb := box_free (hG10).box; have HB10 := Lib.hid hb10; clear hb10 ho10 hg10 hG10))
                have HB10' := HB10
                generalize World.setCell w10 ⟨rb, 7, none⟩ (.slice a10 (d.length + wl.length) c10) = W10 at HB10' ⊢
                obtain ⟨hbr, r0, r1, r2, r3, r4, r5, r6, r7, r8, r9⟩ := (HB10'.out).box.cells; have hfb := box_free (HB10'.out).box
                refine wp_region_ownf 7 5 (Value.ownBlock (.slice a' k'.ps.length c')) (by kernel_rfl) (by kernel_rfl) ?_
                simp only [List.take, List.drop]
                repeat (refine wpG_step (fun K hK => ?_); go_simp; (try simp only [↓IntWalk.iteOmega]); first
                  | (refine hK _ _ ?_; clear hK K)
                  | (refine stepG_own (by rfl) (by kernel_rfl) ((fun u w' => ∃ vv, u = kV (k'.after x) vv ∧ ownPr w' (w.heap.size + 2) vv (k'.after x).ps)) ((fun v w w' ⟨vv, h1, h2⟩ hu => ⟨vv, h1, ownsRow_up h2 hu⟩)) (fun wq hwq => ?_) ?_
                     · ((repeat (first | refine fills_no (by rfl) ?_ | refine fills_yes (by rfl) (fun vq hvq => ?_))); simp only [List.filter_nil, fills]; (unfold gAt; go_simp; (try rw [hfx]); (with_reducible apply gOut_adv); go_at_call 105; exact cAW _ (by have := (HB10'.out.upd hwq).res.cells.1; omega) (HB10'.out.upd hwq).pr))
                     refine hK _ _ ?_; clear hK K)
                  | (refine stepG_c (by rfl) ?_ ?_ ?_
                     rotate_left
                     · intro wq hwq; (have hbq := gcell hwq; (repeat (first | refine fills_no (by rfl) ?_ | refine fills_yes (by rfl) (fun vq hvq => ?_))); simp only [List.filter_nil, fills]; unfold upAt; (try ((have hG11 := HB10'.out.grown HB10'.out.pr (Nat.le_refl _) (by decide) hwq; obtain ⟨hbr, r0, r1, r2, r3, r4, r5, r6, r7, r8, r9⟩ := (hG11).box.cells; have hfb := box_free (hG11).box))); go_simp; (try go_bits); (try simp only [↓IntWalk.iteOmega]); (try (rw [dif_pos (by omega)]; go_simp; try go_bits)); first | exact upOut_value)
                     go_simp; refine hK _ _ ?_; clear hK K))
                refine wpG_nil (by rfl) (fun wq hwq => ?_)
                simp only [fills]
                rintro u ⟨vv, rfl, ho11⟩
                obtain ⟨a11, c11, rfl⟩ := ownsRow_shape ho11
                have hG11 := HB10'.out.grown HB10'.out.pr (Nat.le_refl _) (by decide) hwq
                have HM11 := Lib.hid (HB10'.out.putK hwq ho11)
                obtain ⟨hbr, r0, r1, r2, r3, r4, r5, r6, r7, r8, r9⟩ := (hG11).box.cells; have hfb := box_free (hG11).box
                clear ho11 hwq hG11
                go_wp2
                rw [onlyN_normal]
                rw [show (World.setCell (World.setCell (World.setCell (World.setCell (World.setCell (World.setCell wq ⟨rb, 0, none⟩ (.int .i64 (k'.after x).set.ord)) ⟨rb, 1, none⟩ (.int .i64 (k'.after x).set.lit)) ⟨rb, 2, none⟩ (.int .i64 (k'.after x).set.most)) ⟨rb, 3, none⟩ (.slice a11 (k'.after x).ps.length c11)) ⟨rb, 4, none⟩ (.int .i64 (k'.after x).base)) ⟨rb, 5, none⟩ (.int .i64 (k'.after x).last)) = KnW wq rb (k'.after x) (.slice a11 (k'.after x).ps.length c11) from rfl]
                generalize KnW wq rb (k'.after x) (.slice a11 (k'.after x).ps.length c11) = W11 at HM11 ⊢
                obtain ⟨hbr, r0, r1, r2, r3, r4, r5, r6, r7, r8, r9⟩ := (HM11.out).box.cells; have hfb := box_free (HM11.out).box
                go_wp2_with ((at_builtin; refine wpList_append_own _ rfl _ _ 75 rfl (w.heap.size + 2) 3 i0 (.int .i64 0) 1 8 Tryz.underlying75 hi hz0 hz1 hz2 rfl (by decide) _ _ _ rfl (ownsRow_up (HM11.out).own (Up.alloc (Up.refl _) _)) ⟨W11.heap.size, 0, none⟩ 1 1 [.int .i64 x] rfl rfl (new_cells [.int .i64 x] _ rfl) (by intro u hu; simp at hu; subst hu; rfl) (by unfold maxLen; omega) (by omega) (by have := (HM11.out).kn0.cells.1; have := (HM11.out).res.cells.1; simp; omega) ?_; rintro v12 w12 hown12 hgr12 -; obtain ⟨a12, c12, rfl⟩ := ownsRow_shape hown12; have hg12 := ((HM11.out).upd (Up.alloc (Up.refl _) _)).grown ((HM11.out).upd (Up.alloc (Up.refl _) _)).own (Nat.le_refl _) (by decide) hgr12; have hb12 := ((HM11.out).upd (Up.alloc (Up.refl _) _)).putC hgr12 (ownI_snoc hown12); obtain ⟨hbr, r0, r1, r2, r3, r4, r5, r6, r7, r8, r9⟩ := (hg12).box.cells; have hfb := box_free (hg12).box; obtain ⟨hbq, q0, q1, q2, q3, q4, q5, q6, q7, q8, q9⟩ := RgAt.cells (k := ⟨⟨0, 0, 0⟩, [], 0, 0⟩) (hg12).res; have hfq := box_free (hg12).res; have HB12 := Lib.hid hb12; clear hb12 hown12 hgr12 hg12))
                have HFI := Lib.hid (HB12.out.setF 3)
                have HQI := Lib.hid (RgAt.store (HFI.out).res ((k'.after x)) (.slice a11 (k'.after x).ps.length c11) (.slice a12 (cs.length + 1) c12) (.slice a10 (d.length + wl.length) c10) (3) (((p : Int) + (wd : Int))))
                rw [show (World.setCell (World.setCell (World.setCell (World.setCell (World.setCell (World.setCell (World.setCell (World.setCell (World.setCell (World.setCell (World.setCell (World.setCell w12 ⟨rb, 6, none⟩ (.slice a12 (cs.length + 1) c12)) ⟨rb, 8, none⟩ (.int .i64 3)) ⟨w.heap.size + 1, 0, none⟩ (.int .i64 (k'.after x).set.ord)) ⟨w.heap.size + 1, 1, none⟩ (.int .i64 (k'.after x).set.lit)) ⟨w.heap.size + 1, 2, none⟩ (.int .i64 (k'.after x).set.most)) ⟨w.heap.size + 1, 3, none⟩ (.slice a11 (k'.after x).ps.length c11)) ⟨w.heap.size + 1, 4, none⟩ (.int .i64 (k'.after x).base)) ⟨w.heap.size + 1, 5, none⟩ (.int .i64 (k'.after x).last)) ⟨w.heap.size + 1, 6, none⟩ (.slice a12 (cs.length + 1) c12)) ⟨w.heap.size + 1, 7, none⟩ (.slice a10 (d.length + wl.length) c10)) ⟨w.heap.size + 1, 8, none⟩ (.int .i64 3)) ⟨w.heap.size + 1, 9, none⟩ (.int .i64 ((p : Int) + (wd : Int)))) = RgW (World.setCell (World.setCell w12 ⟨rb, 6, none⟩ (.slice a12 (cs.length + 1) c12)) ⟨rb, 8, none⟩ (.int .i64 3)) (w.heap.size + 1) ((k'.after x)) (.slice a11 (k'.after x).ps.length c11) (.slice a12 (cs.length + 1) c12) (.slice a10 (d.length + wl.length) c10) (3) (((p : Int) + (wd : Int))) from rfl]
                have HPO := Lib.hid (RcPost.of (p := p + wd) (by have h := HFI.out; rw [← Int.natCast_add] at h; exact h))
                obtain ⟨hbq, q0, q1, q2, q3, q4, q5, q6, q7, q8, q9⟩ := HQI.out.cells
                rw [HR.out]
                refine bodyPost_ret (v := rgV ((k'.after x)) (.slice a11 (k'.after x).ps.length c11) (.slice a12 (cs.length + 1) c12) (.slice a10 (d.length + wl.length) c10) (3) (((p : Int) + (wd : Int)))) (by simp [results, Tryz.results53, go_sem, q0, q1, q2, q3, q4, q5, q6, q7, q8, q9]) rfl ?_
                (have h := HPO.out; rw [Int.natCast_add] at h; exact h)
              · have HR : Hid (readN k.set.ord bits sz ct m' (k'.after x) (p + wd) (cs ++ [x]) (d ++ wl) = T) := by
                  unfold Hid; rw [← HD.out.tot, readN_word (x := x) (by rw [HWE.out]; exact HX.out) (by rw [HWE.out]; exact HSH.out) HX1.out HX2.out HF.out (by rw [HWL.out]; exact H4.out) h5, HWE.out, HWL.out]
                have HI := Lib.hid (by have := HD.out.inv.word (by rw [HWE.out]; exact HSH.out) HX1.out HX2.out HF.out (by rw [HWL.out]; exact H4.out); rw [HWE.out, HWL.out] at this; exact this)
                have hlm := HD.out.len
                go_wp2_with (first | ((go_at_call 106; (with_reducible refine (cWJ _ (RdP.of_own HB8.out.pr)).mono ?_); rintro e w9 ⟨rfl, U9⟩; have B9 := bcell U9; have Z9 := U9.size; (try simp at Z9); (try rw [Nat.add_one_le_iff] at Z9)); obtain ⟨hbr, r0, r1, r2, r3, r4, r5, r6, r7, r8, r9⟩ := (HB8.out.upd U9).box.cells; have hfb := box_free (HB8.out.upd U9).box) | (at_builtin; refine wpList_append_str rfl _ _ rfl (w.heap.size + 2) _ d wl rfl (HB8.out.upd U9).dat rfl (by omega) (by omega) (by have := (HB8.out.upd U9).res.cells.1; omega) ?_; rintro v10 w10 ho10 hg10; obtain ⟨a10, c10, rfl⟩ := ownsRow_shape (ownsRow_n2 (n' := d.length + wl.length) ho10 (by simp)); have hG10 := (HB8.out.upd U9).grown (HB8.out.upd U9).dat (Nat.le_refl _) (by decide) hg10; have hb10 := (HB8.out.upd U9).putD hg10 ho10; obtain ⟨hbr, r0, r1, r2, r3, r4, r5, r6, r7, r8, r9⟩ := (hG10).box.cells; have hfb := box_free (hG10).box; have HB10 := Lib.hid hb10; clear hb10 ho10 hg10 hG10))
                have HB10' := HB10
                generalize World.setCell w10 ⟨rb, 7, none⟩ (.slice a10 (d.length + wl.length) c10) = W10 at HB10' ⊢
                obtain ⟨hbr, r0, r1, r2, r3, r4, r5, r6, r7, r8, r9⟩ := (HB10'.out).box.cells; have hfb := box_free (HB10'.out).box
                refine wp_region_ownf 7 5 (Value.ownBlock (.slice a' k'.ps.length c')) (by kernel_rfl) (by kernel_rfl) ?_
                simp only [List.take, List.drop]
                repeat (refine wpG_step (fun K hK => ?_); go_simp; (try simp only [↓IntWalk.iteOmega]); first
                  | (refine hK _ _ ?_; clear hK K)
                  | (refine stepG_own (by rfl) (by kernel_rfl) ((fun u w' => ∃ vv, u = kV (k'.after x) vv ∧ ownPr w' (w.heap.size + 2) vv (k'.after x).ps)) ((fun v w w' ⟨vv, h1, h2⟩ hu => ⟨vv, h1, ownsRow_up h2 hu⟩)) (fun wq hwq => ?_) ?_
                     · ((repeat (first | refine fills_no (by rfl) ?_ | refine fills_yes (by rfl) (fun vq hvq => ?_))); simp only [List.filter_nil, fills]; (unfold gAt; go_simp; (try rw [hfx]); (with_reducible apply gOut_adv); go_at_call 105; exact cAW _ (by have := (HB10'.out.upd hwq).res.cells.1; omega) (HB10'.out.upd hwq).pr))
                     refine hK _ _ ?_; clear hK K)
                  | (refine stepG_c (by rfl) ?_ ?_ ?_
                     rotate_left
                     · intro wq hwq; (have hbq := gcell hwq; (repeat (first | refine fills_no (by rfl) ?_ | refine fills_yes (by rfl) (fun vq hvq => ?_))); simp only [List.filter_nil, fills]; unfold upAt; (try ((have hG11 := HB10'.out.grown HB10'.out.pr (Nat.le_refl _) (by decide) hwq; obtain ⟨hbr, r0, r1, r2, r3, r4, r5, r6, r7, r8, r9⟩ := (hG11).box.cells; have hfb := box_free (hG11).box))); go_simp; (try go_bits); (try simp only [↓IntWalk.iteOmega]); (try (rw [dif_pos (by omega)]; go_simp; try go_bits)); first | exact upOut_value)
                     go_simp; refine hK _ _ ?_; clear hK K))
                refine wpG_nil (by rfl) (fun wq hwq => ?_)
                simp only [fills]
                rintro u ⟨vv, rfl, ho11⟩
                obtain ⟨a11, c11, rfl⟩ := ownsRow_shape ho11
                have hG11 := HB10'.out.grown HB10'.out.pr (Nat.le_refl _) (by decide) hwq
                have HM11 := Lib.hid (HB10'.out.putK hwq ho11)
                obtain ⟨hbr, r0, r1, r2, r3, r4, r5, r6, r7, r8, r9⟩ := (hG11).box.cells; have hfb := box_free (hG11).box
                clear ho11 hwq hG11
                go_wp2
                rw [onlyN_normal]
                rw [show (World.setCell (World.setCell (World.setCell (World.setCell (World.setCell (World.setCell wq ⟨rb, 0, none⟩ (.int .i64 (k'.after x).set.ord)) ⟨rb, 1, none⟩ (.int .i64 (k'.after x).set.lit)) ⟨rb, 2, none⟩ (.int .i64 (k'.after x).set.most)) ⟨rb, 3, none⟩ (.slice a11 (k'.after x).ps.length c11)) ⟨rb, 4, none⟩ (.int .i64 (k'.after x).base)) ⟨rb, 5, none⟩ (.int .i64 (k'.after x).last)) = KnW wq rb (k'.after x) (.slice a11 (k'.after x).ps.length c11) from rfl]
                generalize KnW wq rb (k'.after x) (.slice a11 (k'.after x).ps.length c11) = W11 at HM11 ⊢
                obtain ⟨hbr, r0, r1, r2, r3, r4, r5, r6, r7, r8, r9⟩ := (HM11.out).box.cells; have hfb := box_free (HM11.out).box
                go_wp2_with ((at_builtin; refine wpList_append_own _ rfl _ _ 75 rfl (w.heap.size + 2) 3 i0 (.int .i64 0) 1 8 Tryz.underlying75 hi hz0 hz1 hz2 rfl (by decide) _ _ _ rfl (ownsRow_up (HM11.out).own (Up.alloc (Up.refl _) _)) ⟨W11.heap.size, 0, none⟩ 1 1 [.int .i64 x] rfl rfl (new_cells [.int .i64 x] _ rfl) (by intro u hu; simp at hu; subst hu; rfl) (by unfold maxLen; omega) (by omega) (by have := (HM11.out).kn0.cells.1; have := (HM11.out).res.cells.1; simp; omega) ?_; rintro v12 w12 hown12 hgr12 -; obtain ⟨a12, c12, rfl⟩ := ownsRow_shape hown12; have hg12 := ((HM11.out).upd (Up.alloc (Up.refl _) _)).grown ((HM11.out).upd (Up.alloc (Up.refl _) _)).own (Nat.le_refl _) (by decide) hgr12; have hb12 := ((HM11.out).upd (Up.alloc (Up.refl _) _)).putC hgr12 (ownI_snoc hown12); obtain ⟨hbr, r0, r1, r2, r3, r4, r5, r6, r7, r8, r9⟩ := (hg12).box.cells; have hfb := box_free (hg12).box; obtain ⟨hbq, q0, q1, q2, q3, q4, q5, q6, q7, q8, q9⟩ := RgAt.cells (k := ⟨⟨0, 0, 0⟩, [], 0, 0⟩) (hg12).res; have hfq := box_free (hg12).res; have HB12 := Lib.hid hb12; clear hb12 hown12 hgr12 hg12))
                have hlen9 : posOf rb wr = p := by rw [posOf_box HB0.out.box]; simp
                have HS12 : Hid (RcB w k (.slice a k.ps.length cap) rb (k'.after x) (.slice a11 (k'.after x).ps.length c11) (cs ++ [x]) (.slice a12 (cs.length + 1) c12) (d ++ wl) (.slice a10 (d.length + wl.length) c10) 1 ((p + wd : Nat) : Int) (World.setCell w12 ⟨rb, 6, none⟩ (.slice a12 (cs.length + 1) c12))) := by
                  have := HB12.out
                  rw [← Int.natCast_add] at this
                  exact this
                have hpos9 := posOf_box HS12.out.box
                generalize World.setCell w12 ⟨rb, 6, none⟩ (.slice a12 (cs.length + 1) c12) = W12 at HS12 hpos9 ⊢
                go_roundw
                case rel => exact ⟨k'.after x, _, _, _, p + wd, m', cs ++ [x], d ++ wl, ⟨HI.out, HR.out, by omega, by simp; omega⟩, HS12.out⟩
                case measure => rw [hlen9, hpos9]; simp; omega
      · have hcan : decide (x ≤ ((k'.top : Nat) : Int)) = false := decide_eq_false htp
        simp only [hcan] at hcan0
        obtain ⟨t1, t2, t3⟩ := follows_top HOK.out htp
        have HR : Hid (T = ⟨k', cs, d, 2, p + wd⟩) := by
          unfold Hid; rw [← HD.out.tot, readN_wrong (x := x) (by rw [HWE.out]; exact HX.out) (by rw [HWE.out]; exact HSH.out) t1 t2 t3, HWE.out]
        clear hcan htp t1 t2 t3
        (with_reducible refine (hcan0 _ (RdP.of_own HB7.out.pr)).mono ?_)
        rintro e w8 ⟨rfl, U8⟩
        have HB8 := Lib.hid (HB7.out.upd U8)
        clear U8 HB7 hcan0
        obtain ⟨hbr, r0, r1, r2, r3, r4, r5, r6, r7, r8, r9⟩ := (HB8.out).box.cells; have hfb := box_free (HB8.out).box
        obtain ⟨hbq, q0, q1, q2, q3, q4, q5, q6, q7, q8, q9⟩ := RgAt.cells (k := ⟨⟨0, 0, 0⟩, [], 0, 0⟩) (HB8.out).res; have hfq := box_free (HB8.out).res
        go_wp2
        have HFI := Lib.hid (HB8.out.setF 2)
        have HQI := Lib.hid (RgAt.store (HFI.out).res ((k')) (.slice a' k'.ps.length c') (.slice aw cs.length cw) (.slice ad d.length cd) (2) (((p : Int) + (wd : Int))))
        rw [show (World.setCell (World.setCell (World.setCell (World.setCell (World.setCell (World.setCell (World.setCell (World.setCell (World.setCell (World.setCell (World.setCell w8 ⟨rb, 8, none⟩ (.int .i64 2)) ⟨w.heap.size + 1, 0, none⟩ (.int .i64 (k').set.ord)) ⟨w.heap.size + 1, 1, none⟩ (.int .i64 (k').set.lit)) ⟨w.heap.size + 1, 2, none⟩ (.int .i64 (k').set.most)) ⟨w.heap.size + 1, 3, none⟩ (.slice a' k'.ps.length c')) ⟨w.heap.size + 1, 4, none⟩ (.int .i64 (k').base)) ⟨w.heap.size + 1, 5, none⟩ (.int .i64 (k').last)) ⟨w.heap.size + 1, 6, none⟩ (.slice aw cs.length cw)) ⟨w.heap.size + 1, 7, none⟩ (.slice ad d.length cd)) ⟨w.heap.size + 1, 8, none⟩ (.int .i64 2)) ⟨w.heap.size + 1, 9, none⟩ (.int .i64 ((p : Int) + (wd : Int)))) = RgW (World.setCell w8 ⟨rb, 8, none⟩ (.int .i64 2)) (w.heap.size + 1) ((k')) (.slice a' k'.ps.length c') (.slice aw cs.length cw) (.slice ad d.length cd) (2) (((p : Int) + (wd : Int))) from rfl]
        have HPO := Lib.hid (RcPost.of (p := p + wd) (by have h := HFI.out; rw [← Int.natCast_add] at h; exact h))
        obtain ⟨hbq, q0, q1, q2, q3, q4, q5, q6, q7, q8, q9⟩ := HQI.out.cells
        rw [HR.out]
        refine bodyPost_ret (v := rgV ((k')) (.slice a' k'.ps.length c') (.slice aw cs.length cw) (.slice ad d.length cd) (2) (((p : Int) + (wd : Int)))) (by simp [results, Tryz.results53, go_sem, q0, q1, q2, q3, q4, q5, q6, q7, q8, q9]) rfl ?_
        (have h := HPO.out; rw [Int.natCast_add] at h; exact h)
end Go.Proofs.YtgbakgaegldomaaGreat

