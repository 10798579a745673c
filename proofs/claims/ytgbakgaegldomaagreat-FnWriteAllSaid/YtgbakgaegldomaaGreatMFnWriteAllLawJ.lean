/- Texts joined into one: the walks and laws that the last text leans on. Conditions: as each says. -/
import Derived.Test.YtgbakgaegldomaaGreatMFnWriteAllLawF
import Derived.Test.YtgbakgaegldomaaGreatMFnWriteAllLawE
import Derived.Test.YtgbakgaegldomaaGreatFu
import Derived.Test.YtgbakgaegldomaaGreatGw
import Derived.Test.YtgbakgaegldomaaGreatMFnWriteAllLawD
import Derived.Test.YtgbakgaegldomaaGreatTree10
import Derived.Test.YtgbakgaegldomaaGreatKvG
import Derived.Test.YtgbakgaegldomaaGreatMFnWriteAllLawI
import Derived.Test.YtgbakgaegldomaaGreatBa
import Derived.Shelf.Strings.Builder1
import Derived.Test.YtgbakgaegldomaaGreatKns
import Derived.Test.YtgbakgaegldomaaGreatShelf

/- Walks of the program's advance and walkCodes. Conditions: what is known is valid and can be read; the codes can follow, and their data fits. -/
namespace Go.Proofs.YtgbakgaegldomaaGreat
set_option linter.unusedVariables false
set_option linter.unusedSimpArgs false
open Go Go.RowKit

/-- What advance leaves: what is known, its pairs in the row that was there or in a new one. -/
def AdvPost (k : KnD) (B : Nat) (v : Value) (w : World) (e : Ending) (w' : World) : Prop := ∃ v', e = .returned (kV k v') ∧ ownPr w' B v' k.ps ∧ Fr (fun b => v.ownBlock = some b) w w'

set_option maxRecDepth 100000 in
set_option maxHeartbeats 4000000 in
theorem advC_any (k : KnD) (v : Value) (B : Nat) (y : Int) (w : World) (h : k.Ok) (hB : B ≤ w.heap.size) (hown : ownPr w B v k.ps) :
    Calls Tryz.prog 105  #[kV k v, .int .i64 (k.c : Nat), .int .u8 y] w (AdvPost k.cleared B v w) := by
  have h0 := h.base0
  have h1 := h.base1
  have hpl := h.nums.2.2.2.1
  have cK := fun w => clearI_any k.set w h.set
  obtain ⟨m, hm⟩ : ∃ m : Nat, k.base = m := ⟨k.base.toNat, by omega⟩
  have hml : m ≤ k.ps.length := by omega
  have e : Hid (k.cleared = ⟨k.set, k.ps.take m, m, -1⟩) := by unfold Hid KnD.cleared; rw [hm]; rfl
  obtain ⟨a, cap, rfl⟩ := ownsRow_shape hown
  have hcp := ownsRow_cap hown
  have hcut := ownsRow_cut hown hml
  rw [cellsPr_take] at hcut
  have hlt : (k.ps.take m).length = m := by rw [List.length_take]; omega
  have HC : Hid (ownPr w B (.slice a m cap) (k.ps.take m)) := by unfold Hid ownPr; rw [hlt]; exact hcut
  have ec : k.c = clr k.set := rfl
  have hnil : a = none → m = 0 ∧ cap = 0 := fun ha => by
    subst ha
    rcases hown.2 with ⟨e1, e2⟩ | ⟨g, cp, cur, e1, _⟩
    · simp only [Value.slice.injEq] at e1; exact ⟨by omega, e1.2.2⟩
    · simp at e1
  have HK0 : KnAt w.heap.size k (.slice a k.ps.length cap) (w.alloc (.cells #[.int .i64 k.set.ord, .int .i64 k.set.lit, .int .i64 k.set.most, .slice a k.ps.length cap, .int .i64 k.base, .int .i64 k.last] 27)) := (MapKept.heap_alloc w _).1
  rw [e.out, ec]
  simp only [kV]
  rw [hm] at HK0 ⊢
  clear h e hown hcut hlt h0 h1 ec
  cases a with
  | none =>
    obtain ⟨e1, e2⟩ := hnil rfl
    subst e1; subst e2
    go_enter Tryz.func105, Tryz.ntmps105
    go_wp2_with ((go_at_call 47; (with_reducible refine (cK _).mono ?_); rintro e w1 ⟨rfl, U1⟩; have B1 := bcell U1; have Z1 := U1.size; (try simp at Z1); (try rw [Nat.add_one_le_iff] at Z1)); obtain ⟨hb0, r0, r1, r2, r3, r4, r5⟩ := box_up U1 (box_up ((Up.refl _).alloc _) (MapKept.heap_alloc w (.cells #[.int .i64 k.set.ord, .int .i64 k.set.lit, .int .i64 k.set.most, .slice none k.ps.length 0, .int .i64 ((0 : Nat) : Int), .int .i64 k.last] 27)).1) |> fun h => KnAt.cells (b := w.heap.size) (k := ⟨k.set, [], ((0 : Nat) : Int), k.last⟩) (v := .slice none k.ps.length 0) h; have hf0 := box_free (box_up U1 (box_up ((Up.refl _).alloc _) (MapKept.heap_alloc w (.cells #[.int .i64 k.set.ord, .int .i64 k.set.lit, .int .i64 k.set.most, .slice none k.ps.length 0, .int .i64 ((0 : Nat) : Int), .int .i64 k.last] 27)).1)); obtain ⟨hb1, q0, q1, q2, q3, q4, q5⟩ := KnAt.cells (b := w.heap.size + 1) (k := ⟨⟨0, 0, 0⟩, [], 0, 0⟩) (v := .slice none 0 0) (box_up U1 (alloc2 w _ _)); have hf1 := box_free (box_up U1 (alloc2 w _ _)))
    refine bodyPost_ret (v := kV ⟨k.set, k.ps.take 0, ((0 : Nat) : Int), -1⟩ (.slice none 0 0)) (by simp [results, Tryz.results105, go_sem, q0, q1, q2, q3, q4, q5]) rfl ⟨_, rfl, ?_, ?_⟩
    · exact World.ownsRow_nil _ _ _ _
    · refine Fr.of _ ?_
      (repeat (first | with_reducible exact Up.refl _ | with_reducible assumption | with_reducible refine Up.set ?_ (by first | exact Nat.le_refl _ | (simp only []; omega) | (simp; omega)) _ | with_reducible refine Up.alloc ?_ _ | with_reducible refine Up.drew ?_ | refine Up.trans ?_ (by with_reducible assumption)))
  | some ad =>
    go_enter Tryz.func105, Tryz.ntmps105
    go_wp2_with ((go_at_call 47; (with_reducible refine (cK _).mono ?_); rintro e w1 ⟨rfl, U1⟩; have B1 := bcell U1; have Z1 := U1.size; (try simp at Z1); (try rw [Nat.add_one_le_iff] at Z1)); obtain ⟨hb0, r0, r1, r2, r3, r4, r5⟩ := KnAt.cells (b := w.heap.size) (k := ⟨k.set, k.ps, (m : Int), k.last⟩) (v := .slice (some ad) k.ps.length cap) (box_up U1 (box_up ((Up.refl _).alloc _) (MapKept.heap_alloc w _).1)); have hf0 := box_free (box_up U1 (box_up ((Up.refl _).alloc _) (MapKept.heap_alloc w (.cells #[.int .i64 k.set.ord, .int .i64 k.set.lit, .int .i64 k.set.most, .slice (some ad) k.ps.length cap, .int .i64 (m : Int), .int .i64 k.last] 27)).1)); obtain ⟨hb1, q0, q1, q2, q3, q4, q5⟩ := KnAt.cells (b := w.heap.size + 1) (k := ⟨⟨0, 0, 0⟩, [], 0, 0⟩) (v := .slice none 0 0) (box_up U1 (alloc2 w _ _)); have hf1 := box_free (box_up U1 (alloc2 w _ _)))
    have hU : Up w w1 := by (repeat (first | with_reducible exact Up.refl _ | with_reducible assumption | with_reducible refine Up.set ?_ (by first | exact Nat.le_refl _ | (simp only []; omega) | (simp; omega)) _ | with_reducible refine Up.alloc ?_ _ | with_reducible refine Up.drew ?_ | refine Up.trans ?_ (by with_reducible assumption)))
    refine bodyPost_ret (v := kV ⟨k.set, k.ps.take m, (m : Int), -1⟩ (.slice (some ad) m cap)) (by simp [results, Tryz.results105, go_sem, q0, q1, q2, q3, q4, q5]) rfl ⟨_, rfl, ?_, ?_⟩
    · refine ownsRow_up HC.out ?_
      (repeat (first | with_reducible exact Up.refl _ | with_reducible assumption | with_reducible refine Up.set ?_ (by first | exact Nat.le_refl _ | (simp only []; omega) | (simp; omega)) _ | with_reducible refine Up.alloc ?_ _ | with_reducible refine Up.drew ?_ | refine Up.trans ?_ (by with_reducible assumption)))
    · refine Fr.of _ ?_
      (repeat (first | with_reducible exact Up.refl _ | with_reducible assumption | with_reducible refine Up.set ?_ (by first | exact Nat.le_refl _ | (simp only []; omega) | (simp; omega)) _ | with_reducible refine Up.alloc ?_ _ | with_reducible refine Up.drew ?_ | refine Up.trans ?_ (by with_reducible assumption)))

set_option maxRecDepth 100000 in
set_option maxHeartbeats 4000000 in
theorem advW_any (k : KnD) (v : Value) (B : Nat) (x : Int) (w : World) (h : k.Ok) (hB : B ≤ w.heap.size) (hown : ownPr w B v k.ps) (hf : k.follows x = true) (hxc : x ≠ (k.c : Int)) :
    Calls Tryz.prog 105  #[kV k v, .int .i64 x, .int .u8 (k.first x)] w (AdvPost (k.after x) B v w) := by
  obtain ⟨i0, hi, hz0, hz1, hz2⟩ := info_parts infoPair
  have hpl := h.nums.2.2.2.1
  have hcb := h.c_bd.2.1
  have cK := fun w => clearI_any k.set w h.set
  obtain ⟨f1, f2⟩ := KnD.first_bd h hf
  obtain ⟨a, cap, rfl⟩ := ownsRow_shape hown
  have cG := fun w => growI_any k.set k.base k.last a k.ps.length cap w h.set (by omega)
  rw [growN_eq] at cG
  have hxb : (x == ((clr k.set : Nat) : Int)) = false := by
    have h2 : ¬ x = ((clr k.set : Nat) : Int) := hxc
    simpa using h2
  have HO := Lib.hid hown
  cases hg : k.grow
  · have e : Hid (k.after x = ⟨k.set, k.ps, k.base, x⟩) := by unfold Hid KnD.after; rw [hg]; simp
    rw [e.out]
    rw [hg] at cG
    generalize k.first x = fx at *
    simp only [kV, knV] at *
    clear h e hg hf hxc hown
    go_enter Tryz.func105, Tryz.ntmps105
    go_wp2_with (first | (go_at_call 47; (with_reducible refine (cK _).mono ?_); rintro e w1 ⟨rfl, U1⟩; have B1 := bcell U1; have Z1 := U1.size; (try simp at Z1); (try rw [Nat.add_one_le_iff] at Z1)) | ((go_at_call 97; (with_reducible refine (cG _).mono ?_); rintro e w2 ⟨rfl, U2⟩; have B2 := bcell U2; have Z2 := U2.size; (try simp at Z2); (try rw [Nat.add_one_le_iff] at Z2)); obtain ⟨hb0, r0, r1, r2, r3, r4, r5⟩ := KnAt.cells (b := w.heap.size) (k := k) (v := .slice a k.ps.length cap) (box_up (U1.trans U2) (box_up ((Up.refl _).alloc _) (MapKept.heap_alloc w _).1)); have hf0 := box_free (box_up (U1.trans U2) (box_up ((Up.refl _).alloc _) (MapKept.heap_alloc w (.cells #[.int .i64 k.set.ord, .int .i64 k.set.lit, .int .i64 k.set.most, .slice a k.ps.length cap, .int .i64 k.base, .int .i64 k.last] 27)).1)); obtain ⟨hb1, q0, q1, q2, q3, q4, q5⟩ := KnAt.cells (b := w.heap.size + 1) (k := ⟨⟨0, 0, 0⟩, [], 0, 0⟩) (v := .slice none 0 0) (box_up (U1.trans U2) (alloc2 w _ _)); have hf1 := box_free (box_up (U1.trans U2) (alloc2 w _ _))))
    refine bodyPost_ret (v := kV ⟨k.set, k.ps, k.base, x⟩ (.slice a k.ps.length cap)) (by simp [results, Tryz.results105, go_sem, q0, q1, q2, q3, q4, q5]) rfl ⟨_, rfl, ?_, ?_⟩
    · refine ownsRow_up HO.out ?_
      (repeat (first | with_reducible exact Up.refl _ | with_reducible assumption | with_reducible refine Up.set ?_ (by first | exact Nat.le_refl _ | (simp only []; omega) | (simp; omega)) _ | with_reducible refine Up.alloc ?_ _ | with_reducible refine Up.drew ?_ | refine Up.trans ?_ (by with_reducible assumption)))
    · refine Fr.of _ ?_
      (repeat (first | with_reducible exact Up.refl _ | with_reducible assumption | with_reducible refine Up.set ?_ (by first | exact Nat.le_refl _ | (simp only []; omega) | (simp; omega)) _ | with_reducible refine Up.alloc ?_ _ | with_reducible refine Up.drew ?_ | refine Up.trans ?_ (by with_reducible assumption)))
  · have e : Hid (k.after x = ⟨k.set, k.ps ++ [⟨k.last, k.first x⟩], k.base, x⟩) := by unfold Hid KnD.after; rw [hg]; rfl
    rw [e.out]
    rw [hg] at cG
    generalize k.first x = fx at *
    have HS : Hid (∀ w' v', w'.ownsRow B 118 2 v' (k.ps.length + 1) (cellsPr k.ps ++ [.int .i64 k.last, .int .i64 fx]) → ownPr w' B v' (k.ps ++ [⟨k.last, fx⟩])) := fun w' v' h' => by
      unfold ownPr
      rw [List.length_append, cellsPr_snoc]
      exact h'
    have hfx : fx < 256 := by omega
    simp only [kV, knV] at *
    clear h e hg hf hxc hown hcb
    go_enter Tryz.func105, Tryz.ntmps105
    go_wp2_with (first | (go_at_call 47; (with_reducible refine (cK _).mono ?_); rintro e w1 ⟨rfl, U1⟩; have B1 := bcell U1; have Z1 := U1.size; (try simp at Z1); (try rw [Nat.add_one_le_iff] at Z1)) | ((go_at_call 97; (with_reducible refine (cG _).mono ?_); rintro e w2 ⟨rfl, U2⟩; have B2 := bcell U2; have Z2 := U2.size; (try simp at Z2); (try rw [Nat.add_one_le_iff] at Z2)); have hK2 : KnAt w.heap.size k (.slice a k.ps.length cap) w2 := box_up (U1.trans U2) (box_up ((Up.refl _).alloc _) (MapKept.heap_alloc w _).1); have hR2 : KnAt (w.heap.size + 1) ⟨⟨0, 0, 0⟩, [], 0, 0⟩ (.slice none 0 0) w2 := box_up (U1.trans U2) (alloc2 w _ _); obtain ⟨hb0, r0, r1, r2, r3, r4, r5⟩ := hK2.cells; have HK2 := Lib.hid hK2; have HR2 := Lib.hid hR2; have hU2 : Up w w2 := (by (repeat (first | with_reducible exact Up.refl _ | with_reducible assumption | with_reducible refine Up.set ?_ (by first | exact Nat.le_refl _ | (simp only []; omega) | (simp; omega)) _ | with_reducible refine Up.alloc ?_ _ | with_reducible refine Up.drew ?_ | refine Up.trans ?_ (by with_reducible assumption)))); have HU2 := Lib.hid hU2; clear hK2 hR2 U1 U2 hU2 B1 B2 Z1) | (at_builtin; refine wpList_append_own _ rfl _ _ 25 rfl B 118 i0 (.agg #[.int .i64 0, .int .i64 0]) 2 16 Tryz.underlying25 hi hz0 hz1 hz2 rfl (by decide) _ _ _ rfl (ownsRow_up (ownsRow_up HO.out HU2.out) (Up.alloc (Up.refl _) _)) ⟨w2.heap.size, 0, none⟩ 1 1 [.int .i64 k.last, .int .i64 fx] rfl rfl (new_cells [.int .i64 k.last, .int .i64 fx] _ rfl) (by intro u hu; simp at hu; rcases hu with rfl | rfl <;> rfl) (by unfold maxLen; omega) (by omega) (by have := HU2.out.size; simp; omega) ?_; rintro v4 w4 hown4 hgr4 -; obtain ⟨a4, c4, rfl⟩ := ownsRow_shape hown4; have hK4 := gbox hgr4 (box_up ((Up.refl _).alloc _) HK2.out) (box_ne HK2.out (ownsRow_up HO.out HU2.out) (by decide)); have hR4 := gbox hgr4 (box_up ((Up.refl _).alloc _) HR2.out) (box_ne HR2.out (ownsRow_up HO.out HU2.out) (by decide)); obtain ⟨hb4, r0, r1, r2, r3, r4, r5⟩ := KnAt.cells (k := k) (v := .slice a k.ps.length cap) hK4; have hf0 := box_free hK4; obtain ⟨hb5, q0, q1, q2, q3, q4, q5⟩ := KnAt.cells (k := ⟨⟨0, 0, 0⟩, [], 0, 0⟩) (v := .slice none 0 0) hR4; have hf1 := box_free hR4; have hFr : Fr (fun b => Value.ownBlock (.slice a k.ps.length cap) = some b) w w4 := ((Fr.of _ HU2.out).alloc _).gr hgr4 (fun b hb => .inl hb); have HV4 := Lib.hid (HS.out _ _ hown4); have HF4 := Lib.hid hFr; have HN1 := Lib.hid (box_ne hK4 hown4 (by decide)); have HN2 := Lib.hid (box_ne hR4 hown4 (by decide)); clear hown4 hgr4 hK4 hR4 hFr))
    refine bodyPost_ret (v := kV ⟨k.set, k.ps ++ [⟨k.last, fx⟩], k.base, x⟩ (.slice a4 (k.ps.length + 1) c4)) (by simp [results, Tryz.results105, go_sem, q0, q1, q2, q3, q4, q5]) rfl ⟨_, rfl, ?_, ?_⟩
    · have hn1 := HN1.out
      have hn2 := HN2.out
      repeat (with_reducible first | refine ownsRow_setb ?_ hn1 _ _ | refine ownsRow_setb ?_ hn2 _ _)
      exact HV4.out
    · repeat (with_reducible refine Fr.set ?_ (.inr (by first | exact Nat.le_refl _ | (simp; done) | (simp; omega))) _)
      exact HF4.out

/-- The memory of walkCodes: what is known in its box, its pairs, the widths, the data. -/
structure WcB (w : World) (k : KnD) (v : Value) (ws : List Int) (d : List UInt8) (vw vd : Value) (wr : World) : Prop where
  kn : KnAt w.heap.size k v wr
  pr : ownPr wr (w.heap.size + 1) v k.ps
  own : ownI wr (w.heap.size + 1) vw ws
  dat : ownU wr (w.heap.size + 1) vd d
  up : Up w wr
theorem WcB.upd {w : World} {k : KnD} {v : Value} {ws : List Int} {d : List UInt8} {vw vd : Value} {wr w' : World} (h : WcB w k v ws d vw vd wr) (hu : Up wr w') : WcB w k v ws d vw vd w' :=
  ⟨h.kn.up hu, ownsRow_up h.pr hu, ownsRow_up h.own hu, ownsRow_up h.dat hu, h.up.trans hu⟩
theorem WcB.ints {w : World} {k : KnD} {v : Value} {ws ws' : List Int} {d : List UInt8} {vw vd vw' : Value} {wr w' : World} (h : WcB w k v ws d vw vd wr) (hg : wr.grownBy w' vw.ownBlock) (hn : ownI w' (w.heap.size + 1) vw' ws') : WcB w k v ws' d vw' vd w' :=
  ⟨h.kn.gr hg (low_ne (w := w) h.own (by omega)), h.pr.kept hg (rows_ne h.pr h.own (by decide)), hn, h.dat.kept hg (rows_ne h.dat h.own (by decide)), h.up.grown hg fun y hy => by have := (h.own.lt y hy).1; omega⟩
theorem WcB.bytes {w : World} {k : KnD} {v : Value} {ws : List Int} {d d' : List UInt8} {vw vd vd' : Value} {wr w' : World} (h : WcB w k v ws d vw vd wr) (hg : wr.grownBy w' vd.ownBlock) (hn : ownU w' (w.heap.size + 1) vd' d') : WcB w k v ws d' vw vd' w' :=
  ⟨h.kn.gr hg (low_ne (w := w) h.dat (by omega)), h.pr.kept hg (rows_ne h.pr h.dat (by decide)), h.own.kept hg (rows_ne h.own h.dat (by decide)), hn, h.up.grown hg fun y hy => by have := (h.dat.lt y hy).1; omega⟩
theorem some_ne {a b : Option Nat} (h : a = none ∨ a ≠ b) : ∀ x, a = some x → ¬ b = some x := fun x hx hb => by
  rcases h with h | h
  · rw [h] at hx; cases hx
  · exact h (hx.trans hb.symm)
theorem WcB.adv {w : World} {k k' : KnD} {v v' : Value} {ws : List Int} {d : List UInt8} {vw vd : Value} {wr w' : World} (h : WcB w k v ws d vw vd wr) (hp : ownPr w' (w.heap.size + 1) v' k'.ps) (hf : Fr (fun b => v.ownBlock = some b) wr w') : WcB w k' v' ws d vw vd (KnW w' w.heap.size k' v') :=
  have hk : KnAt w.heap.size k v w' := hf.box h.kn (fun e => low_ne (w := w) h.pr (Nat.lt_succ_self _) e.symm)
  ⟨KnAt.store hk k' v', KnW.own hp (low_ne (w := w) hp (Nat.lt_succ_self _)) k' v', KnW.own (hf.row h.own (some_ne (rows_ne h.own h.pr (by decide)))) (low_ne (w := w) h.own (Nat.lt_succ_self _)) k' v',
    KnW.own (hf.row h.dat (some_ne (rows_ne h.dat h.pr (by decide)))) (low_ne (w := w) h.dat (Nat.lt_succ_self _)) k' v', KnW.up (Fr.upto h.up hf (fun b hb => by have := (h.pr.lt b hb).1; omega)) (Nat.le_refl _) k' v'⟩
structure WcAt (T : WkR) (s0 : SetD) (codes : List Int) (w : World) (k : KnD) (v : Value) (i : Nat) (ws : List Int) (d : List UInt8) (vw vd : Value) (wr : World) : Prop where
  le : i ≤ codes.length
  tot : walkN k (codes.drop i) ws d = T
  wl : ws.length = i
  dl : d.length ≤ 2000
  ok : k.Ok
  set : k.set = s0
  mem : WcB w k v ws d vw vd wr
def RelWc (T : WkR) (s0 : SetD) (codes : List Int) (w : World) (vw vd i : Value) (wr : World) : Prop := ∃ k v n ws d, i = .int .i64 (n : Nat) ∧ WcAt T s0 codes w k v n ws d vw vd wr
def WcPost (T : WkR) (w : World) (e : Ending) (w' : World) : Prop := ∃ vw, e = .returned (.tuple #[vw, .string (bs T.data), .bool true]) ∧ ownI w' w.heap.size vw T.ws ∧ Up w w'

set_option maxRecDepth 100000 in
set_option maxHeartbeats 8000000 in
theorem walkI_any (k : KnD) (v : Value) (lo : Nat) (codes : List Int) (vc : Value) (lc : Nat) (w : World) (h : k.Ok) (hv : k.last = -1 → k.base = k.ps.length) (hr : RdP lo w v k.ps) (hc : RdI lc w vc codes) (hl : codes.length ≤ 3100) (hT : (walkN k codes [] []).ok = true) (hD : (walkN k codes [] []).data.length ≤ 2000) :
    Calls Tryz.prog 89  #[kV k v, vc] w (WcPost (walkN k codes [] []) w) := by
  obtain ⟨i0, hi, hz0, hz1, hz2⟩ := info_parts infoIntG
  have cV := fun wx hr => kvI_any k v lo wx h hv hr
  have hpl0 := h.nums.2.2.2.1
  have cY := fun wx hr => copyI_any k v lo wx hr (by omega)
  have cK0 := fun wx => clearI_any k.set wx h.set
  have cE0 := fun wx => endI_any k.set wx h.set
  have hrt := fun (wq : World) (hu : Up w wq) => hr.up hu
  have HKT := Lib.hid h
  obtain ⟨T, HTT⟩ : ∃ T, Hid (T = walkN k codes [] []) := ⟨_, rfl⟩
  rw [← HTT.out] at hT hD ⊢
  have hset0 : Hid (k.set = k.set) := rfl
  obtain ⟨a, cap, rfl, -, -, -, -⟩ := hr
  obtain ⟨ac, cc, rfl, hcc, hcm, hcells⟩ := hc
  unfold maxLen at hcm
  simp only [kV] at *
  clear h hv
  go_enter Tryz.func89, Tryz.ntmps89
  go_wp2_with (first | ((go_at_call 39; (with_reducible refine (cV _ (hrt _ (by (repeat (first | with_reducible exact Up.refl _ | with_reducible assumption | with_reducible refine Up.set ?_ (by first | exact Nat.le_refl _ | (simp only []; omega) | (simp; omega)) _ | with_reducible refine Up.alloc ?_ _ | with_reducible refine Up.drew ?_ | refine Up.trans ?_ (by with_reducible assumption)))))).mono ?_); rintro e w1 ⟨rfl, U1⟩; have B1 := bcell U1; have Z1 := U1.size; (try simp at Z1); (try rw [Nat.add_one_le_iff] at Z1))) | (go_at_call 40; (with_reducible refine (cY _ (hrt _ (by (repeat (first | with_reducible exact Up.refl _ | with_reducible assumption | with_reducible refine Up.set ?_ (by first | exact Nat.le_refl _ | (simp only []; omega) | (simp; omega)) _ | with_reducible refine Up.alloc ?_ _ | with_reducible refine Up.drew ?_ | refine Up.trans ?_ (by with_reducible assumption)))))).mono ?_); rintro e w2 ⟨v2, rfl, ho2, U2⟩; obtain ⟨a2, c2, rfl⟩ := ownsRow_shape ho2; have hk2 : KnAt w.heap.size k (.slice a k.ps.length cap) w2 := box_up U2 (box_up U1 (MapKept.heap_alloc w _).1); have hU2 : Up w w2 := (by (repeat (first | with_reducible exact Up.refl _ | with_reducible assumption | with_reducible refine Up.set ?_ (by first | exact Nat.le_refl _ | (simp only []; omega) | (simp; omega)) _ | with_reducible refine Up.alloc ?_ _ | with_reducible refine Up.drew ?_ | refine Up.trans ?_ (by with_reducible assumption)))); have hs1 := U1.size; simp at hs1; have hm2 : WcB w k (.slice a2 k.ps.length c2) [] [] (.slice none 0 0) (.slice none 0 0) (KnW w2 w.heap.size k (.slice a2 k.ps.length c2)) := ⟨KnAt.store hk2 k _, KnW.own (ownsRow_base ho2 (by omega)) (fun e => by have := (ho2.lt _ e.symm).1; omega) k _, World.ownsRow_nil _ _ _ _, World.ownsRow_nil _ _ _ _, KnW.up hU2 (Nat.le_refl _) k _⟩; have HM2 := Lib.hid hm2; obtain ⟨hb2, r0, r1, r2, r3, r4, r5⟩ := hk2.cells; have hf2 := box_free hk2; clear ho2 hk2 hm2))
  rw [show (World.setCell (World.setCell (World.setCell (World.setCell (World.setCell (World.setCell w2 ⟨w.heap.size, 0, none⟩ (.int .i64 k.set.ord)) ⟨w.heap.size, 1, none⟩ (.int .i64 k.set.lit)) ⟨w.heap.size, 2, none⟩ (.int .i64 k.set.most)) ⟨w.heap.size, 3, none⟩ (.slice a2 k.ps.length c2)) ⟨w.heap.size, 4, none⟩ (.int .i64 k.base)) ⟨w.heap.size, 5, none⟩ (.int .i64 k.last)) = KnW w2 w.heap.size k (.slice a2 k.ps.length c2) from rfl]
  clear r0 r1 r2 r3 r4 r5 hf2 U2 U1 B1 Z1 hs1 hb2 hU2
  generalize KnW w2 w.heap.size k (.slice a2 k.ps.length c2) = W at HM2 ⊢
  obtain ⟨-, r0, r1, r2, r3, r4, r5⟩ := HM2.out.kn.cells
  refine wp_region_upf 6 (by kernel_rfl) (by kernel_rfl) ?_
  simp only [List.take, List.drop]
  repeat (refine wpUp_step (fun K hK => ?_); go_simp; (try simp only [↓IntWalk.iteOmega]); first
    | (refine hK _ _ ?_; clear hK K)
    | (apply stepU_c
       · intro wq hwq; (have hbq := bcell hwq; (repeat (first | refine fills_no (by rfl) ?_ | refine fills_yes (by rfl) (fun vq hvq => ?_))); simp only [List.filter_nil, fills]; unfold upAt; (try ((obtain ⟨-, r0, r1, r2, r3, r4, r5⟩ := (HM2.out.kn.up hwq).cells))); go_simp; (try go_bits); (try simp only [↓IntWalk.iteOmega]); (try (rw [dif_pos (by omega)]; go_simp; try go_bits)); first | exact upOut_value | (apply upOut_call; (go_at_call 47; exact cK0 _)) | (apply upOut_eq; (go_at_call 47; exact cK0 _)) | (apply upOut_call; (go_at_call 76; exact cE0 _)) | (apply upOut_eq; (go_at_call 76; exact cE0 _)))
       go_simp; refine hK _ _ ?_; clear hK K))
  refine wpUp_nil (fun wq hwq => ?_)
  simp only [fills]
  have HM3 := Lib.hid (HM2.out.upd hwq)
  clear r0 r1 r2 r3 r4 r5 hwq
  go_wp2
  rw [onlyN_normal]
  go_wp2
  go_loopw [9, 10, 32] (fun vw vd i wr => RelWc T k.set codes w vw vd i wr) (fun _ _ i _ => codes.length - (intOf i).toNat)
  case atStart => exact ⟨k, _, 0, [], [], rfl, Nat.zero_le _, HTT.out.symm, rfl, by simp, HKT.out, rfl, HM3.out⟩
  case round =>
    clear HM2 HM3 cV cY hrt hset0
    obtain ⟨k', v', n, ws, d, rfl, hG⟩ := hrel
    have hle := hG.le
    have hwl := hG.wl
    have hdl := hG.dl
    have hok := hG.ok
    obtain ⟨a', c', rfl⟩ := ownsRow_shape hG.mem.pr
    obtain ⟨aw, cw, rfl⟩ := ownsRow_shape hG.mem.own
    obtain ⟨ad, cd, rfl⟩ := ownsRow_shape hG.mem.dat
    have HG := Lib.hid hG
    have HB := Lib.hid hG.mem
    obtain ⟨bk, r0, r1, r2, r3, r4, r5⟩ := hG.mem.kn.cells
    have hrd := fun (wq : World) (hu : Up wr wq) => (RdP.of_own hG.mem.pr).up hu
    have hups := hG.mem.up.size
    clear hG
    by_cases hlt : n < codes.length
    · have hD9 : codes.drop n = codes[n] :: codes.drop (n + 1) := List.drop_eq_getElem_cons hlt
      have htot := HG.out.tot
      rw [hD9] at htot
      have hW := walkN_ok htot hT
      obtain ⟨b, off, rfl, hlo, hbl, hx9⟩ := hcells (by omega)
      have hxw := hx9 n codes[n] (List.getElem?_eq_getElem hlt)
      have hx := (HB.out.up.cell (p := ⟨b, off + n, none⟩) hbl).trans hxw
      have hbl2 := Nat.lt_of_lt_of_le hbl hups
      have hset := HG.out.set
      have hsc : k'.c = clr k.set := by unfold KnD.c; rw [hset]
      have htop := KnD.top_bd hok
      have hcb := hok.nums
      have cWd := fun wq hr => widthI_any k' (.slice a' k'.ps.length c') (w.heap.size + 1) wq hok hr
      have hwl2 : ws.length ≤ 3100 := by omega
      have HWL := Lib.hid hwl
      clear hwl hx9 hcells hD9 htot hxw
      generalize codes[n] = x at *
      rcases hW with ⟨hxe, hxs, hTe⟩ | ⟨hxc, hrest⟩ | ⟨hx1, hx2, hf, hrest, hlen⟩
      · have hcan : decide (x ≤ ((k'.top : Nat) : Int)) = true := by rw [decide_eq_true_iff]; omega
        have cCan := fun wq hr => canI_any k' (.slice a' k'.ps.length c') (w.heap.size + 1) x wq hok hr (by omega)
        rw [hcan] at cCan
        have hnl : ¬ (n : Int) < (codes.length : Int) - 1 := by rw [List.drop_eq_nil_iff] at hxs; omega
        have hxe2 : x = (clr k.set : Int) + 1 := by rw [hxe, hsc]
        have hrest : walkN k' (codes.drop (n + 1)) (ws ++ [(k'.width : Int)]) d = T := by
          rw [hxs, hTe]
          show (⟨_, _, _⟩ : WkR) = _
          rw [decide_eq_true hdl]
        have HR := Lib.hid hrest
        subst hxe2
        simp only [kV] at *
        clear hxe hxs hTe hcan hrest hset hsc htop hcb
        go_wp2_with (first | (go_at_call 104; (with_reducible refine (cCan _ (hrd _ (by (repeat (first | with_reducible exact Up.refl _ | with_reducible assumption | with_reducible refine Up.set ?_ (by first | exact Nat.le_refl _ | (simp only []; omega) | (simp; omega)) _ | with_reducible refine Up.alloc ?_ _ | with_reducible refine Up.drew ?_ | refine Up.trans ?_ (by with_reducible assumption)))))).mono ?_); rintro e w5 ⟨rfl, U5⟩; have B5 := bcell U5; have Z5 := U5.size; (try simp at Z5); (try rw [Nat.add_one_le_iff] at Z5)) | (go_at_call 100; (with_reducible refine (cWd _ (hrd _ (by (repeat (first | with_reducible exact Up.refl _ | with_reducible assumption | with_reducible refine Up.set ?_ (by first | exact Nat.le_refl _ | (simp only []; omega) | (simp; omega)) _ | with_reducible refine Up.alloc ?_ _ | with_reducible refine Up.drew ?_ | refine Up.trans ?_ (by with_reducible assumption)))))).mono ?_); rintro e w6 ⟨rfl, U6⟩; have B6 := bcell U6; have Z6 := U6.size; (try simp at Z6); (try rw [Nat.add_one_le_iff] at Z6)) | (at_builtin; refine wpList_append_own _ rfl _ _ 75 rfl (w.heap.size + 1) 3 i0 (.int .i64 0) 1 8 Tryz.underlying75 hi hz0 hz1 hz2 rfl (by decide) _ _ _ rfl (ownsRow_up (HB.out.upd (U5.trans U6)).own (Up.alloc (Up.refl _) _)) ⟨w6.heap.size, 0, none⟩ 1 1 [.int .i64 (k'.width : Nat)] rfl rfl (new_cells [.int .i64 (k'.width : Nat)] _ rfl) (by intro u hu; simp at hu; subst hu; rfl) (by unfold maxLen; omega) (by omega) (by have := (HB.out.upd (U5.trans U6)).up.size; have := (HB.out.upd (U5.trans U6)).kn.cells.1; simp; omega) ?_; rintro v7 w7 hown7 hgr7 -; obtain ⟨a7, c7, rfl⟩ := ownsRow_shape hown7; have hb7 := ((HB.out.upd (U5.trans U6)).upd (Up.alloc (Up.refl _) _)).ints hgr7 (ownI_snoc hown7); obtain ⟨-, r0, r1, r2, r3, r4, r5⟩ := hb7.kn.cells; have HB7 := Lib.hid hb7; clear hb7 hown7 hgr7))
        go_roundw
        case rel => exact ⟨k', _, n + 1, ws ++ [(k'.width : Int)], d, by go_num, by omega, HR.out, by simp [HWL.out], hdl, HG.out.ok, HG.out.set, HB7.out⟩
        case measure => simp [intOf]; omega
      · have hcan : decide (x ≤ ((k'.top : Nat) : Int)) = true := by rw [decide_eq_true_iff]; omega
        have cCan := fun wq hr => canI_any k' (.slice a' k'.ps.length c') (w.heap.size + 1) x wq hok hr (by omega)
        rw [hcan] at cCan
        have cAC := fun wq hB hp => advC_any k' (.slice a' k'.ps.length c') (w.heap.size + 1) 0 wq hok hB hp
        rw [hsc] at cAC
        have hxe2 : x = (clr k.set : Int) := by rw [hxc, hsc]
        have hne : ((clr k.set : Int) == (clr k.set : Int) + 1) = false := by simp; omega
        have HR := Lib.hid hrest
        subst hxe2
        simp only [kV] at *
        clear hxc hcan hrest hset hsc htop hcb
        go_wp2_with (first | (go_at_call 104; (with_reducible refine (cCan _ (hrd _ (by (repeat (first | with_reducible exact Up.refl _ | with_reducible assumption | with_reducible refine Up.set ?_ (by first | exact Nat.le_refl _ | (simp only []; omega) | (simp; omega)) _ | with_reducible refine Up.alloc ?_ _ | with_reducible refine Up.drew ?_ | refine Up.trans ?_ (by with_reducible assumption)))))).mono ?_); rintro e w5 ⟨rfl, U5⟩; have B5 := bcell U5; have Z5 := U5.size; (try simp at Z5); (try rw [Nat.add_one_le_iff] at Z5)) | (go_at_call 100; (with_reducible refine (cWd _ (hrd _ (by (repeat (first | with_reducible exact Up.refl _ | with_reducible assumption | with_reducible refine Up.set ?_ (by first | exact Nat.le_refl _ | (simp only []; omega) | (simp; omega)) _ | with_reducible refine Up.alloc ?_ _ | with_reducible refine Up.drew ?_ | refine Up.trans ?_ (by with_reducible assumption)))))).mono ?_); rintro e w6 ⟨rfl, U6⟩; have B6 := bcell U6; have Z6 := U6.size; (try simp at Z6); (try rw [Nat.add_one_le_iff] at Z6)) | (at_builtin; refine wpList_append_own _ rfl _ _ 75 rfl (w.heap.size + 1) 3 i0 (.int .i64 0) 1 8 Tryz.underlying75 hi hz0 hz1 hz2 rfl (by decide) _ _ _ rfl (ownsRow_up (HB.out.upd (U5.trans U6)).own (Up.alloc (Up.refl _) _)) ⟨w6.heap.size, 0, none⟩ 1 1 [.int .i64 (k'.width : Nat)] rfl rfl (new_cells [.int .i64 (k'.width : Nat)] _ rfl) (by intro u hu; simp at hu; subst hu; rfl) (by unfold maxLen; omega) (by omega) (by have := (HB.out.upd (U5.trans U6)).up.size; have := (HB.out.upd (U5.trans U6)).kn.cells.1; simp; omega) ?_; rintro v7 w7 hown7 hgr7 -; obtain ⟨a7, c7, rfl⟩ := ownsRow_shape hown7; have hb7 := ((HB.out.upd (U5.trans U6)).upd (Up.alloc (Up.refl _) _)).ints hgr7 (ownI_snoc hown7); obtain ⟨-, r0, r1, r2, r3, r4, r5⟩ := hb7.kn.cells; have HB7 := Lib.hid hb7; clear hb7 hown7 hgr7) | (go_at_call 105; (with_reducible refine (cAC _ (by have := HB7.out.kn.cells.1; omega) HB7.out.pr).mono ?_); rintro e w9 ⟨v9, rfl, ho9, hF9⟩; obtain ⟨a9, c9, rfl⟩ := ownsRow_shape ho9; have hm9 := HB7.out.adv ho9 hF9; have hk9 := hF9.box HB7.out.kn (fun e => low_ne (w := w) HB7.out.pr (Nat.lt_succ_self _) e.symm); obtain ⟨hb9, r0, r1, r2, r3, r4, r5⟩ := KnAt.cells (k := k') (v := .slice a' k'.ps.length c') hk9; have hf9 := box_free hk9; have HM9 := Lib.hid hm9; clear hm9 hk9 ho9 hF9))
        rw [show (World.setCell (World.setCell (World.setCell (World.setCell (World.setCell (World.setCell w9 ⟨w.heap.size, 0, none⟩ (.int .i64 k'.cleared.set.ord)) ⟨w.heap.size, 1, none⟩ (.int .i64 k'.cleared.set.lit)) ⟨w.heap.size, 2, none⟩ (.int .i64 k'.cleared.set.most)) ⟨w.heap.size, 3, none⟩ (.slice a9 k'.cleared.ps.length c9)) ⟨w.heap.size, 4, none⟩ (.int .i64 k'.cleared.base)) ⟨w.heap.size, 5, none⟩ (.int .i64 k'.cleared.last)) = KnW w9 w.heap.size k'.cleared (.slice a9 k'.cleared.ps.length c9) from rfl]
        generalize KnW w9 w.heap.size k'.cleared (.slice a9 k'.cleared.ps.length c9) = W9 at HM9 ⊢
        go_roundw
        case rel => exact ⟨k'.cleared, _, n + 1, ws ++ [(k'.width : Int)], d, by go_num, by omega, HR.out, by simp [HWL.out], hdl, KnD.cleared_ok HG.out.ok, HG.out.set, HM9.out⟩
        case measure => simp [intOf]; omega
      · have htp : x ≤ ((k'.top : Nat) : Int) := by
          rcases KnD.follows_cases hok hf with hc | ⟨hg, hxn, _⟩
          · rw [codeOk_iff] at hc
            have : k'.next ≤ k'.top + 1 := by unfold KnD.top; split <;> omega
            unfold KnD.next at this; omega
          · unfold KnD.top; rw [if_pos hg]; omega
        have hx0 := (KnD.find_bd hok hf).1
        have hcan : decide (x ≤ ((k'.top : Nat) : Int)) = true := by rw [decide_eq_true_iff]; exact htp
        have cCan := fun wq hr => canI_any k' (.slice a' k'.ps.length c') (w.heap.size + 1) x wq hok hr hx0
        rw [hcan] at cCan
        have cWJ := fun wq hr => wordJ_any k' (.slice a' k'.ps.length c') (w.heap.size + 1) x wq hok hr hf
        have cAW := fun wq hB hp => advW_any k' (.slice a' k'.ps.length c') (w.heap.size + 1) x wq hok hB hp hf hx2
        have hwp := KnD.any_pos hok hf
        have hok9 := Lib.hid (KnD.after_ok hok hf)
        have hne1 : (x == (clr k.set : Int) + 1) = false := by simpa [hsc] using hx1
        have hne2 : (x == (clr k.set : Int)) = false := by simpa [hsc] using hx2
        have HFX : Hid (∀ h, (((bs (k'.any x))[0]'h).toNat : Int) = k'.first x) := fun h => by rw [bs_get0]; rfl
        have hset9 : Hid ((k'.after x).set = k.set) := hset
        have hfb := KnD.first_bd hok hf
        have hsz := bs_size (k'.any x)
        have HR := Lib.hid hrest
        have hlen2 : d.length + (k'.any x).length ≤ 2000 := by omega
        clear hcan hrest hset hsc htp hx1 hx2 hlen
        generalize hwl9 : k'.any x = wl at *
        clear hwl9
        have hfx := HFX.out (by rw [bs_size]; omega)
        simp only [kV] at *
        clear htop hcb
        go_wp2_with (first | (go_at_call 104; (with_reducible refine (cCan _ (hrd _ (by (repeat (first | with_reducible exact Up.refl _ | with_reducible assumption | with_reducible refine Up.set ?_ (by first | exact Nat.le_refl _ | (simp only []; omega) | (simp; omega)) _ | with_reducible refine Up.alloc ?_ _ | with_reducible refine Up.drew ?_ | refine Up.trans ?_ (by with_reducible assumption)))))).mono ?_); rintro e w5 ⟨rfl, U5⟩; have B5 := bcell U5; have Z5 := U5.size; (try simp at Z5); (try rw [Nat.add_one_le_iff] at Z5)) | (go_at_call 100; (with_reducible refine (cWd _ (hrd _ (by (repeat (first | with_reducible exact Up.refl _ | with_reducible assumption | with_reducible refine Up.set ?_ (by first | exact Nat.le_refl _ | (simp only []; omega) | (simp; omega)) _ | with_reducible refine Up.alloc ?_ _ | with_reducible refine Up.drew ?_ | refine Up.trans ?_ (by with_reducible assumption)))))).mono ?_); rintro e w6 ⟨rfl, U6⟩; have B6 := bcell U6; have Z6 := U6.size; (try simp at Z6); (try rw [Nat.add_one_le_iff] at Z6)) | (at_builtin; refine wpList_append_own _ rfl _ _ 75 rfl (w.heap.size + 1) 3 i0 (.int .i64 0) 1 8 Tryz.underlying75 hi hz0 hz1 hz2 rfl (by decide) _ _ _ rfl (ownsRow_up (HB.out.upd (U5.trans U6)).own (Up.alloc (Up.refl _) _)) ⟨w6.heap.size, 0, none⟩ 1 1 [.int .i64 (k'.width : Nat)] rfl rfl (new_cells [.int .i64 (k'.width : Nat)] _ rfl) (by intro u hu; simp at hu; subst hu; rfl) (by unfold maxLen; omega) (by omega) (by have := (HB.out.upd (U5.trans U6)).up.size; have := (HB.out.upd (U5.trans U6)).kn.cells.1; simp; omega) ?_; rintro v7 w7 hown7 hgr7 -; obtain ⟨a7, c7, rfl⟩ := ownsRow_shape hown7; have hb7 := ((HB.out.upd (U5.trans U6)).upd (Up.alloc (Up.refl _) _)).ints hgr7 (ownI_snoc hown7); obtain ⟨-, r0, r1, r2, r3, r4, r5⟩ := hb7.kn.cells; have HB7 := Lib.hid hb7; clear hb7 hown7 hgr7) | ((go_at_call 106; (with_reducible refine (cWJ _ (RdP.of_own HB7.out.pr)).mono ?_); rintro e w8 ⟨rfl, U8⟩; have B8 := bcell U8; have Z8 := U8.size; (try simp at Z8); (try rw [Nat.add_one_le_iff] at Z8)); obtain ⟨-, r0, r1, r2, r3, r4, r5⟩ := (HB7.out.upd U8).kn.cells) | (at_builtin; refine wpList_append_str rfl _ _ rfl (w.heap.size + 1) _ d wl rfl (HB7.out.upd U8).dat rfl (by omega) (by omega) (by have := (HB7.out.upd U8).kn.cells.1; omega) ?_; rintro v9 w9 ho9 hg9; obtain ⟨a9, c9, rfl⟩ := ownsRow_shape (ownsRow_n2 (n' := d.length + wl.length) ho9 (by simp)); have hb9 := (HB7.out.upd U8).bytes hg9 ho9; obtain ⟨-, r0, r1, r2, r3, r4, r5⟩ := hb9.kn.cells; have HB9 := Lib.hid hb9; clear hb9 ho9 hg9))
        refine wp_region_upR 4 (by kernel_rfl) (by kernel_rfl) ?_
        simp only [List.take, List.drop]
        repeat (refine wpUp_step (fun K hK => ?_); go_simp; (try simp only [↓IntWalk.iteOmega]); first
          | (refine hK _ _ ?_; clear hK K)
          | (apply stepU_c
             · intro wq hwq; (have hbq := bcell hwq; (repeat (first | refine fills_no (by rfl) ?_ | refine fills_yes (by rfl) (fun vq hvq => ?_))); simp only [List.filter_nil, fills]; unfold upAt; (try ((obtain ⟨-, r0, r1, r2, r3, r4, r5⟩ := (HB9.out.kn.up hwq).cells))); go_simp; (try go_bits); (try simp only [↓IntWalk.iteOmega]); (try (rw [dif_pos (by omega)]; go_simp; try go_bits)); first | exact upOut_value)
             go_simp; refine hK _ _ ?_; clear hK K))
        refine wpUp_nil (fun wq hwq => ?_)
        simp only [fills]
        have HBq := Lib.hid (HB9.out.upd hwq)
        (try rw [hfx])
        clear hwq r0 r1 r2 r3 r4 r5
        go_wp2_with fail
        with_reducible refine (cAW _ (by have := HBq.out.kn.cells.1; omega) HBq.out.pr).mono ?_
        rintro e w10 ⟨v10, rfl, ho10, hF10⟩
        obtain ⟨a10, c10, rfl⟩ := ownsRow_shape ho10
        have hm10 := HBq.out.adv ho10 hF10
        have hk10 := hF10.box HBq.out.kn (fun e => low_ne (w := w) HBq.out.pr (Nat.lt_succ_self _) e.symm)
        obtain ⟨hb10, r0, r1, r2, r3, r4, r5⟩ := KnAt.cells (k := k') (v := .slice a' k'.ps.length c') hk10
        have hf10 := box_free hk10
        have HM10 := Lib.hid hm10
        clear hm10 hk10 ho10 hF10
        go_wp2
        rw [show (World.setCell (World.setCell (World.setCell (World.setCell (World.setCell (World.setCell w10 ⟨w.heap.size, 0, none⟩ (.int .i64 (k'.after x).set.ord)) ⟨w.heap.size, 1, none⟩ (.int .i64 (k'.after x).set.lit)) ⟨w.heap.size, 2, none⟩ (.int .i64 (k'.after x).set.most)) ⟨w.heap.size, 3, none⟩ (.slice a10 (k'.after x).ps.length c10)) ⟨w.heap.size, 4, none⟩ (.int .i64 (k'.after x).base)) ⟨w.heap.size, 5, none⟩ (.int .i64 (k'.after x).last)) = KnW w10 w.heap.size (k'.after x) (.slice a10 (k'.after x).ps.length c10) from rfl]
        generalize KnW w10 w.heap.size (k'.after x) (.slice a10 (k'.after x).ps.length c10) = W10 at HM10 ⊢
        go_roundw
        case rel => exact ⟨k'.after x, _, n + 1, ws ++ [(k'.width : Int)], d ++ wl, by go_num, by omega, HR.out, by simp [HWL.out], by rw [List.length_append]; exact hlen2, hok9.out, hset9.out, HM10.out⟩
        case measure => simp [intOf]; omega
    · have e : n = codes.length := by omega
      subst e
      have hfin := HG.out.tot
      rw [List.drop_length] at hfin
      have hws : T.ws = ws := by rw [← hfin]; rfl
      have hda : T.data = d := by rw [← hfin]; rfl
      have HF := Lib.hid (And.intro hws hda)
      clear hfin hrd hok hws hda hwl r0 r1 r2 r3 r4 r5
      go_wp2
      refine wp_region_up 6 (by kernel_rfl) (by kernel_rfl) ?_
      simp only [List.take, List.drop]
      repeat (refine wpUp_step (fun K hK => ?_); go_simp; (try simp only [↓IntWalk.iteOmega]); first
        | (refine hK _ _ ?_; clear hK K)
        | (apply stepU_c
           · intro wq hwq; (have hbq := bcell hwq; (repeat (first | refine fills_no (by rfl) ?_ | refine fills_yes (by rfl) (fun vq hvq => ?_))); simp only [List.filter_nil, fills]; unfold upAt; (try ((have hconv := conv_any (ownsRow_up HB.out.dat hwq) rfl))); go_simp; (try go_bits); (try simp only [↓IntWalk.iteOmega]); (try (rw [dif_pos (by omega)]; go_simp; try go_bits)); first | exact upOut_value)
           go_simp; refine hK _ _ ?_; clear hK K))
      refine wpUp_nil (fun wq hwq => ?_)
      simp only [fills]
      go_wp2
      refine bodyPost_ret (v := .tuple #[.slice aw ws.length cw, .string (bs d), .bool true]) (by simp [results, Tryz.results89, go_sem]) rfl ?_
      have hB := HB.out.upd hwq
      exact ⟨_, by rw [HF.out.2], by rw [HF.out.1]; exact ownsRow_base hB.own (Nat.le_succ _), hB.up⟩

end Go.Proofs.YtgbakgaegldomaaGreat

/- Plain law: data that fits has no more than 3002 greedy codes. Conditions: what is known is valid, and the data has only literals. -/
namespace Go.Proofs.YtgbakgaegldomaaGreat
set_option linter.unusedVariables false
set_option linter.unusedSimpArgs false
open Go Go.RowKit

theorem KnD.cleared_len {k : KnD} (h : k.Ok) : ((k.cleared.ps.length : Nat) : Int) = k.base := by
  have h0 := h.base0; have h1 := h.base1
  show ((k.ps.take k.base.toNat).length : Int) = k.base
  rw [List.length_take]; omega
theorem greedyN_tight : ∀ (n : Nat) (k : KnD) (d : List UInt8), k.Ok → (∀ b ∈ d, b.toNat < k.c) → d.length ≤ n → (k.last = -1 → (k.ps.length : Int) = k.base) →
    2 * (greedyN n k d).length ≤ 3 * d.length + 2 + (if k.last = -1 then 0 else 1) := by
  intro n
  induction n with
  | zero =>
    intro k d hk hl hd hb
    have : d = [] := List.length_eq_zero_iff.1 (by omega)
    subst this
    simp [greedyN]
  | succ n ih =>
    intro k d hk hl hd hb
    by_cases hde : d = []
    · subst hde; rw [greedyN_nil]; simp
    · have hlp := KnD.longest_pos (k := k) hde
      have hll := KnD.longest_le (k := k) d
      obtain ⟨hfw, -⟩ := KnD.find_any hk hde hl
      have hx := KnD.find_bd hk hfw
      rw [greedyN, if_neg hde]
      generalize k.find (k.longest d) = x at *
      generalize (k.longest d).length = n1 at *
      have hok := KnD.after_ok hk hfw
      have hl2 : ∀ b ∈ d.drop n1, b.toNat < (k.after x).c := fun b hb => hl b (List.mem_of_mem_drop hb)
      have hdl : (d.drop n1).length = d.length - n1 := List.length_drop
      have hla : (k.after x).last = x := rfl
      split
      · next hf =>
        have hne : ¬ k.last = -1 := by
          intro e
          have h1 := hf.1
          unfold KnD.full at h1
          simp only [Bool.and_eq_true, decide_eq_true_eq] at h1
          have hg : k.grow = false := by unfold KnD.grow; rw [e]; rfl
          have h2 : (k.after x).ps = k.ps := by unfold KnD.after; rw [hg]; simp
          have h3 := h1.2
          rw [h2] at h3
          have h4 := hb e
          have h5 : (k.after x).base = k.base := rfl
          omega
        have := ih (k.after x).cleared (d.drop n1) (KnD.cleared_ok hok) hl2 (by omega) (fun _ => KnD.cleared_len hok)
        rw [if_pos (show (k.after x).cleared.last = -1 from rfl)] at this
        rw [if_neg hne, List.length_cons, List.length_cons]
        omega
      · next hf =>
        have := ih (k.after x) (d.drop n1) hok hl2 (by omega) (fun e => by omega)
        rw [if_neg (by omega)] at this
        rw [List.length_cons]
        split <;> omega
theorem greedy_tight {k : KnD} {d : List UInt8} (hk : k.Ok) (hl : ∀ b ∈ d, b.toNat < k.c) (hd : d.length ≤ 2000) : (greedy k d).length ≤ 3002 := by
  have h := greedyN_tight d.length k.cleared d (KnD.cleared_ok hk) hl (Nat.le_refl _) (fun _ => KnD.cleared_len hk)
  rw [if_pos (show k.cleared.last = -1 from rfl)] at h
  unfold greedy
  rw [List.length_cons]; omega

end Go.Proofs.YtgbakgaegldomaaGreat

/- Walks of the program's PackCodes, GreedyCodes, Compress. Conditions: what is known is valid and can be read. -/
namespace Go.Proofs.YtgbakgaegldomaaGreat
set_option linter.unusedVariables false
set_option linter.unusedSimpArgs false
open Go Go.RowKit

theorem packC_len10 (o : Int) : ∀ (xs ws : List Int), (∀ w ∈ ws, 0 ≤ w ∧ w ≤ 10) → (packC o xs ws).length ≤ 10 * ws.length
  | [], ws, _ => by simp [packC]
  | _ :: _, [], _ => by simp [packC]
  | x :: xs, w :: ws, h => by
    simp only [packC, List.length_append, codeL_length, List.length_cons]
    have h1 := h w (List.mem_cons_self ..)
    have h2 := packC_len10 o xs ws fun v hv => h v (List.mem_cons_of_mem _ hv)
    omega

set_option maxRecDepth 100000 in
set_option maxHeartbeats 1000000 in
theorem packBI_any (o : Int) (s : ByteArray) (w : World) (ho : o = 0 ∨ o = 1) (hb : isBits s.data.toList) (hs : s.size ≤ 32000) :
    Calls Tryz.prog 13  #[.int .i64 o, .string s] w (Same (.tuple #[.string (bs (packL o s.data.toList)), .bool true]) w) := by
  have cO := fun w => orderI_any o w
  have cV := fun w => bitsVI_any s w hb hs
  have cP := fun w => packI_any o s w ho hb (by omega)
  have ho1 : (o == 0 || o == 1) = true := by rcases ho with rfl | rfl <;> rfl
  rw [ho1] at cO
  clear hb ho ho1
  go_enter Tryz.func13, Tryz.ntmps13
  go_wp2_with (first | (go_at_call 49; (with_reducible refine (cO _).mono ?_); rintro e w' ⟨rfl, rfl⟩) | (go_at_call 50; (with_reducible refine (cV _).mono ?_); rintro e w' ⟨rfl, rfl⟩) | (go_at_call 48; (with_reducible refine (cP _).mono ?_); rintro e w3 ⟨rfl, U3⟩; have B3 := bcell U3; have Z3 := U3.size; (try simp at Z3); (try rw [Nat.add_one_le_iff] at Z3)))
  go_ret2
  exact ⟨rfl, U3⟩

theorem nil_row {w : World} {base : Nat} {e : TypeId} {size n c : Nat} {a : Option Addr} {xs : List Value} (h : w.ownsRow base e size (.slice a n c) n xs) : a = none → n = 0 ∧ c = 0 := fun ha => by
  subst ha
  rcases h.2 with ⟨e1, _⟩ | ⟨g, cp, cur, e1, _⟩
  · simpa using e1
  · simp at e1
theorem clipI_any (a : Option Addr) (n c : Nat) (w : World) (h : n ≤ c) (hc : c ≤ 9223372036854775807) (ha : a = none → n = 0 ∧ c = 0) :
    Calls Tryz.prog 87 #[.slice a n c] w (fun e w' => e = .returned (.slice a n n) ∧ w = w') := by
  cases a with
  | none =>
    obtain ⟨h1, h2⟩ := ha rfl
    subst h1; subst h2
    go_enter Tryz.func87, Tryz.ntmps87
    go_wp2
    go_ret
    exact ⟨rfl, rfl⟩
  | some ad =>
    clear ha
    go_enter Tryz.func87, Tryz.ntmps87
    go_wp2
    go_ret
    exact ⟨rfl, rfl⟩

def RelPc (o : Int) (codes ws : List Int) (a0 : World) (out i : Value) (wr : World) : Prop := ∃ n : Nat, i = .int .i64 n ∧ n ≤ codes.length ∧ ownU wr a0.heap.size out (packC o (codes.take n) (ws.take n)) ∧ Up a0 wr

set_option maxRecDepth 100000 in
set_option maxHeartbeats 8000000 in
theorem packCI_any (k : KnD) (v : Value) (lo : Nat) (codes : List Int) (vc : Value) (lc : Nat) (w : World) (h : k.Ok) (hv : k.last = -1 → k.base = k.ps.length) (hr : RdP lo w v k.ps) (hc : RdI lc w vc codes) (hl : codes.length ≤ 3100) (hT : (walkN k codes [] []).ok = true) (hD : (walkN k codes [] []).data.length ≤ 2000)
    (hw : (walkN k codes [] []).ws.length = codes.length) (hcb : ∀ x ∈ codes, 0 ≤ x ∧ x ≤ 1048576) (hwb : ∀ x ∈ (walkN k codes [] []).ws, 0 ≤ x ∧ x ≤ 10) :
    Calls Tryz.prog 38  #[kV k v, vc] w (Same (.tuple #[.string (bs (packL k.set.ord (packC k.set.ord codes (walkN k codes [] []).ws))), .bool true]) w) := by
  have cW := fun wx hr hc => walkI_any k v lo codes vc lc wx h hv hr hc hl hT hD
  have hrt := fun (wq : World) (hu : Up w wq) => hr.up hu
  have hct := fun (wq : World) (hu : Up w wq) => hc.up hu
  have ho := (setOk_bd h.set).1
  obtain ⟨a, cap, rfl, -, -, -, -⟩ := hr
  obtain ⟨ac, cc, rfl, hcc1, hcc2, -⟩ := id hc
  unfold maxLen at hcc2
  have hpl := packC_len10 k.set.ord codes _ hwb
  have hib := isBits_packC k.set.ord codes (walkN k codes [] []).ws
  clear hT hD
  generalize walkN k codes [] [] = T at *
  have hwl : T.ws.length ≤ 3100 := by omega
  have cP := fun wx => packBI_any k.set.ord (bs (packC k.set.ord codes T.ws)) wx ho (by rw [bs_data]; exact hib) (by rw [bs_size]; omega)
  rw [bs_data] at cP
  have HW := Lib.hid hw
  have HCB := Lib.hid hcb
  have HWB := Lib.hid hwb
  clear h hv hw hcb hwb hib
  simp only [kV] at *
  go_enter Tryz.func38, Tryz.ntmps38
  go_wp2_with (go_at_call 89; (with_reducible refine (cW _ (hrt _ (by (repeat (first | with_reducible exact Up.refl _ | with_reducible assumption | with_reducible refine Up.set ?_ (by first | exact Nat.le_refl _ | (simp only []; omega) | (simp; omega)) _ | with_reducible refine Up.alloc ?_ _ | with_reducible refine Up.drew ?_ | refine Up.trans ?_ (by with_reducible assumption))))) (hct _ (by (repeat (first | with_reducible exact Up.refl _ | with_reducible assumption | with_reducible refine Up.set ?_ (by first | exact Nat.le_refl _ | (simp only []; omega) | (simp; omega)) _ | with_reducible refine Up.alloc ?_ _ | with_reducible refine Up.drew ?_ | refine Up.trans ?_ (by with_reducible assumption)))))).mono ?_); rintro e w1 ⟨vw, rfl, ho1, U1⟩; obtain ⟨aw, cw, rfl⟩ := ownsRow_shape ho1; have B1 := bcell U1; have HO1 := Lib.hid ho1; clear ho1)
  have hU1 : Up w w1 := by (repeat (first | with_reducible exact Up.refl _ | with_reducible assumption | with_reducible refine Up.set ?_ (by first | exact Nat.le_refl _ | (simp only []; omega) | (simp; omega)) _ | with_reducible refine Up.alloc ?_ _ | with_reducible refine Up.drew ?_ | refine Up.trans ?_ (by with_reducible assumption)))
  have HK1 : KnAt w.heap.size k (.slice a k.ps.length cap) w1 := box_up U1 (MapKept.heap_alloc w _).1
  have HK := Lib.hid HK1
  clear hrt HK1 U1 B1 cW
  go_loopw [9, 23] (fun out i wr => RelPc k.set.ord codes T.ws w1 out i wr) (fun _ i _ => codes.length - (intOf i).toNat)
  case atStart => exact ⟨0, rfl, Nat.zero_le _, World.ownsRow_nil _ _ _ _, Up.refl _⟩
  case round =>
    obtain ⟨n, rfl, hle, hown, hup⟩ := hrel
    have hdl : (packC k.set.ord (codes.take n) (T.ws.take n)).length ≤ 131072 := by
      have := packC_len10 k.set.ord (codes.take n) (T.ws.take n) (fun x hx => HWB.out x (List.mem_of_mem_take hx))
      rw [List.length_take] at this
      omega
    obtain ⟨-, r0, r1, r2, r3, r4, r5⟩ := (HK.out.up hup).cells
    obtain ⟨ad, cd, rfl⟩ := ownsRow_shape hown
    have HOW := Lib.hid hown
    have HUP := Lib.hid hup
    by_cases hlt : n < codes.length
    · have hlt2 : n < T.ws.length := by have := HW.out; omega
      obtain ⟨bc, oc, rfl, hbc1, hbc2, -, -, -, -⟩ := RdI.at (hct _ (hU1.trans hup)) hlt
      obtain ⟨bw, ow, rfl, hbw1, hbw2, -, hbw4, hbw5, -⟩ := RdI.at (RdI.of_own (ownsRow_up HO1.out hup)) hlt2
      have hb := HCB.out _ (List.getElem_mem hlt)
      have hb2 := HWB.out _ (List.getElem_mem hlt2)
      obtain ⟨xn, hxn⟩ := Int.eq_ofNat_of_zero_le hb.1
      obtain ⟨wn, hwn⟩ := Int.eq_ofNat_of_zero_le hb2.1
      have cB := fun wq hu hown => bitsI_any w1 k.set.ord xn wn (.slice ad (packC k.set.ord (codes.take n) (T.ws.take n)).length cd) (packC k.set.ord (codes.take n) (T.ws.take n)) wq ho (by omega) (by omega) (by omega) hu hown
      have HS : Hid (packC k.set.ord (codes.take (n + 1)) (T.ws.take (n + 1)) = packC k.set.ord (codes.take n) (T.ws.take n) ++ codeL k.set.ord xn wn) := by
        unfold Hid
        rw [packC_take k.set.ord HW.out.symm hlt, hxn, hwn]; rfl
      rw [hxn] at hbc2
      rw [hwn] at hbw2
      unfold maxLen at hbw5
      generalize packC k.set.ord (codes.take n) (T.ws.take n) = dn at *
      clear hb hb2 hxn hwn hown hup
      go_wp2
      refine wp_region_upR 9 (by kernel_rfl) (by kernel_rfl) ?_
      simp only [List.take, List.drop]
      repeat (refine wpUp_step (fun K hK => ?_); go_simp; (try simp only [↓IntWalk.iteOmega]); first
        | (refine hK _ _ ?_; clear hK K)
        | (apply stepU_c
           · intro wq hwq; (have hbq := bcell hwq; (repeat (first | refine fills_no (by rfl) ?_ | refine fills_yes (by rfl) (fun vq hvq => ?_))); simp only [List.filter_nil, fills]; unfold upAt; (try ((obtain ⟨-, r0, r1, r2, r3, r4, r5⟩ := (HK.out.up (HUP.out.trans hwq)).cells; have hbw3 := (hwq.cell (p := ⟨bw, ow + n, none⟩) hbw1).trans hbw2))); go_simp; (try go_bits); (try simp only [↓IntWalk.iteOmega]); (try (rw [dif_pos (by omega)]; go_simp; try go_bits)); first | exact upOut_value)
           go_simp; refine hK _ _ ?_; clear hK K))
      refine wpUp_nil (fun wq hwq => ?_)
      simp only [fills]
      go_wp2_with fail
      with_reducible refine (cB _ (HUP.out.trans hwq) (ownsRow_up HOW.out hwq)).mono ?_
      rintro e w5 ⟨v5, rfl, ho5, hU5⟩
      obtain ⟨a5, c5, rfl⟩ := ownsRow_shape (ownsRow_n2 (n' := dn.length + (codeL k.set.ord xn wn).length) ho5 (by simp))
      have HO5 := Lib.hid ho5
      clear ho5
      go_wp2
      go_roundw
      case rel => exact ⟨n + 1, by go_num, by omega, by rw [HS.out]; exact HO5.out, hU5⟩
      case measure => simp [intOf]; omega
    · have e : n = codes.length := by omega
      subst e
      have ht1 : codes.take codes.length = codes := List.take_length
      have ht2 : T.ws.take codes.length = T.ws := by rw [← HW.out]; exact List.take_length
      rw [ht1, ht2] at hown hdl ⊢
      have cv := conv_any hown rfl
      clear hown ht1 ht2 HOW
      generalize packC k.set.ord codes T.ws = dn at *
      go_wp2_with ((go_at_call 13; (with_reducible refine (cP _).mono ?_); rintro e w5 ⟨rfl, U5⟩; have B5 := bcell U5; have Z5 := U5.size; (try simp at Z5); (try rw [Nat.add_one_le_iff] at Z5)))
      go_ret2
      exact ⟨rfl, hU1.trans (hup.trans U5)⟩

/-- What GreedyCodes gives. -/
def GcPost (l : List Int) (w : World) (e : Ending) (w' : World) : Prop := ∃ v, e = .returned (.tuple #[v, .bool true]) ∧ RdI 0 w' v l ∧ Up w w'

set_option maxRecDepth 100000 in
set_option maxHeartbeats 4000000 in
theorem gcodesI_any (k : KnD) (v : Value) (lo : Nat) (d : ByteArray) (w : World) (h : k.Ok) (hv : k.last = -1 → k.base = k.ps.length) (hr : RdP lo w v k.ps) (hd : d.size ≤ 1073741824) :
    Calls Tryz.prog 37  #[kV k v, .string d] w (fun e w' => if fitsB k.set d.data.toList then GcPost (greedy k d.data.toList) w e w' else Same (.tuple #[.slice none 0 0, .bool false]) w e w') := by
  have cV := fun wx hr => kvI_any k v lo wx h hv hr
  obtain ⟨-, hlb, -, -⟩ := setOk_bd h.set
  have cF := fun wx => fitsI_any k.set d wx (by omega) hd
  have hrt := fun (wq : World) (hu : Up w wq) => hr.up hu
  have hlen := ba_len d
  cases hf : fitsB k.set d.data.toList
  · rw [hf] at cF
    simp only [Bool.false_eq_true, if_false]
    obtain ⟨a, cap, rfl, -, -, -, -⟩ := hr
    clear h hv hf
    simp only [kV] at *
    go_enter Tryz.func37, Tryz.ntmps37
    go_wp2_with (first | (go_at_call 39; (with_reducible refine (cV _ (hrt _ (by (repeat (first | with_reducible exact Up.refl _ | with_reducible assumption | with_reducible refine Up.set ?_ (by first | exact Nat.le_refl _ | (simp only []; omega) | (simp; omega)) _ | with_reducible refine Up.alloc ?_ _ | with_reducible refine Up.drew ?_ | refine Up.trans ?_ (by with_reducible assumption)))))).mono ?_); rintro e w1 ⟨rfl, U1⟩; have B1 := bcell U1; have Z1 := U1.size; (try simp at Z1); (try rw [Nat.add_one_le_iff] at Z1)) | (go_at_call 42; (with_reducible refine (cF _).mono ?_); rintro e w2 ⟨rfl, U2⟩; have B2 := bcell U2; have Z2 := U2.size; (try simp at Z2); (try rw [Nat.add_one_le_iff] at Z2)))
    go_ret2
    refine ⟨rfl, ?_⟩
    (repeat (first | with_reducible exact Up.refl _ | with_reducible assumption | with_reducible refine Up.set ?_ (by first | exact Nat.le_refl _ | (simp only []; omega) | (simp; omega)) _ | with_reducible refine Up.alloc ?_ _ | with_reducible refine Up.drew ?_ | refine Up.trans ?_ (by with_reducible assumption)))
  · rw [hf] at cF
    simp only [if_true]
    obtain ⟨-, h2, h3⟩ := fitsB_lits hf
    have cG := fun wx hr => greedy_any k v lo d wx h hr (by omega) h3
    obtain ⟨a, cap, rfl, -, -, -, -⟩ := hr
    clear h hv hf h3
    generalize greedy k d.data.toList = codes at *
    simp only [kV] at *
    go_enter Tryz.func37, Tryz.ntmps37
    go_wp2_with (first | (go_at_call 39; (with_reducible refine (cV _ (hrt _ (by (repeat (first | with_reducible exact Up.refl _ | with_reducible assumption | with_reducible refine Up.set ?_ (by first | exact Nat.le_refl _ | (simp only []; omega) | (simp; omega)) _ | with_reducible refine Up.alloc ?_ _ | with_reducible refine Up.drew ?_ | refine Up.trans ?_ (by with_reducible assumption)))))).mono ?_); rintro e w1 ⟨rfl, U1⟩; have B1 := bcell U1; have Z1 := U1.size; (try simp at Z1); (try rw [Nat.add_one_le_iff] at Z1)) | (go_at_call 42; (with_reducible refine (cF _).mono ?_); rintro e w2 ⟨rfl, U2⟩; have B2 := bcell U2; have Z2 := U2.size; (try simp at Z2); (try rw [Nat.add_one_le_iff] at Z2)) | (go_at_call 88; (with_reducible refine (cG _ (hrt _ (by (repeat (first | with_reducible exact Up.refl _ | with_reducible assumption | with_reducible refine Up.set ?_ (by first | exact Nat.le_refl _ | (simp only []; omega) | (simp; omega)) _ | with_reducible refine Up.alloc ?_ _ | with_reducible refine Up.drew ?_ | refine Up.trans ?_ (by with_reducible assumption)))))).mono ?_); rintro e w3 ⟨v3, rfl, ho3, U3⟩; have hrd3 := RdI.of_own ho3; obtain ⟨a3, c3, rfl⟩ := ownsRow_shape ho3; have hcp3 := ownsRow_cap ho3; have hn3 := nil_row ho3; have HRD := Lib.hid hrd3; clear hrd3 ho3) | (go_at_call 87; (with_reducible refine (clipI_any _ _ _ _ hcp3.1 hcp3.2 hn3).mono ?_); rintro e w' ⟨rfl, rfl⟩))
    go_ret2
    refine ⟨_, rfl, ?_, by (repeat (first | with_reducible exact Up.refl _ | with_reducible assumption | with_reducible refine Up.set ?_ (by first | exact Nat.le_refl _ | (simp only []; omega) | (simp; omega)) _ | with_reducible refine Up.alloc ?_ _ | with_reducible refine Up.drew ?_ | refine Up.trans ?_ (by with_reducible assumption)))⟩
    obtain ⟨a', cap', e1, e2, e3, e4⟩ := HRD.out
    cases e1
    exact ⟨_, _, rfl, Nat.le_refl _, by omega, fun hp => by
      obtain ⟨b, off, f1, f2, f3, f4⟩ := e4 hp
      exact ⟨b, off, f1, Nat.zero_le _, f3, f4⟩⟩

set_option maxRecDepth 100000 in
set_option maxHeartbeats 4000000 in
theorem compI_any (k : KnD) (v : Value) (lo : Nat) (d : ByteArray) (w : World) (h : k.Ok) (hv : k.last = -1 → k.base = k.ps.length) (hr : RdP lo w v k.ps) (hd : d.size ≤ 1073741824) :
    Calls Tryz.prog 10  #[kV k v, .string d] w (Same (optS (compO k d.data.toList)) w) := by
  have cG := fun wx hr => gcodesI_any k v lo d wx h hv hr hd
  have hrt := fun (wq : World) (hu : Up w wq) => hr.up hu
  have hlen := ba_len d
  unfold compO optS
  cases hf : fitsB k.set d.data.toList
  · rw [hf] at cG
    simp only [Bool.false_eq_true, if_false] at cG ⊢
    obtain ⟨a, cap, rfl, -, -, -, -⟩ := hr
    clear h hv hf
    simp only [kV] at *
    go_enter Tryz.func10, Tryz.ntmps10
    go_wp2_with ((go_at_call 37; (with_reducible refine (cG _ (hrt _ (by (repeat (first | with_reducible exact Up.refl _ | with_reducible assumption | with_reducible refine Up.set ?_ (by first | exact Nat.le_refl _ | (simp only []; omega) | (simp; omega)) _ | with_reducible refine Up.alloc ?_ _ | with_reducible refine Up.drew ?_ | refine Up.trans ?_ (by with_reducible assumption)))))).mono ?_); rintro e w1 ⟨rfl, U1⟩; have B1 := bcell U1; have Z1 := U1.size; (try simp at Z1); (try rw [Nat.add_one_le_iff] at Z1)))
    go_ret2
    refine ⟨rfl, ?_⟩
    (repeat (first | with_reducible exact Up.refl _ | with_reducible assumption | with_reducible refine Up.set ?_ (by first | exact Nat.le_refl _ | (simp only []; omega) | (simp; omega)) _ | with_reducible refine Up.alloc ?_ _ | with_reducible refine Up.drew ?_ | refine Up.trans ?_ (by with_reducible assumption)))
  · rw [hf] at cG
    simp only [if_true] at cG ⊢
    obtain ⟨-, h2, h3⟩ := fitsB_lits hf
    obtain ⟨g1, g2, g3, g4, g5⟩ := walk_greedy h h3 (by omega)
    have g6 := greedy_tight h h3 (by omega)
    have cP := fun wx vc hr hc => packCI_any k v lo (greedy k d.data.toList) vc 0 wx h hv hr hc (by omega) g3 (by rw [g2]; omega) g1 (fun x hx => ⟨(g5 x hx).1, by have := (g5 x hx).2; omega⟩) (fun x hx => ⟨by have := (g4 x hx).1; omega, (g4 x hx).2⟩)
    have HE : Hid (compL k d.data.toList = packL k.set.ord (packC k.set.ord (greedy k d.data.toList) (walkN k (greedy k d.data.toList) [] []).ws)) := rfl
    simp only [Option.getD_some, Option.isSome_some]
    rw [HE.out]
    generalize packL k.set.ord (packC k.set.ord (greedy k d.data.toList) (walkN k (greedy k d.data.toList) [] []).ws) = cl at *
    clear g1 g2 g3 g4 g5 g6 HE hf h3
    generalize greedy k d.data.toList = codes at *
    obtain ⟨a, cap, rfl, -, -, -, -⟩ := hr
    clear h hv
    simp only [kV] at *
    go_enter Tryz.func10, Tryz.ntmps10
    go_wp2_with (first | (go_at_call 37; (with_reducible refine (cG _ (hrt _ (by (repeat (first | with_reducible exact Up.refl _ | with_reducible assumption | with_reducible refine Up.set ?_ (by first | exact Nat.le_refl _ | (simp only []; omega) | (simp; omega)) _ | with_reducible refine Up.alloc ?_ _ | with_reducible refine Up.drew ?_ | refine Up.trans ?_ (by with_reducible assumption)))))).mono ?_); rintro e w1 ⟨v1, rfl, hr1, U1⟩; have B1 := bcell U1; have HR1 := Lib.hid hr1; obtain ⟨a1, c1, rfl, -, -, -⟩ := hr1) | (go_at_call 38; (with_reducible refine (cP _ _ (hrt _ (by (repeat (first | with_reducible exact Up.refl _ | with_reducible assumption | with_reducible refine Up.set ?_ (by first | exact Nat.le_refl _ | (simp only []; omega) | (simp; omega)) _ | with_reducible refine Up.alloc ?_ _ | with_reducible refine Up.drew ?_ | refine Up.trans ?_ (by with_reducible assumption))))) HR1.out).mono ?_); rintro e w2 ⟨rfl, U2⟩; have B2 := bcell U2; have Z2 := U2.size; (try simp at Z2); (try rw [Nat.add_one_le_iff] at Z2)))
    go_ret2
    refine ⟨rfl, ?_⟩
    (repeat (first | with_reducible exact Up.refl _ | with_reducible assumption | with_reducible refine Up.set ?_ (by first | exact Nat.le_refl _ | (simp only []; omega) | (simp; omega)) _ | with_reducible refine Up.alloc ?_ _ | with_reducible refine Up.drew ?_ | refine Up.trans ?_ (by with_reducible assumption)))

end Go.Proofs.YtgbakgaegldomaaGreat

/- Walks of GreedyCodes and Compress for what is known and not valid. Conditions: the pairs can be read. -/
namespace Go.Proofs.YtgbakgaegldomaaGreat
set_option linter.unusedVariables false
set_option linter.unusedSimpArgs false
open Go Go.RowKit

set_option maxRecDepth 100000 in
set_option maxHeartbeats 4000000 in
theorem gcodesI_no (k : KnD) (v : Value) (lo : Nat) (d : ByteArray) (w : World) (h : validK k = false) (hl : -9223372036854775808 ≤ k.set.lit ∧ k.set.lit ≤ 9223372036854775807) (hr : RdP lo w v k.ps) (hps : k.ps.length ≤ 1073741824) :
    Calls Tryz.prog 37  #[kV k v, .string d] w (Same (.tuple #[.slice none 0 0, .bool false]) w) := by
  have cV := fun wx hr => kvI_gen k v lo wx hl hr hps
  rw [h] at cV
  have hrt := fun (wq : World) (hu : Up w wq) => hr.up hu
  obtain ⟨a, cap, rfl, -, -, -, -⟩ := hr
  clear h
  simp only [kV] at *
  go_enter Tryz.func37, Tryz.ntmps37
  go_wp2_with ((go_at_call 39; (with_reducible refine (cV _ (hrt _ (by (repeat (first | with_reducible exact Up.refl _ | with_reducible assumption | with_reducible refine Up.set ?_ (by first | exact Nat.le_refl _ | (simp only []; omega) | (simp; omega)) _ | with_reducible refine Up.alloc ?_ _ | with_reducible refine Up.drew ?_ | refine Up.trans ?_ (by with_reducible assumption)))))).mono ?_); rintro e w1 ⟨rfl, U1⟩; have B1 := bcell U1; have Z1 := U1.size; (try simp at Z1); (try rw [Nat.add_one_le_iff] at Z1)))
  go_ret2
  refine ⟨rfl, ?_⟩
  (repeat (first | with_reducible exact Up.refl _ | with_reducible assumption | with_reducible refine Up.set ?_ (by first | exact Nat.le_refl _ | (simp only []; omega) | (simp; omega)) _ | with_reducible refine Up.alloc ?_ _ | with_reducible refine Up.drew ?_ | refine Up.trans ?_ (by with_reducible assumption)))

set_option maxRecDepth 100000 in
set_option maxHeartbeats 4000000 in
theorem compI_no (k : KnD) (v : Value) (lo : Nat) (d : ByteArray) (w : World) (h : validK k = false) (hl : -9223372036854775808 ≤ k.set.lit ∧ k.set.lit ≤ 9223372036854775807) (hr : RdP lo w v k.ps) (hps : k.ps.length ≤ 1073741824) :
    Calls Tryz.prog 10  #[kV k v, .string d] w (Same (optS none) w) := by
  have cG := fun wx hr => gcodesI_no k v lo d wx h hl hr hps
  have hrt := fun (wq : World) (hu : Up w wq) => hr.up hu
  rw [optS_none]
  obtain ⟨a, cap, rfl, -, -, -, -⟩ := hr
  clear h
  simp only [kV] at *
  go_enter Tryz.func10, Tryz.ntmps10
  go_wp2_with ((go_at_call 37; (with_reducible refine (cG _ (hrt _ (by (repeat (first | with_reducible exact Up.refl _ | with_reducible assumption | with_reducible refine Up.set ?_ (by first | exact Nat.le_refl _ | (simp only []; omega) | (simp; omega)) _ | with_reducible refine Up.alloc ?_ _ | with_reducible refine Up.drew ?_ | refine Up.trans ?_ (by with_reducible assumption)))))).mono ?_); rintro e w1 ⟨rfl, U1⟩; have B1 := bcell U1; have Z1 := U1.size; (try simp at Z1); (try rw [Nat.add_one_le_iff] at Z1)))
  go_ret2
  refine ⟨rfl, ?_⟩
  (repeat (first | with_reducible exact Up.refl _ | with_reducible assumption | with_reducible refine Up.set ?_ (by first | exact Nat.le_refl _ | (simp only []; omega) | (simp; omega)) _ | with_reducible refine Up.alloc ?_ _ | with_reducible refine Up.drew ?_ | refine Up.trans ?_ (by with_reducible assumption)))

end Go.Proofs.YtgbakgaegldomaaGreat

/- Compress of both sides for what is known of any kind. Conditions: the pairs can be read, the setting's number of literals is a number of 64 bits. -/
namespace Go.Proofs.YtgbakgaegldomaaGreat
set_option linter.unusedVariables false
set_option linter.unusedSimpArgs false
open Go Go.RowKit

/-- The stream of data, if what is known is valid. -/
def compG (k : KnD) (d : List UInt8) : Option (List UInt8) := if validK k then compO k d else none
theorem compG_none {k : KnD} {d : List UInt8} (h : (validK k && fitsB k.set d) = false) : compG k d = none := by
  unfold compG compO
  cases h1 : validK k
  · rfl
  · rw [h1, Bool.true_and] at h
    rw [h]; rfl
theorem compIG_any (k : KnD) (v : Value) (lo : Nat) (d : ByteArray) (w : World) (hl : -9223372036854775808 ≤ k.set.lit ∧ k.set.lit ≤ 9223372036854775807) (hr : RdP lo w v k.ps) (hps : k.ps.length ≤ 1073741824) (hd : d.size ≤ 1073741824) :
    Calls Tryz.prog 10  #[kV k v, .string d] w (Same (optS (compG k d.data.toList)) w) := by
  unfold compG
  cases h : validK k
  · exact compI_no k v lo d w h hl hr hps
  · obtain ⟨h1, h2⟩ := ok_of_valid h
    exact compI_any k v lo d w h1 h2 hr hd
end Go.Proofs.YtgbakgaegldomaaGreat

/- Writing all parts is compressing their data, whatever is known; the laws' soJoined. Conditions: as each says. -/
namespace Go.Proofs.YtgbakgaegldomaaGreat
set_option linter.unusedVariables false
set_option linter.unusedSimpArgs false
open Go Go.RowKit

/-- The data of all parts. -/
def joinL (ps : List ByteArray) : List UInt8 := (ps.map (·.data.toList)).flatten
theorem joinL_snoc (ps : List ByteArray) (p : ByteArray) : joinL (ps ++ [p]) = joinL ps ++ p.data.toList := by simp [joinL]
theorem joinL_cons (p : ByteArray) (ps : List ByteArray) : joinL (p :: ps) = p.data.toList ++ joinL ps := by simp [joinL]
theorem joinL_take (ps : List ByteArray) {j : Nat} (h : j < ps.length) : joinL (ps.take (j + 1)) = joinL (ps.take j) ++ ps[j].data.toList := by
  rw [List.take_succ_eq_append_getElem h, joinL_snoc]
theorem joinL_len {n : Nat} : ∀ (ps : List ByteArray), (∀ t ∈ ps, t.size ≤ n) → (joinL ps).length ≤ n * ps.length := by
  intro ps
  induction ps with
  | nil => intro _; exact Nat.zero_le _
  | cons p ps ih =>
    intro h
    have h1 := ih fun t ht => h t (List.mem_cons_of_mem _ ht)
    have h2 := h p (List.mem_cons_self ..)
    have h3 : p.data.toList.length = p.size := rfl
    rw [joinL_cons, List.length_append, List.length_cons, Nat.mul_add]
    omega
theorem wdO_wrd {w : WrD} (h : wrOk w) (d : List UInt8) : wdO w d = wrdO w d := by
  unfold wdO wrdO
  rw [wrvB_of h, Bool.true_and]
theorem waW_eq : ∀ (ps : List ByteArray) {w : WrD} {out : List UInt8}, wrOk w → waW w ps out = waO w (ps.map (·.data.toList)) out := by
  intro ps
  induction ps with
  | nil =>
    intro w out h
    rw [waW, List.map_nil, waO, wcO_some (wrvB_of h)]
    rfl
  | cons p ps ih =>
    intro w out h
    rw [waW, List.map_cons, waO, wdO_wrd h]
    have hc := wdO_case (x := w) (d := p.data.toList)
    rw [wdO_wrd h] at hc
    rcases hc with ⟨h1, -, -⟩ | ⟨r, h1, -, -, h4, -⟩
    · rw [h1]
    · rw [h1]
      exact ih h4
theorem waG_comp (k : KnD) (ps : List ByteArray) (hd : (joinL ps).length ≤ 2000) : waG k ps = compG k (joinL ps) := by
  unfold waG compG
  cases hv : validK k
  · rfl
  · rw [if_pos rfl, if_pos rfl, waW_eq ps (wrOk_new hv)]
    exact waO_all (ok_of_valid hv).1 _ hd
theorem compG_long {k : KnD} {d : List UInt8} (h : 2000 < d.length) : compG k d = none := by
  refine compG_none ?_
  cases hv : validK k
  · rfl
  · rw [Bool.true_and]
    cases hf : fitsB k.set d
    · rfl
    · have := (fitsB_lits hf).2.1
      omega

def RelJn (ps : List ByteArray) (w : World) (s i : Value) (wr : World) : Prop := ∃ j : Nat, j ≤ ps.length ∧ s = .string (bs (joinL (ps.take j))) ∧ i = .int .i64 j ∧ w = wr
set_option maxRecDepth 100000 in
set_option maxHeartbeats 2000000 in
theorem soJoined_any (ps : List ByteArray) (v : Value) (w : World) (h : ArgS w v ps) (hn : ps.length ≤ 1000) (hs : ∀ t ∈ ps, t.size ≤ 10000) :
    Calls Tryz.prog 9  #[v] w (fun e w' => e = .returned (.string (bs (joinL ps))) ∧ w = w') := by
  have hat := h
  obtain ⟨a, cap, rfl, hm, hms, -⟩ := h
  unfold maxLen at hm
  go_enter Tryz.func9, Tryz.ntmps9
  go_wp2
  go_loopw [3, 4] (fun s i wr => RelJn ps w s i wr) (fun _ i _ => ps.length - (intOf i).toNat)
  case atStart => exact ⟨0, Nat.zero_le _, rfl, rfl, rfl⟩
  case round =>
    obtain ⟨j, hj, rfl, rfl, rfl⟩ := hrel
    by_cases hlt : j < ps.length
    · obtain ⟨b, off, rfl, hbl, hx, -, hnc, hcm⟩ := hat.at hlt
      have HS := Lib.hid (joinL_take ps hlt)
      have hl1 := joinL_len (n := 10000) (ps.take j) (fun t ht => hs t (List.mem_of_mem_take ht))
      have hl2 : (ps.take j).length ≤ 1000 := by rw [List.length_take]; omega
      have hsm := hs _ (List.getElem_mem hlt)
      have hbz := bs_size (joinL (ps.take j))
      unfold maxLen at hcm
      have hcat : bs (joinL (ps.take j)) ++ ps[j] = bs (joinL (ps.take j) ++ (ps[j]).data.toList) := by rw [← bs_app]; rfl
      generalize joinL (ps.take j) = J at *
      generalize ps[j] = s at *
      have hJ : J.length ≤ 10000000 := by omega
      clear hl1 hl2 hms
      go_wp2
      go_roundw
      case rel => exact ⟨j + 1, by omega, by rw [HS.out, ← hcat], by go_num, rfl⟩
      case measure => simp [intOf]; omega
    · have e : j = ps.length := by omega
      subst e
      rw [List.take_length]
      go_wp2
      go_ret
      exact ⟨rfl, rfl⟩

end Go.Proofs.YtgbakgaegldomaaGreat

/- strings.Builder: copyCheck and WriteString at a builder that the call has made itself. Conditions: the bytes are fewer than 2^47. -/
namespace Go.Proofs.YtgbakgaegldomaaGreat
set_option linter.unusedVariables false
set_option linter.unusedSimpArgs false
open Go Go.RowKit

theorem infoByteB : (Tryz.prog.info? 5).map (fun i => (i.zero, i.size, i.bytes)) = some (some (.int .u8 0), 1, 1) := by kernel_rfl
theorem sizeSb : (Tryz.prog.info? 68).map (·.size) = some 2 := by kernel_rfl
theorem liesSb : liesAt Tryz.prog Tryz.prog.depth 68 (2 / Tryz.prog.cellsOf 68) 0 68 1 = true := by kernel_rfl
abbrev SbAt (B b : Nat) (p : Value) (l : List Value) (w : World) : Prop := Lib.BuilderAt 68 5 B b p l w
abbrev IsSb (B b : Nat) (l : List Value) (w : World) : Prop := Lib.IsBuilder 68 5 B b l w

set_option maxHeartbeats 1000000 in
set_option maxRecDepth 100000 in
theorem sbCheck_used (b : Nat) (w : World) (h0 : w.cell? ⟨b, 0, none⟩ = some (.pointer (some ⟨b, 0, none⟩))) :
    Calls Tryz.prog 74 #[.pointer (some ⟨b, 0, none⟩)] w fun e w' => e = .returned (.tuple #[]) ∧ w' = w := by
  obtain ⟨j, hj, _⟩ := Option.map_eq_some_iff.1 sizeSb
  go_enter Tryz.func74, Tryz.ntmps74
  go_wp2
  rw [Lib.run_neq_ptr_same w _ Tryz.underlying66 hj]
  go_wp2
  go_end0
  exact ⟨rfl, rfl⟩

set_option maxHeartbeats 1000000 in
set_option maxRecDepth 100000 in
theorem sbCheck_fresh (b : Nat) (w : World) (h0 : w.cell? ⟨b, 0, none⟩ = some (.pointer none)) (hsh : w.shape? b = some (68, 2)) (hfz : w.frozen? ⟨b, 0, none⟩ = false) :
    Calls Tryz.prog 74 #[.pointer (some ⟨b, 0, none⟩)] w fun e w' => e = .returned (.tuple #[]) ∧ w' = w.setCell ⟨b, 0, none⟩ (.pointer (some ⟨b, 0, none⟩)) := by
  obtain ⟨j, hj, hjs⟩ := Option.map_eq_some_iff.1 sizeSb
  go_enter Tryz.func74, Tryz.ntmps74
  go_wp2
  rw [Lib.run_to_unsafe w ⟨b, 0, none⟩ Tryz.underlying66 Tryz.underlying149 hj (by rw [hjs]; decide) hsh (Nat.zero_lt_succ 1)]
  simp only [Result.andThen]
  rw [Oper.upon_value]
  go_wp2
  rw [run_callFunc_extern Tryz.func116 (by kernel_rfl) (by kernel_rfl) (by kernel_rfl) (e := Extern.AbiNoEscape.same) (by kernel_rfl)]
  rw [Lib.run_noEscape]
  simp only [Result.andThen]
  rw [Oper.upon_value]
  go_wp2
  rw [Lib.run_from_unsafe w ⟨b, 0, none⟩ Tryz.underlying149 Tryz.underlying66 hj hsh liesSb]
  simp only [Result.andThen]
  rw [Oper.upon_value]
  go_wp2
  go_end0
  exact ⟨rfl, rfl⟩

end Go.Proofs.YtgbakgaegldomaaGreat

/- strings.Builder: what WriteString leaves as it was; rows of pairs behind it. Conditions: the bytes are fewer than 2^47. -/
namespace Go.Proofs.YtgbakgaegldomaaGreat
set_option linter.unusedVariables false
set_option linter.unusedSimpArgs false
open Go Go.RowKit

/-- A builder whose row is known. -/
def SbV (B b : Nat) (v : Value) (l : List UInt8) (w : World) : Prop := B ≤ b ∧ (∃ p, (p = .pointer none ∨ p = .pointer (some ⟨b, 0, none⟩)) ∧ w.heap[b]? = some (.cells #[p, v] 68)) ∧ w.ownsRow B 5 1 v l.length (Lib.byteCells l) ∧ v.ownBlock ≠ some b
theorem SbV.is {B b : Nat} {v : Value} {l : List UInt8} {w : World} (h : SbV B b v l w) : IsSb B b (Lib.byteCells l) w := by
  obtain ⟨h1, ⟨p, hp, h2⟩, h3, h4⟩ := h
  have h3' : w.ownsRow B 5 1 v (Lib.byteCells l).length (Lib.byteCells l) := by rw [Lib.byteCells_length]; exact h3
  rcases hp with rfl | rfl
  · exact .inl ⟨h1, v, h2, h3', h4⟩
  · exact .inr ⟨h1, v, h2, h3', h4⟩
theorem SbV.up {B b : Nat} {v : Value} {l : List UInt8} {w w' : World} (h : SbV B b v l w) (hu : Up w w') : SbV B b v l w' := by
  obtain ⟨h1, ⟨p, hp, h2⟩, h3, h4⟩ := h
  exact ⟨h1, ⟨p, hp, box_up hu h2⟩, ownsRow_up h3 hu, h4⟩
theorem SbV.lt {B b : Nat} {v : Value} {l : List UInt8} {w : World} (h : SbV B b v l w) : b < w.heap.size ∧ ∀ k, v.ownBlock = some k → B ≤ k ∧ k < w.heap.size := by
  obtain ⟨h1, ⟨p, hp, h2⟩, h3, h4⟩ := h
  exact ⟨(Array.getElem?_eq_some_iff.1 h2).1, h3.lt⟩
theorem SbV.gr {B b : Nat} {v : Value} {l : List UInt8} {w w' : World} (h : SbV B b v l w) {g : Nat} (hg : w.grownBy w' (some g)) (hl : g < B) : SbV B b v l w' := by
  obtain ⟨h1, ⟨p, hp, h2⟩, h3, h4⟩ := h
  refine ⟨h1, ⟨p, hp, gbox hg h2 (fun e => by cases e; omega)⟩, h3.kept hg ?_, h4⟩
  cases hv : v.ownBlock with
  | none => exact .inl rfl
  | some k => exact .inr fun e => by have := (h3.lt k hv).1; cases e; omega
theorem sbV_new (w : World) : SbV w.heap.size w.heap.size (.slice none 0 0) [] (w.alloc (.cells #[.pointer none, .slice none 0 0] 68)) :=
  ⟨Nat.le_refl _, ⟨_, .inl rfl, (MapKept.heap_alloc w _).1⟩, World.ownsRow_nil _ _ _ _, by simp [Value.ownBlock]⟩
theorem sbCells_app (a : List UInt8) (s : ByteArray) : Lib.byteCells a ++ Lib.strCells s = Lib.byteCells (a ++ s.data.toList) := by simp [Lib.strCells, Lib.byteCells]

set_option maxHeartbeats 2000000 in
set_option maxRecDepth 100000 in
theorem sbW_any (B b : Nat) (v : Value) (l : List UInt8) (s : ByteArray) (w : World) (h : SbV B b v l w) (hlen : l.length + s.size ≤ 140737488355328) (hBw : B ≤ w.heap.size) :
    Calls Tryz.prog 31 #[.pointer (some ⟨b, 0, none⟩), .string s] w fun e w' => e = .returned (.tuple #[.int .i64 s.size, .nilIface]) ∧ (∃ v', SbV B b v' (l ++ s.data.toList) w') ∧ Below B w w' ∧ w.heap.size ≤ w'.heap.size ∧ ∀ k, k < w.heap.size → k ≠ b → v.ownBlock ≠ some k → w'.heap[k]? = w.heap[k]? := by
  obtain ⟨i0, hi, hz0, hz1, hz2⟩ := info_parts infoByteB
  obtain ⟨hB, ⟨p, hp, hbk⟩, hown, hne⟩ := h
  have hlt : b < w.heap.size := (Array.getElem?_eq_some_iff.1 hbk).1
  have hK : ∀ wx, wx = w → Calls Tryz.prog 74 #[.pointer (some ⟨b, 0, none⟩)] wx (fun e w' => e = .returned (.tuple #[]) ∧ w'.heap[b]? = some (.cells #[.pointer (some ⟨b, 0, none⟩), v] 68) ∧ w.grownBy w' (some b) ∧ Below B w w' ∧ w'.heap.size = w.heap.size) := by
    rintro wx rfl
    rcases hp with rfl | rfl
    · have hA : SbAt B b (.pointer none) (Lib.byteCells l) wx := ⟨hB, v, hbk, by rw [Lib.byteCells_length]; exact hown, hne⟩
      refine (sbCheck_fresh b wx hA.cell0 hA.shape hA.frozen0).mono ?_
      rintro e w' ⟨rfl, rfl⟩
      refine ⟨rfl, ?_, grownBy_set (grownBy_refl _ _) _ _, (Below.refl B wx).setCell (p := ⟨b, 0, none⟩) hB _, by simp [World.setCell]⟩
      have := box_set hbk 0 (.pointer (some ⟨b, 0, none⟩))
      simpa using this
    · have hA : SbAt B b (.pointer (some ⟨b, 0, none⟩)) (Lib.byteCells l) wx := ⟨hB, v, hbk, by rw [Lib.byteCells_length]; exact hown, hne⟩
      refine (sbCheck_used b wx hA.cell0).mono ?_
      rintro e w' ⟨rfl, rfl⟩
      exact ⟨rfl, hbk, grownBy_refl _ _, Below.refl B _, rfl⟩
  have hnb : v.ownBlock = none ∨ v.ownBlock ≠ some b := .inr hne
  clear hp hbk
  go_enter Tryz.func31, Tryz.ntmps31
  go_wp2_with fail
  (with_reducible refine (hK _ rfl).mono ?_)
  rintro e w1 ⟨rfl, hbk, hg1, hb1, hsz1⟩
  have hown := hown.kept hg1 hnb
  have c0 : w1.cell? ⟨b, 0, none⟩ = some (.pointer (some ⟨b, 0, none⟩)) := by rw [Lib.cell_of_heap hbk]; rfl
  have c1 : w1.cell? ⟨b, 1, none⟩ = some v := by rw [Lib.cell_of_heap hbk]; rfl
  have HW := Lib.hid (And.intro hg1 (And.intro hb1 hsz1))
  clear hK hg1
  go_wp2_with (at_builtin; refine Lib.wpList_append_own_string _ rfl _ _ 22 9 rfl B 5 i0 Tryz.underlying22 Tryz.underlying9 hi hz0 hz1 hz2 _ _ _ rfl hown s rfl ?c3 ?c4 ?c5 ?_)
  case c3 => unfold maxLen; omega
  case c4 => omega
  case c5 => omega
  intro v' w2 hown' hgrow _
  have hlt1 : b < w1.heap.size := by omega
  have hb2 : w2.heap[b]? = some (.cells #[.pointer (some ⟨b, 0, none⟩), v] 68 (0, 0)) := by
    rw [hgrow.block b hlt1 (fun e => hne e.symm)]
    exact hbk
  have d0 : w2.cell? ⟨b, 0, none⟩ = some (.pointer (some ⟨b, 0, none⟩)) := by rw [Lib.cell_of_heap hb2]; rfl
  have d1 : w2.cell? ⟨b, 1, none⟩ = some v := by rw [Lib.cell_of_heap hb2]; rfl
  have f1 : w2.frozen? ⟨b, 1, none⟩ = false := Lib.frozen_of_heap hb2 1
  obtain ⟨ao, n', cap, rfl⟩ : ∃ ao n' cap, v' = .slice ao n' cap := by
    rcases hown'.2 with ⟨hv, _⟩ | ⟨g, cap, cur, hv, _⟩
    · exact ⟨_, _, _, hv⟩
    · exact ⟨_, _, _, hv⟩
  have HG := Lib.hid hgrow
  have HV := Lib.hid (And.intro hown hne)
  clear hgrow hsz1 hb1
  go_wp2
  go_ret2
  rw [sbCells_app] at hown'
  have hlen2 : (l ++ s.data.toList).length = l.length + s.size := by rw [List.length_append]; rfl
  refine ⟨rfl, ⟨.slice ao n' cap, ?_⟩, ?_, ?_, ?_⟩
  · obtain ⟨q1, u, q2, q3, q4⟩ := Lib.BuilderAt.put (T := 68) (e := 5) hB hb2 (bs' := Lib.byteCells (l ++ s.data.toList)) (v' := .slice ao n' cap) (by rw [Lib.byteCells_length, hlen2]; exact hown') (by decide)
    have hu : u = .slice ao n' cap := by
      have hx := box_set hb2 1 (.slice ao n' cap)
      have := q2.symm.trans hx
      simpa using this
    subst hu
    exact ⟨q1, ⟨_, .inr rfl, q2⟩, by rw [Lib.byteCells_length] at q3; exact q3, q4⟩
  · exact (HW.out.2.1.grown HG.out (by have := HW.out.2.1.size; omega) (fun k hk => (HV.out.1.lt k hk).1)).setCell (p := ⟨b, 1, none⟩) hB _
  · have h1 := HG.out.size; have h2 := HW.out.2.2; simp [World.setCell]; omega
  · intro k hk hkb hkv
    have h2 := HW.out.2.2
    rw [Below.heap_setCell _ _ _ _ (fun e => hkb (by simpa using e))]
    rw [HG.out.block k (by omega) (fun e => hkv e.symm)]
    exact HW.out.1.block k hk (fun e => hkb (by cases e; rfl))
/-- What String gives. -/
theorem sbS_any (B b : Nat) (v : Value) (l : List UInt8) (w : World) (h : SbV B b v l w) (hB : B ≤ w.heap.size) :
    Calls Tryz.prog 33 #[.pointer (some ⟨b, 0, none⟩)] w (fun e w' => e = .returned (.string (bs l)) ∧ Below B w w') :=
  (Tryz.Builder_String_any_f B b l w (Lib.IsBuilderF.of h.is) hB).mono fun e w' ⟨he, h1, h2⟩ => ⟨he, h2⟩
/-- Pairs whose row lies where all stays. -/
theorem RdP.frame {lo : Nat} {w w' : World} {v : Value} {ps : List PairD} (h : RdP lo w v ps) (hz : w.heap.size ≤ w'.heap.size) (hf : ∀ k, lo ≤ k → k < w.heap.size → w'.heap[k]? = w.heap[k]?) : RdP lo w' v ps := by
  obtain ⟨a, cap, h1, h2, h2', h2'', h3⟩ := h
  refine ⟨a, cap, h1, h2, h2', h2'', fun hp => ?_⟩
  obtain ⟨b, off, e1, e2, e4, e5⟩ := h3 hp
  have hc : ∀ i, w'.cell? ⟨b, i, none⟩ = w.cell? ⟨b, i, none⟩ := fun i => by unfold World.cell?; rw [hf b e2 e4]
  exact ⟨b, off, e1, e2, Nat.lt_of_lt_of_le e4 hz, fun i p hi => ⟨(hc _).trans (e5 i p hi).1, (hc _).trans (e5 i p hi).2⟩⟩

end Go.Proofs.YtgbakgaegldomaaGreat

/- WriteAll of the program, for what is known of any kind and any parts. Conditions: the parts are at most 2^20, each of at most 2^20 bytes. -/
namespace Go.Proofs.YtgbakgaegldomaaGreat
set_option linter.unusedVariables false
set_option linter.unusedSimpArgs false
open Go Go.RowKit

theorem alloc_sz (w : World) (o : Obj) : (w.alloc o).heap.size = w.heap.size + 1 := by simp
def RelWi (T : Option (List UInt8)) (ps : List ByteArray) (b : Nat) (w1 : World) (i : Value) (wr : World) : Prop := ∃ (j : Nat) (x : WrD) (v u : Value) (out' : List UInt8),
  i = .int .i64 j ∧ WaAt T ps j true x out' ∧ WrAt b x v wr ∧ RdP 0 wr v x.k.ps ∧ SbV (b + 1) (b + 1) u out' wr ∧ Up w1 wr

set_option maxRecDepth 100000 in
set_option maxHeartbeats 8000000 in
theorem waI_any (k : KnD) (v vp : Value) (lo : Nat) (ps : List ByteArray) (w : World) (hl : -9223372036854775808 ≤ k.set.lit ∧ k.set.lit ≤ 9223372036854775807) (hr : RdP lo w v k.ps) (hps : k.ps.length ≤ 1048576) (hp : ArgS w vp ps) (hn : ps.length ≤ 1048576) (hsz : ∀ s ∈ ps, s.size ≤ 1048576) :
    Calls Tryz.prog 7  #[kV k v, vp] w (Same (optS (waG k ps)) w) := by
  have cN := fun wq hr => nwI_any k v lo wq hl hr hps
  have hrt := fun (wq : World) (hu : Up w wq) => hr.up hu
  have hpt := fun (wq : World) (hu : Up w wq) => hp.up hu
  have hS := WaAt.start k ps
  obtain ⟨a, cap, rfl, -, -, -, -⟩ := id hr
  obtain ⟨ap, cp, rfl, hpm, -, -⟩ := id hp
  obtain ⟨T, hT⟩ : ∃ T, Hid (T = waG k ps) := ⟨_, rfl⟩
  rw [← hT.out] at hS ⊢
  unfold maxLen at hpm
  simp only [kV] at *
  go_enter Tryz.func7, Tryz.ntmps7
  go_wp2_with fail
  (with_reducible refine (cN _ (hrt _ (by (repeat (first | with_reducible exact Up.refl _ | with_reducible assumption | with_reducible refine Up.set ?_ (by first | exact Nat.le_refl _ | (simp only []; omega) | (simp; omega)) _ | with_reducible refine Up.alloc ?_ _ | with_reducible refine Up.drew ?_ | refine Up.trans ?_ (by with_reducible assumption)))))).mono ?_); rintro e w1 hP; obtain ⟨v1, rfl, ho1, U1⟩ := nwP_all hP
  obtain ⟨a1, c1, rfl⟩ := ownsRow_shape ho1
  have hU1 : Up w w1 := by (repeat (first | with_reducible exact Up.refl _ | with_reducible assumption | with_reducible refine Up.set ?_ (by first | exact Nat.le_refl _ | (simp only []; omega) | (simp; omega)) _ | with_reducible refine Up.alloc ?_ _ | with_reducible refine Up.drew ?_ | refine Up.trans ?_ (by with_reducible assumption)))
  generalize nwX k = x0 at *
  generalize validK k = ok0 at *
  clear hP U1 cN hr hp
  unfold wrV
  cases ok0
  · have HT0 := Lib.hid (hS.no rfl).2
    clear hS
    go_wp2_with fail
    go_ret2
    refine ⟨by rw [HT0.out]; rfl, ?_⟩
    (repeat (first | with_reducible exact Up.refl _ | with_reducible assumption | with_reducible refine Up.set ?_ (by first | exact Nat.le_refl _ | (simp only []; omega) | (simp; omega)) _ | with_reducible refine Up.alloc ?_ _ | with_reducible refine Up.drew ?_ | refine Up.trans ?_ (by with_reducible assumption)))
  have hS := Lib.hid hS
  go_wp2_with fail
  have hX1 : WrAt w1.heap.size x0 (.slice a1 x0.k.ps.length c1) (w1.alloc (.cells #[.int .i64 x0.k.set.ord, .int .i64 x0.k.set.lit, .int .i64 x0.k.set.most, .slice a1 x0.k.ps.length c1, .int .i64 x0.k.base, .int .i64 x0.k.last, .string (bs x0.pend), .string (bs x0.bits), .bool x0.beg] 37)) := (MapKept.heap_alloc w1 _).1
  have hUa : Up w1 (w1.alloc (.cells #[.int .i64 x0.k.set.ord, .int .i64 x0.k.set.lit, .int .i64 x0.k.set.most, .slice a1 x0.k.ps.length c1, .int .i64 x0.k.base, .int .i64 x0.k.last, .string (bs x0.pend), .string (bs x0.bits), .bool x0.beg] 37)) := (Up.refl _).alloc _
  have hUb : Up (w1.alloc (.cells #[.int .i64 x0.k.set.ord, .int .i64 x0.k.set.lit, .int .i64 x0.k.set.most, .slice a1 x0.k.ps.length c1, .int .i64 x0.k.base, .int .i64 x0.k.last, .string (bs x0.pend), .string (bs x0.bits), .bool x0.beg] 37)) ((w1.alloc (.cells #[.int .i64 x0.k.set.ord, .int .i64 x0.k.set.lit, .int .i64 x0.k.set.most, .slice a1 x0.k.ps.length c1, .int .i64 x0.k.base, .int .i64 x0.k.last, .string (bs x0.pend), .string (bs x0.bits), .bool x0.beg] 37)).alloc (.cells #[.pointer none, .slice none 0 0] 68)) := (Up.refl _).alloc _
  have hZ1 : (w1.alloc (.cells #[.int .i64 x0.k.set.ord, .int .i64 x0.k.set.lit, .int .i64 x0.k.set.most, .slice a1 x0.k.ps.length c1, .int .i64 x0.k.base, .int .i64 x0.k.last, .string (bs x0.pend), .string (bs x0.bits), .bool x0.beg] 37)).heap.size = w1.heap.size + 1 := alloc_sz _ _
  have hB1 := sbV_new (w1.alloc (.cells #[.int .i64 x0.k.set.ord, .int .i64 x0.k.set.lit, .int .i64 x0.k.set.most, .slice a1 x0.k.ps.length c1, .int .i64 x0.k.base, .int .i64 x0.k.last, .string (bs x0.pend), .string (bs x0.bits), .bool x0.beg] 37))
  rw [hZ1] at hB1
  have hr1 : RdP 0 ((w1.alloc (.cells #[.int .i64 x0.k.set.ord, .int .i64 x0.k.set.lit, .int .i64 x0.k.set.most, .slice a1 x0.k.ps.length c1, .int .i64 x0.k.base, .int .i64 x0.k.last, .string (bs x0.pend), .string (bs x0.bits), .bool x0.beg] 37)).alloc (.cells #[.pointer none, .slice none 0 0] 68)) (.slice a1 x0.k.ps.length c1) x0.k.ps := (((RdP.of_own ho1).low (Nat.zero_le _)).up hUa).up hUb
  have HL0 := Lib.hid (And.intro (hX1.up hUb) (And.intro (hUa.trans hUb) (And.intro hr1 hB1)))
  clear hX1 hUa hUb hr1 hB1 ho1 hZ1
  generalize (w1.alloc (.cells #[.int .i64 x0.k.set.ord, .int .i64 x0.k.set.lit, .int .i64 x0.k.set.most, .slice a1 x0.k.ps.length c1, .int .i64 x0.k.base, .int .i64 x0.k.last, .string (bs x0.pend), .string (bs x0.bits), .bool x0.beg] 37)).alloc (.cells #[.pointer none, .slice none 0 0] 68) = W at *
  go_loopw [22] (fun i wr => RelWi T ps w1.heap.size w1 i wr) (fun i _ => ps.length - (intOf i).toNat)
  case atStart => exact ⟨0, x0, _, _, [], rfl, hS.out, HL0.out.1, HL0.out.2.2.1, HL0.out.2.2.2, HL0.out.2.1⟩
  case round =>
    clear HL0 hS
    obtain ⟨j, x, v, u, out', rfl, hM, hX, hrx, hSb, hU⟩ := hrel
    have hUw := hU1.trans hU
    obtain ⟨hb1, hb2, hb3, hb4⟩ := hM.bd
    have hol := hM.len
    have hj := hM.le
    have hos := bs_size out'
    have hsl1 := hSb.lt.1
    obtain ⟨av, cv, rfl, -⟩ := id hrx
    obtain ⟨hbk, r0, r1, r2, r3, r4, r5, r6, r7, r8⟩ := hX.cells
    by_cases hlt : j < ps.length
    · obtain ⟨gb, off, rfl, hgb, hgk, -, hnc, hcm⟩ := (hpt _ hUw).at hlt
      unfold maxLen at hcm
      have hs1 := hsz _ (List.getElem_mem hlt)
      obtain ⟨hN, hNl⟩ := hM.next hlt
      have HN := Lib.hid hN
      have hsl : (ps[j]).data.toList.length = (ps[j]).size := rfl
      have cI1 : ∀ wq v, RdP 0 wq v x.k.ps → Calls Tryz.prog 12  #[wrV x v, .string (ps[j])] wq (WdPost (wdO x (ps[j]).data.toList) wq) := fun wq v h => wdI_any x v 0 (ps[j]).data.toList wq hb1 h hb2 hb3 hb4 (by omega)
      clear hN hM hsl
      generalize wdO x (ps[j]).data.toList = X at *
      generalize ps[j] = s1 at *
      have hyl := bs_size (oBy X)
      unfold wrV at cI1
      have HSb := Lib.hid hSb
      have HX := Lib.hid hX
      clear hSb hX
      have hgw : gb < wr.heap.size := hgb
      go_wp2_with fail
      (with_reducible refine (cI1 _ _ hrx).mono ?_); rintro e w5 hP; obtain ⟨v5, rfl, ho5, U5⟩ := wdP_all hP
      obtain ⟨a5, c5, rfl⟩ := ownsRow_shape ho5
      clear hP cI1 hrx
      have hXq := HX.out.up U5
      generalize oWr X = y1 at *
      generalize oBy X = by1 at *
      generalize X.isSome = ok1 at *
      have hK2 : WrAt w1.heap.size y1 (.slice a5 y1.k.ps.length c5) (WrW w5 w1.heap.size y1 (.slice a5 y1.k.ps.length c5)) := WrAt.store hXq y1 _
      have hr9 : RdP wr.heap.size (WrW w5 w1.heap.size y1 (.slice a5 y1.k.ps.length c5)) (.slice a5 y1.k.ps.length c5) y1.k.ps := by
        unfold WrW KnW
        (repeat (with_reducible refine RdP.set ?_ hbk _ _)); exact RdP.of_own ho5
      have hU9 : Up w1 (WrW w5 w1.heap.size y1 (.slice a5 y1.k.ps.length c5)) := WrW.up (hU.trans U5) (Nat.le_refl _) y1 _
      have hgw : w5.grownBy (WrW w5 w1.heap.size y1 (.slice a5 y1.k.ps.length c5)) (some w1.heap.size) := by
        unfold WrW KnW
        (repeat (with_reducible refine grownBy_set ?_ _ _)); exact grownBy_refl _ _
      have hS9 := (HSb.out.up U5).gr hgw (Nat.lt_succ_self _)
      have HH := Lib.hid (And.intro hK2 (And.intro hr9 (And.intro hU9 (And.intro hS9 HSb.out.lt))))
      have hz9 := hU9.size
      obtain ⟨hbq, q0, q1, q2, q3, q4, q5, q6, q7, q8⟩ := hXq.cells
      have hfr := box_free hXq
      clear hK2 hr9 hU9 hXq ho5 r0 r1 r2 r3 r4 r5 r6 r7 r8 hgw HX hS9 HSb
      unfold wrV
      go_simp
      iterate 20 go_step
      rw [show (((((((((w5.setCell ⟨w1.heap.size, 0, none⟩ (.int .i64 y1.k.set.ord)).setCell ⟨w1.heap.size, 1, none⟩ (.int .i64 y1.k.set.lit)).setCell ⟨w1.heap.size, 2, none⟩ (.int .i64 y1.k.set.most)).setCell ⟨w1.heap.size, 3, none⟩ (.slice a5 y1.k.ps.length c5)).setCell ⟨w1.heap.size, 4, none⟩ (.int .i64 y1.k.base)).setCell ⟨w1.heap.size, 5, none⟩ (.int .i64 y1.k.last)).setCell ⟨w1.heap.size, 6, none⟩ (.string (bs y1.pend))).setCell ⟨w1.heap.size, 7, none⟩ (.string (bs y1.bits))).setCell ⟨w1.heap.size, 8, none⟩ (.bool y1.beg)) = WrW w5 w1.heap.size y1 (.slice a5 y1.k.ps.length c5) from rfl]
      generalize WrW w5 w1.heap.size y1 (.slice a5 y1.k.ps.length c5) = W9 at *
      clear q0 q1 q2 q3 q4 q5 q6 q7 q8 hfr hbq U5
      cases ok1
      · have HT0 := Lib.hid (HN.out.no rfl).2
        go_wp2_with fail
        go_ret2
        exact ⟨by rw [HT0.out]; rfl, hU1.trans HH.out.2.2.1⟩
      · have hlt2 := HH.out.2.2.2.1.lt.1
        have cW := sbW_any (w1.heap.size + 1) (w1.heap.size + 1) u out' (bs by1) W9 HH.out.2.2.2.1 (by omega) (by omega)
        go_wp2_with fail
        (with_reducible refine cW.mono ?_); rintro e w10 ⟨rfl, ⟨u', hS'⟩, hb10, hz10, hf10⟩
        rw [bs_data] at hS'
        have hX' : WrAt w1.heap.size y1 (.slice a5 y1.k.ps.length c5) w10 := (hb10.block _ (Nat.lt_succ_self _)).trans HH.out.1
        have hr' : RdP 0 w10 (.slice a5 y1.k.ps.length c5) y1.k.ps := (RdP.frame HH.out.2.1 hz10 (fun k h1 h2 => hf10 k h2 (by omega) (fun e => by have := (HH.out.2.2.2.2.2 k e).2; omega))).low (Nat.zero_le _)
        have hU' : Up w1 w10 := Below.trans HH.out.2.2.1 (hb10.mono (Nat.le_succ _))
        have HF := Lib.hid (And.intro hX' (And.intro hr' (And.intro hU' hS')))
        clear hX' hr' hU' hS' hb10 hf10 cW
        go_wp2_with fail
        go_roundw
        case rel => exact ⟨j + 1, y1, _, u', out' ++ by1, by go_num, HN.out, HF.out.1, HF.out.2.1, HF.out.2.2.2, HF.out.2.2.1⟩
        case measure => simp [intOf]; omega
    · obtain ⟨h1, h2, h3⟩ := hM.fin (by omega)
      have cC := fun wq h => wcI_any x (.slice av x.k.ps.length cv) 0 wq hb1 h hb2 hb3 hb4
      rw [h1] at cC
      have hcs := bs_size x.close
      have hcat : bs out' ++ bs x.close = bs (out' ++ x.close) := bs_app _ _
      have HT2 := Lib.hid h2
      clear h1 h2 hM
      unfold optS at cC
      simp only [Option.getD_some, Option.isSome_some] at cC
      unfold wrV at cC
      generalize x.close = cl at *
      have HSb := Lib.hid hSb
      clear hSb
      go_wp2_with fail
      (with_reducible refine (cC _ hrx).mono ?_); rintro e w7 ⟨rfl, U7⟩
      have hz7 := U7.size
      go_wp2_with fail
      (with_reducible refine (sbS_any _ _ u out' w7 (HSb.out.up U7) (by omega)).mono ?_); rintro e w8 ⟨rfl, hb8⟩
      have hU8 : Up w w8 := hU1.trans (Below.trans (hU.trans U7) (hb8.mono (Nat.le_succ _)))
      clear hb8
      go_wp2_with fail
      go_ret2
      exact ⟨by rw [HT2.out]; rfl, hU8⟩

end Go.Proofs.YtgbakgaegldomaaGreat

