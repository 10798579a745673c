/- Walks of the program's advance and walkCodes. Conditions: what is known is valid and can be read; the codes can follow, and their data fits. -/
import Derived.Test.YtgbakgaegldomaaGreatWc
import Derived.Test.YtgbakgaegldomaaGreatGw2
import Derived.Test.YtgbakgaegldomaaGreatFu
namespace Go.Proofs.YtgbakgaegldomaaGreat
set_option linter.unusedVariables false
set_option linter.unusedSimpArgs false
open Go Go.RowKit

/-- What advance leaves: what is known, its pairs in the row that was there or in a new one. -/
def AdvPost (k : KnD) (B : Nat) (v : Value) (w : World) (e : Ending) (w' : World) : Prop := ∃ v', e = .returned (kV k v') ∧ ownPr w' B v' k.ps ∧ Fr (fun b => v.ownBlock = some b) w w'

set_option maxRecDepth 100000 in
set_option maxHeartbeats 4000000 in
theorem advC_any (k : KnD) (v : Value) (B : Nat) (y : Int) (w : World) (h : k.Ok) (hB : B ≤ w.heap.size) (hown : ownPr w B v k.ps) :
    Calls Tryz.prog 105  #[kV k v, .int .i64 (k.c : Nat), .int .u8 y] w (AdvPost k.cleared B v w) := by
  have h0 := h.base0
  have h1 := h.base1
  have hpl := h.nums.2.2.2.1
  have cK := fun w => clearI_any k.set w h.set
  obtain ⟨m, hm⟩ : ∃ m : Nat, k.base = m := ⟨k.base.toNat, by omega⟩
  have hml : m ≤ k.ps.length := by omega
  have e : Hid (k.cleared = ⟨k.set, k.ps.take m, m, -1⟩) := by unfold Hid KnD.cleared; rw [hm]; rfl
  obtain ⟨a, cap, rfl⟩ := ownsRow_shape hown
  have hcp := ownsRow_cap hown
  have hcut := ownsRow_cut hown hml
  rw [cellsPr_take] at hcut
  have hlt : (k.ps.take m).length = m := by rw [List.length_take]; omega
  have HC : Hid (ownPr w B (.slice a m cap) (k.ps.take m)) := by unfold Hid ownPr; rw [hlt]; exact hcut
  have ec : k.c = clr k.set := rfl
  have hnil : a = none → m = 0 ∧ cap = 0 := fun ha => by
    subst ha
    rcases hown.2 with ⟨e1, e2⟩ | ⟨g, cp, cur, e1, _⟩
    · simp only [Value.slice.injEq] at e1; exact ⟨by omega, e1.2.2⟩
    · simp at e1
  have HK0 : KnAt w.heap.size k (.slice a k.ps.length cap) (w.alloc (.cells #[.int .i64 k.set.ord, .int .i64 k.set.lit, .int .i64 k.set.most, .slice a k.ps.length cap, .int .i64 k.base, .int .i64 k.last] 27)) := (MapKept.heap_alloc w _).1
  rw [e.out, ec]
  simp only [kV]
  rw [hm] at HK0 ⊢
  clear h e hown hcut hlt h0 h1 ec
  cases a with
  | none =>
    obtain ⟨e1, e2⟩ := hnil rfl
    subst e1; subst e2
    go_enter Tryz.func105, Tryz.ntmps105
    go_wp2_with ((go_at_call 47; (with_reducible refine (cK _).mono ?_); rintro e w1 ⟨rfl, U1⟩; have B1 := bcell U1; have Z1 := U1.size; (try simp at Z1); (try rw [Nat.add_one_le_iff] at Z1)); obtain ⟨hb0, r0, r1, r2, r3, r4, r5⟩ := box_up U1 (box_up ((Up.refl _).alloc _) (MapKept.heap_alloc w (.cells #[.int .i64 k.set.ord, .int .i64 k.set.lit, .int .i64 k.set.most, .slice none k.ps.length 0, .int .i64 ((0 : Nat) : Int), .int .i64 k.last] 27)).1) |> fun h => KnAt.cells (b := w.heap.size) (k := ⟨k.set, [], ((0 : Nat) : Int), k.last⟩) (v := .slice none k.ps.length 0) h; have hf0 := box_free (box_up U1 (box_up ((Up.refl _).alloc _) (MapKept.heap_alloc w (.cells #[.int .i64 k.set.ord, .int .i64 k.set.lit, .int .i64 k.set.most, .slice none k.ps.length 0, .int .i64 ((0 : Nat) : Int), .int .i64 k.last] 27)).1)); obtain ⟨hb1, q0, q1, q2, q3, q4, q5⟩ := KnAt.cells (b := w.heap.size + 1) (k := ⟨⟨0, 0, 0⟩, [], 0, 0⟩) (v := .slice none 0 0) (box_up U1 (alloc2 w _ _)); have hf1 := box_free (box_up U1 (alloc2 w _ _)))
    refine bodyPost_ret (v := kV ⟨k.set, k.ps.take 0, ((0 : Nat) : Int), -1⟩ (.slice none 0 0)) (by simp [results, Tryz.results105, go_sem, q0, q1, q2, q3, q4, q5]) rfl ⟨_, rfl, ?_, ?_⟩
    · exact World.ownsRow_nil _ _ _ _
    · refine Fr.of _ ?_
      (repeat (first | with_reducible exact Up.refl _ | with_reducible assumption | with_reducible refine Up.set ?_ (by first | exact Nat.le_refl _ | (simp only []; omega) | (simp; omega)) _ | with_reducible refine Up.alloc ?_ _ | with_reducible refine Up.drew ?_ | refine Up.trans ?_ (by with_reducible assumption)))
  | some ad =>
    go_enter Tryz.func105, Tryz.ntmps105
    go_wp2_with ((go_at_call 47; (with_reducible refine (cK _).mono ?_); rintro e w1 ⟨rfl, U1⟩; have B1 := bcell U1; have Z1 := U1.size; (try simp at Z1); (try rw [Nat.add_one_le_iff] at Z1)); obtain ⟨hb0, r0, r1, r2, r3, r4, r5⟩ := KnAt.cells (b := w.heap.size) (k := ⟨k.set, k.ps, (m : Int), k.last⟩) (v := .slice (some ad) k.ps.length cap) (box_up U1 (box_up ((Up.refl _).alloc _) (MapKept.heap_alloc w _).1)); have hf0 := box_free (box_up U1 (box_up ((Up.refl _).alloc _) (MapKept.heap_alloc w (.cells #[.int .i64 k.set.ord, .int .i64 k.set.lit, .int .i64 k.set.most, .slice (some ad) k.ps.length cap, .int .i64 (m : Int), .int .i64 k.last] 27)).1)); obtain ⟨hb1, q0, q1, q2, q3, q4, q5⟩ := KnAt.cells (b := w.heap.size + 1) (k := ⟨⟨0, 0, 0⟩, [], 0, 0⟩) (v := .slice none 0 0) (box_up U1 (alloc2 w _ _)); have hf1 := box_free (box_up U1 (alloc2 w _ _)))
    have hU : Up w w1 := by (repeat (first | with_reducible exact Up.refl _ | with_reducible assumption | with_reducible refine Up.set ?_ (by first | exact Nat.le_refl _ | (simp only []; omega) | (simp; omega)) _ | with_reducible refine Up.alloc ?_ _ | with_reducible refine Up.drew ?_ | refine Up.trans ?_ (by with_reducible assumption)))
    refine bodyPost_ret (v := kV ⟨k.set, k.ps.take m, (m : Int), -1⟩ (.slice (some ad) m cap)) (by simp [results, Tryz.results105, go_sem, q0, q1, q2, q3, q4, q5]) rfl ⟨_, rfl, ?_, ?_⟩
    · refine ownsRow_up HC.out ?_
      (repeat (first | with_reducible exact Up.refl _ | with_reducible assumption | with_reducible refine Up.set ?_ (by first | exact Nat.le_refl _ | (simp only []; omega) | (simp; omega)) _ | with_reducible refine Up.alloc ?_ _ | with_reducible refine Up.drew ?_ | refine Up.trans ?_ (by with_reducible assumption)))
    · refine Fr.of _ ?_
      (repeat (first | with_reducible exact Up.refl _ | with_reducible assumption | with_reducible refine Up.set ?_ (by first | exact Nat.le_refl _ | (simp only []; omega) | (simp; omega)) _ | with_reducible refine Up.alloc ?_ _ | with_reducible refine Up.drew ?_ | refine Up.trans ?_ (by with_reducible assumption)))

set_option maxRecDepth 100000 in
set_option maxHeartbeats 4000000 in
theorem advW_any (k : KnD) (v : Value) (B : Nat) (x : Int) (w : World) (h : k.Ok) (hB : B ≤ w.heap.size) (hown : ownPr w B v k.ps) (hf : k.follows x = true) (hxc : x ≠ (k.c : Int)) :
    Calls Tryz.prog 105  #[kV k v, .int .i64 x, .int .u8 (k.first x)] w (AdvPost (k.after x) B v w) := by
  obtain ⟨i0, hi, hz0, hz1, hz2⟩ := info_parts infoPair
  have hpl := h.nums.2.2.2.1
  have hcb := h.c_bd.2.1
  have cK := fun w => clearI_any k.set w h.set
  obtain ⟨f1, f2⟩ := KnD.first_bd h hf
  obtain ⟨a, cap, rfl⟩ := ownsRow_shape hown
  have cG := fun w => growI_any k.set k.base k.last a k.ps.length cap w h.set (by omega)
  rw [growN_eq] at cG
  have hxb : (x == ((clr k.set : Nat) : Int)) = false := by
    have h2 : ¬ x = ((clr k.set : Nat) : Int) := hxc
    simpa using h2
  have HO := Lib.hid hown
  cases hg : k.grow
  · have e : Hid (k.after x = ⟨k.set, k.ps, k.base, x⟩) := by unfold Hid KnD.after; rw [hg]; simp
    rw [e.out]
    rw [hg] at cG
    generalize k.first x = fx at *
    simp only [kV, knV] at *
    clear h e hg hf hxc hown
    go_enter Tryz.func105, Tryz.ntmps105
    go_wp2_with (first | (go_at_call 47; (with_reducible refine (cK _).mono ?_); rintro e w1 ⟨rfl, U1⟩; have B1 := bcell U1; have Z1 := U1.size; (try simp at Z1); (try rw [Nat.add_one_le_iff] at Z1)) | ((go_at_call 97; (with_reducible refine (cG _).mono ?_); rintro e w2 ⟨rfl, U2⟩; have B2 := bcell U2; have Z2 := U2.size; (try simp at Z2); (try rw [Nat.add_one_le_iff] at Z2)); obtain ⟨hb0, r0, r1, r2, r3, r4, r5⟩ := KnAt.cells (b := w.heap.size) (k := k) (v := .slice a k.ps.length cap) (box_up (U1.trans U2) (box_up ((Up.refl _).alloc _) (MapKept.heap_alloc w _).1)); have hf0 := box_free (box_up (U1.trans U2) (box_up ((Up.refl _).alloc _) (MapKept.heap_alloc w (.cells #[.int .i64 k.set.ord, .int .i64 k.set.lit, .int .i64 k.set.most, .slice a k.ps.length cap, .int .i64 k.base, .int .i64 k.last] 27)).1)); obtain ⟨hb1, q0, q1, q2, q3, q4, q5⟩ := KnAt.cells (b := w.heap.size + 1) (k := ⟨⟨0, 0, 0⟩, [], 0, 0⟩) (v := .slice none 0 0) (box_up (U1.trans U2) (alloc2 w _ _)); have hf1 := box_free (box_up (U1.trans U2) (alloc2 w _ _))))
    refine bodyPost_ret (v := kV ⟨k.set, k.ps, k.base, x⟩ (.slice a k.ps.length cap)) (by simp [results, Tryz.results105, go_sem, q0, q1, q2, q3, q4, q5]) rfl ⟨_, rfl, ?_, ?_⟩
    · refine ownsRow_up HO.out ?_
      (repeat (first | with_reducible exact Up.refl _ | with_reducible assumption | with_reducible refine Up.set ?_ (by first | exact Nat.le_refl _ | (simp only []; omega) | (simp; omega)) _ | with_reducible refine Up.alloc ?_ _ | with_reducible refine Up.drew ?_ | refine Up.trans ?_ (by with_reducible assumption)))
    · refine Fr.of _ ?_
      (repeat (first | with_reducible exact Up.refl _ | with_reducible assumption | with_reducible refine Up.set ?_ (by first | exact Nat.le_refl _ | (simp only []; omega) | (simp; omega)) _ | with_reducible refine Up.alloc ?_ _ | with_reducible refine Up.drew ?_ | refine Up.trans ?_ (by with_reducible assumption)))
  · have e : Hid (k.after x = ⟨k.set, k.ps ++ [⟨k.last, k.first x⟩], k.base, x⟩) := by unfold Hid KnD.after; rw [hg]; rfl
    rw [e.out]
    rw [hg] at cG
    generalize k.first x = fx at *
    have HS : Hid (∀ w' v', w'.ownsRow B 118 2 v' (k.ps.length + 1) (cellsPr k.ps ++ [.int .i64 k.last, .int .i64 fx]) → ownPr w' B v' (k.ps ++ [⟨k.last, fx⟩])) := fun w' v' h' => by
      unfold ownPr
      rw [List.length_append, cellsPr_snoc]
      exact h'
    have hfx : fx < 256 := by omega
    simp only [kV, knV] at *
    clear h e hg hf hxc hown hcb
    go_enter Tryz.func105, Tryz.ntmps105
    go_wp2_with (first | (go_at_call 47; (with_reducible refine (cK _).mono ?_); rintro e w1 ⟨rfl, U1⟩; have B1 := bcell U1; have Z1 := U1.size; (try simp at Z1); (try rw [Nat.add_one_le_iff] at Z1)) | ((go_at_call 97; (with_reducible refine (cG _).mono ?_); rintro e w2 ⟨rfl, U2⟩; have B2 := bcell U2; have Z2 := U2.size; (try simp at Z2); (try rw [Nat.add_one_le_iff] at Z2)); have hK2 : KnAt w.heap.size k (.slice a k.ps.length cap) w2 := box_up (U1.trans U2) (box_up ((Up.refl _).alloc _) (MapKept.heap_alloc w _).1); have hR2 : KnAt (w.heap.size + 1) ⟨⟨0, 0, 0⟩, [], 0, 0⟩ (.slice none 0 0) w2 := box_up (U1.trans U2) (alloc2 w _ _); obtain ⟨hb0, r0, r1, r2, r3, r4, r5⟩ := hK2.cells; have HK2 := Lib.hid hK2; have HR2 := Lib.hid hR2; have hU2 : Up w w2 := (by (repeat (first | with_reducible exact Up.refl _ | with_reducible assumption | with_reducible refine Up.set ?_ (by first | exact Nat.le_refl _ | (simp only []; omega) | (simp; omega)) _ | with_reducible refine Up.alloc ?_ _ | with_reducible refine Up.drew ?_ | refine Up.trans ?_ (by with_reducible assumption)))); have HU2 := Lib.hid hU2; clear hK2 hR2 U1 U2 hU2 B1 B2 Z1) | (at_builtin; refine wpList_append_own _ rfl _ _ 25 rfl B 118 i0 (.agg #[.int .i64 0, .int .i64 0]) 2 16 Tryz.underlying25 hi hz0 hz1 hz2 rfl (by decide) _ _ _ rfl (ownsRow_up (ownsRow_up HO.out HU2.out) (Up.alloc (Up.refl _) _)) ⟨w2.heap.size, 0, none⟩ 1 1 [.int .i64 k.last, .int .i64 fx] rfl rfl (new_cells [.int .i64 k.last, .int .i64 fx] _ rfl) (by intro u hu; simp at hu; rcases hu with rfl | rfl <;> rfl) (by unfold maxLen; omega) (by omega) (by have := HU2.out.size; simp; omega) ?_; rintro v4 w4 hown4 hgr4 -; obtain ⟨a4, c4, rfl⟩ := ownsRow_shape hown4; have hK4 := gbox hgr4 (box_up ((Up.refl _).alloc _) HK2.out) (box_ne HK2.out (ownsRow_up HO.out HU2.out) (by decide)); have hR4 := gbox hgr4 (box_up ((Up.refl _).alloc _) HR2.out) (box_ne HR2.out (ownsRow_up HO.out HU2.out) (by decide)); obtain ⟨hb4, r0, r1, r2, r3, r4, r5⟩ := KnAt.cells (k := k) (v := .slice a k.ps.length cap) hK4; have hf0 := box_free hK4; obtain ⟨hb5, q0, q1, q2, q3, q4, q5⟩ := KnAt.cells (k := ⟨⟨0, 0, 0⟩, [], 0, 0⟩) (v := .slice none 0 0) hR4; have hf1 := box_free hR4; have hFr : Fr (fun b => Value.ownBlock (.slice a k.ps.length cap) = some b) w w4 := ((Fr.of _ HU2.out).alloc _).gr hgr4 (fun b hb => .inl hb); have HV4 := Lib.hid (HS.out _ _ hown4); have HF4 := Lib.hid hFr; have HN1 := Lib.hid (box_ne hK4 hown4 (by decide)); have HN2 := Lib.hid (box_ne hR4 hown4 (by decide)); clear hown4 hgr4 hK4 hR4 hFr))
    refine bodyPost_ret (v := kV ⟨k.set, k.ps ++ [⟨k.last, fx⟩], k.base, x⟩ (.slice a4 (k.ps.length + 1) c4)) (by simp [results, Tryz.results105, go_sem, q0, q1, q2, q3, q4, q5]) rfl ⟨_, rfl, ?_, ?_⟩
    · have hn1 := HN1.out
      have hn2 := HN2.out
      repeat (with_reducible first | refine ownsRow_setb ?_ hn1 _ _ | refine ownsRow_setb ?_ hn2 _ _)
      exact HV4.out
    · repeat (with_reducible refine Fr.set ?_ (.inr (by first | exact Nat.le_refl _ | (simp; done) | (simp; omega))) _)
      exact HF4.out

/-- The memory of walkCodes: what is known in its box, its pairs, the widths, the data. -/
structure WcB (w : World) (k : KnD) (v : Value) (ws : List Int) (d : List UInt8) (vw vd : Value) (wr : World) : Prop where
  kn : KnAt w.heap.size k v wr
  pr : ownPr wr (w.heap.size + 1) v k.ps
  own : ownI wr (w.heap.size + 1) vw ws
  dat : ownU wr (w.heap.size + 1) vd d
  up : Up w wr
theorem WcB.upd {w : World} {k : KnD} {v : Value} {ws : List Int} {d : List UInt8} {vw vd : Value} {wr w' : World} (h : WcB w k v ws d vw vd wr) (hu : Up wr w') : WcB w k v ws d vw vd w' :=
  ⟨h.kn.up hu, ownsRow_up h.pr hu, ownsRow_up h.own hu, ownsRow_up h.dat hu, h.up.trans hu⟩
theorem WcB.ints {w : World} {k : KnD} {v : Value} {ws ws' : List Int} {d : List UInt8} {vw vd vw' : Value} {wr w' : World} (h : WcB w k v ws d vw vd wr) (hg : wr.grownBy w' vw.ownBlock) (hn : ownI w' (w.heap.size + 1) vw' ws') : WcB w k v ws' d vw' vd w' :=
  ⟨h.kn.gr hg (low_ne (w := w) h.own (by omega)), h.pr.kept hg (rows_ne h.pr h.own (by decide)), hn, h.dat.kept hg (rows_ne h.dat h.own (by decide)), h.up.grown hg fun y hy => by have := (h.own.lt y hy).1; omega⟩
theorem WcB.bytes {w : World} {k : KnD} {v : Value} {ws : List Int} {d d' : List UInt8} {vw vd vd' : Value} {wr w' : World} (h : WcB w k v ws d vw vd wr) (hg : wr.grownBy w' vd.ownBlock) (hn : ownU w' (w.heap.size + 1) vd' d') : WcB w k v ws d' vw vd' w' :=
  ⟨h.kn.gr hg (low_ne (w := w) h.dat (by omega)), h.pr.kept hg (rows_ne h.pr h.dat (by decide)), h.own.kept hg (rows_ne h.own h.dat (by decide)), hn, h.up.grown hg fun y hy => by have := (h.dat.lt y hy).1; omega⟩
theorem some_ne {a b : Option Nat} (h : a = none ∨ a ≠ b) : ∀ x, a = some x → ¬ b = some x := fun x hx hb => by
  rcases h with h | h
  · rw [h] at hx; cases hx
  · exact h (hx.trans hb.symm)
theorem WcB.adv {w : World} {k k' : KnD} {v v' : Value} {ws : List Int} {d : List UInt8} {vw vd : Value} {wr w' : World} (h : WcB w k v ws d vw vd wr) (hp : ownPr w' (w.heap.size + 1) v' k'.ps) (hf : Fr (fun b => v.ownBlock = some b) wr w') : WcB w k' v' ws d vw vd (KnW w' w.heap.size k' v') :=
  have hk : KnAt w.heap.size k v w' := hf.box h.kn (fun e => low_ne (w := w) h.pr (Nat.lt_succ_self _) e.symm)
  ⟨KnAt.store hk k' v', KnW.own hp (low_ne (w := w) hp (Nat.lt_succ_self _)) k' v', KnW.own (hf.row h.own (some_ne (rows_ne h.own h.pr (by decide)))) (low_ne (w := w) h.own (Nat.lt_succ_self _)) k' v',
    KnW.own (hf.row h.dat (some_ne (rows_ne h.dat h.pr (by decide)))) (low_ne (w := w) h.dat (Nat.lt_succ_self _)) k' v', KnW.up (Fr.upto h.up hf (fun b hb => by have := (h.pr.lt b hb).1; omega)) (Nat.le_refl _) k' v'⟩
structure WcAt (T : WkR) (s0 : SetD) (codes : List Int) (w : World) (k : KnD) (v : Value) (i : Nat) (ws : List Int) (d : List UInt8) (vw vd : Value) (wr : World) : Prop where
  le : i ≤ codes.length
  tot : walkN k (codes.drop i) ws d = T
  wl : ws.length = i
  dl : d.length ≤ 2000
  ok : k.Ok
  set : k.set = s0
  mem : WcB w k v ws d vw vd wr
def RelWc (T : WkR) (s0 : SetD) (codes : List Int) (w : World) (vw vd i : Value) (wr : World) : Prop := ∃ k v n ws d, i = .int .i64 (n : Nat) ∧ WcAt T s0 codes w k v n ws d vw vd wr
def WcPost (T : WkR) (w : World) (e : Ending) (w' : World) : Prop := ∃ vw, e = .returned (.tuple #[vw, .string (bs T.data), .bool true]) ∧ ownI w' w.heap.size vw T.ws ∧ Up w w'

set_option maxRecDepth 100000 in
set_option maxHeartbeats 8000000 in
theorem walkI_any (k : KnD) (v : Value) (lo : Nat) (codes : List Int) (vc : Value) (lc : Nat) (w : World) (h : k.Ok) (hv : k.last = -1 → k.base = k.ps.length) (hr : RdP lo w v k.ps) (hc : RdI lc w vc codes) (hl : codes.length ≤ 3100) (hT : (walkN k codes [] []).ok = true) (hD : (walkN k codes [] []).data.length ≤ 2000) :
    Calls Tryz.prog 89  #[kV k v, vc] w (WcPost (walkN k codes [] []) w) := by
  obtain ⟨i0, hi, hz0, hz1, hz2⟩ := info_parts infoIntG
  have cV := fun wx hr => kvI_any k v lo wx h hv hr
  have hpl0 := h.nums.2.2.2.1
  have cY := fun wx hr => copyI_any k v lo wx hr (by omega)
  have cK0 := fun wx => clearI_any k.set wx h.set
  have cE0 := fun wx => endI_any k.set wx h.set
  have hrt := fun (wq : World) (hu : Up w wq) => hr.up hu
  have HKT := Lib.hid h
  obtain ⟨T, HTT⟩ : ∃ T, Hid (T = walkN k codes [] []) := ⟨_, rfl⟩
  rw [← HTT.out] at hT hD ⊢
  have hset0 : Hid (k.set = k.set) := rfl
  obtain ⟨a, cap, rfl, -, -, -, -⟩ := hr
  obtain ⟨ac, cc, rfl, hcc, hcm, hcells⟩ := hc
  unfold maxLen at hcm
  simp only [kV] at *
  clear h hv
  go_enter Tryz.func89, Tryz.ntmps89
  go_wp2_with (first | ((go_at_call 39; (with_reducible refine (cV _ (hrt _ (by (repeat (first | with_reducible exact Up.refl _ | with_reducible assumption | with_reducible refine Up.set ?_ (by first | exact Nat.le_refl _ | (simp only []; omega) | (simp; omega)) _ | with_reducible refine Up.alloc ?_ _ | with_reducible refine Up.drew ?_ | refine Up.trans ?_ (by with_reducible assumption)))))).mono ?_); rintro e w1 ⟨rfl, U1⟩; have B1 := bcell U1; have Z1 := U1.size; (try simp at Z1); (try rw [Nat.add_one_le_iff] at Z1))) | (go_at_call 40; (with_reducible refine (cY _ (hrt _ (by (repeat (first | with_reducible exact Up.refl _ | with_reducible assumption | with_reducible refine Up.set ?_ (by first | exact Nat.le_refl _ | (simp only []; omega) | (simp; omega)) _ | with_reducible refine Up.alloc ?_ _ | with_reducible refine Up.drew ?_ | refine Up.trans ?_ (by with_reducible assumption)))))).mono ?_); rintro e w2 ⟨v2, rfl, ho2, U2⟩; obtain ⟨a2, c2, rfl⟩ := ownsRow_shape ho2; have hk2 : KnAt w.heap.size k (.slice a k.ps.length cap) w2 := box_up U2 (box_up U1 (MapKept.heap_alloc w _).1); have hU2 : Up w w2 := (by (repeat (first | with_reducible exact Up.refl _ | with_reducible assumption | with_reducible refine Up.set ?_ (by first | exact Nat.le_refl _ | (simp only []; omega) | (simp; omega)) _ | with_reducible refine Up.alloc ?_ _ | with_reducible refine Up.drew ?_ | refine Up.trans ?_ (by with_reducible assumption)))); have hs1 := U1.size; simp at hs1; have hm2 : WcB w k (.slice a2 k.ps.length c2) [] [] (.slice none 0 0) (.slice none 0 0) (KnW w2 w.heap.size k (.slice a2 k.ps.length c2)) := ⟨KnAt.store hk2 k _, KnW.own (ownsRow_base ho2 (by omega)) (fun e => by have := (ho2.lt _ e.symm).1; omega) k _, World.ownsRow_nil _ _ _ _, World.ownsRow_nil _ _ _ _, KnW.up hU2 (Nat.le_refl _) k _⟩; have HM2 := Lib.hid hm2; obtain ⟨hb2, r0, r1, r2, r3, r4, r5⟩ := hk2.cells; have hf2 := box_free hk2; clear ho2 hk2 hm2))
  rw [show (World.setCell (World.setCell (World.setCell (World.setCell (World.setCell (World.setCell w2 ⟨w.heap.size, 0, none⟩ (.int .i64 k.set.ord)) ⟨w.heap.size, 1, none⟩ (.int .i64 k.set.lit)) ⟨w.heap.size, 2, none⟩ (.int .i64 k.set.most)) ⟨w.heap.size, 3, none⟩ (.slice a2 k.ps.length c2)) ⟨w.heap.size, 4, none⟩ (.int .i64 k.base)) ⟨w.heap.size, 5, none⟩ (.int .i64 k.last)) = KnW w2 w.heap.size k (.slice a2 k.ps.length c2) from rfl]
  clear r0 r1 r2 r3 r4 r5 hf2 U2 U1 B1 Z1 hs1 hb2 hU2
  generalize KnW w2 w.heap.size k (.slice a2 k.ps.length c2) = W at HM2 ⊢
  obtain ⟨-, r0, r1, r2, r3, r4, r5⟩ := HM2.out.kn.cells
  refine wp_region_upf 6 (by kernel_rfl) (by kernel_rfl) ?_
  simp only [List.take, List.drop]
  repeat (refine wpUp_step (fun K hK => ?_); go_simp; (try simp only [↓IntWalk.iteOmega]); first
    | (refine hK _ _ ?_; clear hK K)
    | (apply stepU_c
       · intro wq hwq; (have hbq := bcell hwq; (repeat (first | refine fills_no (by rfl) ?_ | refine fills_yes (by rfl) (fun vq hvq => ?_))); simp only [List.filter_nil, fills]; unfold upAt; (try ((obtain ⟨-, r0, r1, r2, r3, r4, r5⟩ := (HM2.out.kn.up hwq).cells))); go_simp; (try go_bits); (try simp only [↓IntWalk.iteOmega]); (try (rw [dif_pos (by omega)]; go_simp; try go_bits)); first | exact upOut_value | (apply upOut_call; (go_at_call 47; exact cK0 _)) | (apply upOut_eq; (go_at_call 47; exact cK0 _)) | (apply upOut_call; (go_at_call 76; exact cE0 _)) | (apply upOut_eq; (go_at_call 76; exact cE0 _)))
       go_simp; refine hK _ _ ?_; clear hK K))
  refine wpUp_nil (fun wq hwq => ?_)
  simp only [fills]
  have HM3 := Lib.hid (HM2.out.upd hwq)
  clear r0 r1 r2 r3 r4 r5 hwq
  go_wp2
  rw [onlyN_normal]
  go_wp2
  go_loopw [9, 10, 32] (fun vw vd i wr => RelWc T k.set codes w vw vd i wr) (fun _ _ i _ => codes.length - (intOf i).toNat)
  case atStart => exact ⟨k, _, 0, [], [], rfl, Nat.zero_le _, HTT.out.symm, rfl, by simp, HKT.out, rfl, HM3.out⟩
  case round =>
    clear HM2 HM3 cV cY hrt hset0
    obtain ⟨k', v', n, ws, d, rfl, hG⟩ := hrel
    have hle := hG.le
    have hwl := hG.wl
    have hdl := hG.dl
    have hok := hG.ok
    obtain ⟨a', c', rfl⟩ := ownsRow_shape hG.mem.pr
    obtain ⟨aw, cw, rfl⟩ := ownsRow_shape hG.mem.own
    obtain ⟨ad, cd, rfl⟩ := ownsRow_shape hG.mem.dat
    have HG := Lib.hid hG
    have HB := Lib.hid hG.mem
    obtain ⟨bk, r0, r1, r2, r3, r4, r5⟩ := hG.mem.kn.cells
    have hrd := fun (wq : World) (hu : Up wr wq) => (RdP.of_own hG.mem.pr).up hu
    have hups := hG.mem.up.size
    clear hG
    by_cases hlt : n < codes.length
    · have hD9 : codes.drop n = codes[n] :: codes.drop (n + 1) := List.drop_eq_getElem_cons hlt
      have htot := HG.out.tot
      rw [hD9] at htot
      have hW := walkN_ok htot hT
      obtain ⟨b, off, rfl, hlo, hbl, hx9⟩ := hcells (by omega)
      have hxw := hx9 n codes[n] (List.getElem?_eq_getElem hlt)
      have hx := (HB.out.up.cell (p := ⟨b, off + n, none⟩) hbl).trans hxw
      have hbl2 := Nat.lt_of_lt_of_le hbl hups
      have hset := HG.out.set
      have hsc : k'.c = clr k.set := by unfold KnD.c; rw [hset]
      have htop := KnD.top_bd hok
      have hcb := hok.nums
      have cWd := fun wq hr => widthI_any k' (.slice a' k'.ps.length c') (w.heap.size + 1) wq hok hr
      have hwl2 : ws.length ≤ 3100 := by omega
      have HWL := Lib.hid hwl
      clear hwl hx9 hcells hD9 htot hxw
      generalize codes[n] = x at *
      rcases hW with ⟨hxe, hxs, hTe⟩ | ⟨hxc, hrest⟩ | ⟨hx1, hx2, hf, hrest, hlen⟩
      · have hcan : decide (x ≤ ((k'.top : Nat) : Int)) = true := by rw [decide_eq_true_iff]; omega
        have cCan := fun wq hr => canI_any k' (.slice a' k'.ps.length c') (w.heap.size + 1) x wq hok hr (by omega)
        rw [hcan] at cCan
        have hnl : ¬ (n : Int) < (codes.length : Int) - 1 := by rw [List.drop_eq_nil_iff] at hxs; omega
        have hxe2 : x = (clr k.set : Int) + 1 := by rw [hxe, hsc]
        have hrest : walkN k' (codes.drop (n + 1)) (ws ++ [(k'.width : Int)]) d = T := by
          rw [hxs, hTe]
          show (⟨_, _, _⟩ : WkR) = _
          rw [decide_eq_true hdl]
        have HR := Lib.hid hrest
        subst hxe2
        simp only [kV] at *
        clear hxe hxs hTe hcan hrest hset hsc htop hcb
        go_wp2_with (first | (go_at_call 104; (with_reducible refine (cCan _ (hrd _ (by (repeat (first | with_reducible exact Up.refl _ | with_reducible assumption | with_reducible refine Up.set ?_ (by first | exact Nat.le_refl _ | (simp only []; omega) | (simp; omega)) _ | with_reducible refine Up.alloc ?_ _ | with_reducible refine Up.drew ?_ | refine Up.trans ?_ (by with_reducible assumption)))))).mono ?_); rintro e w5 ⟨rfl, U5⟩; have B5 := bcell U5; have Z5 := U5.size; (try simp at Z5); (try rw [Nat.add_one_le_iff] at Z5)) | (go_at_call 100; (with_reducible refine (cWd _ (hrd _ (by (repeat (first | with_reducible exact Up.refl _ | with_reducible assumption | with_reducible refine Up.set ?_ (by first | exact Nat.le_refl _ | (simp only []; omega) | (simp; omega)) _ | with_reducible refine Up.alloc ?_ _ | with_reducible refine Up.drew ?_ | refine Up.trans ?_ (by with_reducible assumption)))))).mono ?_); rintro e w6 ⟨rfl, U6⟩; have B6 := bcell U6; have Z6 := U6.size; (try simp at Z6); (try rw [Nat.add_one_le_iff] at Z6)) | (at_builtin; refine wpList_append_own _ rfl _ _ 75 rfl (w.heap.size + 1) 3 i0 (.int .i64 0) 1 8 Tryz.underlying75 hi hz0 hz1 hz2 rfl (by decide) _ _ _ rfl (ownsRow_up (HB.out.upd (U5.trans U6)).own (Up.alloc (Up.refl _) _)) ⟨w6.heap.size, 0, none⟩ 1 1 [.int .i64 (k'.width : Nat)] rfl rfl (new_cells [.int .i64 (k'.width : Nat)] _ rfl) (by intro u hu; simp at hu; subst hu; rfl) (by unfold maxLen; omega) (by omega) (by have := (HB.out.upd (U5.trans U6)).up.size; have := (HB.out.upd (U5.trans U6)).kn.cells.1; simp; omega) ?_; rintro v7 w7 hown7 hgr7 -; obtain ⟨a7, c7, rfl⟩ := ownsRow_shape hown7; have hb7 := ((HB.out.upd (U5.trans U6)).upd (Up.alloc (Up.refl _) _)).ints hgr7 (ownI_snoc hown7); obtain ⟨-, r0, r1, r2, r3, r4, r5⟩ := hb7.kn.cells; have HB7 := Lib.hid hb7; clear hb7 hown7 hgr7))
        go_roundw
        case rel => exact ⟨k', _, n + 1, ws ++ [(k'.width : Int)], d, by go_num, by omega, HR.out, by simp [HWL.out], hdl, HG.out.ok, HG.out.set, HB7.out⟩
        case measure => simp [intOf]; omega
      · have hcan : decide (x ≤ ((k'.top : Nat) : Int)) = true := by rw [decide_eq_true_iff]; omega
        have cCan := fun wq hr => canI_any k' (.slice a' k'.ps.length c') (w.heap.size + 1) x wq hok hr (by omega)
        rw [hcan] at cCan
        have cAC := fun wq hB hp => advC_any k' (.slice a' k'.ps.length c') (w.heap.size + 1) 0 wq hok hB hp
        rw [hsc] at cAC
        have hxe2 : x = (clr k.set : Int) := by rw [hxc, hsc]
        have hne : ((clr k.set : Int) == (clr k.set : Int) + 1) = false := by simp; omega
        have HR := Lib.hid hrest
        subst hxe2
        simp only [kV] at *
        clear hxc hcan hrest hset hsc htop hcb
        go_wp2_with (first | (go_at_call 104; (with_reducible refine (cCan _ (hrd _ (by (repeat (first | with_reducible exact Up.refl _ | with_reducible assumption | with_reducible refine Up.set ?_ (by first | exact Nat.le_refl _ | (simp only []; omega) | (simp; omega)) _ | with_reducible refine Up.alloc ?_ _ | with_reducible refine Up.drew ?_ | refine Up.trans ?_ (by with_reducible assumption)))))).mono ?_); rintro e w5 ⟨rfl, U5⟩; have B5 := bcell U5; have Z5 := U5.size; (try simp at Z5); (try rw [Nat.add_one_le_iff] at Z5)) | (go_at_call 100; (with_reducible refine (cWd _ (hrd _ (by (repeat (first | with_reducible exact Up.refl _ | with_reducible assumption | with_reducible refine Up.set ?_ (by first | exact Nat.le_refl _ | (simp only []; omega) | (simp; omega)) _ | with_reducible refine Up.alloc ?_ _ | with_reducible refine Up.drew ?_ | refine Up.trans ?_ (by with_reducible assumption)))))).mono ?_); rintro e w6 ⟨rfl, U6⟩; have B6 := bcell U6; have Z6 := U6.size; (try simp at Z6); (try rw [Nat.add_one_le_iff] at Z6)) | (at_builtin; refine wpList_append_own _ rfl _ _ 75 rfl (w.heap.size + 1) 3 i0 (.int .i64 0) 1 8 Tryz.underlying75 hi hz0 hz1 hz2 rfl (by decide) _ _ _ rfl (ownsRow_up (HB.out.upd (U5.trans U6)).own (Up.alloc (Up.refl _) _)) ⟨w6.heap.size, 0, none⟩ 1 1 [.int .i64 (k'.width : Nat)] rfl rfl (new_cells [.int .i64 (k'.width : Nat)] _ rfl) (by intro u hu; simp at hu; subst hu; rfl) (by unfold maxLen; omega) (by omega) (by have := (HB.out.upd (U5.trans U6)).up.size; have := (HB.out.upd (U5.trans U6)).kn.cells.1; simp; omega) ?_; rintro v7 w7 hown7 hgr7 -; obtain ⟨a7, c7, rfl⟩ := ownsRow_shape hown7; have hb7 := ((HB.out.upd (U5.trans U6)).upd (Up.alloc (Up.refl _) _)).ints hgr7 (ownI_snoc hown7); obtain ⟨-, r0, r1, r2, r3, r4, r5⟩ := hb7.kn.cells; have HB7 := Lib.hid hb7; clear hb7 hown7 hgr7) | (go_at_call 105; (with_reducible refine (cAC _ (by have := HB7.out.kn.cells.1; omega) HB7.out.pr).mono ?_); rintro e w9 ⟨v9, rfl, ho9, hF9⟩; obtain ⟨a9, c9, rfl⟩ := ownsRow_shape ho9; have hm9 := HB7.out.adv ho9 hF9; have hk9 := hF9.box HB7.out.kn (fun e => low_ne (w := w) HB7.out.pr (Nat.lt_succ_self _) e.symm); obtain ⟨hb9, r0, r1, r2, r3, r4, r5⟩ := KnAt.cells (k := k') (v := .slice a' k'.ps.length c') hk9; have hf9 := box_free hk9; have HM9 := Lib.hid hm9; clear hm9 hk9 ho9 hF9))
        rw [show (World.setCell (World.setCell (World.setCell (World.setCell (World.setCell (World.setCell w9 ⟨w.heap.size, 0, none⟩ (.int .i64 k'.cleared.set.ord)) ⟨w.heap.size, 1, none⟩ (.int .i64 k'.cleared.set.lit)) ⟨w.heap.size, 2, none⟩ (.int .i64 k'.cleared.set.most)) ⟨w.heap.size, 3, none⟩ (.slice a9 k'.cleared.ps.length c9)) ⟨w.heap.size, 4, none⟩ (.int .i64 k'.cleared.base)) ⟨w.heap.size, 5, none⟩ (.int .i64 k'.cleared.last)) = KnW w9 w.heap.size k'.cleared (.slice a9 k'.cleared.ps.length c9) from rfl]
        generalize KnW w9 w.heap.size k'.cleared (.slice a9 k'.cleared.ps.length c9) = W9 at HM9 ⊢
        go_roundw
        case rel => exact ⟨k'.cleared, _, n + 1, ws ++ [(k'.width : Int)], d, by go_num, by omega, HR.out, by simp [HWL.out], hdl, KnD.cleared_ok HG.out.ok, HG.out.set, HM9.out⟩
        case measure => simp [intOf]; omega
      · have htp : x ≤ ((k'.top : Nat) : Int) := by
          rcases KnD.follows_cases hok hf with hc | ⟨hg, hxn, _⟩
          · rw [codeOk_iff] at hc
            have : k'.next ≤ k'.top + 1 := by unfold KnD.top; split <;> omega
            unfold KnD.next at this; omega
          · unfold KnD.top; rw [if_pos hg]; omega
        have hx0 := (KnD.find_bd hok hf).1
        have hcan : decide (x ≤ ((k'.top : Nat) : Int)) = true := by rw [decide_eq_true_iff]; exact htp
        have cCan := fun wq hr => canI_any k' (.slice a' k'.ps.length c') (w.heap.size + 1) x wq hok hr hx0
        rw [hcan] at cCan
        have cWJ := fun wq hr => wordJ_any k' (.slice a' k'.ps.length c') (w.heap.size + 1) x wq hok hr hf
        have cAW := fun wq hB hp => advW_any k' (.slice a' k'.ps.length c') (w.heap.size + 1) x wq hok hB hp hf hx2
        have hwp := KnD.any_pos hok hf
        have hok9 := Lib.hid (KnD.after_ok hok hf)
        have hne1 : (x == (clr k.set : Int) + 1) = false := by simpa [hsc] using hx1
        have hne2 : (x == (clr k.set : Int)) = false := by simpa [hsc] using hx2
        have HFX : Hid (∀ h, (((bs (k'.any x))[0]'h).toNat : Int) = k'.first x) := fun h => by rw [bs_get0]; rfl
        have hset9 : Hid ((k'.after x).set = k.set) := hset
        have hfb := KnD.first_bd hok hf
        have hsz := bs_size (k'.any x)
        have HR := Lib.hid hrest
        have hlen2 : d.length + (k'.any x).length ≤ 2000 := by omega
        clear hcan hrest hset hsc htp hx1 hx2 hlen
        generalize hwl9 : k'.any x = wl at *
        clear hwl9
        have hfx := HFX.out (by rw [bs_size]; omega)
        simp only [kV] at *
        clear htop hcb
        go_wp2_with (first | (go_at_call 104; (with_reducible refine (cCan _ (hrd _ (by (repeat (first | with_reducible exact Up.refl _ | with_reducible assumption | with_reducible refine Up.set ?_ (by first | exact Nat.le_refl _ | (simp only []; omega) | (simp; omega)) _ | with_reducible refine Up.alloc ?_ _ | with_reducible refine Up.drew ?_ | refine Up.trans ?_ (by with_reducible assumption)))))).mono ?_); rintro e w5 ⟨rfl, U5⟩; have B5 := bcell U5; have Z5 := U5.size; (try simp at Z5); (try rw [Nat.add_one_le_iff] at Z5)) | (go_at_call 100; (with_reducible refine (cWd _ (hrd _ (by (repeat (first | with_reducible exact Up.refl _ | with_reducible assumption | with_reducible refine Up.set ?_ (by first | exact Nat.le_refl _ | (simp only []; omega) | (simp; omega)) _ | with_reducible refine Up.alloc ?_ _ | with_reducible refine Up.drew ?_ | refine Up.trans ?_ (by with_reducible assumption)))))).mono ?_); rintro e w6 ⟨rfl, U6⟩; have B6 := bcell U6; have Z6 := U6.size; (try simp at Z6); (try rw [Nat.add_one_le_iff] at Z6)) | (at_builtin; refine wpList_append_own _ rfl _ _ 75 rfl (w.heap.size + 1) 3 i0 (.int .i64 0) 1 8 Tryz.underlying75 hi hz0 hz1 hz2 rfl (by decide) _ _ _ rfl (ownsRow_up (HB.out.upd (U5.trans U6)).own (Up.alloc (Up.refl _) _)) ⟨w6.heap.size, 0, none⟩ 1 1 [.int .i64 (k'.width : Nat)] rfl rfl (new_cells [.int .i64 (k'.width : Nat)] _ rfl) (by intro u hu; simp at hu; subst hu; rfl) (by unfold maxLen; omega) (by omega) (by have := (HB.out.upd (U5.trans U6)).up.size; have := (HB.out.upd (U5.trans U6)).kn.cells.1; simp; omega) ?_; rintro v7 w7 hown7 hgr7 -; obtain ⟨a7, c7, rfl⟩ := ownsRow_shape hown7; have hb7 := ((HB.out.upd (U5.trans U6)).upd (Up.alloc (Up.refl _) _)).ints hgr7 (ownI_snoc hown7); obtain ⟨-, r0, r1, r2, r3, r4, r5⟩ := hb7.kn.cells; have HB7 := Lib.hid hb7; clear hb7 hown7 hgr7) | ((go_at_call 106; (with_reducible refine (cWJ _ (RdP.of_own HB7.out.pr)).mono ?_); rintro e w8 ⟨rfl, U8⟩; have B8 := bcell U8; have Z8 := U8.size; (try simp at Z8); (try rw [Nat.add_one_le_iff] at Z8)); obtain ⟨-, r0, r1, r2, r3, r4, r5⟩ := (HB7.out.upd U8).kn.cells) | (at_builtin; refine wpList_append_str rfl _ _ rfl (w.heap.size + 1) _ d wl rfl (HB7.out.upd U8).dat rfl (by omega) (by omega) (by have := (HB7.out.upd U8).kn.cells.1; omega) ?_; rintro v9 w9 ho9 hg9; obtain ⟨a9, c9, rfl⟩ := ownsRow_shape (ownsRow_n2 (n' := d.length + wl.length) ho9 (by simp)); have hb9 := (HB7.out.upd U8).bytes hg9 ho9; obtain ⟨-, r0, r1, r2, r3, r4, r5⟩ := hb9.kn.cells; have HB9 := Lib.hid hb9; clear hb9 ho9 hg9))
        refine wp_region_upR 4 (by kernel_rfl) (by kernel_rfl) ?_
        simp only [List.take, List.drop]
        repeat (refine wpUp_step (fun K hK => ?_); go_simp; (try simp only [↓IntWalk.iteOmega]); first
          | (refine hK _ _ ?_; clear hK K)
          | (apply stepU_c
             · intro wq hwq; (have hbq := bcell hwq; (repeat (first | refine fills_no (by rfl) ?_ | refine fills_yes (by rfl) (fun vq hvq => ?_))); simp only [List.filter_nil, fills]; unfold upAt; (try ((obtain ⟨-, r0, r1, r2, r3, r4, r5⟩ := (HB9.out.kn.up hwq).cells))); go_simp; (try go_bits); (try simp only [↓IntWalk.iteOmega]); (try (rw [dif_pos (by omega)]; go_simp; try go_bits)); first | exact upOut_value)
             go_simp; refine hK _ _ ?_; clear hK K))
        refine wpUp_nil (fun wq hwq => ?_)
        simp only [fills]
        have HBq := Lib.hid (HB9.out.upd hwq)
        (try rw [hfx])
        clear hwq r0 r1 r2 r3 r4 r5
        go_wp2_with fail
        with_reducible refine (cAW _ (by have := HBq.out.kn.cells.1; omega) HBq.out.pr).mono ?_
        rintro e w10 ⟨v10, rfl, ho10, hF10⟩
        obtain ⟨a10, c10, rfl⟩ := ownsRow_shape ho10
        have hm10 := HBq.out.adv ho10 hF10
        have hk10 := hF10.box HBq.out.kn (fun e => low_ne (w := w) HBq.out.pr (Nat.lt_succ_self _) e.symm)
        obtain ⟨hb10, r0, r1, r2, r3, r4, r5⟩ := KnAt.cells (k := k') (v := .slice a' k'.ps.length c') hk10
        have hf10 := box_free hk10
        have HM10 := Lib.hid hm10
        clear hm10 hk10 ho10 hF10
        go_wp2
        rw [show (World.setCell (World.setCell (World.setCell (World.setCell (World.setCell (World.setCell w10 ⟨w.heap.size, 0, none⟩ (.int .i64 (k'.after x).set.ord)) ⟨w.heap.size, 1, none⟩ (.int .i64 (k'.after x).set.lit)) ⟨w.heap.size, 2, none⟩ (.int .i64 (k'.after x).set.most)) ⟨w.heap.size, 3, none⟩ (.slice a10 (k'.after x).ps.length c10)) ⟨w.heap.size, 4, none⟩ (.int .i64 (k'.after x).base)) ⟨w.heap.size, 5, none⟩ (.int .i64 (k'.after x).last)) = KnW w10 w.heap.size (k'.after x) (.slice a10 (k'.after x).ps.length c10) from rfl]
        generalize KnW w10 w.heap.size (k'.after x) (.slice a10 (k'.after x).ps.length c10) = W10 at HM10 ⊢
        go_roundw
        case rel => exact ⟨k'.after x, _, n + 1, ws ++ [(k'.width : Int)], d ++ wl, by go_num, by omega, HR.out, by simp [HWL.out], by rw [List.length_append]; exact hlen2, hok9.out, hset9.out, HM10.out⟩
        case measure => simp [intOf]; omega
    · have e : n = codes.length := by omega
      subst e
      have hfin := HG.out.tot
      rw [List.drop_length] at hfin
      have hws : T.ws = ws := by rw [← hfin]; rfl
      have hda : T.data = d := by rw [← hfin]; rfl
      have HF := Lib.hid (And.intro hws hda)
      clear hfin hrd hok hws hda hwl r0 r1 r2 r3 r4 r5
      go_wp2
      refine wp_region_up 6 (by kernel_rfl) (by kernel_rfl) ?_
      simp only [List.take, List.drop]
      repeat (refine wpUp_step (fun K hK => ?_); go_simp; (try simp only [↓IntWalk.iteOmega]); first
        | (refine hK _ _ ?_; clear hK K)
        | (apply stepU_c
           · intro wq hwq; (have hbq := bcell hwq; (repeat (first | refine fills_no (by rfl) ?_ | refine fills_yes (by rfl) (fun vq hvq => ?_))); simp only [List.filter_nil, fills]; unfold upAt; (try ((have hconv := conv_any (ownsRow_up HB.out.dat hwq) rfl))); go_simp; (try go_bits); (try simp only [↓IntWalk.iteOmega]); (try (rw [dif_pos (by omega)]; go_simp; try go_bits)); first | exact upOut_value)
           go_simp; refine hK _ _ ?_; clear hK K))
      refine wpUp_nil (fun wq hwq => ?_)
      simp only [fills]
      go_wp2
      refine bodyPost_ret (v := .tuple #[.slice aw ws.length cw, .string (bs d), .bool true]) (by simp [results, Tryz.results89, go_sem]) rfl ?_
      have hB := HB.out.upd hwq
      exact ⟨_, by rw [HF.out.2], by rw [HF.out.1]; exact ownsRow_base hB.own (Nat.le_succ _), hB.up⟩

end Go.Proofs.YtgbakgaegldomaaGreat
