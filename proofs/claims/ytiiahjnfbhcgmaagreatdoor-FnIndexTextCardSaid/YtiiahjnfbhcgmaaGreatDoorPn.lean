/- The program's parseNumber. Conditions: the listed variables lie as they were laid. -/
import Derived.Test.YtiiahjnfbhcgmaaGreatDoorFi2
namespace Go.Proofs.YtiiahjnfbhcgmaaGreatDoor
set_option linter.unusedVariables false
set_option linter.unusedSimpArgs false
open Go Go.RowKit

/-- What the parsing walks ask of the world: the table of powers of ten, bytealg.MaxLen, strconv.ErrSyntax, strconv.ErrRange. -/
structure Lay (w : World) : Prop where
  tab : Tab w
  max : ∃ m, w.cell? ⟨0, 0, none⟩ = some (.int .i64 m)
  es : ∃ te pe, w.cell? ⟨2, 0, none⟩ = some (.iface te pe)
  er : ∃ te pe, w.cell? ⟨3, 0, none⟩ = some (.iface te pe)
theorem cell_up {w w' : World} {a : Addr} {v : Value} (h : w.cell? a = some v) (hu : Up w w') : w'.cell? a = some v := (hu.cell (World.block_lt_of_cell? _ _ h)).trans h
theorem Lay.up {w w' : World} (h : Lay w) (hu : Up w w') : Lay w' := by
  obtain ⟨h1, ⟨m, h2⟩, ⟨a, b, h3⟩, ⟨c, d, h4⟩⟩ := h
  exact ⟨h1.up hu, ⟨m, cell_up h2 hu⟩, ⟨a, b, cell_up h3 hu⟩, ⟨c, d, cell_up h4 hu⟩⟩
/-- The number that a text is, written as the program writes it. -/
def numP (l : List UInt8) : Option Int := match Lib.atoiAll l with
  | .ok v => if Lib.itoa v = l then some v else none
  | _ => none
/-- strconv.Atoi at any text: a number and no error, or an error. -/
theorem atoi_any (l : List UInt8) (w : World) (hL : Lay w) (hl : l.length ≤ 1048576) :
    Calls Tryz.prog 154 #[.string (bs l)] w (fun e w' => ∃ v u, e = .returned (.tuple #[.int .i64 v, u]) ∧ Up w w' ∧ (Lib.atoiAll l = .ok v ∧ u = .nilIface ∨ (∀ v', Lib.atoiAll l ≠ .ok v') ∧ ∃ t p, u = .iface t (.pointer (some p)))) := by
  have hd : (bs l).data.toList = l := by simp [bs_data]
  have hz := bs_size l
  cases h : Lib.atoiAll l
  · rename_i v
    refine (Tryz.strconv_Atoi_ok (bs l) (by omega) v (by rw [hd]; exact h) w).mono fun e w' ⟨he, hw⟩ => ⟨v, _, he, ?_, .inl ⟨rfl, rfl⟩⟩
    rcases hw with rfl | ⟨t, rfl⟩
    · exact Up.refl _
    · exact Lib.bytesWorld_below w _ t
  · obtain ⟨te, pe, hs⟩ := hL.es
    exact (Any.strconv_Atoi_syntax Tryz.laysC172 (bs l) (by omega) (by rw [hd]; exact h) _ w hs (.inr ⟨te, pe, rfl⟩)).mono fun e w' ⟨N, he, _, _, hw⟩ => ⟨_, _, he, hw, .inr ⟨(fun v' h' => by cases h'), _, _, rfl⟩⟩
  · obtain ⟨te, pe, hs⟩ := hL.er
    exact (Tryz.strconv_Atoi_range (bs l) (by omega) (by rw [hd]; exact h) _ w hs (.inr ⟨te, pe, rfl⟩)).mono fun e w' ⟨N, he, _, _, hw⟩ => ⟨_, _, he, hw, .inr ⟨(fun v' h' => by cases h'), _, _, rfl⟩⟩

set_option maxRecDepth 100000 in
set_option maxHeartbeats 1000000 in
theorem pnum_any (l : List UInt8) (w : World) (hL : Lay w) (hl : l.length ≤ 1048576) :
    Calls Tryz.prog 93  #[.string (bs l)] w (fun e w' => e = .returned (.tuple #[.int .i64 ((numP l).getD 0), .bool (numP l).isSome]) ∧ Up w w') := by
  have cA := fun wx (hx : Up w wx) => atoi_any l wx (hL.up hx) hl
  have HT := Lib.hid hL.tab
  clear hL
  go_enter Tryz.func93, Tryz.ntmps93
  go_wp2_with fail
  (with_reducible refine (cA _ (by (repeat (first | with_reducible exact Up.refl _ | with_reducible assumption | with_reducible refine Up.set ?_ (by first | exact Nat.le_refl _ | (simp only []; omega) | (simp; omega)) _ | with_reducible refine Up.alloc ?_ _ | with_reducible refine Up.drew ?_ | refine Up.trans ?_ (by with_reducible assumption))))).mono ?_); rintro e w1 ⟨v, u, rfl, U1, hvu⟩
  rcases hvu with ⟨h, rfl⟩ | ⟨h, t, p, rfl⟩
  · have hb := Lib.atoiAll_bounds h
    have cI := fun wx (hx : Up w wx) => itoa_any v wx (HT.out.up hx) hb.1 hb.2
    by_cases he : Lib.itoa v = l
    · have hq : Hid (numP l = some v) := by unfold Hid numP; rw [h]; exact if_pos he
      subst he
      clear h
      go_wp2_with (go_at_call 92; (with_reducible refine (cI _ (by (repeat (first | with_reducible exact Up.refl _ | with_reducible assumption | with_reducible refine Up.set ?_ (by first | exact Nat.le_refl _ | (simp only []; omega) | (simp; omega)) _ | with_reducible refine Up.alloc ?_ _ | with_reducible refine Up.drew ?_ | refine Up.trans ?_ (by with_reducible assumption))))).mono ?_); rintro e w2 ⟨rfl, U2⟩)
      all_goals ((try simp only [Exit.inBlock, Exit.then]); refine bodyPost_ret (v := _) (by simp [results, Tryz.results93, go_sem]; rfl) rfl ?_)
      all_goals exact ⟨by rw [hq.out]; rfl, by (repeat (first | with_reducible exact Up.refl _ | with_reducible assumption | with_reducible refine Up.set ?_ (by first | exact Nat.le_refl _ | (simp only []; omega) | (simp; omega)) _ | with_reducible refine Up.alloc ?_ _ | with_reducible refine Up.drew ?_ | refine Up.trans ?_ (by with_reducible assumption)))⟩
    · have hq : Hid (numP l = none) := by unfold Hid numP; rw [h]; exact if_neg he
      have hne : ((bs (Lib.itoa v)).toList == (bs l).toList) = false := by rw [Lib.toList_data, Lib.toList_data, bs_data, bs_data]; simpa using he
      clear h
      go_wp2_with (go_at_call 92; (with_reducible refine (cI _ (by (repeat (first | with_reducible exact Up.refl _ | with_reducible assumption | with_reducible refine Up.set ?_ (by first | exact Nat.le_refl _ | (simp only []; omega) | (simp; omega)) _ | with_reducible refine Up.alloc ?_ _ | with_reducible refine Up.drew ?_ | refine Up.trans ?_ (by with_reducible assumption))))).mono ?_); rintro e w2 ⟨rfl, U2⟩)
      all_goals ((try simp only [Exit.inBlock, Exit.then]); refine bodyPost_ret (v := _) (by simp [results, Tryz.results93, go_sem]; rfl) rfl ?_)
      all_goals exact ⟨by rw [hq.out]; rfl, by (repeat (first | with_reducible exact Up.refl _ | with_reducible assumption | with_reducible refine Up.set ?_ (by first | exact Nat.le_refl _ | (simp only []; omega) | (simp; omega)) _ | with_reducible refine Up.alloc ?_ _ | with_reducible refine Up.drew ?_ | refine Up.trans ?_ (by with_reducible assumption)))⟩
  · have hq : Hid (numP l = none) := by
      unfold Hid numP
      cases h' : Lib.atoiAll l
      · exact absurd h' (h _)
      · rfl
      · rfl
    clear h
    go_wp2
    all_goals ((try simp only [Exit.inBlock, Exit.then]); refine bodyPost_ret (v := _) (by simp [results, Tryz.results93, go_sem]; rfl) rfl ?_)
    all_goals exact ⟨by rw [hq.out]; rfl, by (repeat (first | with_reducible exact Up.refl _ | with_reducible assumption | with_reducible refine Up.set ?_ (by first | exact Nat.le_refl _ | (simp only []; omega) | (simp; omega)) _ | with_reducible refine Up.alloc ?_ _ | with_reducible refine Up.drew ?_ | refine Up.trans ?_ (by with_reducible assumption)))⟩

end Go.Proofs.YtiiahjnfbhcgmaaGreatDoor
