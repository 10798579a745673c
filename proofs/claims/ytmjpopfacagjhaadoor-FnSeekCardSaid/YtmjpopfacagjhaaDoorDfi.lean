/- What DrawFormatIndex and DrawSeekBlock draw. Conditions: the code can be read. -/
import Derived.Test.YtmjpopfacagjhaaDoorDraw9
import Derived.Test.YtmjpopfacagjhaaDoorSeek1
namespace Go.Proofs.YtmjpopfacagjhaaDoor
set_option linter.unusedVariables false
set_option linter.unusedSimpArgs false
open Go Go.RowKit

theorem cellsP_set (ps : List PlaceD) (i : Nat) (x y : Int) (h : i < ps.length) : ((cellsP ps).set (i * 2) (.int .i64 x)).set (i * 2 + 1) (.int .i64 y) = cellsP (ps.set i ⟨x, y⟩) := by
  have e : ps = ps.take i ++ ps[i] :: ps.drop (i + 1) := by simp
  have e2 : ps.set i ⟨x, y⟩ = ps.take i ++ ⟨x, y⟩ :: ps.drop (i + 1) := by rw [List.set_eq_take_append_cons_drop, if_pos h]
  rw [e2]
  conv => lhs; rw [e]
  simp only [cellsP, List.flatMap_append, List.flatMap_cons]
  exact set2 _ _ _ _ _ _ _ (by have := cellsP_length (ps.take i); rw [List.length_take, Nat.min_eq_left (by omega)] at this; exact this)

set_option maxRecDepth 100000 in
set_option maxHeartbeats 8000000 in
theorem drawFormatIndex_any (v : Value) (l : List UInt8) (w : World) (h : ArgU w v l) :
    Calls Tryd.prog 25  #[v] w (fun e w' => ∃ (u : Value) (ps : List PlaceD), e = .returned u ∧ ps.length ≤ 40 ∧ w'.ownsRow w.heap.size 34 2 u ps.length (cellsP ps) ∧ Up w w') := by
  have cO := fun w' hu => open_at (h.up (w' := w') hu)
  clear h
  go_enter Tryd.func25, Tryd.ntmps25
  go_wp2_with (go_at_call 22; (with_reducible refine (cO _ (by (repeat (first | with_reducible exact Up.refl _ | with_reducible assumption | with_reducible refine Up.set ?_ (by first | exact Nat.le_refl _ | (simp only []; omega) | (simp; omega)) _ | with_reducible refine Up.alloc ?_ _ | with_reducible refine Up.drew ?_ | refine Up.trans ?_ (by with_reducible assumption))))).mono ?_); rintro e w1 ⟨B, rfl, hr, hUp⟩)
  obtain ⟨p, hp, hr, HM⟩ := hr.least
  have hlt := hr.lt
  have HR := Lib.hid hr
  have hU := RdUp.refl w.heap.size B 0 w1
  have cS := fun wx N h hN => l5Some_any w.heap.size B wx N h hN
  have hne0 : ¬ w1.heap.size = w.heap.size := by omega
  clear cO
  go_wp2_with ((go_at_call 32; ((with_reducible refine (draw_atM (cS) HR.out hU (by intro c hU; (repeat (first | with_reducible assumption | refine RdUp.ups ?_ (by with_reducible assumption) | with_reducible refine RdUp.set ?_ (by first | exact Nat.le_refl _ | (simp only []; omega) | (simp; omega)) _ | with_reducible refine RdUp.alloc ?_ _ | with_reducible refine RdUp.drew ?_ | with_reducible exact RdUp.of (Up.refl _)))) (by omega)).mono ?_); rintro e w' ⟨v, rfl, ⟨s, dict, st, rfl, hs, hdi, hst⟩, hU, U⟩; have D := gcell U.1; have Z := U.1.size; (try simp at Z); (try have Y0 : w.heap.size < w'.heap.size := (by omega)); (try have Y1 : w.heap.size + 1 < w'.heap.size := (by omega)); (try have Y2 : w.heap.size + 1 + 1 < w'.heap.size := (by omega)); (try have X0 : w.heap.size < w'.heap.size + 1 := (by omega)); (try have X1 : w.heap.size + 1 < w'.heap.size + 1 := (by omega)); (try have X2 : w.heap.size + 1 + 1 < w'.heap.size + 1 := (by omega)))))
  have cX := fun wx => indexS_any st wx (by omega)
  unfold IndexPost at cX
  have hL40 : (placesK ((contBlocks st).getD []) ((contBlocks st).getD []).length).length ≤ 40 := by
    rw [placesK_length]
    cases hc : contBlocks st with
    | none => simp
    | some l => exact (contBlocks_ok hc).1
  generalize (contBlocks st).isSome = okX at *
  generalize placesK ((contBlocks st).getD []) ((contBlocks st).getD []).length = L at *
  have hU : RdUp w.heap.size B 40000 w1 (w'.alloc (.cells #[.int .i64 s.ord, .int .i64 s.lit, .int .i64 s.most] 63)) := by exact RdUp.fin hU (by intro c hU; (repeat (first | with_reducible assumption | refine RdUp.ups ?_ (by with_reducible assumption) | with_reducible refine RdUp.set ?_ (by first | exact Nat.le_refl _ | (simp only []; omega) | (simp; omega)) _ | with_reducible refine RdUp.alloc ?_ _ | with_reducible refine RdUp.drew ?_ | with_reducible exact RdUp.of (Up.refl _)))) (by omega)
  have hrbW : w.heap.size < (w'.alloc (.cells #[.int .i64 s.ord, .int .i64 s.lit, .int .i64 s.most] 63)).heap.size := by have := hU.1.size; omega
  simp only [setV] at *
  clear D Z U hs
  generalize (w'.alloc (.cells #[.int .i64 s.ord, .int .i64 s.lit, .int .i64 s.most] 63)) = W at *
  go_wp2_with fail
  (with_reducible refine (cX _).mono ?_); rintro e w3 ⟨v3, rfl, h3, U3⟩
  have hU : RdUp w.heap.size B 40000 w1 w3 := hU.ups U3
  have h3b : w3.ownsRow (w.heap.size + 1) 34 2 v3 L.length (cellsP L) := ownsRow_base h3 (by omega)
  obtain ⟨a3, ca3, rfl, hm3, -⟩ := ownsRow_any h3
  have hca : ca3 ≤ 9223372036854775807 := by
    rcases h3.2 with ⟨e1, e2⟩ | ⟨g, c, cur, e1, -, -, -, e2, -⟩
    · simp only [Value.slice.injEq] at e1; omega
    · simp only [Value.slice.injEq] at e1; unfold maxLen at e2; omega
  clear h3 cX cS
  have HO : Hid (∀ (wq : World), w3.grownBy wq (some w.heap.size) → wq.ownsRow (w.heap.size + 1) 34 2 (.slice a3 L.length ca3) L.length (cellsP L)) := fun wq hg => own_rd h3b (by omega) hg
  by_cases hL : 0 < L.length
  · obtain ⟨g, rfl, hc1, hc2, hgb, hg⟩ := ownsRow_slot h3b (by omega)
    obtain ⟨W3, hW3⟩ : ∃ W3, Hid (W3 = w3) := ⟨_, rfl⟩
    rw [← hW3.out] at HO
    have hG : Hid (W3.grownBy w3 (some w.heap.size)) := by rw [hW3.out]; exact grownBy_refl _ _
    clear h3b
    go_wp2_with (first | (go_at_call 23; ((with_reducible refine (pick_at (n := 10) HR.out hU (by intro c hU; (repeat (first | with_reducible assumption | refine RdUp.ups ?_ (by with_reducible assumption) | with_reducible refine RdUp.set ?_ (by first | exact Nat.le_refl _ | (simp only []; omega) | (simp; omega)) _ | with_reducible refine RdUp.alloc ?_ _ | with_reducible refine RdUp.drew ?_ | with_reducible exact RdUp.of (Up.refl _)))) (by omega)).mono ?_); rintro e w' ⟨k0, rfl, k00, k01, hU, U⟩; have D := gcell U.1; have Z := U.1.size; (try simp at Z); (try have Y0 : w.heap.size < w'.heap.size := (by omega)); (try have Y1 : w.heap.size + 1 < w'.heap.size := (by omega)); (try have Y2 : w.heap.size + 1 + 1 < w'.heap.size := (by omega)); (try have X0 : w.heap.size < w'.heap.size + 1 := (by omega)); (try have X1 : w.heap.size + 1 < w'.heap.size + 1 := (by omega)); (try have X2 : w.heap.size + 1 + 1 < w'.heap.size + 1 := (by omega)); (have hG := Lib.hid (grownBy_trans hG.out U.1)))) | (go_at_call 23; ((with_reducible refine (pick_at (n := L.length) HR.out hU (by intro c hU; (repeat (first | with_reducible assumption | refine RdUp.ups ?_ (by with_reducible assumption) | with_reducible refine RdUp.set ?_ (by first | exact Nat.le_refl _ | (simp only []; omega) | (simp; omega)) _ | with_reducible refine RdUp.alloc ?_ _ | with_reducible refine RdUp.drew ?_ | with_reducible exact RdUp.of (Up.refl _)))) (by omega)).mono ?_); rintro e w' ⟨j, rfl, j0, j1, hU, U⟩; have D := gcell U.1; have Z := U.1.size; (try simp at Z); (try have Y0 : w.heap.size < w'.heap.size := (by omega)); (try have Y1 : w.heap.size + 1 < w'.heap.size := (by omega)); (try have Y2 : w.heap.size + 1 + 1 < w'.heap.size := (by omega)); (try have X0 : w.heap.size < w'.heap.size + 1 := (by omega)); (try have X1 : w.heap.size + 1 < w'.heap.size + 1 := (by omega)); (try have X2 : w.heap.size + 1 + 1 < w'.heap.size + 1 := (by omega)); (obtain ⟨jn, rfl⟩ := Int.eq_ofNat_of_zero_le j0; have hG := Lib.hid (grownBy_trans hG.out U.1)))) | (go_at_call 24; ((with_reducible refine (num_at ([-1, 0, 4001]) HR.out hU (by intro c hU; (repeat (first | with_reducible assumption | refine RdUp.ups ?_ (by with_reducible assumption) | with_reducible refine RdUp.set ?_ (by first | exact Nat.le_refl _ | (simp only []; omega) | (simp; omega)) _ | with_reducible refine RdUp.alloc ?_ _ | with_reducible refine RdUp.drew ?_ | with_reducible exact RdUp.of (Up.refl _)))) (by omega) (by first | rfl | (simp; done) | fail) (by first | rfl | (simp; done) | fail) (by first | rfl | (simp; done) | fail) (by simp) (by simp) (by first | rfl | (simp; done) | fail)).mono ?_); rintro e w' ⟨i, rfl, hi, hU, U⟩; have D := gcell U.1; have Z := U.1.size; (try simp at Z); (try have Y0 : w.heap.size < w'.heap.size := (by omega)); (try have Y1 : w.heap.size + 1 < w'.heap.size := (by omega)); (try have Y2 : w.heap.size + 1 + 1 < w'.heap.size := (by omega)); (try have X0 : w.heap.size < w'.heap.size + 1 := (by omega)); (try have X1 : w.heap.size + 1 < w'.heap.size + 1 := (by omega)); (try have X2 : w.heap.size + 1 + 1 < w'.heap.size + 1 := (by omega)); (have hG := Lib.hid (grownBy_trans (grownBy_up hG.out ((Up.refl _).alloc _)) U.1); generalize i = xa at *))) | (go_at_call 24; ((with_reducible refine (num_at ([-1, 0, 2001]) HR.out hU (by intro c hU; (repeat (first | with_reducible assumption | refine RdUp.ups ?_ (by with_reducible assumption) | with_reducible refine RdUp.set ?_ (by first | exact Nat.le_refl _ | (simp only []; omega) | (simp; omega)) _ | with_reducible refine RdUp.alloc ?_ _ | with_reducible refine RdUp.drew ?_ | with_reducible exact RdUp.of (Up.refl _)))) (by omega) (by first | rfl | (simp; done) | fail) (by first | rfl | (simp; done) | fail) (by first | rfl | (simp; done) | fail) (by simp) (by simp) (by first | rfl | (simp; done) | fail)).mono ?_); rintro e w' ⟨i, rfl, hi, hU, U⟩; have D := gcell U.1; have Z := U.1.size; (try simp at Z); (try have Y0 : w.heap.size < w'.heap.size := (by omega)); (try have Y1 : w.heap.size + 1 < w'.heap.size := (by omega)); (try have Y2 : w.heap.size + 1 + 1 < w'.heap.size := (by omega)); (try have X0 : w.heap.size < w'.heap.size + 1 := (by omega)); (try have X1 : w.heap.size + 1 < w'.heap.size + 1 := (by omega)); (try have X2 : w.heap.size + 1 + 1 < w'.heap.size + 1 := (by omega)); (have hG := Lib.hid (grownBy_trans (grownBy_up hG.out ((Up.refl _).alloc _)) U.1); have hO := HO.out _ hG.out; obtain ⟨d0, d1⟩ := plc_cells' (read_cells hO) (show jn < L.length by omega); have f0 := ownsRow_free hO (jn * 2); have f1 := ownsRow_free hO (jn * 2 + 1); have hO := Lib.hid hO; have hUW := Lib.hid (up_grownR hUp hU.1 (Nat.le_refl _))))))
    · trace_state
      go_ret
      have h1 := ownsRow_set (ownsRow_set hO.out (jn * 2) (.int .i64 xa)) (jn * 2 + 1) (.int .i64 i)
      rw [cellsP_set _ _ _ _ (by omega)] at h1
      exact ⟨_, L.set jn ⟨xa, i⟩, rfl, by rw [List.length_set]; exact hL40, by rw [List.length_set]; exact ownsRow_base (base := w.heap.size + 1) h1 (by omega), (hUW.out.set (p := ⟨g, jn * 2, none⟩) (by show _ ≤ g; omega) _).set (p := ⟨g, jn * 2 + 1, none⟩) (by show _ ≤ g; omega) _⟩
    · go_ret
      exact ⟨_, L, rfl, hL40, ownsRow_base (base := w.heap.size + 1) (HO.out _ hG.out) (by omega), up_grownR hUp hU.1 (Nat.le_refl _)⟩
  · go_wp2
    go_ret
    exact ⟨_, L, rfl, hL40, ownsRow_base (base := w.heap.size + 1) h3b (by omega), up_grownR hUp hU.1 (Nat.le_refl _)⟩

set_option maxRecDepth 100000 in
set_option maxHeartbeats 4000000 in
theorem drawSeek_any (v : Value) (l : List UInt8) (w : World) (h : ArgU w v l) :
    Calls Tryd.prog 10  #[v] w (fun e w' => ∃ (u : Value) (ps : List PlaceD) (o : Int), e = .returned (.tuple #[u, .int .i64 o]) ∧ ps.length ≤ 40 ∧ w'.ownsRow w.heap.size 34 2 u ps.length (cellsP ps) ∧ Up w w') := by
  have cO := fun w' hu => open_at (h.up (w' := w') hu)
  have cF := fun w' hu => drawFormatIndex_any v l w' (h.up (w' := w') hu)
  clear h
  go_enter Tryd.func10, Tryd.ntmps10
  go_wp2_with (go_at_call 22; (with_reducible refine (cO _ (by (repeat (first | with_reducible exact Up.refl _ | with_reducible assumption | with_reducible refine Up.set ?_ (by first | exact Nat.le_refl _ | (simp only []; omega) | (simp; omega)) _ | with_reducible refine Up.alloc ?_ _ | with_reducible refine Up.drew ?_ | refine Up.trans ?_ (by with_reducible assumption))))).mono ?_); rintro e w1 ⟨B, rfl, hr, hUp⟩)
  obtain ⟨p, hp, hr, HM⟩ := hr.least
  have hlt := hr.lt
  have HR := Lib.hid hr
  have hU := RdUp.refl w.heap.size B 0 w1
  have hne0 : ¬ w1.heap.size = w.heap.size := by omega
  clear cO
  go_wp2_with (first | (go_at_call 23; ((with_reducible refine (pick_at (n := 70) HR.out hU (by intro c hU; (repeat (first | with_reducible assumption | refine RdUp.ups ?_ (by with_reducible assumption) | with_reducible refine RdUp.set ?_ (by first | exact Nat.le_refl _ | (simp only []; omega) | (simp; omega)) _ | with_reducible refine RdUp.alloc ?_ _ | with_reducible refine RdUp.drew ?_ | with_reducible exact RdUp.of (Up.refl _)))) (by omega)).mono ?_); rintro e w' ⟨o, rfl, o0, o1, hU, U⟩; have D := gcell U.1; have Z := U.1.size; (try simp at Z); (try have Y0 : w.heap.size < w'.heap.size := (by omega)); (try have Y1 : w.heap.size + 1 < w'.heap.size := (by omega)); (try have Y2 : w.heap.size + 1 + 1 < w'.heap.size := (by omega)); (try have X0 : w.heap.size < w'.heap.size + 1 := (by omega)); (try have X1 : w.heap.size + 1 < w'.heap.size + 1 := (by omega)); (try have X2 : w.heap.size + 1 + 1 < w'.heap.size + 1 := (by omega)); (skip))) | (go_at_call 23; ((with_reducible refine (pick_at (n := 16) HR.out hU (by intro c hU; (repeat (first | with_reducible assumption | refine RdUp.ups ?_ (by with_reducible assumption) | with_reducible refine RdUp.set ?_ (by first | exact Nat.le_refl _ | (simp only []; omega) | (simp; omega)) _ | with_reducible refine RdUp.alloc ?_ _ | with_reducible refine RdUp.drew ?_ | with_reducible exact RdUp.of (Up.refl _)))) (by omega)).mono ?_); rintro e w' ⟨k0, rfl, k00, k01, hU, U⟩; have D := gcell U.1; have Z := U.1.size; (try simp at Z); (try have Y0 : w.heap.size < w'.heap.size := (by omega)); (try have Y1 : w.heap.size + 1 < w'.heap.size := (by omega)); (try have Y2 : w.heap.size + 1 + 1 < w'.heap.size := (by omega)); (try have X0 : w.heap.size < w'.heap.size + 1 := (by omega)); (try have X1 : w.heap.size + 1 < w'.heap.size + 1 := (by omega)); (try have X2 : w.heap.size + 1 + 1 < w'.heap.size + 1 := (by omega)); (skip))) | (go_at_call 24; ((with_reducible refine (num_at ([-1, 9223372036854775807, -9223372036854775808]) HR.out hU (by intro c hU; (repeat (first | with_reducible assumption | refine RdUp.ups ?_ (by with_reducible assumption) | with_reducible refine RdUp.set ?_ (by first | exact Nat.le_refl _ | (simp only []; omega) | (simp; omega)) _ | with_reducible refine RdUp.alloc ?_ _ | with_reducible refine RdUp.drew ?_ | with_reducible exact RdUp.of (Up.refl _)))) (by omega) (by first | rfl | (simp; done) | fail) (by first | rfl | (simp; done) | fail) (by first | rfl | (simp; done) | fail) (by simp) (by simp) (by first | rfl | (simp; done) | fail)).mono ?_); rintro e w' ⟨i, rfl, hi, hU, U⟩; have D := gcell U.1; have Z := U.1.size; (try simp at Z); (try have Y0 : w.heap.size < w'.heap.size := (by omega)); (try have Y1 : w.heap.size + 1 < w'.heap.size := (by omega)); (try have Y2 : w.heap.size + 1 + 1 < w'.heap.size := (by omega)); (try have X0 : w.heap.size < w'.heap.size + 1 := (by omega)); (try have X1 : w.heap.size + 1 < w'.heap.size + 1 := (by omega)); (try have X2 : w.heap.size + 1 + 1 < w'.heap.size + 1 := (by omega)); (skip))) | (go_at_call 25; have hUq := Lib.hid (up_grownR hUp hU.1 (Nat.le_refl _)); (with_reducible refine (cF _ hUq.out).mono ?_); rintro e w5 ⟨u, ps, rfl, h1, h2, U5⟩; have hW5 := Lib.hid (hUq.out.trans U5); have hO5 := Lib.hid (ownsRow_base h2 hUq.out.size)))
  all_goals
    ((try simp only [Exit.inBlock, Exit.then]); refine bodyPost_ret (v := _) (by simp [results, Tryd.results10, go_sem]; rfl) rfl ?_)
    exact ⟨_, ps, _, rfl, h1, hO5.out, hW5.out⟩

end Go.Proofs.YtmjpopfacagjhaaDoor
