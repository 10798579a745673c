/- The program's ParseIndex. Conditions: fewer than 2^20 bytes; the listed variables lie as they were laid. -/
import Derived.Test.YtiiahjnfbhcgmaaDoorPi1
import Derived.Test.YtiiahjnfbhcgmaaDoorPn
import Derived.Test.YtiiahjnfbhcgmaaDoorSeek3
namespace Go.Proofs.YtiiahjnfbhcgmaaDoor
set_option linter.unusedVariables false
set_option linter.unusedSimpArgs false
open Go Go.RowKit

theorem lens_ge : ∀ xs : List (List UInt8), (∀ x ∈ xs, 1 ≤ x.length) → xs.length ≤ Lib.lens xs
  | [], _ => by simp [Lib.lens]
  | x :: r, h => by
    have h1 := lens_ge r (fun y hy => h y (List.mem_cons_of_mem _ hy))
    have h2 := h x (List.mem_cons_self ..)
    simp only [Lib.lens, List.map_cons, List.sum_cons, List.length_cons] at *
    omega
theorem plcs_len {t : List UInt8} {ps : List PlaceD} (h : allP plcP (splL 32 t) = some ps) : 2 * ps.length ≤ t.length + 1 := by
  have hx := allP_text h (fun x y => plcP_text)
  have hl := allP_len h
  have hj := join_splL 32 t
  cases hs : splL 32 t with
  | nil => exact absurd hs (splL_ne _ _)
  | cons x r =>
    rw [hs] at hj hx hl
    have h1 := Lib.join_length x r [32]
    rw [hj] at h1
    have h2 := lens_ge (x :: r) (fun y hy => by
      rw [hx] at hy
      obtain ⟨p, -, rfl⟩ := List.mem_map.1 hy
      simp [plcT]; omega)
    simp only [List.length_cons, List.length_nil, Nat.zero_add, Nat.one_mul] at *
    omega
theorem prsIx_no {t : List UInt8} {xs : List (List UInt8)} {k : Nat} (hxs : xs = splL 32 t) (ht : t ≠ [45]) (hk : k < xs.length) (h : plcP xs[k] = none) : prsIx t = none := by
  subst hxs
  unfold prsIx
  rw [if_neg ht, allP_none hk h]
theorem prsIx_end {t : List UInt8} {ps : List PlaceD} (ht : t ≠ [45]) (h : allP plcP (splL 32 t) = some ps) : prsIx t = if validP ps then some ps else none := by
  unfold prsIx
  rw [if_neg ht, h]
def RelPy (xs : List (List UInt8)) (vp : Value) (w : World) (out i : Value) (wr : World) : Prop := ∃ (k : Nat) (ps : List PlaceD), k ≤ xs.length ∧ i = .int .i64 k ∧ allP plcP (xs.take k) = some ps ∧ wr.ownsRow w.heap.size 52 2 out ps.length (cellsP ps) ∧ ownS wr w.heap.size vp (xs.map bs) ∧ ps.length = k ∧ Up w wr

set_option maxRecDepth 100000 in
set_option maxHeartbeats 1000000 in
theorem pixI_any (t : List UInt8) (w : World) (hL : Lay w) (hs : t.length ≤ 1048576) :
    Calls Tryd.prog 21  #[.string (bs t)] w (PixPost t w) := by
  obtain ⟨i0, hi, hz0, hz1, hz2⟩ := info_parts infoPlace
  unfold PixPost
  by_cases ht : t = [45]
  · subst ht
    have hb : ((bs [45]).toList == (⟨#[45]⟩ : ByteArray).toList) = true := by rw [Lib.toList_data, Lib.toList_data]; rfl
    have hb2 : (bs [45]).toList = [45] := by rw [Lib.toList_data]; rfl
    rw [show prsIx [45] = some [] from rfl]
    go_enter Tryd.func21, Tryd.ntmps21
    go_wp2
    ((try simp only [Exit.inBlock, Exit.then]); refine bodyPost_ret (v := _) (by simp [results, Tryd.results21, go_sem]; rfl) rfl ?_)
    exact ⟨_, rfl, World.ownsRow_nil _ _ _ _, by (repeat (first | with_reducible exact Up.refl _ | with_reducible assumption | with_reducible refine Up.set ?_ (by first | exact Nat.le_refl _ | (simp only []; omega) | (simp; omega)) _ | with_reducible refine Up.alloc ?_ _ | with_reducible refine Up.drew ?_ | refine Up.trans ?_ (by with_reducible assumption)))⟩
  · have zT := bs_size t
    have hb : ((bs t).toList == (⟨#[45]⟩ : ByteArray).toList) = false := by rw [Lib.toList_data, Lib.toList_data, bs_data]; simpa using ht
    have hb2 : ((bs t).toList == [45]) = false := by rw [Lib.toList_data, bs_data]; simpa using ht
    have hb3 : ¬ (bs t).toList = [45] := by rw [Lib.toList_data, bs_data]; exact ht
    have cS := fun wx (hx : Up w wx) => split_any (bs t) 32 wx (hL.up hx).max (by omega)
    rw [bs_data] at cS
    have hxl := splL_length_le 32 t
    have hxp := splL_piece_le 32 t
    obtain ⟨xs, hxs⟩ : ∃ xs, xs = splL 32 t := ⟨_, rfl⟩
    rw [← hxs] at cS hxl hxp
    have HL := Lib.hid hL
    have HXS := Lib.hid hxs
    have HT := Lib.hid ht
    clear hL hxs ht
    go_enter Tryd.func21, Tryd.ntmps21
    go_wp2_with (go_at_call 52; (with_reducible refine (cS _ (by (repeat (first | with_reducible exact Up.refl _ | with_reducible assumption | with_reducible refine Up.set ?_ (by first | exact Nat.le_refl _ | (simp only []; omega) | (simp; omega)) _ | with_reducible refine Up.alloc ?_ _ | with_reducible refine Up.drew ?_ | refine Up.trans ?_ (by with_reducible assumption))))).mono ?_); rintro e w1 ⟨vp, rfl, ho, U1⟩; obtain ⟨av, cv, rfl⟩ := ownsRow_shape ho)
    simp only [List.length_map] at ho ⊢
    clear hb hb2 hb3 cS
    go_loopw [4, 19] (fun out i wr => RelPy xs (.slice av xs.length cv) w out i wr) (fun _ i _ => xs.length - (intOf i).toNat)
    case atStart => exact ⟨0, [], Nat.zero_le _, rfl, rfl, World.ownsRow_nil _ _ _ _, ho, rfl, U1⟩
    case round =>
      clear ho U1
      obtain ⟨k, ps, hk, rfl, hall, hown, ho2, hpl, hup⟩ := hrel
      have hpc := rowsX_ne ho2 hown (by decide)
      have HALL := Lib.hid hall
      have HPL := Lib.hid hpl
      have hpl2 : ps.length ≤ 1048577 := by omega
      have HO2 := Lib.hid ho2
      have HOW := Lib.hid hown
      have HPC := Lib.hid hpc
      clear hall hpl hpc
      have hsz := hup.size
      obtain ⟨ao, co, rfl⟩ := ownsRow_shape hown
      by_cases hlt : k < xs.length
      · obtain ⟨g, rfl, hg, -, hc1, hc2, c0⟩ := own_strs HO2.out hlt
        have hxk : (xs[k]).length ≤ t.length := hxp _ (List.getElem_mem _)
        have cC := fun wx (hx : Up w wx) => cut_any xs[k] 58 wx (HL.out.up hx).max (by omega)
        have HNO : Hid (plcP xs[k] = none → prsIx t = none) := fun h => prsIx_no HXS.out HT.out hlt h
        have HXK : Hid (xs[k] = xs[k]) := rfl
        clear hown ho2
        cases hcut : cutL 58 xs[k] with
        | none =>
          have e : Hid (prsIx t = none) := HNO.out (by unfold plcP pairP; rw [hcut]; rfl)
          rw [hcut] at cC
          simp only [Option.isSome_none] at cC
          have cP := fun wx (hx : Up w wx) => pnum_any xs[k] wx (HL.out.up hx) (by omega)
          have cQ := fun wx (hx : Up w wx) => pnum_any [] wx (HL.out.up hx) (by simp)
          clear hcut HXK HNO
          generalize xs[k] = x at *
          generalize (numP x).getD 0 = n1 at *
          generalize (numP x).isSome = b1 at *
          generalize (numP []).getD 0 = n2 at *
          generalize (numP []).isSome = b2 at *
          go_wp2_with (first | (go_at_call 53; (with_reducible refine (cC _ (by (repeat (first | with_reducible exact Up.refl _ | with_reducible assumption | with_reducible refine Up.set ?_ (by first | exact Nat.le_refl _ | (simp only []; omega) | (simp; omega)) _ | with_reducible refine Up.alloc ?_ _ | with_reducible refine Up.drew ?_ | refine Up.trans ?_ (by with_reducible assumption))))).mono ?_); rintro e w3 ⟨rfl, U3⟩) | (go_at_call 54; first | ((with_reducible refine (cP _ (by (repeat (first | with_reducible exact Up.refl _ | with_reducible assumption | with_reducible refine Up.set ?_ (by first | exact Nat.le_refl _ | (simp only []; omega) | (simp; omega)) _ | with_reducible refine Up.alloc ?_ _ | with_reducible refine Up.drew ?_ | refine Up.trans ?_ (by with_reducible assumption))))).mono ?_); rintro e w4 ⟨rfl, U4⟩) | ((with_reducible refine (cQ _ (by (repeat (first | with_reducible exact Up.refl _ | with_reducible assumption | with_reducible refine Up.set ?_ (by first | exact Nat.le_refl _ | (simp only []; omega) | (simp; omega)) _ | with_reducible refine Up.alloc ?_ _ | with_reducible refine Up.drew ?_ | refine Up.trans ?_ (by with_reducible assumption))))).mono ?_); rintro e w5 ⟨rfl, U5⟩)))
          ((try simp only [Exit.inBlock, Exit.then]); refine bodyPost_ret (v := _) (by simp [results, Tryd.results21, go_sem]; rfl) rfl ?_)
          exact ⟨_, by rw [e.out]; rfl, by rw [e.out]; exact World.ownsRow_nil _ _ _ _, by (repeat (first | with_reducible exact Up.refl _ | with_reducible assumption | with_reducible refine Up.set ?_ (by first | exact Nat.le_refl _ | (simp only []; omega) | (simp; omega)) _ | with_reducible refine Up.alloc ?_ _ | with_reducible refine Up.drew ?_ | refine Up.trans ?_ (by with_reducible assumption)))⟩
        | some p =>
          obtain ⟨x, y⟩ := p
          obtain ⟨hxy, -⟩ := cutL_some hcut
          have hxl1 : x.length ≤ t.length := by have := congrArg List.length hxy; simp at this; omega
          have hyl1 : y.length ≤ t.length := by have := congrArg List.length hxy; simp at this; omega
          have HV : Hid (plcP xs[k] = match numP x, numP y with | some a, some b => some ⟨a, b⟩ | _, _ => none) := by unfold Hid plcP pairP; rw [hcut]; simp only []; cases numP x <;> cases numP y <;> rfl
          rw [hcut] at cC
          simp only [Option.isSome_some] at cC
          have cP := fun wx (hx : Up w wx) => pnum_any x wx (HL.out.up hx) (by omega)
          have cQ := fun wx (hx : Up w wx) => pnum_any y wx (HL.out.up hx) (by omega)
          clear hcut HXK hxy
          cases hx : numP x with
          | none =>
            have e : Hid (prsIx t = none) := HNO.out (by rw [HV.out, hx])
            rw [hx] at cP
            simp only [Option.getD_none, Option.isSome_none] at cP
            clear hx HV HNO
            generalize (numP y).getD 0 = n2 at *
            generalize (numP y).isSome = b2 at *
            go_wp2_with (first | (go_at_call 53; (with_reducible refine (cC _ (by (repeat (first | with_reducible exact Up.refl _ | with_reducible assumption | with_reducible refine Up.set ?_ (by first | exact Nat.le_refl _ | (simp only []; omega) | (simp; omega)) _ | with_reducible refine Up.alloc ?_ _ | with_reducible refine Up.drew ?_ | refine Up.trans ?_ (by with_reducible assumption))))).mono ?_); rintro e w3 ⟨rfl, U3⟩) | (go_at_call 54; first | ((with_reducible refine (cP _ (by (repeat (first | with_reducible exact Up.refl _ | with_reducible assumption | with_reducible refine Up.set ?_ (by first | exact Nat.le_refl _ | (simp only []; omega) | (simp; omega)) _ | with_reducible refine Up.alloc ?_ _ | with_reducible refine Up.drew ?_ | refine Up.trans ?_ (by with_reducible assumption))))).mono ?_); rintro e w4 ⟨rfl, U4⟩) | ((with_reducible refine (cQ _ (by (repeat (first | with_reducible exact Up.refl _ | with_reducible assumption | with_reducible refine Up.set ?_ (by first | exact Nat.le_refl _ | (simp only []; omega) | (simp; omega)) _ | with_reducible refine Up.alloc ?_ _ | with_reducible refine Up.drew ?_ | refine Up.trans ?_ (by with_reducible assumption))))).mono ?_); rintro e w5 ⟨rfl, U5⟩)))
            ((try simp only [Exit.inBlock, Exit.then]); refine bodyPost_ret (v := _) (by simp [results, Tryd.results21, go_sem]; rfl) rfl ?_)
            exact ⟨_, by rw [e.out]; rfl, by rw [e.out]; exact World.ownsRow_nil _ _ _ _, by (repeat (first | with_reducible exact Up.refl _ | with_reducible assumption | with_reducible refine Up.set ?_ (by first | exact Nat.le_refl _ | (simp only []; omega) | (simp; omega)) _ | with_reducible refine Up.alloc ?_ _ | with_reducible refine Up.drew ?_ | refine Up.trans ?_ (by with_reducible assumption)))⟩
          | some a =>
            rw [hx] at cP
            simp only [Option.getD_some, Option.isSome_some] at cP
            cases hy : numP y with
            | none =>
              have e : Hid (prsIx t = none) := HNO.out (by rw [HV.out, hx, hy])
              rw [hy] at cQ
              simp only [Option.getD_none, Option.isSome_none] at cQ
              clear hx hy HV HNO
              go_wp2_with (first | (go_at_call 53; (with_reducible refine (cC _ (by (repeat (first | with_reducible exact Up.refl _ | with_reducible assumption | with_reducible refine Up.set ?_ (by first | exact Nat.le_refl _ | (simp only []; omega) | (simp; omega)) _ | with_reducible refine Up.alloc ?_ _ | with_reducible refine Up.drew ?_ | refine Up.trans ?_ (by with_reducible assumption))))).mono ?_); rintro e w3 ⟨rfl, U3⟩) | (go_at_call 54; first | ((with_reducible refine (cP _ (by (repeat (first | with_reducible exact Up.refl _ | with_reducible assumption | with_reducible refine Up.set ?_ (by first | exact Nat.le_refl _ | (simp only []; omega) | (simp; omega)) _ | with_reducible refine Up.alloc ?_ _ | with_reducible refine Up.drew ?_ | refine Up.trans ?_ (by with_reducible assumption))))).mono ?_); rintro e w4 ⟨rfl, U4⟩) | ((with_reducible refine (cQ _ (by (repeat (first | with_reducible exact Up.refl _ | with_reducible assumption | with_reducible refine Up.set ?_ (by first | exact Nat.le_refl _ | (simp only []; omega) | (simp; omega)) _ | with_reducible refine Up.alloc ?_ _ | with_reducible refine Up.drew ?_ | refine Up.trans ?_ (by with_reducible assumption))))).mono ?_); rintro e w5 ⟨rfl, U5⟩)))
              ((try simp only [Exit.inBlock, Exit.then]); refine bodyPost_ret (v := _) (by simp [results, Tryd.results21, go_sem]; rfl) rfl ?_)
              exact ⟨_, by rw [e.out]; rfl, by rw [e.out]; exact World.ownsRow_nil _ _ _ _, by (repeat (first | with_reducible exact Up.refl _ | with_reducible assumption | with_reducible refine Up.set ?_ (by first | exact Nat.le_refl _ | (simp only []; omega) | (simp; omega)) _ | with_reducible refine Up.alloc ?_ _ | with_reducible refine Up.drew ?_ | refine Up.trans ?_ (by with_reducible assumption)))⟩
            | some b =>
              have HN : Hid (allP plcP (xs.take (k + 1)) = some (ps ++ [⟨a, b⟩])) := allP_take_succ hlt HALL.out (by rw [HV.out, hx, hy])
              rw [hy] at cQ
              simp only [Option.getD_some, Option.isSome_some] at cQ
              clear hx hy HV HNO
              go_wp2_with (first | (go_at_call 53; (with_reducible refine (cC _ (by (repeat (first | with_reducible exact Up.refl _ | with_reducible assumption | with_reducible refine Up.set ?_ (by first | exact Nat.le_refl _ | (simp only []; omega) | (simp; omega)) _ | with_reducible refine Up.alloc ?_ _ | with_reducible refine Up.drew ?_ | refine Up.trans ?_ (by with_reducible assumption))))).mono ?_); rintro e w3 ⟨rfl, U3⟩) | (go_at_call 54; first | ((with_reducible refine (cP _ (by (repeat (first | with_reducible exact Up.refl _ | with_reducible assumption | with_reducible refine Up.set ?_ (by first | exact Nat.le_refl _ | (simp only []; omega) | (simp; omega)) _ | with_reducible refine Up.alloc ?_ _ | with_reducible refine Up.drew ?_ | refine Up.trans ?_ (by with_reducible assumption))))).mono ?_); rintro e w4 ⟨rfl, U4⟩) | ((with_reducible refine (cQ _ (by (repeat (first | with_reducible exact Up.refl _ | with_reducible assumption | with_reducible refine Up.set ?_ (by first | exact Nat.le_refl _ | (simp only []; omega) | (simp; omega)) _ | with_reducible refine Up.alloc ?_ _ | with_reducible refine Up.drew ?_ | refine Up.trans ?_ (by with_reducible assumption))))).mono ?_); rintro e w5 ⟨rfl, U5⟩)) | (at_builtin; refine wpList_append_own _ rfl _ _ 25 rfl w.heap.size 52 i0 (.agg #[.int .i64 0, .int .i64 0]) 2 16 Tryd.underlying25 hi hz0 hz1 hz2 rfl (by decide) _ _ _ rfl ((ownsRow_up HOW.out (show Up wr w5 by (repeat (first | with_reducible exact Up.refl _ | with_reducible assumption | with_reducible refine Up.set ?_ (by first | exact Nat.le_refl _ | (simp only []; omega) | (simp; omega)) _ | with_reducible refine Up.alloc ?_ _ | with_reducible refine Up.drew ?_ | refine Up.trans ?_ (by with_reducible assumption))))).alloc _) ⟨w5.heap.size, 0, none⟩ 1 1 (plcC ⟨a, b⟩) rfl rfl (new_cells (plcC ⟨a, b⟩) _ rfl) (plcC_one _) (by unfold maxLen; omega) (by omega) (by have := (show Up wr w5 by (repeat (first | with_reducible exact Up.refl _ | with_reducible assumption | with_reducible refine Up.set ?_ (by first | exact Nat.le_refl _ | (simp only []; omega) | (simp; omega)) _ | with_reducible refine Up.alloc ?_ _ | with_reducible refine Up.drew ?_ | refine Up.trans ?_ (by with_reducible assumption)))).size; simp; omega) ?_; rintro v2 w2 hown2 hgr2 -))
              have U5' : Up wr w5 := by (repeat (first | with_reducible exact Up.refl _ | with_reducible assumption | with_reducible refine Up.set ?_ (by first | exact Nat.le_refl _ | (simp only []; omega) | (simp; omega)) _ | with_reducible refine Up.alloc ?_ _ | with_reducible refine Up.drew ?_ | refine Up.trans ?_ (by with_reducible assumption)))
              go_roundw
              case rel => exact ⟨k + 1, ps ++ [⟨a, b⟩], by omega, by go_num, HN.out, by rw [cellsP_snoc, List.length_append]; exact hown2, World.ownsRow.kept (ownsRow_up HO2.out (U5'.alloc _)) hgr2 HPC.out, by rw [List.length_append, HPL.out]; rfl, ((hup.trans U5').alloc _).grown hgr2 (fun x hx => (HOW.out.lt x hx).1)⟩
              case measure => simp [intOf]; omega
      · have hkx : k = xs.length := by omega
        have hall := HALL.out
        rw [List.take_of_length_le (by omega), HXS.out] at hall
        have hpb := plcs_len hall
        have cV := fun wx (hx : Up wr wx) => validI_any ps _ w.heap.size wx (ownsRow_up HOW.out hx) (by omega)
        have hE := prsIx_end HT.out hall
        cases hv : validP ps
        · have e : Hid (prsIx t = none) := by unfold Hid; rw [hE, hv]; rfl
          rw [hv] at cV
          clear hv hE hall
          go_wp2_with (go_at_call 28; (with_reducible refine (cV _ (by (repeat (first | with_reducible exact Up.refl _ | with_reducible assumption | with_reducible refine Up.set ?_ (by first | exact Nat.le_refl _ | (simp only []; omega) | (simp; omega)) _ | with_reducible refine Up.alloc ?_ _ | with_reducible refine Up.drew ?_ | refine Up.trans ?_ (by with_reducible assumption))))).mono ?_); rintro e w3 ⟨rfl, U3⟩)
          ((try simp only [Exit.inBlock, Exit.then]); refine bodyPost_ret (v := _) (by simp [results, Tryd.results21, go_sem]; rfl) rfl ?_)
          exact ⟨_, by rw [e.out]; rfl, by rw [e.out]; exact World.ownsRow_nil _ _ _ _, by (repeat (first | with_reducible exact Up.refl _ | with_reducible assumption | with_reducible refine Up.set ?_ (by first | exact Nat.le_refl _ | (simp only []; omega) | (simp; omega)) _ | with_reducible refine Up.alloc ?_ _ | with_reducible refine Up.drew ?_ | refine Up.trans ?_ (by with_reducible assumption)))⟩
        · have e : Hid (prsIx t = some ps) := by unfold Hid; rw [hE, hv]; rfl
          rw [hv] at cV
          clear hv hE hall
          go_wp2_with (go_at_call 28; (with_reducible refine (cV _ (by (repeat (first | with_reducible exact Up.refl _ | with_reducible assumption | with_reducible refine Up.set ?_ (by first | exact Nat.le_refl _ | (simp only []; omega) | (simp; omega)) _ | with_reducible refine Up.alloc ?_ _ | with_reducible refine Up.drew ?_ | refine Up.trans ?_ (by with_reducible assumption))))).mono ?_); rintro e w3 ⟨rfl, U3⟩)
          ((try simp only [Exit.inBlock, Exit.then]); refine bodyPost_ret (v := _) (by simp [results, Tryd.results21, go_sem]; rfl) rfl ?_)
          exact ⟨_, by rw [e.out]; rfl, by rw [e.out]; exact ownsRow_up HOW.out U3, hup.trans U3⟩

end Go.Proofs.YtiiahjnfbhcgmaaDoor
