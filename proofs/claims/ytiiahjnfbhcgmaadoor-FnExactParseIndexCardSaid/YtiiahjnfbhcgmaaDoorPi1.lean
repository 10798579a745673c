/- The reference's ParseIndex. Conditions: fewer than 2^20 bytes. -/
import Derived.Test.YtiiahjnfbhcgmaaDoorPip
import Derived.Test.YtiiahjnfbhcgmaaDoorNw
import Derived.Test.YtiiahjnfbhcgmaaDoorCt
import Derived.Test.YtiiahjnfbhcgmaaDoorFi1
namespace Go.Proofs.YtiiahjnfbhcgmaaDoor
set_option linter.unusedVariables false
set_option linter.unusedSimpArgs false
open Go Go.RowKit

theorem rowsX_ne {w : World} {b1 b2 : Nat} {e1 e2 : TypeId} {s1 s2 n1 n2 : Nat} {v1 v2 : Value} {x1 x2 : List Value} (h1 : w.ownsRow b1 e1 s1 v1 n1 x1) (h2 : w.ownsRow b2 e2 s2 v2 n2 x2) (hne : e1 ≠ e2) : v1.ownBlock = none ∨ v1.ownBlock ≠ v2.ownBlock := by
  rcases h1.2 with ⟨rfl, _⟩ | ⟨g, cap, cur, rfl, _, hg, _⟩
  · exact .inl rfl
  · refine .inr fun e => ?_
    rcases h2.2 with ⟨rfl, _⟩ | ⟨g2, cap2, cur2, rfl, _, hg2, _⟩
    · cases e
    · cases e
      rw [hg] at hg2
      cases hg2
      exact hne rfl
/-- What ParseIndex leaves. -/
def PixPost (t : List UInt8) (w : World) (e : Ending) (w' : World) : Prop := ∃ v, e = .returned (.tuple #[v, .bool (prsIx t).isSome]) ∧ w'.ownsRow w.heap.size 52 2 v ((prsIx t).getD []).length (cellsP ((prsIx t).getD [])) ∧ Up w w'
def RelPx (t : List UInt8) (xs : List (List UInt8)) (vp : Value) (w : World) (out i : Value) (wr : World) : Prop := ∃ (k : Nat) (ps : List PlaceD), k ≤ xs.length ∧ k ≤ 41 ∧ (t = [45] → k = 0) ∧ i = .int .i64 k ∧ allP plcR (xs.take k) = some ps ∧ wr.ownsRow w.heap.size 52 2 out ps.length (cellsP ps) ∧ ownS wr (w.heap.size + 1) vp (xs.map bs) ∧ ps.length = k ∧ Up w wr
theorem own_strs {w : World} {base : Nat} {a : Option Addr} {n c : Nat} {xs : List (List UInt8)} (h : ownS w base (.slice a n c) (xs.map bs)) {k : Nat} (hk : k < xs.length) : ∃ g, a = some ⟨g, 0, none⟩ ∧ g < w.heap.size ∧ n = xs.length ∧ n ≤ c ∧ c ≤ maxLen ∧ w.cell? ⟨g, k, none⟩ = some (.string (bs xs[k])) := by
  unfold ownS at h
  rw [List.length_map] at h
  rcases ownsRow_read h with ⟨e, h2⟩ | ⟨g, cap, e, h1, h2, h3, h4, h5⟩
  · omega
  · cases e
    exact ⟨g, rfl, h4, rfl, h1, h2, h5 k _ (by simp [cellsS, hk])⟩

theorem l9Cut_n (l : List UInt8) (c : UInt8) (n : Int) (hn : (c.toNat : Int) = n) (w : World) (hs : l.length ≤ 1048576) :
    Calls Tryd.prog 48  #[.string (bs l), .int .u8 n] w (fun e w' => ∃ v, e = .returned v ∧ ownS w' w.heap.size v ((splL c l).map bs) ∧ Up w w') := by
  subst hn
  have := l9Cut_any (bs l) c w (by rw [bs_size]; exact hs)
  rw [bs_data] at this
  exact this
theorem l9Find_n (l : List UInt8) (c : UInt8) (n : Int) (hn : (c.toNat : Int) = n) (w : World) (hs : l.length ≤ 1048576) :
    Calls Tryd.prog 50  #[.string (bs l), .int .u8 n] w (fun e w' => e = .returned (.int .i64 (findL l c)) ∧ w = w') := by
  subst hn
  have := l9Find_any (bs l) c w (by rw [bs_size]; omega)
  rw [bs_data] at this
  exact this

set_option maxRecDepth 100000 in
set_option maxHeartbeats 1000000 in
theorem pixS_any (t : List UInt8) (w : World) (hs : t.length ≤ 1048576) :
    Calls Tryd.prog 20  #[.string (bs t)] w (PixPost t w) := by
  obtain ⟨i0, hi, hz0, hz1, hz2⟩ := info_parts infoPlace
  unfold PixPost
  have cN := fun wx => l3None_any t wx
  have zT := bs_size t
  have hnl : (noneL t).length ≤ 1048576 := by unfold noneL; split; exact Nat.zero_le _; exact hs
  have zN := bs_size (noneL t)
  have cC := fun wx => l9Cut_n (noneL t) 32 32 rfl wx hnl
  have hno : t ≠ [45] → noneL t = t := fun h => if_neg h
  generalize noneL t = u at *
  have hxl := splL_length_le 32 u
  have hxp := splL_piece_le 32 u
  obtain ⟨xs, hxs⟩ : ∃ xs, xs = splL 32 u := ⟨_, rfl⟩
  rw [← hxs] at cC hxl hxp
  go_enter Tryd.func20, Tryd.ntmps20
  go_wp2_with (first | (go_at_call 49; (with_reducible refine (cN _).mono ?_); rintro e w1 ⟨rfl, rfl⟩) | (go_at_call 48; (with_reducible refine (cC _).mono ?_); rintro e w2 ⟨vp, rfl, ho, U2⟩))
  obtain ⟨av, cv, rfl⟩ := ownsRow_shape ho
  simp only [List.length_map] at ho ⊢
  have HXS := Lib.hid hxs
  have HNO := Lib.hid hno
  have HS := Lib.hid hs
  clear hxs hno cC cN hs
  go_wp2
  go_loopw [4, 6] (fun out i wr => RelPx t xs (.slice av xs.length cv) w out i wr) (fun _ i _ => xs.length - (intOf i).toNat)
  case atStart => exact ⟨0, [], Nat.zero_le _, Nat.zero_le _, fun _ => rfl, rfl, rfl, ownsRow_up (World.ownsRow_made _ _ _ (Nat.le_refl _) (by unfold maxLen; omega) rfl) U2, ownsRow_base ho (by simp), rfl, ((Up.refl _).alloc _).trans U2⟩
  case round =>
    clear ho U2
    obtain ⟨k, ps, hk, hk41, hk0, rfl, hall, hown, ho2, hpl, hup⟩ := hrel
    have HPC := Lib.hid (rowsX_ne ho2 hown (by decide))
    have HALL := Lib.hid hall
    have HK0 := Lib.hid hk0
    have HPL := Lib.hid hpl
    have HOW := Lib.hid hown
    have HO2 := Lib.hid ho2
    have hpl2 : ps.length ≤ 41 := by omega
    obtain ⟨ao, co, rfl⟩ := ownsRow_shape hown
    clear hall hk0 hpl ho2 hown
    have hsz := hup.size
    by_cases hgo : k < xs.length ∧ t ≠ [45] ∧ k ≤ 40
    · obtain ⟨hlt, ht, hk40⟩ := hgo
      have hb : ((bs t).toList == (⟨#[45]⟩ : ByteArray).toList) = false := by rw [Lib.toList_data, Lib.toList_data, bs_data]; simpa using ht
      have hb2 : ((bs t).toList == [45]) = false := by rw [Lib.toList_data, bs_data]; simpa using ht
      have hb3 : ¬ (bs t).toList = [45] := by rw [Lib.toList_data, bs_data]; exact ht
      have hu : u = t := HNO.out ht
      have HT := Lib.hid ht
      clear ht
      obtain ⟨g, rfl, hg, -, hc1, hc2, c0⟩ := own_strs HO2.out hlt
      have hxk : (xs[k]).length ≤ u.length := hxp _ (List.getElem_mem _)
      have HXE : Hid (plcR xs[k] = none → allP plcR ((splL 32 t).take 41) = none) := fun h => by
        have hxe : xs = splL 32 t := by rw [HXS.out, hu]
        subst hxe
        exact allP_none (k := k) (by rw [List.length_take]; omega) (by rw [List.getElem_take]; exact h)
      have HU := Lib.hid hu
      have zX := bs_size xs[k]
      have cC := fun wx => l9Find_n xs[k] 58 58 rfl wx (by omega)
      clear hu hxp
      cases hcut : cutL 58 xs[k] with
      | none =>
        have e : Hid (prsIx t = none) := by
          unfold Hid
          rw [prsIx_len]
          have : lenIx t = none := by
            unfold lenIx
            rw [if_neg HT.out]
            exact HXE.out (by unfold plcR pairR; rw [hcut]; rfl)
          rw [this]
        rw [findL_cut_none hcut] at cC
        clear hcut
        have HXK : Hid True := trivial
        go_wp2_with (go_at_call 50; (with_reducible refine (cC _).mono ?_); rintro e w3 ⟨rfl, rfl⟩)
        ((try simp only [Exit.inBlock, Exit.then]); refine bodyPost_ret (v := _) (by simp [results, Tryd.results20, go_sem]; rfl) rfl ?_)
        exact ⟨_, by rw [e.out]; rfl, by rw [e.out]; exact World.ownsRow_made wr #[] 0 hsz (by unfold maxLen; omega) rfl, hup.alloc _⟩
      | some p =>
        obtain ⟨x, y⟩ := p
        obtain ⟨hxy, -⟩ := cutL_some hcut
        rw [findL_cut hcut] at cC
        have hlen : (xs[k]).length = x.length + (y.length + 1) := by have := congrArg List.length hxy; simpa using this
        have cA := fun wx => l9Num_any x wx (by omega)
        have cB := fun wx => l9Num_any y wx (by omega)
        have hE1 : (bs xs[k]).extract 0 x.length = bs x := by rw [bs_ext, hxy]; simp
        have hE2 : (bs xs[k]).extract (x.length + 1) (x.length + (y.length + 1)) = bs y := by rw [bs_ext, hxy, show x.length + (y.length + 1) - (x.length + 1) = y.length by omega]; simp
        have HV : Hid (plcR xs[k] = some ⟨(numR x).getD 0, (numR y).getD 0⟩) := by unfold Hid plcR pairR; rw [hcut]; rfl
        clear hcut hxy
        have HN : Hid (allP plcR (xs.take (k + 1)) = some (ps ++ [⟨(numR x).getD 0, (numR y).getD 0⟩])) := allP_take_succ hlt HALL.out HV.out
        clear HV
        generalize (numR x).getD 0 = n1 at *
        generalize (numR y).getD 0 = n2 at *
        generalize (numR x).isSome = b1 at *
        generalize (numR y).isSome = b2 at *
        go_wp2_with (first | (go_at_call 50; (with_reducible refine (cC _).mono ?_); rintro e w3 ⟨rfl, rfl⟩) | (go_at_call 51; first | ((with_reducible refine (cA _).mono ?_); rintro e w4 ⟨rfl, rfl⟩) | ((with_reducible refine (cB _).mono ?_); rintro e w5 ⟨rfl, rfl⟩)) | (at_builtin; refine wpList_append_own _ rfl _ _ 25 rfl w.heap.size 52 i0 (.agg #[.int .i64 0, .int .i64 0]) 2 16 Tryd.underlying25 hi hz0 hz1 hz2 rfl (by decide) _ _ _ rfl (HOW.out.alloc _) ⟨wr.heap.size, 0, none⟩ 1 1 (plcC ⟨n1, n2⟩) rfl rfl (new_cells (plcC ⟨n1, n2⟩) _ rfl) (plcC_one _) (by unfold maxLen; omega) (by omega) (by simp; omega) ?_; rintro v2 w2 hown2 hgr2 -))
        go_roundw
        case rel => exact ⟨k + 1, ps ++ [⟨n1, n2⟩], by omega, by omega, fun h => absurd h HT.out, by go_num, HN.out, by rw [cellsP_snoc, List.length_append]; exact hown2, World.ownsRow.kept (ownsRow_up HO2.out ((Up.refl _).alloc _)) hgr2 HPC.out, by rw [List.length_append, HPL.out]; rfl, (hup.alloc _).grown hgr2 (fun x hx => (HOW.out.lt x hx).1)⟩
        case measure => simp [intOf]; omega
    · have HL : Hid (lenIx t = some ps) := by
        unfold Hid lenIx
        by_cases ht : t = [45]
        · rw [if_pos ht]
          have hk := HK0.out ht
          have h1 := HALL.out
          subst hk
          simp only [List.take_zero, allP] at h1
          exact h1
        · rw [if_neg ht, ← HALL.out, HXS.out, HNO.out ht]
          have hxe : xs = splL 32 t := by rw [HXS.out, HNO.out ht]
          by_cases h41 : k = 41
          · rw [h41]
          · have hkl : k = (splL 32 t).length := by rw [← hxe]; have : ¬ k < xs.length := fun h => hgo ⟨h, ht, by omega⟩; omega
            rw [List.take_of_length_le (by omega), List.take_of_length_le (by omega)]
      have hcs : (¬ k < xs.length) ∨ (k < xs.length ∧ t = [45]) ∨ (k < xs.length ∧ t ≠ [45] ∧ ¬ k ≤ 40) := by
        by_cases h1 : k < xs.length
        · by_cases h2 : t = [45]
          · exact .inr (.inl ⟨h1, h2⟩)
          · exact .inr (.inr ⟨h1, h2, fun h3 => hgo ⟨h1, h2, h3⟩⟩)
        · exact .inl h1
      clear hgo
      have cF := fun wx (hx : Up wr wx) => fixS_any ps _ _ wx (ownsRow_up HOW.out hx) (by omega)
      have zF := bs_size (fmtIx ps)
      by_cases hq : fmtIx ps = t
      · have e : Hid (prsIx t = some ps) := by unfold Hid; rw [prsIx_len, HL.out]; simp [hq]
        have hE : ((bs (fmtIx ps)).toList == (bs t).toList) = true := by rw [hq]; simp
        have HQ := Lib.hid hq
        generalize hF : fmtIx ps = F at *
        clear hq hF
        rcases hcs with hx | ⟨hx, ht⟩ | ⟨hx, ht, hk4⟩
        · go_wp2_with (go_at_call 8; (with_reducible refine (cF _ (by (repeat (first | with_reducible exact Up.refl _ | with_reducible assumption | with_reducible refine Up.set ?_ (by first | exact Nat.le_refl _ | (simp only []; omega) | (simp; omega)) _ | with_reducible refine Up.alloc ?_ _ | with_reducible refine Up.drew ?_ | refine Up.trans ?_ (by with_reducible assumption))))).mono ?_); rintro e w3 ⟨rfl, U3⟩)
          ((try simp only [Exit.inBlock, Exit.then]); refine bodyPost_ret (v := _) (by simp [results, Tryd.results20, go_sem]; rfl) rfl ?_)
          exact ⟨_, by rw [e.out]; rfl, by rw [e.out]; exact ownsRow_up HOW.out U3, hup.trans U3⟩
        · have hb : ((bs t).toList == (⟨#[45]⟩ : ByteArray).toList) = true := by rw [Lib.toList_data, Lib.toList_data, bs_data]; simpa using ht
          have hb2 : ((bs t).toList == [45]) = true := by rw [Lib.toList_data, bs_data]; simpa using ht
          clear ht
          go_wp2_with (go_at_call 8; (with_reducible refine (cF _ (by (repeat (first | with_reducible exact Up.refl _ | with_reducible assumption | with_reducible refine Up.set ?_ (by first | exact Nat.le_refl _ | (simp only []; omega) | (simp; omega)) _ | with_reducible refine Up.alloc ?_ _ | with_reducible refine Up.drew ?_ | refine Up.trans ?_ (by with_reducible assumption))))).mono ?_); rintro e w3 ⟨rfl, U3⟩)
          ((try simp only [Exit.inBlock, Exit.then]); refine bodyPost_ret (v := _) (by simp [results, Tryd.results20, go_sem]; rfl) rfl ?_)
          exact ⟨_, by rw [e.out]; rfl, by rw [e.out]; exact ownsRow_up HOW.out U3, hup.trans U3⟩
        · have hb : ((bs t).toList == (⟨#[45]⟩ : ByteArray).toList) = false := by rw [Lib.toList_data, Lib.toList_data, bs_data]; simpa using ht
          have hb2 : ((bs t).toList == [45]) = false := by rw [Lib.toList_data, bs_data]; simpa using ht
          clear ht
          go_wp2_with (go_at_call 8; (with_reducible refine (cF _ (by (repeat (first | with_reducible exact Up.refl _ | with_reducible assumption | with_reducible refine Up.set ?_ (by first | exact Nat.le_refl _ | (simp only []; omega) | (simp; omega)) _ | with_reducible refine Up.alloc ?_ _ | with_reducible refine Up.drew ?_ | refine Up.trans ?_ (by with_reducible assumption))))).mono ?_); rintro e w3 ⟨rfl, U3⟩)
          ((try simp only [Exit.inBlock, Exit.then]); refine bodyPost_ret (v := _) (by simp [results, Tryd.results20, go_sem]; rfl) rfl ?_)
          exact ⟨_, by rw [e.out]; rfl, by rw [e.out]; exact ownsRow_up HOW.out U3, hup.trans U3⟩
      · have e : Hid (prsIx t = none) := by unfold Hid; rw [prsIx_len, HL.out]; simp [hq]
        have hE : ((bs (fmtIx ps)).toList == (bs t).toList) = false := by rw [Lib.toList_data, Lib.toList_data, bs_data, bs_data]; simpa using hq
        generalize hF : fmtIx ps = F at *
        clear hq hF
        rcases hcs with hx | ⟨hx, ht⟩ | ⟨hx, ht, hk4⟩
        · go_wp2_with (go_at_call 8; (with_reducible refine (cF _ (by (repeat (first | with_reducible exact Up.refl _ | with_reducible assumption | with_reducible refine Up.set ?_ (by first | exact Nat.le_refl _ | (simp only []; omega) | (simp; omega)) _ | with_reducible refine Up.alloc ?_ _ | with_reducible refine Up.drew ?_ | refine Up.trans ?_ (by with_reducible assumption))))).mono ?_); rintro e w3 ⟨rfl, U3⟩)
          ((try simp only [Exit.inBlock, Exit.then]); refine bodyPost_ret (v := _) (by simp [results, Tryd.results20, go_sem]; rfl) rfl ?_)
          exact ⟨_, by rw [e.out]; rfl, by rw [e.out]; exact World.ownsRow_made w3 #[] 0 (hup.trans U3).size (by unfold maxLen; omega) rfl, (hup.trans U3).alloc _⟩
        · have hb : ((bs t).toList == (⟨#[45]⟩ : ByteArray).toList) = true := by rw [Lib.toList_data, Lib.toList_data, bs_data]; simpa using ht
          have hb2 : ((bs t).toList == [45]) = true := by rw [Lib.toList_data, bs_data]; simpa using ht
          clear ht
          go_wp2_with (go_at_call 8; (with_reducible refine (cF _ (by (repeat (first | with_reducible exact Up.refl _ | with_reducible assumption | with_reducible refine Up.set ?_ (by first | exact Nat.le_refl _ | (simp only []; omega) | (simp; omega)) _ | with_reducible refine Up.alloc ?_ _ | with_reducible refine Up.drew ?_ | refine Up.trans ?_ (by with_reducible assumption))))).mono ?_); rintro e w3 ⟨rfl, U3⟩)
          ((try simp only [Exit.inBlock, Exit.then]); refine bodyPost_ret (v := _) (by simp [results, Tryd.results20, go_sem]; rfl) rfl ?_)
          exact ⟨_, by rw [e.out]; rfl, by rw [e.out]; exact World.ownsRow_made w3 #[] 0 (hup.trans U3).size (by unfold maxLen; omega) rfl, (hup.trans U3).alloc _⟩
        · have hb : ((bs t).toList == (⟨#[45]⟩ : ByteArray).toList) = false := by rw [Lib.toList_data, Lib.toList_data, bs_data]; simpa using ht
          have hb2 : ((bs t).toList == [45]) = false := by rw [Lib.toList_data, bs_data]; simpa using ht
          clear ht
          go_wp2_with (go_at_call 8; (with_reducible refine (cF _ (by (repeat (first | with_reducible exact Up.refl _ | with_reducible assumption | with_reducible refine Up.set ?_ (by first | exact Nat.le_refl _ | (simp only []; omega) | (simp; omega)) _ | with_reducible refine Up.alloc ?_ _ | with_reducible refine Up.drew ?_ | refine Up.trans ?_ (by with_reducible assumption))))).mono ?_); rintro e w3 ⟨rfl, U3⟩)
          ((try simp only [Exit.inBlock, Exit.then]); refine bodyPost_ret (v := _) (by simp [results, Tryd.results20, go_sem]; rfl) rfl ?_)
          exact ⟨_, by rw [e.out]; rfl, by rw [e.out]; exact World.ownsRow_made w3 #[] 0 (hup.trans U3).size (by unfold maxLen; omega) rfl, (hup.trans U3).alloc _⟩

end Go.Proofs.YtiiahjnfbhcgmaaDoor
