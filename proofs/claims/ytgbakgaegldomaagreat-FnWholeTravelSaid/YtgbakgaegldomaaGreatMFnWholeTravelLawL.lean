/- Texts joined into one: the walks and laws that the last text leans on. Conditions: as each says. -/
import Derived.Test.YtgbakgaegldomaaGreatMFnWholeTravelLawK
import Derived.Test.YtgbakgaegldomaaGreatMFnWholeTravelLawI
import Derived.Deep.RegionWith
import Derived.Test.YtgbakgaegldomaaGreatMFnWholeTravelLawH
import Derived.Test.YtgbakgaegldomaaGreatMFnWholeTravelLawC
import Derived.Test.YtgbakgaegldomaaGreatMFnWholeTravelLawF
import Derived.Test.YtgbakgaegldomaaGreatRt
import Derived.Test.YtgbakgaegldomaaGreatMFnWholeTravelLawJ
import Derived.Test.YtgbakgaegldomaaGreatMFnWholeTravelLawG
import Derived.Test.YtgbakgaegldomaaGreatStartW

set_option linter.unusedVariables false
set_option linter.unusedSimpArgs false
/- Walk of the program's ReadAll, where what is known is valid and the parts are no longer than 4000 bytes. Conditions: these. -/
namespace Go.Proofs.YtgbakgaegldomaaGreat
open Go Go.RowKit
theorem readS_end {k : KnD} (hk : k.Ok) {s : List UInt8} (t : List UInt8) (h : (readS k s).fin ≠ 1) : readS k (s ++ t) = readS k s := by
  have hul := unpackL_length k.set.ord s
  have hult := unpackL_length k.set.ord t
  have hst : unpackL k.set.ord (s ++ t) = unpackL k.set.ord s ++ unpackL k.set.ord t := by simp [unpackL]
  have hM := readN_more k.set.ord (unpackL k.set.ord s) (unpackL k.set.ord t) 0 0 (8 * s.length) k 0 [] [] (8 * (s ++ t).length) hk (by omega) (by rw [List.length_append, List.length_append]; omega)
  have := hM.1 h
  unfold readS
  rw [hst]
  exact this
theorem used_step {k : KnD} (hk : k.Ok) (hv : k.vl) (s t : List UInt8) : usedS s (readS k s) + ((rvS k s).read t).2.2 = usedS (s ++ t) (readS k (s ++ t)) := by
  obtain ⟨-, -, h3, h4⟩ := rvS_read hk hv s t
  by_cases h1 : (readS k s).fin = 1
  · by_cases h2 : (readS k (s ++ t)).fin = 1
    · unfold usedS
      rw [if_pos h1, if_pos h2, (h4 h2).2, List.length_append]
    · unfold usedS
      rw [if_pos h1, if_neg h2]
      exact h3 h2 h1
  · have hE := readS_end hk t h1
    have hr : (rvS k s).read t = (rvS k s, [], 0) := by
      unfold RvD.read
      exact if_pos h1
    unfold usedS
    rw [hE, if_neg h1, if_neg h1, hr]
    rfl
theorem usedS_le {k : KnD} (hk : k.Ok) (s : List UInt8) : usedS s (readS k s) ≤ s.length + 1 := by
  have hF := readS_fin hk s
  have hp := hF.pos
  rw [unpackL_length] at hp
  unfold usedS
  split
  · omega
  · omega
def RelRa (k : KnD) (ps : List ByteArray) (b : Nat) (w1 : World) (t i : Value) (wr : World) : Prop := ∃ (j : Nat) (v u : Value),
  i = .int .i64 j ∧ t = .int .i64 (usedS (joinL (ps.take j)) (readS k (joinL (ps.take j))) : Nat) ∧ j ≤ ps.length ∧ RvAt b (rvS k (joinL (ps.take j))) v wr ∧ RdP 0 wr v (readS k (joinL (ps.take j))).k.ps ∧ SbV (b + 1) (b + 1) u (readS k (joinL (ps.take j))).data wr ∧ Up w1 wr
theorem rv_alloc_sz (w : World) (o : Obj) : (w.alloc o).heap.size = w.heap.size + 1 := by simp
set_option maxRecDepth 100000 in
set_option maxHeartbeats 16000000 in
theorem raI_any (k : KnD) (v vp : Value) (lo : Nat) (ps : List ByteArray) (w : World) (hk : k.Ok) (hv : k.vl) (hr : RdP lo w v k.ps) (hp : ArgS w vp ps) (hn : ps.length ≤ 1000) (hsz : ∀ s ∈ ps, s.size ≤ 4000) :
    Calls Tryz.prog 21  #[kV k v, vp] w (Same (.tuple #[.string (bs (readS k (joinL ps)).data), .int .i64 (readS k (joinL ps)).fin, .int .i64 (usedS (joinL ps) (readS k (joinL ps)) : Nat)]) w) := by
  have cN := fun wq hr => nrI_any k v lo wq hk hv hr
  have hrt := fun (wq : World) (hu : Up w wq) => hr.up hu
  have hpt := fun (wq : World) (hu : Up w wq) => hp.up hu
  have HK := Lib.hid (And.intro hk hv)
  obtain ⟨a, cap, rfl, -, -, -, -⟩ := id hr
  obtain ⟨ap, cp, rfl, hpm, -, -⟩ := id hp
  unfold maxLen at hpm
  clear hr hp hk hv
  simp only [kV, rvV] at *
  go_enter Tryz.func21, Tryz.ntmps21
  go_wp2_with fail
  (with_reducible refine (cN _ (hrt _ (by (repeat (first | with_reducible exact Up.refl _ | with_reducible assumption | with_reducible refine Up.set ?_ (by first | exact Nat.le_refl _ | (simp only []; omega) | (simp; omega)) _ | with_reducible refine Up.alloc ?_ _ | with_reducible refine Up.drew ?_ | refine Up.trans ?_ (by with_reducible assumption)))))).mono ?_); rintro e w1 ⟨v1, rfl, ho1, U1⟩
  obtain ⟨a1, c1, rfl⟩ := ownsRow_shape ho1
  have hU1 : Up w w1 := by (repeat (first | with_reducible exact Up.refl _ | with_reducible assumption | with_reducible refine Up.set ?_ (by first | exact Nat.le_refl _ | (simp only []; omega) | (simp; omega)) _ | with_reducible refine Up.alloc ?_ _ | with_reducible refine Up.drew ?_ | refine Up.trans ?_ (by with_reducible assumption)))
  clear U1 cN
  go_wp2_with fail
  have hX1 : RvAt w1.heap.size ⟨k, [], 0, 0, 1⟩ (.slice a1 k.ps.length c1) (w1.alloc (.cells #[.int .i64 k.set.ord, .int .i64 k.set.lit, .int .i64 k.set.most, .slice a1 k.ps.length c1, .int .i64 k.base, .int .i64 k.last, .string (bs []), .int .i64 (0 : Nat), .int .i64 (0 : Nat), .int .i64 1] 44)) := (MapKept.heap_alloc w1 _).1
  have hUa : Up w1 (w1.alloc (.cells #[.int .i64 k.set.ord, .int .i64 k.set.lit, .int .i64 k.set.most, .slice a1 k.ps.length c1, .int .i64 k.base, .int .i64 k.last, .string (bs []), .int .i64 (0 : Nat), .int .i64 (0 : Nat), .int .i64 1] 44)) := (Up.refl _).alloc _
  have hUb : Up (w1.alloc (.cells #[.int .i64 k.set.ord, .int .i64 k.set.lit, .int .i64 k.set.most, .slice a1 k.ps.length c1, .int .i64 k.base, .int .i64 k.last, .string (bs []), .int .i64 (0 : Nat), .int .i64 (0 : Nat), .int .i64 1] 44)) ((w1.alloc (.cells #[.int .i64 k.set.ord, .int .i64 k.set.lit, .int .i64 k.set.most, .slice a1 k.ps.length c1, .int .i64 k.base, .int .i64 k.last, .string (bs []), .int .i64 (0 : Nat), .int .i64 (0 : Nat), .int .i64 1] 44)).alloc (.cells #[.pointer none, .slice none 0 0] 68)) := (Up.refl _).alloc _
  have hZ1 : (w1.alloc (.cells #[.int .i64 k.set.ord, .int .i64 k.set.lit, .int .i64 k.set.most, .slice a1 k.ps.length c1, .int .i64 k.base, .int .i64 k.last, .string (bs []), .int .i64 (0 : Nat), .int .i64 (0 : Nat), .int .i64 1] 44)).heap.size = w1.heap.size + 1 := rv_alloc_sz _ _
  have hB1 := sbV_new (w1.alloc (.cells #[.int .i64 k.set.ord, .int .i64 k.set.lit, .int .i64 k.set.most, .slice a1 k.ps.length c1, .int .i64 k.base, .int .i64 k.last, .string (bs []), .int .i64 (0 : Nat), .int .i64 (0 : Nat), .int .i64 1] 44))
  rw [hZ1] at hB1
  have hr1 : RdP 0 ((w1.alloc (.cells #[.int .i64 k.set.ord, .int .i64 k.set.lit, .int .i64 k.set.most, .slice a1 k.ps.length c1, .int .i64 k.base, .int .i64 k.last, .string (bs []), .int .i64 (0 : Nat), .int .i64 (0 : Nat), .int .i64 1] 44)).alloc (.cells #[.pointer none, .slice none 0 0] 68)) (.slice a1 k.ps.length c1) k.ps := (((RdP.of_own ho1).low (Nat.zero_le _)).up hUa).up hUb
  have HL0 := Lib.hid (And.intro (hX1.up hUb) (And.intro (hUa.trans hUb) (And.intro hr1 hB1)))
  clear hX1 hUa hUb hr1 hB1 ho1 hZ1
  generalize (w1.alloc (.cells #[.int .i64 k.set.ord, .int .i64 k.set.lit, .int .i64 k.set.most, .slice a1 k.ps.length c1, .int .i64 k.base, .int .i64 k.last, .string (bs []), .int .i64 (0 : Nat), .int .i64 (0 : Nat), .int .i64 1] 44)).alloc (.cells #[.pointer none, .slice none 0 0] 68) = W at *
  go_loopw [10, 24] (fun t i wr => RelRa k ps w1.heap.size w1 t i wr) (fun _ i _ => ps.length - (intOf i).toNat)
  case atStart => exact ⟨0, _, _, rfl, rfl, Nat.zero_le _, HL0.out.1, HL0.out.2.2.1, HL0.out.2.2.2, HL0.out.2.1⟩
  case round =>
    clear HL0
    obtain ⟨j, v, u, rfl, rfl, hj, hX, hrx, hSb, hU⟩ := hrel
    have hUw := hU1.trans hU
    have hok := rvS_ok HK.out.1 HK.out.2 (joinL (ps.take j))
    have hJl := joinL_len (n := 4000) (ps.take j) (fun t ht => hsz t (List.mem_of_mem_take ht))
    have hJm : (ps.take j).length ≤ 1000 := by rw [List.length_take]; omega
    have hul := usedS_le HK.out.1 (joinL (ps.take j))
    have hdl := (readS_fin HK.out.1 (joinL (ps.take j))).dl
    have hsl1 := hSb.lt.1
    by_cases hlt : j < ps.length
    · obtain ⟨gb, off, rfl, hgb, hgk, -, hnc, hcm⟩ := (hpt _ hUw).at hlt
      unfold maxLen at hcm
      have hs1 := hsz _ (List.getElem_mem hlt)
      have HS := joinL_take ps hlt
      obtain ⟨e1, e2, -, -⟩ := rvS_read HK.out.1 HK.out.2 (joinL (ps.take j)) (ps[j]).data.toList
      have e3 := used_step HK.out.1 HK.out.2 (joinL (ps.take j)) (ps[j]).data.toList
      rw [← HS] at e1 e2 e3
      obtain ⟨hd1, hd2⟩ := RvD.read_bd hok (s := (ps[j]).data.toList) hs1
      have cI1 : ∀ wq v, RdP 0 wq v (rvS k (joinL (ps.take j))).k.ps → Calls Tryz.prog 15  #[rvV (rvS k (joinL (ps.take j))) v, .string (ps[j])] wq (RsPost ((rvS k (joinL (ps.take j))).read (ps[j]).data.toList) wq) := fun wq v h => rsI_any (rvS k (joinL (ps.take j))) v 0 (ps[j]) wq hok h hs1
      have hrx : RdP 0 wr v (rvS k (joinL (ps.take j))).k.ps := hrx
      have hul2 : usedS (joinL (ps.take j)) (readS k (joinL (ps.take j))) ≤ 4000001 := by omega
      have hdl2 : (readS k (joinL (ps.take j))).data.length ≤ 2000 := by omega
      have HE := Lib.hid (And.intro e1 (And.intro e2 e3))
      clear e1 e2 e3 HS hul hdl hJl hJm
      unfold RsPost at cI1
      generalize usedS (joinL (ps.take j)) (readS k (joinL (ps.take j))) = U0 at *
      generalize (readS k (joinL (ps.take j))).data = D0 at *
      generalize rvS k (joinL (ps.take j)) = r0 at *
      generalize r0.read (ps[j]).data.toList = X at *
      obtain ⟨r1, d1, n1⟩ := X
      dsimp only at *
      generalize ps[j] = s1 at *
      have hyl := bs_size d1
      obtain ⟨av, cv, rfl, -⟩ := id hrx
      obtain ⟨hbk, g0, g1, g2, g3, g4, g5, g6, g7, g8, g9⟩ := hX.cells
      have HSb := Lib.hid hSb
      have HX := Lib.hid hX
      clear hSb hX hok
      have hgw : gb < wr.heap.size := hgb
      simp only [rvV] at cI1
      go_wp2_with fail
      (with_reducible refine (cI1 _ _ hrx).mono ?_); rintro e w5 ⟨v5, rfl, ho5, U5⟩
      obtain ⟨a5, c5, rfl⟩ := ownsRow_shape ho5
      clear cI1 hrx
      have hXq := HX.out.up U5
      have hK2 : RvAt w1.heap.size r1 (.slice a5 r1.k.ps.length c5) (RvW w5 w1.heap.size r1 (.slice a5 r1.k.ps.length c5)) := RvAt.store hXq r1 _
      have hr9 : RdP wr.heap.size (RvW w5 w1.heap.size r1 (.slice a5 r1.k.ps.length c5)) (.slice a5 r1.k.ps.length c5) r1.k.ps := by
        unfold RvW KnW
        (repeat (with_reducible refine RdP.set ?_ hbk _ _)); exact RdP.of_own ho5
      have hU9 : Up w1 (RvW w5 w1.heap.size r1 (.slice a5 r1.k.ps.length c5)) := RvW.up (hU.trans U5) (Nat.le_refl _) r1 _
      have hgw : w5.grownBy (RvW w5 w1.heap.size r1 (.slice a5 r1.k.ps.length c5)) (some w1.heap.size) := by
        unfold RvW KnW
        (repeat (with_reducible refine grownBy_set ?_ _ _)); exact grownBy_refl _ _
      have hS9 := (HSb.out.up U5).gr hgw (Nat.lt_succ_self _)
      have HH := Lib.hid (And.intro hK2 (And.intro hr9 (And.intro hU9 (And.intro hS9 HSb.out.lt))))
      have hz9 := hU9.size
      obtain ⟨hbq, q0, q1, q2, q3, q4, q5, q6, q7, q8, q9⟩ := hXq.cells
      have hfr := box_free hXq
      clear hK2 hr9 hU9 hXq ho5 g0 g1 g2 g3 g4 g5 g6 g7 g8 g9 hgw HX hS9 HSb
      go_simp
      iterate 20 go_step
      rw [show ((((((((((w5.setCell ⟨w1.heap.size, 0, none⟩ (.int .i64 r1.k.set.ord)).setCell ⟨w1.heap.size, 1, none⟩ (.int .i64 r1.k.set.lit)).setCell ⟨w1.heap.size, 2, none⟩ (.int .i64 r1.k.set.most)).setCell ⟨w1.heap.size, 3, none⟩ (.slice a5 r1.k.ps.length c5)).setCell ⟨w1.heap.size, 4, none⟩ (.int .i64 r1.k.base)).setCell ⟨w1.heap.size, 5, none⟩ (.int .i64 r1.k.last)).setCell ⟨w1.heap.size, 6, none⟩ (.string (bs r1.bits))).setCell ⟨w1.heap.size, 7, none⟩ (.int .i64 (r1.size : Nat))).setCell ⟨w1.heap.size, 8, none⟩ (.int .i64 (r1.cnt : Nat))).setCell ⟨w1.heap.size, 9, none⟩ (.int .i64 r1.fin)) = RvW w5 w1.heap.size r1 (.slice a5 r1.k.ps.length c5) from rfl]
      generalize RvW w5 w1.heap.size r1 (.slice a5 r1.k.ps.length c5) = W9 at *
      clear q0 q1 q2 q3 q4 q5 q6 q7 q8 q9 hfr hbq U5
      have hlt2 := HH.out.2.2.2.1.lt.1
      have cW := sbW_any (w1.heap.size + 1) (w1.heap.size + 1) u D0 (bs d1) W9 HH.out.2.2.2.1 (by omega) (by omega)
      go_wp2_with fail
      (with_reducible refine cW.mono ?_); rintro e w10 ⟨rfl, ⟨u', hS'⟩, hb10, hz10, hf10⟩
      rw [bs_data] at hS'
      have hX' : RvAt w1.heap.size r1 (.slice a5 r1.k.ps.length c5) w10 := (hb10.block _ (Nat.lt_succ_self _)).trans HH.out.1
      have hr' : RdP 0 w10 (.slice a5 r1.k.ps.length c5) r1.k.ps := (RdP.frame HH.out.2.1 hz10 (fun k h1 h2 => hf10 k h2 (by omega) (fun e => by have := (HH.out.2.2.2.2.2 k e).2; omega))).low (Nat.zero_le _)
      have hU' : Up w1 w10 := Below.trans HH.out.2.2.1 (hb10.mono (Nat.le_succ _))
      have HF := Lib.hid (And.intro hX' (And.intro hr' (And.intro hU' hS')))
      clear hX' hr' hU' hS' hb10 hf10 cW
      go_wp2_with fail
      go_roundw
      case rel =>
        have hk1 : r1.k = (readS k (joinL (ps.take (j + 1)))).k := by rw [HE.out.1]; rfl
        exact ⟨j + 1, _, u', by go_num, by rw [← HE.out.2.2]; simp, by omega, by rw [← HE.out.1]; exact HF.out.1, by rw [← hk1]; exact HF.out.2.1, by rw [HE.out.2.1]; exact HF.out.2.2.2, HF.out.2.2.1⟩
      case measure => simp [intOf]; omega
    · have e : j = ps.length := by omega
      subst e
      rw [List.take_length] at *
      have hX : RvAt w1.heap.size (rvS k (joinL ps)) v wr := hX
      have hq9 : wr.cell? ⟨w1.heap.size, 9, none⟩ = some (.int .i64 (readS k (joinL ps)).fin) := hX.cells.2.2.2.2.2.2.2.2.2.2
      have hbk := hX.cells.1
      have hbB : w1.heap.size + 1 ≤ wr.heap.size := hbk
      have cS := fun wx (hu : Up wr wx) => sbS_any (w1.heap.size + 1) (w1.heap.size + 1) u (readS k (joinL ps)).data wx (hSb.up hu) (Nat.le_trans hbB hu.size)
      have cL := fun wx (hu : Up wr wx) => (hu.cell (p := ⟨w1.heap.size, 9, none⟩) hbk).trans hq9
      have HUw := Lib.hid (And.intro hUw (And.intro hU1 hU))
      clear hX hrx hSb hok hJl hJm hul hdl hsl1 hUw hU1 hU
      generalize (readS k (joinL ps)).data = D0 at *
      generalize (readS k (joinL ps)).fin = F0 at *
      generalize usedS (joinL ps) (readS k (joinL ps)) = U0 at *
      go_wp2_with fail
      go_region_with (go_at_call 33; (with_reducible refine (cS _ (by (repeat (first | with_reducible exact Up.refl _ | with_reducible assumption | with_reducible refine Up.set ?_ (by first | exact Nat.le_refl _ | (simp only []; omega) | (simp; omega)) _ | with_reducible refine Up.alloc ?_ _ | with_reducible refine Up.drew ?_ | refine Up.trans ?_ (by with_reducible assumption))))).mono ?_); rintro e w7 ⟨rfl, hb7⟩; have q9 := (hb7.cell (p := ⟨w1.heap.size, 9, none⟩) (Nat.lt_succ_self _)).trans (cL _ (by (repeat (first | with_reducible exact Up.refl _ | with_reducible assumption | with_reducible refine Up.set ?_ (by first | exact Nat.le_refl _ | (simp only []; omega) | (simp; omega)) _ | with_reducible refine Up.alloc ?_ _ | with_reducible refine Up.drew ?_ | refine Up.trans ?_ (by with_reducible assumption))))))
      all_goals
        go_wp2_with fail
        go_ret3
        exact ⟨rfl, HUw.out.2.1.trans (by first | exact Below.trans HUw.out.2.2 (hb7.mono (Nat.le_succ _)) | exact Below.trans (Up.drew HUw.out.2.2) (hb7.mono (Nat.le_succ _)) | exact Below.trans (Up.drew (Up.drew HUw.out.2.2)) (hb7.mono (Nat.le_succ _)))⟩
end Go.Proofs.YtgbakgaegldomaaGreat

/- Walks of the laws' soKnown and soWriters at writers that are the same, and of soCut. Conditions: the pairs can be read. -/
namespace Go.Proofs.YtgbakgaegldomaaGreat
open Go Go.RowKit
def CutD (s : ByteArray) (i j base : Nat) (u : Value) (w : World) : Prop := ∃ g, u = .slice (some ⟨g, 0, none⟩) 3 3 ∧ base ≤ g ∧ g < w.heap.size ∧ w.cell? ⟨g, 0, none⟩ = some (.string (s.extract 0 i)) ∧ w.cell? ⟨g, 1, none⟩ = some (.string (s.extract i j)) ∧ w.cell? ⟨g, 2, none⟩ = some (.string (s.extract j s.size))
theorem cutD_closed {s : ByteArray} {i j base : Nat} : ∀ u, UpClosed (CutD s i j base u) := fun u w w' ⟨g, h1, h2, h3, h4, h5, h6⟩ hu =>
  ⟨g, h1, h2, Nat.lt_of_lt_of_le h3 hu.size, (hu.cell (p := ⟨g, 0, none⟩) h3).trans h4, (hu.cell (p := ⟨g, 1, none⟩) h3).trans h5, (hu.cell (p := ⟨g, 2, none⟩) h3).trans h6⟩
theorem cutD_new {s : ByteArray} {i j base : Nat} {w : World} {T : TypeId} (h : base ≤ w.heap.size) : CutD s i j base (.slice (some ⟨w.heap.size, 0, none⟩) 3 3) (w.alloc (.cells #[.string (s.extract 0 i), .string (s.extract i j), .string (s.extract j s.size)] T)) :=
  ⟨_, rfl, h, by simp, by rw [box_cell (MapKept.heap_alloc w _).1]; rfl, by rw [box_cell (MapKept.heap_alloc w _).1]; rfl, by rw [box_cell (MapKept.heap_alloc w _).1]; rfl⟩
def CutP (s : ByteArray) (w : World) (e : Ending) (w' : World) : Prop := ∃ g i j, e = .returned (.slice (some ⟨g, 0, none⟩) 3 3) ∧ i ≤ j ∧ j ≤ s.size ∧ w.heap.size ≤ g ∧ g < w'.heap.size ∧ w'.cell? ⟨g, 0, none⟩ = some (.string (s.extract 0 i)) ∧ w'.cell? ⟨g, 1, none⟩ = some (.string (s.extract i j)) ∧ w'.cell? ⟨g, 2, none⟩ = some (.string (s.extract j s.size)) ∧ Up w w'
set_option maxRecDepth 100000 in
set_option maxHeartbeats 4000000 in
theorem soCut_any (s : ByteArray) (v : Value) (l : List UInt8) (w : World) (hs : s.size ≤ 1048576) (h : ArgU w v l) (hl : l.length ≤ 1048576) :
    Calls Tryz.prog 20  #[.string s, v] w (CutP s w) := by
  obtain ⟨a, cap, rfl, hc1, hc2, -⟩ := h
  unfold maxLen at hc2
  have h0 := Int.emod_nonneg (l.length : Int) (show (s.size : Int) + 1 ≠ 0 by omega)
  have h1 := Int.emod_lt_of_pos (l.length : Int) (show 0 < (s.size : Int) + 1 by omega)
  have h2 := Int.emod_nonneg ((l.length : Int) / 3) (show (s.size : Int) - (l.length : Int) % ((s.size : Int) + 1) + 1 ≠ 0 by omega)
  have h3 := Int.emod_lt_of_pos ((l.length : Int) / 3) (show 0 < (s.size : Int) - (l.length : Int) % ((s.size : Int) + 1) + 1 by omega)
  go_enter Tryz.func20, Tryz.ntmps20
  go_wp2_with fail
  generalize (l.length : Int) / 3 % ((s.size : Int) - (l.length : Int) % ((s.size : Int) + 1) + 1) = r at *
  generalize (l.length : Int) % ((s.size : Int) + 1) = i0 at *
  obtain ⟨i, rfl⟩ := Int.eq_ofNat_of_zero_le h0
  obtain ⟨j, hj⟩ := Int.eq_ofNat_of_zero_le (show 0 ≤ (i : Int) + r by omega)
  rw [hj]
  have hij : i ≤ j := by omega
  have hjs : j ≤ s.size := by omega
  clear h0 h1 h2 h3 hj
  refine wp_region_up 11 (by kernel_rfl) (by kernel_rfl) ?_
  simp only [List.take, List.drop]
  repeat (refine wpUp_step (fun K hK => ?_); go_simp; (try simp only [↓IntWalk.iteOmega]); first
    | (refine hK _ _ ?_; clear hK K)
    | (apply stepU_c
       · intro wq hwq; (have hbq := bcell hwq; (repeat (first | refine fills_no (by rfl) ?_ | refine fills_yes (by rfl) (fun vq hvq => ?_))); simp only [List.filter_nil, fills]; unfold upAt; (try (skip)); go_simp; (try go_bits); (try simp only [↓IntWalk.iteOmega]); (try (rw [dif_pos (by omega)]; go_simp; try go_bits)); first | exact upOut_value)
       go_simp; refine hK _ _ ?_; clear hK K)
    | (refine stepU_m (by kernel_rfl) (CutD s i j w.heap.size) (cutD_closed) (fun wq hwq => ?_) ?_
       · (have hbq := bcell hwq; (repeat (first | refine fills_no (by rfl) ?_ | refine fills_yes (by rfl) (fun vq hvq => ?_))); simp only [List.filter_nil, fills]; unfold upAt; (try (skip)); go_simp; (try go_bits); (try simp only [↓IntWalk.iteOmega]); (try (rw [dif_pos (by omega)]; go_simp; try go_bits)); ((with_reducible refine upOut_make ((Up.refl _).alloc _) ?_); exact cutD_new hwq.size))
       refine hK _ _ ?_; clear hK K))
  refine wpUp_nil (fun wq hwq => ?_)
  simp only [fills]
  rintro u ⟨g, rfl, h1, h2, h3, h4, h5⟩
  go_wp2
  go_ret
  exact ⟨g, i, j, rfl, hij, hjs, h1, h2, h3, h4, h5, hwq⟩
end Go.Proofs.YtgbakgaegldomaaGreat

/- Plain: a stream of data is no longer than 4000 bytes, and the data is read from it. Conditions: as each says. -/
namespace Go.Proofs.YtgbakgaegldomaaGreat
open Go Go.RowKit
theorem compL_4000 {k : KnD} {d : List UInt8} (h : k.Ok) (hl : ∀ b ∈ d, b.toNat < k.c) (hd : d.length ≤ 2000) : (compL k d).length ≤ 4000 := by
  obtain ⟨g1, g2, g3, g4, g5⟩ := walk_greedy h hl hd
  have g6 := greedy_tight h hl hd
  have h9 := packC_len10 k.set.ord (greedy k d) (walkN k (greedy k d) [] []).ws (fun x hx => ⟨by have := (g4 x hx).1; omega, (g4 x hx).2⟩)
  unfold compL
  rw [packL_length]
  omega
end Go.Proofs.YtgbakgaegldomaaGreat

/- Plain: the order of bits turns neither codes nor lengths (for FnCompressOrders). Conditions: none. -/
namespace Go.Proofs.YtgbakgaegldomaaGreat
open Go Go.RowKit
def KnD.withOrd (k : KnD) (o : Int) : KnD := ⟨⟨o, k.set.lit, k.set.most⟩, k.ps, k.base, k.last⟩
theorem ord_after (k : KnD) (o x : Int) : (k.withOrd o).after x = (k.after x).withOrd o := by
  rfl
theorem ord_cleared (k : KnD) (o : Int) : (k.withOrd o).cleared = k.cleared.withOrd o := rfl
theorem ord_full (k : KnD) (o : Int) : (k.withOrd o).full = k.full := rfl
theorem ord_find (k : KnD) (o : Int) (w : List UInt8) : (k.withOrd o).find w = k.find w := rfl
theorem ord_longN (k : KnD) (o : Int) (d : List UInt8) (i : Nat) : (k.withOrd o).longN d i = k.longN d i := by
  induction i with
  | zero => rfl
  | succ i ih =>
    unfold KnD.longN
    rw [ih]
    rfl
theorem ord_longest (k : KnD) (o : Int) (d : List UInt8) : (k.withOrd o).longest d = k.longest d := ord_longN k o d k.cnt
theorem ord_greedyN (o : Int) : ∀ (n : Nat) (k : KnD) (d : List UInt8), greedyN n (k.withOrd o) d = greedyN n k d := by
  intro n
  induction n with
  | zero => intro k d; rfl
  | succ n ih =>
    intro k d
    simp only [greedyN, ord_longest, ord_find, ord_after, ord_full, ord_cleared, ih]
    rfl
theorem ord_greedy (k : KnD) (o : Int) (d : List UInt8) : greedy (k.withOrd o) d = greedy k d := by
  unfold greedy
  rw [ord_cleared, ord_greedyN]
  rfl
theorem ord_any (k : KnD) (o x : Int) : (k.withOrd o).any x = k.any x := rfl
theorem ord_walkN (o : Int) : ∀ (l : List Int) (k : KnD) (ws : List Int) (d : List UInt8), walkN (k.withOrd o) l ws d = walkN k l ws d
  | [], k, ws, d => rfl
  | x :: xs, k, ws, d => by
    rw [walkN, walkN, ord_cleared, ord_after, ord_any, ord_walkN o xs, ord_walkN o xs]
    rfl
theorem packC_len2 (o o' : Int) : ∀ xs ws : List Int, (packC o xs ws).length = (packC o' xs ws).length
  | [], _ => by simp [packC]
  | _ :: _, [] => by simp [packC]
  | x :: xs, w :: ws => by simp [packC, codeL_length, packC_len2 o o' xs ws]
theorem ord_compL_len (k : KnD) (o : Int) (d : List UInt8) : (compL (k.withOrd o) d).length = (compL k d).length := by
  unfold compL
  rw [packL_length, packL_length, ord_greedy, ord_walkN, packC_len2 _ k.set.ord (greedy k d)]
end Go.Proofs.YtgbakgaegldomaaGreat

/- Walks of the program's UnpackCodes and of its RepackStream at a stream that Compress made. Conditions: what is known is valid and can be read; the data fits. -/
namespace Go.Proofs.YtgbakgaegldomaaGreat
open Go Go.RowKit
theorem RdI.set {lo : Nat} {w : World} {v : Value} {l : List Int} (h : RdI lo w v l) {b : Nat} (hb : b < lo) (i : Nat) (u : Value) : RdI lo (w.setCell ⟨b, i, none⟩ u) v l := by
  obtain ⟨a, cap, h1, h2, h2', h3⟩ := h
  refine ⟨a, cap, h1, h2, h2', fun hp => ?_⟩
  obtain ⟨b', off, e1, e2, e4, e5⟩ := h3 hp
  have hg := grownBy_set (grownBy_refl w (some b)) i u
  have hne : some b' ≠ some b := fun e => by cases e; omega
  exact ⟨b', off, e1, e2, Nat.lt_of_lt_of_le e4 hg.size, fun i p hi => ((gcell hg).1 b' _ e4 hne).trans (e5 i p hi)⟩
def UncPost (R : RdR) (used : Nat) (w : World) (e : Ending) (w' : World) : Prop := ∃ vc, e = .returned (.tuple #[vc, .int .i64 R.fin, .int .i64 used]) ∧ RdI w.heap.size w' vc R.codes ∧ Up w w'
set_option maxRecDepth 100000 in
set_option maxHeartbeats 4000000 in
theorem unpCI_any (k : KnD) (v : Value) (lo : Nat) (s : ByteArray) (w : World) (h : k.Ok) (hv : k.last = -1 → k.base = k.ps.length) (hr : RdP lo w v k.ps) (hs : s.size ≤ 1073741824) :
    Calls Tryz.prog 62  #[kV k v, .string s] w (UncPost (upkR k s.data.toList) (upkU k s.data.toList) w) := by
  have cU := fun wx hr => upkI_any k v lo s wx h hv hr hs
  have hrt := fun (wq : World) (hu : Up w wq) => hr.up hu
  unfold UpkPost at cU
  unfold UncPost
  obtain ⟨a, cap, rfl, -, -, -, -⟩ := hr
  clear h hv
  generalize upkR k s.data.toList = R at *
  generalize upkU k s.data.toList = uu at *
  obtain ⟨kR, codes, dat, fin, pos⟩ := R
  simp only [kV] at *
  go_enter Tryz.func62, Tryz.ntmps62
  go_wp2_with (go_at_call 111; (with_reducible refine (cU _ (hrt _ (by (repeat (first | with_reducible exact Up.refl _ | with_reducible assumption | with_reducible refine Up.set ?_ (by first | exact Nat.le_refl _ | (simp only []; omega) | (simp; omega)) _ | with_reducible refine Up.alloc ?_ _ | with_reducible refine Up.drew ?_ | refine Up.trans ?_ (by with_reducible assumption)))))).mono ?_); rintro e w1 ⟨ap, np, cp, vc, vd, rfl, hvc, hvd, U1⟩; have hrd := RdI.of_own hvc; obtain ⟨ac, cc, rfl⟩ := ownsRow_shape hvc; have hcp3 := ownsRow_cap hvc; have hn3 := nil_row hvc; obtain ⟨ad, cd, rfl⟩ := ownsRow_shape hvd; have HRD := Lib.hid hrd; clear hvc hvd hrd)
  refine wp_region_up 8 (by kernel_rfl) (by kernel_rfl) ?_
  simp only [List.take, List.drop]
  repeat (refine wpUp_step (fun K hK => ?_); go_simp; (try simp only [↓IntWalk.iteOmega]); first
    | (refine hK _ _ ?_; clear hK K)
    | (apply stepU_c
       · intro wq hwq; (have hbq := bcell hwq; (repeat (first | refine fills_no (by rfl) ?_ | refine fills_yes (by rfl) (fun vq hvq => ?_))); simp only [List.filter_nil, fills]; unfold upAt; (try ((obtain ⟨hbr, r0, r1, r2, r3, r4, r5, r6, r7, r8, r9⟩ := RgAt.cells (k := kR) (box_up hwq (MapKept.heap_alloc w1 _).1)))); go_simp; (try go_bits); (try simp only [↓IntWalk.iteOmega]); (try (rw [dif_pos (by omega)]; go_simp; try go_bits)); first | exact upOut_value | (apply upOut_call; (go_at_call 87; exact clipI_any _ _ _ _ hcp3.1 hcp3.2 hn3)) | (apply upOut_eq; (go_at_call 87; exact clipI_any _ _ _ _ hcp3.1 hcp3.2 hn3)))
       go_simp; refine hK _ _ ?_; clear hK K))
  refine wpUp_nil (fun wq hwq => ?_)
  simp only [fills]
  have hU := ((U1.alloc _).trans hwq)
  have U1' := U1
  have hU' := (Up.alloc (Up.refl w1) _).trans hwq
  clear hwq U1
  go_wp2
  refine bodyPost_ret (v := .tuple #[.slice ac codes.length codes.length, .int .i64 fin, .int .i64 uu]) (by simp [results, Tryz.results62, go_sem]; try rfl) rfl ⟨_, rfl, ?_, ?_⟩
  · obtain ⟨a', cap', e1, e2, e3, e4⟩ := HRD.out
    cases e1
    have hu1 : w.heap.size ≤ w1.heap.size := (by have := U1'.size; simp at this; omega)
    refine ⟨_, _, rfl, Nat.le_refl _, by omega, fun hp => ?_⟩
    obtain ⟨b, off, f1, f2, f3, f4⟩ := e4 hp
    exact ⟨b, off, f1, by simp at f2; omega, Nat.lt_of_lt_of_le f3 hU'.size, fun i x hi => (hU'.cell (p := ⟨b, _, none⟩) f3).trans (f4 i x hi)⟩
  · (repeat (first | with_reducible exact Up.refl _ | with_reducible assumption | with_reducible refine Up.set ?_ (by first | exact Nat.le_refl _ | (simp only []; omega) | (simp; omega)) _ | with_reducible refine Up.alloc ?_ _ | with_reducible refine Up.drew ?_ | refine Up.trans ?_ (by with_reducible assumption)))
theorem upk_comp {k : KnD} {d : List UInt8} (hk : k.Ok) (hf : fitsB k.set d = true) : (upkR k (compL k d)).codes = greedy k d ∧ (upkR k (compL k d)).fin = 0 := by
  obtain ⟨f1, f2, f3⟩ := fitsB_lits hf
  obtain ⟨k', h⟩ := read_greedy hk f3 f2
  unfold upkR
  rw [if_pos (compL_4000 hk f3 f2), h]
  exact ⟨rfl, rfl⟩
theorem ord_set {k : KnD} (h : setOk k.set = true) {o : Int} (ho : o = 0 ∨ o = 1) : setOk (k.withOrd o).set = true := by
  unfold setOk at *
  simp only [Bool.and_eq_true] at *
  obtain ⟨⟨-, h2⟩, h3⟩ := h
  refine ⟨⟨?_, h2⟩, h3⟩
  rcases ho with rfl | rfl <;> rfl
theorem KnD.Ok.withOrd {k : KnD} (h : k.Ok) {o : Int} (ho : o = 0 ∨ o = 1) : (k.withOrd o).Ok := ⟨ord_set h.set ho, h.ps, h.len, h.base0, h.base1, h.last⟩
theorem ord_fits (k : KnD) (o : Int) {d : List UInt8} (h : fitsB k.set d = true) (ho : o = 0 ∨ o = 1) : fitsB (k.withOrd o).set d = true := by
  unfold fitsB at *
  simp only [Bool.and_eq_true] at *
  obtain ⟨⟨h1, h2⟩, h3⟩ := h
  exact ⟨⟨ord_set h1 ho, h2⟩, h3⟩
set_option maxRecDepth 100000 in
set_option maxHeartbeats 4000000 in
theorem repackI_any (k : KnD) (v : Value) (lo : Nat) (d : List UInt8) (w : World) (h : k.Ok) (hv : k.last = -1 → k.base = k.ps.length) (hr : RdP lo w v k.ps) (hf : fitsB k.set d = true) :
    Calls Tryz.prog 22  #[kV k v, .string (bs (compL k d))] w (Same (.tuple #[.string (bs (compL (k.withOrd (1 - k.set.ord)) d)), .bool true]) w) := by
  obtain ⟨f1, f2, f3⟩ := fitsB_lits hf
  have h40 := compL_4000 h f3 f2
  have cU := fun wx hr => unpCI_any k v lo (bs (compL k d)) wx h hv hr (by rw [bs_size]; omega)
  rw [bs_data] at cU
  obtain ⟨e1, e2⟩ := upk_comp h hf
  unfold UncPost at cU
  rw [e1, e2] at cU
  have ho := (setOk_bd h.set).1
  have ho' : 1 - k.set.ord = 0 ∨ 1 - k.set.ord = 1 := by rcases ho with e | e <;> rw [e] <;> simp
  obtain ⟨g1, g2, g3, g4, g5⟩ := walk_greedy h f3 f2
  have g6 := greedy_tight h f3 f2
  have cP := fun wx vc hr hc => packCI_any (k.withOrd (1 - k.set.ord)) v lo (greedy k d) vc (w.heap.size + 1) wx (h.withOrd ho') hv hr hc (by omega) (by rw [ord_walkN]; exact g3) (by rw [ord_walkN, g2]; omega) (by rw [ord_walkN]; exact g1) (fun x hx => ⟨(g5 x hx).1, by have := (g5 x hx).2; omega⟩) (by rw [ord_walkN]; exact fun x hx => ⟨by have := (g4 x hx).1; omega, (g4 x hx).2⟩)
  have HE : Hid (compL (k.withOrd (1 - k.set.ord)) d = packL (k.withOrd (1 - k.set.ord)).set.ord (packC (k.withOrd (1 - k.set.ord)).set.ord (greedy k d) (walkN (k.withOrd (1 - k.set.ord)) (greedy k d) [] []).ws)) := by
    unfold Hid compL
    rw [ord_greedy]
  have hrt := fun (wq : World) (hu : Up w wq) => hr.up hu
  rw [HE.out]
  generalize packL (k.withOrd (1 - k.set.ord)).set.ord (packC (k.withOrd (1 - k.set.ord)).set.ord (greedy k d) (walkN (k.withOrd (1 - k.set.ord)) (greedy k d) [] []).ws) = cl at *
  generalize compL k d = st at *
  clear e1 e2 g1 g2 g3 g4 g5 g6 HE hf f1 f2 f3 h40 ho'
  generalize greedy k d = codes at *
  obtain ⟨a, cap, rfl, -, -, -, -⟩ := hr
  clear h hv
  simp only [kV, KnD.withOrd] at *
  go_enter Tryz.func22, Tryz.ntmps22
  go_wp2_with (first | (go_at_call 62; (with_reducible refine (cU _ (hrt _ (by (repeat (first | with_reducible exact Up.refl _ | with_reducible assumption | with_reducible refine Up.set ?_ (by first | exact Nat.le_refl _ | (simp only []; omega) | (simp; omega)) _ | with_reducible refine Up.alloc ?_ _ | with_reducible refine Up.drew ?_ | refine Up.trans ?_ (by with_reducible assumption)))))).mono ?_); rintro e w1 ⟨v1, rfl, hr1, U1⟩; have B1 := bcell U1; have HR1 := Lib.hid hr1; obtain ⟨a1, c1, rfl, -, -, -⟩ := hr1) | (go_at_call 38; (with_reducible refine (cP _ _ (hrt _ (by (repeat (first | with_reducible exact Up.refl _ | with_reducible assumption | with_reducible refine Up.set ?_ (by first | exact Nat.le_refl _ | (simp only []; omega) | (simp; omega)) _ | with_reducible refine Up.alloc ?_ _ | with_reducible refine Up.drew ?_ | refine Up.trans ?_ (by with_reducible assumption))))) ((RdI.low HR1.out (by simp)).set (Nat.lt_succ_self _) _ _)).mono ?_); rintro e w2 ⟨rfl, U2⟩; have B2 := bcell U2; have Z2 := U2.size; (try simp at Z2); (try rw [Nat.add_one_le_iff] at Z2)))
  go_ret2
  refine ⟨rfl, ?_⟩
  (repeat (first | with_reducible exact Up.refl _ | with_reducible assumption | with_reducible refine Up.set ?_ (by first | exact Nat.le_refl _ | (simp only []; omega) | (simp; omega)) _ | with_reducible refine Up.alloc ?_ _ | with_reducible refine Up.drew ?_ | refine Up.trans ?_ (by with_reducible assumption)))
end Go.Proofs.YtgbakgaegldomaaGreat

/- Plain: compressing with a dictionary in the other order of bits. No program in sight. -/
namespace Go.Proofs.YtgbakgaegldomaaGreat
open Go Go.RowKit
theorem ord_learnN (o : Int) : ∀ (n : Nat) (k : KnD) (d : List UInt8), learnN n (k.withOrd o) d = (learnN n k d).withOrd o := by
  intro n
  induction n with
  | zero => intro k d; rfl
  | succ n ih =>
    intro k d
    by_cases hd : d = []
    · rw [learnN, learnN, if_pos hd, if_pos hd]
    · rw [learnN, learnN, if_neg hd, if_neg hd, ord_longest, ord_find, ord_after]
      exact ih _ _
theorem ord_learnK (o : Int) (k : KnD) (d : List UInt8) : learnK (k.withOrd o) d = (learnK k d).withOrd o := by
  unfold learnK
  rw [ord_cleared, ord_learnN]
  rfl
theorem ord_start (s : SetD) (o : Int) : startK ⟨o, s.lit, s.most⟩ = (startK s).withOrd o := rfl
theorem ord_compW {s : SetD} {dict d : List UInt8} {o : Int} (ho : o = 0 ∨ o = 1) (h1 : fitsB s dict = true) (h2 : fitsB s d = true) :
    compW ⟨o, s.lit, s.most⟩ dict d = some (compL ((learnK (startK s) dict).withOrd o) d) := by
  have e1 : fitsB ⟨o, s.lit, s.most⟩ dict = true := ord_fits (startK s) o h1 ho
  have e2 : fitsB ((learnK (startK s) dict).withOrd o).set d = true := ord_fits (learnK (startK s) dict) o h2 ho
  unfold compW
  rw [if_pos e1, ord_start, ord_learnK]
  unfold compO
  rw [if_pos e2]
end Go.Proofs.YtgbakgaegldomaaGreat

/- Walks of the program's learn (with the length that counts), TrimDict and DictGain, and of the reference's DictGain. Conditions: what is known is valid and can be read; the strings are no longer than 2^30 bytes. -/
namespace Go.Proofs.YtgbakgaegldomaaGreat
open Go Go.RowKit
theorem compW_some {s : SetD} {dict d : List UInt8} (h1 : fitsB s dict = true) (h2 : fitsB s d = true) : compW s dict d = some (compL (learnK (startK s) dict) d) := by
  unfold compW compO
  rw [if_pos h1, show (learnK (startK s) dict).set = s from rfl, if_pos h2]
theorem compW_no {s : SetD} {dict d : List UInt8} (h : (fitsB s dict && fitsB s d) = false) : compW s dict d = none := by
  unfold compW compO
  cases h1 : fitsB s dict
  · rfl
  · rw [h1, Bool.true_and] at h
    simp only [if_true]
    rw [show (learnK (startK s) dict).set = s from rfl, h]; rfl
end Go.Proofs.YtgbakgaegldomaaGreat

