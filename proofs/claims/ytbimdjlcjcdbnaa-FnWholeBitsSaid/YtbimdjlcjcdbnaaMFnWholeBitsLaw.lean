/- Reading spans of bits with the width of what is known, from code to code, up to the end code, restores the data and uses all bytes. Conditions: none. -/
import Derived.Test.YtbimdjlcjcdbnaaMFnWholeBitsLawA
import Derived.Test.YtbimdjlcjcdbnaaMFnWholeBitsLawB
import Derived.Test.YtbimdjlcjcdbnaaMFnWholeBitsLawC
import Derived.Test.YtbimdjlcjcdbnaaMFnWholeBitsLawD
import Derived.Test.YtbimdjlcjcdbnaaMFnWholeBitsLawE
namespace Go.Proofs.Ytbimdjlcjcdbnaa.lawFnWholeBits
set_option linter.unusedVariables false
set_option linter.unusedSimpArgs false
open Go.ChangeShapes Go.WideShapes Go.ChangeAt Go.RowKit Go.Joins
open Go.ChangeMaps (open_string shut_string)

/-- Pairs that can be read, and that do not lie in the block b. -/
def RdX (b : Nat) (w : World) (v : Value) (ps : List PairD) : Prop := RdP 0 w v ps ∧ (0 < ps.length → ∀ (ad : Addr) n c, v = .slice (some ad) n c → ad.block ≠ b)
theorem RdX.up {b : Nat} {w w' : World} {v : Value} {ps : List PairD} (h : RdX b w v ps) (hu : Up w w') : RdX b w' v ps := ⟨h.1.up hu, h.2⟩
theorem RdX.of_old {b : Nat} {w : World} {v : Value} {ps : List PairD} (h : RdP 0 w v ps) (hb : w.heap.size ≤ b) : RdX b w v ps := by
  refine ⟨h, fun hp ad n c e => ?_⟩
  obtain ⟨a, cap, h1, -, -, -, h3⟩ := h
  obtain ⟨g, off, e1, e2, e3, -⟩ := h3 hp
  rw [h1, e1] at e
  simp only [Value.slice.injEq, Option.some.injEq] at e
  rw [← e.1]
  show g ≠ b
  omega
theorem RdX.of_lo {b lo : Nat} {w : World} {v : Value} {ps : List PairD} (h : RdP lo w v ps) (hb : b < lo) : RdX b w v ps := by
  refine ⟨h.low (Nat.zero_le _), fun hp ad n c e => ?_⟩
  obtain ⟨a, cap, h1, -, -, -, h3⟩ := h
  obtain ⟨g, off, e1, e2, e3, -⟩ := h3 hp
  rw [h1, e1] at e
  simp only [Value.slice.injEq, Option.some.injEq] at e
  rw [← e.1]
  show g ≠ b
  omega
theorem RdX.set {b : Nat} {w : World} {v : Value} {ps : List PairD} (h : RdX b w v ps) (i : Nat) (u : Value) : RdX b (w.setCell ⟨b, i, none⟩ u) v ps := by
  obtain ⟨⟨a, cap, h1, h2, h2', h2'', h3⟩, hx⟩ := h
  refine ⟨⟨a, cap, h1, h2, h2', h2'', fun hp => ?_⟩, hx⟩
  obtain ⟨g, off, e1, e2, e4, e5⟩ := h3 hp
  have hgb : g ≠ b := hx hp ⟨g, off, none⟩ _ _ (by rw [h1, e1])
  have hg := grownBy_set (grownBy_refl w (some b)) i u
  have hne : some g ≠ some b := fun e => hgb (Option.some.inj e)
  exact ⟨g, off, e1, e2, Nat.lt_of_lt_of_le e4 hg.size, fun i p hi => ⟨((gcell hg).1 g _ e4 hne).trans (e5 i p hi).1, ((gcell hg).1 g _ e4 hne).trans (e5 i p hi).2⟩⟩
def RelWb (o : Int) (bits d : List UInt8) (tot : Nat) (b1 b2 : Nat) (k : KnD) (kv : Value) (w : World) (vat vall : Value) (wr : World) : Prop :=
  ∃ (kk : KnD) (u : Value) (xs W ws : List Int) (p : Nat) (dd : List UInt8), vat = .int .i64 p ∧ vall = .string (bs dd) ∧ WbInv o bits d tot kk xs W ws p dd ∧ KnAt b2 kk u wr ∧ RdX b2 wr u kk.ps ∧ KnAt b1 k kv wr ∧ Up w wr ∧ kk.set = k.set ∧ dd.length ≤ 1024 * p

set_option maxRecDepth 100000 in
set_option maxHeartbeats 8000000 in
theorem walk (vc : Value) (lc : List UInt8) (w : World) (hc : ArgU w vc lc) :
    Calls Try.prog 6  #[vc] w (Same (.bool true) w) := by
  have cD := fun w' hu => drawCompress_any vc lc w' (hc.up (w' := w') hu)
  obtain ⟨ac, cc, rfl, hc1, hc2, -⟩ := hc
  unfold maxLen at hc2
  by_cases h1 : 1048576 < lc.length
  · go_enter Try.func6, Try.ntmps6
    go_wp2
    go_ret
    exact ⟨rfl, by (repeat (first | with_reducible exact Up.refl _ | with_reducible assumption | with_reducible refine Up.set ?_ (by first | exact Nat.le_refl _ | (simp only []; omega) | (simp; omega)) _ | with_reducible refine Up.alloc ?_ _ | with_reducible refine Up.drew ?_ | refine Up.trans ?_ (by with_reducible assumption)))⟩
  go_enter Try.func6, Try.ntmps6
  go_wp2_with (go_at_call 13; (with_reducible refine (cD _ (by (repeat (first | with_reducible exact Up.refl _ | with_reducible assumption | with_reducible refine Up.set ?_ (by first | exact Nat.le_refl _ | (simp only []; omega) | (simp; omega)) _ | with_reducible refine Up.alloc ?_ _ | with_reducible refine Up.drew ?_ | refine Up.trans ?_ (by with_reducible assumption))))).mono ?_); rintro e w1 ⟨k, u, d, rfl, hrd, hlt, hps, hd, U1⟩; obtain ⟨a, cap, rfl, hcp1, hcp2, hcp3, -⟩ := id hrd; simp only [kV]; have B1 := bcell U1; have Z1 := U1.size; (try simp at Z1); (try rw [Nat.add_one_le_iff] at Z1))
  have hrt := fun (wq : World) (hu : Up w1 wq) => hrd.up hu
  have cI := fun wx hr => compIG_any k (.slice a k.ps.length cap) 0 d wx hlt hr (by omega) (by omega)
  have cS := fun wx hr => compSG_any k (.slice a k.ps.length cap) 0 d wx hr (by omega) (by omega)
  unfold maxLen at hcp2
  clear cD
  cases hb : (validK k && fitsB k.set d.data.toList)
  · rw [compG_none hb, optS_none] at cI cS
    simp only [kV] at *
    clear hb
    go_wp2_with (first | ((go_at_call 11; (with_reducible refine (cI _ (hrt _ (by (repeat (first | with_reducible exact Up.refl _ | with_reducible assumption | with_reducible refine Up.set ?_ (by first | exact Nat.le_refl _ | (simp only []; omega) | (simp; omega)) _ | with_reducible refine Up.alloc ?_ _ | with_reducible refine Up.drew ?_ | refine Up.trans ?_ (by with_reducible assumption)))))).mono ?_); rintro e w2 ⟨rfl, U2⟩; have B2 := bcell U2; have Z2 := U2.size; (try simp at Z2); (try rw [Nat.add_one_le_iff] at Z2)); (try have V2a : w1.heap.size < w2.heap.size := (by omega)); (try have V2b : w1.heap.size + 1 < w2.heap.size := (by omega)); (try have V2c : w2.heap.size < w2.heap.size := (by omega)); (try have V2d : w3.heap.size < w2.heap.size := (by omega)); (try have V2e : w4.heap.size < w2.heap.size := (by omega)); skip) | ((go_at_call 14; (with_reducible refine (cS _ (hrt _ (by (repeat (first | with_reducible exact Up.refl _ | with_reducible assumption | with_reducible refine Up.set ?_ (by first | exact Nat.le_refl _ | (simp only []; omega) | (simp; omega)) _ | with_reducible refine Up.alloc ?_ _ | with_reducible refine Up.drew ?_ | refine Up.trans ?_ (by with_reducible assumption)))))).mono ?_); rintro e w3 ⟨rfl, U3⟩; have B3 := bcell U3; have Z3 := U3.size; (try simp at Z3); (try rw [Nat.add_one_le_iff] at Z3)); (try have V3a : w1.heap.size < w3.heap.size := (by omega)); (try have V3b : w1.heap.size + 1 < w3.heap.size := (by omega)); (try have V3c : w2.heap.size < w3.heap.size := (by omega)); (try have V3d : w3.heap.size < w3.heap.size := (by omega)); (try have V3e : w4.heap.size < w3.heap.size := (by omega)); skip))
    go_ret
    refine ⟨ret_bool (by simp; try rfl), ?_⟩
    (repeat (first | with_reducible exact Up.refl _ | with_reducible assumption | with_reducible refine Up.set ?_ (by first | exact Nat.le_refl _ | (simp only []; omega) | (simp; omega)) _ | with_reducible refine Up.alloc ?_ _ | with_reducible refine Up.drew ?_ | refine Up.trans ?_ (by with_reducible assumption)))
  · obtain ⟨h1, h2⟩ := Bool.and_eq_true_iff.1 hb
    obtain ⟨hk, hv⟩ := ok_of_valid h1
    obtain ⟨f1, f2, f3⟩ := fitsB_lits h2
    rw [compG_some h1 h2] at cI cS
    have h40 := compL_4000 hk f3 f2
    obtain ⟨HI, htot⟩ := wb_start hk hv f3 f2
    have HI := Lib.hid HI
    have z1 := bs_size (compL k d.data.toList)
    have ho := (setOk_bd hk.set).1
    have hss := hk.set
    have hul := unpackL_length k.set.ord (compL k d.data.toList)
    have hib := isBits_unpack k.set.ord (compL k d.data.toList)
    generalize (packC k.set.ord (greedy k d.data.toList) (walkN k (greedy k d.data.toList) [] []).ws).length = tot at *
    have cP := fun (wx : World) (p n : Nat) (hp : p + n ≤ 8 * (compL k d.data.toList).length) => spanI_any k.set.ord (bs (compL k d.data.toList)) p n wx ho (by rw [z1]; omega) (by rw [z1]; exact hp)
    rw [bs_data] at cP
    have cE := fun wx => endI_any k.set wx hss
    generalize unpackL k.set.ord (compL k d.data.toList) = bits at *
    generalize compL k d.data.toList = c1 at *
    unfold optS at cI cS
    simp only [Option.getD_some, Option.isSome_some] at cI cS
    clear hb h1 h2 f3
    by_cases h60 : 60 < d.size
    · clear HI hib hul htot cP cE hk hv
      simp only [kV] at *
      go_wp2_with (first | ((go_at_call 11; (with_reducible refine (cI _ (hrt _ (by (repeat (first | with_reducible exact Up.refl _ | with_reducible assumption | with_reducible refine Up.set ?_ (by first | exact Nat.le_refl _ | (simp only []; omega) | (simp; omega)) _ | with_reducible refine Up.alloc ?_ _ | with_reducible refine Up.drew ?_ | refine Up.trans ?_ (by with_reducible assumption)))))).mono ?_); rintro e w2 ⟨rfl, U2⟩; have B2 := bcell U2; have Z2 := U2.size; (try simp at Z2); (try rw [Nat.add_one_le_iff] at Z2)); (try have V2a : w1.heap.size < w2.heap.size := (by omega)); (try have V2b : w1.heap.size + 1 < w2.heap.size := (by omega)); (try have V2c : w2.heap.size < w2.heap.size := (by omega)); (try have V2d : w3.heap.size < w2.heap.size := (by omega)); (try have V2e : w4.heap.size < w2.heap.size := (by omega)); skip) | ((go_at_call 14; (with_reducible refine (cS _ (hrt _ (by (repeat (first | with_reducible exact Up.refl _ | with_reducible assumption | with_reducible refine Up.set ?_ (by first | exact Nat.le_refl _ | (simp only []; omega) | (simp; omega)) _ | with_reducible refine Up.alloc ?_ _ | with_reducible refine Up.drew ?_ | refine Up.trans ?_ (by with_reducible assumption)))))).mono ?_); rintro e w3 ⟨rfl, U3⟩; have B3 := bcell U3; have Z3 := U3.size; (try simp at Z3); (try rw [Nat.add_one_le_iff] at Z3)); (try have V3a : w1.heap.size < w3.heap.size := (by omega)); (try have V3b : w1.heap.size + 1 < w3.heap.size := (by omega)); (try have V3c : w2.heap.size < w3.heap.size := (by omega)); (try have V3d : w3.heap.size < w3.heap.size := (by omega)); (try have V3e : w4.heap.size < w3.heap.size := (by omega)); skip))
      go_ret
      refine ⟨ret_bool (by simp; try omega), ?_⟩
      (repeat (first | with_reducible exact Up.refl _ | with_reducible assumption | with_reducible refine Up.set ?_ (by first | exact Nat.le_refl _ | (simp only []; omega) | (simp; omega)) _ | with_reducible refine Up.alloc ?_ _ | with_reducible refine Up.drew ?_ | refine Up.trans ?_ (by with_reducible assumption)))
    · simp only [kV, setV] at *
      go_wp2_with (first | ((go_at_call 11; (with_reducible refine (cI _ (hrt _ (by (repeat (first | with_reducible exact Up.refl _ | with_reducible assumption | with_reducible refine Up.set ?_ (by first | exact Nat.le_refl _ | (simp only []; omega) | (simp; omega)) _ | with_reducible refine Up.alloc ?_ _ | with_reducible refine Up.drew ?_ | refine Up.trans ?_ (by with_reducible assumption)))))).mono ?_); rintro e w2 ⟨rfl, U2⟩; have B2 := bcell U2; have Z2 := U2.size; (try simp at Z2); (try rw [Nat.add_one_le_iff] at Z2)); (try have V2a : w1.heap.size < w2.heap.size := (by omega)); (try have V2b : w1.heap.size + 1 < w2.heap.size := (by omega)); (try have V2c : w2.heap.size < w2.heap.size := (by omega)); (try have V2d : w3.heap.size < w2.heap.size := (by omega)); (try have V2e : w4.heap.size < w2.heap.size := (by omega)); skip) | ((go_at_call 14; (with_reducible refine (cS _ (hrt _ (by (repeat (first | with_reducible exact Up.refl _ | with_reducible assumption | with_reducible refine Up.set ?_ (by first | exact Nat.le_refl _ | (simp only []; omega) | (simp; omega)) _ | with_reducible refine Up.alloc ?_ _ | with_reducible refine Up.drew ?_ | refine Up.trans ?_ (by with_reducible assumption)))))).mono ?_); rintro e w3 ⟨rfl, U3⟩; have B3 := bcell U3; have Z3 := U3.size; (try simp at Z3); (try rw [Nat.add_one_le_iff] at Z3)); (try have V3a : w1.heap.size < w3.heap.size := (by omega)); (try have V3b : w1.heap.size + 1 < w3.heap.size := (by omega)); (try have V3c : w2.heap.size < w3.heap.size := (by omega)); (try have V3d : w3.heap.size < w3.heap.size := (by omega)); (try have V3e : w4.heap.size < w3.heap.size := (by omega)); skip))
      have hU13 : Up w1 w3 := (((Up.refl w1).alloc _).trans U2).trans U3
      have hUw : Up w (w3.alloc (.cells #[.int .i64 k.set.ord, .int .i64 k.set.lit, .int .i64 k.set.most, .slice a k.ps.length cap, .int .i64 k.base, .int .i64 k.last] 31)) := by (repeat (first | with_reducible exact Up.refl _ | with_reducible assumption | with_reducible refine Up.set ?_ (by first | exact Nat.le_refl _ | (simp only []; omega) | (simp; omega)) _ | with_reducible refine Up.alloc ?_ _ | with_reducible refine Up.drew ?_ | refine Up.trans ?_ (by with_reducible assumption)))
      have hb12 : w1.heap.size < w3.heap.size := by omega
      have hKx : KnAt w3.heap.size k (.slice a k.ps.length cap) (w3.alloc (.cells #[.int .i64 k.set.ord, .int .i64 k.set.lit, .int .i64 k.set.most, .slice a k.ps.length cap, .int .i64 k.base, .int .i64 k.last] 31)) := (MapKept.heap_alloc w3 _).1
      have hKk : KnAt w1.heap.size k (.slice a k.ps.length cap) (w3.alloc (.cells #[.int .i64 k.set.ord, .int .i64 k.set.lit, .int .i64 k.set.most, .slice a k.ps.length cap, .int .i64 k.base, .int .i64 k.last] 31)) := box_up (Up.alloc (U2.trans U3) _) (MapKept.heap_alloc w1 _).1
      have hRx : RdX w3.heap.size (w3.alloc (.cells #[.int .i64 k.set.ord, .int .i64 k.set.lit, .int .i64 k.set.most, .slice a k.ps.length cap, .int .i64 k.base, .int .i64 k.last] 31)) (.slice a k.ps.length cap) k.ps := (RdX.of_old (hrt w3 hU13) (Nat.le_refl _)).up ((Up.refl _).alloc _)
      have hwb : w.heap.size ≤ w1.heap.size := U1.size
      generalize (w3.alloc (.cells #[.int .i64 k.set.ord, .int .i64 k.set.lit, .int .i64 k.set.most, .slice a k.ps.length cap, .int .i64 k.base, .int .i64 k.last] 31)) = W0 at *
      generalize w3.heap.size = b2 at *
      clear cI cS U2 U3 hU13
      go_loopw [9, 10] (fun vat vall wr => RelWb k.set.ord bits d.data.toList tot w1.heap.size b2 k (.slice a k.ps.length cap) w vat vall wr) (fun vat _ _ => tot - (intOf vat).toNat)
      case atStart => exact ⟨k, _, _, _, [], 0, [], rfl, rfl, HI.out, hKx, hRx, hKk, hUw, rfl, Nat.zero_le _⟩
      case round =>
        clear hKx hRx hKk hUw HI hrt
        obtain ⟨kk, u, xs, W, ws, p, dd, rfl, rfl, hI, hKx, hRx, hKk, hU, hset, hdl⟩ := hrel
        obtain ⟨x, hcx, hpt, hplen, hx0, hx1, hcases⟩ := hI.step
        have hkk := hI.ok
        have hvv := hI.vl
        have HIN := Lib.hid hI
        clear hI
        obtain ⟨a', cap', rfl, hq1, hq2, hq3, -⟩ := id hRx.1
        unfold maxLen at hq2
        have hwd := KnD.width_bd hkk
        have hkl := hkk.nums.2.2.2.1
        have hcc : (kk.c : Int) = ((clr k.set : Nat) : Int) := by show ((clr kk.set : Nat) : Int) = _; rw [hset]
        have HSET := Lib.hid hset
        clear hset
        have hrtx := fun (wq : World) (hu : Up wr wq) => hRx.1.up hu
        have cW := fun wq hr => widthE_any kk (.slice a' kk.ps.length cap') 0 wq hkk hvv hr
        have cPx := fun wx => cP wx p kk.width (by omega)
        have hTl : ((bits.drop p).take kk.width).length = kk.width := by rw [List.length_take, List.length_drop]; omega
        have hTb : isBits ((bits.drop p).take kk.width) := fun b hb => hib b (List.mem_of_mem_drop (List.mem_of_mem_take hb))
        have hTx : numL k.set.ord ((bits.drop p).take kk.width) = x := hcx
        have hTs := bs_size ((bits.drop p).take kk.width)
        have cB := fun w => bitsCodeI_any k.set.ord (bs ((bits.drop p).take kk.width)) w ho (by rw [bs_data]; exact hTb) (by rw [hTs]; omega) (by rw [hTs]; omega)
        rw [bs_data, hTx] at cB
        have hTz : (bs ((bits.drop p).take kk.width)).size = kk.width := by rw [hTs, hTl]
        clear hTl hTb hTx hTs hcx
        generalize bs ((bits.drop p).take kk.width) = T at *
        have hwz := hU.size
        have cO := fun h2 hf wx hr => soWord_any kk (.slice a' kk.ps.length cap') 0 x wx hkk hvv hr hx0 hx1 h2 hf
        have cA := fun h2 hf wx hr => afterI_any kk (.slice a' kk.ps.length cap') 0 x wx hkk hvv hr hx0 hx1 h2 hf
        have hxb : x ≤ 1048576 := by have := (KnD.top_bd hkk).2; have := hkk.nums; omega
        simp only [kV] at *
        rcases hcases with ⟨hx, hdd, hfin⟩ | ⟨hx, xs', W', hN⟩ | ⟨hx2, hx3, hfx, xs', W', hN⟩
        · rw [hdd, bs_self]
          rw [hcc] at hx
          subst hx
          have hpb : p + kk.width ≤ 32000 := by omega
          have HF := Lib.hid hfin
          have HT := Lib.hid htot
          have HL := Lib.hid hul
          clear cO cA HIN hkk hvv hfin htot hul hcc hdd
          generalize clr k.set = c at *
          obtain ⟨cn, hcn⟩ : ∃ n : Nat, Hid (c1.length = n) := ⟨_, rfl⟩
          have z1' : (bs c1).size = cn := z1.trans hcn.out
          have hcn4 : cn ≤ 4000 := by have := hcn.out; omega
          have hq8 : ((p : Int) + (kk.width : Int) + 7) / 8 = (cn : Int) := by have h1 := HF.out; have h2 := HT.out; have h3 := hcn.out; omega
          have hq9 : (p : Int) + (kk.width : Int) ≤ 8 * (cn : Int) := by have h1 := HF.out; have h2 := HT.out; have h3 := hcn.out; have h4 := HL.out; omega
          have hq8b : (((p : Int) + (kk.width : Int) + 7) / 8 == (cn : Int)) = true := by rw [hq8]; simp
          clear z1 h40
          generalize bs c1 = S at *
          go_wp2
          refine wp_region_up 13 (by kernel_rfl) (by kernel_rfl) ?_
          simp only [List.take, List.drop]
          repeat (refine wpUp_step (fun K hK => ?_); go_simp; (try simp only [↓IntWalk.iteOmega]); first
            | (refine hK _ _ ?_; clear hK K)
            | (apply stepU_c
               · intro wq hwq; (have hbq := bcell hwq; (repeat (first | refine fills_no (by rfl) ?_ | refine fills_yes (by rfl) (fun vq hvq => ?_))); simp only [List.filter_nil, fills]; unfold upAt; (try ((obtain ⟨-, r0, r1, r2, r3, r4, r5⟩ := KnAt.cells (box_up hwq hKk); obtain ⟨-, q0, q1, q2, q3, q4, q5⟩ := KnAt.cells (box_up hwq hKx)))); go_simp; (try go_bits); (try simp only [↓IntWalk.iteOmega]); (try (rw [dif_pos (by omega)]; go_simp; try go_bits)); first | exact upOut_value | (apply upOut_call; (go_at_call 20; exact cW _ (hrtx _ hwq))) | (apply upOut_eq; (go_at_call 20; exact cW _ (hrtx _ hwq))) | (apply upOut_call; (go_at_call 19; exact cPx _)) | (apply upOut_eq; (go_at_call 19; exact cPx _)))
               go_simp; refine hK _ _ ?_; clear hK K))
          refine wpUp_nil (fun wq hwq => ?_)
          simp only [fills]
          obtain ⟨hbk, r0, r1, r2, r3, r4, r5⟩ := KnAt.cells (box_up hwq hKk)
          obtain ⟨hbx, q0, q1, q2, q3, q4, q5⟩ := KnAt.cells (box_up hwq hKx)
          go_wp2_with (first | (go_at_call 21; (with_reducible refine (cB _).mono ?_); rintro e w' ⟨rfl, rfl⟩) | (go_at_call 22; (with_reducible refine (cE _).mono ?_); rintro e w4 ⟨rfl, U4⟩; have B4 := bcell U4; have Z4 := U4.size; (try simp at Z4); (try rw [Nat.add_one_le_iff] at Z4)))
          go_ret
          refine ⟨ret_bool (by have h1 := HF.out; have h2 := HT.out; have h4 := HL.out; have h5 := hcn.out; first | (simp; done) | (simp; omega)), ?_⟩
          have hU9 := hU.trans (hwq.trans U4)
          (repeat (first | with_reducible exact Up.refl _ | with_reducible assumption | with_reducible refine Up.set ?_ (by first | exact Nat.le_refl _ | (simp only []; omega) | (simp; omega)) _ | with_reducible refine Up.alloc ?_ _ | with_reducible refine Up.drew ?_ | refine Up.trans ?_ (by with_reducible assumption)))
        · have hx2 : x ≠ (kk.c : Int) + 1 := by omega
          have cO' := fun wx hr => cO hx2 (fun h => absurd hx h) wx hr
          rw [if_pos hx] at cO'
          have cA' := fun wx hr => cA hx2 (fun h => absurd hx h) wx hr
          rw [show kk.step x = kk.cleared by unfold KnD.step; rw [if_pos hx]] at cA'
          have hs2 : kk.cleared.set = k.set := HSET.out
          have hdd : bs dd ++ bs ([] : List UInt8) = bs dd := by rw [bs_app, List.append_nil]
          obtain ⟨k2, hk2⟩ : ∃ k2, k2 = kk.cleared := ⟨_, rfl⟩
          rw [← hk2] at cA' hN hs2
          clear hk2
          have HN := Lib.hid hN
          have hz1 : (bs dd).size ≤ 40000000 := by rw [bs_size]; omega
          have hz2 : (bs ([] : List UInt8)).size ≤ 1024 := by rw [bs_size]; simp
          have hne : (x == ((clr k.set : Nat) : Int) + 1) = false := by simp; omega
          clear hx2
          (try clear hx)
          (try clear hx3)
          have HS2 := Lib.hid hs2
          have hpb : p + kk.width ≤ 32000 := by omega
          have HB2 := Lib.hid (Array.getElem?_eq_some_iff.1 hKx).1
          have HBK := Lib.hid (Array.getElem?_eq_some_iff.1 hKk).1
          unfold KnPost2 at cA'
          clear cO cA HIN hkk hvv htot z1 hul hcc h40 hs2 hN HSET
          generalize clr k.set = c at *
          generalize bs c1 = S at *
          go_wp2
          refine wp_region_up 13 (by kernel_rfl) (by kernel_rfl) ?_
          simp only [List.take, List.drop]
          repeat (refine wpUp_step (fun K hK => ?_); go_simp; (try simp only [↓IntWalk.iteOmega]); first
            | (refine hK _ _ ?_; clear hK K)
            | (apply stepU_c
               · intro wq hwq; (have hbq := bcell hwq; (repeat (first | refine fills_no (by rfl) ?_ | refine fills_yes (by rfl) (fun vq hvq => ?_))); simp only [List.filter_nil, fills]; unfold upAt; (try ((obtain ⟨-, r0, r1, r2, r3, r4, r5⟩ := KnAt.cells (box_up hwq hKk); obtain ⟨-, q0, q1, q2, q3, q4, q5⟩ := KnAt.cells (box_up hwq hKx)))); go_simp; (try go_bits); (try simp only [↓IntWalk.iteOmega]); (try (rw [dif_pos (by omega)]; go_simp; try go_bits)); first | exact upOut_value | (apply upOut_call; (go_at_call 20; exact cW _ (hrtx _ hwq))) | (apply upOut_eq; (go_at_call 20; exact cW _ (hrtx _ hwq))) | (apply upOut_call; (go_at_call 19; exact cPx _)) | (apply upOut_eq; (go_at_call 19; exact cPx _)))
               go_simp; refine hK _ _ ?_; clear hK K))
          refine wpUp_nil (fun wq hwq => ?_)
          simp only [fills]
          obtain ⟨hbk, r0, r1, r2, r3, r4, r5⟩ := KnAt.cells (box_up hwq hKk)
          obtain ⟨hbx, q0, q1, q2, q3, q4, q5⟩ := KnAt.cells (box_up hwq hKx)
          have hUq := hwq
          go_wp2_with (first | (go_at_call 21; (with_reducible refine (cB _).mono ?_); rintro e w' ⟨rfl, rfl⟩) | ((go_at_call 22; (with_reducible refine (cE _).mono ?_); rintro e w4 ⟨rfl, U4⟩; have B4 := bcell U4; have Z4 := U4.size; (try simp at Z4); (try rw [Nat.add_one_le_iff] at Z4)); have Q4 : b2 < w4.heap.size := (Nat.lt_of_lt_of_le HB2.out (hUq.trans U4).size); have R4 : w1.heap.size < w4.heap.size := (Nat.lt_of_lt_of_le HBK.out (hUq.trans U4).size)) | ((go_at_call 23; (with_reducible refine (cO' _ (hrtx _ (hUq.trans U4))).mono ?_); rintro e w5 ⟨rfl, U5⟩; have B5 := bcell U5; have Z5 := U5.size; (try simp at Z5); (try rw [Nat.add_one_le_iff] at Z5)); have Q5 : b2 < w5.heap.size := (by omega); have R5 : w1.heap.size < w5.heap.size := (by omega)) | (go_at_call 24; (with_reducible refine (cA' _ (hrtx _ ((hUq.trans U4).trans U5))).mono ?_); rintro e w9 ⟨v9, rfl, ho9, U9⟩; obtain ⟨a9, c9, rfl⟩ := ownsRow_shape ho9; simp only [kV]; have hUx := ((hUq.trans U4).trans U5).trans U9; have hKx9 := box_up hUx hKx; have HK9 := Lib.hid (And.intro hKx9 (box_up hUx hKk)); obtain ⟨hbx, q0, q1, q2, q3, q4, q5⟩ := KnAt.cells hKx9; have hfr := box_free hKx9; have HO := Lib.hid ho9; have HUX := Lib.hid hUx; clear ho9 hKx9 hUx))
          rw [show (World.setCell (World.setCell (World.setCell (World.setCell (World.setCell (World.setCell w9 ⟨b2, 0, none⟩ (.int .i64 k2.set.ord)) ⟨b2, 1, none⟩ (.int .i64 k2.set.lit)) ⟨b2, 2, none⟩ (.int .i64 k2.set.most)) ⟨b2, 3, none⟩ (.slice a9 k2.ps.length c9)) ⟨b2, 4, none⟩ (.int .i64 k2.base)) ⟨b2, 5, none⟩ (.int .i64 k2.last)) = KnW w9 b2 k2 (.slice a9 k2.ps.length c9) from rfl]
          refine ⟨⟨k2, .slice a9 k2.ps.length c9, _, _, _, p + kk.width, _, by go_num, rfl, HN.out, KnAt.store HK9.out.1 _ _, ?_, (KnW.other (by omega) _ _).trans HK9.out.2, KnW.up (hU.trans HUX.out) (by omega) _ _, HS2.out, by omega⟩, by simp [intOf]; omega⟩
          unfold KnW
          exact ((((((RdX.of_lo (RdP.of_own HO.out) Q5).set _ _).set _ _).set _ _).set _ _).set _ _).set _ _
        · have cO' := fun wx hr => cO hx2 (fun _ => hfx) wx hr
          rw [if_neg hx3] at cO'
          have cA' := fun wx hr => cA hx2 (fun _ => hfx) wx hr
          rw [show kk.step x = kk.after x by unfold KnD.step; rw [if_neg hx3]] at cA'
          have hs2 : (kk.after x).set = k.set := HSET.out
          have hdd : bs dd ++ bs (kk.any x) = bs (dd ++ kk.any x) := bs_app _ _
          obtain ⟨k2, hk2⟩ : ∃ k2, k2 = kk.after x := ⟨_, rfl⟩
          rw [← hk2] at cA' hN hs2
          clear hk2
          have HN := Lib.hid hN
          have hal := KnD.any_len hkk hfx
          have hz1 : (bs dd).size ≤ 40000000 := by rw [bs_size]; omega
          have hz2 : (bs (kk.any x)).size ≤ 1024 := by rw [bs_size]; omega
          clear hfx
          have hne : (x == ((clr k.set : Nat) : Int) + 1) = false := by simp; omega
          clear hx2
          (try clear hx)
          (try clear hx3)
          have HS2 := Lib.hid hs2
          have hpb : p + kk.width ≤ 32000 := by omega
          have HB2 := Lib.hid (Array.getElem?_eq_some_iff.1 hKx).1
          have HBK := Lib.hid (Array.getElem?_eq_some_iff.1 hKk).1
          unfold KnPost2 at cA'
          clear cO cA HIN hkk hvv htot z1 hul hcc h40 hs2 hN HSET
          generalize clr k.set = c at *
          generalize bs c1 = S at *
          go_wp2
          refine wp_region_up 13 (by kernel_rfl) (by kernel_rfl) ?_
          simp only [List.take, List.drop]
          repeat (refine wpUp_step (fun K hK => ?_); go_simp; (try simp only [↓IntWalk.iteOmega]); first
            | (refine hK _ _ ?_; clear hK K)
            | (apply stepU_c
               · intro wq hwq; (have hbq := bcell hwq; (repeat (first | refine fills_no (by rfl) ?_ | refine fills_yes (by rfl) (fun vq hvq => ?_))); simp only [List.filter_nil, fills]; unfold upAt; (try ((obtain ⟨-, r0, r1, r2, r3, r4, r5⟩ := KnAt.cells (box_up hwq hKk); obtain ⟨-, q0, q1, q2, q3, q4, q5⟩ := KnAt.cells (box_up hwq hKx)))); go_simp; (try go_bits); (try simp only [↓IntWalk.iteOmega]); (try (rw [dif_pos (by omega)]; go_simp; try go_bits)); first | exact upOut_value | (apply upOut_call; (go_at_call 20; exact cW _ (hrtx _ hwq))) | (apply upOut_eq; (go_at_call 20; exact cW _ (hrtx _ hwq))) | (apply upOut_call; (go_at_call 19; exact cPx _)) | (apply upOut_eq; (go_at_call 19; exact cPx _)))
               go_simp; refine hK _ _ ?_; clear hK K))
          refine wpUp_nil (fun wq hwq => ?_)
          simp only [fills]
          obtain ⟨hbk, r0, r1, r2, r3, r4, r5⟩ := KnAt.cells (box_up hwq hKk)
          obtain ⟨hbx, q0, q1, q2, q3, q4, q5⟩ := KnAt.cells (box_up hwq hKx)
          have hUq := hwq
          go_wp2_with (first | (go_at_call 21; (with_reducible refine (cB _).mono ?_); rintro e w' ⟨rfl, rfl⟩) | ((go_at_call 22; (with_reducible refine (cE _).mono ?_); rintro e w4 ⟨rfl, U4⟩; have B4 := bcell U4; have Z4 := U4.size; (try simp at Z4); (try rw [Nat.add_one_le_iff] at Z4)); have Q4 : b2 < w4.heap.size := (Nat.lt_of_lt_of_le HB2.out (hUq.trans U4).size); have R4 : w1.heap.size < w4.heap.size := (Nat.lt_of_lt_of_le HBK.out (hUq.trans U4).size)) | ((go_at_call 23; (with_reducible refine (cO' _ (hrtx _ (hUq.trans U4))).mono ?_); rintro e w5 ⟨rfl, U5⟩; have B5 := bcell U5; have Z5 := U5.size; (try simp at Z5); (try rw [Nat.add_one_le_iff] at Z5)); have Q5 : b2 < w5.heap.size := (by omega); have R5 : w1.heap.size < w5.heap.size := (by omega)) | (go_at_call 24; (with_reducible refine (cA' _ (hrtx _ ((hUq.trans U4).trans U5))).mono ?_); rintro e w9 ⟨v9, rfl, ho9, U9⟩; obtain ⟨a9, c9, rfl⟩ := ownsRow_shape ho9; simp only [kV]; have hUx := ((hUq.trans U4).trans U5).trans U9; have hKx9 := box_up hUx hKx; have HK9 := Lib.hid (And.intro hKx9 (box_up hUx hKk)); obtain ⟨hbx, q0, q1, q2, q3, q4, q5⟩ := KnAt.cells hKx9; have hfr := box_free hKx9; have HO := Lib.hid ho9; have HUX := Lib.hid hUx; clear ho9 hKx9 hUx))
          rw [show (World.setCell (World.setCell (World.setCell (World.setCell (World.setCell (World.setCell w9 ⟨b2, 0, none⟩ (.int .i64 k2.set.ord)) ⟨b2, 1, none⟩ (.int .i64 k2.set.lit)) ⟨b2, 2, none⟩ (.int .i64 k2.set.most)) ⟨b2, 3, none⟩ (.slice a9 k2.ps.length c9)) ⟨b2, 4, none⟩ (.int .i64 k2.base)) ⟨b2, 5, none⟩ (.int .i64 k2.last)) = KnW w9 b2 k2 (.slice a9 k2.ps.length c9) from rfl]
          refine ⟨⟨k2, .slice a9 k2.ps.length c9, _, _, _, p + kk.width, _, by go_num, rfl, HN.out, KnAt.store HK9.out.1 _ _, ?_, (KnW.other (by omega) _ _).trans HK9.out.2, KnW.up (hU.trans HUX.out) (by omega) _ _, HS2.out, by rw [List.length_append]; omega⟩, by simp [intOf]; omega⟩
          unfold KnW
          exact ((((((RdX.of_lo (RdP.of_own HO.out) Q5).set _ _).set _ _).set _ _).set _ _).set _ _).set _ _

set_option maxRecDepth 100000 in
theorem lifted (os : Os) (started : os.Started) (H : Type) (enc : TypeId × Value → H) :
    ReturnsInHanded {} Try.checked os 6 .any (Rows.fnWholeBitsSpec.pre6 enc Try.prog Try.f6 Rows.fnWholeBitsRow.domain false) (Rows.fnWholeBitsSpec.post enc Try.prog Try.f6 false true false false) := by
  refine returnsInHanded_of_change (C := Try.checked) own started (by kernel_rfl) Try.func6
    (ChangeSpec.witness6 (enc := enc) (C := Try.checked) false ⟨#[], #[.slice none 0 0], []⟩ 8 (by kernel_rfl) (by kernel_rfl) (by kernel_rfl) (by kernel_rfl)) ?_
  intro W base args ds gs before hval0 hW hcnd _
  have hval : ∀ (j : Nat) t v, Try.f6.params[j]? = some t → args[j]? = some v → Value.okWide Try.prog W .any base t v := hval0
  have hW' := hW
  obtain ⟨p, q, hA0, hV, rfl, hfz, hnd⟩ := hW
  have hA : DataW.TrodAll enc Try.prog W 0 (fun _ => true) true Try.f6.params.toList args.toList ds p := hA0
  rw [Try.params6] at hA hval
  obtain ⟨v0, d0, rfl, rfl, h0⟩ := trodAll_one hA
  obtain ⟨p0, rfl⟩ : ∃ x, x = p := ⟨_, rfl⟩
  obtain ⟨a0, n0, c0, rfl⟩ := okWide_slice Try.underlying22 (hval 0 22 v0 rfl rfl)
  have hlt0 : ∀ x ∈ p0, x.block < W.heap.size := fun x hx => by simpa using hW'.lt x (by simp [hx])
  obtain ⟨fuel0, hf0⟩ := h0
  obtain ⟨lcode, hcode⟩ := open_argU (by simpa [Value.cells] using hf0) hlt0
  obtain ⟨rfl, rfl⟩ := trodVars_none hV
  refine (walk _ _ W hcode).mono fun e W' ⟨he, hu⟩ => ?_
  subst he
  exact ⟨_, rfl, post_law (f := Try.f6) TrylaidOut (by kernel_rfl) rfl Try.underlying4 rfl hW' (fun ds' h => by subst h; exact ⟨rfl, rfl, rfl⟩) hu⟩

set_option maxHeartbeats 80000000 in
theorem closed : joinedFacts Try.checked.prog 6 Try.f6 Rows.fnWholeBitsSpec Rows.fnWholeBitsRow = true := by
  unfold joinedFacts
  repeat' (with_reducible refine (Bool.and_eq_true_iff.2 ⟨?_, ?_⟩))
  all_goals (as_aux_lemma => kernel_rfl)

theorem holds : Rows.FnWholeBitsSaid :=
  OpenClaim.holds_of_wide 6 Try.f6 rfl rfl rfl rfl rfl rfl rfl ⟨rfl, rfl, rfl, rfl, rfl⟩ rfl rfl rfl rfl rfl (by as_aux_lemma => kernel_rfl) Try.func6 closed
    (of_decide_eq_true (by as_aux_lemma => kernel_rfl)) (by unfold Func.isWrapper; first | (rw [if_pos (by decide +kernel)]; kernel_rfl) | (rw [if_neg (by decide +kernel)]; exact ⟨rfl, rfl⟩))
    (fun os started H enc _ => lifted os started H enc)

end Go.Proofs.Ytbimdjlcjcdbnaa.lawFnWholeBits
