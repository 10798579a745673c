/- The best sample's streams are shortest in sum, and it is the first such. Conditions: none. -/
import Derived.Test.YtekbbnkkninolaaGreatMFnBestSampleLawA
namespace Go.Proofs.YtekbbnkkninolaaGreat.lawFnBestSample
set_option linter.unusedVariables false
set_option linter.unusedSimpArgs false
open Go.ChangeShapes Go.WideShapes Go.ChangeAt Go.RowKit Go.Joins
open Go.ChangeMaps (open_string shut_string)

set_option maxRecDepth 100000 in
set_option maxHeartbeats 2000000 in
theorem soSize_any (s : SetD) (dict d : ByteArray) (w : World) (hl : -9223372036854775808 ≤ s.lit ∧ s.lit ≤ 9223372036854775807) (hi : dict.size ≤ 1073741824) (hd : d.size ≤ 1073741824) :
    Calls Tryz.prog 36  #[setV s, .string dict, .string d] w (Same (.int .i64 (szW s dict d : Nat)) w) := by
  have cC := fun wx => compWI_any s dict d wx hl hi hd
  unfold optS at cC
  have HX : Hid ((bs ((compW s dict.data.toList d.data.toList).getD [])).size = szW s dict d) := bs_size _
  generalize bs ((compW s dict.data.toList d.data.toList).getD []) = B at *
  generalize szW s dict d = z at *
  simp only [setV] at *
  go_enter Tryz.func36, Tryz.ntmps36
  go_wp2_with ((go_at_call 28; (with_reducible refine (cC _).mono ?_); rintro e w1 ⟨rfl, U1⟩; have B1 := bcell U1; have Z1 := U1.size; (try simp at Z1); (try rw [Nat.add_one_le_iff] at Z1)))
  go_ret
  refine ⟨by first | rfl | (rw [HX.out]; done) | (rw [HX.out]; rfl), ?_⟩
  (repeat (first | with_reducible exact Up.refl _ | with_reducible assumption | with_reducible refine Up.set ?_ (by first | exact Nat.le_refl _ | (simp only []; omega) | (simp; omega)) _ | with_reducible refine Up.alloc ?_ _ | with_reducible refine Up.drew ?_ | refine Up.trans ?_ (by with_reducible assumption)))

def tots (s : SetD) (ds : List ByteArray) (k : Nat) : List Int := (ds.take k).map fun t => ((totW s t ds : Nat) : Int)
theorem tots_len {s : SetD} {ds : List ByteArray} {k : Nat} (h : k ≤ ds.length) : (tots s ds k).length = k := by simp [tots]; omega
theorem tots_snoc {s : SetD} {ds : List ByteArray} {k : Nat} (h : k < ds.length) : tots s ds (k + 1) = tots s ds k ++ [((totW s ds[k] ds : Nat) : Int)] := by
  unfold tots
  rw [List.take_succ_eq_append_getElem h, List.map_append]; rfl
theorem tots_get {s : SetD} {ds : List ByteArray} {i : Nat} (h : i < ds.length) : (cellsI (tots s ds ds.length))[i]? = some (.int .i64 (totW s ds[i] ds : Nat)) := by
  unfold tots cellsI
  rw [List.take_length]
  simp [List.getElem?_eq_getElem h]
theorem own_emptyI {w' : World} {base g : Nat} (hg : g = w'.heap.size) (hb : base ≤ w'.heap.size) : (w'.alloc (.cells #[] 3)).ownsRow base 3 1 (.slice (some ⟨g, 0, none⟩) 0 0) 0 [] := by
  subst hg
  exact World.ownsRow_made _ _ _ hb (by unfold maxLen; omega) rfl
def RelA (s : SetD) (ds : List ByteArray) (w : World) (v i : Value) (wr : World) : Prop := ∃ k : Nat, k ≤ ds.length ∧ i = .int .i64 k ∧ wr.ownsRow w.heap.size 3 1 v k (cellsI (tots s ds k)) ∧ Up w wr
def RelB (s : SetD) (D : ByteArray) (ds : List ByteArray) (w : World) (t i : Value) (wr : World) : Prop := ∃ k : Nat, k ≤ ds.length ∧ i = .int .i64 k ∧ t = .int .i64 (((ds.take k).map (szW s D)).sum : Nat) ∧ Up w wr
def RelC (n : Nat) (w : World) (i : Value) (wr : World) : Prop := ∃ j : Nat, j ≤ n ∧ i = .int .i64 j ∧ Up w wr

set_option maxRecDepth 100000 in
set_option maxHeartbeats 16000000 in
theorem walk (vc : Value) (lc : List UInt8) (w : World) (hc : ArgU w vc lc) :
    Calls Tryz.prog 8  #[vc] w (Same (.bool true) w) := by
  obtain ⟨i0, hi0, hz0, hz1, hz2⟩ := info_parts infoInt
  have cD := fun w' hu => drawBestSample_any vc lc w' (hc.up (w' := w') hu)
  obtain ⟨ac, cc, rfl, hc1, hc2, -⟩ := hc
  unfold maxLen at hc2
  by_cases h1 : 1048576 < lc.length
  · go_enter Tryz.func8, Tryz.ntmps8
    go_wp2
    go_ret
    exact ⟨rfl, by (repeat (first | with_reducible exact Up.refl _ | with_reducible assumption | with_reducible refine Up.set ?_ (by first | exact Nat.le_refl _ | (simp only []; omega) | (simp; omega)) _ | with_reducible refine Up.alloc ?_ _ | with_reducible refine Up.drew ?_ | refine Up.trans ?_ (by with_reducible assumption)))⟩
  go_enter Tryz.func8, Tryz.ntmps8
  go_wp2_with (go_at_call 37; (with_reducible refine (cD _ (by (repeat (first | with_reducible exact Up.refl _ | with_reducible assumption | with_reducible refine Up.set ?_ (by first | exact Nat.le_refl _ | (simp only []; omega) | (simp; omega)) _ | with_reducible refine Up.alloc ?_ _ | with_reducible refine Up.drew ?_ | refine Up.trans ?_ (by with_reducible assumption))))).mono ?_); rintro e w1 ⟨s, u, ds, rfl, hs, hO, hL9, hLs, U1⟩; simp only [setV]; have B1 := bcell U1; have Z1 := U1.size; (try simp at Z1); (try rw [Nat.add_one_le_iff] at Z1))
  have hA : ArgS w1 u ds := ArgS.of_own (show ownS w1 (w.heap.size + 1) u ds from hO) (fun t ht => by have := hLs t ht; unfold maxLen; omega)
  have hAt := fun (wq : World) (hu : Up w1 wq) => hA.up hu
  have cI := fun wx h => bestSampleI_any s ds u wx hs h (by omega) (fun t ht => by have := hLs t ht; omega)
  have cS := fun wx h => bestSampleS_any s ds u wx h (by omega) (fun t ht => by have := hLs t ht; omega)
  have HA := Lib.hid hA
  obtain ⟨a, ca, rfl, -, -, -⟩ := hA
  clear cD hO
  unfold bestV at cI cS
  cases hv : (allFitB s ds && true) with
  | false =>
    rw [hv] at cI cS
    simp only [Bool.false_eq_true, if_false, setV] at *
    clear hv
    go_wp2_with (first | ((go_at_call 38; (with_reducible refine (cI _ (hAt _ (by (repeat (first | with_reducible exact Up.refl _ | with_reducible assumption | with_reducible refine Up.set ?_ (by first | exact Nat.le_refl _ | (simp only []; omega) | (simp; omega)) _ | with_reducible refine Up.alloc ?_ _ | with_reducible refine Up.drew ?_ | refine Up.trans ?_ (by with_reducible assumption)))))).mono ?_); rintro e w2 ⟨rfl, U2⟩; have B2 := bcell U2; have Z2 := U2.size; (try simp at Z2); (try rw [Nat.add_one_le_iff] at Z2)); (try have V2a : w1.heap.size < w2.heap.size := (by omega)); (try have V2b : w1.heap.size + 1 < w2.heap.size := (by omega)); (try have V2c : w2.heap.size < w2.heap.size := (by omega)); (try have V2d : w3.heap.size < w2.heap.size := (by omega)); (try have V2e : w4.heap.size < w2.heap.size := (by omega)); skip) | (go_at_call 39; (with_reducible refine (cS _ (hAt _ (by (repeat (first | with_reducible exact Up.refl _ | with_reducible assumption | with_reducible refine Up.set ?_ (by first | exact Nat.le_refl _ | (simp only []; omega) | (simp; omega)) _ | with_reducible refine Up.alloc ?_ _ | with_reducible refine Up.drew ?_ | refine Up.trans ?_ (by with_reducible assumption)))))).mono ?_); rintro e w3 ⟨rfl, U3⟩; have B3 := bcell U3; have V3 : w1.heap.size < w3.heap.size := (by have := U3.size; omega); (try clear cI); skip))
    go_ret
    refine ⟨ret_bool (by simp; try rfl), ?_⟩
    (repeat (first | with_reducible exact Up.refl _ | with_reducible assumption | with_reducible refine Up.set ?_ (by first | exact Nat.le_refl _ | (simp only []; omega) | (simp; omega)) _ | with_reducible refine Up.alloc ?_ _ | with_reducible refine Up.drew ?_ | refine Up.trans ?_ (by with_reducible assumption)))
  | true =>
    have hv1 : allFitB s ds = true := by simpa using hv
    obtain ⟨hl1, hl8, -⟩ := allFit_iff.1 hv1
    rw [hv] at cI cS
    simp only [if_true] at cI cS
    obtain ⟨m, hm⟩ : ∃ m, bestI (fun i => totW s (ds.getD i ByteArray.empty) ds) (ds.length - 1) = m := ⟨_, rfl⟩
    have hml : m < ds.length := by have := bestI_le (fun i => totW s (ds.getD i ByteArray.empty) ds) (ds.length - 1); omega
    have HB : Hid (∀ i (hi : i < ds.length), totW s ds[m] ds ≤ totW s ds[i] ds ∧ (i < m → totW s ds[m] ds < totW s ds[i] ds)) := fun i hi => by
      have h := bestI_min (fun i => totW s (ds.getD i ByteArray.empty) ds) (ds.length - 1) i (by omega)
      rw [hm, getD_lt hml, getD_lt hi] at h
      exact h
    rw [hm] at cI cS
    have cZ := fun (i k : Nat) (hi : i < ds.length) (hk : k < ds.length) wx => soSize_any s ds[i] ds[k] wx hs (by have := hLs _ (List.getElem_mem hi); omega) (by have := hLs _ (List.getElem_mem hk); omega)
    simp only [setV] at *
    clear hv hv1 hm
    go_wp2_with (first | ((go_at_call 38; (with_reducible refine (cI _ (hAt _ (by (repeat (first | with_reducible exact Up.refl _ | with_reducible assumption | with_reducible refine Up.set ?_ (by first | exact Nat.le_refl _ | (simp only []; omega) | (simp; omega)) _ | with_reducible refine Up.alloc ?_ _ | with_reducible refine Up.drew ?_ | refine Up.trans ?_ (by with_reducible assumption)))))).mono ?_); rintro e w2 ⟨rfl, U2⟩; have B2 := bcell U2; have Z2 := U2.size; (try simp at Z2); (try rw [Nat.add_one_le_iff] at Z2)); (try have V2a : w1.heap.size < w2.heap.size := (by omega)); (try have V2b : w1.heap.size + 1 < w2.heap.size := (by omega)); (try have V2c : w2.heap.size < w2.heap.size := (by omega)); (try have V2d : w3.heap.size < w2.heap.size := (by omega)); (try have V2e : w4.heap.size < w2.heap.size := (by omega)); skip) | ((go_at_call 39; (with_reducible refine (cS _ (hAt _ (by (repeat (first | with_reducible exact Up.refl _ | with_reducible assumption | with_reducible refine Up.set ?_ (by first | exact Nat.le_refl _ | (simp only []; omega) | (simp; omega)) _ | with_reducible refine Up.alloc ?_ _ | with_reducible refine Up.drew ?_ | refine Up.trans ?_ (by with_reducible assumption)))))).mono ?_); rintro e w3 ⟨rfl, U3⟩; have B3 := bcell U3; have Z3 := U3.size; (try simp at Z3); (try rw [Nat.add_one_le_iff] at Z3)); (try have V3a : w1.heap.size < w3.heap.size := (by omega)); (try have V3b : w1.heap.size + 1 < w3.heap.size := (by omega)); (try have V3c : w2.heap.size < w3.heap.size := (by omega)); (try have V3d : w3.heap.size < w3.heap.size := (by omega)); (try have V3e : w4.heap.size < w3.heap.size := (by omega)); skip))
    have hU3 : Up (w1.alloc (.cells #[.int .i64 s.ord, .int .i64 s.lit, .int .i64 s.most] 26)) w3 := U2.trans U3
    have hU13 : Up w1 w3 := by clear hU3; (repeat (first | with_reducible exact Up.refl _ | with_reducible assumption | with_reducible refine Up.set ?_ (by first | exact Nat.le_refl _ | (simp only []; omega) | (simp; omega)) _ | with_reducible refine Up.alloc ?_ _ | with_reducible refine Up.drew ?_ | refine Up.trans ?_ (by with_reducible assumption)))
    have HU13 := Lib.hid hU13
    have HSB : Hid (SetAt w1.heap.size s.ord s.lit s.most w3) := box_up hU3 (MapKept.heap_alloc w1 _).1
    have HUW : Hid (Up w w3) := by clear hU3; (repeat (first | with_reducible exact Up.refl _ | with_reducible assumption | with_reducible refine Up.set ?_ (by first | exact Nat.le_refl _ | (simp only []; omega) | (simp; omega)) _ | with_reducible refine Up.alloc ?_ _ | with_reducible refine Up.drew ?_ | refine Up.trans ?_ (by with_reducible assumption)))
    clear cI cS B1 B2 B3 U1 U2 U3 hU3 hU13
    go_loopw [6, 7] (fun v i wr => RelA s ds w3 v i wr) (fun _ i _ => ds.length - (intOf i).toNat)
    case atStart => exact ⟨0, Nat.zero_le _, rfl, own_emptyI rfl (Nat.le_refl _), (Up.refl _).alloc _⟩
    case round =>
      obtain ⟨k, hk, rfl, hown, hup⟩ := hrel
      obtain ⟨a6, c6, rfl⟩ := ownsRow_shape hown
      by_cases hlt : k < ds.length
      · obtain ⟨W, rfl⟩ : ∃ W, W = wr := ⟨_, rfl⟩
        have HOW := Lib.hid hown
        have HUP := Lib.hid hup
        obtain ⟨b, off, rfl, hbl, hx, -, hnc, hcm⟩ := HA.out.at hlt
        unfold maxLen at hcm
        have HBL := Lib.hid hbl
        have HX := Lib.hid hx
        clear hown hbl hx
        go_wp2
        go_loopw [8, 9] (fun t i wr => RelB s ds[k] ds W t i wr) (fun _ i _ => ds.length - (intOf i).toNat)
        case atStart => exact ⟨0, Nat.zero_le _, rfl, by simp, Up.refl _⟩
        case round =>
          obtain ⟨j, hj, rfl, rfl, huq⟩ := hrel
          have hup3 := HUP.out.trans huq
          have hup1 := HU13.out.trans hup3
          have hjb := sum_bd (szW s ds[k]) (fun x => szW_bd s ds[k] x) (ds.take j)
          have hjl : (ds.take j).length ≤ 9 := by rw [List.length_take]; omega
          by_cases hjt : j < ds.length
          · obtain ⟨b2, off2, he, hbl2, hx2, -, -, -⟩ := HA.out.at hjt
            simp at he
            obtain ⟨rfl, rfl⟩ := he
            have cZi := cZ k j hlt hjt
            have c1 := (hup1.cell (p := ⟨b, off + k, none⟩) HBL.out).trans HX.out
            have c2 := (hup1.cell (p := ⟨b, off + j, none⟩) hbl2).trans hx2
            have hbr := Nat.lt_of_lt_of_le HBL.out hup1.size
            have hzb := szW_bd s ds[k] ds[j]
            have HS : Hid (((ds.take (j + 1)).map (szW s ds[k])).sum = ((ds.take j).map (szW s ds[k])).sum + szW s ds[k] ds[j]) := sum_take (szW s ds[k]) hjt
            obtain ⟨hbs, t0, t1, t2⟩ := SetAt.cells (box_up hup3 HSB.out)
            generalize ((ds.take j).map (szW s ds[k])).sum = X at *
            generalize szW s ds[k] ds[j] = z at *
            generalize hDk : ds[k] = Dk at *
            generalize ds[j] = Dj at *
            clear cZ hx2 hLs hup1
            go_wp2
            refine wp_region_up 12 (by kernel_rfl) (by kernel_rfl) ?_
            simp only [List.take, List.drop]
            repeat (refine wpUp_step (fun K hK => ?_); go_simp; (try simp only [↓IntWalk.iteOmega]); first
              | (refine hK _ _ ?_; clear hK K)
              | (apply stepU_c
                 · intro wq hwq; (have hbq := bcell hwq; (repeat (first | refine fills_no (by rfl) ?_ | refine fills_yes (by rfl) (fun vq hvq => ?_))); simp only [List.filter_nil, fills]; unfold upAt; go_simp; (try go_bits); (try simp only [↓IntWalk.iteOmega]); (try (rw [dif_pos (by omega)]; go_simp; try go_bits)); first | exact upOut_value | (apply upOut_call; (go_at_call 36; exact cZi _)) | (apply upOut_eq; (go_at_call 36; exact cZi _)))
                 go_simp; refine hK _ _ ?_; clear hK K))
            refine wpUp_nil (fun wq hwq => ?_)
            simp only [fills]
            go_wp2
            go_roundw
            case rel => exact ⟨j + 1, by omega, by go_num, by rw [HS.out]; go_num, by (repeat (first | with_reducible exact Up.refl _ | with_reducible assumption | with_reducible refine Up.set ?_ (by first | exact Nat.le_refl _ | (simp only []; omega) | (simp; omega)) _ | with_reducible refine Up.alloc ?_ _ | with_reducible refine Up.drew ?_ | refine Up.trans ?_ (by with_reducible assumption)))⟩
            case measure => simp [intOf]; omega
          · have e : j = ds.length := by omega
            subst e
            rw [List.take_length] at *
            have HT : Hid (tots s ds (k + 1) = tots s ds k ++ [((totW s ds[k] ds : Nat) : Int)]) := tots_snoc hlt
            have hown := ownsRow_up HOW.out huq
            have hsz := huq.size
            have hszU := HUP.out.size
            change (ds.map (szW s ds[k])).sum ≤ _ at hjb
            have HTW : Hid ((ds.map (szW s ds[k])).sum = totW s ds[k] ds) := rfl
            rw [HTW.out] at *
            generalize totW s ds[k] ds = X at *
            go_wp2_with (at_builtin; refine wpList_append_own _ rfl _ _ 54 rfl w3.heap.size 3 i0 (.int .i64 0) 1 8 Tryz.underlying54 hi0 hz0 hz1 hz2 rfl (by decide) _ _ _ rfl (hown.alloc _) ⟨wr.heap.size, 0, none⟩ 1 1 [.int .i64 X] rfl rfl (new_cells [.int .i64 X] _ rfl) (oneInt _) (by unfold maxLen; omega) (by omega) (by simp; omega) ?_; rintro v7 w7 hown7 hgr7 -)
            go_roundw
            case rel => exact ⟨k + 1, by omega, by go_num, by rw [HT.out, cellsI_snocT]; exact hown7, ((HUP.out.trans huq).alloc _).grown hgr7 (fun x hx => (hown.lt x hx).1)⟩
            case measure => simp [intOf]; omega
      · have e : k = ds.length := by omega
        subst e
        obtain ⟨a8, c8, he, hm8, hsome⟩ := ownsRow_any hown
        cases he
        obtain ⟨g, rfl, hnc, hcm, hbg, hg, hcells⟩ := hsome (by omega)
        obtain ⟨W, rfl⟩ : ∃ W, W = wr := ⟨_, rfl⟩
        have HC : Hid (∀ i (hi : i < ds.length), W.cell? ⟨g, i, none⟩ = some (.int .i64 (totW s ds[i] ds : Nat))) := fun i hi => hcells i _ (tots_get hi)
        have HUP := Lib.hid hup
        unfold maxLen at hcm
        clear hcells hown hup
        go_wp2
        go_loopw [10] (fun i wr => RelC ds.length W i wr) (fun i _ => ds.length - (intOf i).toNat)
        case atStart => exact ⟨0, Nat.zero_le _, rfl, Up.refl _⟩
        case round =>
          obtain ⟨i, hi, rfl, huq⟩ := hrel
          by_cases hit : i < ds.length
          · obtain ⟨g1, g2⟩ := HB.out i hit
            have c1 := (huq.cell (p := ⟨g, m, none⟩) hg).trans (HC.out m hml)
            have c2 := (huq.cell (p := ⟨g, i, none⟩) hg).trans (HC.out i hit)
            have hgr := Nat.lt_of_lt_of_le hg huq.size
            generalize totW s ds[m] ds = zm at *
            generalize totW s ds[i] ds = zi at *
            have k1 : decide ((zi : Int) < (zm : Int)) = false := by simp; omega
            clear cZ
            by_cases him : i < m
            · have g3 := g2 him
              have k2 : ((zi : Int) == (zm : Int)) = false := by simp; omega
              have k3 : decide ((i : Int) < (m : Int)) = true := by simp; omega
              clear g2
              go_wp2
              refine wp_region_up 25 (by kernel_rfl) (by kernel_rfl) ?_
              simp only [List.take, List.drop]
              repeat (refine wpUp_step (fun K hK => ?_); go_simp; (try simp only [↓IntWalk.iteOmega]); first
                | (refine hK _ _ ?_; clear hK K)
                | (apply stepU_c
                   · intro wq hwq; (have hbq := bcell hwq; (repeat (first | refine fills_no (by rfl) ?_ | refine fills_yes (by rfl) (fun vq hvq => ?_))); simp only [List.filter_nil, fills]; unfold upAt; go_simp; (try go_bits); (try simp only [↓IntWalk.iteOmega]); (try (rw [dif_pos (by omega)]; go_simp; try go_bits)); first | exact upOut_value)
                   go_simp; refine hK _ _ ?_; clear hK K))
              refine wpUp_nil (fun wq hwq => ?_)
              simp only [fills]
              go_wp2
              go_roundw
              case rel => exact ⟨i + 1, by omega, by go_num, by (repeat (first | with_reducible exact Up.refl _ | with_reducible assumption | with_reducible refine Up.set ?_ (by first | exact Nat.le_refl _ | (simp only []; omega) | (simp; omega)) _ | with_reducible refine Up.alloc ?_ _ | with_reducible refine Up.drew ?_ | refine Up.trans ?_ (by with_reducible assumption)))⟩
              case measure => simp [intOf]; omega
            · have k3 : decide ((i : Int) < (m : Int)) = false := by simp; omega
              clear g2
              go_wp2
              refine wp_region_up 25 (by kernel_rfl) (by kernel_rfl) ?_
              simp only [List.take, List.drop]
              repeat (refine wpUp_step (fun K hK => ?_); go_simp; (try simp only [↓IntWalk.iteOmega]); first
                | (refine hK _ _ ?_; clear hK K)
                | (apply stepU_c
                   · intro wq hwq; (have hbq := bcell hwq; (repeat (first | refine fills_no (by rfl) ?_ | refine fills_yes (by rfl) (fun vq hvq => ?_))); simp only [List.filter_nil, fills]; unfold upAt; go_simp; (try go_bits); (try simp only [↓IntWalk.iteOmega]); (try (rw [dif_pos (by omega)]; go_simp; try go_bits)); first | exact upOut_value)
                   go_simp; refine hK _ _ ?_; clear hK K))
              refine wpUp_nil (fun wq hwq => ?_)
              simp only [fills]
              go_wp2
              go_roundw
              case rel => exact ⟨i + 1, by omega, by go_num, by (repeat (first | with_reducible exact Up.refl _ | with_reducible assumption | with_reducible refine Up.set ?_ (by first | exact Nat.le_refl _ | (simp only []; omega) | (simp; omega)) _ | with_reducible refine Up.alloc ?_ _ | with_reducible refine Up.drew ?_ | refine Up.trans ?_ (by with_reducible assumption)))⟩
              case measure => simp [intOf]; omega
          · go_wp2
            go_ret
            refine ⟨ret_bool (by simp; try omega), ?_⟩
            exact (HUW.out.trans HUP.out).trans huq

set_option maxRecDepth 100000 in
theorem lifted (os : Os) (started : os.Started) (H : Type) (enc : TypeId × Value → H) :
    ReturnsInHanded {} Tryz.checked os 8 .any (Rows.fnBestSampleSpec.pre6 enc Tryz.prog Tryz.f8 Rows.fnBestSampleRow.domain false) (Rows.fnBestSampleSpec.post enc Tryz.prog Tryz.f8 false true false false) := by
  refine returnsInHanded_of_change (C := Tryz.checked) own started (by kernel_rfl) Tryz.func8
    (ChangeSpec.witness6 (enc := enc) (C := Tryz.checked) false ⟨#[], #[.slice none 0 0], []⟩ 8 (by kernel_rfl) (by kernel_rfl) (by kernel_rfl) (by kernel_rfl)) ?_
  intro W base args ds gs before hval0 hW hcnd _
  have hval : ∀ (j : Nat) t v, Tryz.f8.params[j]? = some t → args[j]? = some v → Value.okWide Tryz.prog W .any base t v := hval0
  have hW' := hW
  obtain ⟨p, q, hA0, hV, rfl, hfz, hnd⟩ := hW
  have hA : DataW.TrodAll enc Tryz.prog W 0 (fun _ => true) true Tryz.f8.params.toList args.toList ds p := hA0
  rw [Tryz.params8] at hA hval
  obtain ⟨v0, d0, rfl, rfl, h0⟩ := trodAll_one hA
  obtain ⟨p0, rfl⟩ : ∃ x, x = p := ⟨_, rfl⟩
  obtain ⟨a0, n0, c0, rfl⟩ := okWide_slice Tryz.underlying38 (hval 0 38 v0 rfl rfl)
  have hlt0 : ∀ x ∈ p0, x.block < W.heap.size := fun x hx => by simpa using hW'.lt x (by simp [hx])
  obtain ⟨fuel0, hf0⟩ := h0
  obtain ⟨lcode, hcode⟩ := open_argU (by simpa [Value.cells] using hf0) hlt0
  obtain ⟨rfl, rfl⟩ := trodVars_none hV
  refine (walk _ _ W hcode).mono fun e W' ⟨he, hu⟩ => ?_
  subst he
  exact ⟨_, rfl, post_law (f := Tryz.f8) TryzlaidOut (by kernel_rfl) rfl Tryz.underlying4 rfl hW' (fun ds' h => by subst h; exact ⟨rfl, rfl, rfl⟩) hu⟩

set_option maxHeartbeats 80000000 in
theorem closed : joinedFacts Tryz.checked.prog 8 Tryz.f8 Rows.fnBestSampleSpec Rows.fnBestSampleRow = true := by
  unfold joinedFacts
  repeat' (with_reducible refine (Bool.and_eq_true_iff.2 ⟨?_, ?_⟩))
  all_goals (as_aux_lemma => kernel_rfl)

theorem holds : Rows.FnBestSampleSaid :=
  OpenClaim.holds_of_wide 8 Tryz.f8 rfl rfl rfl rfl rfl rfl rfl ⟨rfl, rfl, rfl, rfl, rfl⟩ rfl rfl rfl rfl rfl (by as_aux_lemma => kernel_rfl) Tryz.func8 closed
    (of_decide_eq_true (by as_aux_lemma => kernel_rfl)) (by unfold Func.isWrapper; first | (rw [if_pos (by decide +kernel)]; kernel_rfl) | (rw [if_neg (by decide +kernel)]; exact ⟨rfl, rfl⟩))
    (fun os started H enc _ => lifted os started H enc)

end Go.Proofs.YtekbbnkkninolaaGreat.lawFnBestSample
