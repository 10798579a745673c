/- The best dictionary's stream is shortest, and the first such. Conditions: none. -/
import Derived.Test.YtekbbnkkninolaaGreatMFnBestDictLawA
namespace Go.Proofs.YtekbbnkkninolaaGreat.lawFnBestDict
set_option linter.unusedVariables false
set_option linter.unusedSimpArgs false
open Go.ChangeShapes Go.WideShapes Go.ChangeAt Go.RowKit Go.Joins
open Go.ChangeMaps (open_string shut_string)

set_option maxRecDepth 100000 in
set_option maxHeartbeats 2000000 in
theorem soSize_any (s : SetD) (dict d : ByteArray) (w : World) (hl : -9223372036854775808 ≤ s.lit ∧ s.lit ≤ 9223372036854775807) (hi : dict.size ≤ 1073741824) (hd : d.size ≤ 1073741824) :
    Calls Tryz.prog 36  #[setV s, .string dict, .string d] w (Same (.int .i64 (szW s dict d : Nat)) w) := by
  have cC := fun wx => compWI_any s dict d wx hl hi hd
  unfold optS at cC
  have HX : Hid ((bs ((compW s dict.data.toList d.data.toList).getD [])).size = szW s dict d) := bs_size _
  generalize bs ((compW s dict.data.toList d.data.toList).getD []) = B at *
  generalize szW s dict d = z at *
  simp only [setV] at *
  go_enter Tryz.func36, Tryz.ntmps36
  go_wp2_with ((go_at_call 28; (with_reducible refine (cC _).mono ?_); rintro e w1 ⟨rfl, U1⟩; have B1 := bcell U1; have Z1 := U1.size; (try simp at Z1); (try rw [Nat.add_one_le_iff] at Z1)))
  go_ret
  refine ⟨by first | rfl | (rw [HX.out]; done) | (rw [HX.out]; rfl), ?_⟩
  (repeat (first | with_reducible exact Up.refl _ | with_reducible assumption | with_reducible refine Up.set ?_ (by first | exact Nat.le_refl _ | (simp only []; omega) | (simp; omega)) _ | with_reducible refine Up.alloc ?_ _ | with_reducible refine Up.drew ?_ | refine Up.trans ?_ (by with_reducible assumption)))

def Rel (n : Nat) (w : World) (i : Value) (wr : World) : Prop := ∃ j : Nat, j ≤ n ∧ i = .int .i64 j ∧ Up w wr

set_option maxRecDepth 100000 in
set_option maxHeartbeats 8000000 in
theorem walk (vc : Value) (lc : List UInt8) (w : World) (hc : ArgU w vc lc) :
    Calls Tryz.prog 7  #[vc] w (Same (.bool true) w) := by
  have cD := fun w' hu => drawBestDict_any vc lc w' (hc.up (w' := w') hu)
  obtain ⟨ac, cc, rfl, hc1, hc2, -⟩ := hc
  unfold maxLen at hc2
  by_cases h1 : 1048576 < lc.length
  · go_enter Tryz.func7, Tryz.ntmps7
    go_wp2
    go_ret
    exact ⟨rfl, by (repeat (first | with_reducible exact Up.refl _ | with_reducible assumption | with_reducible refine Up.set ?_ (by first | exact Nat.le_refl _ | (simp only []; omega) | (simp; omega)) _ | with_reducible refine Up.alloc ?_ _ | with_reducible refine Up.drew ?_ | refine Up.trans ?_ (by with_reducible assumption)))⟩
  go_enter Tryz.func7, Tryz.ntmps7
  go_wp2_with (go_at_call 33; (with_reducible refine (cD _ (by (repeat (first | with_reducible exact Up.refl _ | with_reducible assumption | with_reducible refine Up.set ?_ (by first | exact Nat.le_refl _ | (simp only []; omega) | (simp; omega)) _ | with_reducible refine Up.alloc ?_ _ | with_reducible refine Up.drew ?_ | refine Up.trans ?_ (by with_reducible assumption))))).mono ?_); rintro e w1 ⟨s, u, ds, d, rfl, hs, hO, hL9, hLs, hd, U1⟩; simp only [setV]; have B1 := bcell U1; have Z1 := U1.size; (try simp at Z1); (try rw [Nat.add_one_le_iff] at Z1))
  have hA : ArgS w1 u ds := ArgS.of_own (show ownS w1 (w.heap.size + 1) u ds from hO) (fun t ht => by have := hLs t ht; unfold maxLen; omega)
  have hAt := fun (wq : World) (hu : Up w1 wq) => hA.up hu
  have cI := fun wx h => bestDictI_any s ds u d wx hs h (by omega) (fun t ht => by have := hLs t ht; omega) (by omega)
  have cS := fun wx h => bestDictS_any s ds u d wx h (by omega) (fun t ht => by have := hLs t ht; omega) (by omega)
  have HA := Lib.hid hA
  obtain ⟨a, ca, rfl, -, -, -⟩ := hA
  clear cD hO
  unfold bestV at cI cS
  cases hv : (allFitB s ds && fitsB s d.data.toList) with
  | false =>
    rw [hv] at cI cS
    simp only [Bool.false_eq_true, if_false, setV] at *
    clear hv
    go_wp2_with (first | ((go_at_call 34; (with_reducible refine (cI _ (hAt _ (by (repeat (first | with_reducible exact Up.refl _ | with_reducible assumption | with_reducible refine Up.set ?_ (by first | exact Nat.le_refl _ | (simp only []; omega) | (simp; omega)) _ | with_reducible refine Up.alloc ?_ _ | with_reducible refine Up.drew ?_ | refine Up.trans ?_ (by with_reducible assumption)))))).mono ?_); rintro e w2 ⟨rfl, U2⟩; have B2 := bcell U2; have Z2 := U2.size; (try simp at Z2); (try rw [Nat.add_one_le_iff] at Z2)); (try have V2a : w1.heap.size < w2.heap.size := (by omega)); (try have V2b : w1.heap.size + 1 < w2.heap.size := (by omega)); (try have V2c : w2.heap.size < w2.heap.size := (by omega)); (try have V2d : w3.heap.size < w2.heap.size := (by omega)); (try have V2e : w4.heap.size < w2.heap.size := (by omega)); skip) | (go_at_call 35; (with_reducible refine (cS _ (hAt _ (by (repeat (first | with_reducible exact Up.refl _ | with_reducible assumption | with_reducible refine Up.set ?_ (by first | exact Nat.le_refl _ | (simp only []; omega) | (simp; omega)) _ | with_reducible refine Up.alloc ?_ _ | with_reducible refine Up.drew ?_ | refine Up.trans ?_ (by with_reducible assumption)))))).mono ?_); rintro e w3 ⟨rfl, U3⟩; have B3 := bcell U3; have V3 : w1.heap.size < w3.heap.size := (by have := U3.size; omega); (try clear cI); skip))
    go_ret
    refine ⟨ret_bool (by simp; try rfl), ?_⟩
    (repeat (first | with_reducible exact Up.refl _ | with_reducible assumption | with_reducible refine Up.set ?_ (by first | exact Nat.le_refl _ | (simp only []; omega) | (simp; omega)) _ | with_reducible refine Up.alloc ?_ _ | with_reducible refine Up.drew ?_ | refine Up.trans ?_ (by with_reducible assumption)))
  | true =>
    obtain ⟨hv1, -⟩ := Bool.and_eq_true_iff.1 hv
    obtain ⟨hl1, hl8, -⟩ := allFit_iff.1 hv1
    rw [hv] at cI cS
    simp only [if_true] at cI cS
    obtain ⟨m, hm⟩ : ∃ m, bestI (fun i => totW s (ds.getD i ByteArray.empty) [d]) (ds.length - 1) = m := ⟨_, rfl⟩
    have hml : m < ds.length := by have := bestI_le (fun i => totW s (ds.getD i ByteArray.empty) [d]) (ds.length - 1); omega
    have HB : Hid (∀ i (hi : i < ds.length), szW s ds[m] d ≤ szW s ds[i] d ∧ (i < m → szW s ds[m] d < szW s ds[i] d)) := fun i hi => by
      have h := bestI_min (fun i => totW s (ds.getD i ByteArray.empty) [d]) (ds.length - 1) i (by omega)
      simp only [totW_one] at h
      rw [show bestI (fun i => szW s (ds.getD i ByteArray.empty) d) (ds.length - 1) = m by simpa only [totW_one] using hm, getD_lt hml, getD_lt hi] at h
      exact h
    rw [hm] at cI cS
    have cZ := fun (i : Nat) (hi : i < ds.length) wx => soSize_any s ds[i] d wx hs (by have := hLs _ (List.getElem_mem hi); omega) (by omega)
    have cZm := cZ m hml
    obtain ⟨b, off, rfl, hbl, hx, -, hnc, hcm⟩ := HA.out.at hml
    unfold maxLen at hcm
    simp only [setV] at *
    clear hv hv1 hm
    go_wp2_with (first | ((go_at_call 34; (with_reducible refine (cI _ (hAt _ (by (repeat (first | with_reducible exact Up.refl _ | with_reducible assumption | with_reducible refine Up.set ?_ (by first | exact Nat.le_refl _ | (simp only []; omega) | (simp; omega)) _ | with_reducible refine Up.alloc ?_ _ | with_reducible refine Up.drew ?_ | refine Up.trans ?_ (by with_reducible assumption)))))).mono ?_); rintro e w2 ⟨rfl, U2⟩; have B2 := bcell U2; have Z2 := U2.size; (try simp at Z2); (try rw [Nat.add_one_le_iff] at Z2)); (try have V2a : w1.heap.size < w2.heap.size := (by omega)); (try have V2b : w1.heap.size + 1 < w2.heap.size := (by omega)); (try have V2c : w2.heap.size < w2.heap.size := (by omega)); (try have V2d : w3.heap.size < w2.heap.size := (by omega)); (try have V2e : w4.heap.size < w2.heap.size := (by omega)); skip) | ((go_at_call 35; (with_reducible refine (cS _ (hAt _ (by (repeat (first | with_reducible exact Up.refl _ | with_reducible assumption | with_reducible refine Up.set ?_ (by first | exact Nat.le_refl _ | (simp only []; omega) | (simp; omega)) _ | with_reducible refine Up.alloc ?_ _ | with_reducible refine Up.drew ?_ | refine Up.trans ?_ (by with_reducible assumption)))))).mono ?_); rintro e w3 ⟨rfl, U3⟩; have B3 := bcell U3; have Z3 := U3.size; (try simp at Z3); (try rw [Nat.add_one_le_iff] at Z3)); (try have V3a : w1.heap.size < w3.heap.size := (by omega)); (try have V3b : w1.heap.size + 1 < w3.heap.size := (by omega)); (try have V3c : w2.heap.size < w3.heap.size := (by omega)); (try have V3d : w3.heap.size < w3.heap.size := (by omega)); (try have V3e : w4.heap.size < w3.heap.size := (by omega)); skip))
    have hU3 : Up (w1.alloc (.cells #[.int .i64 s.ord, .int .i64 s.lit, .int .i64 s.most] 26)) w3 := U2.trans U3
    have hU13 : Up w1 w3 := by clear hU3; (repeat (first | with_reducible exact Up.refl _ | with_reducible assumption | with_reducible refine Up.set ?_ (by first | exact Nat.le_refl _ | (simp only []; omega) | (simp; omega)) _ | with_reducible refine Up.alloc ?_ _ | with_reducible refine Up.drew ?_ | refine Up.trans ?_ (by with_reducible assumption)))
    have HU13 := Lib.hid hU13
    have HSB : Hid (SetAt w1.heap.size s.ord s.lit s.most w3) := box_up hU3 (MapKept.heap_alloc w1 _).1
    have HUW : Hid (Up w w3) := by clear hU3; (repeat (first | with_reducible exact Up.refl _ | with_reducible assumption | with_reducible refine Up.set ?_ (by first | exact Nat.le_refl _ | (simp only []; omega) | (simp; omega)) _ | with_reducible refine Up.alloc ?_ _ | with_reducible refine Up.drew ?_ | refine Up.trans ?_ (by with_reducible assumption)))
    clear cI cS B1 B2 B3 U1 U2 U3 hU3 hU13
    go_loopw [7] (fun i wr => Rel ds.length w3 i wr) (fun i _ => ds.length - (intOf i).toNat)
    case atStart => exact ⟨0, Nat.zero_le _, rfl, Up.refl _⟩
    case round =>
      obtain ⟨i, hi, rfl, hup⟩ := hrel
      have hup1 := HU13.out.trans hup
      by_cases hlt : i < ds.length
      · obtain ⟨b2, off2, he, hbl2, hx2, -, -, -⟩ := HA.out.at hlt
        simp at he
        obtain ⟨rfl, rfl⟩ := he
        have cZi := cZ i hlt
        obtain ⟨g1, g2⟩ := HB.out i hlt
        have c1 := (hup1.cell (p := ⟨b, off + m, none⟩) hbl).trans hx
        have c2 := (hup1.cell (p := ⟨b, off + i, none⟩) hbl2).trans hx2
        have hbr := Nat.lt_of_lt_of_le hbl hup1.size
        obtain ⟨hbs, t0, t1, t2⟩ := SetAt.cells (box_up hup HSB.out)
        generalize szW s ds[m] d = zm at *
        generalize szW s ds[i] d = zi at *
        generalize ds[m] = Dm at *
        generalize ds[i] = Di at *
        have k1 : decide ((zi : Int) < (zm : Int)) = false := by simp; omega
        clear cZ hx hx2 hLs hup1
        by_cases him : i < m
        · have g3 := g2 him
          have k2 : ((zi : Int) == (zm : Int)) = false := by simp; omega
          have k3 : decide ((i : Int) < (m : Int)) = true := by simp; omega
          clear g2
          go_wp2
          refine wp_region_up 37 (by kernel_rfl) (by kernel_rfl) ?_
          simp only [List.take, List.drop]
          repeat (refine wpUp_step (fun K hK => ?_); go_simp; (try simp only [↓IntWalk.iteOmega]); first
            | (refine hK _ _ ?_; clear hK K)
            | (apply stepU_c
               · intro wq hwq; (have hbq := bcell hwq; (repeat (first | refine fills_no (by rfl) ?_ | refine fills_yes (by rfl) (fun vq hvq => ?_))); simp only [List.filter_nil, fills]; unfold upAt; go_simp; (try go_bits); (try simp only [↓IntWalk.iteOmega]); (try (rw [dif_pos (by omega)]; go_simp; try go_bits)); first | exact upOut_value | (apply upOut_call; (go_at_call 36; first | with_reducible exact cZi _ | with_reducible exact cZm _)) | (apply upOut_eq; (go_at_call 36; first | with_reducible exact cZi _ | with_reducible exact cZm _)))
               go_simp; refine hK _ _ ?_; clear hK K))
          refine wpUp_nil (fun wq hwq => ?_)
          simp only [fills]
          go_wp2
          go_roundw
          case rel => exact ⟨i + 1, by omega, by go_num, by (repeat (first | with_reducible exact Up.refl _ | with_reducible assumption | with_reducible refine Up.set ?_ (by first | exact Nat.le_refl _ | (simp only []; omega) | (simp; omega)) _ | with_reducible refine Up.alloc ?_ _ | with_reducible refine Up.drew ?_ | refine Up.trans ?_ (by with_reducible assumption)))⟩
          case measure => simp [intOf]; omega
        · have k3 : decide ((i : Int) < (m : Int)) = false := by simp; omega
          clear g2
          go_wp2
          refine wp_region_up 37 (by kernel_rfl) (by kernel_rfl) ?_
          simp only [List.take, List.drop]
          repeat (refine wpUp_step (fun K hK => ?_); go_simp; (try simp only [↓IntWalk.iteOmega]); first
            | (refine hK _ _ ?_; clear hK K)
            | (apply stepU_c
               · intro wq hwq; (have hbq := bcell hwq; (repeat (first | refine fills_no (by rfl) ?_ | refine fills_yes (by rfl) (fun vq hvq => ?_))); simp only [List.filter_nil, fills]; unfold upAt; go_simp; (try go_bits); (try simp only [↓IntWalk.iteOmega]); (try (rw [dif_pos (by omega)]; go_simp; try go_bits)); first | exact upOut_value | (apply upOut_call; (go_at_call 36; first | with_reducible exact cZi _ | with_reducible exact cZm _)) | (apply upOut_eq; (go_at_call 36; first | with_reducible exact cZi _ | with_reducible exact cZm _)))
               go_simp; refine hK _ _ ?_; clear hK K))
          refine wpUp_nil (fun wq hwq => ?_)
          simp only [fills]
          go_wp2
          go_roundw
          case rel => exact ⟨i + 1, by omega, by go_num, by (repeat (first | with_reducible exact Up.refl _ | with_reducible assumption | with_reducible refine Up.set ?_ (by first | exact Nat.le_refl _ | (simp only []; omega) | (simp; omega)) _ | with_reducible refine Up.alloc ?_ _ | with_reducible refine Up.drew ?_ | refine Up.trans ?_ (by with_reducible assumption)))⟩
          case measure => simp [intOf]; omega
      · go_wp2
        go_ret
        refine ⟨ret_bool (by simp; try omega), ?_⟩
        exact HUW.out.trans hup

set_option maxRecDepth 100000 in
theorem lifted (os : Os) (started : os.Started) (H : Type) (enc : TypeId × Value → H) :
    ReturnsInHanded {} Tryz.checked os 7 .any (Rows.fnBestDictSpec.pre6 enc Tryz.prog Tryz.f7 Rows.fnBestDictRow.domain false) (Rows.fnBestDictSpec.post enc Tryz.prog Tryz.f7 false true false false) := by
  refine returnsInHanded_of_change (C := Tryz.checked) own started (by kernel_rfl) Tryz.func7
    (ChangeSpec.witness6 (enc := enc) (C := Tryz.checked) false ⟨#[], #[.slice none 0 0], []⟩ 8 (by kernel_rfl) (by kernel_rfl) (by kernel_rfl) (by kernel_rfl)) ?_
  intro W base args ds gs before hval0 hW hcnd _
  have hval : ∀ (j : Nat) t v, Tryz.f7.params[j]? = some t → args[j]? = some v → Value.okWide Tryz.prog W .any base t v := hval0
  have hW' := hW
  obtain ⟨p, q, hA0, hV, rfl, hfz, hnd⟩ := hW
  have hA : DataW.TrodAll enc Tryz.prog W 0 (fun _ => true) true Tryz.f7.params.toList args.toList ds p := hA0
  rw [Tryz.params7] at hA hval
  obtain ⟨v0, d0, rfl, rfl, h0⟩ := trodAll_one hA
  obtain ⟨p0, rfl⟩ : ∃ x, x = p := ⟨_, rfl⟩
  obtain ⟨a0, n0, c0, rfl⟩ := okWide_slice Tryz.underlying38 (hval 0 38 v0 rfl rfl)
  have hlt0 : ∀ x ∈ p0, x.block < W.heap.size := fun x hx => by simpa using hW'.lt x (by simp [hx])
  obtain ⟨fuel0, hf0⟩ := h0
  obtain ⟨lcode, hcode⟩ := open_argU (by simpa [Value.cells] using hf0) hlt0
  obtain ⟨rfl, rfl⟩ := trodVars_none hV
  refine (walk _ _ W hcode).mono fun e W' ⟨he, hu⟩ => ?_
  subst he
  exact ⟨_, rfl, post_law (f := Tryz.f7) TryzlaidOut (by kernel_rfl) rfl Tryz.underlying4 rfl hW' (fun ds' h => by subst h; exact ⟨rfl, rfl, rfl⟩) hu⟩

set_option maxHeartbeats 80000000 in
theorem closed : joinedFacts Tryz.checked.prog 7 Tryz.f7 Rows.fnBestDictSpec Rows.fnBestDictRow = true := by
  unfold joinedFacts
  repeat' (with_reducible refine (Bool.and_eq_true_iff.2 ⟨?_, ?_⟩))
  all_goals (as_aux_lemma => kernel_rfl)

theorem holds : Rows.FnBestDictSaid :=
  OpenClaim.holds_of_wide 7 Tryz.f7 rfl rfl rfl rfl rfl rfl rfl ⟨rfl, rfl, rfl, rfl, rfl⟩ rfl rfl rfl rfl rfl (by as_aux_lemma => kernel_rfl) Tryz.func7 closed
    (of_decide_eq_true (by as_aux_lemma => kernel_rfl)) (by unfold Func.isWrapper; first | (rw [if_pos (by decide +kernel)]; kernel_rfl) | (rw [if_neg (by decide +kernel)]; exact ⟨rfl, rfl⟩))
    (fun os started H enc _ => lifted os started H enc)

end Go.Proofs.YtekbbnkkninolaaGreat.lawFnBestDict
