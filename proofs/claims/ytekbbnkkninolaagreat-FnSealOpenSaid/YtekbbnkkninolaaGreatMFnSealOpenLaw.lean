/- A sealed stream is opened at the first dictionary of its checksum, and with a byte more or less it is not. Conditions: none. -/
import Derived.Test.YtekbbnkkninolaaGreatMFnSealOpenLawA
namespace Go.Proofs.YtekbbnkkninolaaGreat.lawFnSealOpen
set_option linter.unusedVariables false
set_option linter.unusedSimpArgs false
open Go.ChangeShapes Go.WideShapes Go.ChangeAt Go.RowKit Go.Joins
open Go.ChangeMaps (open_string shut_string)

theorem one_size (x : Int) : (strOfNums [x]).size = 1 := strOfNums_size [x]
theorem two_len (n : Int) : (two n).data.toList.length = 2 := by rw [ba_len, two_size]
theorem seal_num {n : Int} (h : 0 ≤ n ∧ n ≤ 65535) (L : List UInt8) : numAt (bs ((two n).data.toList ++ L)) 0 = n := by
  have e := two_num (bs ((two n).data.toList ++ L)) 0 (by rw [bs_size, List.length_append, two_len]; omega)
  rw [bs_ext, List.drop_zero, Nat.zero_add, Nat.sub_zero, List.take_append_of_le_length (by rw [two_len]; omega), List.take_of_length_le (by rw [two_len]; omega), bs_self] at e
  exact two_inj (numAt_bd _ 0) h e
theorem seal_rest (n : Int) (L : List UInt8) : ((bs ((two n).data.toList ++ L)).extract 2 (bs ((two n).data.toList ++ L)).size).data.toList = L := by
  rw [bs_ext, bs_data, bs_size, List.drop_append_of_le_length (by rw [two_len]; omega), List.drop_eq_nil_of_le (by rw [two_len]; omega), List.nil_append, List.length_append, two_len, Nat.add_sub_cancel_left, List.take_length]
theorem open_seal {s : SetD} {ds : List ByteArray} {f : Nat} {n : Int} (L : List UInt8) (hk : allFitB s ds = true) (hf : f < ds.length) (hs : sumOf ds[f] = n) (hn : ∀ q (h : q < ds.length), q < f → sumOf ds[q] ≠ n) (h0 : 0 ≤ n ∧ n ≤ 65535) :
    openO s ds (bs ((two n).data.toList ++ L)) = tryO (decW s (ds[f]).data.toList L) L.length f := by
  have e := seal_num h0 L
  rw [openO_first hk (by rw [bs_size, List.length_append, two_len]; omega) hf (by rw [e]; exact hs) (fun q h1 h2 => by rw [e]; exact hn q h1 h2), seal_rest, bs_size, List.length_append, two_len, Nat.add_sub_cancel_left]
theorem try_not {R : DecR} {n i : Nat} (h : ¬ (R.fin = 0 ∧ R.used = n)) : tryO R n i = none := by unfold tryO; rw [if_neg h]

/-- What the law's streams open to. -/
theorem seal_open {s : SetD} {ds : List ByteArray} {f : Nat} {d : List UInt8} (hk : allFitB s ds = true) (hf : f < ds.length) (hd : fitsB s d = true) (h2 : d.length ≤ 2000) (hn : ∀ q (h : q < ds.length), q < f → sumOf ds[q] ≠ sumOf ds[f]) (C : List UInt8) (hC : C = compL (learnK (startK s) (ds[f]).data.toList) d) :
    openO s ds (two (sumOf ds[f]) ++ bs C) = some (d, f) ∧ (∀ X : ByteArray, X.size = 1 → openO s ds ((two (sumOf ds[f]) ++ bs C) ++ X) = none) ∧ openO s ds ((two (sumOf ds[f]) ++ bs C).extract 0 ((two (sumOf ds[f]) ++ bs C).size - 1)) = none := by
  have hfd := (allFit_iff.1 hk).2.2 _ (List.getElem_mem hf)
  obtain ⟨f1, f2, f3⟩ := fitsB_lits hfd
  obtain ⟨f4, f5, f6⟩ := fitsB_lits hd
  have hok : (learnK (startK s) (ds[f]).data.toList).Ok := learnK_ok (startK_ok f1) f3
  have h1 : 1 ≤ C.length := by rw [hC]; exact compL_pos hok f6 h2
  have h0 : 0 ≤ sumOf ds[f] ∧ sumOf ds[f] ≤ 65535 := by have := sumOf_bd ds[f]; omega
  obtain ⟨-, hdc⟩ := decW_comp hfd hd
  rw [← hC] at hdc
  have hdk : decW s (ds[f]).data.toList = decK (learnK (startK s) (ds[f]).data.toList) := by
    funext x; unfold decW; rw [if_pos hfd]
  have e : two (sumOf ds[f]) ++ bs C = bs ((two (sumOf ds[f])).data.toList ++ C) := by rw [← bs_app, bs_self]
  have hfin : (decK (learnK (startK s) (ds[f]).data.toList) C).fin = 0 := by rw [← hdk, hdc]
  have huse : (decK (learnK (startK s) (ds[f]).data.toList) C).used = C.length := by rw [← hdk, hdc]
  refine ⟨?_, fun X hX => ?_, ?_⟩
  · rw [e, open_seal C hk hf rfl hn h0, hdc]
    unfold tryO
    rw [if_pos ⟨rfl, rfl⟩]
  · rw [e, ← bs_self X, bs_app, List.append_assoc, open_seal _ hk hf rfl hn h0, hdk]
    exact try_not (dec_more hfin huse (fun h => by have := ba_len X; rw [h] at this; simp at this; omega))
  · rw [e, bs_ext, List.drop_zero, bs_size, List.length_append, two_len, Nat.sub_zero, show 2 + C.length - 1 = (two (sumOf ds[f])).data.toList.length + (C.length - 1) by rw [two_len]; omega, List.take_length_add_append, open_seal _ hk hf rfl hn h0, hdk]
    have e2 : C = C.take (C.length - 1) ++ C.drop (C.length - 1) := (List.take_append_drop _ _).symm
    refine try_not (dec_less (t := C.drop (C.length - 1)) (by rw [← e2]; exact hfin) (by rw [← e2]; exact huse) (fun h => by have := congrArg List.length h; simp at this; omega))

def Rel (ds : List ByteArray) (m : Nat) (n : Int) (w : World) (i : Value) (wr : World) : Prop := ∃ q : Nat, q ≤ m ∧ i = .int .i64 q ∧ (∀ j (h : j < ds.length), j < q → sumOf ds[j] ≠ n) ∧ Up w wr

set_option maxRecDepth 100000 in
set_option maxHeartbeats 16000000 in
theorem walk (vc : Value) (lc : List UInt8) (vm : Value) (lm : List UInt8) (w : World) (hc : ArgU w vc lc) (hm : ArgU w vm lm) :
    Calls Tryz.prog 11  #[vc, vm] w (Same (.bool true) w) := by
  have cD := fun w' hu => drawBestDict_any vc lc w' (hc.up (w' := w') hu)
  obtain ⟨ac, cc, rfl, hc1, hc2, -⟩ := hc
  obtain ⟨am, cm, rfl, hm1, hm2, -⟩ := hm
  unfold maxLen at hc2 hm2
  by_cases h1 : 1048576 < lc.length
  · go_enter Tryz.func11, Tryz.ntmps11
    go_wp2
    go_ret
    exact ⟨rfl, by (repeat (first | with_reducible exact Up.refl _ | with_reducible assumption | with_reducible refine Up.set ?_ (by first | exact Nat.le_refl _ | (simp only []; omega) | (simp; omega)) _ | with_reducible refine Up.alloc ?_ _ | with_reducible refine Up.drew ?_ | refine Up.trans ?_ (by with_reducible assumption)))⟩
  by_cases h2 : 1048576 < lm.length
  · go_enter Tryz.func11, Tryz.ntmps11
    go_wp2
    go_ret
    exact ⟨rfl, by (repeat (first | with_reducible exact Up.refl _ | with_reducible assumption | with_reducible refine Up.set ?_ (by first | exact Nat.le_refl _ | (simp only []; omega) | (simp; omega)) _ | with_reducible refine Up.alloc ?_ _ | with_reducible refine Up.drew ?_ | refine Up.trans ?_ (by with_reducible assumption)))⟩
  have hcv := conv_new1
  go_enter Tryz.func11, Tryz.ntmps11
  go_wp2_with (go_at_call 33; (with_reducible refine (cD _ (by (repeat (first | with_reducible exact Up.refl _ | with_reducible assumption | with_reducible refine Up.set ?_ (by first | exact Nat.le_refl _ | (simp only []; omega) | (simp; omega)) _ | with_reducible refine Up.alloc ?_ _ | with_reducible refine Up.drew ?_ | refine Up.trans ?_ (by with_reducible assumption))))).mono ?_); rintro e w1 ⟨s, u, ds, d, rfl, hs, hO, hL9, hLs, hd, U1⟩; simp only [setV]; have B1 := bcell U1; have Z1 := U1.size; (try simp at Z1); (try rw [Nat.add_one_le_iff] at Z1))
  have hA : ArgS w1 u ds := ArgS.of_own (show ownS w1 (w.heap.size + 1) u ds from hO) (fun t ht => by have := hLs t ht; unfold maxLen; omega)
  have hAt := fun (wq : World) (hu : Up w1 wq) => hA.up hu
  have cI := fun wx h => bestDictI_any s ds u d wx hs h (by omega) (fun t ht => by have := hLs t ht; omega) (by omega)
  have cS := fun wx h => bestDictS_any s ds u d wx h (by omega) (fun t ht => by have := hLs t ht; omega) (by omega)
  have cO := fun st wx h => openI_any s ds u st wx hs h (by omega) (fun t ht => by have := hLs t ht; omega)
  have HA := Lib.hid hA
  obtain ⟨a, ca, rfl, -, -, -⟩ := hA
  clear cD hO
  unfold bestV at cI cS
  cases hv : (allFitB s ds && fitsB s d.data.toList) with
  | false =>
    rw [hv] at cI cS
    simp only [Bool.false_eq_true, if_false, setV] at *
    clear hv cO
    go_wp2_with (first | ((go_at_call 34; (with_reducible refine (cI _ (hAt _ (by (repeat (first | with_reducible exact Up.refl _ | with_reducible assumption | with_reducible refine Up.set ?_ (by first | exact Nat.le_refl _ | (simp only []; omega) | (simp; omega)) _ | with_reducible refine Up.alloc ?_ _ | with_reducible refine Up.drew ?_ | refine Up.trans ?_ (by with_reducible assumption)))))).mono ?_); rintro e w2 ⟨rfl, U2⟩; have B2 := bcell U2; have Z2 := U2.size; (try simp at Z2); (try rw [Nat.add_one_le_iff] at Z2)); (try have V2a : w1.heap.size < w2.heap.size := (by omega)); (try have V2b : w1.heap.size + 1 < w2.heap.size := (by omega)); (try have V2c : w2.heap.size < w2.heap.size := (by omega)); (try have V2d : w3.heap.size < w2.heap.size := (by omega)); (try have V2e : w4.heap.size < w2.heap.size := (by omega)); skip) | (go_at_call 35; (with_reducible refine (cS _ (hAt _ (by (repeat (first | with_reducible exact Up.refl _ | with_reducible assumption | with_reducible refine Up.set ?_ (by first | exact Nat.le_refl _ | (simp only []; omega) | (simp; omega)) _ | with_reducible refine Up.alloc ?_ _ | with_reducible refine Up.drew ?_ | refine Up.trans ?_ (by with_reducible assumption)))))).mono ?_); rintro e w3 ⟨rfl, U3⟩; have B3 := bcell U3; have V3 : w1.heap.size < w3.heap.size := (by have := U3.size; omega); (try clear cI); skip))
    go_ret
    refine ⟨ret_bool (by simp; try rfl), ?_⟩
    (repeat (first | with_reducible exact Up.refl _ | with_reducible assumption | with_reducible refine Up.set ?_ (by first | exact Nat.le_refl _ | (simp only []; omega) | (simp; omega)) _ | with_reducible refine Up.alloc ?_ _ | with_reducible refine Up.drew ?_ | refine Up.trans ?_ (by with_reducible assumption)))
  | true =>
    obtain ⟨hv1, hv2⟩ := Bool.and_eq_true_iff.1 hv
    obtain ⟨hl1, hl8, hfs⟩ := allFit_iff.1 hv1
    rw [hv] at cI cS
    simp only [if_true] at cI cS
    obtain ⟨m, hm⟩ : ∃ m, bestI (fun i => totW s (ds.getD i ByteArray.empty) [d]) (ds.length - 1) = m := ⟨_, rfl⟩
    have hml : m < ds.length := by have := bestI_le (fun i => totW s (ds.getD i ByteArray.empty) [d]) (ds.length - 1); omega
    rw [hm] at cI cS
    have hcw := compW_some (hfs _ (List.getElem_mem hml)) hv2
    have hcl := compW_len hcw
    have cA := fun wx => sealI_any s ds[m] d wx hs (by have := hLs _ (List.getElem_mem hml); omega) (by omega)
    have cB := fun wx => sealS_any s ds[m] d wx (by have := hLs _ (List.getElem_mem hml); omega) (by omega)
    have cM := fun (i : Nat) (hi : i < ds.length) wx => sumI_any ds[i] wx (by have := hLs _ (List.getElem_mem hi); omega)
    have cMm := cM m hml
    unfold sealO at cA cB
    rw [hcw] at cA cB
    simp only at cA cB
    have HSO := fun (f : Nat) (hf : f < ds.length) (h : ∀ q (h : q < ds.length), q < f → sumOf ds[q] ≠ sumOf ds[f]) => seal_open hv1 hf hv2 (fitsB_lits hv2).2.1 h
    have hTz : (two (sumOf ds[m]) ++ bs (compL (learnK (startK s) (ds[m]).data.toList) d.data.toList)).size ≤ 10002 := by
      rw [ByteArray.size_append, two_size, bs_size]; omega
    have hTp : 2 ≤ (two (sumOf ds[m]) ++ bs (compL (learnK (startK s) (ds[m]).data.toList) d.data.toList)).size := by
      rw [ByteArray.size_append, two_size]; omega
    have HS1 : Hid (∀ (f : Nat) (hf : f < ds.length), (∀ q (h : q < ds.length), q < f → sumOf ds[q] ≠ sumOf ds[m]) → sumOf ds[f] = sumOf ds[m] → ds[f] = ds[m] → openO s ds (two (sumOf ds[m]) ++ bs (compL (learnK (startK s) (ds[m]).data.toList) d.data.toList)) = some (d.data.toList, f) ∧ (∀ X : ByteArray, X.size = 1 → openO s ds ((two (sumOf ds[m]) ++ bs (compL (learnK (startK s) (ds[m]).data.toList) d.data.toList)) ++ X) = none) ∧ openO s ds ((two (sumOf ds[m]) ++ bs (compL (learnK (startK s) (ds[m]).data.toList) d.data.toList)).extract 0 ((two (sumOf ds[m]) ++ bs (compL (learnK (startK s) (ds[m]).data.toList) d.data.toList)).size - 1)) = none) := fun f hf hn e1 e2 => by
      have h := HSO f hf (by rw [e1]; exact hn) _ rfl
      rw [e2] at h
      exact h
    have HS2 : Hid (∀ (f : Nat) (hf : f < ds.length), (∀ q (h : q < ds.length), q < f → sumOf ds[q] ≠ sumOf ds[m]) → sumOf ds[f] = sumOf ds[m] → openO s ds (two (sumOf ds[m]) ++ bs (compL (learnK (startK s) (ds[m]).data.toList) d.data.toList)) = none ∨ ∃ x, openO s ds (two (sumOf ds[m]) ++ bs (compL (learnK (startK s) (ds[m]).data.toList) d.data.toList)) = some (x, f)) := fun f hf hn e1 => by
      have e : two (sumOf ds[m]) ++ bs (compL (learnK (startK s) (ds[m]).data.toList) d.data.toList) = bs ((two (sumOf ds[m])).data.toList ++ compL (learnK (startK s) (ds[m]).data.toList) d.data.toList) := by rw [← bs_app, bs_self]
      rw [e, open_seal _ hv1 hf e1 hn (by have := sumOf_bd ds[m]; omega)]
      unfold tryO
      split
      · exact .inr ⟨_, rfl⟩
      · exact .inl rfl
    obtain ⟨b, off, rfl, hbl, hx, -, hnc, hcm⟩ := HA.out.at hml
    unfold maxLen at hcm
    simp only [setV] at *
    clear hv hv1 hv2 hm hfs hcw hcl HSO
    generalize two (sumOf ds[m]) ++ bs (compL (learnK (startK s) (ds[m]).data.toList) d.data.toList) = T at *
    go_wp2_with (first | ((go_at_call 34; (with_reducible refine (cI _ (hAt _ (by (repeat (first | with_reducible exact Up.refl _ | with_reducible assumption | with_reducible refine Up.set ?_ (by first | exact Nat.le_refl _ | (simp only []; omega) | (simp; omega)) _ | with_reducible refine Up.alloc ?_ _ | with_reducible refine Up.drew ?_ | refine Up.trans ?_ (by with_reducible assumption)))))).mono ?_); rintro e w2 ⟨rfl, U2⟩; have B2 := bcell U2; have Z2 := U2.size; (try simp at Z2); (try rw [Nat.add_one_le_iff] at Z2)); (try have V2a : w1.heap.size < w2.heap.size := (by omega)); (try have V2b : w1.heap.size + 1 < w2.heap.size := (by omega)); (try have V2c : w2.heap.size < w2.heap.size := (by omega)); (try have V2d : w3.heap.size < w2.heap.size := (by omega)); (try have V2e : w4.heap.size < w2.heap.size := (by omega)); skip) | ((go_at_call 35; (with_reducible refine (cS _ (hAt _ (by (repeat (first | with_reducible exact Up.refl _ | with_reducible assumption | with_reducible refine Up.set ?_ (by first | exact Nat.le_refl _ | (simp only []; omega) | (simp; omega)) _ | with_reducible refine Up.alloc ?_ _ | with_reducible refine Up.drew ?_ | refine Up.trans ?_ (by with_reducible assumption)))))).mono ?_); rintro e w3 ⟨rfl, U3⟩; have B3 := bcell U3; have Z3 := U3.size; (try simp at Z3); (try rw [Nat.add_one_le_iff] at Z3)); (try have V3a : w1.heap.size < w3.heap.size := (by omega)); (try have V3b : w1.heap.size + 1 < w3.heap.size := (by omega)); (try have V3c : w2.heap.size < w3.heap.size := (by omega)); (try have V3d : w3.heap.size < w3.heap.size := (by omega)); (try have V3e : w4.heap.size < w3.heap.size := (by omega)); skip))
    have hU3 : Up (w1.alloc (.cells #[.int .i64 s.ord, .int .i64 s.lit, .int .i64 s.most] 26)) w3 := U2.trans U3
    have hU13 : Up w1 w3 := by clear hU3; (repeat (first | with_reducible exact Up.refl _ | with_reducible assumption | with_reducible refine Up.set ?_ (by first | exact Nat.le_refl _ | (simp only []; omega) | (simp; omega)) _ | with_reducible refine Up.alloc ?_ _ | with_reducible refine Up.drew ?_ | refine Up.trans ?_ (by with_reducible assumption)))
    have HU13 := Lib.hid hU13
    have HSB : Hid (SetAt w1.heap.size s.ord s.lit s.most w3) := box_up hU3 (MapKept.heap_alloc w1 _).1
    have HUW : Hid (Up w w3) := by clear hU3; (repeat (first | with_reducible exact Up.refl _ | with_reducible assumption | with_reducible refine Up.set ?_ (by first | exact Nat.le_refl _ | (simp only []; omega) | (simp; omega)) _ | with_reducible refine Up.alloc ?_ _ | with_reducible refine Up.drew ?_ | refine Up.trans ?_ (by with_reducible assumption)))
    have HX := Lib.hid hx
    have HBL := Lib.hid hbl
    have c1 := (hU13.cell (p := ⟨b, off + m, none⟩) hbl).trans hx
    have hbr := Nat.lt_of_lt_of_le hbl hU13.size
    obtain ⟨hbs, t0, t1, t2⟩ := SetAt.cells HSB.out
    clear cI cS B1 B2 B3 U1 U2 U3 hU3 hU13 hx hbl
    refine wp_region_up 11 (by kernel_rfl) (by kernel_rfl) ?_
    simp only [List.take, List.drop]
    repeat (refine wpUp_step (fun K hK => ?_); go_simp; (try simp only [↓IntWalk.iteOmega]); first
      | (refine hK _ _ ?_; clear hK K)
      | (apply stepU_c
         · intro wq hwq; (have hbq := bcell hwq; (repeat (first | refine fills_no (by rfl) ?_ | refine fills_yes (by rfl) (fun vq hvq => ?_))); simp only [List.filter_nil, fills]; unfold upAt; go_simp; (try go_bits); (try simp only [↓IntWalk.iteOmega]); (try (rw [dif_pos (by omega)]; go_simp; try go_bits)); first | exact upOut_value | (apply upOut_call; (go_at_call 49; exact cA _)) | (apply upOut_eq; (go_at_call 49; exact cA _)))
         go_simp; refine hK _ _ ?_; clear hK K))
    refine wpUp_nil (fun wq hwq => ?_)
    simp only [fills]
    obtain ⟨W4, rfl⟩ : ∃ W, W = wq := ⟨_, rfl⟩
    have HU4 := Lib.hid hwq
    have c4 := (hwq.cell (p := ⟨b, off + m, none⟩) hbr).trans c1
    have hb4 := Nat.lt_of_lt_of_le hbr hwq.size
    obtain ⟨hbs4, t40, t41, t42⟩ := SetAt.cells (box_up hwq HSB.out)
    clear hwq c1 hbr hbs t0 t1 t2
    go_wp2
    refine wp_region_up 11 (by kernel_rfl) (by kernel_rfl) ?_
    simp only [List.take, List.drop]
    repeat (refine wpUp_step (fun K hK => ?_); go_simp; (try simp only [↓IntWalk.iteOmega]); first
      | (refine hK _ _ ?_; clear hK K)
      | (apply stepU_c
         · intro wq hwq; (have hbq := bcell hwq; (repeat (first | refine fills_no (by rfl) ?_ | refine fills_yes (by rfl) (fun vq hvq => ?_))); simp only [List.filter_nil, fills]; unfold upAt; go_simp; (try go_bits); (try simp only [↓IntWalk.iteOmega]); (try (rw [dif_pos (by omega)]; go_simp; try go_bits)); first | exact upOut_value | (apply upOut_call; (go_at_call 50; exact cB _)) | (apply upOut_eq; (go_at_call 50; exact cB _)))
         go_simp; refine hK _ _ ?_; clear hK K))
    refine wpUp_nil (fun wq hwq => ?_)
    simp only [fills]
    obtain ⟨W5, rfl⟩ : ∃ W, W = wq := ⟨_, rfl⟩
    have HU5 : Hid (Up w3 W5) := HU4.out.trans hwq
    clear hwq c4 hb4 hbs4 t40 t41 t42 cA cB
    go_wp2
    go_loopw [13] (fun i wr => Rel ds m (sumOf ds[m]) W5 i wr) (fun i _ => m - (intOf i).toNat)
    case atStart => exact ⟨0, Nat.zero_le _, rfl, fun j h hj => absurd hj (Nat.not_lt_zero _), Up.refl _⟩
    case round =>
      obtain ⟨q, hq, rfl, hall, hup⟩ := hrel
      have HAL := Lib.hid hall
      have hup3 := HU5.out.trans hup
      have hup1 := HU13.out.trans hup3
      have HUP1 := Lib.hid hup1
      have HUP3 := Lib.hid hup3
      have hql : q < ds.length := by omega
      obtain ⟨b2, off2, he, hbl2, hx2, -, -, -⟩ := HA.out.at hql
      simp at he
      obtain ⟨rfl, rfl⟩ := he
      have cMq := cM q hql
      have HX2 := Lib.hid hx2
      have c1 := (hup1.cell (p := ⟨b, off + m, none⟩) HBL.out).trans HX.out
      have c2 := (hup1.cell (p := ⟨b, off + q, none⟩) hbl2).trans hx2
      have hbr := Nat.lt_of_lt_of_le HBL.out hup1.size
      clear hx2 hall hbl2
      by_cases hsq : sumOf ds[q] = sumOf ds[m]
      · have hX3 : Hid (SetAt w1.heap.size s.ord s.lit s.most wr) := box_up HUP3.out HSB.out
        obtain ⟨hbs, t0, t1, t2⟩ := SetAt.cells hX3.out
        have cO1 := fun wx h => cO T wx h (by omega)
        have cO3 := fun wx h => cO (T.extract 0 (T.size - 1)) wx h (by have := ext_le T 0 (T.size - 1); omega)
        have cO2 := fun (X : ByteArray) (hX : X.size = 1) wx h => cO (T ++ X) wx h (by rw [ByteArray.size_append]; omega)
        by_cases heq : ds[q] = ds[m]
        · obtain ⟨o1, o2, o3⟩ := HS1.out q hql (fun j h hj => HAL.out j h hj) hsq heq
          rw [o1] at cO1
          rw [o3] at cO3
          have cO2' : ∀ (X : ByteArray), X.size = 1 → ∀ wx (h : ArgS wx (.slice (some ⟨b, off, none⟩) ds.length ca) ds), Calls Tryz.prog 41  #[.agg #[.int .i64 s.ord, .int .i64 s.lit, .int .i64 s.most], .slice (some ⟨b, off, none⟩) ds.length ca, .string (T ++ X)] wx (Same (openV none) wx) := fun X hX wx h => by rw [← o2 X hX]; exact cO2 X hX wx h
          simp only [openV, bs_self] at cO1 cO2' cO3
          rw [heq] at c2 cMq HX2
          clear cO cO2 o1 o2 o3 HS1 HS2 hsq heq HAL cM hLs
          generalize sumOf ds[q] = sq at *
          generalize sumOf ds[m] = sm at *
          generalize ds[q] = Dq at *
          generalize ds[m] = Dm at *
          go_wp2
          refine wp_region_up 11 (by kernel_rfl) (by kernel_rfl) ?_
          simp only [List.take, List.drop]
          repeat (refine wpUp_step (fun K hK => ?_); go_simp; (try simp only [↓IntWalk.iteOmega]); first
            | (refine hK _ _ ?_; clear hK K)
            | (apply stepU_c
               · intro wq hwq; (have hbq := bcell hwq; (repeat (first | refine fills_no (by rfl) ?_ | refine fills_yes (by rfl) (fun vq hvq => ?_))); simp only [List.filter_nil, fills]; unfold upAt; go_simp; (try go_bits); (try simp only [↓IntWalk.iteOmega]); (try (rw [dif_pos (by omega)]; go_simp; try go_bits)); first | exact upOut_value | (apply upOut_call; (go_at_call 43; first | with_reducible exact cMq _ | with_reducible exact cMm _)) | (apply upOut_eq; (go_at_call 43; first | with_reducible exact cMq _ | with_reducible exact cMm _)))
               go_simp; refine hK _ _ ?_; clear hK K))
          refine wpUp_nil (fun wq hwq => ?_)
          simp only [fills]
          have HCL : Hid (∀ W, Up w1 W → W.cell? ⟨b, off + m, none⟩ = some (.string Dm) ∧ W.cell? ⟨b, off + q, none⟩ = some (.string Dm) ∧ b < W.heap.size) := fun W hu => ⟨(hu.cell (p := ⟨b, off + m, none⟩) HBL.out).trans HX.out, (hu.cell (p := ⟨b, off + q, none⟩) HBL.out).trans HX2.out, Nat.lt_of_lt_of_le HBL.out hu.size⟩
          have HU6 := Lib.hid hwq
          obtain ⟨W6, rfl⟩ : ∃ W, W = wq := ⟨_, rfl⟩
          clear c1 c2 hbr hbs t0 t1 t2 hwq hup hup1 hup3 cMq cMm
          obtain ⟨c1, c2, hbr⟩ := HCL.out _ (HUP1.out.trans HU6.out)
          obtain ⟨hbs, t0, t1, t2⟩ := SetAt.cells (box_up HU6.out hX3.out)
          go_wp2_with fail
          (with_reducible refine (cO1 _ (hAt _ (HUP1.out.trans HU6.out))).mono ?_); rintro e w7 ⟨rfl, U7⟩
          have HU7 := Lib.hid (HU6.out.trans U7)
          clear c1 c2 hbr hbs t0 t1 t2 U7 cO1
          obtain ⟨c1, c2, hbr⟩ := HCL.out _ (HUP1.out.trans HU7.out)
          obtain ⟨hbs, t0, t1, t2⟩ := SetAt.cells (box_up HU7.out hX3.out)
          go_wp2
          refine wp_region_up 9 (by kernel_rfl) (by kernel_rfl) ?_
          simp only [List.take, List.drop]
          repeat (refine wpUp_step (fun K hK => ?_); go_simp; (try simp only [↓IntWalk.iteOmega]); first
            | (refine hK _ _ ?_; clear hK K)
            | (apply stepU_c
               · intro wq hwq; (have hbq := bcell hwq; (repeat (first | refine fills_no (by rfl) ?_ | refine fills_yes (by rfl) (fun vq hvq => ?_))); simp only [List.filter_nil, fills]; unfold upAt; go_simp; (try go_bits); (try simp only [↓IntWalk.iteOmega]); (try (rw [dif_pos (by omega)]; go_simp; try go_bits)); first | exact upOut_value)
               go_simp; refine hK _ _ ?_; clear hK K))
          refine wpUp_nil (fun wq hwq => ?_)
          simp only [fills]
          have HU8 := Lib.hid (HU7.out.trans hwq)
          obtain ⟨W8, rfl⟩ : ∃ W, W = wq := ⟨_, rfl⟩
          clear c1 c2 hbr hbs t0 t1 t2 hwq
          obtain ⟨hbs, t0, t1, t2⟩ := SetAt.cells (box_up HU8.out hX3.out)
          have hone := one_size
          go_wp2_with fail
          (with_reducible refine (cO2' _ (one_size _) _ (hAt _ ((HUP1.out.trans HU8.out).alloc _))).mono ?_); rintro e w9 ⟨rfl, U9⟩
          have HU9 := Lib.hid ((HU8.out.alloc _).trans U9)
          clear hbs t0 t1 t2 U9 cO2'
          obtain ⟨hbs, t0, t1, t2⟩ := SetAt.cells (box_up HU9.out hX3.out)
          go_wp2
          refine wp_region_up 14 (by kernel_rfl) (by kernel_rfl) ?_
          simp only [List.take, List.drop]
          repeat (refine wpUp_step (fun K hK => ?_); go_simp; (try simp only [↓IntWalk.iteOmega]); first
            | (refine hK _ _ ?_; clear hK K)
            | (apply stepU_c
               · intro wq hwq; (have hbq := bcell hwq; (repeat (first | refine fills_no (by rfl) ?_ | refine fills_yes (by rfl) (fun vq hvq => ?_))); simp only [List.filter_nil, fills]; unfold upAt; go_simp; (try go_bits); (try simp only [↓IntWalk.iteOmega]); (try (rw [dif_pos (by omega)]; go_simp; try go_bits)); first | exact upOut_value | (apply upOut_call; (go_at_call 41; exact cO3 _ (hAt _ ((HUP1.out.trans HU9.out).trans hwq)))) | (apply upOut_eq; (go_at_call 41; exact cO3 _ (hAt _ ((HUP1.out.trans HU9.out).trans hwq)))))
               go_simp; refine hK _ _ ?_; clear hK K))
          refine wpUp_nil (fun wq hwq => ?_)
          simp only [fills]
          go_wp2
          go_ret
          refine ⟨ret_bool (by simp; try omega), ?_⟩
          exact ((HUW.out.trans HUP3.out).trans HU9.out).trans hwq
        · have HNE := Lib.hid heq
          have HO := HS2.out q hql (fun j h hj => HAL.out j h hj) hsq
          obtain ⟨o, ho⟩ : ∃ o, openO s ds T = o := ⟨_, rfl⟩
          rw [ho] at HO cO1
          clear cO cO2 HS1 HS2 heq HAL cM hLs cO3 ho
          generalize sumOf ds[q] = sq at *
          generalize sumOf ds[m] = sm at *
          subst hsq
          generalize ds[q] = Dq at *
          generalize ds[m] = Dm at *
          go_wp2
          refine wp_region_up 11 (by kernel_rfl) (by kernel_rfl) ?_
          simp only [List.take, List.drop]
          repeat (refine wpUp_step (fun K hK => ?_); go_simp; (try simp only [↓IntWalk.iteOmega]); first
            | (refine hK _ _ ?_; clear hK K)
            | (apply stepU_c
               · intro wq hwq; (have hbq := bcell hwq; (repeat (first | refine fills_no (by rfl) ?_ | refine fills_yes (by rfl) (fun vq hvq => ?_))); simp only [List.filter_nil, fills]; unfold upAt; go_simp; (try go_bits); (try simp only [↓IntWalk.iteOmega]); (try (rw [dif_pos (by omega)]; go_simp; try go_bits)); first | exact upOut_value | (apply upOut_call; (go_at_call 43; first | with_reducible exact cMq _ | with_reducible exact cMm _)) | (apply upOut_eq; (go_at_call 43; first | with_reducible exact cMq _ | with_reducible exact cMm _)))
               go_simp; refine hK _ _ ?_; clear hK K))
          refine wpUp_nil (fun wq hwq => ?_)
          simp only [fills]
          have HCL : Hid (∀ W, Up w1 W → W.cell? ⟨b, off + m, none⟩ = some (.string Dm) ∧ W.cell? ⟨b, off + q, none⟩ = some (.string Dq) ∧ b < W.heap.size) := fun W hu => ⟨(hu.cell (p := ⟨b, off + m, none⟩) HBL.out).trans HX.out, (hu.cell (p := ⟨b, off + q, none⟩) HBL.out).trans HX2.out, Nat.lt_of_lt_of_le HBL.out hu.size⟩
          have HU6 := Lib.hid hwq
          obtain ⟨W6, rfl⟩ : ∃ W, W = wq := ⟨_, rfl⟩
          clear c1 c2 hbr hbs t0 t1 t2 hwq hup hup1 hup3 cMq cMm
          obtain ⟨c1, c2, hbr⟩ := HCL.out _ (HUP1.out.trans HU6.out)
          obtain ⟨hbs, t0, t1, t2⟩ := SetAt.cells (box_up HU6.out hX3.out)
          have hne2 := ba_ne HNE.out
          rcases HO with rfl | ⟨x, rfl⟩
          all_goals
            simp only [openV] at cO1
            go_wp2_with fail
            (with_reducible refine (cO1 _ (hAt _ (HUP1.out.trans HU6.out))).mono ?_); rintro e w7 ⟨rfl, U7⟩
            have HU7 := Lib.hid (HU6.out.trans U7)
            clear c1 c2 hbr hbs t0 t1 t2 U7 cO1
            obtain ⟨c1, c2, hbr⟩ := HCL.out _ (HUP1.out.trans HU7.out)
            go_wp2
            refine wp_region_up 9 (by kernel_rfl) (by kernel_rfl) ?_
            simp only [List.take, List.drop]
            repeat (refine wpUp_step (fun K hK => ?_); go_simp; (try simp only [↓IntWalk.iteOmega]); first
              | (refine hK _ _ ?_; clear hK K)
              | (apply stepU_c
                 · intro wq hwq; (have hbq := bcell hwq; (repeat (first | refine fills_no (by rfl) ?_ | refine fills_yes (by rfl) (fun vq hvq => ?_))); simp only [List.filter_nil, fills]; unfold upAt; go_simp; (try go_bits); (try simp only [↓IntWalk.iteOmega]); (try (rw [dif_pos (by omega)]; go_simp; try go_bits)); first | exact upOut_value)
                 go_simp; refine hK _ _ ?_; clear hK K))
            refine wpUp_nil (fun wq hwq => ?_)
            simp only [fills]
            go_wp2
            go_ret
            refine ⟨ret_bool (by simp; try omega), ?_⟩
            exact ((HUW.out.trans HUP3.out).trans HU7.out).trans hwq
      · have HN : Hid (∀ j (h : j < ds.length), j < q + 1 → sumOf ds[j] ≠ sumOf ds[m]) := fun j h hj => by
          rcases Nat.lt_or_ge j q with h' | h'
          · exact HAL.out j h h'
          · have : j = q := by omega
            subst this; exact hsq
        have hqm : q < m := by
          rcases Nat.lt_or_ge q m with h | h
          · exact h
          · have : q = m := by omega
            subst this; exact absurd rfl hsq
        generalize sumOf ds[q] = sq at *
        generalize sumOf ds[m] = sm at *
        generalize ds[q] = Dq at *
        generalize ds[m] = Dm at *
        have k1 : (sq != sm) = true := by simpa using hsq
        have k2 : (sq == sm) = false := by simpa using hsq
        clear cM hLs hsq
        go_wp2
        refine wp_region_up 11 (by kernel_rfl) (by kernel_rfl) ?_
        simp only [List.take, List.drop]
        repeat (refine wpUp_step (fun K hK => ?_); go_simp; (try simp only [↓IntWalk.iteOmega]); first
          | (refine hK _ _ ?_; clear hK K)
          | (apply stepU_c
             · intro wq hwq; (have hbq := bcell hwq; (repeat (first | refine fills_no (by rfl) ?_ | refine fills_yes (by rfl) (fun vq hvq => ?_))); simp only [List.filter_nil, fills]; unfold upAt; go_simp; (try go_bits); (try simp only [↓IntWalk.iteOmega]); (try (rw [dif_pos (by omega)]; go_simp; try go_bits)); first | exact upOut_value | (apply upOut_call; (go_at_call 43; first | with_reducible exact cMq _ | with_reducible exact cMm _)) | (apply upOut_eq; (go_at_call 43; first | with_reducible exact cMq _ | with_reducible exact cMm _)))
             go_simp; refine hK _ _ ?_; clear hK K))
        refine wpUp_nil (fun wq hwq => ?_)
        simp only [fills]
        go_wp2
        go_roundw
        case rel => exact ⟨q + 1, by omega, by go_num, HN.out, by (repeat (first | with_reducible exact Up.refl _ | with_reducible assumption | with_reducible refine Up.set ?_ (by first | exact Nat.le_refl _ | (simp only []; omega) | (simp; omega)) _ | with_reducible refine Up.alloc ?_ _ | with_reducible refine Up.drew ?_ | refine Up.trans ?_ (by with_reducible assumption)))⟩
        case measure => simp [intOf]; omega

set_option maxRecDepth 100000 in
theorem lifted (os : Os) (started : os.Started) (H : Type) (enc : TypeId × Value → H) :
    ReturnsInHanded {} Tryz.checked os 11 .any (Rows.fnSealOpenSpec.pre6 enc Tryz.prog Tryz.f11 Rows.fnSealOpenRow.domain false) (Rows.fnSealOpenSpec.post enc Tryz.prog Tryz.f11 false true false false) := by
  refine returnsInHanded_of_change (C := Tryz.checked) own started (by kernel_rfl) Tryz.func11
    (ChangeSpec.witness6 (enc := enc) (C := Tryz.checked) false ⟨#[], #[.slice none 0 0, .slice none 0 0], []⟩ 8 (by kernel_rfl) (by kernel_rfl) (by kernel_rfl) (by kernel_rfl)) ?_
  intro W base args ds gs before hval0 hW hcnd _
  have hval : ∀ (j : Nat) t v, Tryz.f11.params[j]? = some t → args[j]? = some v → Value.okWide Tryz.prog W .any base t v := hval0
  have hW' := hW
  obtain ⟨p, q, hA0, hV, rfl, hfz, hnd⟩ := hW
  have hA : DataW.TrodAll enc Tryz.prog W 0 (fun _ => true) true Tryz.f11.params.toList args.toList ds p := hA0
  rw [Tryz.params11] at hA hval
  obtain ⟨v0, v1, d0, d1, p0, p1, rfl, rfl, rfl, h0, h1⟩ := trodAll_two hA
  obtain ⟨a0, n0, c0, rfl⟩ := okWide_slice Tryz.underlying38 (hval 0 38 v0 rfl rfl)
  have hlt0 : ∀ x ∈ p0, x.block < W.heap.size := fun x hx => by simpa using hW'.lt x (by simp [hx])
  obtain ⟨fuel0, hf0⟩ := h0
  obtain ⟨lcode, hcode⟩ := open_argU (by simpa [Value.cells] using hf0) hlt0
  obtain ⟨a1, n1, c1, rfl⟩ := okWide_slice Tryz.underlying38 (hval 1 38 v1 rfl rfl)
  have hlt1 : ∀ x ∈ p1, x.block < W.heap.size := fun x hx => by simpa using hW'.lt x (by simp [hx])
  obtain ⟨fuel1, hf1⟩ := h1
  obtain ⟨lmore, hmore⟩ := open_argU (by simpa [Value.cells] using hf1) hlt1
  obtain ⟨rfl, rfl⟩ := trodVars_none hV
  refine (walk _ _ _ _ W hcode hmore).mono fun e W' ⟨he, hu⟩ => ?_
  subst he
  exact ⟨_, rfl, post_law (f := Tryz.f11) TryzlaidOut (by kernel_rfl) rfl Tryz.underlying4 rfl hW' (fun ds' h => by subst h; exact ⟨rfl, rfl, rfl⟩) hu⟩

set_option maxHeartbeats 80000000 in
theorem closed : joinedFacts Tryz.checked.prog 11 Tryz.f11 Rows.fnSealOpenSpec Rows.fnSealOpenRow = true := by
  unfold joinedFacts
  repeat' (with_reducible refine (Bool.and_eq_true_iff.2 ⟨?_, ?_⟩))
  all_goals (as_aux_lemma => kernel_rfl)

theorem holds : Rows.FnSealOpenSaid :=
  OpenClaim.holds_of_wide 11 Tryz.f11 rfl rfl rfl rfl rfl rfl rfl ⟨rfl, rfl, rfl, rfl, rfl⟩ rfl rfl rfl rfl rfl (by as_aux_lemma => kernel_rfl) Tryz.func11 closed
    (of_decide_eq_true (by as_aux_lemma => kernel_rfl)) (by unfold Func.isWrapper; first | (rw [if_pos (by decide +kernel)]; kernel_rfl) | (rw [if_neg (by decide +kernel)]; exact ⟨rfl, rfl⟩))
    (fun os started H enc _ => lifted os started H enc)

end Go.Proofs.YtekbbnkkninolaaGreat.lawFnSealOpen
