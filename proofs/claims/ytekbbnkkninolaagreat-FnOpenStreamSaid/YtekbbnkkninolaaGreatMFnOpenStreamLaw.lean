/- Opened data is that of the stream behind the two bytes of the checksum, with a dictionary of this checksum. Conditions: none. -/
import Derived.Test.YtekbbnkkninolaaGreatMFnOpenStreamLawA
namespace Go.Proofs.YtekbbnkkninolaaGreat.lawFnOpenStream
set_option linter.unusedVariables false
set_option linter.unusedSimpArgs false
open Go.ChangeShapes Go.WideShapes Go.ChangeAt Go.RowKit Go.Joins
open Go.ChangeMaps (open_string shut_string)


theorem two_bytes {b0 b1 : Int} (h0 : 0 ≤ b0 ∧ b0 ≤ 255) (h1 : 0 ≤ b1 ∧ b1 ≤ 255) : (256 * b0 + b1).tdiv 256 = b0 ∧ (256 * b0 + b1).tmod 256 = b1 ∧ wrap64 b0 = b0 ∧ wrap64 b1 = b1 := by
  refine ⟨by rw [Int.tdiv_eq_ediv_of_nonneg (by omega)]; omega, by rw [Int.tmod_eq_emod_of_nonneg (by omega)]; omega, by unfold wrap64; omega, by unfold wrap64; omega⟩

set_option maxRecDepth 100000 in
set_option maxHeartbeats 8000000 in
theorem walk (vc : Value) (lc : List UInt8) (w : World) (hc : ArgU w vc lc) :
    Calls Tryz.prog 9  #[vc] w (Same (.bool true) w) := by
  have cD := fun w' hu => drawOpenStream_any vc lc w' (hc.up (w' := w') hu)
  obtain ⟨ac, cc, rfl, hc1, hc2, -⟩ := hc
  unfold maxLen at hc2
  by_cases h1 : 1048576 < lc.length
  · go_enter Tryz.func9, Tryz.ntmps9
    go_wp2
    go_ret
    exact ⟨rfl, by (repeat (first | with_reducible exact Up.refl _ | with_reducible assumption | with_reducible refine Up.set ?_ (by first | exact Nat.le_refl _ | (simp only []; omega) | (simp; omega)) _ | with_reducible refine Up.alloc ?_ _ | with_reducible refine Up.drew ?_ | refine Up.trans ?_ (by with_reducible assumption)))⟩
  go_enter Tryz.func9, Tryz.ntmps9
  go_wp2_with (go_at_call 40; (with_reducible refine (cD _ (by (repeat (first | with_reducible exact Up.refl _ | with_reducible assumption | with_reducible refine Up.set ?_ (by first | exact Nat.le_refl _ | (simp only []; omega) | (simp; omega)) _ | with_reducible refine Up.alloc ?_ _ | with_reducible refine Up.drew ?_ | refine Up.trans ?_ (by with_reducible assumption))))).mono ?_); rintro e w1 ⟨s, u, ds, st, rfl, hs, hO, hL9, hLs, hst, U1⟩; simp only [setV]; have B1 := bcell U1; have Z1 := U1.size; (try simp at Z1); (try rw [Nat.add_one_le_iff] at Z1))
  have hA : ArgS w1 u ds := ArgS.of_own (show ownS w1 (w.heap.size + 1) u ds from hO) (fun t ht => by have := hLs t ht; unfold maxLen; omega)
  have hAt := fun (wq : World) (hu : Up w1 wq) => hA.up hu
  have cI := fun wx h => openI_any s ds u st wx hs h (by omega) (fun t ht => by have := hLs t ht; omega) (by omega)
  have cS := fun wx h => openS_any s ds u st wx h (by omega) (fun t ht => by have := hLs t ht; omega) (by omega)
  have HA := Lib.hid hA
  obtain ⟨a, ca, rfl, -, -, -⟩ := hA
  clear cD hO
  cases ho : openO s ds st with
  | none =>
    rw [ho] at cI cS
    unfold openV at cI cS
    simp only [setV] at *
    clear ho
    go_wp2_with (first | ((go_at_call 41; (with_reducible refine (cI _ (hAt _ (by (repeat (first | with_reducible exact Up.refl _ | with_reducible assumption | with_reducible refine Up.set ?_ (by first | exact Nat.le_refl _ | (simp only []; omega) | (simp; omega)) _ | with_reducible refine Up.alloc ?_ _ | with_reducible refine Up.drew ?_ | refine Up.trans ?_ (by with_reducible assumption)))))).mono ?_); rintro e w2 ⟨rfl, U2⟩; have B2 := bcell U2; have Z2 := U2.size; (try simp at Z2); (try rw [Nat.add_one_le_iff] at Z2)); (try have V2a : w1.heap.size < w2.heap.size := (by omega)); (try have V2b : w1.heap.size + 1 < w2.heap.size := (by omega)); (try have V2c : w2.heap.size < w2.heap.size := (by omega)); (try have V2d : w3.heap.size < w2.heap.size := (by omega)); (try have V2e : w4.heap.size < w2.heap.size := (by omega)); skip) | ((go_at_call 42; (with_reducible refine (cS _ (hAt _ (by (repeat (first | with_reducible exact Up.refl _ | with_reducible assumption | with_reducible refine Up.set ?_ (by first | exact Nat.le_refl _ | (simp only []; omega) | (simp; omega)) _ | with_reducible refine Up.alloc ?_ _ | with_reducible refine Up.drew ?_ | refine Up.trans ?_ (by with_reducible assumption)))))).mono ?_); rintro e w3 ⟨rfl, U3⟩; have B3 := bcell U3; have Z3 := U3.size; (try simp at Z3); (try rw [Nat.add_one_le_iff] at Z3)); (try have V3a : w1.heap.size < w3.heap.size := (by omega)); (try have V3b : w1.heap.size + 1 < w3.heap.size := (by omega)); (try have V3c : w2.heap.size < w3.heap.size := (by omega)); (try have V3d : w3.heap.size < w3.heap.size := (by omega)); (try have V3e : w4.heap.size < w3.heap.size := (by omega)); skip))
    go_ret
    refine ⟨ret_bool (by simp; try rfl), ?_⟩
    (repeat (first | with_reducible exact Up.refl _ | with_reducible assumption | with_reducible refine Up.set ?_ (by first | exact Nat.le_refl _ | (simp only []; omega) | (simp; omega)) _ | with_reducible refine Up.alloc ?_ _ | with_reducible refine Up.drew ?_ | refine Up.trans ?_ (by with_reducible assumption)))
  | some R =>
    obtain ⟨x, i⟩ := R
    obtain ⟨h2, hi, hsum, hdec⟩ := openO_some ho
    rw [ho] at cI cS
    unfold openV at cI cS
    have cW := fun wx => decWI_any s ds[i] (st.extract 2 st.size) wx hs (by have := hLs _ (List.getElem_mem hi); omega) (by have := ext_le st 2 st.size; omega)
    have cM := fun wx => sumI_any ds[i] wx (by have := hLs _ (List.getElem_mem hi); omega)
    rw [hdec] at cW
    rw [hsum] at cM
    unfold decV at cW
    have hn1 := byteAt_bd st 0
    have hn2 := byteAt_bd st 1
    have hb0 : (st[0].toNat : Int) = byteAt st 0 := byteAt_get st 0 (by omega)
    have hb1 : (st[1].toNat : Int) = byteAt st 1 := byteAt_get st 1 (by omega)
    unfold numAt at cM
    simp only [setV] at *
    obtain ⟨b, off, rfl, hbl, hx, -, hnc, hcm⟩ := HA.out.at hi
    unfold maxLen at hcm
    have hds := hLs _ (List.getElem_mem hi)
    generalize ds[i] = D at *
    generalize byteAt st 0 = b0 at *
    generalize byteAt st 1 = b1 at *
    clear ho hdec hsum
    obtain ⟨hq, hr, hw0, hw1⟩ := two_bytes hn1 hn2
    go_wp2_with (first | ((go_at_call 41; (with_reducible refine (cI _ (hAt _ (by (repeat (first | with_reducible exact Up.refl _ | with_reducible assumption | with_reducible refine Up.set ?_ (by first | exact Nat.le_refl _ | (simp only []; omega) | (simp; omega)) _ | with_reducible refine Up.alloc ?_ _ | with_reducible refine Up.drew ?_ | refine Up.trans ?_ (by with_reducible assumption)))))).mono ?_); rintro e w2 ⟨rfl, U2⟩; have B2 := bcell U2; have Z2 := U2.size; (try simp at Z2); (try rw [Nat.add_one_le_iff] at Z2)); (try have V2a : w1.heap.size < w2.heap.size := (by omega)); (try have V2b : w1.heap.size + 1 < w2.heap.size := (by omega)); (try have V2c : w2.heap.size < w2.heap.size := (by omega)); (try have V2d : w3.heap.size < w2.heap.size := (by omega)); (try have V2e : w4.heap.size < w2.heap.size := (by omega)); skip) | ((go_at_call 42; (with_reducible refine (cS _ (hAt _ (by (repeat (first | with_reducible exact Up.refl _ | with_reducible assumption | with_reducible refine Up.set ?_ (by first | exact Nat.le_refl _ | (simp only []; omega) | (simp; omega)) _ | with_reducible refine Up.alloc ?_ _ | with_reducible refine Up.drew ?_ | refine Up.trans ?_ (by with_reducible assumption)))))).mono ?_); rintro e w3 ⟨rfl, U3⟩; have B3 := bcell U3; have Z3 := U3.size; (try simp at Z3); (try rw [Nat.add_one_le_iff] at Z3)); (try have V3a : w1.heap.size < w3.heap.size := (by omega)); (try have V3b : w1.heap.size + 1 < w3.heap.size := (by omega)); (try have V3c : w2.heap.size < w3.heap.size := (by omega)); (try have V3d : w3.heap.size < w3.heap.size := (by omega)); (try have V3e : w4.heap.size < w3.heap.size := (by omega)); skip))
    have hU3 : Up (w1.alloc (.cells #[.int .i64 s.ord, .int .i64 s.lit, .int .i64 s.most] 26)) w3 := U2.trans U3
    have hU13 : Up w1 w3 := by (repeat (first | with_reducible exact Up.refl _ | with_reducible assumption | with_reducible refine Up.set ?_ (by first | exact Nat.le_refl _ | (simp only []; omega) | (simp; omega)) _ | with_reducible refine Up.alloc ?_ _ | with_reducible refine Up.drew ?_ | refine Up.trans ?_ (by with_reducible assumption)))
    have hx3 := (hU13.cell (p := ⟨b, off + i, none⟩) hbl).trans hx
    have hb3 := Nat.lt_of_lt_of_le hbl hU13.size
    have hSB := box_up hU3 (MapKept.heap_alloc w1 _).1
    refine wp_region_up 14 (by kernel_rfl) (by kernel_rfl) ?_
    simp only [List.take, List.drop]
    repeat (refine wpUp_step (fun K hK => ?_); go_simp; (try simp only [↓IntWalk.iteOmega]); first
      | (refine hK _ _ ?_; clear hK K)
      | (apply stepU_c
         · intro wq hwq; (have hbq := bcell hwq; (repeat (first | refine fills_no (by rfl) ?_ | refine fills_yes (by rfl) (fun vq hvq => ?_))); simp only [List.filter_nil, fills]; unfold upAt; go_simp; (try go_bits); (try simp only [↓IntWalk.iteOmega]); (try (rw [dif_pos (by omega)]; go_simp; try go_bits)); first | exact upOut_value | (apply upOut_call; (go_at_call 31; exact cW _)) | (apply upOut_eq; (go_at_call 31; exact cW _)))
         go_simp; refine hK _ _ ?_; clear hK K))
    refine wpUp_nil (fun wq hwq => ?_)
    simp only [fills]
    have hxq := (hwq.cell (p := ⟨b, off + i, none⟩) hb3).trans hx3
    have hb4 := Nat.lt_of_lt_of_le hb3 hwq.size
    clear B1 B2 B3 hx hx3
    go_wp2_with fail
    (with_reducible refine (cM _).mono ?_); rintro e w5 ⟨rfl, rfl⟩
    have HB := Lib.hid (And.intro hn1 hn2)
    have HU := Lib.hid (((U1.alloc _).trans U2).trans (U3.trans hwq))
    clear cM cW cI cS hAt HA hxq hb4 hSB hU13 hU3 hb3 hbl hnc hcm hds hLs hL9 hs U1 U2 U3 hwq hn1 hn2
    go_wp2
    go_ret
    have hB := HB.out
    refine ⟨ret_bool (by simp; try omega), ?_⟩
    exact HU.out

set_option maxRecDepth 100000 in
theorem lifted (os : Os) (started : os.Started) (H : Type) (enc : TypeId × Value → H) :
    ReturnsInHanded {} Tryz.checked os 9 .any (Rows.fnOpenStreamSpec.pre6 enc Tryz.prog Tryz.f9 Rows.fnOpenStreamRow.domain false) (Rows.fnOpenStreamSpec.post enc Tryz.prog Tryz.f9 false true false false) := by
  refine returnsInHanded_of_change (C := Tryz.checked) own started (by kernel_rfl) Tryz.func9
    (ChangeSpec.witness6 (enc := enc) (C := Tryz.checked) false ⟨#[], #[.slice none 0 0], []⟩ 8 (by kernel_rfl) (by kernel_rfl) (by kernel_rfl) (by kernel_rfl)) ?_
  intro W base args ds gs before hval0 hW hcnd _
  have hval : ∀ (j : Nat) t v, Tryz.f9.params[j]? = some t → args[j]? = some v → Value.okWide Tryz.prog W .any base t v := hval0
  have hW' := hW
  obtain ⟨p, q, hA0, hV, rfl, hfz, hnd⟩ := hW
  have hA : DataW.TrodAll enc Tryz.prog W 0 (fun _ => true) true Tryz.f9.params.toList args.toList ds p := hA0
  rw [Tryz.params9] at hA hval
  obtain ⟨v0, d0, rfl, rfl, h0⟩ := trodAll_one hA
  obtain ⟨p0, rfl⟩ : ∃ x, x = p := ⟨_, rfl⟩
  obtain ⟨a0, n0, c0, rfl⟩ := okWide_slice Tryz.underlying38 (hval 0 38 v0 rfl rfl)
  have hlt0 : ∀ x ∈ p0, x.block < W.heap.size := fun x hx => by simpa using hW'.lt x (by simp [hx])
  obtain ⟨fuel0, hf0⟩ := h0
  obtain ⟨lcode, hcode⟩ := open_argU (by simpa [Value.cells] using hf0) hlt0
  obtain ⟨rfl, rfl⟩ := trodVars_none hV
  refine (walk _ _ W hcode).mono fun e W' ⟨he, hu⟩ => ?_
  subst he
  exact ⟨_, rfl, post_law (f := Tryz.f9) TryzlaidOut (by kernel_rfl) rfl Tryz.underlying4 rfl hW' (fun ds' h => by subst h; exact ⟨rfl, rfl, rfl⟩) hu⟩

set_option maxHeartbeats 80000000 in
theorem closed : joinedFacts Tryz.checked.prog 9 Tryz.f9 Rows.fnOpenStreamSpec Rows.fnOpenStreamRow = true := by
  unfold joinedFacts
  repeat' (with_reducible refine (Bool.and_eq_true_iff.2 ⟨?_, ?_⟩))
  all_goals (as_aux_lemma => kernel_rfl)

theorem holds : Rows.FnOpenStreamSaid :=
  OpenClaim.holds_of_wide 9 Tryz.f9 rfl rfl rfl rfl rfl rfl rfl ⟨rfl, rfl, rfl, rfl, rfl⟩ rfl rfl rfl rfl rfl (by as_aux_lemma => kernel_rfl) Tryz.func9 closed
    (of_decide_eq_true (by as_aux_lemma => kernel_rfl)) (by unfold Func.isWrapper; first | (rw [if_pos (by decide +kernel)]; kernel_rfl) | (rw [if_neg (by decide +kernel)]; exact ⟨rfl, rfl⟩))
    (fun os started H enc _ => lifted os started H enc)

end Go.Proofs.YtekbbnkkninolaaGreat.lawFnOpenStream
