/- The first bytes of a container are one exactly if they end with a block, and then have the data of these blocks. Conditions: none. -/
import Derived.Test.YtekbbnkkninolaaGreatMFnContainerShortLawA
namespace Go.Proofs.YtekbbnkkninolaaGreat.lawFnContainerShort
set_option linter.unusedVariables false
set_option linter.unusedSimpArgs false
open Go.ChangeShapes Go.WideShapes Go.ChangeAt Go.RowKit Go.Joins
open Go.ChangeMaps (open_string shut_string)


def Rel (l : List BlkD) (k tot n0 : Int) (w : World) (x y i : Value) (wr : World) : Prop := ∃ q : Nat, q ≤ l.length ∧ i = .int .i64 q ∧ x = .bool (shW l k tot q) ∧ y = .int .i64 (shN l k n0 q) ∧ Up w wr

set_option maxRecDepth 100000 in
set_option maxHeartbeats 8000000 in
theorem walk (vc : Value) (lc : List UInt8) (vm : Value) (lm : List UInt8) (w : World) (hc : ArgU w vc lc) (hm : ArgU w vm lm) :
    Calls Tryz.prog 13  #[vc, vm] w (Same (.bool true) w) := by
  have cD := fun w' hu => drawMakeContainer_any vc lc w' (hc.up (w' := w') hu)
  obtain ⟨ac, cc, rfl, hc1, hc2, -⟩ := hc
  obtain ⟨am, cm, rfl, hm1, hm2, -⟩ := hm
  unfold maxLen at hc2 hm2
  by_cases h1 : 1048576 < lc.length
  · go_enter Tryz.func13, Tryz.ntmps13
    go_wp2
    go_ret
    exact ⟨rfl, by (repeat (first | with_reducible exact Up.refl _ | with_reducible assumption | with_reducible refine Up.set ?_ (by first | exact Nat.le_refl _ | (simp only []; omega) | (simp; omega)) _ | with_reducible refine Up.alloc ?_ _ | with_reducible refine Up.drew ?_ | refine Up.trans ?_ (by with_reducible assumption)))⟩
  by_cases h2 : 1048576 < lm.length
  · go_enter Tryz.func13, Tryz.ntmps13
    go_wp2
    go_ret
    exact ⟨rfl, by (repeat (first | with_reducible exact Up.refl _ | with_reducible assumption | with_reducible refine Up.set ?_ (by first | exact Nat.le_refl _ | (simp only []; omega) | (simp; omega)) _ | with_reducible refine Up.alloc ?_ _ | with_reducible refine Up.drew ?_ | refine Up.trans ?_ (by with_reducible assumption)))⟩
  go_enter Tryz.func13, Tryz.ntmps13
  go_wp2_with (go_at_call 51; (with_reducible refine (cD _ (by (repeat (first | with_reducible exact Up.refl _ | with_reducible assumption | with_reducible refine Up.set ?_ (by first | exact Nat.le_refl _ | (simp only []; omega) | (simp; omega)) _ | with_reducible refine Up.alloc ?_ _ | with_reducible refine Up.drew ?_ | refine Up.trans ?_ (by with_reducible assumption))))).mono ?_); rintro e w1 ⟨s, dict, d, n, rfl, hs, hdi, hd, hn, U1⟩; simp only [setV]; have B1 := bcell U1; have Z1 := U1.size; (try simp at Z1); (try rw [Nat.add_one_le_iff] at Z1))
  have cI := fun wx => makeContainerI_any s dict d n wx hs (by omega) (by omega) ⟨by omega, by omega⟩
  have cS := fun wx => makeCS_any s dict d n wx (by omega) (by omega)
  clear cD
  cases hmk : mkO s dict.data.toList d.data.toList n with
  | none =>
    rw [hmk] at cI cS
    unfold optS at cI cS
    simp only [setV, Option.getD_none, Option.isSome_none] at *
    clear hmk
    go_wp2_with (first | ((go_at_call 52; (with_reducible refine (cI _).mono ?_); rintro e w2 ⟨rfl, U2⟩; have B2 := bcell U2; have Z2 := U2.size; (try simp at Z2); (try rw [Nat.add_one_le_iff] at Z2)); (try have V2a : w1.heap.size < w2.heap.size := (by omega)); (try have V2b : w1.heap.size + 1 < w2.heap.size := (by omega)); (try have V2c : w2.heap.size < w2.heap.size := (by omega)); (try have V2d : w3.heap.size < w2.heap.size := (by omega)); (try have V2e : w4.heap.size < w2.heap.size := (by omega)); skip) | ((go_at_call 53; (with_reducible refine (cS _).mono ?_); rintro e w3 ⟨rfl, U3⟩; have B3 := bcell U3; have Z3 := U3.size; (try simp at Z3); (try rw [Nat.add_one_le_iff] at Z3)); (try have V3a : w1.heap.size < w3.heap.size := (by omega)); (try have V3b : w1.heap.size + 1 < w3.heap.size := (by omega)); (try have V3c : w2.heap.size < w3.heap.size := (by omega)); (try have V3d : w3.heap.size < w3.heap.size := (by omega)); (try have V3e : w4.heap.size < w3.heap.size := (by omega)); skip))
    go_ret
    refine ⟨ret_bool (by simp; try rfl), ?_⟩
    (repeat (first | with_reducible exact Up.refl _ | with_reducible assumption | with_reducible refine Up.set ?_ (by first | exact Nat.le_refl _ | (simp only []; omega) | (simp; omega)) _ | with_reducible refine Up.alloc ?_ _ | with_reducible refine Up.drew ?_ | refine Up.trans ?_ (by with_reducible assumption)))
  | some T =>
    have hdl := ba_len d
    obtain ⟨l, hM, hn1, hlen, hsz⟩ := made_of hmk (by omega)
    have hTz := bs_size T
    have hcb := hM.cont
    have hco := hM.conO
    have hby := hM.bytes
    have hle := bytes_sizes l hM.small
    have hl40 := hM.ok.acc.1
    have hrl := renum_length l 0
    have hTb : T.length ≤ 4000 := by omega
    rw [hmk] at cI cS
    unfold optS at cI cS
    simp only [Option.getD_some, Option.isSome_some] at cI cS
    have cX := fun wx => indexI_any (bs T) wx (by omega)
    unfold IndexPost at cX
    rw [hcb] at cX
    simp only [Option.isSome_some, Option.getD_some] at cX
    have hkk : lm.length % (T.length + 1) ≤ T.length := by have := Nat.mod_lt lm.length (show 0 < T.length + 1 by omega); omega
    obtain ⟨s1, s2, s3⟩ := hM.short hkk
    have cC := fun wx => conI_any s dict ((bs T).extract 0 (lm.length % (T.length + 1))) wx hs (by omega) (by have := ext_le (bs T) 0 (lm.length % (T.length + 1)); omega)
    rw [s1] at cC
    have hkm : ((lm.length : Int) % ((T.length : Int) + 1)) = ((lm.length % (T.length + 1) : Nat) : Int) := by rw [Int.natCast_emod, Int.natCast_add]; rfl
    have HL : Hid (∀ (q : Nat), shW l (lm.length % (T.length + 1) : Nat) T.length (q + 1) = (if bytesSum (l.take q) = ((lm.length % (T.length + 1) : Nat) : Int) then true else shW l (lm.length % (T.length + 1) : Nat) T.length q) ∧ shN l (lm.length % (T.length + 1) : Nat) d.data.toList.length (q + 1) = (if bytesSum (l.take q) = ((lm.length % (T.length + 1) : Nat) : Int) then sizeSum (l.take q) else shN l (lm.length % (T.length + 1) : Nat) d.data.toList.length q)) := fun q => ⟨rfl, rfl⟩
    have HPL : Hid ((placesK (renum 0 l) (renum 0 l).length).length = l.length) := by unfold Hid; rw [placesK_length, hrl]
    have HPG : Hid (∀ q, q < l.length → (placesK (renum 0 l) (renum 0 l).length)[q]? = some ⟨bytesSum (l.take q), sizeSum (l.take q)⟩) := fun q hq => by
      rw [placesK_get _ _ _ (by rw [hrl]; exact hq), renum_take, renum_bytes, renum_sum]
    have hbd : ∀ q, q ≤ l.length → 0 ≤ bytesSum (l.take q) ∧ bytesSum (l.take q) ≤ 4000 ∧ 0 ≤ sizeSum (l.take q) ∧ sizeSum (l.take q) ≤ 4000 := fun q hq => by
      have h1 := bytesSum_bd (accOk_take hM.ok.acc q)
      have h2 := sizeSum_bd (accOk_take hM.ok.acc q)
      have h3 : (l.take q).length ≤ 40 := by rw [List.length_take]; omega
      omega
    have HBD := Lib.hid hbd
    have HX : Hid (∀ m : Int, d.extract 0 m.toNat = bs (d.data.toList.take m.toNat)) := fun m => ext_take d m.toNat
    clear hmk hM hcb hco s1 hby hle hsz hlen hbd
    generalize placesK (renum 0 l) (renum 0 l).length = P at *
    generalize hkg : lm.length % (T.length + 1) = k at *
    simp only [setV] at *
    have hkt : (lm.length : Int).tmod ((T.length : Int) + 1) = (k : Int) := by rw [Int.tmod_eq_emod_of_nonneg (by omega)]; exact hkm
    go_wp2_with (first | ((go_at_call 52; (with_reducible refine (cI _).mono ?_); rintro e w2 ⟨rfl, U2⟩; have B2 := bcell U2; have Z2 := U2.size; (try simp at Z2); (try rw [Nat.add_one_le_iff] at Z2)); (try have V2a : w1.heap.size < w2.heap.size := (by omega)); (try have V2b : w1.heap.size + 1 < w2.heap.size := (by omega)); (try have V2c : w2.heap.size < w2.heap.size := (by omega)); (try have V2d : w3.heap.size < w2.heap.size := (by omega)); (try have V2e : w4.heap.size < w2.heap.size := (by omega)); skip) | ((go_at_call 53; (with_reducible refine (cS _).mono ?_); rintro e w3 ⟨rfl, U3⟩; have B3 := bcell U3; have Z3 := U3.size; (try simp at Z3); (try rw [Nat.add_one_le_iff] at Z3)); (try have V3a : w1.heap.size < w3.heap.size := (by omega)); (try have V3b : w1.heap.size + 1 < w3.heap.size := (by omega)); (try have V3c : w2.heap.size < w3.heap.size := (by omega)); (try have V3d : w3.heap.size < w3.heap.size := (by omega)); (try have V3e : w4.heap.size < w3.heap.size := (by omega)); skip) | (go_at_call 56; (with_reducible refine (cX _).mono ?_); rintro e w4 ⟨v4, rfl, h4, U4⟩; rw [HPL.out] at h4; obtain ⟨a4, ca4, rfl, hm4, hsome⟩ := ownsRow_any h4))
    have hUx : Up (w1.alloc (.cells #[.int .i64 s.ord, .int .i64 s.lit, .int .i64 s.most] 26)) w4 := (U2.trans U3).trans U4
    have hUw : Up w w4 := by clear hUx; (repeat (first | with_reducible exact Up.refl _ | with_reducible assumption | with_reducible refine Up.set ?_ (by first | exact Nat.le_refl _ | (simp only []; omega) | (simp; omega)) _ | with_reducible refine Up.alloc ?_ _ | with_reducible refine Up.drew ?_ | refine Up.trans ?_ (by with_reducible assumption)))
    have hSB : SetAt w1.heap.size s.ord s.lit s.most w4 := box_up hUx (MapKept.heap_alloc w1 _).1
    have hb4 : w1.heap.size < w4.heap.size := by have := hUx.size; simp at this; omega
    have HSB := Lib.hid hSB
    have HUW := Lib.hid hUw
    clear cI cS cX B1 U1 U2 U3 U4 hUx hSB hUw hm4 hkm hkk Z1
    go_loopw [16, 17, 18] (fun x y i wr => Rel l k T.length d.data.toList.length w4 x y i wr) (fun _ _ i _ => l.length - (intOf i).toNat)
    case atStart => exact ⟨0, Nat.zero_le _, rfl, rfl, by show Value.int .i64 _ = Value.int .i64 ((d.data.toList.length : Nat) : Int); rw [ba_len], Up.refl _⟩
    case round =>
      obtain ⟨q, hq, rfl, rfl, rfl, hup⟩ := hrel
      obtain ⟨e1, e2⟩ := HL.out q
      by_cases hlt : q < l.length
      · obtain ⟨g, rfl, hnc, hcm, hbg, hg, hcells⟩ := hsome (by omega)
        obtain ⟨d0, d1⟩ := plc_cells (w := wr) (fun j u hj => (hup.cell (p := ⟨g, j, none⟩) hg).trans (hcells j u hj)) (HPG.out q hlt)
        have hgr := Nat.lt_of_lt_of_le hg hup.size
        obtain ⟨b1, b2, b3, b4⟩ := HBD.out q hq
        simp only at d0 d1
        unfold maxLen at hcm
        by_cases hk : bytesSum (l.take q) = (k : Int)
        · rw [if_pos hk] at e1 e2
          have E1 := Lib.hid e1
          have E2 := Lib.hid e2
          clear e1 e2 hcells
          rw [hk] at d0
          generalize bytesSum (l.take q) = p1 at *
          generalize sizeSum (l.take q) = p2 at *
          subst hk
          generalize shW l k T.length q = Y at *
          generalize shN l k d.data.toList.length q = X at *
          go_wp2
          go_roundw
          case rel => exact ⟨q + 1, by omega, by go_num, by rw [E1.out], by rw [E2.out], by (repeat (first | with_reducible exact Up.refl _ | with_reducible assumption | with_reducible refine Up.set ?_ (by first | exact Nat.le_refl _ | (simp only []; omega) | (simp; omega)) _ | with_reducible refine Up.alloc ?_ _ | with_reducible refine Up.drew ?_ | refine Up.trans ?_ (by with_reducible assumption)))⟩
          case measure => simp [intOf]; omega
        · rw [if_neg hk] at e1 e2
          have E1 := Lib.hid e1
          have E2 := Lib.hid e2
          clear e1 e2 hcells
          have hk2 : (bytesSum (l.take q) == (k : Int)) = false := by simpa using hk
          generalize bytesSum (l.take q) = p1 at *
          generalize sizeSum (l.take q) = p2 at *
          generalize shW l k T.length q = Y at *
          generalize shN l k d.data.toList.length q = X at *
          clear hk
          go_wp2
          go_roundw
          case rel => exact ⟨q + 1, by omega, by go_num, by rw [E1.out], by rw [E2.out], by (repeat (first | with_reducible exact Up.refl _ | with_reducible assumption | with_reducible refine Up.set ?_ (by first | exact Nat.le_refl _ | (simp only []; omega) | (simp; omega)) _ | with_reducible refine Up.alloc ?_ _ | with_reducible refine Up.drew ?_ | refine Up.trans ?_ (by with_reducible assumption)))⟩
          case measure => simp [intOf]; omega
      · have e : q = l.length := by omega
        subst e
        clear e1 e2
        have hSB := box_up hup HSB.out
        obtain ⟨hbs, t0, t1, t2⟩ := SetAt.cells hSB
        have hb5 := Nat.lt_of_lt_of_le hb4 hup.size
        have hkT : k ≤ T.length := by rw [← hkg]; have := Nat.mod_lt lm.length (show 0 < T.length + 1 by omega); omega
        generalize shW l k T.length l.length = Y at *
        generalize shN l k d.data.toList.length l.length = X at *
        rw [ba_len] at s3
        obtain ⟨x, rfl⟩ := Int.eq_ofNat_of_zero_le s2
        have hx := HX.out (x : Int)
        rw [Int.toNat_natCast] at hx cC
        cases Y
        · simp only [Bool.false_eq_true, if_false] at cC
          rw [optS_none] at cC
          go_wp2
          refine wp_region_up 11 (by kernel_rfl) (by kernel_rfl) ?_
          simp only [List.take, List.drop]
          repeat (refine wpUp_step (fun K hK => ?_); go_simp; (try simp only [↓IntWalk.iteOmega]); first
            | (refine hK _ _ ?_; clear hK K)
            | (apply stepU_c
               · intro wq hwq; (have hbq := bcell hwq; (repeat (first | refine fills_no (by rfl) ?_ | refine fills_yes (by rfl) (fun vq hvq => ?_))); simp only [List.filter_nil, fills]; unfold upAt; go_simp; (try go_bits); (try simp only [↓IntWalk.iteOmega]); (try (rw [dif_pos (by omega)]; go_simp; try go_bits)); first | exact upOut_value | (apply upOut_call; (go_at_call 19; exact cC _)) | (apply upOut_eq; (go_at_call 19; exact cC _)))
               go_simp; refine hK _ _ ?_; clear hK K))
          refine wpUp_nil (fun wq hwq => ?_)
          simp only [fills]
          go_wp2
          go_ret
          refine ⟨ret_bool (by simp; try rfl), ?_⟩
          exact HUW.out.trans (by (repeat (first | with_reducible exact Up.refl _ | with_reducible assumption | with_reducible refine Up.set ?_ (by first | exact Nat.le_refl _ | (simp only []; omega) | (simp; omega)) _ | with_reducible refine Up.alloc ?_ _ | with_reducible refine Up.drew ?_ | refine Up.trans ?_ (by with_reducible assumption))))
        · simp only [if_true] at cC
          unfold optS at cC
          simp only [Option.getD_some, Option.isSome_some] at cC
          rw [← hx] at cC
          go_wp2
          refine wp_region_up 11 (by kernel_rfl) (by kernel_rfl) ?_
          simp only [List.take, List.drop]
          repeat (refine wpUp_step (fun K hK => ?_); go_simp; (try simp only [↓IntWalk.iteOmega]); first
            | (refine hK _ _ ?_; clear hK K)
            | (apply stepU_c
               · intro wq hwq; (have hbq := bcell hwq; (repeat (first | refine fills_no (by rfl) ?_ | refine fills_yes (by rfl) (fun vq hvq => ?_))); simp only [List.filter_nil, fills]; unfold upAt; go_simp; (try go_bits); (try simp only [↓IntWalk.iteOmega]); (try (rw [dif_pos (by omega)]; go_simp; try go_bits)); first | exact upOut_value | (apply upOut_call; (go_at_call 19; exact cC _)) | (apply upOut_eq; (go_at_call 19; exact cC _)))
               go_simp; refine hK _ _ ?_; clear hK K))
          refine wpUp_nil (fun wq hwq => ?_)
          simp only [fills]
          go_wp2
          go_ret
          refine ⟨ret_bool (by simp; try rfl), ?_⟩
          exact HUW.out.trans (by (repeat (first | with_reducible exact Up.refl _ | with_reducible assumption | with_reducible refine Up.set ?_ (by first | exact Nat.le_refl _ | (simp only []; omega) | (simp; omega)) _ | with_reducible refine Up.alloc ?_ _ | with_reducible refine Up.drew ?_ | refine Up.trans ?_ (by with_reducible assumption))))

set_option maxRecDepth 100000 in
theorem lifted (os : Os) (started : os.Started) (H : Type) (enc : TypeId × Value → H) :
    ReturnsInHanded {} Tryz.checked os 13 .any (Rows.fnContainerShortSpec.pre6 enc Tryz.prog Tryz.f13 Rows.fnContainerShortRow.domain false) (Rows.fnContainerShortSpec.post enc Tryz.prog Tryz.f13 false true false false) := by
  refine returnsInHanded_of_change (C := Tryz.checked) own started (by kernel_rfl) Tryz.func13
    (ChangeSpec.witness6 (enc := enc) (C := Tryz.checked) false ⟨#[], #[.slice none 0 0, .slice none 0 0], []⟩ 8 (by kernel_rfl) (by kernel_rfl) (by kernel_rfl) (by kernel_rfl)) ?_
  intro W base args ds gs before hval0 hW hcnd _
  have hval : ∀ (j : Nat) t v, Tryz.f13.params[j]? = some t → args[j]? = some v → Value.okWide Tryz.prog W .any base t v := hval0
  have hW' := hW
  obtain ⟨p, q, hA0, hV, rfl, hfz, hnd⟩ := hW
  have hA : DataW.TrodAll enc Tryz.prog W 0 (fun _ => true) true Tryz.f13.params.toList args.toList ds p := hA0
  rw [Tryz.params13] at hA hval
  obtain ⟨v0, v1, d0, d1, p0, p1, rfl, rfl, rfl, h0, h1⟩ := trodAll_two hA
  obtain ⟨a0, n0, c0, rfl⟩ := okWide_slice Tryz.underlying38 (hval 0 38 v0 rfl rfl)
  have hlt0 : ∀ x ∈ p0, x.block < W.heap.size := fun x hx => by simpa using hW'.lt x (by simp [hx])
  obtain ⟨fuel0, hf0⟩ := h0
  obtain ⟨lcode, hcode⟩ := open_argU (by simpa [Value.cells] using hf0) hlt0
  obtain ⟨a1, n1, c1, rfl⟩ := okWide_slice Tryz.underlying38 (hval 1 38 v1 rfl rfl)
  have hlt1 : ∀ x ∈ p1, x.block < W.heap.size := fun x hx => by simpa using hW'.lt x (by simp [hx])
  obtain ⟨fuel1, hf1⟩ := h1
  obtain ⟨lmore, hmore⟩ := open_argU (by simpa [Value.cells] using hf1) hlt1
  obtain ⟨rfl, rfl⟩ := trodVars_none hV
  refine (walk _ _ _ _ W hcode hmore).mono fun e W' ⟨he, hu⟩ => ?_
  subst he
  exact ⟨_, rfl, post_law (f := Tryz.f13) TryzlaidOut (by kernel_rfl) rfl Tryz.underlying4 rfl hW' (fun ds' h => by subst h; exact ⟨rfl, rfl, rfl⟩) hu⟩

set_option maxHeartbeats 80000000 in
theorem closed : joinedFacts Tryz.checked.prog 13 Tryz.f13 Rows.fnContainerShortSpec Rows.fnContainerShortRow = true := by
  unfold joinedFacts
  repeat' (with_reducible refine (Bool.and_eq_true_iff.2 ⟨?_, ?_⟩))
  all_goals (as_aux_lemma => kernel_rfl)

theorem holds : Rows.FnContainerShortSaid :=
  OpenClaim.holds_of_wide 13 Tryz.f13 rfl rfl rfl rfl rfl rfl rfl ⟨rfl, rfl, rfl, rfl, rfl⟩ rfl rfl rfl rfl rfl (by as_aux_lemma => kernel_rfl) Tryz.func13 closed
    (of_decide_eq_true (by as_aux_lemma => kernel_rfl)) (by unfold Func.isWrapper; first | (rw [if_pos (by decide +kernel)]; kernel_rfl) | (rw [if_neg (by decide +kernel)]; exact ⟨rfl, rfl⟩))
    (fun os started H enc _ => lifted os started H enc)

end Go.Proofs.YtekbbnkkninolaaGreat.lawFnContainerShort
