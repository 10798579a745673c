/- A block of which one byte is changed is no block, unless the byte tells the length or is equal modulo 255. Conditions: none. -/
import Derived.Test.YthemmoecocjpjaaArgs
import Derived.Test.YthemmoecocjpjaaChangePlain
namespace Go.Proofs.Ythemmoecocjpjaa.lawBlockChange
set_option linter.unusedVariables false
set_option linter.unusedSimpArgs false
open Go.ChangeShapes Go.WideShapes Go.ChangeAt Go.RowKit Go.Joins
open Go.ChangeMaps (open_string shut_string)

def Rel (w1 : World) (T : ByteArray) (i : Value) (wr : World) : Prop := ∃ k : Nat, k ≤ T.size ∧ i = .int .i64 k ∧ Up w1 wr

set_option maxRecDepth 100000 in
set_option maxHeartbeats 8000000 in
theorem walk (vc vm : Value) (lc lm : List UInt8) (w : World) (hc : ArgU w vc lc) (hm : ArgU w vm lm) :
    Calls Try.prog 3  #[vc, vm] w (Same (.bool true) w) := by
  have cD := fun w' hu => drawFormatBlock_any vc lc w' (hc.up (w' := w') hu)
  obtain ⟨ac, cc, rfl, hc1, hc2, -⟩ := hc
  obtain ⟨am, cm, rfl, hm1, hm2, -⟩ := hm
  unfold maxLen at hc2 hm2
  by_cases h1 : 1048576 < lc.length
  · go_enter Try.func3, Try.ntmps3
    go_wp2
    go_ret
    exact ⟨rfl, by (repeat (first | with_reducible exact Up.refl _ | with_reducible assumption | with_reducible refine Up.set ?_ (by first | exact Nat.le_refl _ | (simp only []; omega) | (simp; omega)) _ | with_reducible refine Up.alloc ?_ _ | with_reducible refine Up.drew ?_ | refine Up.trans ?_ (by with_reducible assumption)))⟩
  by_cases h2 : 1048576 < lm.length
  · go_enter Try.func3, Try.ntmps3
    go_wp2
    go_ret
    exact ⟨rfl, by (repeat (first | with_reducible exact Up.refl _ | with_reducible assumption | with_reducible refine Up.set ?_ (by first | exact Nat.le_refl _ | (simp only []; omega) | (simp; omega)) _ | with_reducible refine Up.alloc ?_ _ | with_reducible refine Up.drew ?_ | refine Up.trans ?_ (by with_reducible assumption)))⟩
  go_enter Try.func3, Try.ntmps3
  go_wp2_with (go_at_call 14; (with_reducible refine (cD _ (by (repeat (first | with_reducible exact Up.refl _ | with_reducible assumption | with_reducible refine Up.set ?_ (by first | exact Nat.le_refl _ | (simp only []; omega) | (simp; omega)) _ | with_reducible refine Up.alloc ?_ _ | with_reducible refine Up.drew ?_ | refine Up.trans ?_ (by with_reducible assumption))))).mono ?_); rintro e w1 ⟨vq, rfl, ⟨⟨n, r, s, b⟩, rfl, hb⟩, U1⟩; simp only [blkV])
  have cI := fun w => fmtI_any n r s b w (by omega)
  have cS := fun w => fmtS_any n r s b w (by omega)
  unfold fmtB at cI cS
  cases hf : formB n r s b
  · rw [hf] at cI cS
    simp only [Bool.false_eq_true, if_false] at cI cS
    clear hf
    go_wp2_with (first | (go_at_call 15; (with_reducible refine (cI _).mono ?_); rintro e w2 ⟨rfl, U2⟩; have B2 := bcell U2; have Z2 := U2.size; (try simp at Z2); (try rw [Nat.add_one_le_iff] at Z2)) | (go_at_call 16; (with_reducible refine (cS _).mono ?_); rintro e w3 ⟨rfl, U3⟩; have B3 := bcell U3; have Z3 := U3.size; (try simp at Z3); (try rw [Nat.add_one_le_iff] at Z3)))
    go_ret
    exact ⟨ret_bool (by simp), by (repeat (first | with_reducible exact Up.refl _ | with_reducible assumption | with_reducible refine Up.set ?_ (by first | exact Nat.le_refl _ | (simp only []; omega) | (simp; omega)) _ | with_reducible refine Up.alloc ?_ _ | with_reducible refine Up.drew ?_ | refine Up.trans ?_ (by with_reducible assumption)))⟩
  · rw [hf] at cI cS
    simp only [if_true] at cI cS
    have hT := text_size n r s b
    have hp := fun (i : Nat) (x : Int) hi h6 h7 x0 x1 hx => parse_changed hf (i := i) (x := x) hi h6 h7 x0 x1 hx
    obtain ⟨-, -, hb3⟩ := formB_bd hf
    clear hf
    generalize textB n r s b = T at *
    have hT1 : 10 ≤ T.size := by omega
    have hT2 : T.size ≤ 74 := by omega
    clear hT
    go_wp2_with (first | (go_at_call 15; (with_reducible refine (cI _).mono ?_); rintro e w2 ⟨rfl, U2⟩; have B2 := bcell U2; have Z2 := U2.size; (try simp at Z2); (try rw [Nat.add_one_le_iff] at Z2)) | (go_at_call 16; (with_reducible refine (cS _).mono ?_); rintro e w3 ⟨rfl, U3⟩; have B3 := bcell U3; have Z3 := U3.size; (try simp at Z3); (try rw [Nat.add_one_le_iff] at Z3)))
    go_loopw [10] (fun i wr => Rel w3 T i wr) (fun i _ => T.size - (intOf i).toNat)
    case atStart => exact ⟨0, Nat.zero_le _, rfl, by (repeat (first | with_reducible exact Up.refl _ | with_reducible assumption | with_reducible refine Up.set ?_ (by first | exact Nat.le_refl _ | (simp only []; omega) | (simp; omega)) _ | with_reducible refine Up.alloc ?_ _ | with_reducible refine Up.drew ?_ | refine Up.trans ?_ (by with_reducible assumption)))⟩
    case round =>
      obtain ⟨k, hk, rfl, U4⟩ := hrel
      by_cases hlt : k < T.size
      · have hbk := byteAt_bd T k
        have eb : (T[k].toNat : Int) = byteAt T k := by
          unfold byteAt
          rw [List.getD_eq_getElem?_getD, List.getElem?_eq_getElem (by simpa using hlt)]
          rfl
        go_wp2
        · exact ⟨⟨7, by omega, rfl, U4⟩, by simp [intOf]; omega⟩
        · exact ⟨⟨8, by omega, rfl, U4⟩, by simp [intOf]; omega⟩
        · exact ⟨⟨k + 1, by omega, by go_num, U4⟩, by simp [intOf]; omega⟩
        · rename_i h6 h7 hxx Kx ax
          obtain ⟨x, hx⟩ : ∃ x, x = (byteAt T k + 1 + (lm.length : Int) % 254) % 256 := ⟨_, rfl⟩
          rw [← hx] at hxx ⊢
          have hx0 : 0 ≤ x := by omega
          have hx1 : x ≤ 255 := by omega
          have hne : (x - byteAt T k) % 255 ≠ 0 := fun h => by
            have h2 := Int.tmod_eq_zero_of_dvd (Int.dvd_of_emod_eq_zero h)
            have h3 := hxx.2
            rw [h2] at h3
            cases h3
          have hPk := hp k x hlt (by omega) (by omega) hx0 hx1 hne
          have cPk := fun w => parseI_any (chg T k x) 0 w (by rw [chg_size T k x hlt]; omega)
          rw [hPk] at cPk
          unfold noBlock chg at cPk
          have hk1 : k + 1 ≤ T.size := hlt
          have e1 := ext_le T 0 k
          have e2 := ext_le T (k + 1) T.size
          have z1 := strOfNums_size
          have hkn : ((k : Int) + 1).toNat = k + 1 := by omega
          clear hxx hne hPk hx h6 h7 eb hbk hp
          refine wp_region_upf 18 (by kernel_rfl) (by kernel_rfl) ?_
          simp only [List.take, List.drop]
          repeat (refine wpUp_step (fun K hK => ?_); go_simp; (try simp only [↓IntWalk.iteOmega]); first
            | (refine hK _ _ ?_; clear hK K)
            | (apply stepU_c
               · intro wq hwq; (have hbq := bcell hwq; (repeat (first | refine fills_no (by rfl) ?_ | refine fills_yes (by rfl) (fun vq hvq => ?_))); simp only [List.filter_nil, fills]; unfold upAt; (try (have hcq := lit1_conv hvq)); go_simp; (try go_bits); (try simp only [↓IntWalk.iteOmega]); (try (rw [dif_pos (by omega)]; go_simp; try go_bits)); first | exact upOut_value | (apply upOut_call; (go_at_call 17; with_reducible exact cPk _)) | (apply upOut_eq; (go_at_call 17; with_reducible exact cPk _)))
               go_simp; refine hK _ _ ?_; clear hK K)
            | (refine stepU_m (by kernel_rfl) (Lit1 x) (lit1_closed x) (fun wq hwq => ?_) ?_
               · (have hbq := bcell hwq; (repeat (first | refine fills_no (by rfl) ?_ | refine fills_yes (by rfl) (fun vq hvq => ?_))); simp only [List.filter_nil, fills]; unfold upAt; (try (have hcq := lit1_conv hvq)); go_simp; (try go_bits); (try simp only [↓IntWalk.iteOmega]); (try (rw [dif_pos (by omega)]; go_simp; try go_bits)); exact upOut_make ((Up.refl _).alloc _) (lit1_new _ _))
               refine hK _ _ ?_; clear hK K)
            | (refine stepU_m (by kernel_rfl) (Boxed wr.heap.size #[.int .i64 0, .bool false, .int .i64 0, .string ⟨#[]⟩] 24) (boxed_closed _ _ _) (fun wq hwq => ?_) ?_
               · (have hbq := bcell hwq; (repeat (first | refine fills_no (by rfl) ?_ | refine fills_yes (by rfl) (fun vq hvq => ?_))); simp only [List.filter_nil, fills]; unfold upAt; (try (have hcq := lit1_conv hvq)); go_simp; (try go_bits); (try simp only [↓IntWalk.iteOmega]); (try (rw [dif_pos (by omega)]; go_simp; try go_bits)); exact upOut_make ((Up.refl _).alloc _) (boxed_new hwq.size))
               refine hK _ _ ?_; clear hK K))
          refine wpUp_nil (fun wq hwq => ?_)
          simp only [fills]
          rintro v ⟨q, rfl, hq, hblk⟩ v2 -
          have c0 := box_cell hblk 0
          have c1 := box_cell hblk 1
          have c2 := box_cell hblk 2
          have c3 := box_cell hblk 3
          have f0 := box_free hblk 0
          have f1 := box_free hblk 1
          have f2 := box_free hblk 2
          have f3 := box_free hblk 3
          simp at c0 c1 c2 c3
          have hq3 : w3.heap.size ≤ q := Nat.le_trans U4.size hq
          go_wp2
          rw [onlyN_normal]
          go_wp2
          go_roundw
          case rel => exact ⟨k + 1, by omega, by go_num, by (repeat (first | with_reducible exact Up.refl _ | with_reducible assumption | with_reducible refine Up.set ?_ (by first | exact Nat.le_refl _ | (simp only []; omega) | (simp; omega)) _ | with_reducible refine Up.alloc ?_ _ | with_reducible refine Up.drew ?_ | refine Up.trans ?_ (by with_reducible assumption)))⟩
          case measure => simp [intOf]; omega
      · have e : k = T.size := by omega
        subst e
        go_wp2
        go_ret
        exact ⟨rfl, by (repeat (first | with_reducible exact Up.refl _ | with_reducible assumption | with_reducible refine Up.set ?_ (by first | exact Nat.le_refl _ | (simp only []; omega) | (simp; omega)) _ | with_reducible refine Up.alloc ?_ _ | with_reducible refine Up.drew ?_ | refine Up.trans ?_ (by with_reducible assumption)))⟩

set_option maxRecDepth 100000 in
theorem lifted (os : Os) (started : os.Started) (H : Type) (enc : TypeId × Value → H) :
    ReturnsInHanded {} Try.checked os 3 .any (Rows.fnBlockChangeSpec.pre6 enc Try.prog Try.f3 Rows.fnBlockChangeRow.domain false) (Rows.fnBlockChangeSpec.post enc Try.prog Try.f3 false true false false) := by
  refine returnsInHanded_of_change (C := Try.checked) own started (by kernel_rfl) Try.func3
    (ChangeSpec.witness6 (enc := enc) (C := Try.checked) false ⟨#[], #[.slice none 0 0, .slice none 0 0], []⟩ 8 (by kernel_rfl) (by kernel_rfl) (by kernel_rfl) (by kernel_rfl)) ?_
  intro W base args ds gs before hval0 hW hcnd _
  have hval : ∀ (j : Nat) t v, Try.f3.params[j]? = some t → args[j]? = some v → Value.okWide Try.prog W .any base t v := hval0
  have hW' := hW
  obtain ⟨p, q, hA0, hV, rfl, hfz, hnd⟩ := hW
  have hA : DataW.TrodAll enc Try.prog W 0 (fun _ => true) true Try.f3.params.toList args.toList ds p := hA0
  rw [Try.params3] at hA hval
  obtain ⟨v0, v1, d0, d1, p0, p1, rfl, rfl, rfl, h0, h1⟩ := trodAll_two hA
  obtain ⟨a0, n0, c0, rfl⟩ := okWide_slice Try.underlying22 (hval 0 22 v0 rfl rfl)
  have hlt0 : ∀ x ∈ p0, x.block < W.heap.size := fun x hx => by simpa using hW'.lt x (by simp [hx])
  obtain ⟨fuel0, hf0⟩ := h0
  obtain ⟨lcode, hcode⟩ := open_argU (by simpa [Value.cells] using hf0) hlt0
  obtain ⟨a1, n1, c1, rfl⟩ := okWide_slice Try.underlying22 (hval 1 22 v1 rfl rfl)
  have hlt1 : ∀ x ∈ p1, x.block < W.heap.size := fun x hx => by simpa using hW'.lt x (by simp [hx])
  obtain ⟨fuel1, hf1⟩ := h1
  obtain ⟨lmore, hmore⟩ := open_argU (by simpa [Value.cells] using hf1) hlt1
  obtain ⟨rfl, rfl⟩ := trodVars_none hV
  refine (walk _ _ _ _ W hcode hmore).mono fun e W' ⟨he, hu⟩ => ?_
  subst he
  exact ⟨_, rfl, post_law (f := Try.f3) TrylaidOut (by kernel_rfl) rfl Try.underlying4 rfl hW' (fun ds' h => by subst h; exact ⟨rfl, rfl, rfl⟩) hu⟩

theorem holds : Rows.FnBlockChangeSaid :=
  OpenClaim.holds_of_wide 3 Try.f3 rfl rfl rfl rfl rfl rfl rfl ⟨rfl, rfl, rfl, rfl, rfl⟩ rfl rfl rfl rfl rfl (by kernel_rfl) Try.func3 (by kernel_rfl)
    (of_decide_eq_true (by kernel_rfl)) (by unfold Func.isWrapper; first | (rw [if_pos (by decide +kernel)]; kernel_rfl) | (rw [if_neg (by decide +kernel)]; exact ⟨rfl, rfl⟩))
    (fun os started H enc _ => lifted os started H enc)

end Go.Proofs.Ythemmoecocjpjaa.lawBlockChange
