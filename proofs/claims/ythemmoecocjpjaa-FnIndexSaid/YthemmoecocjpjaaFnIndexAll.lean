/- At each place a block begins, its data begins where the data of the blocks before ends, and the last block ends the container. Conditions: none. -/
import Derived.Test.YthemmoecocjpjaaFnIndexAllA
namespace Go.Proofs.Ythemmoecocjpjaa.lawIndex
set_option linter.unusedVariables false
set_option linter.unusedSimpArgs false
open Go.ChangeShapes Go.WideShapes Go.ChangeAt Go.RowKit Go.Joins
open Go.ChangeMaps (open_string shut_string)

def Rel (l : List BlkD) (w : World) (z p i : Value) (wr : World) : Prop := ∃ k : Nat, k ≤ l.length ∧ i = .int .i64 k ∧ z = .int .i64 (sizeSum (l.take k)) ∧ p = .int .i64 (bytesSum (l.take k)) ∧ Up w wr

set_option maxRecDepth 100000 in
set_option maxHeartbeats 8000000 in
theorem walk (vc : Value) (lc : List UInt8) (w : World) (hc : ArgU w vc lc) :
    Calls Try.prog 7  #[vc] w (Same (.bool true) w) := by
  have cD := fun w' hu => drawIndexOf_any vc lc w' (hc.up (w' := w') hu)
  obtain ⟨ac, cc, rfl, hc1, hc2, -⟩ := hc
  unfold maxLen at hc2
  by_cases h1 : 1048576 < lc.length
  · go_enter Try.func7, Try.ntmps7
    go_wp2
    go_ret
    exact ⟨rfl, by (repeat (first | with_reducible exact Up.refl _ | with_reducible assumption | with_reducible refine Up.set ?_ (by first | exact Nat.le_refl _ | (simp only []; omega) | (simp; omega)) _ | with_reducible refine Up.alloc ?_ _ | with_reducible refine Up.drew ?_ | refine Up.trans ?_ (by with_reducible assumption)))⟩
  go_enter Try.func7, Try.ntmps7
  go_wp2_with (go_at_call 27; (with_reducible refine (cD _ (by (repeat (first | with_reducible exact Up.refl _ | with_reducible assumption | with_reducible refine Up.set ?_ (by first | exact Nat.le_refl _ | (simp only []; omega) | (simp; omega)) _ | with_reducible refine Up.alloc ?_ _ | with_reducible refine Up.drew ?_ | refine Up.trans ?_ (by with_reducible assumption))))).mono ?_); rintro e w1 ⟨s, rfl, hs, U1⟩)
  have cI := fun w => indexI_any s w (by omega)
  have cS := fun w => indexS_any s w (by omega)
  unfold IndexPost at cI cS
  cases hb : contBlocks s with
  | none =>
    rw [hb] at cI cS
    simp only [Option.isSome_none, Option.getD_none, List.length_nil] at cI cS
    clear hb
    go_wp2_with fail
    (with_reducible refine (cI _).mono ?_); rintro e w2 ⟨v2, rfl, h2, U2⟩
    go_wp2_with fail
    (with_reducible refine (cS _).mono ?_); rintro e w3 ⟨v3, rfl, h3, U3⟩
    have cE := fun w hu => soPlaces_any _ _ _ _ _ w (ownsRow_up (ownsRow_up h2 U3) hu) (ownsRow_up h3 hu)
    go_wp2_with (first | (go_at_call 30; (with_reducible refine (cE _ (by (repeat (first | with_reducible exact Up.refl _ | with_reducible assumption | with_reducible refine Up.set ?_ (by first | exact Nat.le_refl _ | (simp only []; omega) | (simp; omega)) _ | with_reducible refine Up.alloc ?_ _ | with_reducible refine Up.drew ?_ | refine Up.trans ?_ (by with_reducible assumption))))).mono ?_); rintro e w4 ⟨rfl, U4⟩))
    go_ret
    exact ⟨ret_bool (by simp), by (repeat (first | with_reducible exact Up.refl _ | with_reducible assumption | with_reducible refine Up.set ?_ (by first | exact Nat.le_refl _ | (simp only []; omega) | (simp; omega)) _ | with_reducible refine Up.alloc ?_ _ | with_reducible refine Up.drew ?_ | refine Up.trans ?_ (by with_reducible assumption)))⟩
  | some l =>
    obtain ⟨hsz, hsum, hlie⟩ := cont_lies hb
    have hok := contBlocks_ok hb
    have cZ := fun w => csizei_any s w (by omega)
    have cP := fun p w => parseI_any s p w (by omega)
    have cB := fun w => contI_some hb (by omega) w
    have ez : contSize s = sizeSum l := by unfold contSize; rw [hb]
    have hl40 := hok.1
    rw [hb] at cI cS
    rw [ez] at cZ
    simp only [Option.isSome_some, Option.getD_some] at cI cS
    have HPL : Hid ((placesK l l.length).length = l.length) := placesK_length l l.length
    have hpg := fun k hk => placesK_get l l.length k hk
    clear hb ez
    generalize placesK l l.length = P at *
    go_wp2_with fail
    (with_reducible refine (cI _).mono ?_); rintro e w2 ⟨v2, rfl, h2, U2⟩
    go_wp2_with fail
    (with_reducible refine (cS _).mono ?_); rintro e w3 ⟨v3, rfl, h3, U3⟩
    have cE := fun w hu => soPlaces_any P _ _ _ _ w (ownsRow_up (ownsRow_up h2 U3) hu) (ownsRow_up h3 hu)
    have h23 := ownsRow_up h2 U3
    rw [HPL.out] at h23
    obtain ⟨a, ca, rfl, hm, hsome⟩ := ownsRow_any h23
    go_wp2_with (first | (go_at_call 30; (with_reducible refine (cE _ (by (repeat (first | with_reducible exact Up.refl _ | with_reducible assumption | with_reducible refine Up.set ?_ (by first | exact Nat.le_refl _ | (simp only []; omega) | (simp; omega)) _ | with_reducible refine Up.alloc ?_ _ | with_reducible refine Up.drew ?_ | refine Up.trans ?_ (by with_reducible assumption))))).mono ?_); rintro e w4 ⟨rfl, U4⟩))
    (with_reducible refine (cB _).mono ?_); rintro e w5 ⟨v5, rfl, h5, U5⟩
    obtain ⟨a5, ca5, rfl, hm5, hsome5⟩ := ownsRow_any h5
    go_wp2
    have hU5 : Up w w5 := by (repeat (first | with_reducible exact Up.refl _ | with_reducible assumption | with_reducible refine Up.set ?_ (by first | exact Nat.le_refl _ | (simp only []; omega) | (simp; omega)) _ | with_reducible refine Up.alloc ?_ _ | with_reducible refine Up.drew ?_ | refine Up.trans ?_ (by with_reducible assumption)))
    go_loopw [10, 11, 12] (fun z p i wr => Rel l w5 z p i wr) (fun _ _ i _ => l.length - (intOf i).toNat)
    case atStart => exact ⟨0, Nat.zero_le _, rfl, rfl, rfl, Up.refl _⟩
    case round =>
      obtain ⟨k, hk, rfl, rfl, rfl, hup⟩ := hrel
      by_cases hlt : k < l.length
      · obtain ⟨hb1, hb2⟩ := sizeSum_bd (accOk_take hok k)
        obtain ⟨hr1, hr2⟩ := bytesSum_bd (accOk_take hok k)
        have hlen : (l.take k).length ≤ 40 := by simp; omega
        have hb3 : sizeSum (l.take k) ≤ 2560 := by omega
        have hr3 : bytesSum (l.take k) ≤ 2960 := by omega
        have hL := hlie k l[k] (List.getElem?_eq_getElem hlt)
        have cPk := fun w => cP (bytesSum (l.take k)) w
        rw [lies_parse hL] at cPk
        obtain ⟨hs1, hs2, hs3⟩ := hok.2 l[k] (List.getElem_mem hlt)
        have HS : Hid (sizeSum (l.take (k + 1)) = sizeSum (l.take k) + l[k].size) := sizeSum_take hlt
        obtain ⟨g, rfl, hnc, hcm, hbg, hg, hcells⟩ := hsome (by omega)
        have hup3 : Up w3 wr := (U4.trans U5).trans hup
        obtain ⟨d0, d1⟩ := plc_cells (w := wr) (fun j u hj => (hup3.cell (p := ⟨g, j, none⟩) hg).trans (hcells j u hj)) (hpg k hlt)
        have hgr := Nat.lt_of_lt_of_le hg hup3.size
        obtain ⟨g5, rfl, hnc5, hcm5, hbg5, hg5, hcells5⟩ := hsome5 (by omega)
        obtain ⟨c0, c1, c2, c3⟩ := blk_cells (w := wr) (fun j u hj => (hup.cell (p := ⟨g5, j, none⟩) hg5).trans (hcells5 j u hj)) hlt
        have hgr5 := Nat.lt_of_lt_of_le hg5 hup.size
        simp only at d0 d1
        generalize hbk : l[k] = b at *
        obtain ⟨n, r, z, d⟩ := b
        simp only [blkV] at *
        generalize hp2 : bytesSum (l.take (k + 1)) = p2 at *
        have HP2 := Lib.hid hp2
        clear hp2
        clear hcells hcells5 hL hlen hb2 hr2 cP
        go_wp2_with ((go_at_call 17; (with_reducible refine (cPk _).mono ?_); rintro e w7 ⟨rfl, U7⟩; have B7 := bcell U7; have Z7 := U7.size; (try simp at Z7); (try rw [Nat.add_one_le_iff] at Z7)); have e0 := (U7.cell (p := ⟨g, k * 2, none⟩) hgr).trans d0; have e1 := (U7.cell (p := ⟨g, k * 2 + 1, none⟩) hgr).trans d1; have f0 := (U7.cell (p := ⟨g5, k * 4, none⟩) hgr5).trans c0; have f1 := (U7.cell (p := ⟨g5, k * 4 + 1, none⟩) hgr5).trans c1; have f2 := (U7.cell (p := ⟨g5, k * 4 + 2, none⟩) hgr5).trans c2; have f3 := (U7.cell (p := ⟨g5, k * 4 + 3, none⟩) hgr5).trans c3; have hg7 := Nat.lt_of_lt_of_le hgr U7.size; have hg57 := Nat.lt_of_lt_of_le hgr5 U7.size)
        refine wp_region_up 28 (by kernel_rfl) (by kernel_rfl) ?_
        simp only [List.take, List.drop]
        repeat (refine wpUp_step (fun K hK => ?_); go_simp; (try simp only [↓IntWalk.iteOmega]); first
          | (refine hK _ _ ?_; clear hK K)
          | (apply stepU_c
             · intro wq hwq; (have hbq := bcell hwq; (repeat (first | refine fills_no (by rfl) ?_ | refine fills_yes (by rfl) (fun vq hvq => ?_))); simp only [List.filter_nil, fills]; unfold upAt; go_simp; (try go_bits); (try simp only [↓IntWalk.iteOmega]); (try (rw [dif_pos (by omega)]; go_simp; try go_bits)); first | exact upOut_value)
             go_simp; refine hK _ _ ?_; clear hK K))
        refine wpUp_nil (fun wq hwq => ?_)
        simp only [fills]
        have BQ := bcell hwq
        have hz7 := hwq.size
        simp at hz7
        go_wp2
        go_roundw
        case rel => exact ⟨k + 1, by omega, by go_num, by rw [HS.out], by rw [HP2.out], by (repeat (first | with_reducible exact Up.refl _ | with_reducible assumption | with_reducible refine Up.set ?_ (by first | exact Nat.le_refl _ | (simp only []; omega) | (simp; omega)) _ | with_reducible refine Up.alloc ?_ _ | with_reducible refine Up.drew ?_ | refine Up.trans ?_ (by with_reducible assumption)))⟩
        case measure => simp [intOf]; omega
      · have e : k = l.length := by omega
        subst e
        rw [List.take_length, ← hsz]
        go_wp2_with (first | (go_at_call 25; (with_reducible refine (cZ _).mono ?_); rintro e w8 ⟨rfl, U8⟩; have B8 := bcell U8; have Z8 := U8.size; (try simp at Z8); (try rw [Nat.add_one_le_iff] at Z8)))
        go_ret
        exact ⟨ret_bool (by simp), by (repeat (first | with_reducible exact Up.refl _ | with_reducible assumption | with_reducible refine Up.set ?_ (by first | exact Nat.le_refl _ | (simp only []; omega) | (simp; omega)) _ | with_reducible refine Up.alloc ?_ _ | with_reducible refine Up.drew ?_ | refine Up.trans ?_ (by with_reducible assumption)))⟩

set_option maxRecDepth 100000 in
theorem lifted (os : Os) (started : os.Started) (H : Type) (enc : TypeId × Value → H) :
    ReturnsInHanded {} Try.checked os 7 .any (Rows.fnIndexSpec.pre6 enc Try.prog Try.f7 Rows.fnIndexRow.domain false) (Rows.fnIndexSpec.post enc Try.prog Try.f7 false true false false) := by
  refine returnsInHanded_of_change (C := Try.checked) own started (by kernel_rfl) Try.func7
    (ChangeSpec.witness6 (enc := enc) (C := Try.checked) false ⟨#[], #[.slice none 0 0], []⟩ 8 (by kernel_rfl) (by kernel_rfl) (by kernel_rfl) (by kernel_rfl)) ?_
  intro W base args ds gs before hval0 hW hcnd _
  have hval : ∀ (j : Nat) t v, Try.f7.params[j]? = some t → args[j]? = some v → Value.okWide Try.prog W .any base t v := hval0
  have hW' := hW
  obtain ⟨p, q, hA0, hV, rfl, hfz, hnd⟩ := hW
  have hA : DataW.TrodAll enc Try.prog W 0 (fun _ => true) true Try.f7.params.toList args.toList ds p := hA0
  rw [Try.params7] at hA hval
  obtain ⟨v0, d0, rfl, rfl, h0⟩ := trodAll_one hA
  obtain ⟨p0, rfl⟩ : ∃ x, x = p := ⟨_, rfl⟩
  obtain ⟨a0, n0, c0, rfl⟩ := okWide_slice Try.underlying22 (hval 0 22 v0 rfl rfl)
  have hlt0 : ∀ x ∈ p0, x.block < W.heap.size := fun x hx => by simpa using hW'.lt x (by simp [hx])
  obtain ⟨fuel0, hf0⟩ := h0
  obtain ⟨lcode, hcode⟩ := open_argU (by simpa [Value.cells] using hf0) hlt0
  obtain ⟨rfl, rfl⟩ := trodVars_none hV
  refine (walk _ _ W hcode).mono fun e W' ⟨he, hu⟩ => ?_
  subst he
  exact ⟨_, rfl, post_law (f := Try.f7) TrylaidOut (by kernel_rfl) rfl Try.underlying4 rfl hW' (fun ds' h => by subst h; exact ⟨rfl, rfl, rfl⟩) hu⟩

theorem holds : Rows.FnIndexSaid :=
  OpenClaim.holds_of_wide 7 Try.f7 rfl rfl rfl rfl rfl rfl rfl ⟨rfl, rfl, rfl, rfl, rfl⟩ rfl rfl rfl rfl rfl (by kernel_rfl) Try.func7 (by kernel_rfl)
    (of_decide_eq_true (by kernel_rfl)) (by unfold Func.isWrapper; first | (rw [if_pos (by decide +kernel)]; kernel_rfl) | (rw [if_neg (by decide +kernel)]; exact ⟨rfl, rfl⟩))
    (fun os started H enc _ => lifted os started H enc)

end Go.Proofs.Ythemmoecocjpjaa.lawIndex
