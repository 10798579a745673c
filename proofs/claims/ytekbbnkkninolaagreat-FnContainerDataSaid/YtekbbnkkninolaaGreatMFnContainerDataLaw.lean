/- The data of a container is that of which it was made, in as many blocks as the size tells, and a container is never longer than its data and what blocks have beside their bodies. Conditions: none. -/
import Derived.Test.YtekbbnkkninolaaGreatMFnContainerDataLawA
namespace Go.Proofs.YtekbbnkkninolaaGreat.lawFnContainerData
set_option linter.unusedVariables false
set_option linter.unusedSimpArgs false
open Go.ChangeShapes Go.WideShapes Go.ChangeAt Go.RowKit Go.Joins
open Go.ChangeMaps (open_string shut_string)


set_option maxRecDepth 100000 in
set_option maxHeartbeats 8000000 in
theorem walk (vc : Value) (lc : List UInt8) (w : World) (hc : ArgU w vc lc) :
    Calls Tryz.prog 12  #[vc] w (Same (.bool true) w) := by
  have cD := fun w' hu => drawMakeContainer_any vc lc w' (hc.up (w' := w') hu)
  obtain ⟨ac, cc, rfl, hc1, hc2, -⟩ := hc
  unfold maxLen at hc2
  by_cases h1 : 1048576 < lc.length
  · go_enter Tryz.func12, Tryz.ntmps12
    go_wp2
    go_ret
    exact ⟨rfl, by (repeat (first | with_reducible exact Up.refl _ | with_reducible assumption | with_reducible refine Up.set ?_ (by first | exact Nat.le_refl _ | (simp only []; omega) | (simp; omega)) _ | with_reducible refine Up.alloc ?_ _ | with_reducible refine Up.drew ?_ | refine Up.trans ?_ (by with_reducible assumption)))⟩
  go_enter Tryz.func12, Tryz.ntmps12
  go_wp2_with (go_at_call 51; (with_reducible refine (cD _ (by (repeat (first | with_reducible exact Up.refl _ | with_reducible assumption | with_reducible refine Up.set ?_ (by first | exact Nat.le_refl _ | (simp only []; omega) | (simp; omega)) _ | with_reducible refine Up.alloc ?_ _ | with_reducible refine Up.drew ?_ | refine Up.trans ?_ (by with_reducible assumption))))).mono ?_); rintro e w1 ⟨s, dict, d, n, rfl, hs, hdi, hd, hn, U1⟩; simp only [setV]; have B1 := bcell U1; have Z1 := U1.size; (try simp at Z1); (try rw [Nat.add_one_le_iff] at Z1))
  have cI := fun wx => makeContainerI_any s dict d n wx hs (by omega) (by omega) ⟨by omega, by omega⟩
  have cS := fun wx => makeCS_any s dict d n wx (by omega) (by omega)
  clear cD
  cases hmk : mkO s dict.data.toList d.data.toList n with
  | none =>
    rw [hmk] at cI cS
    unfold optS at cI cS
    simp only [setV, Option.getD_none, Option.isSome_none] at *
    clear hmk
    go_wp2_with (first | ((go_at_call 52; (with_reducible refine (cI _).mono ?_); rintro e w2 ⟨rfl, U2⟩; have B2 := bcell U2; have Z2 := U2.size; (try simp at Z2); (try rw [Nat.add_one_le_iff] at Z2)); (try have V2a : w1.heap.size < w2.heap.size := (by omega)); (try have V2b : w1.heap.size + 1 < w2.heap.size := (by omega)); (try have V2c : w2.heap.size < w2.heap.size := (by omega)); (try have V2d : w3.heap.size < w2.heap.size := (by omega)); (try have V2e : w4.heap.size < w2.heap.size := (by omega)); skip) | ((go_at_call 53; (with_reducible refine (cS _).mono ?_); rintro e w3 ⟨rfl, U3⟩; have B3 := bcell U3; have Z3 := U3.size; (try simp at Z3); (try rw [Nat.add_one_le_iff] at Z3)); (try have V3a : w1.heap.size < w3.heap.size := (by omega)); (try have V3b : w1.heap.size + 1 < w3.heap.size := (by omega)); (try have V3c : w2.heap.size < w3.heap.size := (by omega)); (try have V3d : w3.heap.size < w3.heap.size := (by omega)); (try have V3e : w4.heap.size < w3.heap.size := (by omega)); skip))
    go_ret
    refine ⟨ret_bool (by simp; try rfl), ?_⟩
    (repeat (first | with_reducible exact Up.refl _ | with_reducible assumption | with_reducible refine Up.set ?_ (by first | exact Nat.le_refl _ | (simp only []; omega) | (simp; omega)) _ | with_reducible refine Up.alloc ?_ _ | with_reducible refine Up.drew ?_ | refine Up.trans ?_ (by with_reducible assumption)))
  | some T =>
    have hdl := ba_len d
    obtain ⟨l, hM, hn1, hlen, hsz⟩ := made_of hmk (by omega)
    have hTz := bs_size T
    have hcb := hM.cont
    have hco := hM.conO
    have hby := hM.bytes
    have hle := bytes_sizes l hM.small
    have hl40 := hM.ok.acc.1
    have hrl := renum_length l 0
    have hTb : T.length ≤ 4000 := by omega
    rw [hmk] at cI cS
    unfold optS at cI cS
    simp only [Option.getD_some, Option.isSome_some] at cI cS
    have cC := fun wx => conI_any s dict (bs T) wx hs (by omega) (by omega)
    have cB := fun wx => contI_some hcb (by omega) wx
    have cZ := fun wx => csizei_any (bs T) wx (by omega)
    have ez : contSize (bs T) = (d.size : Int) := by unfold contSize; rw [hcb]; show sizeSum (renum 0 l) = _; rw [renum_sum]; omega
    have hq : ((d.size : Int) + n - 1).tdiv n = ((renum 0 l).length : Int) := by
      obtain ⟨m, rfl⟩ := Int.eq_ofNat_of_zero_le (by omega : 0 ≤ n)
      have e1 : (d.size : Int) + (m : Int) - 1 = ((d.size + m - 1 : Nat) : Int) := by omega
      rw [e1, ← Int.ofNat_tdiv, hrl, hlen, hdl, Int.toNat_natCast]
    rw [hco] at cC
    rw [ez] at cZ
    unfold optS at cC
    simp only [setV, Option.getD_some, Option.isSome_some, bs_self] at *
    have hfin : (T.length : Int) ≤ (d.size : Int) + 10 * ((renum 0 l).length : Int) := by omega
    have hR40 : (renum 0 l).length ≤ 40 := by omega
    clear hmk hM hcb hco hlen hsz hby hle hl40 hrl hdl ez
    generalize renum 0 l = R at *
    go_wp2_with (first | ((go_at_call 52; (with_reducible refine (cI _).mono ?_); rintro e w2 ⟨rfl, U2⟩; have B2 := bcell U2; have Z2 := U2.size; (try simp at Z2); (try rw [Nat.add_one_le_iff] at Z2)); (try have V2a : w1.heap.size < w2.heap.size := (by omega)); (try have V2b : w1.heap.size + 1 < w2.heap.size := (by omega)); (try have V2c : w2.heap.size < w2.heap.size := (by omega)); (try have V2d : w3.heap.size < w2.heap.size := (by omega)); (try have V2e : w4.heap.size < w2.heap.size := (by omega)); skip) | ((go_at_call 53; (with_reducible refine (cS _).mono ?_); rintro e w3 ⟨rfl, U3⟩; have B3 := bcell U3; have Z3 := U3.size; (try simp at Z3); (try rw [Nat.add_one_le_iff] at Z3)); (try have V3a : w1.heap.size < w3.heap.size := (by omega)); (try have V3b : w1.heap.size + 1 < w3.heap.size := (by omega)); (try have V3c : w2.heap.size < w3.heap.size := (by omega)); (try have V3d : w3.heap.size < w3.heap.size := (by omega)); (try have V3e : w4.heap.size < w3.heap.size := (by omega)); skip) | ((go_at_call 19; (with_reducible refine (cC _).mono ?_); rintro e w4 ⟨rfl, U4⟩; have B4 := bcell U4; have Z4 := U4.size; (try simp at Z4); (try rw [Nat.add_one_le_iff] at Z4)); (try have V4a : w1.heap.size < w4.heap.size := (by omega)); (try have V4b : w1.heap.size + 1 < w4.heap.size := (by omega)); (try have V4c : w2.heap.size < w4.heap.size := (by omega)); (try have V4d : w3.heap.size < w4.heap.size := (by omega)); (try have V4e : w4.heap.size < w4.heap.size := (by omega)); skip) | (go_at_call 54; (with_reducible refine (cB _).mono ?_); rintro e w5 ⟨v5, rfl, ho5, U5⟩; obtain ⟨a5, c5, rfl⟩ := ownsRow_shape ho5; clear ho5) | ((go_at_call 55; (with_reducible refine (cZ _).mono ?_); rintro e w6 ⟨rfl, U6⟩; have B6 := bcell U6; have Z6 := U6.size; (try simp at Z6); (try rw [Nat.add_one_le_iff] at Z6)); (try have V6a : w1.heap.size < w6.heap.size := (by omega)); (try have V6b : w1.heap.size + 1 < w6.heap.size := (by omega)); (try have V6c : w2.heap.size < w6.heap.size := (by omega)); (try have V6d : w3.heap.size < w6.heap.size := (by omega)); (try have V6e : w4.heap.size < w6.heap.size := (by omega)); skip))
    go_ret
    refine ⟨ret_bool (by simp; try omega), ?_⟩
    (repeat (first | with_reducible exact Up.refl _ | with_reducible assumption | with_reducible refine Up.set ?_ (by first | exact Nat.le_refl _ | (simp only []; omega) | (simp; omega)) _ | with_reducible refine Up.alloc ?_ _ | with_reducible refine Up.drew ?_ | refine Up.trans ?_ (by with_reducible assumption)))

set_option maxRecDepth 100000 in
theorem lifted (os : Os) (started : os.Started) (H : Type) (enc : TypeId × Value → H) :
    ReturnsInHanded {} Tryz.checked os 12 .any (Rows.fnContainerDataSpec.pre6 enc Tryz.prog Tryz.f12 Rows.fnContainerDataRow.domain false) (Rows.fnContainerDataSpec.post enc Tryz.prog Tryz.f12 false true false false) := by
  refine returnsInHanded_of_change (C := Tryz.checked) own started (by kernel_rfl) Tryz.func12
    (ChangeSpec.witness6 (enc := enc) (C := Tryz.checked) false ⟨#[], #[.slice none 0 0], []⟩ 8 (by kernel_rfl) (by kernel_rfl) (by kernel_rfl) (by kernel_rfl)) ?_
  intro W base args ds gs before hval0 hW hcnd _
  have hval : ∀ (j : Nat) t v, Tryz.f12.params[j]? = some t → args[j]? = some v → Value.okWide Tryz.prog W .any base t v := hval0
  have hW' := hW
  obtain ⟨p, q, hA0, hV, rfl, hfz, hnd⟩ := hW
  have hA : DataW.TrodAll enc Tryz.prog W 0 (fun _ => true) true Tryz.f12.params.toList args.toList ds p := hA0
  rw [Tryz.params12] at hA hval
  obtain ⟨v0, d0, rfl, rfl, h0⟩ := trodAll_one hA
  obtain ⟨p0, rfl⟩ : ∃ x, x = p := ⟨_, rfl⟩
  obtain ⟨a0, n0, c0, rfl⟩ := okWide_slice Tryz.underlying38 (hval 0 38 v0 rfl rfl)
  have hlt0 : ∀ x ∈ p0, x.block < W.heap.size := fun x hx => by simpa using hW'.lt x (by simp [hx])
  obtain ⟨fuel0, hf0⟩ := h0
  obtain ⟨lcode, hcode⟩ := open_argU (by simpa [Value.cells] using hf0) hlt0
  obtain ⟨rfl, rfl⟩ := trodVars_none hV
  refine (walk _ _ W hcode).mono fun e W' ⟨he, hu⟩ => ?_
  subst he
  exact ⟨_, rfl, post_law (f := Tryz.f12) TryzlaidOut (by kernel_rfl) rfl Tryz.underlying4 rfl hW' (fun ds' h => by subst h; exact ⟨rfl, rfl, rfl⟩) hu⟩

set_option maxHeartbeats 80000000 in
theorem closed : joinedFacts Tryz.checked.prog 12 Tryz.f12 Rows.fnContainerDataSpec Rows.fnContainerDataRow = true := by
  unfold joinedFacts
  repeat' (with_reducible refine (Bool.and_eq_true_iff.2 ⟨?_, ?_⟩))
  all_goals (as_aux_lemma => kernel_rfl)

theorem holds : Rows.FnContainerDataSaid :=
  OpenClaim.holds_of_wide 12 Tryz.f12 rfl rfl rfl rfl rfl rfl rfl ⟨rfl, rfl, rfl, rfl, rfl⟩ rfl rfl rfl rfl rfl (by as_aux_lemma => kernel_rfl) Tryz.func12 closed
    (of_decide_eq_true (by as_aux_lemma => kernel_rfl)) (by unfold Func.isWrapper; first | (rw [if_pos (by decide +kernel)]; kernel_rfl) | (rw [if_neg (by decide +kernel)]; exact ⟨rfl, rfl⟩))
    (fun os started H enc _ => lifted os started H enc)

end Go.Proofs.YtekbbnkkninolaaGreat.lawFnContainerData
