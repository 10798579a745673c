/- Writing data in parts gives the stream to which all of it is compressed, and fails exactly if compressing does. Conditions: none. -/
import Derived.Test.YtgbakgaegldomaaGreatMFnWriteAllLawA
import Derived.Test.YtgbakgaegldomaaGreatMFnWriteAllLawB
import Derived.Test.YtgbakgaegldomaaGreatMFnWriteAllLawC
import Derived.Test.YtgbakgaegldomaaGreatMFnWriteAllLawD
import Derived.Test.YtgbakgaegldomaaGreatMFnWriteAllLawE
import Derived.Test.YtgbakgaegldomaaGreatMFnWriteAllLawF
import Derived.Test.YtgbakgaegldomaaGreatMFnWriteAllLawG
import Derived.Test.YtgbakgaegldomaaGreatMFnWriteAllLawH
import Derived.Test.YtgbakgaegldomaaGreatMFnWriteAllLawI
import Derived.Test.YtgbakgaegldomaaGreatMFnWriteAllLawJ
namespace Go.Proofs.YtgbakgaegldomaaGreat.lawFnWriteAll
set_option linter.unusedVariables false
set_option linter.unusedSimpArgs false
open Go.ChangeShapes Go.WideShapes Go.ChangeAt Go.RowKit Go.Joins
open Go.ChangeMaps (open_string shut_string)

set_option maxRecDepth 100000 in
set_option maxHeartbeats 8000000 in
theorem walk (vc : Value) (lc : List UInt8) (w : World) (hc : ArgU w vc lc) :
    Calls Tryz.prog 3  #[vc] w (Same (.bool true) w) := by
  have cD := fun w' hu => drawWriteAll_any vc lc w' (hc.up (w' := w') hu)
  obtain ⟨ac, cc, rfl, hc1, hc2, -⟩ := hc
  unfold maxLen at hc2
  by_cases h1 : 1048576 < lc.length
  · go_enter Tryz.func3, Tryz.ntmps3
    go_wp2_with fail
    go_ret
    exact ⟨rfl, by (repeat (first | with_reducible exact Up.refl _ | with_reducible assumption | with_reducible refine Up.set ?_ (by first | exact Nat.le_refl _ | (simp only []; omega) | (simp; omega)) _ | with_reducible refine Up.alloc ?_ _ | with_reducible refine Up.drew ?_ | refine Up.trans ?_ (by with_reducible assumption)))⟩
  go_enter Tryz.func3, Tryz.ntmps3
  go_wp2_with fail
  (with_reducible refine (cD _ (by (repeat (first | with_reducible exact Up.refl _ | with_reducible assumption | with_reducible refine Up.set ?_ (by first | exact Nat.le_refl _ | (simp only []; omega) | (simp; omega)) _ | with_reducible refine Up.alloc ?_ _ | with_reducible refine Up.drew ?_ | refine Up.trans ?_ (by with_reducible assumption))))).mono ?_); rintro e w1 ⟨k, u, vp, ps, rfl, hrd, hlt, hps, hp, hn, hz, U1⟩
  obtain ⟨a, cap, rfl, -⟩ := id hrd
  obtain ⟨ap, cp, rfl, hpm, -, -⟩ := id hp
  unfold maxLen at hpm
  simp only [kV]
  go_wp2_with fail
  have hX := (MapKept.heap_alloc w1 (.cells #[.int .i64 k.set.ord, .int .i64 k.set.lit, .int .i64 k.set.most, .slice a k.ps.length cap, .int .i64 k.base, .int .i64 k.last] 27)).1
  have hUa := (Up.refl w1).alloc (.cells #[.int .i64 k.set.ord, .int .i64 k.set.lit, .int .i64 k.set.most, .slice a k.ps.length cap, .int .i64 k.base, .int .i64 k.last] 27)
  have hUw : Up w (w1.alloc (.cells #[.int .i64 k.set.ord, .int .i64 k.set.lit, .int .i64 k.set.most, .slice a k.ps.length cap, .int .i64 k.base, .int .i64 k.last] 27)) := by (repeat (first | with_reducible exact Up.refl _ | with_reducible assumption | with_reducible refine Up.set ?_ (by first | exact Nat.le_refl _ | (simp only []; omega) | (simp; omega)) _ | with_reducible refine Up.alloc ?_ _ | with_reducible refine Up.drew ?_ | refine Up.trans ?_ (by with_reducible assumption)))
  have hrd := hrd.up hUa
  have hp := hp.up hUa
  have hs1 : ∀ s ∈ ps, s.size ≤ 1048576 := fun s hs => by have := hz s hs; omega
  have hs2 : ∀ s ∈ ps, s.size ≤ 10000 := fun s hs => by have := hz s hs; omega
  have cI := fun wq h h' => waI_any k (.slice a k.ps.length cap) (.slice ap ps.length cp) 0 ps wq hlt h (by omega) h' (by omega) hs1
  have cS := fun wq h h' => waS_any k (.slice a k.ps.length cap) (.slice ap ps.length cp) 0 ps wq h (by omega) h' (by omega) hs1
  have cJ := fun wq h => soJoined_any ps (.slice ap ps.length cp) wq h (by omega) hs2
  have hjl := joinL_len (n := 10000) ps hs2
  have hbz := bs_size (joinL ps)
  have cC := fun wq h => compIG_any k (.slice a k.ps.length cap) 0 (bs (joinL ps)) wq hlt h (by omega) (by omega)
  rw [bs_data] at cC
  have hw : (joinL ps).length ≤ 2000 → waG k ps = compG k (joinL ps) := waG_comp k ps
  have hl : 2000 < (joinL ps).length → compG k (joinL ps) = none := compG_long
  have hJ : (joinL ps).length ≤ 1000000 := by omega
  clear cD U1 hs1 hs2 hjl hz
  by_cases hlen : (joinL ps).length ≤ 2000
  · rw [hw hlen] at cI cS
    obtain ⟨sa, sb, hsab⟩ : ∃ sa sb, optS (compG k (joinL ps)) = .tuple #[.string sa, .bool sb] := ⟨_, _, rfl⟩
    rw [hsab] at cI cS cC
    have hnl : ¬ (2000 : Int) < ((joinL ps).length : Int) := by omega
    clear hsab hw hl
    generalize joinL ps = J at *
    simp only [kV] at *
    generalize (w1.alloc (.cells #[.int .i64 k.set.ord, .int .i64 k.set.lit, .int .i64 k.set.most, .slice a k.ps.length cap, .int .i64 k.base, .int .i64 k.last] 27)) = W at *
    (with_reducible refine (cI _ hrd hp).mono ?_); rintro e w2 ⟨rfl, U2⟩
    have hX := box_up U2 hX
    have hU2 := hUw.trans U2
    obtain ⟨k0, k1, k2, k3, k4, k5⟩ := And.intro (box_cell hX 0) (And.intro (box_cell hX 1) (And.intro (box_cell hX 2) (And.intro (box_cell hX 3) (And.intro (box_cell hX 4) (box_cell hX 5))))); simp at k0 k1 k2 k3 k4 k5
    go_wp2_with fail
    (with_reducible refine (cS _ (hrd.up U2) (hp.up U2)).mono ?_); rintro e w3 ⟨rfl, U3⟩
    have hX := box_up U3 hX
    have hU3 := hU2.trans U3
    clear k0 k1 k2 k3 k4 k5
    obtain ⟨k0, k1, k2, k3, k4, k5⟩ := And.intro (box_cell hX 0) (And.intro (box_cell hX 1) (And.intro (box_cell hX 2) (And.intro (box_cell hX 3) (And.intro (box_cell hX 4) (box_cell hX 5))))); simp at k0 k1 k2 k3 k4 k5
    go_wp2_with fail
    (with_reducible refine (cJ _ ((hp.up U2).up U3)).mono ?_); rintro e w4 ⟨rfl, rfl⟩
    go_wp2_with fail
    (with_reducible refine (cC _ ((hrd.up U2).up U3)).mono ?_); rintro e w5 ⟨rfl, U5⟩
    go_wp2_with fail
    go_ret
    exact ⟨ret_bool (by simp; try rfl), hU3.trans U5⟩
  · rw [hl (by omega), optS_no] at cC
    obtain ⟨sa, sb, hsab⟩ : ∃ sa sb, optS (waG k ps) = .tuple #[.string sa, .bool sb] := ⟨_, _, rfl⟩
    rw [hsab] at cI cS
    have hnl : (2000 : Int) < ((joinL ps).length : Int) := by omega
    clear hsab hw hl
    generalize joinL ps = J at *
    simp only [kV] at *
    generalize (w1.alloc (.cells #[.int .i64 k.set.ord, .int .i64 k.set.lit, .int .i64 k.set.most, .slice a k.ps.length cap, .int .i64 k.base, .int .i64 k.last] 27)) = W at *
    (with_reducible refine (cI _ hrd hp).mono ?_); rintro e w2 ⟨rfl, U2⟩
    have hX := box_up U2 hX
    have hU2 := hUw.trans U2
    obtain ⟨k0, k1, k2, k3, k4, k5⟩ := And.intro (box_cell hX 0) (And.intro (box_cell hX 1) (And.intro (box_cell hX 2) (And.intro (box_cell hX 3) (And.intro (box_cell hX 4) (box_cell hX 5))))); simp at k0 k1 k2 k3 k4 k5
    go_wp2_with fail
    (with_reducible refine (cS _ (hrd.up U2) (hp.up U2)).mono ?_); rintro e w3 ⟨rfl, U3⟩
    have hX := box_up U3 hX
    have hU3 := hU2.trans U3
    clear k0 k1 k2 k3 k4 k5
    obtain ⟨k0, k1, k2, k3, k4, k5⟩ := And.intro (box_cell hX 0) (And.intro (box_cell hX 1) (And.intro (box_cell hX 2) (And.intro (box_cell hX 3) (And.intro (box_cell hX 4) (box_cell hX 5))))); simp at k0 k1 k2 k3 k4 k5
    go_wp2_with fail
    (with_reducible refine (cJ _ ((hp.up U2).up U3)).mono ?_); rintro e w4 ⟨rfl, rfl⟩
    go_wp2_with fail
    (with_reducible refine (cC _ ((hrd.up U2).up U3)).mono ?_); rintro e w5 ⟨rfl, U5⟩
    go_wp2_with fail
    go_ret
    exact ⟨ret_bool (by simp; try rfl), hU3.trans U5⟩

set_option maxRecDepth 100000 in
theorem lifted (os : Os) (started : os.Started) (H : Type) (enc : TypeId × Value → H) :
    ReturnsInHanded {} Tryz.checked os 3 .any (Rows.fnWriteAllSpec.pre6 enc Tryz.prog Tryz.f3 Rows.fnWriteAllRow.domain false) (Rows.fnWriteAllSpec.post enc Tryz.prog Tryz.f3 false true false false) := by
  refine returnsInHanded_of_change (C := Tryz.checked) own started (by kernel_rfl) Tryz.func3
    (ChangeSpec.witness6 (enc := enc) (C := Tryz.checked) false ⟨#[], #[.slice none 0 0], []⟩ 8 (by kernel_rfl) (by kernel_rfl) (by kernel_rfl) (by kernel_rfl)) ?_
  intro W base args ds gs before hval0 hW hcnd _
  have hval : ∀ (j : Nat) t v, Tryz.f3.params[j]? = some t → args[j]? = some v → Value.okWide Tryz.prog W .any base t v := hval0
  have hW' := hW
  obtain ⟨p, q, hA0, hV, rfl, hfz, hnd⟩ := hW
  have hA : DataW.TrodAll enc Tryz.prog W 0 (fun _ => true) true Tryz.f3.params.toList args.toList ds p := hA0
  rw [Tryz.params3] at hA hval
  obtain ⟨v0, d0, rfl, rfl, h0⟩ := trodAll_one hA
  obtain ⟨p0, rfl⟩ : ∃ x, x = p := ⟨_, rfl⟩
  obtain ⟨a0, n0, c0, rfl⟩ := okWide_slice Tryz.underlying22 (hval 0 22 v0 rfl rfl)
  have hlt0 : ∀ x ∈ p0, x.block < W.heap.size := fun x hx => by simpa using hW'.lt x (by simp [hx])
  obtain ⟨fuel0, hf0⟩ := h0
  obtain ⟨lcode, hcode⟩ := open_argU (by simpa [Value.cells] using hf0) hlt0
  obtain ⟨rfl, rfl⟩ := trodVars_none hV
  refine (walk _ _ W hcode).mono fun e W' ⟨he, hu⟩ => ?_
  subst he
  exact ⟨_, rfl, post_law (f := Tryz.f3) TryzlaidOut (by kernel_rfl) rfl Tryz.underlying4 rfl hW' (fun ds' h => by subst h; exact ⟨rfl, rfl, rfl⟩) hu⟩

set_option maxHeartbeats 80000000 in
theorem closed : joinedFacts Tryz.checked.prog 3 Tryz.f3 Rows.fnWriteAllSpec Rows.fnWriteAllRow = true := by
  unfold joinedFacts
  repeat' (with_reducible refine (Bool.and_eq_true_iff.2 ⟨?_, ?_⟩))
  all_goals (as_aux_lemma => kernel_rfl)

theorem holds : Rows.FnWriteAllSaid :=
  OpenClaim.holds_of_wide 3 Tryz.f3 rfl rfl rfl rfl rfl rfl rfl ⟨rfl, rfl, rfl, rfl, rfl⟩ rfl rfl rfl rfl rfl (by as_aux_lemma => kernel_rfl) Tryz.func3 closed
    (of_decide_eq_true (by as_aux_lemma => kernel_rfl)) (by unfold Func.isWrapper; first | (rw [if_pos (by decide +kernel)]; kernel_rfl) | (rw [if_neg (by decide +kernel)]; exact ⟨rfl, rfl⟩))
    (fun os started H enc _ => lifted os started H enc)

end Go.Proofs.YtgbakgaegldomaaGreat.lawFnWriteAll
