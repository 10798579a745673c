/- WriteAll of the program answers as the reference's, for what is known of any kind and any parts. Conditions: none. -/
import Derived.Test.YtgbakgaegldomaaMWriteAllLawA
import Derived.Test.YtgbakgaegldomaaMWriteAllLawB
import Derived.Test.YtgbakgaegldomaaMWriteAllLawC
import Derived.Test.YtgbakgaegldomaaMWriteAllLawD
import Derived.Test.YtgbakgaegldomaaMWriteAllLawE
import Derived.Test.YtgbakgaegldomaaMWriteAllLawF
import Derived.Test.YtgbakgaegldomaaMWriteAllLawG
import Derived.Test.YtgbakgaegldomaaMWriteAllLawH
namespace Go.Proofs.Ytgbakgaegldomaa.lawWriteAll
set_option linter.unusedVariables false
set_option linter.unusedSimpArgs false
open Go.ChangeShapes Go.WideShapes Go.ChangeAt Go.RowKit Go.Joins
open Go.ChangeMaps (open_string shut_string)

def KnT (k : KnD) (u : Value) (w : World) : Prop := ∃ v, u = kV k v ∧ RdP 0 w v k.ps
theorem knT_closed {k : KnD} : ∀ u, UpClosed (KnT k u) := fun u w w' ⟨v, h1, h2⟩ hu => ⟨v, h1, h2.up hu⟩
theorem upOut_knT {f : FuncId} {args : Array Value} {w : World} {k : KnD} (h : Calls Try.prog f args w (fun e w' => ∃ v, e = .returned (kV k v) ∧ ownPr w' w.heap.size v k.ps ∧ Up w w')) : upOut Try.prog (KnT k) w (.ok (.enter f args) w) :=
  ⟨rfl, h.mono fun e w' ⟨v, he, ho, hu⟩ => ⟨_, he, hu, v, rfl, (RdP.of_own ho).low (Nat.zero_le _)⟩⟩

set_option maxRecDepth 100000 in
set_option maxHeartbeats 2000000 in
theorem szStrN_any (N : Nat) (hN : N ≤ 1048576) (l : List ByteArray) (v : Value) (w : World) (h : ArgS w v l) :
    Calls Try.prog 20  #[v, .int .i64 N] w (fun e w' => w = w' ∧ ∃ r : Int, e = .returned (.int .i64 r) ∧ (0 ≤ r → l.length ≤ 1048576 ∧ ∀ s ∈ l, s.size ≤ 1048576)) := by
  have hat := h
  obtain ⟨a, cap, rfl, hm, hms, -⟩ := h
  unfold maxLen at hm
  by_cases hl : l.length ≤ N
  · have hH : ∃ T, T = szS (N - (l.length : Int)) l := ⟨_, rfl⟩
    obtain ⟨T, hT⟩ := hH
    have HT := Lib.hid hT
    clear hT
    go_enter Try.func20, Try.ntmps20
    go_wp2
    go_loopw [1, 5] (fun n i wr => RelSz T l n i w wr) (fun _ i _ => l.length - (intOf i).toNat)
    case atStart => exact ⟨N - (l.length : Int), 0, rfl, rfl, by omega, by omega, Nat.zero_le _, by rw [List.drop_zero]; exact HT.out.symm, rfl⟩
    case round =>
      obtain ⟨y, j, rfl, rfl, hy0, hy1, hj, htot, rfl⟩ := hrel
      by_cases hlt : j < l.length
      · obtain ⟨b, off, rfl, hbl, hx, -, hnc, hcm⟩ := hat.at hlt
        have hD : l.drop j = l[j] :: l.drop (j + 1) := List.drop_eq_getElem_cons hlt
        rw [hD] at htot
        have hsm := hms _ (List.getElem_mem hlt)
        unfold maxLen at hsm hcm
        have HH := Lib.hid htot
        clear htot hD
        generalize l[j] = s at *
        by_cases hneg : y - s.size < 0
        · go_wp2
          go_ret
          exact ⟨rfl, -1, rfl, fun h => by omega⟩
        · go_wp2
          go_roundw
          case rel => exact ⟨y - s.size, j + 1, rfl, by go_num, by omega, by omega, by omega, by have := HH.out; unfold szS at this; rw [if_neg hneg] at this; exact this, rfl⟩
          case measure => simp [intOf]; omega
      · have e : j = l.length := by omega
        subst e
        rw [List.drop_length] at htot
        go_wp2
        go_ret
        refine ⟨rfl, y, rfl, fun h => ⟨by omega, szS_ok l (N - (l.length : Int)) (by omega) ?_⟩⟩
        rw [← HT.out, ← htot]
        exact h
  · go_enter Try.func20, Try.ntmps20
    go_wp2
    go_ret
    exact ⟨rfl, -1, rfl, fun h => by omega⟩

set_option maxRecDepth 100000 in
set_option maxHeartbeats 8000000 in
theorem walk (k : KnD) (v vp : Value) (ps : List ByteArray) (w : World) (hr : RdP 0 w v k.ps) (hl : -9223372036854775808 ≤ k.set.lit ∧ k.set.lit ≤ 9223372036854775807) (hn : k.ps.length ≤ 9223372036854775807) (hp : ArgS w vp ps) :
    Calls Try.prog 6  #[kV k v, vp] w (Same (.bool true) w) := by
  have hrt := fun (wq : World) (hu : Up w wq) => hr.up hu
  have hpt := fun (wq : World) (hu : Up w wq) => hp.up hu
  obtain ⟨a, cap, rfl, -, -, -, -⟩ := id hr
  obtain ⟨ap, cp, rfl, hpm, -, -⟩ := id hp
  have cZ := fun wq => szKnown_any k.set.ord k.set.lit k.set.most k.base k.last a k.ps.length cap 1048576 wq hn (by omega) (by omega)
  clear hr hp
  by_cases h2 : (1048576 : Int) - (k.ps.length : Int) < 0
  · rw [leftI_no h2] at cZ
    clear h2
    simp only [kV]
    go_enter Try.func6, Try.ntmps6
    go_wp2_with (first | (go_at_call 19; (with_reducible refine (cZ _).mono ?_); rintro e w1 ⟨rfl, U1⟩; have B1 := bcell U1; have Z1 := U1.size; (try simp at Z1); (try rw [Nat.add_one_le_iff] at Z1)) | fail)
    go_ret
    refine ⟨rfl, ?_⟩
    (repeat (first | with_reducible exact Up.refl _ | with_reducible assumption | with_reducible refine Up.set ?_ (by first | exact Nat.le_refl _ | (simp only []; omega) | (simp; omega)) _ | with_reducible refine Up.alloc ?_ _ | with_reducible refine Up.drew ?_ | refine Up.trans ?_ (by with_reducible assumption)))
  rw [leftI_yes h2] at cZ
  have hn2 : k.ps.length ≤ 1048576 := by omega
  obtain ⟨N, hN⟩ : ∃ N : Nat, (1048576 : Int) - (k.ps.length : Int) = (N : Int) := ⟨1048576 - k.ps.length, by omega⟩
  rw [hN] at cZ
  have hN2 : N ≤ 1048576 := by omega
  clear h2 hN
  have cS := fun wq h => szStrN_any N hN2 ps (.slice ap ps.length cp) wq h
  simp only [kV]
  go_enter Try.func6, Try.ntmps6
  go_wp2_with (first | (go_at_call 19; (with_reducible refine (cZ _).mono ?_); rintro e w1 ⟨rfl, U1⟩; have B1 := bcell U1; have Z1 := U1.size; (try simp at Z1); (try rw [Nat.add_one_le_iff] at Z1)) | fail)
  (with_reducible refine (cS _ (hpt _ (by (repeat (first | with_reducible exact Up.refl _ | with_reducible assumption | with_reducible refine Up.set ?_ (by first | exact Nat.le_refl _ | (simp only []; omega) | (simp; omega)) _ | with_reducible refine Up.alloc ?_ _ | with_reducible refine Up.drew ?_ | refine Up.trans ?_ (by with_reducible assumption)))))).mono ?_); rintro e w2 ⟨rfl, r, rfl, hr⟩
  by_cases hneg : r < 0
  · go_wp2_with fail
    go_ret
    refine ⟨rfl, ?_⟩
    (repeat (first | with_reducible exact Up.refl _ | with_reducible assumption | with_reducible refine Up.set ?_ (by first | exact Nat.le_refl _ | (simp only []; omega) | (simp; omega)) _ | with_reducible refine Up.alloc ?_ _ | with_reducible refine Up.drew ?_ | refine Up.trans ?_ (by with_reducible assumption)))
  obtain ⟨hpl, hps⟩ := hr (by omega)
  have cT := fun wq h => toKnown_any k (.slice a k.ps.length cap) 0 wq h hn2
  have cU := fun wq h => toStr_any ps (.slice ap ps.length cp) wq h hpl
  have cWS := fun wq v u h h' => waS_any k v u 0 ps wq h hn2 h' hpl hps
  have cWI := fun wq v u h h' => waI_any k v u 0 ps wq hl h hn2 h' hpl hps
  have cE := fun wq v v' h h' => eqKnown_same k v v' 0 0 wq h h'
  have cEs := fun wq va vb ha hb => eqStr_any ps va vb wq ha hb
  have HSm : Hid (∀ t ∈ ps, t.size ≤ maxLen) := fun t ht => by have := hps t ht; unfold maxLen; omega
  obtain ⟨sa, sb, hsab⟩ : ∃ sa sb, optS (waG k ps) = .tuple #[.string sa, .bool sb] := ⟨_, _, rfl⟩
  rw [hsab] at cWS cWI
  clear hsab hr hps
  simp only [kV] at *
  have hX := show w1.heap[w.heap.size]? = some _ from box_up U1 (MapKept.heap_alloc w _).1
  have hU1 : Up w w1 := by (repeat (first | with_reducible exact Up.refl _ | with_reducible assumption | with_reducible refine Up.set ?_ (by first | exact Nat.le_refl _ | (simp only []; omega) | (simp; omega)) _ | with_reducible refine Up.alloc ?_ _ | with_reducible refine Up.drew ?_ | refine Up.trans ?_ (by with_reducible assumption)))
  have hb1 : w.heap.size < w1.heap.size := (Array.getElem?_eq_some_iff.1 hX).1
  have k0 := box_cell hX 0; have k1 := box_cell hX 1; have k2 := box_cell hX 2; have k3 := box_cell hX 3; have k4 := box_cell hX 4; have k5 := box_cell hX 5; simp at k0 k1 k2 k3 k4 k5
  clear U1 B1 cZ cS Z1
  go_wp2_with fail
  (with_reducible refine (cT _ (hrt _ hU1)).mono ?_); rintro e w3 ⟨v3, rfl, ho3, U3⟩
  obtain ⟨a3, c3, rfl⟩ := ownsRow_shape ho3
  have hX := box_up U3 hX
  have hU3 := hU1.trans U3
  have hb3 : w.heap.size < w3.heap.size := (Array.getElem?_eq_some_iff.1 hX).1
  clear k0 k1 k2 k3 k4 k5
  simp only [kV]
  go_wp2_with fail
  (with_reducible refine (cU _ (hpt _ hU3)).mono ?_); rintro e w4 ⟨v4, rfl, ho4, U4⟩
  have ha4 := ArgS.of_own ho4 HSm.out
  obtain ⟨a4, c4, rfl⟩ := ownsRow_shape ho4
  have hX := box_up U4 hX
  have hU4 := hU3.trans U4
  go_wp2_with fail
  (with_reducible refine (cWS _ _ _ (((RdP.of_own ho3).low (Nat.zero_le _)).up U4) ha4).mono ?_); rintro e w5 ⟨rfl, U5⟩
  have hX := box_up U5 hX
  have hU5 := hU4.trans U5
  have hb5 : w.heap.size < w5.heap.size := (Array.getElem?_eq_some_iff.1 hX).1
  have k0 := box_cell hX 0; have k1 := box_cell hX 1; have k2 := box_cell hX 2; have k3 := box_cell hX 3; have k4 := box_cell hX 4; have k5 := box_cell hX 5; simp at k0 k1 k2 k3 k4 k5
  clear ho3 ha4 ho4 U3 U4 U5 hU1 hU3 hU4
  go_wp2_with fail
  (with_reducible refine (cT _ (hrt _ hU5)).mono ?_); rintro e w6 ⟨v6, rfl, ho6, U6⟩
  obtain ⟨a6, c6, rfl⟩ := ownsRow_shape ho6
  have hX := box_up U6 hX
  have hU6 := hU5.trans U6
  simp only [kV]
  clear k0 k1 k2 k3 k4 k5
  go_wp2_with fail
  have hUa := (Up.refl w6).alloc (.cells #[.int .i64 k.set.ord, .int .i64 k.set.lit, .int .i64 k.set.most, .slice a6 k.ps.length c6, .int .i64 k.base, .int .i64 k.last] 33)
  have hT8 := (MapKept.heap_alloc w6 (.cells #[.int .i64 k.set.ord, .int .i64 k.set.lit, .int .i64 k.set.most, .slice a6 k.ps.length c6, .int .i64 k.base, .int .i64 k.last] 33)).1
  have hX := box_up hUa hX
  have hU7 := hU6.trans hUa
  have hr6 : RdP 0 (w6.alloc (.cells #[.int .i64 k.set.ord, .int .i64 k.set.lit, .int .i64 k.set.most, .slice a6 k.ps.length c6, .int .i64 k.base, .int .i64 k.last] 33)) (.slice a6 k.ps.length c6) k.ps := ((RdP.of_own ho6).low (Nat.zero_le _)).up hUa
  clear hUa hU6 ho6 U6
  generalize w6.alloc (.cells #[.int .i64 k.set.ord, .int .i64 k.set.lit, .int .i64 k.set.most, .slice a6 k.ps.length c6, .int .i64 k.base, .int .i64 k.last] 33) = W7 at *
  (with_reducible refine (cU _ (hpt _ hU7)).mono ?_); rintro e w8 ⟨v8, rfl, ho8, U8⟩
  have ha8 := ArgS.of_own ho8 HSm.out
  obtain ⟨a8, c8, rfl⟩ := ownsRow_shape ho8
  have hT8 := box_up U8 hT8
  have hX := box_up U8 hX
  have hU8 := hU7.trans U8
  have hr6 := hr6.up U8
  have hbt : w6.heap.size < w8.heap.size := (Array.getElem?_eq_some_iff.1 hT8).1
  have t0 := box_cell hT8 0; have t1 := box_cell hT8 1; have t2 := box_cell hT8 2; have t3 := box_cell hT8 3; have t4 := box_cell hT8 4; have t5 := box_cell hT8 5; simp at t0 t1 t2 t3 t4 t5
  clear U8 hU7 ho8
  go_wp2_with fail
  (with_reducible refine (cWI _ _ _ hr6 ha8).mono ?_); rintro e w9 ⟨rfl, U9⟩
  have hT8 := box_up U9 hT8
  have hX := box_up U9 hX
  have hU9 := hU8.trans U9
  have hr6 := hr6.up U9
  have ha8 := ha8.up U9
  clear U9 hU8 hbt t0 t1 t2 t3 t4 t5
  go_wp2_with fail
  refine wp_region_up 5 (by kernel_rfl) (by kernel_rfl) ?_
  simp only [List.take, List.drop]
  repeat (refine wpUp_step (fun K hK => ?_); go_simp; (try simp only [↓IntWalk.iteOmega]); first
    | (refine hK _ _ ?_; clear hK K)
    | (apply stepU_c
       · intro wq hwq; (have hbq := bcell hwq; (repeat (first | refine fills_no (by rfl) ?_ | refine fills_yes (by rfl) (fun vq hvq => ?_))); simp only [List.filter_nil, fills]; unfold upAt; (try (((try (obtain ⟨v', rfl, hv'⟩ := hvq; simp only [kV])); have hXq := box_up hwq hX; have hTq := box_up hwq hT8; have k0 := box_cell hXq 0; have k1 := box_cell hXq 1; have k2 := box_cell hXq 2; have k3 := box_cell hXq 3; have k4 := box_cell hXq 4; have k5 := box_cell hXq 5; simp at k0 k1 k2 k3 k4 k5; have t0 := box_cell hTq 0; have t1 := box_cell hTq 1; have t2 := box_cell hTq 2; have t3 := box_cell hTq 3; have t4 := box_cell hTq 4; have t5 := box_cell hTq 5; simp at t0 t1 t2 t3 t4 t5))); go_simp; (try go_bits); (try simp only [↓IntWalk.iteOmega]); (try (rw [dif_pos (by omega)]; go_simp; try go_bits)); first | exact upOut_value | (apply upOut_call; (go_at_call 25; with_reducible exact cE _ _ _ (hr6.up hwq) hv')) | (apply upOut_eq; (go_at_call 25; with_reducible exact cE _ _ _ (hr6.up hwq) hv')))
       go_simp; refine hK _ _ ?_; clear hK K)
    | (refine stepU_m (by kernel_rfl) (KnT k) (knT_closed) (fun wq hwq => ?_) ?_
       · (have hbq := bcell hwq; (repeat (first | refine fills_no (by rfl) ?_ | refine fills_yes (by rfl) (fun vq hvq => ?_))); simp only [List.filter_nil, fills]; unfold upAt; (try (((try (obtain ⟨v', rfl, hv'⟩ := hvq; simp only [kV])); have hXq := box_up hwq hX; have hTq := box_up hwq hT8; have k0 := box_cell hXq 0; have k1 := box_cell hXq 1; have k2 := box_cell hXq 2; have k3 := box_cell hXq 3; have k4 := box_cell hXq 4; have k5 := box_cell hXq 5; simp at k0 k1 k2 k3 k4 k5; have t0 := box_cell hTq 0; have t1 := box_cell hTq 1; have t2 := box_cell hTq 2; have t3 := box_cell hTq 3; have t4 := box_cell hTq 4; have t5 := box_cell hTq 5; simp at t0 t1 t2 t3 t4 t5))); go_simp; (try go_bits); (try simp only [↓IntWalk.iteOmega]); (try (rw [dif_pos (by omega)]; go_simp; try go_bits)); ((with_reducible refine upOut_knT ?_); go_at_call 22; exact cT _ (hrt _ (hU9.trans hwq))))
       refine hK _ _ ?_; clear hK K))
  refine wpUp_nil (fun wq hwq => ?_)
  simp only [fills]
  rintro u50 ⟨vz, rfl, -⟩
  have hUq := hU9.trans hwq
  have ha8 := ha8.up hwq
  clear hwq hX hT8 hU9 hr6
  simp only [kV]
  go_wp2_with fail
  (with_reducible refine (cU _ (hpt _ hUq)).mono ?_); rintro e w10 ⟨v10, rfl, ho10, U10⟩
  have ha10 := ArgS.of_own ho10 HSm.out
  obtain ⟨a10, c10, rfl⟩ := ownsRow_shape ho10
  go_wp2_with fail
  (with_reducible refine (cEs _ _ _ (ha8.up U10) ha10).mono ?_); rintro e w11 ⟨rfl, U11⟩
  go_wp2_with fail
  go_ret
  exact ⟨rfl, (hUq.trans U10).trans U11⟩

set_option maxRecDepth 100000 in
theorem lifted (os : Os) (started : os.Started) (H : Type) (enc : TypeId × Value → H) :
    ReturnsInHanded {} Try.checked os 6 .any (Rows.fnExactWriteAllSpec.pre6 enc Try.prog Try.f6 Rows.fnExactWriteAllRow.domain false) (Rows.fnExactWriteAllSpec.post enc Try.prog Try.f6 false true false false) := by
  refine returnsInHanded_of_change (C := Try.checked) own started (by kernel_rfl) Try.func6
    (ChangeSpec.witness6 (enc := enc) (C := Try.checked) false ⟨#[], #[.agg #[.int .i64 0, .int .i64 0, .int .i64 0, .slice none 0 0, .int .i64 0, .int .i64 0], .slice none 0 0], []⟩ 8 (by kernel_rfl) (by kernel_rfl) (by kernel_rfl) (by kernel_rfl)) ?_
  intro W base args ds gs before hval0 hW hcnd _
  have hval : ∀ (j : Nat) t v, Try.f6.params[j]? = some t → args[j]? = some v → Value.okWide Try.prog W .any base t v := hval0
  have hW' := hW
  obtain ⟨p, q, hA0, hV, rfl, hfz, hnd⟩ := hW
  have hA : DataW.TrodAll enc Try.prog W 0 (fun _ => true) true Try.f6.params.toList args.toList ds p := hA0
  rw [Try.params6] at hA hval
  obtain ⟨v0, v1, d0, d1, p0, p1, rfl, rfl, rfl, h0, h1⟩ := trodAll_two hA
  have hlt0 : ∀ x ∈ p0, x.block < W.heap.size := fun x hx => by simpa using hW'.lt x (by simp [hx])
  obtain ⟨k, uk, rfl, rk, lk, nk⟩ := open_known (hval 0 26 v0 rfl rfl) h0 hlt0
  obtain ⟨a1, n1, c1, rfl⟩ := okWide_slice Try.underlying45 (hval 1 45 v1 rfl rfl)
  have hlt1 : ∀ x ∈ p1, x.block < W.heap.size := fun x hx => by simpa using hW'.lt x (by simp [hx])
  obtain ⟨fuel1, hf1⟩ := h1
  obtain ⟨lps, hps⟩ := open_argS (by simpa [Value.cells] using hf1) hlt1
  obtain ⟨rfl, rfl⟩ := trodVars_none hV
  refine (walk k uk _ lps W rk lk (by unfold maxLen at nk; exact nk) hps).mono fun e W' ⟨he, hu⟩ => ?_
  subst he
  exact ⟨_, rfl, post_law (f := Try.f6) TrylaidOut (by kernel_rfl) rfl Try.underlying4 rfl hW' (fun ds' h => by subst h; exact ⟨rfl, rfl, rfl⟩) hu⟩

set_option maxHeartbeats 80000000 in
theorem closed : joinedFacts Try.checked.prog 6 Try.f6 Rows.fnExactWriteAllSpec Rows.fnExactWriteAllRow = true := by
  unfold joinedFacts
  repeat' (with_reducible refine (Bool.and_eq_true_iff.2 ⟨?_, ?_⟩))
  all_goals (as_aux_lemma => kernel_rfl)

theorem holds : Rows.FnExactWriteAllSaid :=
  OpenClaim.holds_of_wide 6 Try.f6 rfl rfl rfl rfl rfl rfl rfl ⟨rfl, rfl, rfl, rfl, rfl⟩ rfl rfl rfl rfl rfl (by as_aux_lemma => kernel_rfl) Try.func6 closed
    (of_decide_eq_true (by as_aux_lemma => kernel_rfl)) (by unfold Func.isWrapper; first | (rw [if_pos (by decide +kernel)]; kernel_rfl) | (rw [if_neg (by decide +kernel)]; exact ⟨rfl, rfl⟩))
    (fun os started H enc _ => lifted os started H enc)

end Go.Proofs.Ytgbakgaegldomaa.lawWriteAll
