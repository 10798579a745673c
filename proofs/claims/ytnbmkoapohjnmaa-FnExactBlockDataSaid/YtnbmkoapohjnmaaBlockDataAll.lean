/- The program's BlockData returns what the reference's returns, for every setting, dictionary and block. Conditions: none. -/
import Derived.Test.YtnbmkoapohjnmaaRc4
import Derived.Lib.SmallJoins
import Derived.Test.YtnbmkoapohjnmaaBlockDataAllA
namespace Go.Proofs.Ytnbmkoapohjnmaa.lawBlockData
set_option linter.unusedVariables false
set_option linter.unusedSimpArgs false
open Go.ChangeShapes Go.WideShapes Go.ChangeAt Go.RowKit Go.Joins Go.Deep
open Go.ChangeMaps (open_string shut_string)

/-- A block lies in the block x. -/
def BlkAt (x : Nat) (b : BlkD) (w : World) : Prop := w.heap[x]? = some (.cells #[.int .i64 b.num, .bool b.raw, .int .i64 b.size, .string b.body] 25)
theorem BlkAt.cells {x : Nat} {b : BlkD} {w : World} (h : BlkAt x b w) : x < w.heap.size ∧ w.cell? ⟨x, 0, none⟩ = some (.int .i64 b.num) ∧ w.cell? ⟨x, 1, none⟩ = some (.bool b.raw) ∧ w.cell? ⟨x, 2, none⟩ = some (.int .i64 b.size) ∧ w.cell? ⟨x, 3, none⟩ = some (.string b.body) :=
  ⟨(Array.getElem?_eq_some_iff.1 h).1, box_cell h 0, box_cell h 1, box_cell h 2, box_cell h 3⟩
def SetBx (x : Nat) (s : SetD) (w : World) : Prop := w.heap[x]? = some (.cells #[.int .i64 s.ord, .int .i64 s.lit, .int .i64 s.most] 23)
theorem SetBx.cells {x : Nat} {s : SetD} {w : World} (h : SetBx x s w) : x < w.heap.size ∧ w.cell? ⟨x, 0, none⟩ = some (.int .i64 s.ord) ∧ w.cell? ⟨x, 1, none⟩ = some (.int .i64 s.lit) ∧ w.cell? ⟨x, 2, none⟩ = some (.int .i64 s.most) :=
  ⟨(Array.getElem?_eq_some_iff.1 h).1, box_cell h 0, box_cell h 1, box_cell h 2⟩

set_option maxRecDepth 100000 in
set_option maxHeartbeats 4000000 in
theorem walk (s : SetD) (dict : ByteArray) (b : BlkD) (w : World) (hli : -9223372036854775808 ≤ s.lit ∧ s.lit ≤ 9223372036854775807) (h1 : dict.size ≤ 9223372036854775807) (h2 : b.body.size ≤ 9223372036854775807) :
    Calls Try.prog 3  #[.agg #[.int .i64 s.ord, .int .i64 s.lit, .int .i64 s.most], .string dict, .agg #[.int .i64 b.num, .bool b.raw, .int .i64 b.size, .string b.body]] w (Same (.bool true) w) := by
  by_cases g1 : 1048576 < dict.size
  · go_enter Try.func3, Try.ntmps3
    go_wp2
    go_ret
    refine ⟨rfl, ?_⟩
    (repeat (first | with_reducible exact Up.refl _ | with_reducible assumption | with_reducible refine Up.set ?_ (by first | exact Nat.le_refl _ | (simp only []; omega) | (simp; omega)) _ | with_reducible refine Up.alloc ?_ _ | with_reducible refine Up.drew ?_ | refine Up.trans ?_ (by with_reducible assumption)))
  · have cZ := fun wx => szBlock_any b.num b.raw b.size b.body 1048576 wx h2 (by omega) (by omega)
    by_cases g2 : (1048576 : Int) < b.body.size
    · rw [if_pos g2] at cZ
      go_enter Try.func3, Try.ntmps3
      go_wp2_with ((go_at_call 9; (with_reducible refine (cZ _).mono ?_); rintro e w1 ⟨rfl, U1⟩; have B1 := bcell U1; have Z1 := U1.size; (try simp at Z1); (try rw [Nat.add_one_le_iff] at Z1)))
      go_ret
      refine ⟨rfl, ?_⟩
      (repeat (first | with_reducible exact Up.refl _ | with_reducible assumption | with_reducible refine Up.set ?_ (by first | exact Nat.le_refl _ | (simp only []; omega) | (simp; omega)) _ | with_reducible refine Up.alloc ?_ _ | with_reducible refine Up.drew ?_ | refine Up.trans ?_ (by with_reducible assumption)))
    · rw [if_neg g2] at cZ
      have cT := fun wx => toSet_any s.ord s.lit s.most wx
      have cB := fun wx => toBlock_any b.num b.raw b.size b.body wx
      have cS := fun wx => blockDataS_any s dict b wx (by omega) (by omega)
      have cI := fun wx => bDataI_any s dict b wx hli (by omega) (by omega)
      generalize bdatO s dict.data.toList b = oo at *
      unfold optS at *
      simp only [setV, blkV] at *
      go_enter Try.func3, Try.ntmps3
      go_wp2_with ((go_at_call 9; (with_reducible refine (cZ _).mono ?_); rintro e w1 ⟨rfl, U1⟩; have B1 := bcell U1; have Z1 := U1.size; (try simp at Z1); (try rw [Nat.add_one_le_iff] at Z1)))
      have hS1 : SetBx w.heap.size s w1 := box_up U1 (box_up ((Up.refl _).alloc _) (MapKept.heap_alloc w _).1)
      have hB1 : BlkAt (w.heap.size + 1) b w1 := box_up U1 (alloc2 w _ _)
      have HS := Lib.hid hS1
      have HB := Lib.hid hB1
      have hU1 : Up w w1 := by (repeat (first | with_reducible exact Up.refl _ | with_reducible assumption | with_reducible refine Up.set ?_ (by first | exact Nat.le_refl _ | (simp only []; omega) | (simp; omega)) _ | with_reducible refine Up.alloc ?_ _ | with_reducible refine Up.drew ?_ | refine Up.trans ?_ (by with_reducible assumption)))
      have HU := Lib.hid hU1
      clear hS1 hB1 hU1 U1 B1 Z1
      refine wp_region_up 11 (by kernel_rfl) (by kernel_rfl) ?_
      simp only [List.take, List.drop]
      repeat (refine wpUp_step (fun K hK => ?_); go_simp; (try simp only [↓IntWalk.iteOmega]); first
        | (refine hK _ _ ?_; clear hK K)
        | (apply stepU_c
           · intro wq hwq; (have hbq := bcell hwq; (repeat (first | refine fills_no (by rfl) ?_ | refine fills_yes (by rfl) (fun vq hvq => ?_))); simp only [List.filter_nil, fills]; unfold upAt; (try ((obtain ⟨hbs, s0, s1, s2⟩ := SetBx.cells (box_up hwq HS.out); obtain ⟨hbb, r0, r1, r2, r3⟩ := BlkAt.cells (box_up hwq HB.out)))); go_simp; (try go_bits); (try simp only [↓IntWalk.iteOmega]); (try (rw [dif_pos (by omega)]; go_simp; try go_bits)); first | exact upOut_value | (apply upOut_call; (go_at_call 11; with_reducible exact cT _)) | (apply upOut_eq; (go_at_call 11; with_reducible exact cT _)) | (apply upOut_call; (go_at_call 12; with_reducible exact cB _)) | (apply upOut_eq; (go_at_call 12; with_reducible exact cB _)) | (apply upOut_call; (go_at_call 10; with_reducible exact cS _)) | (apply upOut_eq; (go_at_call 10; with_reducible exact cS _)))
           go_simp; refine hK _ _ ?_; clear hK K))
      refine wpUp_nil (fun wq hwq => ?_)
      simp only [fills]
      have HS2 := Lib.hid (box_up hwq HS.out)
      have HB2 := Lib.hid (box_up hwq HB.out)
      have HU2 := Lib.hid (HU.out.trans hwq)
      clear hwq HS HB HU
      go_wp2
      refine wp_region_up 11 (by kernel_rfl) (by kernel_rfl) ?_
      simp only [List.take, List.drop]
      repeat (refine wpUp_step (fun K hK => ?_); go_simp; (try simp only [↓IntWalk.iteOmega]); first
        | (refine hK _ _ ?_; clear hK K)
        | (apply stepU_c
           · intro wq hwq; (have hbq := bcell hwq; (repeat (first | refine fills_no (by rfl) ?_ | refine fills_yes (by rfl) (fun vq hvq => ?_))); simp only [List.filter_nil, fills]; unfold upAt; (try ((obtain ⟨hbs, s0, s1, s2⟩ := SetBx.cells (box_up hwq HS2.out); obtain ⟨hbb, r0, r1, r2, r3⟩ := BlkAt.cells (box_up hwq HB2.out)))); go_simp; (try go_bits); (try simp only [↓IntWalk.iteOmega]); (try (rw [dif_pos (by omega)]; go_simp; try go_bits)); first | exact upOut_value | (apply upOut_call; (go_at_call 11; with_reducible exact cT _)) | (apply upOut_eq; (go_at_call 11; with_reducible exact cT _)) | (apply upOut_call; (go_at_call 12; with_reducible exact cB _)) | (apply upOut_eq; (go_at_call 12; with_reducible exact cB _)) | (apply upOut_call; (go_at_call 13; with_reducible exact cI _)) | (apply upOut_eq; (go_at_call 13; with_reducible exact cI _)))
           go_simp; refine hK _ _ ?_; clear hK K))
      refine wpUp_nil (fun wq hwq => ?_)
      simp only [fills]
      have hU9 := HU2.out.trans hwq
      clear hwq HS2 HB2 HU2
      go_wp2
      go_ret
      refine ⟨rfl, ?_⟩
      (repeat (first | with_reducible exact Up.refl _ | with_reducible assumption | with_reducible refine Up.set ?_ (by first | exact Nat.le_refl _ | (simp only []; omega) | (simp; omega)) _ | with_reducible refine Up.alloc ?_ _ | with_reducible refine Up.drew ?_ | refine Up.trans ?_ (by with_reducible assumption)))

set_option maxRecDepth 100000 in
theorem lifted (os : Os) (started : os.Started) (H : Type) (enc : TypeId × Value → H) :
    ReturnsInHanded {} Try.checked os 3 .any (Rows.fnExactBlockDataSpec.pre6 enc Try.prog Try.f3 Rows.fnExactBlockDataRow.domain false) (Rows.fnExactBlockDataSpec.post enc Try.prog Try.f3 false true false false) := by
  refine returnsInHanded_of_change (C := Try.checked) own started (by kernel_rfl) Try.func3
    (ChangeSpec.witness6 (enc := enc) (C := Try.checked) false ⟨#[], #[.agg #[.int .i64 0, .int .i64 0, .int .i64 0], .string ByteArray.empty, .agg #[.int .i64 0, .bool false, .int .i64 0, .string ByteArray.empty]], []⟩ 8 (by kernel_rfl) (by kernel_rfl) (by kernel_rfl) (by kernel_rfl)) ?_
  intro W base args ds gs before hval0 hW hcnd _
  have hval : ∀ (j : Nat) t v, Try.f3.params[j]? = some t → args[j]? = some v → Value.okWide Try.prog W .any base t v := hval0
  have hW' := hW
  obtain ⟨p, q, hA0, hV, rfl, hfz, hnd⟩ := hW
  have hA : DataW.TrodAll enc Try.prog W 0 (fun _ => true) true Try.f3.params.toList args.toList ds p := hA0
  rw [Try.params3] at hA hval
  obtain ⟨v0, v1, v2, d0, d1, d2, p0, p1, p2, rfl, rfl, rfl, h0, h1, h2⟩ := trodAll_three hA
  obtain ⟨s00, s01, s02, y00, y01, y02, m0, rfl, rfl, rfl, t00, t01, t02⟩ := open_agg3 Try.underlying23 (by kernel_rfl) (by kernel_rfl) (hval 0 23 v0 rfl rfl) h0
  obtain ⟨ao, c00, z00, -⟩ := DataW.trod_int Try.underlying3 t00
  obtain ⟨al, c01, z01, g0⟩ := DataW.trod_int Try.underlying3 t01
  obtain ⟨am, c02, z02, -⟩ := DataW.trod_int Try.underlying3 t02
  simp only [List.cons.injEq, and_true] at c00 c01 c02
  subst c00; subst z00
  subst c01; subst z01
  subst c02; subst z02
  have ha : -9223372036854775808 ≤ al ∧ al ≤ 9223372036854775807 := by simpa [Lit.wf, IntKind.min, IntKind.max, IntKind.signed, IntKind.bits] using g0
  obtain ⟨s, rfl, rfl, rfl, hs⟩ := open_string Try.underlying9 (hval 1 9 v1 rfl rfl) h1
  obtain ⟨k20, k21, k22, k23, q20, q21, q22, q23, qm2, rfl, rfl, rfl, u20, u21, u22, u23⟩ := open_agg4 Try.underlying25 (by kernel_rfl) (by kernel_rfl) (hval 2 25 v2 rfl rfl) h2
  obtain ⟨bn, e20, rfl, -⟩ := DataW.trod_int Try.underlying3 u20
  obtain ⟨br, e21, rfl⟩ := DataW.trod_bool Try.underlying4 u21
  obtain ⟨bs, e22, rfl, -⟩ := DataW.trod_int Try.underlying3 u22
  obtain ⟨bb, e23, rfl, hbb⟩ := DataW.trod_string Try.underlying9 u23
  simp at e20 e21 e22 e23
  subst e20 e21 e22 e23
  obtain ⟨rfl, rfl⟩ := trodVars_none hV
  refine (walk ⟨ao, al, am⟩ s ⟨bn, br, bs, bb⟩ W ha (by unfold maxLen at hs; exact hs) (by unfold maxLen at hbb; exact hbb)).mono fun e W' ⟨he, hu⟩ => ?_
  subst he
  exact ⟨_, rfl, post_law (f := Try.f3) TrylaidOut (by kernel_rfl) rfl Try.underlying4 rfl hW' (fun ds' h => by subst h; exact ⟨rfl, rfl, rfl⟩) hu⟩

theorem holds : Rows.FnExactBlockDataSaid :=
  OpenClaim.holds_of_wide 3 Try.f3 rfl rfl rfl rfl rfl rfl rfl ⟨rfl, rfl, rfl, rfl, rfl⟩ rfl rfl rfl rfl rfl (by kernel_rfl) Try.func3 (by kernel_rfl)
    (of_decide_eq_true (by kernel_rfl)) (by unfold Func.isWrapper; first | (rw [if_pos (by decide +kernel)]; kernel_rfl) | (rw [if_neg (by decide +kernel)]; exact ⟨rfl, rfl⟩))
    (fun os started H enc _ => lifted os started H enc)

end Go.Proofs.Ytnbmkoapohjnmaa.lawBlockData
