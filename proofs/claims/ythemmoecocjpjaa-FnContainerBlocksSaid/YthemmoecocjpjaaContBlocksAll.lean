/- A container is the bytes of its blocks, whose numbers count from 0, and its size is that of all of them. Conditions: none. -/
import Derived.Test.YthemmoecocjpjaaContBlocksAllA
namespace Go.Proofs.Ythemmoecocjpjaa.lawContBlocks
set_option linter.unusedVariables false
set_option linter.unusedSimpArgs false
open Go.ChangeShapes Go.WideShapes Go.ChangeAt Go.RowKit Go.Joins
open Go.ChangeMaps (open_string shut_string)

set_option maxRecDepth 100000 in
set_option maxHeartbeats 1000000 in
theorem contW_any (s : ByteArray) (w : World) (hs : s.size ≤ 1073741824) :
    Calls Try.prog 23 #[.string s] w (ContPost s w) := by
  have cS := fun w => contS_any s w hs
  unfold ContPost at *
  generalize (contBlocks s).isSome = ok at *
  generalize (contBlocks s).getD [] = l at *
  go_enter Try.func23, Try.ntmps23
  go_wp2_with fail
  (with_reducible refine (cS _).mono ?_); rintro e w1 ⟨v, rfl, h, U⟩
  go_wp2
  go_ret2
  exact ⟨v, rfl, h, U⟩

def Rel (s : ByteArray) (l : List BlkD) (w : World) (a z r i : Value) (wr : World) : Prop := ∃ k : Nat, k ≤ l.length ∧ i = .int .i64 k ∧ a = .string (allUpto s l k) ∧ z = .int .i64 (sizeSum (l.take k)) ∧ r = .int .i64 (rawCount (l.take k)) ∧ Up w wr

set_option maxRecDepth 100000 in
set_option maxHeartbeats 8000000 in
theorem walk (vc : Value) (lc : List UInt8) (w : World) (hc : ArgU w vc lc) :
    Calls Try.prog 6  #[vc] w (Same (.bool true) w) := by
  have cD := fun w' hu => drawContainerBlocks_any vc lc w' (hc.up (w' := w') hu)
  obtain ⟨ac, cc, rfl, hc1, hc2, -⟩ := hc
  unfold maxLen at hc2
  by_cases h1 : 1048576 < lc.length
  · go_enter Try.func6, Try.ntmps6
    go_wp2
    go_ret
    exact ⟨rfl, by (repeat (first | with_reducible exact Up.refl _ | with_reducible assumption | with_reducible refine Up.set ?_ (by first | exact Nat.le_refl _ | (simp only []; omega) | (simp; omega)) _ | with_reducible refine Up.alloc ?_ _ | with_reducible refine Up.drew ?_ | refine Up.trans ?_ (by with_reducible assumption)))⟩
  go_enter Try.func6, Try.ntmps6
  go_wp2_with (go_at_call 21; (with_reducible refine (cD _ (by (repeat (first | with_reducible exact Up.refl _ | with_reducible assumption | with_reducible refine Up.set ?_ (by first | exact Nat.le_refl _ | (simp only []; omega) | (simp; omega)) _ | with_reducible refine Up.alloc ?_ _ | with_reducible refine Up.drew ?_ | refine Up.trans ?_ (by with_reducible assumption))))).mono ?_); rintro e w1 ⟨s, rfl, hs, U1⟩)
  have cI := fun w => contI_any s w (by omega)
  have cS := fun w => contW_any s w (by omega)
  have cZ := fun w => csizei_any s w (by omega)
  have cR := fun w => counti_any s w (by omega)
  unfold ContPost at cI cS
  cases hb : contBlocks s with
  | none =>
    have ez : contSize s = -1 := by unfold contSize; rw [hb]
    rw [hb] at cI cS
    rw [ez] at cZ
    simp only [Option.isSome_none, Option.getD_none, List.length_nil] at cI cS
    clear hb ez
    go_wp2_with fail
    (with_reducible refine (cI _).mono ?_); rintro e w2 ⟨v2, rfl, h2, U2⟩
    go_wp2_with fail
    (with_reducible refine (cS _).mono ?_); rintro e w3 ⟨v3, rfl, h3, U3⟩
    have cE := fun w hu => soBlocks_any [] _ _ _ _ w (ownsRow_up (ownsRow_up h2 U3) hu) (ownsRow_up h3 hu)
    go_wp2_with (first | (go_at_call 24; (with_reducible refine (cE _ (by (repeat (first | with_reducible exact Up.refl _ | with_reducible assumption | with_reducible refine Up.set ?_ (by first | exact Nat.le_refl _ | (simp only []; omega) | (simp; omega)) _ | with_reducible refine Up.alloc ?_ _ | with_reducible refine Up.drew ?_ | refine Up.trans ?_ (by with_reducible assumption))))).mono ?_); rintro e w4 ⟨rfl, U4⟩) | (go_at_call 25; (with_reducible refine (cZ _).mono ?_); rintro e w5 ⟨rfl, U5⟩; have B5 := bcell U5; have Z5 := U5.size; (try simp at Z5); (try rw [Nat.add_one_le_iff] at Z5)))
    go_ret
    exact ⟨ret_bool (by simp), by (repeat (first | with_reducible exact Up.refl _ | with_reducible assumption | with_reducible refine Up.set ?_ (by first | exact Nat.le_refl _ | (simp only []; omega) | (simp; omega)) _ | with_reducible refine Up.alloc ?_ _ | with_reducible refine Up.drew ?_ | refine Up.trans ?_ (by with_reducible assumption)))⟩
  | some l =>
    obtain ⟨hsz, hsum, hlie⟩ := cont_lies hb
    have hok := contBlocks_ok hb
    have ez : contSize s = sizeSum l := by unfold contSize; rw [hb]
    have er : contRaw s = rawCount l := by unfold contRaw; rw [hb]
    have hl40 := hok.1
    rw [hb] at cI cS
    rw [ez] at cZ
    rw [er] at cR
    simp only [Option.isSome_some, Option.getD_some] at cI cS
    clear hb ez er
    go_wp2_with fail
    (with_reducible refine (cI _).mono ?_); rintro e w2 ⟨v2, rfl, h2, U2⟩
    go_wp2_with fail
    (with_reducible refine (cS _).mono ?_); rintro e w3 ⟨v3, rfl, h3, U3⟩
    have cE := fun w hu => soBlocks_any l _ _ _ _ w (ownsRow_up (ownsRow_up h2 U3) hu) (ownsRow_up h3 hu)
    have h23 := ownsRow_up h2 U3
    obtain ⟨a, ca, rfl, hm, hsome⟩ := ownsRow_any h23
    go_wp2_with (first | (go_at_call 24; (with_reducible refine (cE _ (by (repeat (first | with_reducible exact Up.refl _ | with_reducible assumption | with_reducible refine Up.set ?_ (by first | exact Nat.le_refl _ | (simp only []; omega) | (simp; omega)) _ | with_reducible refine Up.alloc ?_ _ | with_reducible refine Up.drew ?_ | refine Up.trans ?_ (by with_reducible assumption))))).mono ?_); rintro e w4 ⟨rfl, U4⟩))
    have hU4 : Up w w4 := by (repeat (first | with_reducible exact Up.refl _ | with_reducible assumption | with_reducible refine Up.set ?_ (by first | exact Nat.le_refl _ | (simp only []; omega) | (simp; omega)) _ | with_reducible refine Up.alloc ?_ _ | with_reducible refine Up.drew ?_ | refine Up.trans ?_ (by with_reducible assumption)))
    go_loopw [8, 9, 10, 11] (fun a z r i wr => Rel s l w4 a z r i wr) (fun _ _ _ i _ => l.length - (intOf i).toNat)
    case atStart => exact ⟨0, Nat.zero_le _, rfl, by rw [allUpto_zero]; rfl, rfl, rfl, Up.refl _⟩
    case round =>
      obtain ⟨k, hk, rfl, rfl, rfl, rfl, hup⟩ := hrel
      by_cases hlt : k < l.length
      · obtain ⟨hb1, hb2⟩ := sizeSum_bd (accOk_take hok k)
        obtain ⟨hr1, hr2⟩ := rawCount_bd (l.take k)
        have hlen : (l.take k).length ≤ 40 := by simp; omega
        have hb3 : sizeSum (l.take k) ≤ 2560 := by omega
        have hr3 : rawCount (l.take k) ≤ 40 := by omega
        have hL := hlie k l[k] (List.getElem?_eq_getElem hlt)
        have hF := lies_form hL
        obtain ⟨hA, hAz⟩ := allUpto_step hL
        have hnum : l[k].num = k := by obtain ⟨p, -, -, -, -, h5, -⟩ := hL; exact h5
        obtain ⟨hs1, hs2, hs3⟩ := hok.2 l[k] (List.getElem_mem hlt)
        have hTz := text_size l[k].num l[k].raw l[k].size l[k].body
        have HS : Hid (sizeSum (l.take (k + 1)) = sizeSum (l.take k) + l[k].size) := sizeSum_take hlt
        have HR : Hid (rawCount (l.take (k + 1)) = rawCount (l.take k) + if l[k].raw then 1 else 0) := rawCount_take hlt
        have HA := Lib.hid hA
        have cF := fun w => fmtI_any l[k].num l[k].raw l[k].size l[k].body w (by omega)
        unfold fmtB at cF
        rw [hF] at cF
        simp only [if_true] at cF
        obtain ⟨g, rfl, hnc, hcm, hbg, hg, hcells⟩ := hsome (by omega)
        have hup3 : Up w3 wr := U4.trans hup
        obtain ⟨c0, c1, c2, c3⟩ := blk_cells (w := wr) (fun j u hj => (hup3.cell (p := ⟨g, j, none⟩) hg).trans (hcells j u hj)) hlt
        have hgr := Nat.lt_of_lt_of_le hg hup3.size
        generalize textB l[k].num l[k].raw l[k].size l[k].body = T at *
        generalize hbk : l[k] = b at *
        obtain ⟨n, r, z, d⟩ := b
        simp only at *
        subst hnum
        clear hA hcells hL hF hlen hb2 hr2
        have ha2 : (allUpto s l k).size ≤ 10002 := by omega
        generalize allUpto s l k = A at *
        cases r
        all_goals
          go_wp2_with (go_at_call 15; (with_reducible refine (cF _).mono ?_); rintro e w7 ⟨rfl, U7⟩; have B7 := bcell U7; have Z7 := U7.size; (try simp at Z7); (try rw [Nat.add_one_le_iff] at Z7))
          go_roundw
          case rel => exact ⟨k + 1, by omega, by go_num, by rw [HA.out], by rw [HS.out], by rw [HR.out]; rfl, hup.trans U7⟩
          case measure => simp [intOf]; omega
      · have e : k = l.length := by omega
        subst e
        rw [allUpto_all hsz, List.take_length]
        have hl2 : ((l.length : Nat) : Int) ≤ 40 := by omega
        go_wp2_with (first | (go_at_call 25; (with_reducible refine (cZ _).mono ?_); rintro e w8 ⟨rfl, U8⟩; have B8 := bcell U8; have Z8 := U8.size; (try simp at Z8); (try rw [Nat.add_one_le_iff] at Z8)) | (go_at_call 26; (with_reducible refine (cR _).mono ?_); rintro e w9 ⟨rfl, U9⟩; have B9 := bcell U9; have Z9 := U9.size; (try simp at Z9); (try rw [Nat.add_one_le_iff] at Z9)))
        go_ret
        exact ⟨ret_bool (by simp), by (repeat (first | with_reducible exact Up.refl _ | with_reducible assumption | with_reducible refine Up.set ?_ (by first | exact Nat.le_refl _ | (simp only []; omega) | (simp; omega)) _ | with_reducible refine Up.alloc ?_ _ | with_reducible refine Up.drew ?_ | refine Up.trans ?_ (by with_reducible assumption)))⟩

set_option maxRecDepth 100000 in
theorem lifted (os : Os) (started : os.Started) (H : Type) (enc : TypeId × Value → H) :
    ReturnsInHanded {} Try.checked os 6 .any (Rows.fnContainerBlocksSpec.pre6 enc Try.prog Try.f6 Rows.fnContainerBlocksRow.domain false) (Rows.fnContainerBlocksSpec.post enc Try.prog Try.f6 false true false false) := by
  refine returnsInHanded_of_change (C := Try.checked) own started (by kernel_rfl) Try.func6
    (ChangeSpec.witness6 (enc := enc) (C := Try.checked) false ⟨#[], #[.slice none 0 0], []⟩ 8 (by kernel_rfl) (by kernel_rfl) (by kernel_rfl) (by kernel_rfl)) ?_
  intro W base args ds gs before hval0 hW hcnd _
  have hval : ∀ (j : Nat) t v, Try.f6.params[j]? = some t → args[j]? = some v → Value.okWide Try.prog W .any base t v := hval0
  have hW' := hW
  obtain ⟨p, q, hA0, hV, rfl, hfz, hnd⟩ := hW
  have hA : DataW.TrodAll enc Try.prog W 0 (fun _ => true) true Try.f6.params.toList args.toList ds p := hA0
  rw [Try.params6] at hA hval
  obtain ⟨v0, d0, rfl, rfl, h0⟩ := trodAll_one hA
  obtain ⟨p0, rfl⟩ : ∃ x, x = p := ⟨_, rfl⟩
  obtain ⟨a0, n0, c0, rfl⟩ := okWide_slice Try.underlying22 (hval 0 22 v0 rfl rfl)
  have hlt0 : ∀ x ∈ p0, x.block < W.heap.size := fun x hx => by simpa using hW'.lt x (by simp [hx])
  obtain ⟨fuel0, hf0⟩ := h0
  obtain ⟨lcode, hcode⟩ := open_argU (by simpa [Value.cells] using hf0) hlt0
  obtain ⟨rfl, rfl⟩ := trodVars_none hV
  refine (walk _ _ W hcode).mono fun e W' ⟨he, hu⟩ => ?_
  subst he
  exact ⟨_, rfl, post_law (f := Try.f6) TrylaidOut (by kernel_rfl) rfl Try.underlying4 rfl hW' (fun ds' h => by subst h; exact ⟨rfl, rfl, rfl⟩) hu⟩

theorem holds : Rows.FnContainerBlocksSaid :=
  OpenClaim.holds_of_wide 6 Try.f6 rfl rfl rfl rfl rfl rfl rfl ⟨rfl, rfl, rfl, rfl, rfl⟩ rfl rfl rfl rfl rfl (by kernel_rfl) Try.func6 (by kernel_rfl)
    (of_decide_eq_true (by kernel_rfl)) (by unfold Func.isWrapper; first | (rw [if_pos (by decide +kernel)]; kernel_rfl) | (rw [if_neg (by decide +kernel)]; exact ⟨rfl, rfl⟩))
    (fun os started H enc _ => lifted os started H enc)

end Go.Proofs.Ythemmoecocjpjaa.lawContBlocks
