/- Texts joined into one: the walks and laws that the last text leans on. Conditions: as each says. -/
import Derived.Test.YtgbakgaegldomaaGreatMFnWriterKnownLawS
import Derived.Test.YtgbakgaegldomaaGreatMFnWriterKnownLawY
import Derived.Test.YtgbakgaegldomaaGreatMFnWriterKnownLawZ
import Derived.Lib.OwnBridge

set_option linter.unusedVariables false
set_option linter.unusedSimpArgs false
/- Walks of the program's wordText and advance. Conditions: what is known is valid and can be read; the code can follow. -/
namespace Go.Proofs.YtgbakgaegldomaaGreat
open Go Go.RowKit
theorem revI_any (a0 : World) (v : Value) (l : List UInt8) (w : World) (hu : Up a0 w) (h : ownU w a0.heap.size v l) (hl : l.length ≤ 1048576) :
    Calls Tryz.prog 134 #[v] w (fun e w' => e = .returned (.tuple #[]) ∧ ownU w' a0.heap.size v l.reverse ∧ Up a0 w') := by
  by_cases hn : v = .slice none 0 0
  · subst hn
    have hl0 : l = [] := by
      rcases h.2 with ⟨_, e⟩ | ⟨g, cap, cur, e, _⟩
      · exact List.length_eq_zero_iff.1 e
      · cases e
    subst hl0
    have hc := AnyE.slices_Reverse_empty Tryz.lRev none 0 w
    change Calls Tryz.prog 134 _ _ _ at hc
    exact hc.mono fun e w' ⟨he, hw⟩ => by subst hw; exact ⟨he, h, hu⟩
  · obtain ⟨g, cap, rfl, hb, hlt, hnc, hcm, hzl, hH⟩ := Go.Lib.holds_of_ownsRow (enc := fun b : UInt8 => Value.int .u8 (b.toNat : Int)) h hn
    have hc := AnyE.slices_Reverse Tryz.lRev (fun b : UInt8 => Value.int .u8 (b.toNat : Int)) (fun _ => rfl) g 0 cap l w hH (by omega)
    change Calls Tryz.prog 134 _ _ _ at hc
    refine hc.mono fun e w' ⟨he, q, hw⟩ => ⟨he, ?_, ?_⟩
    · subst hw
      have h2 := Go.Lib.ownsRow_putRow (q := q) (ys := l.reverse) (k := l.length) h (by simp) (Nat.le_refl _)
      rw [List.take_of_length_le (by simp)] at h2
      have e : l.reverse.length = l.length := by simp
      unfold ownU
      rw [e]
      exact h2
    · subst hw
      exact Go.Lib.below_putRow hu hb
def RelW3 (k : KnD) (x0 : Int) (a0 : World) (x out : Value) (wr : World) : Prop := ∃ (y : Int) (rev : List UInt8), x = .int .i64 y ∧ codeOk k.c k.ps.length y = true ∧ k.word x0 = k.word y ++ rev.reverse ∧ rev.length + y ≤ x0 ∧
  ownU wr a0.heap.size out rev ∧ Up a0 wr
set_option maxRecDepth 100000 in
set_option maxHeartbeats 4000000 in
theorem wordI_any (k : KnD) (v : Value) (lo : Nat) (x0 : Int) (w : World) (h : k.Ok) (hr : RdP lo w v k.ps) (hx : codeOk k.c k.ps.length x0 = true) :
    Calls Tryz.prog 106  #[kV k v, .int .i64 x0] w (Same (.string (bs (k.word x0))) w) := by
  obtain ⟨i0, hi, hz0, hz1, hz2⟩ := info_parts infoByte
  obtain ⟨hb1, hb2, hb3, hb4, hb5⟩ := h.nums
  have cE := fun w => endI_any k.set w h.set
  have ec : k.c = clr k.set := rfl
  have hx1 := codeOk_iff.1 hx
  have hx0 : x0 ≤ 1023 := by omega
  have hrt := fun (wq : World) (hu : Up w wq) => hr.up hu
  obtain ⟨a, cap, rfl, hc1, hc2, hc3, hsome⟩ := hr
  have cN := fun w => nextI_any k.set k.base k.last a k.ps.length cap w h.set (by omega)
  have hne : (x0 == (clr k.set : Int) + 2 + k.ps.length) = false := by simp; omega
  simp only [kV, knV] at *
  have HK := Lib.hid h
  have HX := Lib.hid hx
  clear h hx
  go_enter Tryz.func106, Tryz.ntmps106
  go_wp2_with (first | (go_at_call 99; (with_reducible refine (cN _).mono ?_); rintro e w1 ⟨rfl, U1⟩; have B1 := bcell U1; have Z1 := U1.size; (try simp at Z1); (try rw [Nat.add_one_le_iff] at Z1)) | (go_at_call 76; (with_reducible refine (cE _).mono ?_); rintro e w2 ⟨rfl, U2⟩; have B2 := bcell U2; have Z2 := U2.size; (try simp at Z2); (try rw [Nat.add_one_le_iff] at Z2)))
  have hK2 : KnAt w.heap.size k (.slice a k.ps.length cap) w2 := box_up U2 (box_up U1 (MapKept.heap_alloc w _).1)
  have hU2 : Up w w2 := by (repeat (first | with_reducible exact Up.refl _ | with_reducible assumption | with_reducible refine Up.set ?_ (by first | exact Nat.le_refl _ | (simp only []; omega) | (simp; omega)) _ | with_reducible refine Up.alloc ?_ _ | with_reducible refine Up.drew ?_ | refine Up.trans ?_ (by with_reducible assumption)))
  have hw2 : w.heap.size < w2.heap.size := (Array.getElem?_eq_some_iff.1 hK2).1
  have HK2 := Lib.hid hK2
  clear U1 U2 B1 B2 Z1 Z2 hK2 hrt hx1 hne
  go_loopw [1, 7] (fun x out wr => RelW3 k x0 w2 x out wr) (fun x _ _ => (intOf x).toNat)
  case atStart => exact ⟨x0, [], rfl, HX.out, by simp, by simp, World.ownsRow_nil _ _ _ _, Up.refl _⟩
  case round =>
    obtain ⟨y, rev, rfl, hy, hw, hlen, hown, hup⟩ := hrel
    obtain ⟨b0, r0, r1, r2, r3, r4, r5⟩ := (HK2.out.up hup).cells
    have HW := Lib.hid hw
    have hsz := hup.size
    clear hw
    obtain ⟨a4, c4, rfl⟩ := ownU_shape hown
    have HOW := Lib.hid hown
    have HUP := Lib.hid hup
    by_cases hyc : y < clr k.set
    · have hy0 : 0 ≤ y := by rw [codeOk_iff] at hy; omega
      have HWL : Hid (k.word y = [ub y]) := wordP_lit hyc
      have hub := Lib.hid (ub_nat hy0 (by omega : y < 256))
      have HR : Hid (k.word x0 = (rev ++ [ub y]).reverse) := by unfold Hid; rw [HW.out, HWL.out]; simp
      have hlL : (rev ++ [ub y]).length = rev.length + 1 := by simp
      have HLL := Lib.hid hlL
      clear hy hown hup hlL
      go_wp2_with (first | (at_builtin; refine wpList_append_own _ rfl _ _ 22 rfl w2.heap.size 5 i0 (.int .u8 0) 1 1 Tryz.underlying22 hi hz0 hz1 hz2 rfl (by decide) _ _ _ rfl (ownsRow_up HOW.out (Up.alloc (Up.refl _) _)) ⟨wr.heap.size, 0, none⟩ 1 1 [.int .u8 y] rfl rfl (new_cells [.int .u8 y] _ rfl) (by intro u hu; simp at hu; subst hu; rfl) (by unfold maxLen; omega) (by omega) (by simp; omega) ?_; rintro v5 w5 hown5 hgr5 -; have hU5 : Up w2 w5 := (HUP.out.alloc _).grown hgr5 (fun b hb => (HOW.out.lt b hb).1); obtain ⟨a5, c5, rfl⟩ := ownsRow_shape hown5; have hO5 : ownU w5 w2.heap.size _ (rev ++ [ub y]) := ownU_snoc hub.out.symm rfl hown5; have HU5 := Lib.hid hU5; have HO5 := Lib.hid hO5; clear hU5 hO5 hown5 hgr5) | (go_at_call 134; (with_reducible refine (revI_any w2 _ _ _ HU5.out HO5.out (by rw [HLL.out]; omega)).mono ?_); rintro e w6 ⟨rfl, hO6, hU6⟩; have hconv := conv_any (ownsRow_n2 hO6 (show (rev ++ [ub y]).reverse.length = rev.length + 1 by simp)) (by simp); have HU6 := Lib.hid hU6; clear hO6 hU6))
      go_ret
      exact ⟨ret_str (by simp [HR.out]), hU2.trans HU6.out⟩
    · obtain ⟨i, rfl⟩ : ∃ i : Nat, y = (clr k.set : Int) + 2 + i := ⟨(y - clr k.set - 2).toNat, by rw [codeOk_iff] at hy; omega⟩
      have hil : i < k.ps.length := by rw [codeOk_iff] at hy; omega
      clear hy
      obtain ⟨p1, p2, p3⟩ := pre_lt HK.out.ps hil
      obtain ⟨-, by1, by2⟩ := HK.out.ps.get hil
      have HWP := Lib.hid (wordP_pair HK.out.ps hil)
      obtain ⟨b, off, rfl, hlo, hbl, hcells⟩ := hsome (by omega)
      obtain ⟨q0, q1⟩ := pair_at hcells hil
      clear hcells hsome hc3
      have e0 := ((hU2.trans hup).cell (p := ⟨b, off + i * 2, none⟩) hbl).trans q0
      have e1 := ((hU2.trans hup).cell (p := ⟨b, off + i * 2 + 1, none⟩) hbl).trans q1
      have hbl2 := Nat.lt_of_lt_of_le hbl (hU2.trans hup).size
      have ei : (clr k.set : Int) + 2 + i - (clr k.set + 1) - 1 = i := by omega
      rw [ec] at by2 p2
      generalize k.ps[i].byt = yb at *
      generalize k.ps[i].pre = yp at *
      have hub := Lib.hid (ub_nat by1 (by omega : yb < 256))
      have HNX : Hid (k.word x0 = k.word yp ++ (rev ++ [ub yb]).reverse) := by
        unfold Hid
        rw [HW.out]
        have := HWP.out
        rw [ec] at this
        unfold KnD.word
        rw [ec, this]; simp
      clear hown hup q0 q1
      go_wp2_with (first | (at_builtin; refine wpList_append_own _ rfl _ _ 22 rfl w2.heap.size 5 i0 (.int .u8 0) 1 1 Tryz.underlying22 hi hz0 hz1 hz2 rfl (by decide) _ _ _ rfl (ownsRow_up HOW.out (Up.alloc (Up.alloc (Up.refl _) _) _)) ⟨wr.heap.size + 1, 0, none⟩ 1 1 [.int .u8 yb] rfl rfl (new_cells [.int .u8 yb] _ (by simp)) (by intro u hu; simp at hu; subst hu; rfl) (by unfold maxLen; omega) (by omega) (by simp; omega) ?_; rintro v5 w5 hown5 hgr5 -; have hU5 : Up w2 w5 := ((HUP.out.alloc _).alloc _).grown hgr5 (fun b hb => (HOW.out.lt b hb).1); have hO5 : ownU w5 w2.heap.size v5 (rev ++ [ub yb]) := ownU_snoc hub.out.symm rfl hown5; have d0 := hgr5.cell (a := ⟨wr.heap.size, 0, none⟩) (v := .int .i64 yp) (((Up.alloc (Up.refl (wr.alloc _)) _).cell (p := ⟨wr.heap.size, 0, none⟩) (by simp)).trans (box_cell (MapKept.heap_alloc wr (.cells #[.int .i64 yp, .int .i64 yb] 118)).1 0)) (own_ne HOW.out (Nat.le_refl _)); have HU5 := Lib.hid hU5; have HO5 := Lib.hid hO5; clear hU5 hO5 hown5 hgr5))
      go_roundw
      case rel => exact ⟨yp, rev ++ [ub yb], rfl, p3, HNX.out, by simp; omega, HO5.out, HU5.out⟩
      case measure => simp [intOf]; omega
set_option maxRecDepth 100000 in
set_option maxHeartbeats 1000000 in
theorem wordJ_any (k : KnD) (v : Value) (lo : Nat) (x : Int) (w : World) (h : k.Ok) (hr : RdP lo w v k.ps) (hf : k.follows x = true) :
    Calls Tryz.prog 106  #[kV k v, .int .i64 x] w (Same (.string (bs (k.any x))) w) := by
  rcases KnD.follows_cases h hf with hc | ⟨hg, rfl, hl⟩
  · rw [KnD.any_word hc]
    exact wordI_any k v lo x w h hr hc
  · have hpl := h.nums.2.2.2.1
    have hrt := fun (wq : World) (hu : Up w wq) => hr.up hu
    have cW := fun wx hr => wordI_any k v lo k.last wx h hr hl
    have hE : Hid (bs (k.any k.next) = bs (k.word k.last) ++ (bs (k.word k.last)).extract 0 1) := by
      unfold Hid KnD.any
      rw [if_pos rfl, bs_ext, bs_app]
      simp
    have hp : 1 ≤ (k.word k.last).length := wordP_pos h.ps hl
    have hln : (k.word k.last).length ≤ k.ps.length + 1 := wordP_len h.ps hl
    rw [hE.out]
    have hsz := bs_size (k.word k.last)
    generalize k.word k.last = wl at *
    obtain ⟨a, cap, rfl, -, -, -, -⟩ := hr
    have cN := fun w => nextI_any k.set k.base k.last a k.ps.length cap w h.set (by omega)
    have en : ((k.next : Nat) : Int) = (clr k.set : Int) + 2 + k.ps.length := by unfold KnD.next KnD.c; omega
    rw [en]
    clear en hE
    simp only [kV, knV] at *
    clear h hf
    go_enter Tryz.func106, Tryz.ntmps106
    go_wp2_with (first | (go_at_call 99; (with_reducible refine (cN _).mono ?_); rintro e w1 ⟨rfl, U1⟩; have B1 := bcell U1; have Z1 := U1.size; (try simp at Z1); (try rw [Nat.add_one_le_iff] at Z1)) | ((go_at_call 106; (with_reducible refine (cW _ (hrt _ (by (repeat (first | with_reducible exact Up.refl _ | with_reducible assumption | with_reducible refine Up.set ?_ (by first | exact Nat.le_refl _ | (simp only []; omega) | (simp; omega)) _ | with_reducible refine Up.alloc ?_ _ | with_reducible refine Up.drew ?_ | refine Up.trans ?_ (by with_reducible assumption)))))).mono ?_); rintro e w2 ⟨rfl, U2⟩; have B2 := bcell U2; have Z2 := U2.size; (try simp at Z2); (try rw [Nat.add_one_le_iff] at Z2))))
    go_ret
    refine ⟨rfl, ?_⟩
    (repeat (first | with_reducible exact Up.refl _ | with_reducible assumption | with_reducible refine Up.set ?_ (by first | exact Nat.le_refl _ | (simp only []; omega) | (simp; omega)) _ | with_reducible refine Up.alloc ?_ _ | with_reducible refine Up.drew ?_ | refine Up.trans ?_ (by with_reducible assumption)))
end Go.Proofs.YtgbakgaegldomaaGreat

