/- Walk of the reference's l2Word. Conditions: what is known is valid (KnD.Ok) and can be read; the code has a word. -/
import Derived.Test.YtmjpopfacagjhaaDoorKns
namespace Go.Proofs.YtmjpopfacagjhaaDoor
set_option linter.unusedVariables false
set_option linter.unusedSimpArgs false
open Go.RowKit

theorem ownsRow_pos {w : World} {base : Nat} {e : TypeId} {size n : Nat} {v : Value} {xs : List Value} (h : w.ownsRow base e size v n xs) (hn : 0 < n) : ∃ g cap, v = .slice (some ⟨g, 0, none⟩) n cap ∧ n ≤ cap ∧ cap ≤ maxLen ∧ base ≤ g ∧ g < w.heap.size := by
  rcases ownsRow_read h with ⟨h1, h2⟩ | ⟨g, c, h1, h2, h3, h4, h5, _⟩
  · omega
  · exact ⟨g, c, h1, h2, h3, h4, h5⟩
theorem size_set2 (w : World) (a b : Addr) (u v : Value) : w.heap.size = ((w.setCell a u).setCell b v).heap.size := by simp [World.setCell]
theorem infoByte : (Tryd.prog.info? 5).map (fun i => (i.zero, i.size, i.bytes)) = some (some (.int .u8 0), 1, 1) := by kernel_rfl
def cellsU (l : List UInt8) : List Value := l.map fun b => .int .u8 (b.toNat : Int)
theorem cellsU_length (l : List UInt8) : (cellsU l).length = l.length := by simp [cellsU]
theorem cellsU_snoc (l : List UInt8) (b : UInt8) : cellsU (l ++ [b]) = cellsU l ++ [.int .u8 (b.toNat : Int)] := by simp [cellsU]
theorem cellsU_app (l m : List UInt8) : cellsU (l ++ m) = cellsU l ++ cellsU m := by simp [cellsU]
theorem cellsU_get {l : List UInt8} {i : Nat} (h : i < l.length) : (cellsU l)[i]? = some (.int .u8 (l[i].toNat : Int)) := by simp [cellsU, h]
theorem cellsU_at {l : List UInt8} {i : Nat} {b : UInt8} (h : l[i]? = some b) : (cellsU l)[i]? = some (.int .u8 (b.toNat : Int)) := by simp [cellsU, h]
theorem cellsU_set (l : List UInt8) (i : Nat) (b : UInt8) : (cellsU l).set i (.int .u8 (b.toNat : Int)) = cellsU (l.set i b) := by simp [cellsU, List.map_set]
theorem cellsU_one (l : List UInt8) : ∀ u ∈ cellsU l, u.oneCell' = true := by
  intro u hu
  simp only [cellsU, List.mem_map] at hu
  obtain ⟨b, -, rfl⟩ := hu
  rfl
/-- A row of bytes of the call's own. -/
abbrev ownU (w : World) (base : Nat) (v : Value) (l : List UInt8) : Prop := w.ownsRow base 5 1 v l.length (cellsU l)
theorem conv_row {w : World} {base g cap : Nat} {l : List UInt8} {n : Nat} (h : w.ownsRow base 5 1 (.slice (some ⟨g, 0, none⟩) n cap) n (cellsU l)) (hn : n = l.length) :
    (convert 29 9 (.slice (some ⟨g, 0, none⟩) n cap)).run Tryd.prog w = .ok (.string (bs l)) w := by
  have := run_convert_bytes_arg (P := Tryd.prog) w 29 5 Tryd.underlying29 Tryd.underlying5 g 0 n cap (l.map fun b => (b.toNat : Int)) (by simp [hn]) (fun i hi => by
    have hi' : i < l.length := by omega
    rw [Nat.zero_add, ownsRow_cell h (cellsU_get hi')]
    simp [List.getD_eq_getElem?_getD, hi']) 9 Tryd.underlying9
  rw [this, bs_num]

/-- A list of which k pairs of bytes from both ends have been exchanged. -/
def revK (l : List UInt8) (k : Nat) : List UInt8 := (List.range l.length).map fun j => if j < k ∨ l.length - k ≤ j then l.getD (l.length - 1 - j) 0 else l.getD j 0
theorem revK_length (l : List UInt8) (k : Nat) : (revK l k).length = l.length := by simp [revK]
theorem revK_get (l : List UInt8) (k j : Nat) (h : j < l.length) : (revK l k)[j]'(by rw [revK_length]; exact h) = if j < k ∨ l.length - k ≤ j then l.getD (l.length - 1 - j) 0 else l.getD j 0 := by simp [revK]
theorem revK_zero (l : List UInt8) : revK l 0 = l := by
  apply List.ext_getElem (revK_length l 0)
  intro j h1 h2
  rw [revK_get l 0 j h2, if_neg (by omega), List.getD_eq_getElem?_getD, List.getElem?_eq_getElem h2]; rfl
theorem revK_end (l : List UInt8) (k : Nat) (hk : l.length / 2 ≤ k) : revK l k = l.reverse := by
  apply List.ext_getElem (by rw [revK_length, List.length_reverse])
  intro j h1 h2
  rw [List.length_reverse] at h2
  rw [revK_get l k j h2, List.getElem_reverse]
  by_cases h : j < k ∨ l.length - k ≤ j
  · rw [if_pos h, List.getD_eq_getElem?_getD, List.getElem?_eq_getElem (by omega)]; rfl
  · rw [if_neg h, List.getD_eq_getElem?_getD, List.getElem?_eq_getElem h2]
    have : l.length - 1 - j = j := by omega
    simp only [this, Option.getD_some]
theorem revK_set (l : List UInt8) (k : Nat) (hk : k < l.length / 2) : ((revK l k).set k (l.getD (l.length - 1 - k) 0)).set (l.length - 1 - k) (l.getD k 0) = revK l (k + 1) := by
  apply List.ext_getElem (by simp [revK_length])
  intro j h1 h2
  rw [revK_length] at h2
  rw [revK_get l (k + 1) j h2, List.getElem_set, List.getElem_set]
  by_cases e1 : l.length - 1 - k = j
  · rw [if_pos e1, if_pos (by omega)]
    congr 1; omega
  · rw [if_neg e1]
    by_cases e2 : k = j
    · rw [if_pos e2, if_pos (by omega)]; subst e2; rfl
    · rw [if_neg e2, revK_get l k j h2]
      by_cases h : j < k ∨ l.length - k ≤ j
      · rw [if_pos h, if_pos (by omega)]
      · rw [if_neg h, if_neg (by omega)]
theorem revK_at (l : List UInt8) (k j : Nat) (hj : j < l.length) (h : k ≤ j) (h' : j < l.length - k) : (revK l k)[j]? = some (l.getD j 0) := by
  rw [List.getElem?_eq_getElem (by rw [revK_length]; exact hj), revK_get l k j hj, if_neg (by omega)]

theorem own_mt {T : TypeId} {size base g : Nat} {w' : World} (hg : g = w'.heap.size) (h : base ≤ w'.heap.size) : (w'.alloc (.cells #[] T)).ownsRow base T size (.slice (some ⟨g, 0, none⟩) 0 0) 0 [] :=
  hg ▸ World.ownsRow_made _ _ _ h (by unfold maxLen; omega) (by simp)
def RelW1 (k : KnD) (v : Value) (x0 : Int) (w : World) (x out : Value) (wr : World) : Prop := ∃ (y : Int) (rev : List UInt8), x = .int .i64 y ∧ codeOk k.c k.ps.length y = true ∧ k.word x0 = k.word y ++ rev.reverse ∧ rev.length + y ≤ x0 ∧
  wr.ownsRow (w.heap.size + 1) 5 1 out rev.length (cellsU rev) ∧ Up w wr ∧ KnAt w.heap.size k v wr
def RelW2 (l : List UInt8) (n g cap : Nat) (w : World) (i : Value) (wr : World) : Prop := ∃ j : Nat, j ≤ l.length / 2 ∧ i = .int .i64 j ∧ wr.ownsRow (w.heap.size + 1) 5 1 (.slice (some ⟨g, 0, none⟩) n cap) n (cellsU (revK l j)) ∧ Up w wr

theorem pair_at {w : World} {b off : Nat} {ps : List PairD} (h : ∀ i p, ps[i]? = some p → w.cell? ⟨b, off + i * 2, none⟩ = some (.int .i64 p.pre) ∧ w.cell? ⟨b, off + i * 2 + 1, none⟩ = some (.int .i64 p.byt)) {i : Nat} (hi : i < ps.length) :
    w.cell? ⟨b, off + i * 2, none⟩ = some (.int .i64 ps[i].pre) ∧ w.cell? ⟨b, off + i * 2 + 1, none⟩ = some (.int .i64 ps[i].byt) := h i _ (List.getElem?_eq_getElem hi)

set_option maxRecDepth 100000 in
set_option maxHeartbeats 4000000 in
theorem l2Word_any (k : KnD) (v : Value) (lo : Nat) (x0 : Int) (w : World) (h : k.Ok) (hr : RdP lo w v k.ps) (hx : codeOk k.c k.ps.length x0 = true) :
    Calls Tryd.prog 106  #[kV k v, .int .i64 x0] w (Same (.string (bs (k.word x0))) w) := by
  obtain ⟨i0, hi, hz0, hz1, hz2⟩ := info_parts infoByte
  obtain ⟨hb1, hb2, hb3, hb4, hb5⟩ := h.nums
  have cE := fun w => l1End_any k.set w h.set
  have ec : k.c = clr k.set := rfl
  have hx0 : x0 ≤ 1023 := by rw [codeOk_iff] at hx; omega
  have hr0 := hr
  obtain ⟨a, cap, rfl, hc1, hc2, hc3, hsome⟩ := hr
  simp only [kV]
  have HK := Lib.hid h
  have HX := Lib.hid hx
  clear h hx
  go_enter Tryd.func106, Tryd.ntmps106
  go_wp2
  go_loopw [1, 5] (fun x out wr => RelW1 k (.slice a k.ps.length cap) x0 w x out wr) (fun x _ _ => (intOf x).toNat)
  case atStart => exact ⟨x0, [], rfl, HX.out, by simp, by simp, own_mt (size_alloc _ _).symm (by rw [size_alloc]; exact Nat.le_refl _), by (repeat (first | exact Up.refl _ | refine Up.alloc ?_ _ | refine Up.drew ?_ | refine Up.set ?_ (by first | exact Nat.le_refl _ | (simp; done) | (simp; omega)) _ | refine Up.trans ?_ (by with_reducible assumption))), box_up ((Up.refl _).alloc _) (MapKept.heap_alloc w _).1⟩
  case round =>
    obtain ⟨y, rev, rfl, hy, hw, hlen, hown, hup, hkn⟩ := hrel
    obtain ⟨b0, b1, b2, b3, b4, b5, b6⟩ := hkn.cells
    have HKN := Lib.hid hkn
    have HW := Lib.hid hw
    have HY := Lib.hid hy
    clear hkn hw
    have hsz := hup.size
    by_cases hyc : y < clr k.set
    · have hy0 : 0 ≤ y := by rw [codeOk_iff] at hy; omega
      clear hy
      have HWL : Hid (k.word y = [ub y]) := wordP_lit hyc
      have hub := ub_nat hy0 (by omega : y < 256)
      obtain ⟨a4, c4, rfl⟩ := ownsRow_shape hown
      have HL : Hid (cellsU (rev ++ [ub y]) = cellsU rev ++ [.int .u8 y]) := by unfold Hid; rw [cellsU_snoc, hub]
      have hLl : (rev ++ [ub y]).length = rev.length + 1 := by simp
      have HR : Hid (k.word x0 = (rev ++ [ub y]).reverse) := by unfold Hid; rw [HW.out, HWL.out]; simp
      clear hub
      go_wp2_with (first | (go_at_call 85; (with_reducible refine (cE _).mono ?_); rintro e w1 ⟨rfl, U1⟩; have B1 := bcell U1; have Z1 := U1.size; (try simp at Z1); (try rw [Nat.add_one_le_iff] at Z1)) | (at_builtin; refine wpList_append_own _ rfl _ _ 29 rfl (w.heap.size + 1) 5 i0 (.int .u8 0) 1 1 Tryd.underlying29 hi hz0 hz1 hz2 rfl (by decide) _ _ _ rfl ((ownsRow_up hown U1).alloc _) ⟨w1.heap.size, 0, none⟩ 1 1 [.int .u8 y] rfl rfl (new_cells [.int .u8 y] _ rfl) (by intro u hu; simp at hu; subst hu; rfl) (by unfold maxLen; omega) (by omega) (by have := U1.size; simp; omega) ?_; rintro v2 w2 hown2 hgr2 -; rw [← HL.out] at hown2; obtain ⟨g, c2, rfl, g1, g2, g3, g4⟩ := ownsRow_pos hown2 (Nat.succ_pos _)))
      have hnb : rev.length + 1 ≤ 1024 := by omega
      generalize hLg : rev ++ [ub y] = L at *
      generalize rev.length + 1 = n at *
      have hup2 : Up w w2 := ((hup.trans U1).alloc _).grown hgr2 (fun x hx => Nat.le_trans (by omega) (hown.lt x hx).1)
      go_loopw [7] (fun i wr2 => RelW2 L n g c2 w i wr2) (fun i _ => n - (intOf i).toNat)
      case atStart => exact ⟨0, Nat.zero_le _, rfl, by rw [revK_zero]; exact hown2, hup2⟩
      case round =>
        obtain ⟨j, hj, rfl, hown3, hup3⟩ := hrel
        by_cases hlt : j < L.length / 2
        · have x0 := ownsRow_cell hown3 (cellsU_at (revK_at L j j (by omega) (Nat.le_refl _) (by omega)))
          have x1 := ownsRow_cell hown3 (cellsU_at (revK_at L j (n - 1 - j) (by omega) (by omega) (by omega)))
          have f0 := ownsRow_free hown3 j
          have f1 := ownsRow_free hown3 (n - 1 - j)
          have HS := Lib.hid (revK_set L j hlt)
          go_wp2
          go_roundw
          case rel => exact ⟨j + 1, by omega, by go_num, by rw [← HS.out, hLl, ← cellsU_set, ← cellsU_set]; exact ownsRow_set (ownsRow_set hown3 j _) (n - 1 - j) _, (hup3.set (p := ⟨g, j, none⟩) (by simp; omega) _).set (p := ⟨g, n - 1 - j, none⟩) (by simp; omega) _⟩
          case measure => simp [intOf]; omega
        · have hJ : Hid (revK L j = L.reverse) := revK_end L j (by omega)
          rw [hJ.out] at hown3
          have hconv := conv_row hown3 (by rw [List.length_reverse]; omega)
          go_wp2
          go_ret
          refine ⟨ret_str (by rw [HR.out]), hup3⟩
    · obtain ⟨i, rfl⟩ : ∃ i : Nat, y = (clr k.set : Int) + 2 + i := ⟨(y - clr k.set - 2).toNat, by rw [codeOk_iff] at hy; omega⟩
      have hil : i < k.ps.length := by rw [codeOk_iff] at hy; omega
      clear hy
      obtain ⟨p1, p2, p3⟩ := pre_lt HK.out.ps hil
      have hby := HK.out.ps.get hil
      have HWP := Lib.hid (wordP_pair HK.out.ps hil)
      obtain ⟨b, off, rfl, hlo, hbl, hcells⟩ := hsome (by omega)
      obtain ⟨q0, q1⟩ := pair_at hcells hil
      clear hcells
      obtain ⟨a4, c4, rfl⟩ := ownsRow_shape hown
      have ei : clr k.set + 2 + i - (clr k.set + 1) - 1 = i := by omega
      go_wp2_with (first | (go_at_call 85; (with_reducible refine (cE _).mono ?_); rintro e w1 ⟨rfl, U1⟩; have B1 := bcell U1; have Z1 := U1.size; (try simp at Z1); (try rw [Nat.add_one_le_iff] at Z1)) | fail)
      refine wp_region_up 11 (by kernel_rfl) (by kernel_rfl) ?_
      simp only [List.take, List.drop]
      repeat (refine wpUp_step (fun K hK => ?_); go_simp; (try simp only [↓IntWalk.iteOmega]); first
        | (refine hK _ _ ?_; clear hK K)
        | (apply stepU_c
           · intro wq hwq; (have hbq := bcell hwq; (repeat (first | refine fills_no (by rfl) ?_ | refine fills_yes (by rfl) (fun vq hvq => ?_))); simp only [List.filter_nil, fills]; unfold upAt; (try ((obtain ⟨-, r0, r1, r2, r3, r4, r5⟩ := KnAt.cells (box_up (U1.trans hwq) HKN.out); have e0 := ((hup.trans (U1.trans hwq)).cell (p := ⟨b, off + i * 2, none⟩) hbl).trans q0; have e1 := ((hup.trans (U1.trans hwq)).cell (p := ⟨b, off + i * 2 + 1, none⟩) hbl).trans q1))); go_simp; (try go_bits); (try simp only [↓IntWalk.iteOmega]); (try (rw [dif_pos (by omega)]; go_simp; try go_bits)); first | exact upOut_value | (apply upOut_call; (go_at_call 85; exact cE _)) | (apply upOut_eq; (go_at_call 85; exact cE _)))
           go_simp; refine hK _ _ ?_; clear hK K)
        | (refine stepU_m (by kernel_rfl) (Boxed w1.heap.size #[.int .i64 0, .int .i64 0] 127) (boxed_closed _ _ _) (fun wq hwq => ?_) ?_
           · (have hbq := bcell hwq; (repeat (first | refine fills_no (by rfl) ?_ | refine fills_yes (by rfl) (fun vq hvq => ?_))); simp only [List.filter_nil, fills]; unfold upAt; (try ((obtain ⟨-, r0, r1, r2, r3, r4, r5⟩ := KnAt.cells (box_up (U1.trans hwq) HKN.out); have e0 := ((hup.trans (U1.trans hwq)).cell (p := ⟨b, off + i * 2, none⟩) hbl).trans q0; have e1 := ((hup.trans (U1.trans hwq)).cell (p := ⟨b, off + i * 2 + 1, none⟩) hbl).trans q1))); go_simp; (try go_bits); (try simp only [↓IntWalk.iteOmega]); (try (rw [dif_pos (by omega)]; go_simp; try go_bits)); exact upOut_make ((Up.refl _).alloc _) (boxed_new hwq.size))
           refine hK _ _ ?_; clear hK K))
      refine wpUp_nil (fun wq hwq => ?_)
      simp only [fills]
      rintro v2 ⟨pb, rfl, hpb, hbox⟩
      have d0 := box_cell hbox 0
      have d1 := box_cell hbox 1
      have f0 := box_free hbox 0
      have f1 := box_free hbox 1
      obtain ⟨-, by1, by2⟩ := hby
      rw [ec] at by2 p2
      generalize k.ps[i].byt = yb at *
      generalize k.ps[i].pre = yp at *
      have hpl : pb < wq.heap.size := (Array.getElem?_eq_some_iff.1 hbox).1
      have hub := ub_nat by1 (by omega : yb < 256)
      have HL : Hid (cellsU (rev ++ [ub yb]) = cellsU rev ++ [.int .u8 yb]) := by unfold Hid; rw [cellsU_snoc, hub]
      have HNX : Hid (k.word x0 = k.word yp ++ (rev ++ [ub yb]).reverse) := by
        unfold Hid
        rw [HW.out]
        have := HWP.out
        rw [ec] at this
        unfold KnD.word
        rw [ec, this]; simp
      clear hub
      have U2 : Up w1 ((wq.setCell ⟨pb, 0, none⟩ (.int .i64 yp)).setCell ⟨pb, 1, none⟩ (.int .i64 yb)) := (hwq.set (p := ⟨pb, 0, none⟩) hpb _).set (p := ⟨pb, 1, none⟩) hpb _
      have hsz2 := U1.size
      have hbox2 := box_set (box_set hbox 0 (.int .i64 yp)) 1 (.int .i64 yb)
      have hD0 : Hid (((wq.setCell ⟨pb, 0, none⟩ (.int .i64 yp)).setCell ⟨pb, 1, none⟩ (.int .i64 yb)).cell? ⟨pb, 0, none⟩ = some (.int .i64 yp)) := box_cell hbox2 0
      have hpS := (Array.getElem?_eq_some_iff.1 hbox2).1
      clear hbox2
      go_wp2_with (at_builtin; refine wpList_append_own _ rfl _ _ 29 rfl (w.heap.size + 1) 5 i0 (.int .u8 0) 1 1 Tryd.underlying29 hi hz0 hz1 hz2 rfl (by decide) _ _ _ rfl ((ownsRow_up (ownsRow_up hown U1) U2).alloc _) ⟨wq.heap.size, 0, none⟩ 1 1 [.int .u8 yb] rfl rfl (new_cells [.int .u8 yb] _ (size_set2 _ _ _ _ _)) (by intro u hu; simp at hu; subst hu; rfl) (by unfold maxLen; omega) (by omega) (by simp; omega) ?_; rintro v2 w2 hown2 hgr2 -; have D0 := hgr2.cell (a := ⟨pb, 0, none⟩) (v := .int .i64 yp) ((((Up.refl _).alloc _).cell (p := ⟨pb, 0, none⟩) hpS).trans hD0.out) (own_ne (ownsRow_up hown U1) hpb))
      go_roundw
      case rel =>
        have hne : ∀ x, Value.ownBlock (.slice a4 rev.length c4) = some x → w.heap.size + 1 ≤ x := fun x hx => (hown.lt x hx).1
        refine ⟨yp, rev ++ [ub yb], rfl, p3, HNX.out, by simp; omega, ?_, ((hup.trans (U1.trans U2)).alloc _).grown hgr2 (fun x hx => by have := hne x hx; omega), gbox hgr2 (box_up ((U1.trans U2).alloc _) HKN.out) (fun e => by have := hne _ e.symm; omega)⟩
        rw [HL.out]; simpa using hown2
      case measure => simp [intOf]; omega

end Go.Proofs.YtmjpopfacagjhaaDoor
