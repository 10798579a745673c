/- What a writer holds back is the end of its data. Conditions: none. -/
import Derived.Test.YtgbakgaegldomaaMFnWriteBitsLawA
import Derived.Test.YtgbakgaegldomaaMFnWriteBitsLawB
import Derived.Test.YtgbakgaegldomaaMFnWriteBitsLawC
import Derived.Test.YtgbakgaegldomaaMFnWriteBitsLawD
import Derived.Test.YtgbakgaegldomaaMFnWriteBitsLawE
import Derived.Test.YtgbakgaegldomaaMFnWriteBitsLawF
import Derived.Test.YtgbakgaegldomaaMFnWriteBitsLawG
namespace Go.Proofs.Ytgbakgaegldomaa.lawFnWriteBits
set_option linter.unusedVariables false
set_option linter.unusedSimpArgs false
open Go.ChangeShapes Go.WideShapes Go.ChangeAt Go.RowKit Go.Joins
open Go.ChangeMaps (open_string shut_string)

set_option maxRecDepth 100000 in
set_option maxHeartbeats 8000000 in
theorem walk (vc : Value) (lc : List UInt8) (w : World) (hc : ArgU w vc lc) :
    Calls Try.prog 5  #[vc] w (Same (.bool true) w) := by
  have cD := fun w' hu => drawWrite_any vc lc w' (hc.up (w' := w') hu)
  obtain ⟨ac, cc, rfl, hc1, hc2, -⟩ := hc
  unfold maxLen at hc2
  by_cases h1 : 1048576 < lc.length
  · go_enter Try.func5, Try.ntmps5
    go_wp2_with fail
    go_ret
    exact ⟨rfl, by (repeat (first | with_reducible exact Up.refl _ | with_reducible assumption | with_reducible refine Up.set ?_ (by first | exact Nat.le_refl _ | (simp only []; omega) | (simp; omega)) _ | with_reducible refine Up.alloc ?_ _ | with_reducible refine Up.drew ?_ | refine Up.trans ?_ (by with_reducible assumption)))⟩
  go_enter Try.func5, Try.ntmps5
  go_wp2_with (first | (go_at_call 14; (with_reducible refine (cD _ (by (repeat (first | with_reducible exact Up.refl _ | with_reducible assumption | with_reducible refine Up.set ?_ (by first | exact Nat.le_refl _ | (simp only []; omega) | (simp; omega)) _ | with_reducible refine Up.alloc ?_ _ | with_reducible refine Up.drew ?_ | refine Up.trans ?_ (by with_reducible assumption))))).mono ?_); rintro e w1 ⟨v, rfl, ⟨x, u, d, rfl, hrd, hbx, hd⟩, U1⟩; obtain ⟨a, cap, rfl, -⟩ := id hrd; unfold wrV; have B1 := bcell U1; have Z1 := U1.size; (try simp at Z1); (try rw [Nat.add_one_le_iff] at Z1)) | fail)
  have hUa : Up w1 (w1.alloc (.cells #[.int .i64 x.k.set.ord, .int .i64 x.k.set.lit, .int .i64 x.k.set.most, .slice a x.k.ps.length cap, .int .i64 x.k.base, .int .i64 x.k.last, .string (bs x.pend), .string (bs x.bits), .bool x.beg] 35)) := (Up.refl _).alloc _
  have hX : WrAt w1.heap.size x (.slice a x.k.ps.length cap) (w1.alloc (.cells #[.int .i64 x.k.set.ord, .int .i64 x.k.set.lit, .int .i64 x.k.set.most, .slice a x.k.ps.length cap, .int .i64 x.k.base, .int .i64 x.k.last, .string (bs x.pend), .string (bs x.bits), .bool x.beg] 35)) := (MapKept.heap_alloc w1 _).1
  have hUW : Up w (w1.alloc (.cells #[.int .i64 x.k.set.ord, .int .i64 x.k.set.lit, .int .i64 x.k.set.most, .slice a x.k.ps.length cap, .int .i64 x.k.base, .int .i64 x.k.last, .string (bs x.pend), .string (bs x.bits), .bool x.beg] 35)) := by (repeat (first | with_reducible exact Up.refl _ | with_reducible assumption | with_reducible refine Up.set ?_ (by first | exact Nat.le_refl _ | (simp only []; omega) | (simp; omega)) _ | with_reducible refine Up.alloc ?_ _ | with_reducible refine Up.drew ?_ | refine Up.trans ?_ (by with_reducible assumption)))
  have hrd := hrd.up hUa
  clear B1 Z1 U1 hUa cD
  generalize (w1.alloc (.cells #[.int .i64 x.k.set.ord, .int .i64 x.k.set.lit, .int .i64 x.k.set.most, .slice a x.k.ps.length cap, .int .i64 x.k.base, .int .i64 x.k.last, .string (bs x.pend), .string (bs x.bits), .bool x.beg] 35)) = W at *
  generalize w1.heap.size = b5 at *
  have hrt := fun (wq : World) (hu : Up W wq) => hrd.up hu
  have hdl : d.data.toList.length = d.size := rfl
  have cI : ∀ wq, RdP 0 wq (.slice a x.k.ps.length cap) x.k.ps → Calls Try.prog 10  #[wrV x (.slice a x.k.ps.length cap), .string d] wq (WdPost (wdO x d.data.toList) wq) := fun wq h => wdI_any x _ 0 d.data.toList wq hbx.1 h (by have := hbx.2; omega) (by have := hbx.2; omega) (by have := hbx.2; omega) (by omega)
  have cS : ∀ wq, RdP 0 wq (.slice a x.k.ps.length cap) x.k.ps → Calls Try.prog 8  #[wrV x (.slice a x.k.ps.length cap), .string d] wq (WdPost (wdO x d.data.toList) wq) := fun wq h => wdS_any x _ 0 d.data.toList wq h (by have := hbx.2; omega) (by have := hbx.2; omega) (by have := hbx.2; omega) (by omega)
  obtain ⟨hbb, r0, r1, r2, r3, r4, r5, r6, r7, r8⟩ := hX.cells
  cases hb : (wrvB x && fitsB x.k.set (x.pend ++ d.data.toList))
  · rw [wdO_none hb] at cI cS
    have c0 : ∀ wq, Calls Try.prog 15  #[noWr, noWr] wq (Same (.bool true) wq) := fun wq => soWriters_same wr0 (.slice none 0 0) (.slice none 0 0) 0 0 wq (rdP_none _ _) (rdP_none _ _)
    have bsn : bs [] = (⟨#[]⟩ : ByteArray) := rfl
    unfold noWr at c0
    unfold wrV at cI cS
    clear hb
    go_wp2_with fail
    (with_reducible refine (cI _ (hrt _ (Up.refl _))).mono ?_); rintro e w2 hP; obtain ⟨rfl, U2⟩ := wdP_no hP
    obtain ⟨hbb2, r0, r1, r2, r3, r4, r5, r6, r7, r8⟩ := (hX.up U2).cells
    unfold noWr
    go_wp2_with fail
    have hZ2 : WrAt w2.heap.size wr0 (.slice none 0 0) (w2.alloc (.cells #[.int .i64 0, .int .i64 0, .int .i64 0, .slice none 0 0, .int .i64 0, .int .i64 0, .string ⟨#[]⟩, .string ⟨#[]⟩, .bool false] 35)) := WrAt.zero (MapKept.heap_alloc w2 _).1
    have hU2 : Up W (w2.alloc (.cells #[.int .i64 0, .int .i64 0, .int .i64 0, .slice none 0 0, .int .i64 0, .int .i64 0, .string ⟨#[]⟩, .string ⟨#[]⟩, .bool false] 35)) := U2.alloc _
    clear hP U2 r0 r1 r2 r3 r4 r5 r6 r7 r8 hbb2
    generalize w2.alloc (.cells #[.int .i64 0, .int .i64 0, .int .i64 0, .slice none 0 0, .int .i64 0, .int .i64 0, .string ⟨#[]⟩, .string ⟨#[]⟩, .bool false] 35) = W2 at *
    generalize w2.heap.size = b7 at *
    (with_reducible refine (cS _ (hrt _ hU2)).mono ?_); rintro e w3 hP; obtain ⟨rfl, U3⟩ := wdP_no hP
    obtain ⟨hbb3, q0, q1, q2, q3, q4, q5, q6, q7, q8⟩ := (hZ2.up U3).cells
    simp only [wr0, bsn] at q0 q1 q2 q3 q4 q5 q6 q7 q8
    unfold noWr
    go_wp2_with fail
    have hZ3 : WrAt w3.heap.size wr0 (.slice none 0 0) (w3.alloc (.cells #[.int .i64 0, .int .i64 0, .int .i64 0, .slice none 0 0, .int .i64 0, .int .i64 0, .string ⟨#[]⟩, .string ⟨#[]⟩, .bool false] 35)) := WrAt.zero (MapKept.heap_alloc w3 _).1
    have hU3 : Up W (w3.alloc (.cells #[.int .i64 0, .int .i64 0, .int .i64 0, .slice none 0 0, .int .i64 0, .int .i64 0, .string ⟨#[]⟩, .string ⟨#[]⟩, .bool false] 35)) := (hU2.trans U3).alloc _
    have hZ2 := hZ2.up (U3.alloc (.cells #[.int .i64 0, .int .i64 0, .int .i64 0, .slice none 0 0, .int .i64 0, .int .i64 0, .string ⟨#[]⟩, .string ⟨#[]⟩, .bool false] 35))
    clear hP U3 hbb3 q0 q1 q2 q3 q4 q5 q6 q7 q8
    generalize w3.alloc (.cells #[.int .i64 0, .int .i64 0, .int .i64 0, .slice none 0 0, .int .i64 0, .int .i64 0, .string ⟨#[]⟩, .string ⟨#[]⟩, .bool false] 35) = W3 at *
    generalize w3.heap.size = b10 at *
    (with_reducible refine (c0 _).mono ?_); rintro e w4 ⟨rfl, U4⟩
    obtain ⟨hbb4, q0, q1, q2, q3, q4, q5, q6, q7, q8⟩ := (hZ2.up U4).cells
    obtain ⟨hbc4, s0, s1, s2, s3, s4, s5, s6, s7, s8⟩ := (hZ3.up U4).cells
    simp only [wr0, bsn] at q0 q1 q2 q3 q4 q5 q6 q7 q8 s0 s1 s2 s3 s4 s5 s6 s7 s8
    go_wp2_with fail
    (with_reducible refine (c0 _).mono ?_); rintro e w5 ⟨rfl, U5⟩
    go_wp2_with fail
    go_ret
    refine ⟨ret_bool (by simp; try rfl), ?_⟩
    exact ((hUW.trans hU3).trans U4).trans U5
  · obtain ⟨hx, hl, hn⟩ := wd_ok hb
    rw [wdO_some hb] at cI cS
    have HEN := Lib.hid (wrOk_write (d := d.data.toList) hx hl (by rw [List.length_append]; omega))
    have HXO := Lib.hid (And.intro hx (And.intro hl hn))
    have hyl := write_len hx hl hn
    obtain ⟨hy1, hy2, hy3⟩ := write_end hx hl hn
    obtain ⟨⟨y, yb⟩, hY⟩ : ∃ Y, Hid (x.write d.data.toList = Y) := ⟨_, rfl⟩
    rw [hY.out] at cI cS hyl hy1 hy2 hy3 HEN
    dsimp only at HEN
    dsimp only at hyl hy1 hy2 hy3
    have hys := bs_size yb
    have HY1 := Lib.hid (And.intro hy1 hy2)
    have cSo := fun wq v v' h h' => soWriters_same y v v' 0 0 wq h h'
    have hyp := hy1.1.nums
    have hyp2 := hy1.2.2.2.1
    have hyb := hy1.2.2.2.2.2.1
    clear hb hx hl hn hy1 hy2
    unfold wrV at cI cS cSo
    go_wp2_with fail
    (with_reducible refine (cI _ (hrt _ (Up.refl _))).mono ?_); rintro e w2 hP; obtain ⟨v2, rfl, ho2, U2⟩ := wdP_yes hP
    obtain ⟨a2, c2, rfl⟩ := ownsRow_shape ho2
    have hr2 := (RdP.of_own ho2).low (Nat.zero_le _)
    obtain ⟨hbb2, r0, r1, r2, r3, r4, r5, r6, r7, r8⟩ := (hX.up U2).cells
    unfold wrV
    go_wp2_with fail
    have hZ2 : WrAt w2.heap.size y (.slice a2 y.k.ps.length c2) (w2.alloc (.cells #[.int .i64 y.k.set.ord, .int .i64 y.k.set.lit, .int .i64 y.k.set.most, .slice a2 y.k.ps.length c2, .int .i64 y.k.base, .int .i64 y.k.last, .string (bs y.pend), .string (bs y.bits), .bool y.beg] 35)) := (MapKept.heap_alloc w2 _).1
    have hU2 : Up W (w2.alloc (.cells #[.int .i64 y.k.set.ord, .int .i64 y.k.set.lit, .int .i64 y.k.set.most, .slice a2 y.k.ps.length c2, .int .i64 y.k.base, .int .i64 y.k.last, .string (bs y.pend), .string (bs y.bits), .bool y.beg] 35)) := U2.alloc _
    have hr2 := hr2.up ((Up.refl w2).alloc (.cells #[.int .i64 y.k.set.ord, .int .i64 y.k.set.lit, .int .i64 y.k.set.most, .slice a2 y.k.ps.length c2, .int .i64 y.k.base, .int .i64 y.k.last, .string (bs y.pend), .string (bs y.bits), .bool y.beg] 35))
    clear hP U2 ho2 r0 r1 r2 r3 r4 r5 r6 r7 r8 hbb2
    generalize w2.alloc (.cells #[.int .i64 y.k.set.ord, .int .i64 y.k.set.lit, .int .i64 y.k.set.most, .slice a2 y.k.ps.length c2, .int .i64 y.k.base, .int .i64 y.k.last, .string (bs y.pend), .string (bs y.bits), .bool y.beg] 35) = W2 at *
    generalize w2.heap.size = b7 at *
    (with_reducible refine (cS _ (hrt _ hU2)).mono ?_); rintro e w3 hP; obtain ⟨v3, rfl, ho3, U3⟩ := wdP_yes hP
    obtain ⟨a3, c3, rfl⟩ := ownsRow_shape ho3
    have hr3 := (RdP.of_own ho3).low (Nat.zero_le _)
    obtain ⟨hbb3, q0, q1, q2, q3, q4, q5, q6, q7, q8⟩ := (hZ2.up U3).cells
    unfold wrV
    go_wp2_with fail
    have hU3 : Up W2 (w3.alloc (.cells #[.int .i64 y.k.set.ord, .int .i64 y.k.set.lit, .int .i64 y.k.set.most, .slice a3 y.k.ps.length c3, .int .i64 y.k.base, .int .i64 y.k.last, .string (bs y.pend), .string (bs y.bits), .bool y.beg] 35)) := U3.alloc _
    have hZ2 := hZ2.up hU3
    have hr2 := hr2.up hU3
    have hr3 := hr3.up ((Up.refl w3).alloc (.cells #[.int .i64 y.k.set.ord, .int .i64 y.k.set.lit, .int .i64 y.k.set.most, .slice a3 y.k.ps.length c3, .int .i64 y.k.base, .int .i64 y.k.last, .string (bs y.pend), .string (bs y.bits), .bool y.beg] 35))
    clear hP U3 ho3 hbb3 q0 q1 q2 q3 q4 q5 q6 q7 q8
    generalize w3.alloc (.cells #[.int .i64 y.k.set.ord, .int .i64 y.k.set.lit, .int .i64 y.k.set.most, .slice a3 y.k.ps.length c3, .int .i64 y.k.base, .int .i64 y.k.last, .string (bs y.pend), .string (bs y.bits), .bool y.beg] 35) = W3 at *
    (with_reducible refine (cSo _ _ _ hr2 hr3).mono ?_); rintro e w4 ⟨rfl, U4⟩
    have hU4 := (hU2.trans hU3).trans U4
    have hZ4 := hZ2.up U4
    have hr4 := hr2.up U4
    obtain ⟨hbb4, r0, r1, r2, r3, r4, r5, r6, r7, r8⟩ := (hX.up hU4).cells
    obtain ⟨hbz4, q0, q1, q2, q3, q4, q5, q6, q7, q8⟩ := hZ4.cells
    have hcat : bs x.pend ++ d = bs (x.pend ++ d.data.toList) := bs_app x.pend d.data.toList
    have hxp := bs_size x.pend
    have hxn := HXO.out.2.2
    have hypn := bs_size y.pend
    have hybs := bs_size y.bits
    have hcs := bs_size (x.pend ++ d.data.toList)
    obtain ⟨-, -, hne, p, hp⟩ := HEN.out
    have hpl := congrArg List.length hp
    rw [List.length_append, List.length_append] at hpl
    rw [List.length_append] at hcs
    have hsuf : (bs (x.pend ++ d.data.toList)).extract p.length (x.pend.length + d.size) = bs y.pend := by
      rw [hp, bs_ext, List.drop_left]
      congr 1
      exact List.take_of_length_le (by omega)
    have HSUF := Lib.hid hsuf
    have HNE := Lib.hid hne
    have HP := Lib.hid hp
    clear hsuf hne hp hr2 hr3 hU2 hU3 cI cS
    have hidx : (x.pend.length : Int) + (d.size : Int) - (y.pend.length : Int) = (p.length : Int) := by omega
    generalize hxd : x.pend ++ d.data.toList = xd at *
    clear hxd
    go_wp2_with fail
    have hsuf := HSUF.out
    by_cases hpe : y.pend = []
    · have hde : d.data.toList = [] := by
        by_cases h : d.data.toList = []
        · exact h
        · exact absurd hpe (HNE.out h).2
      have hde : d.toList.isEmpty = true := by rw [Lib.toList_data, hde]; rfl
      have HDE : (bs y.pend).toList.isEmpty = true := by rw [hpe]; exact isEmpty_nil
      have hn0 : y.pend.length = 0 := by rw [hpe]; rfl
      clear hpe
      refine wp_region_up 48 (by kernel_rfl) (by kernel_rfl) ?_
      simp only [List.take, List.drop]
      repeat (refine wpUp_step (fun K hK => ?_); go_simp; (try simp only [↓IntWalk.iteOmega]); first
        | (refine hK _ _ ?_; clear hK K)
        | (apply stepU_c
           · intro wq hwq; (have hbq := bcell hwq; (repeat (first | refine fills_no (by rfl) ?_ | refine fills_yes (by rfl) (fun vq hvq => ?_))); simp only [List.filter_nil, fills]; unfold upAt; go_simp; (try go_bits); (try simp only [↓IntWalk.iteOmega]); (try (rw [dif_pos (by omega)]; go_simp; try go_bits)); first | exact upOut_value)
           go_simp; refine hK _ _ ?_; clear hK K))
      refine wpUp_nil (fun wq hwq => ?_)
      simp only [fills]
      go_wp2_with fail
      go_ret
      exact ⟨ret_bool (by simp; try omega), (hUW.trans hU4).trans hwq⟩
    · have HDE := isEmpty_bs hpe
      have hpos := List.length_pos_iff.2 hpe
      have hlg : y.k.longest y.pend = y.pend := (HY1.out.1.2.2.2.2.2.2.1).resolve_left hpe
      have cL := fun wq hr => lwI_any y.k (.slice a2 y.k.ps.length c2) 0 y.pend wq HY1.out.1.1 HY1.out.1.2.1 hr hpe (by have h := fits_of (d := []) HY1.out.1 (fun c hc => absurd hc List.not_mem_nil) (by simp; omega); rw [List.append_nil] at h; exact h)
      rw [hlg] at cL
      simp only [kV] at cL
      clear hlg hpe
      by_cases hd0 : d.data.toList = []
      · have hde : d.toList.isEmpty = true := by rw [Lib.toList_data, hd0]; rfl
        clear hd0
        refine wp_region_up 48 (by kernel_rfl) (by kernel_rfl) ?_
        simp only [List.take, List.drop]
        repeat (refine wpUp_step (fun K hK => ?_); go_simp; (try simp only [↓IntWalk.iteOmega]); first
          | (refine hK _ _ ?_; clear hK K)
          | (apply stepU_c
             · intro wq hwq; (have hbq := bcell hwq; (repeat (first | refine fills_no (by rfl) ?_ | refine fills_yes (by rfl) (fun vq hvq => ?_))); simp only [List.filter_nil, fills]; unfold upAt; go_simp; (try go_bits); (try simp only [↓IntWalk.iteOmega]); (try (rw [dif_pos (by omega)]; go_simp; try go_bits)); first | exact upOut_value | (apply upOut_call; (go_at_call 18; exact cL _ (hr4.up hwq))) | (apply upOut_eq; (go_at_call 18; exact cL _ (hr4.up hwq))))
             go_simp; refine hK _ _ ?_; clear hK K))
        refine wpUp_nil (fun wq hwq => ?_)
        simp only [fills]
        go_wp2_with fail
        go_ret
        exact ⟨ret_bool (by simp; try omega), (hUW.trans hU4).trans hwq⟩
      · have hbeg := (HNE.out hd0).1
        have hde : d.toList.isEmpty = false := isEmpty_bs hd0
        refine wp_region_up 48 (by kernel_rfl) (by kernel_rfl) ?_
        simp only [List.take, List.drop]
        repeat (refine wpUp_step (fun K hK => ?_); go_simp; (try simp only [↓IntWalk.iteOmega]); first
          | (refine hK _ _ ?_; clear hK K)
          | (apply stepU_c
             · intro wq hwq; (have hbq := bcell hwq; (repeat (first | refine fills_no (by rfl) ?_ | refine fills_yes (by rfl) (fun vq hvq => ?_))); simp only [List.filter_nil, fills]; unfold upAt; go_simp; (try go_bits); (try simp only [↓IntWalk.iteOmega]); (try (rw [dif_pos (by omega)]; go_simp; try go_bits)); first | exact upOut_value | (apply upOut_call; (go_at_call 18; exact cL _ (hr4.up hwq))) | (apply upOut_eq; (go_at_call 18; exact cL _ (hr4.up hwq))))
             go_simp; refine hK _ _ ?_; clear hK K))
        refine wpUp_nil (fun wq hwq => ?_)
        simp only [fills]
        go_wp2_with fail
        go_ret
        exact ⟨ret_bool (by simp; try omega), (hUW.trans hU4).trans hwq⟩

set_option maxRecDepth 100000 in
theorem lifted (os : Os) (started : os.Started) (H : Type) (enc : TypeId × Value → H) :
    ReturnsInHanded {} Try.checked os 5 .any (Rows.fnWriteBitsSpec.pre6 enc Try.prog Try.f5 Rows.fnWriteBitsRow.domain false) (Rows.fnWriteBitsSpec.post enc Try.prog Try.f5 false true false false) := by
  refine returnsInHanded_of_change (C := Try.checked) own started (by kernel_rfl) Try.func5
    (ChangeSpec.witness6 (enc := enc) (C := Try.checked) false ⟨#[], #[.slice none 0 0], []⟩ 8 (by kernel_rfl) (by kernel_rfl) (by kernel_rfl) (by kernel_rfl)) ?_
  intro W base args ds gs before hval0 hW hcnd _
  have hval : ∀ (j : Nat) t v, Try.f5.params[j]? = some t → args[j]? = some v → Value.okWide Try.prog W .any base t v := hval0
  have hW' := hW
  obtain ⟨p, q, hA0, hV, rfl, hfz, hnd⟩ := hW
  have hA : DataW.TrodAll enc Try.prog W 0 (fun _ => true) true Try.f5.params.toList args.toList ds p := hA0
  rw [Try.params5] at hA hval
  obtain ⟨v0, d0, rfl, rfl, h0⟩ := trodAll_one hA
  obtain ⟨p0, rfl⟩ : ∃ x, x = p := ⟨_, rfl⟩
  obtain ⟨a0, n0, c0, rfl⟩ := okWide_slice Try.underlying42 (hval 0 42 v0 rfl rfl)
  have hlt0 : ∀ x ∈ p0, x.block < W.heap.size := fun x hx => by simpa using hW'.lt x (by simp [hx])
  obtain ⟨fuel0, hf0⟩ := h0
  obtain ⟨lcode, hcode⟩ := open_argU (by simpa [Value.cells] using hf0) hlt0
  obtain ⟨rfl, rfl⟩ := trodVars_none hV
  refine (walk _ _ W hcode).mono fun e W' ⟨he, hu⟩ => ?_
  subst he
  exact ⟨_, rfl, post_law (f := Try.f5) TrylaidOut (by kernel_rfl) rfl Try.underlying4 rfl hW' (fun ds' h => by subst h; exact ⟨rfl, rfl, rfl⟩) hu⟩

set_option maxHeartbeats 80000000 in
theorem closed : joinedFacts Try.checked.prog 5 Try.f5 Rows.fnWriteBitsSpec Rows.fnWriteBitsRow = true := by
  unfold joinedFacts
  repeat' (with_reducible refine (Bool.and_eq_true_iff.2 ⟨?_, ?_⟩))
  all_goals (as_aux_lemma => kernel_rfl)

theorem holds : Rows.FnWriteBitsSaid :=
  OpenClaim.holds_of_wide 5 Try.f5 rfl rfl rfl rfl rfl rfl rfl ⟨rfl, rfl, rfl, rfl, rfl⟩ rfl rfl rfl rfl rfl (by as_aux_lemma => kernel_rfl) Try.func5 closed
    (of_decide_eq_true (by as_aux_lemma => kernel_rfl)) (by unfold Func.isWrapper; first | (rw [if_pos (by decide +kernel)]; kernel_rfl) | (rw [if_neg (by decide +kernel)]; exact ⟨rfl, rfl⟩))
    (fun os started H enc _ => lifted os started H enc)

end Go.Proofs.Ytgbakgaegldomaa.lawFnWriteBits
