/- Walks of the program's small functions on codes and on what is known. Conditions: as each says. -/
import Derived.Test.YtiiahjnfbhcgmaaGreatDoorImps
import Derived.Test.YtiiahjnfbhcgmaaGreatDoorCopy
import Derived.Test.YtiiahjnfbhcgmaaGreatDoorStartW
import Derived.Test.YtiiahjnfbhcgmaaGreatDoorBp
import Derived.Test.YtiiahjnfbhcgmaaGreatDoorShelf
namespace Go.Proofs.YtiiahjnfbhcgmaaGreatDoor
set_option linter.unusedVariables false
set_option linter.unusedSimpArgs false
open Go Go.RowKit

set_option maxRecDepth 100000 in
set_option maxHeartbeats 1000000 in
theorem hasI_any (s : SetD) (n : Nat) (x : Int) (w : World) (h : setOk s = true) (hn : n ≤ 1073741824) :
    Calls Tryz.prog 142  #[setV s, .int .i64 n, .int .i64 x] w (Same (.bool (codeOk (clr s) n x)) w) := by
  have cC := fun w => clearI_any s w h
  have cE := fun w => endI_any s w h
  obtain ⟨hb1, hb2, hb3⟩ := clr_le h
  generalize clr s = c at *
  obtain ⟨o, l, m⟩ := s
  simp only [setV] at *
  clear h
  by_cases h0 : 0 ≤ x
  · by_cases h1 : x < c
    · rw [show codeOk c n x = true by rw [codeOk_iff]; omega]
      go_enter Tryz.func142, Tryz.ntmps142
      go_wp2_with (first | (go_at_call 70; (with_reducible refine (cE _).mono ?_); rintro e w1 ⟨rfl, U1⟩; have B1 := bcell U1; have Z1 := U1.size; (try simp at Z1); (try rw [Nat.add_one_le_iff] at Z1)) | (go_at_call 52; (with_reducible refine (cC _).mono ?_); rintro e w2 ⟨rfl, U2⟩; have B2 := bcell U2; have Z2 := U2.size; (try simp at Z2); (try rw [Nat.add_one_le_iff] at Z2)))
      go_ret
      refine ⟨ret_bool (by first | rfl | (simp; done) | (simp; omega)), ?_⟩
      (repeat (first | exact Up.refl _ | refine Up.alloc ?_ _ | refine Up.drew ?_ | refine Up.set ?_ (by first | exact Nat.le_refl _ | (simp; done) | (simp; omega)) _ | refine Up.trans ?_ (by with_reducible assumption)))
    · by_cases h2 : (c : Int) + 1 < x
      · by_cases h3 : x ≤ c + 1 + n
        · rw [show codeOk c n x = true by rw [codeOk_iff]; omega]
          go_enter Tryz.func142, Tryz.ntmps142
          go_wp2_with (first | (go_at_call 70; (with_reducible refine (cE _).mono ?_); rintro e w1 ⟨rfl, U1⟩; have B1 := bcell U1; have Z1 := U1.size; (try simp at Z1); (try rw [Nat.add_one_le_iff] at Z1)) | (go_at_call 52; (with_reducible refine (cC _).mono ?_); rintro e w2 ⟨rfl, U2⟩; have B2 := bcell U2; have Z2 := U2.size; (try simp at Z2); (try rw [Nat.add_one_le_iff] at Z2)))
          go_ret
          refine ⟨ret_bool (by first | rfl | (simp; done) | (simp; omega)), ?_⟩
          (repeat (first | exact Up.refl _ | refine Up.alloc ?_ _ | refine Up.drew ?_ | refine Up.set ?_ (by first | exact Nat.le_refl _ | (simp; done) | (simp; omega)) _ | refine Up.trans ?_ (by with_reducible assumption)))
        · rw [show codeOk c n x = false by rw [← Bool.not_eq_true, codeOk_iff]; omega]
          go_enter Tryz.func142, Tryz.ntmps142
          go_wp2_with (first | (go_at_call 70; (with_reducible refine (cE _).mono ?_); rintro e w1 ⟨rfl, U1⟩; have B1 := bcell U1; have Z1 := U1.size; (try simp at Z1); (try rw [Nat.add_one_le_iff] at Z1)) | (go_at_call 52; (with_reducible refine (cC _).mono ?_); rintro e w2 ⟨rfl, U2⟩; have B2 := bcell U2; have Z2 := U2.size; (try simp at Z2); (try rw [Nat.add_one_le_iff] at Z2)))
          go_ret
          refine ⟨ret_bool (by first | rfl | (simp; done) | (simp; omega)), ?_⟩
          (repeat (first | exact Up.refl _ | refine Up.alloc ?_ _ | refine Up.drew ?_ | refine Up.set ?_ (by first | exact Nat.le_refl _ | (simp; done) | (simp; omega)) _ | refine Up.trans ?_ (by with_reducible assumption)))
      · rw [show codeOk c n x = false by rw [← Bool.not_eq_true, codeOk_iff]; omega]
        go_enter Tryz.func142, Tryz.ntmps142
        go_wp2_with (first | (go_at_call 70; (with_reducible refine (cE _).mono ?_); rintro e w1 ⟨rfl, U1⟩; have B1 := bcell U1; have Z1 := U1.size; (try simp at Z1); (try rw [Nat.add_one_le_iff] at Z1)) | (go_at_call 52; (with_reducible refine (cC _).mono ?_); rintro e w2 ⟨rfl, U2⟩; have B2 := bcell U2; have Z2 := U2.size; (try simp at Z2); (try rw [Nat.add_one_le_iff] at Z2)))
        go_ret
        refine ⟨ret_bool (by first | rfl | (simp; done) | (simp; omega)), ?_⟩
        (repeat (first | exact Up.refl _ | refine Up.alloc ?_ _ | refine Up.drew ?_ | refine Up.set ?_ (by first | exact Nat.le_refl _ | (simp; done) | (simp; omega)) _ | refine Up.trans ?_ (by with_reducible assumption)))
  · have h2 : ¬ (c : Int) + 1 < x := by omega
    rw [show codeOk c n x = false by rw [← Bool.not_eq_true, codeOk_iff]; omega]
    go_enter Tryz.func142, Tryz.ntmps142
    go_wp2_with (first | (go_at_call 70; (with_reducible refine (cE _).mono ?_); rintro e w1 ⟨rfl, U1⟩; have B1 := bcell U1; have Z1 := U1.size; (try simp at Z1); (try rw [Nat.add_one_le_iff] at Z1)) | (go_at_call 52; (with_reducible refine (cC _).mono ?_); rintro e w2 ⟨rfl, U2⟩; have B2 := bcell U2; have Z2 := U2.size; (try simp at Z2); (try rw [Nat.add_one_le_iff] at Z2)))
    go_ret
    refine ⟨ret_bool (by first | rfl | (simp; done) | (simp; omega)), ?_⟩
    (repeat (first | exact Up.refl _ | refine Up.alloc ?_ _ | refine Up.drew ?_ | refine Up.set ?_ (by first | exact Nat.le_refl _ | (simp; done) | (simp; omega)) _ | refine Up.trans ?_ (by with_reducible assumption)))

set_option maxRecDepth 100000 in
set_option maxHeartbeats 1000000 in
theorem copyI_any (k : KnD) (v : Value) (lo : Nat) (w : World) (hr : RdP lo w v k.ps) (hl : k.ps.length ≤ 1048576) :
    Calls Tryz.prog 47  #[kV k v] w (KnPost k w) := by
  have hrt := fun (wq : World) (hu : Up w wq) => hr.up hu
  obtain ⟨a, cap, rfl, -, -, -, -⟩ := hr
  simp only [kV]
  go_enter Tryz.func47, Tryz.ntmps47
  go_wp2_with (at_builtin; refine wpList_copy rfl _ _ rfl rfl rfl (hrt _ (by (repeat (first | with_reducible exact Up.refl _ | with_reducible assumption | with_reducible refine Up.set ?_ (by first | exact Nat.le_refl _ | (simp only []; omega) | (simp; omega)) _ | with_reducible refine Up.alloc ?_ _ | with_reducible refine Up.drew ?_ | refine Up.trans ?_ (by with_reducible assumption))))) hl ?_; rintro v2 w2 hv2 hU2; obtain ⟨a2, c2, rfl⟩ := ownsRow_shape hv2; obtain ⟨hb0, r0, r1, r2, r3, r4, r5⟩ := KnAt.cells (b := w.heap.size) (k := k) (v := .slice a k.ps.length cap) (box_up hU2 (box_up ((Up.refl _).alloc _) (MapKept.heap_alloc w _).1)); have hf0 := box_free (box_up hU2 (box_up ((Up.refl _).alloc _) (MapKept.heap_alloc w _).1)); obtain ⟨hb1, q0, q1, q2, q3, q4, q5⟩ := KnAt.cells (b := w.heap.size + 1) (k := ⟨⟨0, 0, 0⟩, [], 0, 0⟩) (v := .slice none 0 0) (box_up hU2 (alloc2 w _ _)); have hf1 := box_free (box_up hU2 (alloc2 w _ _)); have hs2 := hU2.size; simp at hs2; have HV := Lib.hid hv2; clear hv2)
  refine bodyPost_ret (v := kV k (.slice a2 k.ps.length c2)) (by simp [results, Tryz.results47, go_sem, q0, q1, q2, q3, q4, q5]) rfl ⟨_, rfl, ?_, ?_⟩
  · refine ownsRow_base (base := w.heap.size + 2) ?_ (by omega)
    repeat (with_reducible refine ownsRow_setne ?_ (by omega) _ _)
    exact ownsRow_base HV.out (by simp)
  · (repeat (first | with_reducible exact Up.refl _ | with_reducible assumption | with_reducible refine Up.set ?_ (by first | exact Nat.le_refl _ | (simp only []; omega) | (simp; omega)) _ | with_reducible refine Up.alloc ?_ _ | with_reducible refine Up.drew ?_ | refine Up.trans ?_ (by with_reducible assumption)))

set_option maxRecDepth 100000 in
set_option maxHeartbeats 4000000 in
theorem kvI_any (k : KnD) (v : Value) (lo : Nat) (w : World) (h : k.Ok) (hv : k.last = -1 → k.base = k.ps.length) (hr : RdP lo w v k.ps) :
    Calls Tryz.prog 76  #[kV k v] w (Same (.bool true) w) := by
  obtain ⟨hb1, hb2, hb3, hb4, hb5⟩ := h.nums
  have cS := fun w => setI_ok k.set w h.set
  have cL := fun w => lastI_any k.set w h.set
  have cE := fun w => endI_any k.set w h.set
  have cC := fun w => clearI_any k.set w h.set
  have cK := fun x n w hn => hasI_any k.set n x w h.set hn
  have hba0 := h.base0
  have hba1 := h.base1
  have HK := Lib.hid h
  have hrt := fun (wq : World) (hu : Up w wq) => hr.up hu
  obtain ⟨a, cap, rfl, hc1, hc2, hc3, hsome⟩ := hr
  unfold maxLen at hc2
  have ec : k.c = clr k.set := rfl
  have hgt : ¬ ((k.ps.length : Int) > (lastC k.set : Int) - ((clr k.set : Int) + 1)) := by omega
  clear h
  simp only [kV]
  go_enter Tryz.func76, Tryz.ntmps76
  go_wp2
  refine wp_region_up 14 (by kernel_rfl) (by kernel_rfl) ?_
  simp only [List.take, List.drop]
  repeat (refine wpUp_step (fun K hK => ?_); go_simp; (try simp only [↓IntWalk.iteOmega]); first
    | (refine hK _ _ ?_; clear hK K)
    | (apply stepU_c
       · intro wq hwq; (have hbq := bcell hwq; (repeat (first | refine fills_no (by rfl) ?_ | refine fills_yes (by rfl) (fun vq hvq => ?_))); simp only [List.filter_nil, fills]; unfold upAt; go_simp; (try go_bits); (try simp only [↓IntWalk.iteOmega]); (try (rw [dif_pos (by omega)]; go_simp; try go_bits)); first | exact upOut_value | (apply upOut_call; (go_at_call 112; exact cS _)) | (apply upOut_eq; (go_at_call 112; exact cS _)) | (apply upOut_call; (go_at_call 120; exact cL _)) | (apply upOut_eq; (go_at_call 120; exact cL _)) | (apply upOut_call; (go_at_call 70; exact cE _)) | (apply upOut_eq; (go_at_call 70; exact cE _)))
       go_simp; refine hK _ _ ?_; clear hK K))
  refine wpUp_nil (fun wq hwq => ?_)
  simp only [fills]
  have BQ := bcell hwq
  have hU1 : Up w wq := by (repeat (first | exact Up.refl _ | refine Up.alloc ?_ _ | refine Up.drew ?_ | refine Up.set ?_ (by first | exact Nat.le_refl _ | (simp; done) | (simp; omega)) _ | refine Up.trans ?_ (by with_reducible assumption)))
  have hKA : KnAt w.heap.size k (.slice a k.ps.length cap) wq := box_up hwq (box_up ((Up.refl _).alloc _) (MapKept.heap_alloc w _).1)
  have hSA : SetAt (w.heap.size + 1) k.set.ord k.set.lit k.set.most wq := box_up hwq (alloc2 w _ _)
  go_wp2
  go_loopw [25] (fun i wr => RelKV k (.slice a k.ps.length cap) w i wr) (fun i _ => k.ps.length - (intOf i).toNat)
  case atStart => exact ⟨0, Nat.zero_le _, rfl, hU1, hKA, hSA⟩
  case round =>
    clear hKA hSA hU1 hwq BQ hgt
    obtain ⟨j, hj, rfl, hup, hkn, hst⟩ := hrel
    obtain ⟨b0, r0, r1, r2, r3, r4, r5⟩ := hkn.cells
    obtain ⟨b1, s0, s1, s2⟩ := hst.cells
    have HKN := Lib.hid hkn
    have HST := Lib.hid hst
    clear hkn hst
    by_cases hlt : j < k.ps.length
    · obtain ⟨hp1, hp2, hp3⟩ := HK.out.ps.get hlt
      obtain ⟨b, off, rfl, hlo, hbl, hcells⟩ := hsome (by omega)
      obtain ⟨q0, q1⟩ := hcells j k.ps[j] (List.getElem?_eq_getElem hlt)
      clear hcells
      have cKj := fun w => cK k.ps[j].pre j w (by omega)
      rw [← ec, hp1] at cKj
      rw [ec] at hp3
      have p0 := (hup.cell (p := ⟨b, off + j * 2, none⟩) hbl).trans q0
      have p1 := (hup.cell (p := ⟨b, off + j * 2 + 1, none⟩) hbl).trans q1
      generalize k.ps[j].pre = xp at *
      generalize k.ps[j].byt = xb at *
      clear hp1 cK
      have hbl2 := Nat.lt_of_lt_of_le hbl hup.size
      have hnn : ¬ xb < 0 := by omega
      have hnc : ¬ xb ≥ (clr k.set : Int) := by omega
      go_wp2
      refine wp_region_up 18 (by kernel_rfl) (by kernel_rfl) ?_
      simp only [List.take, List.drop]
      repeat (refine wpUp_step (fun K hK => ?_); go_simp; (try simp only [↓IntWalk.iteOmega]); first
        | (refine hK _ _ ?_; clear hK K)
        | (apply stepU_c
           · intro wq hwq; (have hbq := bcell hwq; (repeat (first | refine fills_no (by rfl) ?_ | refine fills_yes (by rfl) (fun vq hvq => ?_))); simp only [List.filter_nil, fills]; unfold upAt; go_simp; (try go_bits); (try simp only [↓IntWalk.iteOmega]); (try (rw [dif_pos (by omega)]; go_simp; try go_bits)); first | exact upOut_value | (apply upOut_call; (go_at_call 142; exact cKj _)) | (apply upOut_eq; (go_at_call 142; exact cKj _)) | (apply upOut_call; (go_at_call 52; exact cC _)) | (apply upOut_eq; (go_at_call 52; exact cC _)))
           go_simp; refine hK _ _ ?_; clear hK K))
      refine wpUp_nil (fun wq hwq => ?_)
      simp only [fills]
      go_wp2
      go_roundw
      case rel => exact ⟨j + 1, by omega, by go_num, by (repeat (first | exact Up.refl _ | refine Up.alloc ?_ _ | refine Up.drew ?_ | refine Up.set ?_ (by first | exact Nat.le_refl _ | (simp; done) | (simp; omega)) _ | refine Up.trans ?_ (by with_reducible assumption))), box_up hwq (box_up ((Up.refl _).alloc _) HKN.out), box_up hwq (box_up ((Up.refl _).alloc _) HST.out)⟩
      case measure => simp [intOf]; omega
    · have hbn : ¬ k.base < 0 := by omega
      have hbg : ¬ k.base > (k.ps.length : Int) := by omega
      by_cases hla : k.last = -1
      · have hbe := hv hla
        rw [hla] at r5
        rw [hbe] at r4
        clear hla hbe hv HKN HST hba0 hba1 hbn hbg
        go_wp2
        go_ret
        refine ⟨rfl, ?_⟩
        (repeat (first | exact Up.refl _ | refine Up.alloc ?_ _ | refine Up.drew ?_ | refine Up.set ?_ (by first | exact Nat.le_refl _ | (simp; done) | (simp; omega)) _ | refine Up.trans ?_ (by with_reducible assumption)))
      · have hco : codeOk (clr k.set) k.ps.length k.last = true := HK.out.last.resolve_left hla
        have cKj := fun w => cK k.last k.ps.length w (by omega)
        rw [hco] at cKj
        clear hco hv HKN HST
        go_wp2_with (first | (go_at_call 142; (with_reducible refine (cKj _).mono ?_); rintro e w1 ⟨rfl, U1⟩; have B1 := bcell U1; have Z1 := U1.size; (try simp at Z1); (try rw [Nat.add_one_le_iff] at Z1)))
        go_ret
        refine ⟨rfl, ?_⟩
        (repeat (first | exact Up.refl _ | refine Up.alloc ?_ _ | refine Up.drew ?_ | refine Up.set ?_ (by first | exact Nat.le_refl _ | (simp; done) | (simp; omega)) _ | refine Up.trans ?_ (by with_reducible assumption)))

set_option maxRecDepth 100000 in
set_option maxHeartbeats 1000000 in
theorem fitsI_any (s : SetD) (d : ByteArray) (w : World) (hl : -9223372036854775808 ≤ s.lit ∧ s.lit ≤ 9223372036854775807) (hd : d.size ≤ 1073741824) :
    Calls Tryz.prog 46  #[setV s, .string d] w (Same (.bool (fitsB s d.data.toList)) w) := by
  have cS := fun w => setI_any s.ord s.lit s.most w hl
  rw [setD_eta] at cS
  have hlen := ba_len d
  cases h : setOk s
  · rw [show fitsB s d.data.toList = false by unfold fitsB; rw [h]; rfl]
    rw [h] at cS
    clear h
    simp only [setV]
    go_enter Tryz.func46, Tryz.ntmps46
    go_wp2_with ((go_at_call 112; (with_reducible refine (cS _).mono ?_); rintro e w1 ⟨rfl, U1⟩; have B1 := bcell U1; have Z1 := U1.size; (try simp at Z1); (try rw [Nat.add_one_le_iff] at Z1)))
    go_ret
    refine ⟨rfl, ?_⟩
    (repeat (first | exact Up.refl _ | refine Up.alloc ?_ _ | refine Up.drew ?_ | refine Up.set ?_ (by first | exact Nat.le_refl _ | (simp; done) | (simp; omega)) _ | refine Up.trans ?_ (by with_reducible assumption)))
  · by_cases h2 : d.size ≤ 2000
    · rw [show fitsB s d.data.toList = litsL (clr s) d.data.toList by unfold fitsB; rw [h, hlen, decide_eq_true h2]; rfl]
      rw [h] at cS
      obtain ⟨o, l, m⟩ := s
      obtain ⟨-, ⟨g1, g2⟩, -, -⟩ := setOk_bd h
      simp only at g1 g2
      obtain ⟨n, rfl⟩ : ∃ n : Nat, l = n := ⟨l.toNat, by omega⟩
      clear h hl
      have e : Hid (((2 ^ n : Nat) : Int) = (clr ⟨o, n, m⟩ : Nat)) := rfl
      have hp := pow2_small (n := n) (by omega)
      simp only [setV] at *
      go_enter Tryz.func46, Tryz.ntmps46
      go_wp2_with ((go_at_call 112; (with_reducible refine (cS _).mono ?_); rintro e w1 ⟨rfl, U1⟩; have B1 := bcell U1; have Z1 := U1.size; (try simp at Z1); (try rw [Nat.add_one_le_iff] at Z1)))
      have hSA : SetAt w.heap.size o n m w1 := box_up U1 (MapKept.heap_alloc w _).1
      have hU1 : Up w w1 := by (repeat (first | exact Up.refl _ | refine Up.alloc ?_ _ | refine Up.drew ?_ | refine Up.set ?_ (by first | exact Nat.le_refl _ | (simp; done) | (simp; omega)) _ | refine Up.trans ?_ (by with_reducible assumption)))
      clear U1 B1 Z1
      go_loopw [16] (fun i wr => RelL (clr ⟨o, n, m⟩) d o n m w i wr) (fun i _ => d.size - (intOf i).toNat)
      case atStart => exact ⟨0, Nat.zero_le _, rfl, hU1, hSA, fun j hj h => absurd h (Nat.not_lt_zero _)⟩
      case round =>
        clear hSA hU1
        obtain ⟨k, hk, rfl, hup, hset, hall⟩ := hrel
        obtain ⟨b0, b1, b2, b3⟩ := hset.cells
        have HB := Lib.hid hset
        clear hset
        have HA := Lib.hid hall
        clear hall
        by_cases hlt : k < d.size
        · have hu := u8_bd d[k]
          have hl : k < d.data.toList.length := by simpa using hlt
          have e2 : d[k] = d.data.toList[k] := rfl
          by_cases hc : d[k].toNat < clr ⟨o, n, m⟩
          · have hN : Hid (∀ j (hj : j < d.data.toList.length), j < k + 1 → (d.data.toList[j]).toNat < clr ⟨o, n, m⟩) := fun j hj hjk => by
              rcases Nat.lt_or_ge j k with h | h
              · exact HA.out j hj h
              · have : j = k := by omega
                subst this; exact hc
            have hge : ¬ ((2 : Int) ^ n ≤ (d[k].toNat : Int)) := by
              have e3 : (2 : Int) ^ n = (clr ⟨o, n, m⟩ : Nat) := by have := e.out; simpa using this
              rw [e3]; omega
            clear e2
            go_wp2
            refine wp_region_up 8 (by kernel_rfl) (by kernel_rfl) ?_
            simp only [List.take, List.drop]
            repeat (refine wpUp_step (fun K hK => ?_); go_simp; (try simp only [↓IntWalk.iteOmega]); first
              | (refine hK _ _ ?_; clear hK K)
              | (apply stepU_c
                 · intro wq hwq; (have hbq := bcell hwq; (repeat (first | refine fills_no (by rfl) ?_ | refine fills_yes (by rfl) (fun vq hvq => ?_))); simp only [List.filter_nil, fills]; unfold upAt; go_simp; (try go_bits); (try simp only [↓IntWalk.iteOmega]); (try (rw [dif_pos (by omega)]; go_simp; try go_bits)); first | exact upOut_value)
                 go_simp; refine hK _ _ ?_; clear hK K))
            refine wpUp_nil (fun wq hwq => ?_)
            simp only [fills]
            go_wp2
            go_roundw
            case rel => exact ⟨k + 1, by omega, by go_num, by (repeat (first | exact Up.refl _ | refine Up.alloc ?_ _ | refine Up.drew ?_ | refine Up.set ?_ (by first | exact Nat.le_refl _ | (simp; done) | (simp; omega)) _ | refine Up.trans ?_ (by with_reducible assumption))), box_up hwq HB.out, hN.out⟩
            case measure => simp [intOf]; omega
          · have hN : Hid (litsL (clr ⟨o, n, m⟩) d.data.toList = false) := litsL_no hl (by rw [← e2]; exact hc)
            have hge : ((2 : Int) ^ n ≤ (d[k].toNat : Int)) := by
              have e3 : (2 : Int) ^ n = (clr ⟨o, n, m⟩ : Nat) := by have := e.out; simpa using this
              rw [e3]; omega
            clear e2
            go_wp2
            refine wp_region_up 8 (by kernel_rfl) (by kernel_rfl) ?_
            simp only [List.take, List.drop]
            repeat (refine wpUp_step (fun K hK => ?_); go_simp; (try simp only [↓IntWalk.iteOmega]); first
              | (refine hK _ _ ?_; clear hK K)
              | (apply stepU_c
                 · intro wq hwq; (have hbq := bcell hwq; (repeat (first | refine fills_no (by rfl) ?_ | refine fills_yes (by rfl) (fun vq hvq => ?_))); simp only [List.filter_nil, fills]; unfold upAt; go_simp; (try go_bits); (try simp only [↓IntWalk.iteOmega]); (try (rw [dif_pos (by omega)]; go_simp; try go_bits)); first | exact upOut_value)
                 go_simp; refine hK _ _ ?_; clear hK K))
            refine wpUp_nil (fun wq hwq => ?_)
            simp only [fills]
            go_wp2
            go_ret
            refine ⟨ret_bool hN.out.symm, ?_⟩
            (repeat (first | exact Up.refl _ | refine Up.alloc ?_ _ | refine Up.drew ?_ | refine Up.set ?_ (by first | exact Nat.le_refl _ | (simp; done) | (simp; omega)) _ | refine Up.trans ?_ (by with_reducible assumption)))
        · have hN : Hid (litsL (clr ⟨o, n, m⟩) d.data.toList = true) := litsL_yes fun j hj => HA.out j hj (by rw [ba_len] at hj; omega)
          go_wp2
          go_ret
          refine ⟨ret_bool hN.out.symm, ?_⟩
          (repeat (first | exact Up.refl _ | refine Up.alloc ?_ _ | refine Up.drew ?_ | refine Up.set ?_ (by first | exact Nat.le_refl _ | (simp; done) | (simp; omega)) _ | refine Up.trans ?_ (by with_reducible assumption)))
    · rw [show fitsB s d.data.toList = false by unfold fitsB; rw [h, hlen, decide_eq_false h2]; rfl]
      rw [h] at cS
      clear h
      simp only [setV]
      go_enter Tryz.func46, Tryz.ntmps46
      go_wp2_with ((go_at_call 112; (with_reducible refine (cS _).mono ?_); rintro e w1 ⟨rfl, U1⟩; have B1 := bcell U1; have Z1 := U1.size; (try simp at Z1); (try rw [Nat.add_one_le_iff] at Z1)))
      go_ret
      refine ⟨rfl, ?_⟩
      (repeat (first | exact Up.refl _ | refine Up.alloc ?_ _ | refine Up.drew ?_ | refine Up.set ?_ (by first | exact Nat.le_refl _ | (simp; done) | (simp; omega)) _ | refine Up.trans ?_ (by with_reducible assumption)))

set_option maxRecDepth 100000 in
set_option maxHeartbeats 1000000 in
theorem needI_any (n : Nat) (w : World) (hn : n ≤ 1048576) :
    Calls Tryz.prog 159  #[.int .i64 n] w (fun e w' => e = .returned (.int .i64 (needed n : Nat)) ∧ w = w') := by
  have cB := fun w => Tryz.bits_Len (n : Int) w (by omega) (by omega)
  have e := Lib.hid (needed_len n (by omega))
  rw [Int.toNat_natCast] at cB
  generalize Go.Lib.bitLen n = bl at *
  go_enter Tryz.func159, Tryz.ntmps159
  go_wp2_with ((go_at_call 194; (with_reducible refine (cB _).mono ?_); rintro e w' ⟨rfl, rfl⟩))
  all_goals
    go_ret
    exact ⟨ret_int (by rw [e.out]; omega), rfl⟩

set_option maxRecDepth 100000 in
set_option maxHeartbeats 1000000 in
theorem widthI_any (k : KnD) (v : Value) (lo : Nat) (w : World) (h : k.Ok) (hr : RdP lo w v k.ps) :
    Calls Tryz.prog 96  #[kV k v] w (Same (.int .i64 (k.width : Nat)) w) := by
  have hpl := h.nums.2.2.2.1
  obtain ⟨a, cap, rfl, -, -, -, -⟩ := hr
  have cG := fun w => topI_any k.set k.base k.last a k.ps.length cap w h.set (by omega)
  rw [topN_eq] at cG
  have cN := fun w hn => needI_any k.top w hn
  obtain ⟨-, ⟨h1, h2⟩, -, -⟩ := setOk_bd h.set
  have hnum := h.nums
  have ht := KnD.top_bd h
  have hnd := needed_bd k.top
  have ht1 := ht.1
  have ht2 := ht.2
  have ht3 := hnum.2.2.1
  obtain ⟨hn1, hn2⟩ := hnd
  clear ht hnum
  have e : Hid (((k.width : Nat) : Int) = max ((needed k.top : Nat) : Int) (k.set.lit + 1)) := by unfold Hid KnD.width; omega
  rw [e.out]
  generalize needed k.top = nd at *
  generalize k.top = tp at *
  obtain ⟨⟨o, l, m⟩, ps, ba, la⟩ := k
  simp only at *
  clear h e
  simp only [kV, knV] at *
  go_enter Tryz.func96, Tryz.ntmps96
  go_wp2
  refine wp_region_up 8 (by kernel_rfl) (by kernel_rfl) ?_
  simp only [List.take, List.drop]
  repeat (refine wpUp_step (fun K hK => ?_); go_simp; (try simp only [↓IntWalk.iteOmega]); first
    | (refine hK _ _ ?_; clear hK K)
    | (apply stepU_c
       · intro wq hwq; (have hbq := bcell hwq; (repeat (first | refine fills_no (by rfl) ?_ | refine fills_yes (by rfl) (fun vq hvq => ?_))); simp only [List.filter_nil, fills]; unfold upAt; go_simp; (try go_bits); (try simp only [↓IntWalk.iteOmega]); (try (rw [dif_pos (by omega)]; go_simp; try go_bits)); first | exact upOut_value | (apply upOut_call; (go_at_call 160; exact cG _)) | (apply upOut_eq; (go_at_call 160; exact cG _)) | (apply upOut_call; (go_at_call 159; exact cN _ (by omega))) | (apply upOut_eq; (go_at_call 159; exact cN _ (by omega))))
       go_simp; refine hK _ _ ?_; clear hK K))
  refine wpUp_nil (fun wq hwq => ?_)
  simp only [fills]
  go_wp2
  all_goals
    go_ret
    refine ⟨ret_int (by first | rfl | omega), ?_⟩
    (repeat (first | exact Up.refl _ | refine Up.alloc ?_ _ | refine Up.drew ?_ | refine Up.set ?_ (by first | exact Nat.le_refl _ | (simp; done) | (simp; omega)) _ | refine Up.trans ?_ (by with_reducible assumption)))

set_option maxRecDepth 100000 in
set_option maxHeartbeats 1000000 in
theorem canI_any (k : KnD) (v : Value) (lo : Nat) (x : Int) (w : World) (h : k.Ok) (hr : RdP lo w v k.ps) (hx : 0 ≤ x) :
    Calls Tryz.prog 156  #[kV k v, .int .i64 x] w (Same (.bool (decide (x ≤ (k.top : Nat)))) w) := by
  have hpl := h.nums.2.2.2.1
  obtain ⟨a, cap, rfl, -, -, -, -⟩ := hr
  have cG := fun w => topI_any k.set k.base k.last a k.ps.length cap w h.set (by omega)
  rw [topN_eq] at cG
  generalize k.top = tp at *
  obtain ⟨⟨o, l, m⟩, ps, ba, la⟩ := k
  simp only at *
  clear h
  simp only [kV, knV] at *
  go_enter Tryz.func156, Tryz.ntmps156
  go_wp2_with ((go_at_call 160; (with_reducible refine (cG _).mono ?_); rintro e w1 ⟨rfl, U1⟩; have B1 := bcell U1; have Z1 := U1.size; (try simp at Z1); (try rw [Nat.add_one_le_iff] at Z1)))
  go_ret
  refine ⟨ret_bool (by first | rfl | (simp; done) | (simp; omega)), ?_⟩
  (repeat (first | exact Up.refl _ | refine Up.alloc ?_ _ | refine Up.drew ?_ | refine Up.set ?_ (by first | exact Nat.le_refl _ | (simp; done) | (simp; omega)) _ | refine Up.trans ?_ (by with_reducible assumption)))

end Go.Proofs.YtiiahjnfbhcgmaaGreatDoor
