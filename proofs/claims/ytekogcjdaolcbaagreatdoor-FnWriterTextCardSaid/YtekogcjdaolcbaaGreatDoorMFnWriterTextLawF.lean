/- Texts joined into one: the walks and laws that the last text leans on. Conditions: as each says. -/
import Derived.Test.YtekogcjdaolcbaaGreatDoorMFnWriterTextLawD
import Derived.Test.YtekogcjdaolcbaaGreatDoorMFnWriterTextLawC
import Derived.Test.YtekogcjdaolcbaaGreatDoorMFnWriterTextLawE
import Derived.Test.YtekogcjdaolcbaaGreatDoorKns
import Derived.Lib.BitFns
import Derived.Test.YtekogcjdaolcbaaGreatDoorKV
import Derived.Test.YtekogcjdaolcbaaGreatDoorMFnWriterTextLawA
import Derived.Test.YtekogcjdaolcbaaGreatDoorCleared
import Derived.Test.YtekogcjdaolcbaaGreatDoorAfter

set_option linter.unusedVariables false
set_option linter.unusedSimpArgs false
/- Walks of the program's small functions on codes and on what is known. Conditions: as each says. -/
namespace Go.Proofs.YtekogcjdaolcbaaGreatDoor
open Go Go.RowKit
set_option maxRecDepth 100000 in
set_option maxHeartbeats 1000000 in
theorem hasI_any (s : SetD) (n : Nat) (x : Int) (w : World) (h : setOk s = true) (hn : n ≤ 1073741824) :
    Calls Tryz.prog 120  #[setV s, .int .i64 n, .int .i64 x] w (Same (.bool (codeOk (clr s) n x)) w) := by
  have cC := fun w => clearI_any s w h
  have cE := fun w => endI_any s w h
  obtain ⟨hb1, hb2, hb3⟩ := clr_le h
  generalize clr s = c at *
  obtain ⟨o, l, m⟩ := s
  simp only [setV] at *
  clear h
  by_cases h0 : 0 ≤ x
  · by_cases h1 : x < c
    · rw [show codeOk c n x = true by rw [codeOk_iff]; omega]
      go_enter Tryz.func120, Tryz.ntmps120
      go_wp2_with (first | (go_at_call 58; (with_reducible refine (cE _).mono ?_); rintro e w1 ⟨rfl, U1⟩; have B1 := bcell U1; have Z1 := U1.size; (try simp at Z1); (try rw [Nat.add_one_le_iff] at Z1)) | (go_at_call 40; (with_reducible refine (cC _).mono ?_); rintro e w2 ⟨rfl, U2⟩; have B2 := bcell U2; have Z2 := U2.size; (try simp at Z2); (try rw [Nat.add_one_le_iff] at Z2)))
      go_ret
      refine ⟨ret_bool (by first | rfl | (simp; done) | (simp; omega)), ?_⟩
      (repeat (first | exact Up.refl _ | refine Up.alloc ?_ _ | refine Up.drew ?_ | refine Up.set ?_ (by first | exact Nat.le_refl _ | (simp; done) | (simp; omega)) _ | refine Up.trans ?_ (by with_reducible assumption)))
    · by_cases h2 : (c : Int) + 1 < x
      · by_cases h3 : x ≤ c + 1 + n
        · rw [show codeOk c n x = true by rw [codeOk_iff]; omega]
          go_enter Tryz.func120, Tryz.ntmps120
          go_wp2_with (first | (go_at_call 58; (with_reducible refine (cE _).mono ?_); rintro e w1 ⟨rfl, U1⟩; have B1 := bcell U1; have Z1 := U1.size; (try simp at Z1); (try rw [Nat.add_one_le_iff] at Z1)) | (go_at_call 40; (with_reducible refine (cC _).mono ?_); rintro e w2 ⟨rfl, U2⟩; have B2 := bcell U2; have Z2 := U2.size; (try simp at Z2); (try rw [Nat.add_one_le_iff] at Z2)))
          go_ret
          refine ⟨ret_bool (by first | rfl | (simp; done) | (simp; omega)), ?_⟩
          (repeat (first | exact Up.refl _ | refine Up.alloc ?_ _ | refine Up.drew ?_ | refine Up.set ?_ (by first | exact Nat.le_refl _ | (simp; done) | (simp; omega)) _ | refine Up.trans ?_ (by with_reducible assumption)))
        · rw [show codeOk c n x = false by rw [← Bool.not_eq_true, codeOk_iff]; omega]
          go_enter Tryz.func120, Tryz.ntmps120
          go_wp2_with (first | (go_at_call 58; (with_reducible refine (cE _).mono ?_); rintro e w1 ⟨rfl, U1⟩; have B1 := bcell U1; have Z1 := U1.size; (try simp at Z1); (try rw [Nat.add_one_le_iff] at Z1)) | (go_at_call 40; (with_reducible refine (cC _).mono ?_); rintro e w2 ⟨rfl, U2⟩; have B2 := bcell U2; have Z2 := U2.size; (try simp at Z2); (try rw [Nat.add_one_le_iff] at Z2)))
          go_ret
          refine ⟨ret_bool (by first | rfl | (simp; done) | (simp; omega)), ?_⟩
          (repeat (first | exact Up.refl _ | refine Up.alloc ?_ _ | refine Up.drew ?_ | refine Up.set ?_ (by first | exact Nat.le_refl _ | (simp; done) | (simp; omega)) _ | refine Up.trans ?_ (by with_reducible assumption)))
      · rw [show codeOk c n x = false by rw [← Bool.not_eq_true, codeOk_iff]; omega]
        go_enter Tryz.func120, Tryz.ntmps120
        go_wp2_with (first | (go_at_call 58; (with_reducible refine (cE _).mono ?_); rintro e w1 ⟨rfl, U1⟩; have B1 := bcell U1; have Z1 := U1.size; (try simp at Z1); (try rw [Nat.add_one_le_iff] at Z1)) | (go_at_call 40; (with_reducible refine (cC _).mono ?_); rintro e w2 ⟨rfl, U2⟩; have B2 := bcell U2; have Z2 := U2.size; (try simp at Z2); (try rw [Nat.add_one_le_iff] at Z2)))
        go_ret
        refine ⟨ret_bool (by first | rfl | (simp; done) | (simp; omega)), ?_⟩
        (repeat (first | exact Up.refl _ | refine Up.alloc ?_ _ | refine Up.drew ?_ | refine Up.set ?_ (by first | exact Nat.le_refl _ | (simp; done) | (simp; omega)) _ | refine Up.trans ?_ (by with_reducible assumption)))
  · have h2 : ¬ (c : Int) + 1 < x := by omega
    rw [show codeOk c n x = false by rw [← Bool.not_eq_true, codeOk_iff]; omega]
    go_enter Tryz.func120, Tryz.ntmps120
    go_wp2_with (first | (go_at_call 58; (with_reducible refine (cE _).mono ?_); rintro e w1 ⟨rfl, U1⟩; have B1 := bcell U1; have Z1 := U1.size; (try simp at Z1); (try rw [Nat.add_one_le_iff] at Z1)) | (go_at_call 40; (with_reducible refine (cC _).mono ?_); rintro e w2 ⟨rfl, U2⟩; have B2 := bcell U2; have Z2 := U2.size; (try simp at Z2); (try rw [Nat.add_one_le_iff] at Z2)))
    go_ret
    refine ⟨ret_bool (by first | rfl | (simp; done) | (simp; omega)), ?_⟩
    (repeat (first | exact Up.refl _ | refine Up.alloc ?_ _ | refine Up.drew ?_ | refine Up.set ?_ (by first | exact Nat.le_refl _ | (simp; done) | (simp; omega)) _ | refine Up.trans ?_ (by with_reducible assumption)))
set_option maxRecDepth 100000 in
set_option maxHeartbeats 1000000 in
theorem copyI_any (k : KnD) (v : Value) (lo : Nat) (w : World) (hr : RdP lo w v k.ps) (hl : k.ps.length ≤ 1048576) :
    Calls Tryz.prog 35  #[kV k v] w (KnPost k w) := by
  have hrt := fun (wq : World) (hu : Up w wq) => hr.up hu
  obtain ⟨a, cap, rfl, -, -, -, -⟩ := hr
  simp only [kV]
  go_enter Tryz.func35, Tryz.ntmps35
  go_wp2_with (at_builtin; refine wpList_copy rfl _ _ rfl rfl rfl (hrt _ (by (repeat (first | with_reducible exact Up.refl _ | with_reducible assumption | with_reducible refine Up.set ?_ (by first | exact Nat.le_refl _ | (simp only []; omega) | (simp; omega)) _ | with_reducible refine Up.alloc ?_ _ | with_reducible refine Up.drew ?_ | refine Up.trans ?_ (by with_reducible assumption))))) hl ?_; rintro v2 w2 hv2 hU2; obtain ⟨a2, c2, rfl⟩ := ownsRow_shape hv2; obtain ⟨hb0, r0, r1, r2, r3, r4, r5⟩ := KnAt.cells (b := w.heap.size) (k := k) (v := .slice a k.ps.length cap) (box_up hU2 (box_up ((Up.refl _).alloc _) (MapKept.heap_alloc w _).1)); have hf0 := box_free (box_up hU2 (box_up ((Up.refl _).alloc _) (MapKept.heap_alloc w _).1)); obtain ⟨hb1, q0, q1, q2, q3, q4, q5⟩ := KnAt.cells (b := w.heap.size + 1) (k := ⟨⟨0, 0, 0⟩, [], 0, 0⟩) (v := .slice none 0 0) (box_up hU2 (alloc2 w _ _)); have hf1 := box_free (box_up hU2 (alloc2 w _ _)); have hs2 := hU2.size; simp at hs2; have HV := Lib.hid hv2; clear hv2)
  refine bodyPost_ret (v := kV k (.slice a2 k.ps.length c2)) (by simp [results, Tryz.results35, go_sem, q0, q1, q2, q3, q4, q5]) rfl ⟨_, rfl, ?_, ?_⟩
  · refine ownsRow_base (base := w.heap.size + 2) ?_ (by omega)
    repeat (with_reducible refine ownsRow_setne ?_ (by omega) _ _)
    exact ownsRow_base HV.out (by simp)
  · (repeat (first | with_reducible exact Up.refl _ | with_reducible assumption | with_reducible refine Up.set ?_ (by first | exact Nat.le_refl _ | (simp only []; omega) | (simp; omega)) _ | with_reducible refine Up.alloc ?_ _ | with_reducible refine Up.drew ?_ | refine Up.trans ?_ (by with_reducible assumption)))
set_option maxRecDepth 100000 in
set_option maxHeartbeats 4000000 in
theorem kvI_any (k : KnD) (v : Value) (lo : Nat) (w : World) (h : k.Ok) (hv : k.last = -1 → k.base = k.ps.length) (hr : RdP lo w v k.ps) :
    Calls Tryz.prog 64  #[kV k v] w (Same (.bool true) w) := by
  obtain ⟨hb1, hb2, hb3, hb4, hb5⟩ := h.nums
  have cS := fun w => setI_ok k.set w h.set
  have cL := fun w => lastI_any k.set w h.set
  have cE := fun w => endI_any k.set w h.set
  have cC := fun w => clearI_any k.set w h.set
  have cK := fun x n w hn => hasI_any k.set n x w h.set hn
  have hba0 := h.base0
  have hba1 := h.base1
  have HK := Lib.hid h
  have hrt := fun (wq : World) (hu : Up w wq) => hr.up hu
  obtain ⟨a, cap, rfl, hc1, hc2, hc3, hsome⟩ := hr
  unfold maxLen at hc2
  have ec : k.c = clr k.set := rfl
  have hgt : ¬ ((k.ps.length : Int) > (lastC k.set : Int) - ((clr k.set : Int) + 1)) := by omega
  clear h
  simp only [kV]
  go_enter Tryz.func64, Tryz.ntmps64
  go_wp2
  refine wp_region_up 14 (by kernel_rfl) (by kernel_rfl) ?_
  simp only [List.take, List.drop]
  repeat (refine wpUp_step (fun K hK => ?_); go_simp; (try simp only [↓IntWalk.iteOmega]); first
    | (refine hK _ _ ?_; clear hK K)
    | (apply stepU_c
       · intro wq hwq; (have hbq := bcell hwq; (repeat (first | refine fills_no (by rfl) ?_ | refine fills_yes (by rfl) (fun vq hvq => ?_))); simp only [List.filter_nil, fills]; unfold upAt; go_simp; (try go_bits); (try simp only [↓IntWalk.iteOmega]); (try (rw [dif_pos (by omega)]; go_simp; try go_bits)); first | exact upOut_value | (apply upOut_call; (go_at_call 89; exact cS _)) | (apply upOut_eq; (go_at_call 89; exact cS _)) | (apply upOut_call; (go_at_call 97; exact cL _)) | (apply upOut_eq; (go_at_call 97; exact cL _)) | (apply upOut_call; (go_at_call 58; exact cE _)) | (apply upOut_eq; (go_at_call 58; exact cE _)))
       go_simp; refine hK _ _ ?_; clear hK K))
  refine wpUp_nil (fun wq hwq => ?_)
  simp only [fills]
  have BQ := bcell hwq
  have hU1 : Up w wq := by (repeat (first | exact Up.refl _ | refine Up.alloc ?_ _ | refine Up.drew ?_ | refine Up.set ?_ (by first | exact Nat.le_refl _ | (simp; done) | (simp; omega)) _ | refine Up.trans ?_ (by with_reducible assumption)))
  have hKA : KnAt w.heap.size k (.slice a k.ps.length cap) wq := box_up hwq (box_up ((Up.refl _).alloc _) (MapKept.heap_alloc w _).1)
  have hSA : SetAt (w.heap.size + 1) k.set.ord k.set.lit k.set.most wq := box_up hwq (alloc2 w _ _)
  go_wp2
  go_loopw [25] (fun i wr => RelKV k (.slice a k.ps.length cap) w i wr) (fun i _ => k.ps.length - (intOf i).toNat)
  case atStart => exact ⟨0, Nat.zero_le _, rfl, hU1, hKA, hSA⟩
  case round =>
    clear hKA hSA hU1 hwq BQ hgt
    obtain ⟨j, hj, rfl, hup, hkn, hst⟩ := hrel
    obtain ⟨b0, r0, r1, r2, r3, r4, r5⟩ := hkn.cells
    obtain ⟨b1, s0, s1, s2⟩ := hst.cells
    have HKN := Lib.hid hkn
    have HST := Lib.hid hst
    clear hkn hst
    by_cases hlt : j < k.ps.length
    · obtain ⟨hp1, hp2, hp3⟩ := HK.out.ps.get hlt
      obtain ⟨b, off, rfl, hlo, hbl, hcells⟩ := hsome (by omega)
      obtain ⟨q0, q1⟩ := hcells j k.ps[j] (List.getElem?_eq_getElem hlt)
      clear hcells
      have cKj := fun w => cK k.ps[j].pre j w (by omega)
      rw [← ec, hp1] at cKj
      rw [ec] at hp3
      have p0 := (hup.cell (p := ⟨b, off + j * 2, none⟩) hbl).trans q0
      have p1 := (hup.cell (p := ⟨b, off + j * 2 + 1, none⟩) hbl).trans q1
      generalize k.ps[j].pre = xp at *
      generalize k.ps[j].byt = xb at *
      clear hp1 cK
      have hbl2 := Nat.lt_of_lt_of_le hbl hup.size
      have hnn : ¬ xb < 0 := by omega
      have hnc : ¬ xb ≥ (clr k.set : Int) := by omega
      go_wp2
      refine wp_region_up 18 (by kernel_rfl) (by kernel_rfl) ?_
      simp only [List.take, List.drop]
      repeat (refine wpUp_step (fun K hK => ?_); go_simp; (try simp only [↓IntWalk.iteOmega]); first
        | (refine hK _ _ ?_; clear hK K)
        | (apply stepU_c
           · intro wq hwq; (have hbq := bcell hwq; (repeat (first | refine fills_no (by rfl) ?_ | refine fills_yes (by rfl) (fun vq hvq => ?_))); simp only [List.filter_nil, fills]; unfold upAt; go_simp; (try go_bits); (try simp only [↓IntWalk.iteOmega]); (try (rw [dif_pos (by omega)]; go_simp; try go_bits)); first | exact upOut_value | (apply upOut_call; (go_at_call 120; exact cKj _)) | (apply upOut_eq; (go_at_call 120; exact cKj _)) | (apply upOut_call; (go_at_call 40; exact cC _)) | (apply upOut_eq; (go_at_call 40; exact cC _)))
           go_simp; refine hK _ _ ?_; clear hK K))
      refine wpUp_nil (fun wq hwq => ?_)
      simp only [fills]
      go_wp2
      go_roundw
      case rel => exact ⟨j + 1, by omega, by go_num, by (repeat (first | exact Up.refl _ | refine Up.alloc ?_ _ | refine Up.drew ?_ | refine Up.set ?_ (by first | exact Nat.le_refl _ | (simp; done) | (simp; omega)) _ | refine Up.trans ?_ (by with_reducible assumption))), box_up hwq (box_up ((Up.refl _).alloc _) HKN.out), box_up hwq (box_up ((Up.refl _).alloc _) HST.out)⟩
      case measure => simp [intOf]; omega
    · have hbn : ¬ k.base < 0 := by omega
      have hbg : ¬ k.base > (k.ps.length : Int) := by omega
      by_cases hla : k.last = -1
      · have hbe := hv hla
        rw [hla] at r5
        rw [hbe] at r4
        clear hla hbe hv HKN HST hba0 hba1 hbn hbg
        go_wp2
        go_ret
        refine ⟨rfl, ?_⟩
        (repeat (first | exact Up.refl _ | refine Up.alloc ?_ _ | refine Up.drew ?_ | refine Up.set ?_ (by first | exact Nat.le_refl _ | (simp; done) | (simp; omega)) _ | refine Up.trans ?_ (by with_reducible assumption)))
      · have hco : codeOk (clr k.set) k.ps.length k.last = true := HK.out.last.resolve_left hla
        have cKj := fun w => cK k.last k.ps.length w (by omega)
        rw [hco] at cKj
        clear hco hv HKN HST
        go_wp2_with (first | (go_at_call 120; (with_reducible refine (cKj _).mono ?_); rintro e w1 ⟨rfl, U1⟩; have B1 := bcell U1; have Z1 := U1.size; (try simp at Z1); (try rw [Nat.add_one_le_iff] at Z1)))
        go_ret
        refine ⟨rfl, ?_⟩
        (repeat (first | exact Up.refl _ | refine Up.alloc ?_ _ | refine Up.drew ?_ | refine Up.set ?_ (by first | exact Nat.le_refl _ | (simp; done) | (simp; omega)) _ | refine Up.trans ?_ (by with_reducible assumption)))
set_option maxRecDepth 100000 in
set_option maxHeartbeats 1000000 in
theorem fitsI_any (s : SetD) (d : ByteArray) (w : World) (hl : -9223372036854775808 ≤ s.lit ∧ s.lit ≤ 9223372036854775807) (hd : d.size ≤ 1073741824) :
    Calls Tryz.prog 34  #[setV s, .string d] w (Same (.bool (fitsB s d.data.toList)) w) := by
  have cS := fun w => setI_any s.ord s.lit s.most w hl
  rw [setD_eta] at cS
  have hlen := ba_len d
  cases h : setOk s
  · rw [show fitsB s d.data.toList = false by unfold fitsB; rw [h]; rfl]
    rw [h] at cS
    clear h
    simp only [setV]
    go_enter Tryz.func34, Tryz.ntmps34
    go_wp2_with ((go_at_call 89; (with_reducible refine (cS _).mono ?_); rintro e w1 ⟨rfl, U1⟩; have B1 := bcell U1; have Z1 := U1.size; (try simp at Z1); (try rw [Nat.add_one_le_iff] at Z1)))
    go_ret
    refine ⟨rfl, ?_⟩
    (repeat (first | exact Up.refl _ | refine Up.alloc ?_ _ | refine Up.drew ?_ | refine Up.set ?_ (by first | exact Nat.le_refl _ | (simp; done) | (simp; omega)) _ | refine Up.trans ?_ (by with_reducible assumption)))
  · by_cases h2 : d.size ≤ 2000
    · rw [show fitsB s d.data.toList = litsL (clr s) d.data.toList by unfold fitsB; rw [h, hlen, decide_eq_true h2]; rfl]
      rw [h] at cS
      obtain ⟨o, l, m⟩ := s
      obtain ⟨-, ⟨g1, g2⟩, -, -⟩ := setOk_bd h
      simp only at g1 g2
      obtain ⟨n, rfl⟩ : ∃ n : Nat, l = n := ⟨l.toNat, by omega⟩
      clear h hl
      have e : Hid (((2 ^ n : Nat) : Int) = (clr ⟨o, n, m⟩ : Nat)) := rfl
      have hp := pow2_small (n := n) (by omega)
      simp only [setV] at *
      go_enter Tryz.func34, Tryz.ntmps34
      go_wp2_with ((go_at_call 89; (with_reducible refine (cS _).mono ?_); rintro e w1 ⟨rfl, U1⟩; have B1 := bcell U1; have Z1 := U1.size; (try simp at Z1); (try rw [Nat.add_one_le_iff] at Z1)))
      have hSA : SetAt w.heap.size o n m w1 := box_up U1 (MapKept.heap_alloc w _).1
      have hU1 : Up w w1 := by (repeat (first | exact Up.refl _ | refine Up.alloc ?_ _ | refine Up.drew ?_ | refine Up.set ?_ (by first | exact Nat.le_refl _ | (simp; done) | (simp; omega)) _ | refine Up.trans ?_ (by with_reducible assumption)))
      clear U1 B1 Z1
      go_loopw [16] (fun i wr => RelL (clr ⟨o, n, m⟩) d o n m w i wr) (fun i _ => d.size - (intOf i).toNat)
      case atStart => exact ⟨0, Nat.zero_le _, rfl, hU1, hSA, fun j hj h => absurd h (Nat.not_lt_zero _)⟩
      case round =>
        clear hSA hU1
        obtain ⟨k, hk, rfl, hup, hset, hall⟩ := hrel
        obtain ⟨b0, b1, b2, b3⟩ := hset.cells
        have HB := Lib.hid hset
        clear hset
        have HA := Lib.hid hall
        clear hall
        by_cases hlt : k < d.size
        · have hu := u8_bd d[k]
          have hl : k < d.data.toList.length := by simpa using hlt
          have e2 : d[k] = d.data.toList[k] := rfl
          by_cases hc : d[k].toNat < clr ⟨o, n, m⟩
          · have hN : Hid (∀ j (hj : j < d.data.toList.length), j < k + 1 → (d.data.toList[j]).toNat < clr ⟨o, n, m⟩) := fun j hj hjk => by
              rcases Nat.lt_or_ge j k with h | h
              · exact HA.out j hj h
              · have : j = k := by omega
                subst this; exact hc
            have hge : ¬ ((2 : Int) ^ n ≤ (d[k].toNat : Int)) := by
              have e3 : (2 : Int) ^ n = (clr ⟨o, n, m⟩ : Nat) := by have := e.out; simpa using this
              rw [e3]; omega
            clear e2
            go_wp2
            refine wp_region_up 8 (by kernel_rfl) (by kernel_rfl) ?_
            simp only [List.take, List.drop]
            repeat (refine wpUp_step (fun K hK => ?_); go_simp; (try simp only [↓IntWalk.iteOmega]); first
              | (refine hK _ _ ?_; clear hK K)
              | (apply stepU_c
                 · intro wq hwq; (have hbq := bcell hwq; (repeat (first | refine fills_no (by rfl) ?_ | refine fills_yes (by rfl) (fun vq hvq => ?_))); simp only [List.filter_nil, fills]; unfold upAt; go_simp; (try go_bits); (try simp only [↓IntWalk.iteOmega]); (try (rw [dif_pos (by omega)]; go_simp; try go_bits)); first | exact upOut_value)
                 go_simp; refine hK _ _ ?_; clear hK K))
            refine wpUp_nil (fun wq hwq => ?_)
            simp only [fills]
            go_wp2
            go_roundw
            case rel => exact ⟨k + 1, by omega, by go_num, by (repeat (first | exact Up.refl _ | refine Up.alloc ?_ _ | refine Up.drew ?_ | refine Up.set ?_ (by first | exact Nat.le_refl _ | (simp; done) | (simp; omega)) _ | refine Up.trans ?_ (by with_reducible assumption))), box_up hwq HB.out, hN.out⟩
            case measure => simp [intOf]; omega
          · have hN : Hid (litsL (clr ⟨o, n, m⟩) d.data.toList = false) := litsL_no hl (by rw [← e2]; exact hc)
            have hge : ((2 : Int) ^ n ≤ (d[k].toNat : Int)) := by
              have e3 : (2 : Int) ^ n = (clr ⟨o, n, m⟩ : Nat) := by have := e.out; simpa using this
              rw [e3]; omega
            clear e2
            go_wp2
            refine wp_region_up 8 (by kernel_rfl) (by kernel_rfl) ?_
            simp only [List.take, List.drop]
            repeat (refine wpUp_step (fun K hK => ?_); go_simp; (try simp only [↓IntWalk.iteOmega]); first
              | (refine hK _ _ ?_; clear hK K)
              | (apply stepU_c
                 · intro wq hwq; (have hbq := bcell hwq; (repeat (first | refine fills_no (by rfl) ?_ | refine fills_yes (by rfl) (fun vq hvq => ?_))); simp only [List.filter_nil, fills]; unfold upAt; go_simp; (try go_bits); (try simp only [↓IntWalk.iteOmega]); (try (rw [dif_pos (by omega)]; go_simp; try go_bits)); first | exact upOut_value)
                 go_simp; refine hK _ _ ?_; clear hK K))
            refine wpUp_nil (fun wq hwq => ?_)
            simp only [fills]
            go_wp2
            go_ret
            refine ⟨ret_bool hN.out.symm, ?_⟩
            (repeat (first | exact Up.refl _ | refine Up.alloc ?_ _ | refine Up.drew ?_ | refine Up.set ?_ (by first | exact Nat.le_refl _ | (simp; done) | (simp; omega)) _ | refine Up.trans ?_ (by with_reducible assumption)))
        · have hN : Hid (litsL (clr ⟨o, n, m⟩) d.data.toList = true) := litsL_yes fun j hj => HA.out j hj (by rw [ba_len] at hj; omega)
          go_wp2
          go_ret
          refine ⟨ret_bool hN.out.symm, ?_⟩
          (repeat (first | exact Up.refl _ | refine Up.alloc ?_ _ | refine Up.drew ?_ | refine Up.set ?_ (by first | exact Nat.le_refl _ | (simp; done) | (simp; omega)) _ | refine Up.trans ?_ (by with_reducible assumption)))
    · rw [show fitsB s d.data.toList = false by unfold fitsB; rw [h, hlen, decide_eq_false h2]; rfl]
      rw [h] at cS
      clear h
      simp only [setV]
      go_enter Tryz.func34, Tryz.ntmps34
      go_wp2_with ((go_at_call 89; (with_reducible refine (cS _).mono ?_); rintro e w1 ⟨rfl, U1⟩; have B1 := bcell U1; have Z1 := U1.size; (try simp at Z1); (try rw [Nat.add_one_le_iff] at Z1)))
      go_ret
      refine ⟨rfl, ?_⟩
      (repeat (first | exact Up.refl _ | refine Up.alloc ?_ _ | refine Up.drew ?_ | refine Up.set ?_ (by first | exact Nat.le_refl _ | (simp; done) | (simp; omega)) _ | refine Up.trans ?_ (by with_reducible assumption)))
end Go.Proofs.YtekogcjdaolcbaaGreatDoor

/- Walks of the program's and of the reference's KnownValid, for what is known of any kind. Conditions: the pairs can be read. -/
namespace Go.Proofs.YtekogcjdaolcbaaGreatDoor
open Go Go.RowKit
def pairOk (s : SetD) (i : Nat) (p : PairD) : Bool := codeOk (clr s) i p.pre && (decide (0 ≤ p.byt) && decide (p.byt < (clr s : Int)))
def roomOk (k : KnD) : Bool := decide ((k.ps.length : Int) ≤ (lastC k.set : Int) - ((clr k.set : Int) + 1))
def pairsOk (k : KnD) : Bool := (List.range k.ps.length).all fun i => pairOk k.set i (k.ps.getD i ⟨0, 0⟩)
def lastOk (k : KnD) : Bool := if k.last = -1 then decide (k.base = k.ps.length) else codeOk (clr k.set) k.ps.length k.last
def validK (k : KnD) : Bool := setOk k.set && (roomOk k && (pairsOk k && (inB k.base 0 k.ps.length && lastOk k)))
theorem pairsOk_no {k : KnD} {j : Nat} (h : j < k.ps.length) (hp : pairOk k.set j k.ps[j] = false) : pairsOk k = false := by
  cases e : pairsOk k
  · rfl
  · unfold pairsOk at e
    rw [List.all_eq_true] at e
    have := e j (List.mem_range.2 h)
    rw [List.getD_eq_getElem?_getD, List.getElem?_eq_getElem h, Option.getD_some, hp] at this
    cases this
theorem pairsOk_yes {k : KnD} (h : ∀ j (hj : j < k.ps.length), pairOk k.set j k.ps[j] = true) : pairsOk k = true := by
  unfold pairsOk
  rw [List.all_eq_true]
  intro j hj
  have hj := List.mem_range.1 hj
  rw [List.getD_eq_getElem?_getD, List.getElem?_eq_getElem hj]
  exact h j hj
theorem validK_pairs {k : KnD} (h : pairsOk k = false) : validK k = false := by unfold validK; rw [h]; simp
theorem validK_base {k : KnD} (h : inB k.base 0 k.ps.length = false) : validK k = false := by unfold validK; rw [h]; simp
theorem validK_last {k : KnD} (h1 : setOk k.set = true) (h2 : roomOk k = true) (h3 : pairsOk k = true) (h4 : inB k.base 0 k.ps.length = true) : validK k = lastOk k := by unfold validK; rw [h1, h2, h3, h4]; rfl
theorem pairOk_of {s : SetD} {i : Nat} {p : PairD} (h : codeOk (clr s) i p.pre = true) (h0 : 0 ≤ p.byt) (h1 : p.byt < (clr s : Int)) : pairOk s i p = true := by unfold pairOk; rw [h, decide_eq_true h0, decide_eq_true h1]; rfl
theorem pairOk_not {s : SetD} {i : Nat} {p : PairD} (h : codeOk (clr s) i p.pre = false ∨ p.byt < 0 ∨ (clr s : Int) ≤ p.byt) : pairOk s i p = false := by
  unfold pairOk
  rcases h with h | h | h
  · rw [h]; rfl
  · rw [show decide (0 ≤ p.byt) = false by simp; omega]; simp
  · rw [show decide (p.byt < (clr s : Int)) = false by simp; omega]; simp
def RelKg (k : KnD) (v : Value) (w : World) (i : Value) (wr : World) : Prop := ∃ j : Nat, j ≤ k.ps.length ∧ i = .int .i64 j ∧ (∀ q (h : q < k.ps.length), q < j → pairOk k.set q k.ps[q] = true) ∧ Up w wr ∧ KnAt w.heap.size k v wr ∧ SetAt (w.heap.size + 1) k.set.ord k.set.lit k.set.most wr
set_option maxRecDepth 100000 in
set_option maxHeartbeats 8000000 in
theorem kvI_gen (k : KnD) (v : Value) (lo : Nat) (w : World) (hl : -9223372036854775808 ≤ k.set.lit ∧ k.set.lit ≤ 9223372036854775807) (hr : RdP lo w v k.ps) (hps : k.ps.length ≤ 1073741824) :
    Calls Tryz.prog 64  #[kV k v] w (Same (.bool (validK k)) w) := by
  have cS := fun w => setI_any k.set.ord k.set.lit k.set.most w hl
  rw [setD_eta] at cS
  have hrt := fun (wq : World) (hu : Up w wq) => hr.up hu
  obtain ⟨a, cap, rfl, hc1, hc2, hc3, hsome⟩ := hr
  unfold maxLen at hc2
  cases h1 : setOk k.set
  · have HV : Hid (validK k = false) := by unfold Hid validK; rw [h1]; rfl
    rw [h1] at cS
    rw [HV.out]
    clear h1 hsome hc3
    simp only [kV, setV] at *
    go_enter Tryz.func64, Tryz.ntmps64
    go_wp2
    refine wp_region_up 14 (by kernel_rfl) (by kernel_rfl) ?_
    simp only [List.take, List.drop]
    repeat (refine wpUp_step (fun K hK => ?_); go_simp; (try simp only [↓IntWalk.iteOmega]); first
      | (refine hK _ _ ?_; clear hK K)
      | (apply stepU_c
         · intro wq hwq; (have hbq := bcell hwq; (repeat (first | refine fills_no (by rfl) ?_ | refine fills_yes (by rfl) (fun vq hvq => ?_))); simp only [List.filter_nil, fills]; unfold upAt; go_simp; (try go_bits); (try simp only [↓IntWalk.iteOmega]); (try (rw [dif_pos (by omega)]; go_simp; try go_bits)); first | exact upOut_value | (apply upOut_call; (go_at_call 89; exact cS _)) | (apply upOut_eq; (go_at_call 89; exact cS _)))
         go_simp; refine hK _ _ ?_; clear hK K))
    refine wpUp_nil (fun wq hwq => ?_)
    simp only [fills]
    go_wp2
    go_ret
    refine ⟨rfl, ?_⟩
    (repeat (first | exact Up.refl _ | refine Up.alloc ?_ _ | refine Up.drew ?_ | refine Up.set ?_ (by first | exact Nat.le_refl _ | (simp; done) | (simp; omega)) _ | refine Up.trans ?_ (by with_reducible assumption)))
  have cL := fun w => lastI_any k.set w h1
  have cE := fun w => endI_any k.set w h1
  have cC := fun w => clearI_any k.set w h1
  have cK := fun x n w hn => hasI_any k.set n x w h1 hn
  obtain ⟨n1, n2, n3, n4⟩ := setOk_bd h1
  have hcb := clr_bd h1
  have H1 := Lib.hid h1
  rw [h1] at cS
  by_cases h2 : (k.ps.length : Int) > (lastC k.set : Int) - ((clr k.set : Int) + 1)
  · have HV : Hid (validK k = false) := by unfold Hid validK roomOk; rw [h1, decide_eq_false (by omega)]; rfl
    rw [HV.out]
    clear h1 hsome hc3
    simp only [kV, setV] at *
    go_enter Tryz.func64, Tryz.ntmps64
    go_wp2
    refine wp_region_up 14 (by kernel_rfl) (by kernel_rfl) ?_
    simp only [List.take, List.drop]
    repeat (refine wpUp_step (fun K hK => ?_); go_simp; (try simp only [↓IntWalk.iteOmega]); first
      | (refine hK _ _ ?_; clear hK K)
      | (apply stepU_c
         · intro wq hwq; (have hbq := bcell hwq; (repeat (first | refine fills_no (by rfl) ?_ | refine fills_yes (by rfl) (fun vq hvq => ?_))); simp only [List.filter_nil, fills]; unfold upAt; go_simp; (try go_bits); (try simp only [↓IntWalk.iteOmega]); (try (rw [dif_pos (by omega)]; go_simp; try go_bits)); first | exact upOut_value | (apply upOut_call; (go_at_call 89; exact cS _)) | (apply upOut_eq; (go_at_call 89; exact cS _)) | (apply upOut_call; (go_at_call 97; exact cL _)) | (apply upOut_eq; (go_at_call 97; exact cL _)) | (apply upOut_call; (go_at_call 58; exact cE _)) | (apply upOut_eq; (go_at_call 58; exact cE _)))
         go_simp; refine hK _ _ ?_; clear hK K))
    refine wpUp_nil (fun wq hwq => ?_)
    simp only [fills]
    go_wp2
    go_ret
    refine ⟨rfl, ?_⟩
    (repeat (first | exact Up.refl _ | refine Up.alloc ?_ _ | refine Up.drew ?_ | refine Up.set ?_ (by first | exact Nat.le_refl _ | (simp; done) | (simp; omega)) _ | refine Up.trans ?_ (by with_reducible assumption)))
  have HR : Hid (roomOk k = true) := by unfold Hid roomOk; exact decide_eq_true (by omega)
  clear h1
  simp only [kV, setV] at *
  go_enter Tryz.func64, Tryz.ntmps64
  go_wp2
  refine wp_region_up 14 (by kernel_rfl) (by kernel_rfl) ?_
  simp only [List.take, List.drop]
  repeat (refine wpUp_step (fun K hK => ?_); go_simp; (try simp only [↓IntWalk.iteOmega]); first
    | (refine hK _ _ ?_; clear hK K)
    | (apply stepU_c
       · intro wq hwq; (have hbq := bcell hwq; (repeat (first | refine fills_no (by rfl) ?_ | refine fills_yes (by rfl) (fun vq hvq => ?_))); simp only [List.filter_nil, fills]; unfold upAt; go_simp; (try go_bits); (try simp only [↓IntWalk.iteOmega]); (try (rw [dif_pos (by omega)]; go_simp; try go_bits)); first | exact upOut_value | (apply upOut_call; (go_at_call 89; exact cS _)) | (apply upOut_eq; (go_at_call 89; exact cS _)) | (apply upOut_call; (go_at_call 97; exact cL _)) | (apply upOut_eq; (go_at_call 97; exact cL _)) | (apply upOut_call; (go_at_call 58; exact cE _)) | (apply upOut_eq; (go_at_call 58; exact cE _)))
       go_simp; refine hK _ _ ?_; clear hK K))
  refine wpUp_nil (fun wq hwq => ?_)
  simp only [fills]
  have BQ := bcell hwq
  have hU1 : Up w wq := by (repeat (first | exact Up.refl _ | refine Up.alloc ?_ _ | refine Up.drew ?_ | refine Up.set ?_ (by first | exact Nat.le_refl _ | (simp; done) | (simp; omega)) _ | refine Up.trans ?_ (by with_reducible assumption)))
  have hKA : KnAt w.heap.size k (.slice a k.ps.length cap) wq := box_up hwq (box_up ((Up.refl _).alloc _) (MapKept.heap_alloc w _).1)
  have hSA : SetAt (w.heap.size + 1) k.set.ord k.set.lit k.set.most wq := box_up hwq (alloc2 w _ _)
  go_wp2
  go_loopw [25] (fun i wr => RelKg k (.slice a k.ps.length cap) w i wr) (fun i _ => k.ps.length - (intOf i).toNat)
  case atStart => exact ⟨0, Nat.zero_le _, rfl, fun q h hq => absurd hq (Nat.not_lt_zero _), hU1, hKA, hSA⟩
  case round =>
    clear hKA hSA hU1 hwq BQ h2
    obtain ⟨j, hj, rfl, hall, hup, hkn, hst⟩ := hrel
    have HALL := Lib.hid hall
    obtain ⟨b0, r0, r1, r2, r3, r4, r5⟩ := hkn.cells
    obtain ⟨b1, s0, s1, s2⟩ := hst.cells
    have HKN := Lib.hid hkn
    have HST := Lib.hid hst
    clear hkn hst hall
    by_cases hlt : j < k.ps.length
    · obtain ⟨b, off, rfl, hlo, hbl, hcells⟩ := hsome (by omega)
      obtain ⟨q0, q1⟩ := hcells j k.ps[j] (List.getElem?_eq_getElem hlt)
      clear hcells
      have cKj := fun w => cK k.ps[j].pre j w (by omega)
      have p0 := (hup.cell (p := ⟨b, off + j * 2, none⟩) hbl).trans q0
      have p1 := (hup.cell (p := ⟨b, off + j * 2 + 1, none⟩) hbl).trans q1
      have HNO : Hid ((codeOk (clr k.set) j (k.ps[j]).pre = false ∨ (k.ps[j]).byt < 0 ∨ (clr k.set : Int) ≤ (k.ps[j]).byt) → validK k = false) := fun h => validK_pairs (pairsOk_no hlt (pairOk_not h))
      have HYES : Hid (codeOk (clr k.set) j (k.ps[j]).pre = true → 0 ≤ (k.ps[j]).byt → (k.ps[j]).byt < (clr k.set : Int) → ∀ q (h : q < k.ps.length), q < j + 1 → pairOk k.set q k.ps[q] = true) := fun e1 e2 e3 q h hq => by
        rcases Nat.lt_or_ge q j with h' | h'
        · exact HALL.out q h h'
        · have : q = j := by omega
          subst this
          exact pairOk_of e1 e2 e3
      have hbl2 := Nat.lt_of_lt_of_le hbl hup.size
      generalize k.ps[j].pre = xp at *
      generalize k.ps[j].byt = xb at *
      clear cK
      cases hco : codeOk (clr k.set) j xp
      · have HV : Hid (validK k = false) := HNO.out (.inl hco)
        rw [hco] at cKj
        clear hco HNO HYES
        go_wp2
        refine wp_region_up 18 (by kernel_rfl) (by kernel_rfl) ?_
        simp only [List.take, List.drop]
        repeat (refine wpUp_step (fun K hK => ?_); go_simp; (try simp only [↓IntWalk.iteOmega]); first
          | (refine hK _ _ ?_; clear hK K)
          | (apply stepU_c
             · intro wq hwq; (have hbq := bcell hwq; (repeat (first | refine fills_no (by rfl) ?_ | refine fills_yes (by rfl) (fun vq hvq => ?_))); simp only [List.filter_nil, fills]; unfold upAt; go_simp; (try go_bits); (try simp only [↓IntWalk.iteOmega]); (try (rw [dif_pos (by omega)]; go_simp; try go_bits)); first | exact upOut_value | (apply upOut_call; (go_at_call 120; exact cKj _)) | (apply upOut_eq; (go_at_call 120; exact cKj _)) | (apply upOut_call; (go_at_call 40; exact cC _)) | (apply upOut_eq; (go_at_call 40; exact cC _)))
             go_simp; refine hK _ _ ?_; clear hK K))
        refine wpUp_nil (fun wq hwq => ?_)
        simp only [fills]
        go_wp2
        go_ret
        refine ⟨by rw [HV.out]; rfl, ?_⟩
        (repeat (first | exact Up.refl _ | refine Up.alloc ?_ _ | refine Up.drew ?_ | refine Up.set ?_ (by first | exact Nat.le_refl _ | (simp; done) | (simp; omega)) _ | refine Up.trans ?_ (by with_reducible assumption)))
      · rw [hco] at cKj
        by_cases hx0 : xb < 0
        · have HV : Hid (validK k = false) := HNO.out (.inr (.inl hx0))
          clear hco HNO HYES
          go_wp2
          refine wp_region_up 18 (by kernel_rfl) (by kernel_rfl) ?_
          simp only [List.take, List.drop]
          repeat (refine wpUp_step (fun K hK => ?_); go_simp; (try simp only [↓IntWalk.iteOmega]); first
            | (refine hK _ _ ?_; clear hK K)
            | (apply stepU_c
               · intro wq hwq; (have hbq := bcell hwq; (repeat (first | refine fills_no (by rfl) ?_ | refine fills_yes (by rfl) (fun vq hvq => ?_))); simp only [List.filter_nil, fills]; unfold upAt; go_simp; (try go_bits); (try simp only [↓IntWalk.iteOmega]); (try (rw [dif_pos (by omega)]; go_simp; try go_bits)); first | exact upOut_value | (apply upOut_call; (go_at_call 120; exact cKj _)) | (apply upOut_eq; (go_at_call 120; exact cKj _)) | (apply upOut_call; (go_at_call 40; exact cC _)) | (apply upOut_eq; (go_at_call 40; exact cC _)))
               go_simp; refine hK _ _ ?_; clear hK K))
          refine wpUp_nil (fun wq hwq => ?_)
          simp only [fills]
          go_wp2
          go_ret
          refine ⟨by rw [HV.out]; rfl, ?_⟩
          (repeat (first | exact Up.refl _ | refine Up.alloc ?_ _ | refine Up.drew ?_ | refine Up.set ?_ (by first | exact Nat.le_refl _ | (simp; done) | (simp; omega)) _ | refine Up.trans ?_ (by with_reducible assumption)))
        · by_cases hxc : xb ≥ (clr k.set : Int)
          · have HV : Hid (validK k = false) := HNO.out (.inr (.inr hxc))
            clear hco HNO HYES
            go_wp2
            refine wp_region_up 18 (by kernel_rfl) (by kernel_rfl) ?_
            simp only [List.take, List.drop]
            repeat (refine wpUp_step (fun K hK => ?_); go_simp; (try simp only [↓IntWalk.iteOmega]); first
              | (refine hK _ _ ?_; clear hK K)
              | (apply stepU_c
                 · intro wq hwq; (have hbq := bcell hwq; (repeat (first | refine fills_no (by rfl) ?_ | refine fills_yes (by rfl) (fun vq hvq => ?_))); simp only [List.filter_nil, fills]; unfold upAt; go_simp; (try go_bits); (try simp only [↓IntWalk.iteOmega]); (try (rw [dif_pos (by omega)]; go_simp; try go_bits)); first | exact upOut_value | (apply upOut_call; (go_at_call 120; exact cKj _)) | (apply upOut_eq; (go_at_call 120; exact cKj _)) | (apply upOut_call; (go_at_call 40; exact cC _)) | (apply upOut_eq; (go_at_call 40; exact cC _)))
                 go_simp; refine hK _ _ ?_; clear hK K))
            refine wpUp_nil (fun wq hwq => ?_)
            simp only [fills]
            go_wp2
            go_ret
            refine ⟨by rw [HV.out]; rfl, ?_⟩
            (repeat (first | exact Up.refl _ | refine Up.alloc ?_ _ | refine Up.drew ?_ | refine Up.set ?_ (by first | exact Nat.le_refl _ | (simp; done) | (simp; omega)) _ | refine Up.trans ?_ (by with_reducible assumption)))
          · have HY : Hid (∀ q (h : q < k.ps.length), q < j + 1 → pairOk k.set q k.ps[q] = true) := HYES.out hco (by omega) (by omega)
            clear hco HNO HYES
            go_wp2
            refine wp_region_up 18 (by kernel_rfl) (by kernel_rfl) ?_
            simp only [List.take, List.drop]
            repeat (refine wpUp_step (fun K hK => ?_); go_simp; (try simp only [↓IntWalk.iteOmega]); first
              | (refine hK _ _ ?_; clear hK K)
              | (apply stepU_c
                 · intro wq hwq; (have hbq := bcell hwq; (repeat (first | refine fills_no (by rfl) ?_ | refine fills_yes (by rfl) (fun vq hvq => ?_))); simp only [List.filter_nil, fills]; unfold upAt; go_simp; (try go_bits); (try simp only [↓IntWalk.iteOmega]); (try (rw [dif_pos (by omega)]; go_simp; try go_bits)); first | exact upOut_value | (apply upOut_call; (go_at_call 120; exact cKj _)) | (apply upOut_eq; (go_at_call 120; exact cKj _)) | (apply upOut_call; (go_at_call 40; exact cC _)) | (apply upOut_eq; (go_at_call 40; exact cC _)))
                 go_simp; refine hK _ _ ?_; clear hK K))
            refine wpUp_nil (fun wq hwq => ?_)
            simp only [fills]
            go_wp2
            go_roundw
            case rel => exact ⟨j + 1, by omega, by go_num, HY.out, by (repeat (first | exact Up.refl _ | refine Up.alloc ?_ _ | refine Up.drew ?_ | refine Up.set ?_ (by first | exact Nat.le_refl _ | (simp; done) | (simp; omega)) _ | refine Up.trans ?_ (by with_reducible assumption))), box_up hwq (box_up ((Up.refl _).alloc _) HKN.out), box_up hwq (box_up ((Up.refl _).alloc _) HST.out)⟩
            case measure => simp [intOf]; omega
    · have HP : Hid (pairsOk k = true) := pairsOk_yes fun q h => HALL.out q h (by omega)
      by_cases hb1 : k.base < 0
      · have HV : Hid (validK k = false) := validK_base (inB_not.2 (.inl hb1))
        go_wp2
        go_ret
        refine ⟨by rw [HV.out]; rfl, ?_⟩
        (repeat (first | exact Up.refl _ | refine Up.alloc ?_ _ | refine Up.drew ?_ | refine Up.set ?_ (by first | exact Nat.le_refl _ | (simp; done) | (simp; omega)) _ | refine Up.trans ?_ (by with_reducible assumption)))
      by_cases hb2 : k.base > (k.ps.length : Int)
      · have HV : Hid (validK k = false) := validK_base (inB_not.2 (.inr hb2))
        go_wp2
        go_ret
        refine ⟨by rw [HV.out]; rfl, ?_⟩
        (repeat (first | exact Up.refl _ | refine Up.alloc ?_ _ | refine Up.drew ?_ | refine Up.set ?_ (by first | exact Nat.le_refl _ | (simp; done) | (simp; omega)) _ | refine Up.trans ?_ (by with_reducible assumption)))
      have HV : Hid (validK k = lastOk k) := validK_last H1.out HR.out HP.out (inB_iff.2 ⟨by omega, by omega⟩)
      by_cases hla : k.last = -1
      · have HL : Hid (lastOk k = decide (k.base = k.ps.length)) := by unfold Hid lastOk; rw [if_pos hla]
        rw [hla] at r5
        clear hla
        go_wp2
        go_ret
        refine ⟨by rw [HV.out, HL.out]; rfl, ?_⟩
        (repeat (first | exact Up.refl _ | refine Up.alloc ?_ _ | refine Up.drew ?_ | refine Up.set ?_ (by first | exact Nat.le_refl _ | (simp; done) | (simp; omega)) _ | refine Up.trans ?_ (by with_reducible assumption)))
      · have HL : Hid (lastOk k = codeOk (clr k.set) k.ps.length k.last) := by unfold Hid lastOk; rw [if_neg hla]
        have cKj := fun w => cK k.last k.ps.length w (by omega)
        go_wp2_with (first | (go_at_call 120; (with_reducible refine (cKj _).mono ?_); rintro e w1 ⟨rfl, U1⟩; have B1 := bcell U1; have Z1 := U1.size; (try simp at Z1); (try rw [Nat.add_one_le_iff] at Z1)))
        go_ret
        refine ⟨by rw [HV.out, HL.out]; rfl, ?_⟩
        (repeat (first | exact Up.refl _ | refine Up.alloc ?_ _ | refine Up.drew ?_ | refine Up.set ?_ (by first | exact Nat.le_refl _ | (simp; done) | (simp; omega)) _ | refine Up.trans ?_ (by with_reducible assumption)))
set_option maxRecDepth 100000 in
set_option maxHeartbeats 8000000 in
theorem kvS_gen (k : KnD) (v : Value) (lo : Nat) (w : World) (hr : RdP lo w v k.ps) (hps : k.ps.length ≤ 1073741824) :
    Calls Tryz.prog 100  #[kV k v] w (Same (.bool (validK k)) w) := by
  have cS := fun w => setS_any k.set.ord k.set.lit k.set.most w
  rw [setD_eta] at cS
  have hrt := fun (wq : World) (hu : Up w wq) => hr.up hu
  obtain ⟨a, cap, rfl, hc1, hc2, hc3, hsome⟩ := hr
  unfold maxLen at hc2
  cases h1 : setOk k.set
  · have HV : Hid (validK k = false) := by unfold Hid validK; rw [h1]; rfl
    rw [h1] at cS
    rw [HV.out]
    clear h1 hsome hc3
    simp only [kV, setV] at *
    go_enter Tryz.func100, Tryz.ntmps100
    go_wp2
    refine wp_region_up 23 (by kernel_rfl) (by kernel_rfl) ?_
    simp only [List.take, List.drop]
    repeat (refine wpUp_step (fun K hK => ?_); go_simp; (try simp only [↓IntWalk.iteOmega]); first
      | (refine hK _ _ ?_; clear hK K)
      | (apply stepU_c
         · intro wq hwq; (have hbq := bcell hwq; (repeat (first | refine fills_no (by rfl) ?_ | refine fills_yes (by rfl) (fun vq hvq => ?_))); simp only [List.filter_nil, fills]; unfold upAt; go_simp; (try go_bits); (try simp only [↓IntWalk.iteOmega]); (try (rw [dif_pos (by omega)]; go_simp; try go_bits)); first | exact upOut_value | (apply upOut_call; (go_at_call 103; exact cS _)) | (apply upOut_eq; (go_at_call 103; exact cS _)))
         go_simp; refine hK _ _ ?_; clear hK K))
    refine wpUp_nil (fun wq hwq => ?_)
    simp only [fills]
    go_wp2
    go_ret
    refine ⟨rfl, ?_⟩
    (repeat (first | exact Up.refl _ | refine Up.alloc ?_ _ | refine Up.drew ?_ | refine Up.set ?_ (by first | exact Nat.le_refl _ | (simp; done) | (simp; omega)) _ | refine Up.trans ?_ (by with_reducible assumption)))
  have cL := fun w => l1Last_any k.set w h1
  have cE := fun w => l1End_any k.set w h1
  have cC := fun w => l1Clear_any k.set w h1
  have cK := fun x n w hn => l2Code_any k.set x n w h1 hn
  have cI := fun a b c w => l1In_any a b c w
  have cIb := fun w => l1In_any k.base 0 (k.ps.length : Int) w
  obtain ⟨n1, n2, n3, n4⟩ := setOk_bd h1
  have hcb := clr_bd h1
  have H1 := Lib.hid h1
  rw [h1] at cS
  by_cases h2 : (k.ps.length : Int) > (lastC k.set : Int) - ((clr k.set : Int) + 1)
  · have HV : Hid (validK k = false) := by unfold Hid validK roomOk; rw [h1, decide_eq_false (by omega)]; rfl
    rw [HV.out]
    clear h1 hsome hc3
    simp only [kV, setV] at *
    go_enter Tryz.func100, Tryz.ntmps100
    go_wp2
    refine wp_region_up 23 (by kernel_rfl) (by kernel_rfl) ?_
    simp only [List.take, List.drop]
    repeat (refine wpUp_step (fun K hK => ?_); go_simp; (try simp only [↓IntWalk.iteOmega]); first
      | (refine hK _ _ ?_; clear hK K)
      | (apply stepU_c
         · intro wq hwq; (have hbq := bcell hwq; (repeat (first | refine fills_no (by rfl) ?_ | refine fills_yes (by rfl) (fun vq hvq => ?_))); simp only [List.filter_nil, fills]; unfold upAt; go_simp; (try go_bits); (try simp only [↓IntWalk.iteOmega]); (try (rw [dif_pos (by omega)]; go_simp; try go_bits)); first | exact upOut_value | (apply upOut_call; (go_at_call 103; exact cS _)) | (apply upOut_eq; (go_at_call 103; exact cS _)) | (apply upOut_call; (go_at_call 109; exact cL _)) | (apply upOut_eq; (go_at_call 109; exact cL _)) | (apply upOut_call; (go_at_call 131; exact cE _)) | (apply upOut_eq; (go_at_call 131; exact cE _)))
         go_simp; refine hK _ _ ?_; clear hK K))
    refine wpUp_nil (fun wq hwq => ?_)
    simp only [fills]
    go_wp2
    go_ret
    refine ⟨rfl, ?_⟩
    (repeat (first | exact Up.refl _ | refine Up.alloc ?_ _ | refine Up.drew ?_ | refine Up.set ?_ (by first | exact Nat.le_refl _ | (simp; done) | (simp; omega)) _ | refine Up.trans ?_ (by with_reducible assumption)))
  have HR : Hid (roomOk k = true) := by unfold Hid roomOk; exact decide_eq_true (by omega)
  cases hb : inB k.base 0 (k.ps.length : Int)
  · have HV : Hid (validK k = false) := validK_base hb
    rw [hb] at cIb
    rw [HV.out]
    clear h1 hsome hc3 hb
    simp only [kV, setV] at *
    go_enter Tryz.func100, Tryz.ntmps100
    go_wp2
    refine wp_region_up 23 (by kernel_rfl) (by kernel_rfl) ?_
    simp only [List.take, List.drop]
    repeat (refine wpUp_step (fun K hK => ?_); go_simp; (try simp only [↓IntWalk.iteOmega]); first
      | (refine hK _ _ ?_; clear hK K)
      | (apply stepU_c
         · intro wq hwq; (have hbq := bcell hwq; (repeat (first | refine fills_no (by rfl) ?_ | refine fills_yes (by rfl) (fun vq hvq => ?_))); simp only [List.filter_nil, fills]; unfold upAt; go_simp; (try go_bits); (try simp only [↓IntWalk.iteOmega]); (try (rw [dif_pos (by omega)]; go_simp; try go_bits)); first | exact upOut_value | (apply upOut_call; (go_at_call 103; exact cS _)) | (apply upOut_eq; (go_at_call 103; exact cS _)) | (apply upOut_call; (go_at_call 109; exact cL _)) | (apply upOut_eq; (go_at_call 109; exact cL _)) | (apply upOut_call; (go_at_call 131; exact cE _)) | (apply upOut_eq; (go_at_call 131; exact cE _)) | (apply upOut_call; (go_at_call 145; exact cIb _)) | (apply upOut_eq; (go_at_call 145; exact cIb _)))
         go_simp; refine hK _ _ ?_; clear hK K))
    refine wpUp_nil (fun wq hwq => ?_)
    simp only [fills]
    go_wp2
    go_ret
    refine ⟨rfl, ?_⟩
    (repeat (first | exact Up.refl _ | refine Up.alloc ?_ _ | refine Up.drew ?_ | refine Up.set ?_ (by first | exact Nat.le_refl _ | (simp; done) | (simp; omega)) _ | refine Up.trans ?_ (by with_reducible assumption)))
  have HB := Lib.hid hb
  rw [hb] at cIb
  clear h1 hb
  simp only [kV, setV] at *
  go_enter Tryz.func100, Tryz.ntmps100
  go_wp2
  refine wp_region_up 23 (by kernel_rfl) (by kernel_rfl) ?_
  simp only [List.take, List.drop]
  repeat (refine wpUp_step (fun K hK => ?_); go_simp; (try simp only [↓IntWalk.iteOmega]); first
    | (refine hK _ _ ?_; clear hK K)
    | (apply stepU_c
       · intro wq hwq; (have hbq := bcell hwq; (repeat (first | refine fills_no (by rfl) ?_ | refine fills_yes (by rfl) (fun vq hvq => ?_))); simp only [List.filter_nil, fills]; unfold upAt; go_simp; (try go_bits); (try simp only [↓IntWalk.iteOmega]); (try (rw [dif_pos (by omega)]; go_simp; try go_bits)); first | exact upOut_value | (apply upOut_call; (go_at_call 103; exact cS _)) | (apply upOut_eq; (go_at_call 103; exact cS _)) | (apply upOut_call; (go_at_call 109; exact cL _)) | (apply upOut_eq; (go_at_call 109; exact cL _)) | (apply upOut_call; (go_at_call 131; exact cE _)) | (apply upOut_eq; (go_at_call 131; exact cE _)) | (apply upOut_call; (go_at_call 145; exact cIb _)) | (apply upOut_eq; (go_at_call 145; exact cIb _)))
       go_simp; refine hK _ _ ?_; clear hK K))
  refine wpUp_nil (fun wq hwq => ?_)
  simp only [fills]
  have BQ := bcell hwq
  go_wp2
  have hU1 : Up w wq := by (repeat (first | exact Up.refl _ | refine Up.alloc ?_ _ | refine Up.drew ?_ | refine Up.set ?_ (by first | exact Nat.le_refl _ | (simp; done) | (simp; omega)) _ | refine Up.trans ?_ (by with_reducible assumption)))
  have hKA : KnAt w.heap.size k (.slice a k.ps.length cap) wq := box_up hwq (box_up ((Up.refl _).alloc _) (MapKept.heap_alloc w _).1)
  have hSA : SetAt (w.heap.size + 1) k.set.ord k.set.lit k.set.most wq := box_up hwq (alloc2 w _ _)
  go_loopw [4] (fun i wr => RelKg k (.slice a k.ps.length cap) w i wr) (fun i _ => k.ps.length - (intOf i).toNat)
  case atStart => exact ⟨0, Nat.zero_le _, rfl, fun q h hq => absurd hq (Nat.not_lt_zero _), hU1, hKA, hSA⟩
  case round =>
    clear hKA hSA hU1 hwq BQ h2 cIb
    obtain ⟨j, hj, rfl, hall, hup, hkn, hst⟩ := hrel
    have HALL := Lib.hid hall
    obtain ⟨b0, r0, r1, r2, r3, r4, r5⟩ := hkn.cells
    obtain ⟨b1, s0, s1, s2⟩ := hst.cells
    have HKN := Lib.hid hkn
    have HST := Lib.hid hst
    clear hkn hst hall
    by_cases hlt : j < k.ps.length
    · obtain ⟨b, off, rfl, hlo, hbl, hcells⟩ := hsome (by omega)
      obtain ⟨q0, q1⟩ := hcells j k.ps[j] (List.getElem?_eq_getElem hlt)
      clear hcells
      have cKj := fun w => cK k.ps[j].pre j w (by omega)
      have cIj := fun w => l1In_any k.ps[j].byt 0 ((clr k.set : Int) - 1) w
      have HNO : Hid ((codeOk (clr k.set) j (k.ps[j]).pre = false ∨ (k.ps[j]).byt < 0 ∨ (clr k.set : Int) ≤ (k.ps[j]).byt) → validK k = false) := fun h => validK_pairs (pairsOk_no hlt (pairOk_not h))
      have HYES : Hid (codeOk (clr k.set) j (k.ps[j]).pre = true → 0 ≤ (k.ps[j]).byt → (k.ps[j]).byt < (clr k.set : Int) → ∀ q (h : q < k.ps.length), q < j + 1 → pairOk k.set q k.ps[q] = true) := fun e1 e2 e3 q h hq => by
        rcases Nat.lt_or_ge q j with h' | h'
        · exact HALL.out q h h'
        · have : q = j := by omega
          subst this
          exact pairOk_of e1 e2 e3
      generalize k.ps[j].pre = xp at *
      generalize k.ps[j].byt = xb at *
      clear cK
      cases hco : codeOk (clr k.set) j xp
      · have HV : Hid (validK k = false) := HNO.out (.inl hco)
        rw [hco] at cKj
        clear hco HNO HYES
        go_wp2
        refine wp_region_up 23 (by kernel_rfl) (by kernel_rfl) ?_
        simp only [List.take, List.drop]
        repeat (refine wpUp_step (fun K hK => ?_); go_simp; (try simp only [↓IntWalk.iteOmega]); first
          | (refine hK _ _ ?_; clear hK K)
          | (apply stepU_c
             · intro wq hwq; (have hbq := bcell hwq; (repeat (first | refine fills_no (by rfl) ?_ | refine fills_yes (by rfl) (fun vq hvq => ?_))); simp only [List.filter_nil, fills]; unfold upAt; (try ((have e0 := ((hup.trans hwq).cell (p := ⟨b, off + j * 2, none⟩) hbl).trans q0; have e1 := ((hup.trans hwq).cell (p := ⟨b, off + j * 2 + 1, none⟩) hbl).trans q1))); go_simp; (try go_bits); (try simp only [↓IntWalk.iteOmega]); (try (rw [dif_pos (by omega)]; go_simp; try go_bits)); first | exact upOut_value | (apply upOut_call; (go_at_call 146; exact cKj _)) | (apply upOut_eq; (go_at_call 146; exact cKj _)) | (apply upOut_call; (go_at_call 86; exact cC _)) | (apply upOut_eq; (go_at_call 86; exact cC _)) | (apply upOut_call; (go_at_call 145; exact cIj _)) | (apply upOut_eq; (go_at_call 145; exact cIj _)))
             go_simp; refine hK _ _ ?_; clear hK K))
        refine wpUp_nil (fun wq hwq => ?_)
        simp only [fills]
        go_wp2
        go_ret
        refine ⟨by rw [HV.out]; rfl, ?_⟩
        (repeat (first | exact Up.refl _ | refine Up.alloc ?_ _ | refine Up.drew ?_ | refine Up.set ?_ (by first | exact Nat.le_refl _ | (simp; done) | (simp; omega)) _ | refine Up.trans ?_ (by with_reducible assumption)))
      · rw [hco] at cKj
        cases hi : inB xb 0 ((clr k.set : Int) - 1)
        · have HV : Hid (validK k = false) := HNO.out (.inr (by rcases inB_not.1 hi with h | h; exact .inl h; exact .inr (by omega)))
          rw [hi] at cIj
          clear hco HNO HYES hi
          go_wp2
          refine wp_region_up 23 (by kernel_rfl) (by kernel_rfl) ?_
          simp only [List.take, List.drop]
          repeat (refine wpUp_step (fun K hK => ?_); go_simp; (try simp only [↓IntWalk.iteOmega]); first
            | (refine hK _ _ ?_; clear hK K)
            | (apply stepU_c
               · intro wq hwq; (have hbq := bcell hwq; (repeat (first | refine fills_no (by rfl) ?_ | refine fills_yes (by rfl) (fun vq hvq => ?_))); simp only [List.filter_nil, fills]; unfold upAt; (try ((have e0 := ((hup.trans hwq).cell (p := ⟨b, off + j * 2, none⟩) hbl).trans q0; have e1 := ((hup.trans hwq).cell (p := ⟨b, off + j * 2 + 1, none⟩) hbl).trans q1))); go_simp; (try go_bits); (try simp only [↓IntWalk.iteOmega]); (try (rw [dif_pos (by omega)]; go_simp; try go_bits)); first | exact upOut_value | (apply upOut_call; (go_at_call 146; exact cKj _)) | (apply upOut_eq; (go_at_call 146; exact cKj _)) | (apply upOut_call; (go_at_call 86; exact cC _)) | (apply upOut_eq; (go_at_call 86; exact cC _)) | (apply upOut_call; (go_at_call 145; exact cIj _)) | (apply upOut_eq; (go_at_call 145; exact cIj _)))
               go_simp; refine hK _ _ ?_; clear hK K))
          refine wpUp_nil (fun wq hwq => ?_)
          simp only [fills]
          go_wp2
          go_ret
          refine ⟨by rw [HV.out]; rfl, ?_⟩
          (repeat (first | exact Up.refl _ | refine Up.alloc ?_ _ | refine Up.drew ?_ | refine Up.set ?_ (by first | exact Nat.le_refl _ | (simp; done) | (simp; omega)) _ | refine Up.trans ?_ (by with_reducible assumption)))
        · have hi2 := inB_iff.1 hi
          have HY : Hid (∀ q (h : q < k.ps.length), q < j + 1 → pairOk k.set q k.ps[q] = true) := HYES.out hco hi2.1 (by omega)
          rw [hi] at cIj
          clear hco HNO HYES hi hi2
          go_wp2
          refine wp_region_up 23 (by kernel_rfl) (by kernel_rfl) ?_
          simp only [List.take, List.drop]
          repeat (refine wpUp_step (fun K hK => ?_); go_simp; (try simp only [↓IntWalk.iteOmega]); first
            | (refine hK _ _ ?_; clear hK K)
            | (apply stepU_c
               · intro wq hwq; (have hbq := bcell hwq; (repeat (first | refine fills_no (by rfl) ?_ | refine fills_yes (by rfl) (fun vq hvq => ?_))); simp only [List.filter_nil, fills]; unfold upAt; (try ((have e0 := ((hup.trans hwq).cell (p := ⟨b, off + j * 2, none⟩) hbl).trans q0; have e1 := ((hup.trans hwq).cell (p := ⟨b, off + j * 2 + 1, none⟩) hbl).trans q1))); go_simp; (try go_bits); (try simp only [↓IntWalk.iteOmega]); (try (rw [dif_pos (by omega)]; go_simp; try go_bits)); first | exact upOut_value | (apply upOut_call; (go_at_call 146; exact cKj _)) | (apply upOut_eq; (go_at_call 146; exact cKj _)) | (apply upOut_call; (go_at_call 86; exact cC _)) | (apply upOut_eq; (go_at_call 86; exact cC _)) | (apply upOut_call; (go_at_call 145; exact cIj _)) | (apply upOut_eq; (go_at_call 145; exact cIj _)))
               go_simp; refine hK _ _ ?_; clear hK K))
          refine wpUp_nil (fun wq hwq => ?_)
          simp only [fills]
          go_wp2
          go_roundw
          case rel => exact ⟨j + 1, by omega, by go_num, HY.out, by (repeat (first | exact Up.refl _ | refine Up.alloc ?_ _ | refine Up.drew ?_ | refine Up.set ?_ (by first | exact Nat.le_refl _ | (simp; done) | (simp; omega)) _ | refine Up.trans ?_ (by with_reducible assumption))), box_up hwq HKN.out, box_up hwq HST.out⟩
          case measure => simp [intOf]; omega
    · have HP : Hid (pairsOk k = true) := pairsOk_yes fun q h => HALL.out q h (by omega)
      have HV : Hid (validK k = lastOk k) := validK_last H1.out HR.out HP.out HB.out
      by_cases hla : k.last = -1
      · have HL : Hid (lastOk k = decide (k.base = k.ps.length)) := by unfold Hid lastOk; rw [if_pos hla]
        have cKj := fun w => cK (-1) k.ps.length w (by omega)
        have hno : codeOk (clr k.set) k.ps.length (-1) = false := by rw [← Bool.not_eq_true, codeOk_iff]; omega
        rw [hno] at cKj
        rw [hla] at r5
        clear hno hla
        go_wp2_with (first | (go_at_call 146; (with_reducible refine (cKj _).mono ?_); rintro e w1 ⟨rfl, U1⟩; have B1 := bcell U1; have Z1 := U1.size; (try simp at Z1); (try rw [Nat.add_one_le_iff] at Z1)))
        go_ret
        refine ⟨by rw [HV.out, HL.out]; rfl, ?_⟩
        (repeat (first | exact Up.refl _ | refine Up.alloc ?_ _ | refine Up.drew ?_ | refine Up.set ?_ (by first | exact Nat.le_refl _ | (simp; done) | (simp; omega)) _ | refine Up.trans ?_ (by with_reducible assumption)))
      · have HL : Hid (lastOk k = codeOk (clr k.set) k.ps.length k.last) := by unfold Hid lastOk; rw [if_neg hla]
        have cKj := fun w => cK k.last k.ps.length w (by omega)
        have hl1 : (k.last == -1) = false := by simpa using hla
        cases hco : codeOk (clr k.set) k.ps.length k.last
        all_goals
          rw [hco] at cKj
          have HC := Lib.hid hco
          clear hco
          go_wp2_with (first | (go_at_call 146; (with_reducible refine (cKj _).mono ?_); rintro e w1 ⟨rfl, U1⟩; have B1 := bcell U1; have Z1 := U1.size; (try simp at Z1); (try rw [Nat.add_one_le_iff] at Z1)))
          go_ret
          refine ⟨by rw [HV.out, HL.out, HC.out]; rfl, ?_⟩
          (repeat (first | exact Up.refl _ | refine Up.alloc ?_ _ | refine Up.drew ?_ | refine Up.set ?_ (by first | exact Nat.le_refl _ | (simp; done) | (simp; omega)) _ | refine Up.trans ?_ (by with_reducible assumption)))
end Go.Proofs.YtekogcjdaolcbaaGreatDoor

/- Plain facts: what is valid is what the walks ask; pairs are read on after draws. Conditions: none. -/
namespace Go.Proofs.YtekogcjdaolcbaaGreatDoor
open Go Go.RowKit
theorem ok_of_valid {k : KnD} (h : validK k = true) : k.Ok ∧ (k.last = -1 → k.base = k.ps.length) := by
  unfold validK at h
  simp only [Bool.and_eq_true] at h
  obtain ⟨h1, h2, h3, h4, h5⟩ := h
  have hc := clr_bd h1
  unfold roomOk at h2
  rw [decide_eq_true_eq] at h2
  rw [inB_iff] at h4
  refine ⟨⟨h1, fun i hi => ?_, ?_, h4.1, h4.2, ?_⟩, fun hl => ?_⟩
  · rw [prOk_get hi]
    unfold pairsOk at h3
    rw [List.all_eq_true] at h3
    have := h3 i (List.mem_range.2 hi)
    rw [List.getD_eq_getElem?_getD, List.getElem?_eq_getElem hi, Option.getD_some] at this
    exact this
  · show k.ps.length + clr k.set + 1 ≤ lastC k.set
    omega
  · unfold lastOk at h5
    split at h5
    · exact .inl ‹_›
    · exact .inr h5
  · unfold lastOk at h5
    rw [if_pos hl] at h5
    simpa using h5
theorem RdP.gr {lo rb : Nat} {w w' : World} {v : Value} {ps : List PairD} (h : RdP lo w v ps) (hg : w.grownBy w' (some rb)) (hl : rb < lo) : RdP lo w' v ps := by
  obtain ⟨a, cap, h1, h2, h2', h2'', h3⟩ := h
  refine ⟨a, cap, h1, h2, h2', h2'', fun hp => ?_⟩
  obtain ⟨b, off, e1, e2, e4, e5⟩ := h3 hp
  have hne : some b ≠ some rb := fun e => by cases e; omega
  exact ⟨b, off, e1, e2, Nat.lt_of_lt_of_le e4 hg.size, fun i p hi => ⟨((gcell hg).1 b _ e4 hne).trans (e5 i p hi).1, ((gcell hg).1 b _ e4 hne).trans (e5 i p hi).2⟩⟩
theorem RdP.set {lo : Nat} {w : World} {v : Value} {ps : List PairD} (h : RdP lo w v ps) {b : Nat} (hl : b < lo) (i : Nat) (u : Value) : RdP lo (w.setCell ⟨b, i, none⟩ u) v ps :=
  h.gr (grownBy_set (grownBy_refl w (some b)) i u) hl
theorem follows_lit {k : KnD} {x : Int} (h0 : 0 ≤ x) (h1 : x < clr k.set) : k.follows x = true := by
  unfold KnD.follows
  rw [show codeOk k.c k.ps.length x = true from codeOk_iff.2 (.inl ⟨h0, h1⟩)]
  rfl
theorem follows_pair {k : KnD} {x : Int} (h0 : (clr k.set : Int) + 2 ≤ x) (h1 : x < clr k.set + 2 + k.ps.length) : k.follows x = true := by
  unfold KnD.follows
  rw [show codeOk k.c k.ps.length x = true from codeOk_iff.2 (.inr ⟨h0, h1⟩)]
  rfl
theorem follows_next {k : KnD} (h : k.grow = true) : k.follows k.next = true := by
  unfold KnD.follows
  rw [h]
  simp
theorem KnD.Ok.rebase {k : KnD} (h : k.Ok) {b : Int} (h0 : 0 ≤ b) (h1 : b ≤ k.ps.length) : (⟨k.set, k.ps, b, k.last⟩ : KnD).Ok := ⟨h.set, h.ps, h.len, h0, h1, h.last⟩
end Go.Proofs.YtekogcjdaolcbaaGreatDoor

/- Walks of the reference's l2Pick and l2Draw. Conditions: the reader is one (Rdr), its place is bounded. -/
namespace Go.Proofs.YtekogcjdaolcbaaGreatDoor
open Go Go.RowKit
theorem RdUp.g {rb : Nat} {B : Value} {c : Nat} {w w' : World} (h : RdUp rb B c w w') : w.grownBy w' (some rb) := h.1
def IsFol (k : KnD) (v : Value) : Prop := ∃ x : Int, v = .int .i64 x ∧ k.follows x = true
theorem wrapFol {k : KnD} {c n : Nat} {t : Int} (F : ∀ x : Int, (c : Int) + 2 ≤ x → x < c + 2 + n → k.follows x = true) (hn : 0 < n) (hc : c + n ≤ 2000) : IsFol k (.int .i64 (wrap64 ((c : Int) + 1 + 1 + t % n))) := by
  have h1 := Int.emod_nonneg t (show (n : Int) ≠ 0 by omega)
  have h2 := Int.emod_lt_of_pos t (show (0 : Int) < n by omega)
  generalize t % (n : Int) = m at *
  refine ⟨_, rfl, ?_⟩
  rw [show wrap64 ((c : Int) + 1 + 1 + m) = (c : Int) + 1 + 1 + m by unfold wrap64; omega]
  exact F _ (by omega) (by omega)
theorem remFol {k : KnD} {c : Nat} {t : Int} (F : ∀ x : Int, 0 ≤ x → x < c → k.follows x = true) (hn : 0 < c) : IsFol k (.int .i64 (t % c)) := ⟨_, rfl, F _ (Int.emod_nonneg t (by omega)) (Int.emod_lt_of_pos t (by omega))⟩
set_option maxRecDepth 100000 in
set_option maxHeartbeats 8000000 in
theorem l2Pick_any (k : KnD) (v : Value) (rb : Nat) (B : Value) (w : World) (N : Nat) (h : Rdr rb B w N) (hN : N ≤ 900000000) (hk : k.Ok) (hr : RdP (rb + 1) w v k.ps) :
    Calls Tryz.prog 128  #[.pointer (some ⟨rb, 0, none⟩), kV k v] w (Drawn rb B 8 (IsFol k) w) := by
  obtain ⟨p, hp, h, HM⟩ := h.least
  have hlt := h.lt
  have HR := Lib.hid h
  have hne0 : ¬ w.heap.size = rb := by omega
  have hU := RdUp.refl rb B 0 w
  have hrt := fun (wq : World) (hg : w.grownBy wq (some rb)) => hr.gr hg (Nat.lt_succ_self rb)
  have cG := fun wx hr => l2Grows_any k v (rb + 1) wx hk hr
  have cX := fun wx hr => l2Next_any k v (rb + 1) wx hk hr
  have cK := fun wx => l1Clear_any k.set wx hk.set
  have cE := fun wx => l1End_any k.set wx hk.set
  have F1 := Lib.hid (fun x => @follows_lit k x)
  have F2 := Lib.hid (fun x => @follows_pair k x)
  have F3 := Lib.hid (@follows_next k)
  obtain ⟨hb1, hb2, hb3, hb4, hb5⟩ := hk.nums
  obtain ⟨a, cap, rfl, hc1, hc2, hc3, -⟩ := id hr
  have hKB : KnAt w.heap.size k (.slice a k.ps.length cap) (w.alloc (.cells #[.int .i64 k.set.ord, .int .i64 k.set.lit, .int .i64 k.set.most, .slice a k.ps.length cap, .int .i64 k.base, .int .i64 k.last] 27)) := (MapKept.heap_alloc w _).1
  clear hr hk
  unfold maxLen at hc2
  simp only [kV, setV] at *
  go_enter Tryz.func128, Tryz.ntmps128
  cases hg : k.grow
  all_goals
    rw [hg] at cG F3
    clear hg
    go_wp2_with (first | (go_at_call 31; ((with_reducible refine (pick_at (n := 6) HR.out hU (by intro c hU; (repeat (first | with_reducible assumption | refine RdUp.ups ?_ (by with_reducible assumption) | with_reducible refine RdUp.set ?_ (by first | exact Nat.le_refl _ | (simp only []; omega) | (simp; omega)) _ | with_reducible refine RdUp.alloc ?_ _ | with_reducible refine RdUp.drew ?_ | with_reducible exact RdUp.of (Up.refl _)))) (by omega)).mono ?_); rintro e w' ⟨x, rfl, x0, x1, hU, U⟩; have D := gcell U.1; have Z := U.1.size; (try simp at Z); (try have Y0 : w.heap.size < w'.heap.size := (by omega)); (try have Y1 : w.heap.size + 1 < w'.heap.size := (by omega)); (try have Y2 : w.heap.size + 1 + 1 < w'.heap.size := (by omega)); (try have X0 : w.heap.size < w'.heap.size + 1 := (by omega)); (try have X1 : w.heap.size + 1 < w'.heap.size + 1 := (by omega)); (try have X2 : w.heap.size + 1 + 1 < w'.heap.size + 1 := (by omega)); ((have hKB := gbox U.1 hKB (by simp; omega); obtain ⟨hb0, q0, q1, q2, q3, q4, q5⟩ := KnAt.cells hKB)))) | (go_at_call 159; (with_reducible refine (cG _ (hrt _ hU.g)).mono ?_); rintro e w2 ⟨rfl, U2⟩; have hU := hU.ups U2; have hKB := box_up U2 hKB; clear q0 q1 q2 q3 q4 q5 hb0; obtain ⟨hb0, q0, q1, q2, q3, q4, q5⟩ := KnAt.cells hKB) | (go_at_call 108; (with_reducible refine (cX _ (hrt _ hU.g)).mono ?_); rintro e w3 ⟨rfl, U3⟩; have hU := hU.ups U3) | (go_at_call 131; (with_reducible refine (cE _).mono ?_); rintro e w4 ⟨rfl, U4⟩; have hU := hU.ups U4; have hKB := box_up U4 hKB) | (go_at_call 31; ((with_reducible refine (pick_at (n := 256) HR.out hU (by intro c hU; (repeat (first | with_reducible assumption | refine RdUp.ups ?_ (by with_reducible assumption) | with_reducible refine RdUp.set ?_ (by first | exact Nat.le_refl _ | (simp only []; omega) | (simp; omega)) _ | with_reducible refine RdUp.alloc ?_ _ | with_reducible refine RdUp.drew ?_ | with_reducible exact RdUp.of (Up.refl _)))) (by omega)).mono ?_); rintro e w' ⟨y, rfl, y0, y1, hU, U⟩; have D := gcell U.1; have Z := U.1.size; (try simp at Z); (try have Y0 : w.heap.size < w'.heap.size := (by omega)); (try have Y1 : w.heap.size + 1 < w'.heap.size := (by omega)); (try have Y2 : w.heap.size + 1 + 1 < w'.heap.size := (by omega)); (try have X0 : w.heap.size < w'.heap.size + 1 := (by omega)); (try have X1 : w.heap.size + 1 < w'.heap.size + 1 := (by omega)); (try have X2 : w.heap.size + 1 + 1 < w'.heap.size + 1 := (by omega)); ((have hKB := gbox U.1 hKB (by simp; omega))))))
    all_goals first
      | (go_ret; refine ⟨_, rfl, ⟨k.next, rfl, F3.out (by trivial)⟩, ?_⟩; exact RdUp.fin hU (by intro c hU; (repeat (first | with_reducible assumption | refine RdUp.ups ?_ (by with_reducible assumption) | with_reducible refine RdUp.set ?_ (by first | exact Nat.le_refl _ | (simp only []; omega) | (simp; omega)) _ | with_reducible refine RdUp.alloc ?_ _ | with_reducible refine RdUp.drew ?_ | with_reducible exact RdUp.of (Up.refl _)))) (by omega))
      | (go_ret; exact ⟨_, rfl, wrapFol F2.out (by omega) (by omega), by exact RdUp.fin hU (by intro c hU; (repeat (first | with_reducible assumption | refine RdUp.ups ?_ (by with_reducible assumption) | with_reducible refine RdUp.set ?_ (by first | exact Nat.le_refl _ | (simp only []; omega) | (simp; omega)) _ | with_reducible refine RdUp.alloc ?_ _ | with_reducible refine RdUp.drew ?_ | with_reducible exact RdUp.of (Up.refl _)))) (by omega)⟩)
      | skip
    all_goals
      have hr2 := hU.2 _ h
      refine wp_region_rd 6 rb B 1 _ (by kernel_rfl) (by kernel_rfl) hr2 ?_
      simp only [List.take, List.drop]
      repeat (refine wpR_step (fun K hK => ?_); go_simp; (try simp only [↓IntWalk.iteOmega]); first
        | (refine hK _ _ ?_; clear hK K)
        | (refine stepR_c ?_ ?_ ?_
           rotate_left
           · intro wq hwq hrq; (have hbq := gcell hwq; (repeat (first | refine fills_no (by rfl) ?_ | (refine fills_yes (by rfl) (fun vq hvq => ?_); (try ((obtain ⟨i, rfl, hi0, hi1⟩ := hvq)))))); simp only [List.filter_nil, fills]; unfold upAt; (try ((obtain ⟨-, r0, r1, r2, r3, r4, r5⟩ := KnAt.cells (gbox hwq hKB (by simp; omega))))); go_simp; (try go_bits); (try simp only [↓IntWalk.iteOmega]); (try (rw [dif_pos (by omega)]; go_simp; try go_bits)); first | exact upOut_value | (apply upOut_call; (go_at_call 86; exact cK _)) | (apply upOut_eq; (go_at_call 86; exact cK _)))
           go_simp; refine hK _ _ ?_; clear hK K)
        | (refine stepR_m (by kernel_rfl) ?_ ?_ (fun wq hwq hrq => ?_) ?_
           rotate_left 2
           · (have hbq := gcell hwq; (repeat (first | refine fills_no (by rfl) ?_ | (refine fills_yes (by rfl) (fun vq hvq => ?_); (try ((obtain ⟨i, rfl, hi0, hi1⟩ := hvq)))))); simp only [List.filter_nil, fills]; unfold upAt; (try ((obtain ⟨-, r0, r1, r2, r3, r4, r5⟩ := KnAt.cells (gbox hwq hKB (by simp; omega))))); go_simp; (try go_bits); (try simp only [↓IntWalk.iteOmega]); (try (rw [dif_pos (by omega)]; go_simp; try go_bits)); first | ((with_reducible refine upOut_D (fun v _ => IsFol k v) ?_); (((with_reducible refine upOut_make (Up.refl _) ?_); exact remFol F1.out (by omega)))))
           rotate_left
           · (first | exact (fun _ _ _ h _ => h))
           refine hK _ _ ?_; clear hK K)
        | (refine stepR_d (by rfl) (by kernel_rfl) (fun v _ => pickB 256 v) (fun _ _ _ h _ => h) (fun wq hwq hrq => ?_) ?_
           · (have hbq := gcell hwq; (repeat (first | refine fills_no (by rfl) ?_ | (refine fills_yes (by rfl) (fun vq hvq => ?_); (try ((obtain ⟨i, rfl, hi0, hi1⟩ := hvq)))))); simp only [List.filter_nil, fills]; unfold gAt; (try ((obtain ⟨-, r0, r1, r2, r3, r4, r5⟩ := KnAt.cells (gbox hwq hKB (by simp; omega))))); go_simp; (try go_bits); (try simp only [↓IntWalk.iteOmega]); (try (rw [dif_pos (by omega)]; go_simp; try go_bits)); (with_reducible refine gOut_drawn ((pick_any rb B 256 wq _ hrq (by omega))) ?_); decide)
           refine hK _ _ ?_; clear hK K))
      refine wpR_nil (fun wq hwq hrq => ?_)
      simp only [fills]
      rintro v9 h9
      intros
      have hU := RdUp.made (C := 8) HM (grownBy_trans hU.1 hwq) hrq (by omega)
      go_wp2
      rw [onlyN_normal]
      go_wp2
      go_ret
      exact ⟨_, rfl, h9, by exact RdUp.fin hU (by intro c hU; (repeat (first | with_reducible assumption | refine RdUp.ups ?_ (by with_reducible assumption) | with_reducible refine RdUp.set ?_ (by first | exact Nat.le_refl _ | (simp only []; omega) | (simp; omega)) _ | with_reducible refine RdUp.alloc ?_ _ | with_reducible refine RdUp.drew ?_ | with_reducible exact RdUp.of (Up.refl _)))) (by omega)⟩
end Go.Proofs.YtekogcjdaolcbaaGreatDoor

/- Walk of the reference's l2Draw. Conditions: the reader is one (Rdr), its place is bounded. -/
namespace Go.Proofs.YtekogcjdaolcbaaGreatDoor
open Go Go.RowKit
def kn0 : KnD := ⟨⟨0, 0, 0⟩, [], 0, 0⟩
theorem rdP_none (lo : Nat) (w : World) : RdP lo w (.slice none 0 0) [] := ⟨none, 0, rfl, Nat.le_refl _, by unfold maxLen; omega, fun _ => ⟨rfl, rfl⟩, fun h => absurd h (Nat.lt_irrefl _)⟩
def AftP (lo : Nat) (k : KnD) (u : Value) (w : World) : Prop := ∃ x v, k.follows x = true ∧ u = kV (k.after x) v ∧ RdP lo w v (k.after x).ps
theorem aftP_closed {rb lo : Nat} {k : KnD} (hl : rb < lo) : ∀ u w w', AftP lo k u w → w.grownBy w' (some rb) → AftP lo k u w' := fun u w w' ⟨x, v, h1, h2, h3⟩ hg => ⟨x, v, h1, h2, h3.gr hg hl⟩
theorem upOut_aft {lo : Nat} {k : KnD} {x : Int} {f : FuncId} {args : Array Value} {w : World} (h : Calls Tryz.prog f args w (KnPost (k.after x) w)) (hx : k.follows x = true) (hb : lo ≤ w.heap.size) : upOut Tryz.prog (AftP lo k) w (.ok (.enter f args) w) :=
  ⟨rfl, h.mono fun e w' ⟨v, he, hp, hu⟩ => ⟨_, he, hu, x, v, hx, rfl, (RdP.of_own hp).low hb⟩⟩
def DrawnK (rb : Nat) (B : Value) (c : Nat) (D : KnD → Prop) (w : World) (e : Ending) (w' : World) : Prop := ∃ k v, e = .returned (kV k v) ∧ D k ∧ RdP (rb + 1) w' v k.ps ∧ RdUp rb B c w w'
end Go.Proofs.YtekogcjdaolcbaaGreatDoor

/- A region whose order is open, whose operations draw or make memory, and one of which appends onto a row that another one has made: walked once in the order of the text. Conditions: those of the theorem wp_region_rk. -/
namespace Go.Proofs.YtekogcjdaolcbaaGreatDoor
open Go Go.RowKit
def KpD (wr : World) (rb : Nat) (B : Value) (DD : Nat → Value → World → Prop) (w w' : World) : Prop := (∀ C, RdUp rb B C wr w → RdUp rb B C wr w') ∧ ∀ i v, DD i v w → DD i v w'
def rkR (wr : World) (rb : Nat) (B : Value) (n0 c j0 : Nat) (DD : Nat → Value → World → Prop) (j : Nat) (w w' : World) : Prop := if j = j0 then KpD wr rb B DD w w' else RdUp rb B (if j < n0 then c else 0) w w'
def rkK (wr : World) (rb : Nat) (B : Value) (DD : Nat → Value → World → Prop) (j : Nat) (w w' : World) : Prop := w.grownBy w' (some rb) ∨ KpD wr rb B DD w w'
section
variable {P : Program} {ops : Array Oper}
structure WK (P : Program) (ops : Array Oper) (wr : World) (rb : Nat) (B : Value) (n0 c M j0 : Nat) (DD : Nat → Value → World → Prop) (Z : Act → World → Prop) (l : List Oper) (k : Nat) (E : List Mk) (a : Act) : Prop where
  out : wpG P ops (rkR wr rb B n0 c j0 DD) (rkK wr rb B DD) (rC wr rb B M) Z l k E a
theorem wp_region_rk (n0 j0 rb : Nat) (B : Value) (c N0 : Nat) (DD : Nat → Value → World → Prop) {id : Nat} {Q : Exit → Act → World → Prop} {a : Act} {w : World} {l : List Oper} (hm : P.follows .mixedOrders = true) (hB : flB l.toArray n0 = true) (hr : Rdr rb B w N0)
    (h : WK P l.toArray w rb B n0 c (N0 + c * n0) j0 DD (fun a' w' => wpList P l.toArray (onlyN Q) (l.drop n0) a' w') (l.take n0) 0 [] a) : (Code.region id l.toArray true).wp P Q a w := by
  have T := flB_text hB
  have hle : n0 ≤ l.length := by simpa using T.le
  obtain ⟨D, hU, hT, hZ⟩ := wpF_text (R := rkR w rb B n0 c j0 DD) (Kc := rkK w rb B DD) (C := rC w rb B (N0 + c * n0)) (Z := fun a' w' => wpList P l.toArray (onlyN Q) (l.drop n0) a' w') (a0 := a) (n0 := n0) T (l.take n0) 0 [] a (fun _ => False) (fun _ => undef) (fun _ _ _ => False) (by simp [hle]) (fun j hj => by
    simp only [List.length_take] at hj
    simp [show j < n0 by omega]) ⟨(Desc.refl a (fun _ => undef)).congr (fun i => by simp) (fun _ h => h.elim), fun i hi => absurd hi (Nat.not_lt_zero _), fun m hm => (by cases hm), fun i hi => absurd hi (Nat.not_lt_zero _)⟩
    (fun i hi => absurd hi (Nat.not_lt_zero _)) (fun j o hj => absurd hj (Nat.not_lt_zero _)) h.out
  refine wp_region_any hm (wpAny_gf (R := rkR w rb B n0 c j0 DD) (Kc := rkK w rb B DD) (C := rC w rb B (N0 + c * n0)) (I := fun S w' => ∃ C, RdUp rb B C w w' ∧ C + c * unS n0 S ≤ c * n0) (fun S w' j hI hS => ?_) (fun S w1 w2 j hI hS hR => ?_) (fun j w' => ?_) (fun k j w1 w2 hne hR => ?_) (a0 := a) (Q := Q) (Q' := onlyN Q) T (fun _ _ h => h) (fun _ _ _ h => h) onlyN_out hU hT (by simpa using hZ) _ (List.range n0) _ a _ (fun _ => undef) (by simp; omega) (fun i hi _ => List.mem_range.2 hi) (fun i hi => ?_) (by simp) (fun i hi his => by
    have : i < l.length := by simpa using his
    simp [this]) (fun j o ho hj => ?_) ?_ ?_ ?_)
  · obtain ⟨C, h1, h2⟩ := hI
    exact ⟨h1.1, (h1.2 _ hr).mono (by omega)⟩
  · obtain ⟨C, h1, h2⟩ := hI
    unfold rkR at hR
    by_cases hj0 : j = j0
    · rw [if_pos hj0] at hR
      refine ⟨C, hR.1 C h1, ?_⟩
      by_cases hj : j < n0
      · have := unS_less hj hS
        rw [← this, Nat.mul_add, Nat.mul_one] at h2
        omega
      · rw [unS_same (by omega)]
        omega
    · rw [if_neg hj0] at hR
      refine ⟨_, h1.trans hR, ?_⟩
      by_cases hj : j < n0
      · rw [if_pos hj]
        have := unS_less hj hS
        rw [← this, Nat.mul_add, Nat.mul_one] at h2
        omega
      · rw [if_neg hj, unS_same (by omega)]
        omega
  · unfold rkR
    split
    · exact ⟨fun _ h => h, fun _ _ h => h⟩
    · exact RdUp.refl _ _ _ _
  · unfold rkR at hR
    split at hR
    · exact .inr hR
    · exact .inl hR.1
  · have hin := List.mem_range.1 hi
    have : i < l.length := by omega
    exact ⟨hin, by simp [this]⟩
  · rw [getD_replicate_false] at hj; cases hj
  · have hu := Up.drew (Up.refl w)
    have := unS_le n0 (fun i => ((Array.replicate l.toArray.size false).getD i false = true))
    refine ⟨0, RdUp.of hu, ?_⟩
    have := Nat.mul_le_mul_left c this
    omega
  · exact (Desc.refl a (fun _ => undef)).congr (fun i => by rw [getD_replicate_false]; simp) (fun _ h => h.elim)
  · intro i hi; rw [getD_replicate_false] at hi; cases hi
section
variable {wr : World} {rb : Nat} {B : Value} {n0 c M j0 : Nat} {DD : Nat → Value → World → Prop} {Z : Act → World → Prop} {o : Oper} {rest : List Oper} {k : Nat} {E : List Mk} {a : Act}
def stepK (P : Program) (ops : Array Oper) (wr : World) (rb : Nat) (B : Value) (n0 c M j0 : Nat) (DD : Nat → Value → World → Prop) (E : List Mk) (k : Nat) (o : Oper) (a : Act) (K : List Mk → Act → Prop) : Prop :=
  (∃ v, (∀ w, rC wr rb B M k w → fills (E.filter fun m => waitsB o m.1) a w (fun a' => gAt P (rkR wr rb B n0 c j0 DD k) o a' w (fun v' _ => v' = v))) ∧ K E (a.put o.dst v)) ∨
  (∃ D, guardFree ops k = true ∧ (∀ v w w', D v w → rkK wr rb B DD k w w' → D v w') ∧ (∀ w, rC wr rb B M k w → fills (E.filter fun m => waitsB o m.1) a w (fun a' => gAt P (rkR wr rb B n0 c j0 DD k) o a' w D)) ∧ K ((k, o.dst, D) :: E) a)
theorem wpK_step (h : ∀ K : List Mk → Act → Prop, (∀ E a, WK P ops wr rb B n0 c M j0 DD Z rest (k + 1) E a → K E a) → if Region.wanted o (yielded ops a.tmps) then stepK P ops wr rb B n0 c M j0 DD E k o a K else K E (a.put o.dst undef)) : WK P ops wr rb B n0 c M j0 DD Z (o :: rest) k E a := by
  have := h (fun E a => wpG P ops (rkR wr rb B n0 c j0 DD) (rkK wr rb B DD) (rC wr rb B M) Z rest (k + 1) E a) fun _ _ h => h.out
  refine ⟨?_⟩
  unfold wpG
  exact this
theorem rkR_ne (hk : (k == j0) = false) {w w' : World} (h : Up w w') : rkR wr rb B n0 c j0 DD k w w' := by
  have hk' : ¬ k = j0 := by simpa using hk
  unfold rkR
  rw [if_neg hk']
  exact RdUp.of h
theorem stepK_c {K : List Mk → Act → Prop} (hk : (k == j0) = false) (v : Value) (h1 : ∀ w, wr.grownBy w (some rb) → Rdr rb B w M → fills (E.filter fun m => waitsB o m.1) a w (fun a' => upAt P o a' w (fun v' _ => v' = v))) (h2 : K E (a.put o.dst v)) : stepK P ops wr rb B n0 c M j0 DD E k o a K :=
  .inl ⟨v, fun w hC => fills_mono (fun a' h => gAt_rd (fun w' h => rkR_ne hk h) (gAt_up h)) (h1 w hC.1 hC.2), h2⟩
theorem stepK_m {K : List Mk → Act → Prop} (hk : (k == j0) = false) (hg : guardFree ops k = true) (D : Value → World → Prop) (hD : ∀ v w w', D v w → rkK wr rb B DD k w w' → D v w')
    (h1 : ∀ w, wr.grownBy w (some rb) → Rdr rb B w M → fills (E.filter fun m => waitsB o m.1) a w (fun a' => upAt P o a' w D)) (h2 : K ((k, o.dst, D) :: E) a) : stepK P ops wr rb B n0 c M j0 DD E k o a K :=
  .inr ⟨D, hg, hD, fun w hC => fills_mono (fun a' h => gAt_rd (fun w' h => rkR_ne hk h) (gAt_up h)) (h1 w hC.1 hC.2), h2⟩
theorem stepK_at {K : List Mk → Act → Prop} (j : Nat) (hj : (k == j) = true) (hk : (k == j0) = false) (hg : guardFree ops k = true) (D : Value → World → Prop) (hD : ∀ v w w', D v w → rkK wr rb B DD k w w' → D v w')
    (h1 : ∀ w, wr.grownBy w (some rb) → Rdr rb B w M → fills (E.filter fun m => waitsB o m.1) a w (fun a' => upAt P o a' w D)) (h2 : K ((k, o.dst, D) :: E) a) : stepK P ops wr rb B n0 c M j0 DD E k o a K := stepK_m hk hg D hD h1 h2
theorem stepK_d {K : List Mk → Act → Prop} (hkj : (k == j0) = false) (hk : decide (k < n0) = true) (hg : guardFree ops k = true) (D : Value → World → Prop) (hD : ∀ v w w', D v w → rkK wr rb B DD k w w' → D v w')
    (h1 : ∀ w, wr.grownBy w (some rb) → Rdr rb B w M → fills (E.filter fun m => waitsB o m.1) a w (fun a' => gAt P (RdUp rb B c) o a' w D)) (h2 : K ((k, o.dst, D) :: E) a) : stepK P ops wr rb B n0 c M j0 DD E k o a K := by
  refine .inr ⟨D, hg, hD, fun w hC => ?_, h2⟩
  have e : rkR wr rb B n0 c j0 DD k = RdUp rb B c := by
    funext w w'; unfold rkR; rw [if_neg (by simpa using hkj), if_pos (of_decide_eq_true hk)]
  rw [e]
  exact h1 w hC.1 hC.2
theorem stepK_own {K : List Mk → Act → Prop} (hk : (k == j0) = true) (hg : guardFree ops k = true) (D : Value → World → Prop) (hD : ∀ v w w', D v w → rkK wr rb B DD k w w' → D v w')
    (h1 : ∀ w, wr.grownBy w (some rb) → Rdr rb B w M → fills (E.filter fun m => waitsB o m.1) a w (fun a' => gAt P (KpD wr rb B DD) o a' w D)) (h2 : K ((k, o.dst, D) :: E) a) : stepK P ops wr rb B n0 c M j0 DD E k o a K := by
  refine .inr ⟨D, hg, hD, fun w hC => ?_, h2⟩
  have e : rkR wr rb B n0 c j0 DD k = KpD wr rb B DD := by
    funext w w'; unfold rkR; rw [if_pos (by simpa using hk)]
  rw [e]
  exact h1 w hC.1 hC.2
theorem wpK_nil (h : ∀ w, wr.grownBy w (some rb) → Rdr rb B w M → fills E a w (fun a' => Z a' w)) : WK P ops wr rb B n0 c M j0 DD Z [] k E a := ⟨fun w hC => h w hC.1 hC.2⟩
theorem fills_same {w : World} {K : Act → Prop} (t : Tmp) : ∀ (L : List Mk) (a : Act), (∀ m ∈ L, m.2.1 ≠ some t) → (∀ a', a'.tmps.getD t undef = a.tmps.getD t undef → K a') → fills L a w K
  | [], a, _, h => h a rfl
  | (k, d, D) :: L, a, hL, h => fun v hv => fills_same t L (a.put d v) (fun m hm => hL m (List.mem_cons_of_mem _ hm)) (fun a' ha => h a' (ha.trans (by
      have hd : d ≠ some t := hL (k, d, D) (List.mem_cons_self ..)
      cases d with
      | none => rfl
      | some u =>
        have hu : u ≠ t := fun e => hd (by rw [e])
        simp [Act.put, Array.getD_eq_getD_getElem?, Array.getElem?_setIfInBounds, hu])))
theorem not_dst {E : List Mk} {p : Mk → Bool} {t : Tmp} (h : some t ∉ E.map (fun m => m.2.1)) : ∀ m ∈ E.filter p, m.2.1 ≠ some t := fun m hm e => h (List.mem_map.2 ⟨m, (List.mem_filter.1 hm).1, e⟩)
theorem fills_get {w : World} {K : Act → Prop} : ∀ (L : List Mk) (a : Act), (L.map (fun m => m.2.1)).Nodup → (∀ a', (∀ m ∈ L, ∀ t, m.2.1 = some t → t < a.tmps.size → m.2.2 (a'.tmps.getD t undef) w) → (∀ t, (∀ m ∈ L, m.2.1 ≠ some t) → a'.tmps.getD t undef = a.tmps.getD t undef) → K a') → fills L a w K
  | [], a, _, h => h a (fun m hm => by cases hm) (fun _ _ => rfl)
  | (k, d, D) :: L, a, hn, h => fun v hv => by
    simp only [List.map_cons, List.nodup_cons, List.mem_map, not_exists, not_and] at hn
    have hput : ∀ t, d ≠ some t → (a.put d v).tmps.getD t undef = a.tmps.getD t undef := fun t hd => by
      cases d with
      | none => rfl
      | some u =>
        have hu : u ≠ t := fun e => hd (by rw [e])
        simp [Act.put, Array.getD_eq_getD_getElem?, Array.getElem?_setIfInBounds, hu]
    have hsz : (a.put d v).tmps.size = a.tmps.size := by
      cases d with
      | none => rfl
      | some u => simp [Act.put]
    refine fills_get L (a.put d v) hn.2 (fun a' h1 h2 => h a' (fun m hm t ht hlt => ?_) (fun t ht => ?_))
    · rcases List.mem_cons.1 hm with rfl | hm
      · have ht : d = some t := ht
        subst ht
        have hne : ∀ m ∈ L, m.2.1 ≠ some t := fun m hm e => hn.1 m hm e
        rw [h2 t hne]
        have : (a.put (some t) v).tmps.getD t undef = v := by simp [Act.put, Array.getD_eq_getD_getElem?, Array.getElem?_setIfInBounds, hlt]
        rw [this]
        exact hv
      · exact h1 m hm t ht (by rw [hsz]; exact hlt)
    · rw [h2 t (fun m hm => ht m (List.mem_cons_of_mem _ hm)), hput t (ht (k, d, D) (List.mem_cons_self ..))]
theorem run_append_split (base : Nat) (t ty e : TypeId) (i : TypeInfo) (z : Value) (size bytes : Nat) (ht : P.underlying t = some (.slice e)) (hi : P.info? e = some i) (hz : i.zero = some z)
    (hsize : i.size = size) (hby : i.bytes = bytes) (hzs : z.cells.size = size) (hsz : 0 < size)
    (w : World) (v : Value) (n : Nat) (xs : List Value) (hown : w.ownsRow base e size v n xs)
    (ad : Addr) (m c : Nat) (news : List Value) (hl : news.length = m * size) (hnews : ∀ j u, news[j]? = some u → w.cell? (ad.add j) = some u) (h1 : ∀ u ∈ news, u.oneCell' = true)
    (h63 : n + m ≤ maxLen) (hbytes : (n + m) * bytes ≤ 140737488355328) {v' : Value} {w' : World} (hr : (Builtin.append_ #[t, t] ty #[v, .slice (some ad) m c]).run P w = .ok v' w') :
    Up w w' ∨ ∃ g cap, v = .slice (some ⟨g, 0, none⟩) n cap ∧ v' = .slice (some ⟨g, 0, none⟩) (n + m) cap := by
  subst hsize hby
  rcases hown.2 with ⟨rfl, rfl⟩ | ⟨g, cap, cur, rfl, hbg, hg, hnc, hcm, hcs, htake⟩
  · have hx : xs = [] := List.eq_nil_of_length_eq_zero (by simpa using hown.1)
    subst hx
    obtain ⟨v2, w2, hr2, h2, h3, -⟩ := run_append_own (P := P) w w.heap.size t ty e i z i.size i.bytes ht hi hz rfl rfl hzs hsz (.slice none 0 0) 0 [] (World.ownsRow_nil _ _ _ _) ad m c news hl hnews h1 h63 hbytes (Nat.le_refl _)
    rw [hr] at hr2
    simp only [Result.ok.injEq] at hr2
    obtain ⟨rfl, rfl⟩ := hr2
    exact .inl (Up.grown (Up.refl w) h3 (fun k hk => by cases hk))
  · by_cases hroom : n + m ≤ cap
    · have hfit : n * i.size + news.length ≤ cur.size := by rw [hl, hcs, ← Nat.add_mul]; exact Nat.mul_le_mul_right _ hroom
      have hr2 := run_append_room (P := P) w t ty e i ht hi g n cap cur hg ad m c news hl hnews h1 hroom hfit
      rw [hr] at hr2
      simp only [Result.ok.injEq] at hr2
      obtain ⟨rfl, -⟩ := hr2
      exact .inr ⟨g, cap, rfl, rfl⟩
    · have hr2 := run_append_grow (P := P) w t ty e i z ht hi hz ⟨g, 0, none⟩ n cap xs hown.1 (hown.cells (g := g) rfl) ad m c news hl hnews (by omega) (by unfold maxLen at h63; omega) (growslice_fits (by omega) hbytes)
      rw [hr] at hr2
      simp only [Result.ok.injEq] at hr2
      obtain ⟨-, rfl⟩ := hr2
      exact .inl (((Up.refl _).drew).alloc _)
theorem ownsRow_inplace {w w' : World} {base base2 : Nat} {e : TypeId} {size n m cap : Nat} {g : Nat} {xs news : List Value} (hsz : 0 < size) (hown : w.ownsRow base e size (.slice (some ⟨g, 0, none⟩) n cap) n xs) (hown' : w'.ownsRow base e size (.slice (some ⟨g, 0, none⟩) (n + m) cap) (n + m) (xs ++ news)) (hg : w.grownBy w' (some g))
    {u : Value} {p : Nat} {ys : List Value} (hu : w.ownsRow base2 e size u p ys) : (p ≤ n → w'.ownsRow base2 e size u p ys) ∧ (p = n + m → w'.ownsRow base2 e size u p ys ∨ w'.ownsRow base2 e size u p (xs ++ news)) := by
  by_cases hb : u.ownBlock = some g
  · obtain ⟨hxl, hx⟩ := hown
    obtain ⟨hul, hx2⟩ := hu
    rcases hx2 with ⟨rfl, -⟩ | ⟨g2, c2, cur2, rfl, hbg2, hg2, hnc2, hcm2, hcs2, ht2⟩
    · cases hb
    · simp only [Value.ownBlock, Option.some.injEq] at hb
      subst hb
      rcases hx with ⟨h, -⟩ | ⟨g3, c3, cur3, h3, hbg3, hg3, hnc3, hcm3, hcs3, ht3⟩
      · cases h
      · simp only [Value.slice.injEq, Option.some.injEq, Addr.mk.injEq, and_true] at h3
        obtain ⟨rfl, -, rfl⟩ := h3
        rw [hg2] at hg3
        simp only [Option.some.injEq, Obj.cells.injEq, and_true] at hg3
        obtain ⟨rfl, -⟩ := hg3
        have hcc : c2 = cap := by
          have := hcs2.symm.trans hcs3
          exact Nat.eq_of_mul_eq_mul_right hsz this
        subst hcc
        obtain ⟨hxl', hx'⟩ := hown'
        rcases hx' with ⟨h, -⟩ | ⟨g4, c4, cur4, h4, hbg4, hg4, hnc4, hcm4, hcs4, ht4⟩
        · cases h
        · simp only [Value.slice.injEq, Option.some.injEq, Addr.mk.injEq, and_true] at h4
          obtain ⟨rfl, -, rfl⟩ := h4
          refine ⟨fun hp => ⟨hul, .inr ⟨g2, c2, cur4, rfl, hbg2, hg4, hnc2, hcm2, hcs4, ?_⟩⟩, fun hp => .inr ⟨by rw [hp]; exact hxl', .inr ⟨g2, c2, cur4, rfl, hbg2, hg4, hnc2, hcm2, hcs4, by rw [hp]; exact ht4⟩⟩⟩
          have hpm : p * size ≤ n * size := Nat.mul_le_mul_right _ hp
          have hpm2 : p * size ≤ (n + m) * size := Nat.mul_le_mul_right _ (by omega)
          have e1 : cur4.toList.take (p * size) = (xs ++ news).take (p * size) := by rw [← ht4, List.take_take]; congr 1; omega
          rw [e1, List.take_append_of_le_length (by omega), ← ht3, List.take_take, ← ht2]
          congr 1
          omega
  · have := hu.kept hg (by
      cases hv : u.ownBlock with
      | none => exact .inl rfl
      | some y => exact .inr fun e => hb (by rw [hv, e]))
    exact ⟨fun _ => this, fun _ => .inl this⟩
theorem ownsRow_otype {w w' : World} {base base2 : Nat} {e e2 : TypeId} {size size2 n cap : Nat} {g : Nat} {xs : List Value} (hne : e2 ≠ e) (hown : w.ownsRow base e size (.slice (some ⟨g, 0, none⟩) n cap) n xs) (hg : w.grownBy w' (some g))
    {u : Value} {p : Nat} {ys : List Value} (hu : w.ownsRow base2 e2 size2 u p ys) : w'.ownsRow base2 e2 size2 u p ys := by
  have hno : u.ownBlock ≠ some g := fun hv => by
    rcases hown.2 with ⟨h, -⟩ | ⟨g3, c3, cur3, h3, hbg3, hg3, -⟩
    · cases h
    · simp only [Value.slice.injEq, Option.some.injEq, Addr.mk.injEq, and_true] at h3
      obtain ⟨rfl, -, rfl⟩ := h3
      rcases hu.2 with ⟨rfl, -⟩ | ⟨g2, c2, cur2, rfl, hbg2, hg2, -⟩
      · cases hv
      · simp only [Value.ownBlock, Option.some.injEq] at hv
        subst hv
        rw [hg2] at hg3
        simp only [Option.some.injEq, Obj.cells.injEq, and_true] at hg3
        exact hne hg3.2
  exact hu.kept hg (by
    cases hv : u.ownBlock with
    | none => exact .inl rfl
    | some y => exact .inr fun e => hno (by rw [hv, e]))
end
end
def DDp (base : Nat) (ps : List PairD) (Y : PairD → Prop) (L : List Value) (i : Nat) (v : Value) (w : World) : Prop :=
  match i with
  | 0 => MtP base v w
  | 1 => w.ownsRow base 3 1 v L.length L
  | 3 => ownPr w base v ps
  | 7 => ∃ q, Y q ∧ w.ownsRow base 133 2 v 1 (prC q)
  | 8 => ∃ q, Y q ∧ ownPr w base v (ps ++ [q])
  | _ => True
theorem ddp_grown {rb base : Nat} {ps : List PairD} {Y : PairD → Prop} {L : List Value} (hb : rb < base) (i : Nat) (v : Value) (w w' : World) (h : DDp base ps Y L i v w) (hg : w.grownBy w' (some rb)) : DDp base ps Y L i v w' := by
  unfold DDp at *
  split at h
  · obtain ⟨g, h1, h2⟩ := h
    exact ⟨g, h1, own_rd h2 hb hg⟩
  · exact own_rd h hb hg
  · exact own_rd h hb hg
  · obtain ⟨q, h1, h2⟩ := h
    exact ⟨q, h1, own_rd h2 hb hg⟩
  · obtain ⟨q, h1, h2⟩ := h
    exact ⟨q, h1, own_rd h2 hb hg⟩
  · trivial
theorem ddp_closed {wr : World} {rb base : Nat} {B : Value} {ps : List PairD} {Y : PairD → Prop} {L : List Value} (hb : rb < base) (i k : Nat) : ∀ v w w', DDp base ps Y L i v w → rkK wr rb B (DDp base ps Y L) k w w' → DDp base ps Y L i v w' := fun v w w' h hk => hk.elim (ddp_grown hb i v w w' h) (fun hp => hp.2 i v h)
theorem ddp_pair {base : Nat} {ps : List PairD} {Y : PairD → Prop} {L : List Value} {w : World} (q : PairD) (hq : Y q) (hb : base ≤ w.heap.size) : DDp base ps Y L 7 (.slice (some ⟨w.heap.size, 0, none⟩) 1 1) (w.alloc (.cells #[.int .i64 q.pre, .int .i64 q.byt] 133)) :=
  ⟨q, hq, rfl, .inr ⟨w.heap.size, 1, #[.int .i64 q.pre, .int .i64 q.byt], rfl, hb, (MapKept.heap_alloc w _).1, Nat.le_refl _, by unfold maxLen; omega, rfl, rfl⟩⟩
theorem ddp_ints {base : Nat} {ps : List PairD} {Y : PairD → Prop} {w : World} (x y : Int) (hb : base ≤ w.heap.size) : DDp base ps Y [.int .i64 x, .int .i64 y] 1 (.slice (some ⟨w.heap.size, 0, none⟩) 2 2) (w.alloc (.cells #[.int .i64 x, .int .i64 y] 3)) :=
  ⟨rfl, .inr ⟨w.heap.size, 2, #[.int .i64 x, .int .i64 y], rfl, hb, (MapKept.heap_alloc w _).1, Nat.le_refl _, by unfold maxLen; omega, rfl, rfl⟩⟩
theorem ddp_rd {rb base : Nat} {ps : List PairD} {Y : PairD → Prop} {w : World} {v : Value} {x y : Int} (h : DDp base ps Y [.int .i64 x, .int .i64 y] 1 v w) (hb : rb < base) : RdInts rb w v [x, y] := by
  have h : w.ownsRow base 3 1 v 2 [.int .i64 x, .int .i64 y] := h
  rcases h.2 with ⟨-, h'⟩ | ⟨g, cap, cur, rfl, hbg, hg, hnc, hcm, -⟩
  · cases h'
  · have hc := h.cells (g := g) rfl
    refine ⟨g, 0, cap, rfl, hnc, hcm, (Array.getElem?_eq_some_iff.1 hg).1, by omega, fun i z hz => ?_⟩
    have := hc i (.int .i64 z) (by
      match i, hz with
      | 0, hz => simpa using hz
      | 1, hz => simpa using hz)
    have hadd : (⟨g, 0, none⟩ : Addr).add i = ⟨g, i, none⟩ := by unfold Addr.add; split <;> simp_all
    rw [hadd] at this
    rw [Nat.zero_add]
    exact this
theorem gAt_append_keep {o : Oper} {a : Act} {wr w : World} {rb : Nat} {B : Value} {Y : PairD → Prop} {L : List Value} (s x : Operand) (ho : o.op = .call { callee := .builtin .append, args := #[s, x], argTypes := #[25, 25] })
    (v u : Value) (ps : List PairD) (hs : a.eval s = v) (hown : DDp wr.heap.size ps Y L 3 v w) (hx : a.eval x = u) (hu : DDp wr.heap.size ps Y L 7 u w) (hl : ps.length ≤ 1048576) (hrb : rb < wr.heap.size) (hbase : wr.heap.size ≤ w.heap.size) :
    gAt Tryz.prog (KpD wr rb B (DDp wr.heap.size ps Y L)) o a w (DDp wr.heap.size ps Y L 8) := by
  obtain ⟨i0, hi, hz0, hz1, hz2⟩ := info_parts infoPair
  obtain ⟨q, hq, hqo⟩ := hu
  have hown : ownPr w wr.heap.size v ps := hown
  obtain ⟨ax, cx, rfl⟩ := ownsRow_shape hqo
  rcases hqo.2 with ⟨h, h'⟩ | ⟨g0, c0, cur0, h0, hbg0, hg0, hnc0, hcm0, hcs0, ht0⟩
  · cases h'
  simp only [Value.slice.injEq] at h0
  obtain ⟨rfl, -, rfl⟩ := h0
  have hnews : ∀ j z, (prC q)[j]? = some z → w.cell? ((⟨g0, 0, none⟩ : Addr).add j) = some z := by
    intro j z hz
    exact hqo.cells (g := g0) rfl j z hz
  obtain ⟨v', w', hr, h2, h3, h4⟩ := run_append_own (P := Tryz.prog) w wr.heap.size 25 o.type 133 i0 (.agg #[.int .i64 0, .int .i64 0]) 2 16 Tryz.underlying25 hi hz0 hz1 hz2 rfl (by decide) v ps.length (cellsPr ps) hown ⟨g0, 0, none⟩ 1 cx (prC q) rfl hnews (prC_one q) (by unfold maxLen; omega) (by omega) hbase
  have hsp := run_append_split (P := Tryz.prog) wr.heap.size 25 o.type 133 i0 (.agg #[.int .i64 0, .int .i64 0]) 2 16 Tryz.underlying25 hi hz0 hz1 hz2 rfl (by decide) w v ps.length (cellsPr ps) hown ⟨g0, 0, none⟩ 1 cx (prC q) rfl hnews (prC_one q) (by unfold maxLen; omega) (by omega) hr
  unfold gAt execOp
  simp only [ho, resolve, invoke, builtin, Sem.run_bind, Sem.run_pure, Result.andThen_ok, List.map_toArray, List.map_cons, List.map_nil, hs, hx, hr]
  have h8 : ownPr w' wr.heap.size v' (ps ++ [q]) := by unfold ownPr; rw [cellsPr_snoc, List.length_append]; exact h2
  refine ⟨⟨fun C hC => ?_, fun i z hz => ?_⟩, q, hq, h8⟩
  · rcases hsp with hup | ⟨g, cap, rfl, rfl⟩
    · exact hC.ups hup
    · exact hC.gr h3 (fun k hk => row_ge hown k hk)
  · rcases hsp with hup | ⟨g, cap, rfl, rfl⟩
    · exact ddp_grown hrb i z w w' hz (up_grownBy hup _)
    · have hin := fun {base2 : Nat} {u : Value} {p : Nat} {ys : List Value} (hu : w.ownsRow base2 133 2 u p ys) => ownsRow_inplace (by decide) hown h2 h3 hu
      unfold DDp at hz ⊢
      split at hz
      · obtain ⟨g9, h1, h2⟩ := hz
        exact ⟨g9, h1, (hin h2).1 (Nat.zero_le _)⟩
      · exact ownsRow_otype (by decide) hown h3 hz
      · exact (hin hz).1 (Nat.le_refl _)
      · obtain ⟨q', hq', hz⟩ := hz
        rcases Nat.eq_zero_or_pos ps.length with h0 | h0
        · have hp0 : ps = [] := List.eq_nil_of_length_eq_zero h0
          subst hp0
          rcases (hin hz).2 rfl with h | h
          · exact ⟨q', hq', h⟩
          · exact ⟨q, hq, h⟩
        · exact ⟨q', hq', (hin hz).1 h0⟩
      · obtain ⟨q', hq', hz⟩ := hz
        unfold ownPr at hz
        rcases (hin hz).2 (by simp) with h | h
        · exact ⟨q', hq', h⟩
        · refine ⟨q, hq, ?_⟩
          unfold ownPr
          rw [cellsPr_snoc, List.length_append]
          rw [List.length_append] at h
          exact h
      · trivial
end Go.Proofs.YtekogcjdaolcbaaGreatDoor

/- Walk of the reference's l2Bad. Conditions: the reader is one (Rdr), its place is bounded; what is known is valid and can be read. -/
namespace Go.Proofs.YtekogcjdaolcbaaGreatDoor
open Go Go.RowKit
def BadK (k : KnD) : Prop := (-9223372036854775808 ≤ k.set.lit ∧ k.set.lit ≤ 9223372036854775807) ∧ k.ps.length ≤ 1100
def BadPost (rb : Nat) (B : Value) (v : Value) (ps : List PairD) (w : World) (e : Ending) (w' : World) : Prop := ∃ k' v', e = .returned (kV k' v') ∧ BadK k' ∧ ((v' = v ∧ k'.ps = ps) ∨ RdP w.heap.size w' v' k'.ps) ∧ RdUp rb B 40 w w'
theorem badK_of {k : KnD} (hk : k.Ok) : BadK k := by
  have h1 := (setOk_bd hk.set).2.1
  have h2 := hk.nums
  exact ⟨by omega, by omega⟩
set_option maxRecDepth 100000 in
set_option maxHeartbeats 8000000 in
theorem l2BadB_any (k : KnD) (v : Value) (rb : Nat) (B : Value) (w : World) (N : Nat) (h : Rdr rb B w N) (hN : N ≤ 900000000) (hk : k.Ok) (hr : RdP (rb + 1) w v k.ps) :
    Calls Tryz.prog 74  #[.pointer (some ⟨rb, 0, none⟩), kV k v] w (BadPost rb B v k.ps w) := by
  obtain ⟨p, hp, h, HM⟩ := h.least
  have hlt := h.lt
  have HR := Lib.hid h
  have hne0 : ¬ w.heap.size = rb := by omega
  have hne1 : ¬ w.heap.size + 1 = rb := by omega
  have hU := RdUp.refl rb B 0 w
  have e1 : w.heap.size < w.heap.size + 1 := by omega
  have e2 : w.heap.size < w.heap.size + 1 + 1 := by omega
  have e3 : w.heap.size + 1 < w.heap.size + 1 + 1 := by omega
  have hrt := fun (wq : World) (hg : w.grownBy wq (some rb)) => hr.gr hg (Nat.lt_succ_self rb)
  have hbk := badK_of hk
  have hpl := hk.nums.2.2.2.1
  have hcl := hk.nums.2.1
  have hnx : (k.next : Int) ≤ 1024 := by have := KnD.next_bd hk; omega
  have cX := fun wx hr => l2Next_any k v (rb + 1) wx hk hr
  have cK := fun wx => l1Clear_any k.set wx hk.set
  have cE := fun wx => l1End_any k.set wx hk.set
  have cB := fun w N h hN => l1BadB_any rb B k.set w N h hN hk.set
  obtain ⟨a, cap, rfl, hc1, hc2, hc3, -⟩ := id hr
  unfold maxLen at hc2
  have hKB : KnAt w.heap.size k (.slice a k.ps.length cap) ((w.alloc (.cells #[.int .i64 k.set.ord, .int .i64 k.set.lit, .int .i64 k.set.most, .slice a k.ps.length cap, .int .i64 k.base, .int .i64 k.last] 27)).alloc (.cells #[.int .i64 0, .int .i64 0, .int .i64 0, .slice none 0 0, .int .i64 0, .int .i64 0] 27)) := box_up ((Up.refl _).alloc _) (MapKept.heap_alloc w _).1
  have hRB : KnAt (w.heap.size + 1) kn0 (.slice none 0 0) ((w.alloc (.cells #[.int .i64 k.set.ord, .int .i64 k.set.lit, .int .i64 k.set.most, .slice a k.ps.length cap, .int .i64 k.base, .int .i64 k.last] 27)).alloc (.cells #[.int .i64 0, .int .i64 0, .int .i64 0, .slice none 0 0, .int .i64 0, .int .i64 0] 27)) := alloc2 w _ _
  simp only [kV, setV] at *
  clear hk hr
  go_enter Tryz.func74, Tryz.ntmps74
  go_wp2_with (first | (go_at_call 31; ((with_reducible refine (pick_at (n := 40) HR.out hU (by intro c hU; (repeat (first | with_reducible assumption | refine RdUp.ups ?_ (by with_reducible assumption) | with_reducible refine RdUp.set ?_ (by first | exact Nat.le_refl _ | (simp only []; omega) | (simp; omega)) _ | with_reducible refine RdUp.alloc ?_ _ | with_reducible refine RdUp.drew ?_ | with_reducible exact RdUp.of (Up.refl _)))) (by omega)).mono ?_); rintro e w' ⟨x, rfl, x0, x1, hU, U⟩; have D := gcell U.1; have Z := U.1.size; (try simp at Z); (try have Y0 : w.heap.size < w'.heap.size := (by omega)); (try have Y1 : w.heap.size + 1 < w'.heap.size := (by omega)); (try have Y2 : w.heap.size + 1 + 1 < w'.heap.size := (by omega)); (try have X0 : w.heap.size < w'.heap.size + 1 := (by omega)); (try have X1 : w.heap.size + 1 < w'.heap.size + 1 := (by omega)); (try have X2 : w.heap.size + 1 + 1 < w'.heap.size + 1 := (by omega)); ((have hKB := gbox U.1 hKB (by simp; omega); have hRB := gbox U.1 hRB (by simp; omega); obtain ⟨hb1, q0, q1, q2, q3, q4, q5⟩ := KnAt.cells hKB; obtain ⟨hb0, s0, s1, s2, s3, s4, s5⟩ := KnAt.cells hRB; have hfr := box_free hRB; have hfk := box_free hKB)))) | ((go_at_call 130; ((with_reducible refine (draw_at (cB) HR.out hU (by intro c hU; (repeat (first | with_reducible assumption | refine RdUp.ups ?_ (by with_reducible assumption) | with_reducible refine RdUp.set ?_ (by first | exact Nat.le_refl _ | (simp only []; omega) | (simp; omega)) _ | with_reducible refine RdUp.alloc ?_ _ | with_reducible refine RdUp.drew ?_ | with_reducible exact RdUp.of (Up.refl _)))) (by omega)).mono ?_); rintro e w' ⟨v, rfl, ⟨s9, rfl, hs9⟩, hU, U⟩; have D := gcell U.1; have Z := U.1.size; (try simp at Z); (try have Y0 : w.heap.size < w'.heap.size := (by omega)); (try have Y1 : w.heap.size + 1 < w'.heap.size := (by omega)); (try have Y2 : w.heap.size + 1 + 1 < w'.heap.size := (by omega)); (try have X0 : w.heap.size < w'.heap.size + 1 := (by omega)); (try have X1 : w.heap.size + 1 < w'.heap.size + 1 := (by omega)); (try have X2 : w.heap.size + 1 + 1 < w'.heap.size + 1 := (by omega)))); simp only [setV]; (have hKB := gbox U.1 hKB (by simp; omega); have hRB := gbox U.1 hRB (by simp; omega); clear q0 q1 q2 q3 q4 q5 hb1 s0 s1 s2 s3 s4 s5 hb0 hfr hfk; obtain ⟨hb1, q0, q1, q2, q3, q4, q5⟩ := KnAt.cells hKB; obtain ⟨hb0, s0, s1, s2, s3, s4, s5⟩ := KnAt.cells hRB; have hfr := box_free hRB; have hfk := box_free hKB)) | (go_at_call 85; ((with_reducible refine (num_at ([-1, (k.ps.length : Int) + 1, 9223372036854775807]) HR.out hU (by intro c hU; (repeat (first | with_reducible assumption | refine RdUp.ups ?_ (by with_reducible assumption) | with_reducible refine RdUp.set ?_ (by first | exact Nat.le_refl _ | (simp only []; omega) | (simp; omega)) _ | with_reducible refine RdUp.alloc ?_ _ | with_reducible refine RdUp.drew ?_ | with_reducible exact RdUp.of (Up.refl _)))) (by omega) (by first | rfl | (simp; done) | fail) (by first | rfl | (simp; done) | fail) (by first | rfl | (simp; done) | fail) (by simp) (by simp) (by first | rfl | (simp; done) | fail)).mono ?_); rintro e w' ⟨i, rfl, hi, hU, U⟩; have D := gcell U.1; have Z := U.1.size; (try simp at Z); (try have Y0 : w.heap.size < w'.heap.size := (by omega)); (try have Y1 : w.heap.size + 1 < w'.heap.size := (by omega)); (try have Y2 : w.heap.size + 1 + 1 < w'.heap.size := (by omega)); (try have X0 : w.heap.size < w'.heap.size + 1 := (by omega)); (try have X1 : w.heap.size + 1 < w'.heap.size + 1 := (by omega)); (try have X2 : w.heap.size + 1 + 1 < w'.heap.size + 1 := (by omega)); ((have hKB := gbox U.1 (box_up ((Up.refl _).alloc _) hKB) (by simp; omega); have hRB := gbox U.1 (box_up ((Up.refl _).alloc _) hRB) (by simp; omega); clear q0 q1 q2 q3 q4 q5 hb1 s0 s1 s2 s3 s4 s5 hb0 hfr hfk; obtain ⟨hb1, q0, q1, q2, q3, q4, q5⟩ := KnAt.cells hKB; obtain ⟨hb0, s0, s1, s2, s3, s4, s5⟩ := KnAt.cells hRB; have hfr := box_free hRB; have hfk := box_free hKB)))))
  all_goals first
    | (refine bodyPost_ret (v := _) (by simp [results, Tryz.results74, go_sem, hb0, s0, s1, s2, s3, s4, s5]; rfl) rfl ?_
       first
         | (refine ⟨k, .slice a k.ps.length cap, rfl, hbk, .inl ⟨rfl, rfl⟩, ?_⟩ <;> exact RdUp.fin hU (by intro c hU; (repeat (first | with_reducible assumption | refine RdUp.ups ?_ (by with_reducible assumption) | with_reducible refine RdUp.set ?_ (by first | exact Nat.le_refl _ | (simp only []; omega) | (simp; omega)) _ | with_reducible refine RdUp.alloc ?_ _ | with_reducible refine RdUp.drew ?_ | with_reducible exact RdUp.of (Up.refl _)))) (by omega))
         | (refine ⟨⟨s9, k.ps, k.base, k.last⟩, .slice a k.ps.length cap, rfl, ⟨hs9, hbk.2⟩, .inl ⟨rfl, rfl⟩, ?_⟩ <;> exact RdUp.fin hU (by intro c hU; (repeat (first | with_reducible assumption | refine RdUp.ups ?_ (by with_reducible assumption) | with_reducible refine RdUp.set ?_ (by first | exact Nat.le_refl _ | (simp only []; omega) | (simp; omega)) _ | with_reducible refine RdUp.alloc ?_ _ | with_reducible refine RdUp.drew ?_ | with_reducible exact RdUp.of (Up.refl _)))) (by omega))
         | (refine ⟨⟨k.set, k.ps, i, k.last⟩, .slice a k.ps.length cap, rfl, hbk, .inl ⟨rfl, rfl⟩, ?_⟩ <;> exact RdUp.fin hU (by intro c hU; (repeat (first | with_reducible assumption | refine RdUp.ups ?_ (by with_reducible assumption) | with_reducible refine RdUp.set ?_ (by first | exact Nat.le_refl _ | (simp only []; omega) | (simp; omega)) _ | with_reducible refine RdUp.alloc ?_ _ | with_reducible refine RdUp.drew ?_ | with_reducible exact RdUp.of (Up.refl _)))) (by omega)))
    | skip
  · skip
    have hr2 := hU.2 _ h
    refine wp_region_rd 12 rb B 1 _ (by kernel_rfl) (by kernel_rfl) hr2 ?_
    simp only [List.take, List.drop]
    repeat (refine wpR_step (fun K hK => ?_); go_simp; (try simp only [↓IntWalk.iteOmega]); first
      | (refine hK _ _ ?_; clear hK K)
      | (refine stepR_c ?_ ?_ ?_
         rotate_left
         · intro wq hwq hrq; (have hbq := gcell hwq; (repeat (first | refine fills_no (by rfl) ?_ | (refine fills_yes (by rfl) (fun vq hvq => ?_); (try ((with_reducible have hvi : RdInts rb wq vq [-1, -2, ((clr k.set : Nat) : Int), ((clr k.set : Nat) : Int) + 1, ((k.next : Nat) : Int), 9223372036854775807] := hvq)))))); simp only [List.filter_nil, fills]; unfold upAt; (try ((obtain ⟨-, r0, r1, r2, r3, r4, r5⟩ := KnAt.cells (gbox hwq hKB (by simp; omega))))); go_simp; (try go_bits); (try simp only [↓IntWalk.iteOmega]); (try (rw [dif_pos (by omega)]; go_simp; try go_bits)); first | exact upOut_value | (apply upOut_call; (go_at_call 86; exact cK _)) | (apply upOut_eq; (go_at_call 86; exact cK _)) | (apply upOut_call; (go_at_call 131; exact cE _)) | (apply upOut_eq; (go_at_call 131; exact cE _)) | (apply upOut_call; (go_at_call 108; exact cX _ (hrt _ (grownBy_trans hU.1 hwq)))) | (apply upOut_eq; (go_at_call 108; exact cX _ (hrt _ (grownBy_trans hU.1 hwq)))))
         go_simp; refine hK _ _ ?_; clear hK K)
      | (refine stepR_m (by kernel_rfl) ?_ ?_ (fun wq hwq hrq => ?_) ?_
         rotate_left 2
         · (have hbq := gcell hwq; (repeat (first | refine fills_no (by rfl) ?_ | (refine fills_yes (by rfl) (fun vq hvq => ?_); (try ((with_reducible have hvi : RdInts rb wq vq [-1, -2, ((clr k.set : Nat) : Int), ((clr k.set : Nat) : Int) + 1, ((k.next : Nat) : Int), 9223372036854775807] := hvq)))))); simp only [List.filter_nil, fills]; unfold upAt; (try ((obtain ⟨-, r0, r1, r2, r3, r4, r5⟩ := KnAt.cells (gbox hwq hKB (by simp; omega))))); go_simp; (try go_bits); (try simp only [↓IntWalk.iteOmega]); (try (rw [dif_pos (by omega)]; go_simp; try go_bits)); first | ((with_reducible refine upOut_D ((fun v w => RdInts rb w v [-1, -2, ((clr k.set : Nat) : Int), ((clr k.set : Nat) : Int) + 1, ((k.next : Nat) : Int), 9223372036854775807])) ?_); (((with_reducible refine upOut_make ((Up.refl _).alloc _) ?_); exact rdInts_new [-1, -2, ((clr k.set : Nat) : Int), ((clr k.set : Nat) : Int) + 1, ((k.next : Nat) : Int), 9223372036854775807] rfl (by simp) rfl rfl hrq.lt))))
         rotate_left
         · (first | exact (fun _ _ _ h _ => h) | exact ((fun v w w' h hg => RdInts.gr h hg)))
         refine hK _ _ ?_; clear hK K)
      | (refine stepR_d (by rfl) (by kernel_rfl) (fun v _ => oneOf [-1, -2, ((clr k.set : Nat) : Int), ((clr k.set : Nat) : Int) + 1, ((k.next : Nat) : Int), 9223372036854775807] v) (fun _ _ _ h _ => h) (fun wq hwq hrq => ?_) ?_
         · (have hbq := gcell hwq; (repeat (first | refine fills_no (by rfl) ?_ | (refine fills_yes (by rfl) (fun vq hvq => ?_); (try ((with_reducible have hvi : RdInts rb wq vq [-1, -2, ((clr k.set : Nat) : Int), ((clr k.set : Nat) : Int) + 1, ((k.next : Nat) : Int), 9223372036854775807] := hvq)))))); simp only [List.filter_nil, fills]; unfold gAt; (try ((obtain ⟨-, r0, r1, r2, r3, r4, r5⟩ := KnAt.cells (gbox hwq hKB (by simp; omega))))); go_simp; (try go_bits); (try simp only [↓IntWalk.iteOmega]); (try (rw [dif_pos (by omega)]; go_simp; try go_bits)); (with_reducible refine gOut_drawn ((num_any rb B [-1, -2, ((clr k.set : Nat) : Int), ((clr k.set : Nat) : Int) + 1, ((k.next : Nat) : Int), 9223372036854775807] _ wq _ hrq (by omega) hvi (by simp))) ?_); decide)
         refine hK _ _ ?_; clear hK K))
    refine wpR_nil (fun wq hwq hrq => ?_)
    simp only [fills]
    rintro u ⟨i, rfl, hi⟩
    intros
    have hU := RdUp.made (C := 40) HM (grownBy_trans hU.1 hwq) hrq (by omega)
    have hKB := gbox hwq hKB (by simp; omega)
    have hRB := gbox hwq hRB (by simp; omega)
    clear q0 q1 q2 q3 q4 q5 hb1 s0 s1 s2 s3 s4 s5 hb0 hfr hfk
    obtain ⟨hb1, q0, q1, q2, q3, q4, q5⟩ := KnAt.cells hKB; obtain ⟨hb0, s0, s1, s2, s3, s4, s5⟩ := KnAt.cells hRB; have hfr := box_free hRB; have hfk := box_free hKB
    go_wp2
    rw [onlyN_normal]
    go_wp2
    refine bodyPost_ret (v := _) (by simp [results, Tryz.results74, go_sem, hb0, s0, s1, s2, s3, s4, s5]; rfl) rfl ?_
    refine ⟨⟨k.set, k.ps, k.base, i⟩, .slice a k.ps.length cap, rfl, hbk, .inl ⟨rfl, rfl⟩, ?_⟩ <;> exact RdUp.fin hU (by intro c hU; (repeat (first | with_reducible assumption | refine RdUp.ups ?_ (by with_reducible assumption) | with_reducible refine RdUp.set ?_ (by first | exact Nat.le_refl _ | (simp only []; omega) | (simp; omega)) _ | with_reducible refine RdUp.alloc ?_ _ | with_reducible refine RdUp.drew ?_ | with_reducible exact RdUp.of (Up.refl _)))) (by omega)
  · skip
    have hr2 := hU.2 _ h
    have hbw : w.heap.size + 1 < w'.heap.size := by omega
    have hrw : rb < w'.heap.size := by omega
    refine wp_region_rk 10 8 rb B 1 _ (DDp w'.heap.size k.ps (fun _ => True) []) (by kernel_rfl) (by kernel_rfl) hr2 ?_
    simp only [List.take, List.drop]
    iterate 9 (refine wpK_step (fun K hK => ?_); go_simp; (try simp only [↓IntWalk.iteOmega]); first
      | (refine hK _ _ ?_; clear hK K)
      | (refine stepK_own (by rfl) (by kernel_rfl) (DDp w'.heap.size k.ps (fun _ => True) [] 8) (ddp_closed hrw 8 _) (fun wq hwq hrq => ?_) ?_
         · ((repeat (first | refine fills_no (by rfl) ?_ | (refine fills_yes (by rfl) (fun vq hvq => ?_); (try ((first | (with_reducible have h0q : DDp w'.heap.size k.ps (fun _ => True) [] 0 vq wq := hvq) | (with_reducible have h3q : DDp w'.heap.size k.ps (fun _ => True) [] 3 vq wq := hvq) | (with_reducible have h7q : DDp w'.heap.size k.ps (fun _ => True) [] 7 vq wq := hvq))))))); simp only [List.filter_nil, fills]; exact gAt_append_keep (.tmp 43) (.tmp 47) (by rfl) _ _ k.ps (by rfl) h3q (by rfl) h7q (by omega) hrw hwq.size)
         refine hK _ _ ?_; clear hK K)
      | (refine stepK_at 3 (by rfl) (by rfl) (by kernel_rfl) (DDp w'.heap.size k.ps (fun _ => True) [] 3) (ddp_closed hrw 3 _) (fun wq hwq hrq => ?_) ?_
         · (have hbq := gcell hwq; (repeat (first | refine fills_no (by rfl) ?_ | (refine fills_yes (by rfl) (fun vq hvq => ?_); (try ((first | (with_reducible have h0q : DDp w'.heap.size k.ps (fun _ => True) [] 0 vq wq := hvq) | (with_reducible have h3q : DDp w'.heap.size k.ps (fun _ => True) [] 3 vq wq := hvq) | (with_reducible have h7q : DDp w'.heap.size k.ps (fun _ => True) [] 7 vq wq := hvq))))))); simp only [List.filter_nil, fills]; (obtain ⟨gq, eq1, hq1⟩ := h0q; exact upAt_copy (.tmp 40) (.tmp 42) (by rfl) w'.heap.size (rb + 1) (by rfl) (by rfl) eq1 hq1 k.ps (hrt _ (grownBy_trans hU.1 hwq)) (by omega) hwq.size))
         refine hK _ _ ?_; clear hK K)
      | (refine stepK_c (by rfl) ?_ ?_ ?_
         rotate_left
         · intro wq hwq hrq; (have hbq := gcell hwq; (repeat (first | refine fills_no (by rfl) ?_ | (refine fills_yes (by rfl) (fun vq hvq => ?_); (try ((first | (with_reducible have h0q : DDp w'.heap.size k.ps (fun _ => True) [] 0 vq wq := hvq) | (with_reducible have h3q : DDp w'.heap.size k.ps (fun _ => True) [] 3 vq wq := hvq) | (with_reducible have h7q : DDp w'.heap.size k.ps (fun _ => True) [] 7 vq wq := hvq))))))); simp only [List.filter_nil, fills]; unfold upAt; (try ((obtain ⟨-, r0, r1, r2, r3, r4, r5⟩ := KnAt.cells (gbox hwq hKB (by simp; omega))))); go_simp; (try go_bits); (try simp only [↓IntWalk.iteOmega]); (try (rw [dif_pos (by omega)]; go_simp; try go_bits)); first | exact upOut_value | (apply upOut_call; (go_at_call 108; exact cX _ (hrt _ (grownBy_trans hU.1 hwq)))) | (apply upOut_eq; (go_at_call 108; exact cX _ (hrt _ (grownBy_trans hU.1 hwq)))))
         go_simp; refine hK _ _ ?_; clear hK K)
      | (refine stepK_m (by rfl) (by kernel_rfl) (DDp w'.heap.size k.ps (fun _ => True) [] 0) (ddp_closed hrw 0 _) (fun wq hwq hrq => ?_) ?_
         · (have hbq := gcell hwq; (repeat (first | refine fills_no (by rfl) ?_ | (refine fills_yes (by rfl) (fun vq hvq => ?_); (try ((first | (with_reducible have h0q : DDp w'.heap.size k.ps (fun _ => True) [] 0 vq wq := hvq) | (with_reducible have h3q : DDp w'.heap.size k.ps (fun _ => True) [] 3 vq wq := hvq) | (with_reducible have h7q : DDp w'.heap.size k.ps (fun _ => True) [] 7 vq wq := hvq))))))); simp only [List.filter_nil, fills]; unfold upAt; (try ((obtain ⟨-, r0, r1, r2, r3, r4, r5⟩ := KnAt.cells (gbox hwq hKB (by simp; omega))))); go_simp; (try go_bits); (try simp only [↓IntWalk.iteOmega]); (try (rw [dif_pos (by omega)]; go_simp; try go_bits)); (((with_reducible refine upOut_make ((Up.refl _).alloc _) ?_); exact mtP_new hwq.size)))
         refine hK _ _ ?_; clear hK K)
      | (refine stepK_m (by rfl) (by kernel_rfl) (DDp w'.heap.size k.ps (fun _ => True) [] 7) (ddp_closed hrw 7 _) (fun wq hwq hrq => ?_) ?_
         · (have hbq := gcell hwq; (repeat (first | refine fills_no (by rfl) ?_ | (refine fills_yes (by rfl) (fun vq hvq => ?_); (try ((first | (with_reducible have h0q : DDp w'.heap.size k.ps (fun _ => True) [] 0 vq wq := hvq) | (with_reducible have h3q : DDp w'.heap.size k.ps (fun _ => True) [] 3 vq wq := hvq) | (with_reducible have h7q : DDp w'.heap.size k.ps (fun _ => True) [] 7 vq wq := hvq))))))); simp only [List.filter_nil, fills]; unfold upAt; (try ((obtain ⟨-, r0, r1, r2, r3, r4, r5⟩ := KnAt.cells (gbox hwq hKB (by simp; omega))))); go_simp; (try go_bits); (try simp only [↓IntWalk.iteOmega]); (try (rw [dif_pos (by omega)]; go_simp; try go_bits)); (((with_reducible refine upOut_make ((Up.refl _).alloc _) ?_); exact ddp_pair ⟨k.next, 0⟩ trivial hwq.size)))
         refine hK _ _ ?_; clear hK K))
    refine wpK_step (fun K hK => ?_)
    go_simp
    refine stepK_c (by rfl) (.pointer (some ⟨w.heap.size, 3, none⟩)) (fun wq hwq hrq => fills_same 3 _ _ ?_ (fun a' ha => ?_)) ?_
    · refine not_dst ?_
      simp
    · have ha' : a'.tmps.getD 3 undef = .pointer (some ⟨w.heap.size, 0, none⟩) := ha
      unfold upAt execOp
      simp only [Act.eval, ha']
      go_simp
      exact upOut_value
    refine hK _ _ ?_
    clear hK K
    refine wpK_nil (fun wq hwq hrq => ?_)
    simp only [fills]
    rintro u ⟨q, -, hq⟩
    intros
    have hU := RdUp.made (C := 40) HM (grownBy_trans hU.1 hwq) hrq (by omega)
    have hKB := gbox hwq hKB (by simp; omega)
    have hRB := gbox hwq hRB (by simp; omega)
    have hrq9 := RdP.of_own hq
    have hlq : (k.ps ++ [q]).length = k.ps.length + 1 := by simp
    obtain ⟨a9, c9, rfl⟩ := ownsRow_shape hq
    rw [hlq] at hrq9
    clear q0 q1 q2 q3 q4 q5 hb1 s0 s1 s2 s3 s4 s5 hb0 hfr hfk hq
    obtain ⟨hb1, q0, q1, q2, q3, q4, q5⟩ := KnAt.cells hKB; obtain ⟨hb0, s0, s1, s2, s3, s4, s5⟩ := KnAt.cells hRB; have hfr := box_free hRB; have hfk := box_free hKB
    go_wp2
    rw [onlyN_normal]
    go_wp2
    refine bodyPost_ret (v := _) (by simp [results, Tryz.results74, go_sem, hb0, s0, s1, s2, s3, s4, s5]; rfl) rfl ?_
    refine ⟨⟨k.set, k.ps ++ [q], k.base, k.last⟩, _, rfl, ⟨hbk.1, by show (k.ps ++ [q]).length ≤ 1100; omega⟩, .inr (RdP.low (lo := w'.heap.size) ?_ (by omega)), by exact RdUp.fin hU (by intro c hU; (repeat (first | with_reducible assumption | refine RdUp.ups ?_ (by with_reducible assumption) | with_reducible refine RdUp.set ?_ (by first | exact Nat.le_refl _ | (simp only []; omega) | (simp; omega)) _ | with_reducible refine RdUp.alloc ?_ _ | with_reducible refine RdUp.drew ?_ | with_reducible exact RdUp.of (Up.refl _)))) (by omega)⟩
    (repeat (with_reducible refine RdP.set ?_ (by omega) _ _)); exact hrq9
  · skip
    obtain ⟨LL, hLL⟩ : ∃ LL : List Value, Hid (LL = [.int .i64 (-1), .int .i64 ((clr k.set : Nat) : Int)]) := ⟨_, rfl⟩
    have hr2 := hU.2 _ h
    have hbw : w.heap.size + 1 < w'.heap.size := by omega
    have hrw : rb < w'.heap.size := by omega
    refine wp_region_rk 14 12 rb B 1 _ (DDp w'.heap.size k.ps (fun _ => True) LL) (by kernel_rfl) (by kernel_rfl) hr2 ?_
    simp only [List.take, List.drop]
    iterate 12 (refine wpK_step (fun K hK => ?_); go_simp; (try simp only [↓IntWalk.iteOmega]); first
      | (refine hK _ _ ?_; clear hK K)
      | (refine stepK_own (by rfl) (by kernel_rfl) (DDp w'.heap.size k.ps (fun _ => True) LL 8) (ddp_closed hrw 8 _) (fun wq hwq hrq => ?_) ?_
         · ((repeat (first | refine fills_no (by rfl) ?_ | (refine fills_yes (by rfl) (fun vq hvq => ?_); (try ((first | (with_reducible have h1q : DDp w'.heap.size k.ps (fun _ => True) LL 1 vq wq := hvq) | (with_reducible have h0q : DDp w'.heap.size k.ps (fun _ => True) LL 0 vq wq := hvq) | (with_reducible have h3q : DDp w'.heap.size k.ps (fun _ => True) LL 3 vq wq := hvq) | (with_reducible have h7q : DDp w'.heap.size k.ps (fun _ => True) LL 7 vq wq := hvq) | (obtain ⟨y, rfl, hy⟩ := hvq) | (obtain ⟨y, rfl⟩ := hvq))))))); simp only [List.filter_nil, fills]; exact gAt_append_keep (.tmp 55) (.tmp 63) (by rfl) _ _ k.ps (by rfl) h3q (by rfl) h7q (by omega) hrw hwq.size)
         refine hK _ _ ?_; clear hK K)
      | (refine stepK_at 3 (by rfl) (by rfl) (by kernel_rfl) (DDp w'.heap.size k.ps (fun _ => True) LL 3) (ddp_closed hrw 3 _) (fun wq hwq hrq => ?_) ?_
         · (have hbq := gcell hwq; (repeat (first | refine fills_no (by rfl) ?_ | (refine fills_yes (by rfl) (fun vq hvq => ?_); (try ((first | (with_reducible have h1q : DDp w'.heap.size k.ps (fun _ => True) LL 1 vq wq := hvq) | (with_reducible have h0q : DDp w'.heap.size k.ps (fun _ => True) LL 0 vq wq := hvq) | (with_reducible have h3q : DDp w'.heap.size k.ps (fun _ => True) LL 3 vq wq := hvq) | (with_reducible have h7q : DDp w'.heap.size k.ps (fun _ => True) LL 7 vq wq := hvq) | (obtain ⟨y, rfl, hy⟩ := hvq) | (obtain ⟨y, rfl⟩ := hvq))))))); simp only [List.filter_nil, fills]; (obtain ⟨gq, eq1, hq1⟩ := h0q; exact upAt_copy (.tmp 52) (.tmp 54) (by rfl) w'.heap.size (rb + 1) (by rfl) (by rfl) eq1 hq1 k.ps (hrt _ (grownBy_trans hU.1 hwq)) (by omega) hwq.size))
         refine hK _ _ ?_; clear hK K)
      | (refine stepK_c (by rfl) ?_ ?_ ?_
         rotate_left
         · intro wq hwq hrq; (have hbq := gcell hwq; (repeat (first | refine fills_no (by rfl) ?_ | (refine fills_yes (by rfl) (fun vq hvq => ?_); (try ((first | (with_reducible have h1q : DDp w'.heap.size k.ps (fun _ => True) LL 1 vq wq := hvq) | (with_reducible have h0q : DDp w'.heap.size k.ps (fun _ => True) LL 0 vq wq := hvq) | (with_reducible have h3q : DDp w'.heap.size k.ps (fun _ => True) LL 3 vq wq := hvq) | (with_reducible have h7q : DDp w'.heap.size k.ps (fun _ => True) LL 7 vq wq := hvq) | (obtain ⟨y, rfl, hy⟩ := hvq) | (obtain ⟨y, rfl⟩ := hvq))))))); simp only [List.filter_nil, fills]; unfold upAt; (try ((obtain ⟨-, r0, r1, r2, r3, r4, r5⟩ := KnAt.cells (gbox hwq hKB (by simp; omega))))); go_simp; (try go_bits); (try simp only [↓IntWalk.iteOmega]); (try (rw [dif_pos (by omega)]; go_simp; try go_bits)); first | exact upOut_value | (apply upOut_call; (go_at_call 86; exact cK _)) | (apply upOut_eq; (go_at_call 86; exact cK _)))
         go_simp; refine hK _ _ ?_; clear hK K)
      | (refine stepK_m (by rfl) (by kernel_rfl) (DDp w'.heap.size k.ps (fun _ => True) LL 0) (ddp_closed hrw 0 _) (fun wq hwq hrq => ?_) ?_
         · (have hbq := gcell hwq; (repeat (first | refine fills_no (by rfl) ?_ | (refine fills_yes (by rfl) (fun vq hvq => ?_); (try ((first | (with_reducible have h1q : DDp w'.heap.size k.ps (fun _ => True) LL 1 vq wq := hvq) | (with_reducible have h0q : DDp w'.heap.size k.ps (fun _ => True) LL 0 vq wq := hvq) | (with_reducible have h3q : DDp w'.heap.size k.ps (fun _ => True) LL 3 vq wq := hvq) | (with_reducible have h7q : DDp w'.heap.size k.ps (fun _ => True) LL 7 vq wq := hvq) | (obtain ⟨y, rfl, hy⟩ := hvq) | (obtain ⟨y, rfl⟩ := hvq))))))); simp only [List.filter_nil, fills]; unfold upAt; (try ((obtain ⟨-, r0, r1, r2, r3, r4, r5⟩ := KnAt.cells (gbox hwq hKB (by simp; omega))))); go_simp; (try go_bits); (try simp only [↓IntWalk.iteOmega]); (try (rw [dif_pos (by omega)]; go_simp; try go_bits)); (((with_reducible refine upOut_make ((Up.refl _).alloc _) ?_); exact mtP_new hwq.size)))
         refine hK _ _ ?_; clear hK K)
      | (refine stepK_m (by rfl) (by kernel_rfl) (DDp w'.heap.size k.ps (fun _ => True) LL 7) (ddp_closed hrw 7 _) (fun wq hwq hrq => ?_) ?_
         · (have hbq := gcell hwq; (repeat (first | refine fills_no (by rfl) ?_ | (refine fills_yes (by rfl) (fun vq hvq => ?_); (try ((first | (with_reducible have h1q : DDp w'.heap.size k.ps (fun _ => True) LL 1 vq wq := hvq) | (with_reducible have h0q : DDp w'.heap.size k.ps (fun _ => True) LL 0 vq wq := hvq) | (with_reducible have h3q : DDp w'.heap.size k.ps (fun _ => True) LL 3 vq wq := hvq) | (with_reducible have h7q : DDp w'.heap.size k.ps (fun _ => True) LL 7 vq wq := hvq) | (obtain ⟨y, rfl, hy⟩ := hvq) | (obtain ⟨y, rfl⟩ := hvq))))))); simp only [List.filter_nil, fills]; unfold upAt; (try ((obtain ⟨-, r0, r1, r2, r3, r4, r5⟩ := KnAt.cells (gbox hwq hKB (by simp; omega))))); go_simp; (try go_bits); (try simp only [↓IntWalk.iteOmega]); (try (rw [dif_pos (by omega)]; go_simp; try go_bits)); (((with_reducible refine upOut_make ((Up.refl _).alloc _) ?_); exact ddp_pair ⟨0, y⟩ trivial hwq.size)))
         refine hK _ _ ?_; clear hK K)
      | (refine stepK_m (by rfl) (by kernel_rfl) (DDp w'.heap.size k.ps (fun _ => True) LL 1) (ddp_closed hrw 1 _) (fun wq hwq hrq => ?_) ?_
         · (have hbq := gcell hwq; (repeat (first | refine fills_no (by rfl) ?_ | (refine fills_yes (by rfl) (fun vq hvq => ?_); (try ((first | (with_reducible have h1q : DDp w'.heap.size k.ps (fun _ => True) LL 1 vq wq := hvq) | (with_reducible have h0q : DDp w'.heap.size k.ps (fun _ => True) LL 0 vq wq := hvq) | (with_reducible have h3q : DDp w'.heap.size k.ps (fun _ => True) LL 3 vq wq := hvq) | (with_reducible have h7q : DDp w'.heap.size k.ps (fun _ => True) LL 7 vq wq := hvq) | (obtain ⟨y, rfl, hy⟩ := hvq) | (obtain ⟨y, rfl⟩ := hvq))))))); simp only [List.filter_nil, fills]; unfold upAt; (try ((obtain ⟨-, r0, r1, r2, r3, r4, r5⟩ := KnAt.cells (gbox hwq hKB (by simp; omega))))); go_simp; (try go_bits); (try simp only [↓IntWalk.iteOmega]); (try (rw [dif_pos (by omega)]; go_simp; try go_bits)); (((with_reducible refine upOut_make ((Up.refl _).alloc _) ?_); rw [hLL.out]; exact ddp_ints (-1) ((clr k.set : Nat) : Int) hwq.size)))
         refine hK _ _ ?_; clear hK K)
      | (refine stepK_m (by rfl) (by kernel_rfl) ((fun v _ => ∃ y : Int, v = .agg #[.int .i64 0, .int .i64 y])) ((fun _ _ _ h _ => h)) (fun wq hwq hrq => ?_) ?_
         · (have hbq := gcell hwq; (repeat (first | refine fills_no (by rfl) ?_ | (refine fills_yes (by rfl) (fun vq hvq => ?_); (try ((first | (with_reducible have h1q : DDp w'.heap.size k.ps (fun _ => True) LL 1 vq wq := hvq) | (with_reducible have h0q : DDp w'.heap.size k.ps (fun _ => True) LL 0 vq wq := hvq) | (with_reducible have h3q : DDp w'.heap.size k.ps (fun _ => True) LL 3 vq wq := hvq) | (with_reducible have h7q : DDp w'.heap.size k.ps (fun _ => True) LL 7 vq wq := hvq) | (obtain ⟨y, rfl, hy⟩ := hvq) | (obtain ⟨y, rfl⟩ := hvq))))))); simp only [List.filter_nil, fills]; unfold upAt; (try ((obtain ⟨-, r0, r1, r2, r3, r4, r5⟩ := KnAt.cells (gbox hwq hKB (by simp; omega))))); go_simp; (try go_bits); (try simp only [↓IntWalk.iteOmega]); (try (rw [dif_pos (by omega)]; go_simp; try go_bits)); (((with_reducible refine upOut_make (Up.refl _) ?_); exact ⟨_, rfl⟩)))
         refine hK _ _ ?_; clear hK K)
      | (refine stepK_d (by rfl) (by rfl) (by kernel_rfl) (fun v _ => oneOf [-1, ((clr k.set : Nat) : Int)] v) (fun _ _ _ h _ => h) (fun wq hwq hrq => ?_) ?_
         · (have hbq := gcell hwq; (repeat (first | refine fills_no (by rfl) ?_ | (refine fills_yes (by rfl) (fun vq hvq => ?_); (try ((first | (with_reducible have h1q : DDp w'.heap.size k.ps (fun _ => True) LL 1 vq wq := hvq) | (with_reducible have h0q : DDp w'.heap.size k.ps (fun _ => True) LL 0 vq wq := hvq) | (with_reducible have h3q : DDp w'.heap.size k.ps (fun _ => True) LL 3 vq wq := hvq) | (with_reducible have h7q : DDp w'.heap.size k.ps (fun _ => True) LL 7 vq wq := hvq) | (obtain ⟨y, rfl, hy⟩ := hvq) | (obtain ⟨y, rfl⟩ := hvq))))))); simp only [List.filter_nil, fills]; unfold gAt; (try ((obtain ⟨-, r0, r1, r2, r3, r4, r5⟩ := KnAt.cells (gbox hwq hKB (by simp; omega))))); go_simp; (try go_bits); (try simp only [↓IntWalk.iteOmega]); (try (rw [dif_pos (by omega)]; go_simp; try go_bits)); (with_reducible refine gOut_drawn ((num_any rb B [-1, ((clr k.set : Nat) : Int)] _ wq _ hrq (by omega) (ddp_rd (x := -1) (y := ((clr k.set : Nat) : Int)) (by rw [← hLL.out]; exact h1q) hrw) (by simp))) ?_); decide)
         refine hK _ _ ?_; clear hK K))
    refine wpK_step (fun K hK => ?_)
    go_simp
    refine stepK_own (by rfl) (by kernel_rfl) (DDp w'.heap.size k.ps (fun _ => True) LL 8) (ddp_closed hrw 8 _) (fun wq hwq hrq => fills_get _ _ ?_ (fun a' h1 h2 => ?_)) ?_
    · refine List.Nodup.sublist (List.Sublist.map _ (List.filter_sublist ..)) ?_
      simp
    · have h3q := h1 (3, some 55, (DDp w'.heap.size k.ps (fun _ => True) LL) 3) (List.mem_filter.2 ⟨by simp, by rfl⟩) 55 rfl (by simp)
      have h7q := h1 (11, some 63, (DDp w'.heap.size k.ps (fun _ => True) LL) 7) (List.mem_filter.2 ⟨by simp, by rfl⟩) 63 rfl (by simp)
      exact gAt_append_keep (.tmp 55) (.tmp 63) (by rfl) _ _ k.ps (by rfl) h3q (by rfl) h7q (by omega) hrw hwq.size
    refine hK _ _ ?_
    clear hK K
    refine wpK_step (fun K hK => ?_)
    go_simp
    with_reducible refine stepK_c ?_ (.pointer (some ⟨w.heap.size, 3, none⟩)) ?_ ?_
    · rfl
    · intro wq hwq hrq
      with_reducible refine fills_same 3 _ _ ?_ ?_
      · with_reducible refine not_dst ?_
        simp
      · intro a' ha
        have ha' : a'.tmps.getD 3 undef = .pointer (some ⟨w.heap.size, 0, none⟩) := ha
        unfold upAt execOp
        simp only [Act.eval, ha']
        go_simp
        exact upOut_value
    refine hK _ _ ?_
    clear hK K
    refine wpK_nil (fun wq hwq hrq => ?_)
    simp only [fills]
    rintro u ⟨q, -, hq⟩
    intros
    have hU := RdUp.made (C := 40) HM (grownBy_trans hU.1 hwq) hrq (by omega)
    have hKB := gbox hwq hKB (by simp; omega)
    have hRB := gbox hwq hRB (by simp; omega)
    have hrq9 := RdP.of_own hq
    have hlq : (k.ps ++ [q]).length = k.ps.length + 1 := by simp
    obtain ⟨a9, c9, rfl⟩ := ownsRow_shape hq
    rw [hlq] at hrq9
    clear q0 q1 q2 q3 q4 q5 hb1 s0 s1 s2 s3 s4 s5 hb0 hfr hfk hq
    obtain ⟨hb1, q0, q1, q2, q3, q4, q5⟩ := KnAt.cells hKB; obtain ⟨hb0, s0, s1, s2, s3, s4, s5⟩ := KnAt.cells hRB; have hfr := box_free hRB; have hfk := box_free hKB
    go_wp2
    rw [onlyN_normal]
    go_wp2
    refine bodyPost_ret (v := _) (by simp [results, Tryz.results74, go_sem, hb0, s0, s1, s2, s3, s4, s5]; rfl) rfl ?_
    refine ⟨⟨k.set, k.ps ++ [q], k.base, k.last⟩, _, rfl, ⟨hbk.1, by show (k.ps ++ [q]).length ≤ 1100; omega⟩, .inr (RdP.low (lo := w'.heap.size) ?_ (by omega)), by exact RdUp.fin hU (by intro c hU; (repeat (first | with_reducible assumption | refine RdUp.ups ?_ (by with_reducible assumption) | with_reducible refine RdUp.set ?_ (by first | exact Nat.le_refl _ | (simp only []; omega) | (simp; omega)) _ | with_reducible refine RdUp.alloc ?_ _ | with_reducible refine RdUp.drew ?_ | with_reducible exact RdUp.of (Up.refl _)))) (by omega)⟩
    (repeat (with_reducible refine RdP.set ?_ (by omega) _ _)); exact hrq9
end Go.Proofs.YtekogcjdaolcbaaGreatDoor

