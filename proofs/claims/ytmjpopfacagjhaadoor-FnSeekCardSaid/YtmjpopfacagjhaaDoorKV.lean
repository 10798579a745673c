/- Walks of the reference's KnownValid and Start. Conditions: what is known is valid and can be read. -/
import Derived.Test.YtmjpopfacagjhaaDoorCleared
namespace Go.Proofs.YtmjpopfacagjhaaDoor
set_option linter.unusedVariables false
set_option linter.unusedSimpArgs false
open Go Go.RowKit

def setW (w : World) (b : Nat) (s : SetD) : World := ((w.setCell ⟨b, 0, none⟩ (.int .i64 s.ord)).setCell ⟨b, 1, none⟩ (.int .i64 s.lit)).setCell ⟨b, 2, none⟩ (.int .i64 s.most)
theorem SetAt.store {w : World} {b : Nat} {x y z : Int} (h : SetAt b x y z w) (s : SetD) : SetAt b s.ord s.lit s.most (setW w b s) :=
  box_set (box_set (box_set h 0 (.int .i64 s.ord)) 1 (.int .i64 s.lit)) 2 (.int .i64 s.most)
theorem setW.other {w : World} {b b' : Nat} (hb : b' ≠ b) (s : SetD) : (setW w b s).heap[b']? = w.heap[b']? := by
  unfold setW
  have hs : ∀ (w : World) (i : Nat) (x : Value), (w.setCell ⟨b, i, none⟩ x).heap[b']? = w.heap[b']? := fun w i x => Below.heap_setCell _ _ _ _ hb
  rw [hs, hs, hs]
theorem prs_i {c : Nat} {ps : List PairD} (h : PrsOk c ps) {i : Nat} (hi : i < ps.length) : codeOk c i ps[i].pre = true ∧ inB ps[i].byt 0 ((c : Int) - 1) = true := by
  obtain ⟨h1, h2, h3⟩ := h.get hi
  exact ⟨h1, inB_iff.2 ⟨h2, by omega⟩⟩
theorem alloc2 (w : World) (A B : Obj) : ((w.alloc A).alloc B).heap[w.heap.size + 1]? = some B := by
  have := (MapKept.heap_alloc (w.alloc A) B).1
  rwa [size_alloc] at this
def RelKV (k : KnD) (v : Value) (w : World) (i : Value) (wr : World) : Prop := ∃ j : Nat, j ≤ k.ps.length ∧ i = .int .i64 j ∧ Up w wr ∧ KnAt w.heap.size k v wr ∧ SetAt (w.heap.size + 1) k.set.ord k.set.lit k.set.most wr
theorem setD_eta (s : SetD) : (⟨s.ord, s.lit, s.most⟩ : SetD) = s := rfl

set_option maxRecDepth 100000 in
set_option maxHeartbeats 4000000 in
theorem kvS_any (k : KnD) (v : Value) (lo : Nat) (w : World) (h : k.Ok) (hv : k.last = -1 → k.base = k.ps.length) (hr : RdP lo w v k.ps) :
    Calls Tryd.prog 81  #[kV k v] w (Same (.bool true) w) := by
  obtain ⟨hb1, hb2, hb3, hb4, hb5⟩ := h.nums
  have cS := fun w => setS_any k.set.ord k.set.lit k.set.most w
  rw [setD_eta, h.set] at cS
  have cL := fun w => l1Last_any k.set w h.set
  have cE := fun w => l1End_any k.set w h.set
  have cC := fun w => l1Clear_any k.set w h.set
  have cK := fun x n w hn => l2Code_any k.set x n w h.set hn
  have hba0 := h.base0
  have hba1 := h.base1
  have HK := Lib.hid h
  have HB : Hid (inB k.base 0 (k.ps.length : Int) = true) := inB_iff.2 ⟨hba0, hba1⟩
  have hrt := fun (wq : World) (hu : Up w wq) => hr.up hu
  obtain ⟨a, cap, rfl, hc1, hc2, hc3, hsome⟩ := hr
  unfold maxLen at hc2
  have ec : k.c = clr k.set := rfl
  clear h
  simp only [kV]
  have cI := fun a b c w => l1In_any a b c w
  have cIb := fun w => l1In_any k.base 0 (k.ps.length : Int) w
  rw [HB.out] at cIb
  go_enter Tryd.func81, Tryd.ntmps81
  go_wp2
  refine wp_region_up 23 (by kernel_rfl) (by kernel_rfl) ?_
  simp only [List.take, List.drop]
  repeat (refine wpUp_step (fun K hK => ?_); go_simp; (try simp only [↓IntWalk.iteOmega]); first
    | (refine hK _ _ ?_; clear hK K)
    | (apply stepU_c
       · intro wq hwq; (have hbq := bcell hwq; (repeat (first | refine fills_no (by rfl) ?_ | refine fills_yes (by rfl) (fun vq hvq => ?_))); simp only [List.filter_nil, fills]; unfold upAt; go_simp; (try go_bits); (try simp only [↓IntWalk.iteOmega]); (try (rw [dif_pos (by omega)]; go_simp; try go_bits)); first | exact upOut_value | (apply upOut_call; (go_at_call 69; exact cS _)) | (apply upOut_eq; (go_at_call 69; exact cS _)) | (apply upOut_call; (go_at_call 84; exact cL _)) | (apply upOut_eq; (go_at_call 84; exact cL _)) | (apply upOut_call; (go_at_call 85; exact cE _)) | (apply upOut_eq; (go_at_call 85; exact cE _)) | (apply upOut_call; (go_at_call 27; exact cIb _)) | (apply upOut_eq; (go_at_call 27; exact cIb _)))
       go_simp; refine hK _ _ ?_; clear hK K))
  refine wpUp_nil (fun wq hwq => ?_)
  simp only [fills]
  have BQ := bcell hwq
  go_wp2
  have hU1 : Up w wq := by (repeat (first | exact Up.refl _ | refine Up.alloc ?_ _ | refine Up.drew ?_ | refine Up.set ?_ (by first | exact Nat.le_refl _ | (simp; done) | (simp; omega)) _ | refine Up.trans ?_ (by with_reducible assumption)))
  have hKA : KnAt w.heap.size k (.slice a k.ps.length cap) wq := box_up hwq (box_up ((Up.refl _).alloc _) (MapKept.heap_alloc w _).1)
  have hSA : SetAt (w.heap.size + 1) k.set.ord k.set.lit k.set.most wq := box_up hwq (alloc2 w _ _)
  go_loopw [4] (fun i wr => RelKV k (.slice a k.ps.length cap) w i wr) (fun i _ => k.ps.length - (intOf i).toNat)
  case atStart => exact ⟨0, Nat.zero_le _, rfl, hU1, hKA, hSA⟩
  case round =>
    clear hKA hSA hU1 hwq BQ
    obtain ⟨j, hj, rfl, hup, hkn, hst⟩ := hrel
    obtain ⟨b0, r0, r1, r2, r3, r4, r5⟩ := hkn.cells
    obtain ⟨b1, s0, s1, s2⟩ := hst.cells
    have HKN := Lib.hid hkn
    have HST := Lib.hid hst
    clear hkn hst
    by_cases hlt : j < k.ps.length
    · obtain ⟨hp1, hp2⟩ := prs_i HK.out.ps hlt
      obtain ⟨b, off, rfl, hlo, hbl, hcells⟩ := hsome (by omega)
      obtain ⟨q0, q1⟩ := hcells j k.ps[j] (List.getElem?_eq_getElem hlt)
      clear hcells
      have cKj := fun w => cK k.ps[j].pre j w (by omega)
      have cIj := fun w => l1In_any k.ps[j].byt 0 ((k.c : Int) - 1) w
      rw [← ec, hp1] at cKj
      rw [hp2, ec] at cIj
      generalize k.ps[j].pre = xp at *
      generalize k.ps[j].byt = xb at *
      clear hp1 hp2 cK
      go_wp2
      refine wp_region_up 23 (by kernel_rfl) (by kernel_rfl) ?_
      simp only [List.take, List.drop]
      repeat (refine wpUp_step (fun K hK => ?_); go_simp; (try simp only [↓IntWalk.iteOmega]); first
        | (refine hK _ _ ?_; clear hK K)
        | (apply stepU_c
           · intro wq hwq; (have hbq := bcell hwq; (repeat (first | refine fills_no (by rfl) ?_ | refine fills_yes (by rfl) (fun vq hvq => ?_))); simp only [List.filter_nil, fills]; unfold upAt; (try ((have e0 := ((hup.trans hwq).cell (p := ⟨b, off + j * 2, none⟩) hbl).trans q0; have e1 := ((hup.trans hwq).cell (p := ⟨b, off + j * 2 + 1, none⟩) hbl).trans q1))); go_simp; (try go_bits); (try simp only [↓IntWalk.iteOmega]); (try (rw [dif_pos (by omega)]; go_simp; try go_bits)); first | exact upOut_value | (apply upOut_call; (go_at_call 86; exact cKj _)) | (apply upOut_eq; (go_at_call 86; exact cKj _)) | (apply upOut_call; (go_at_call 60; exact cC _)) | (apply upOut_eq; (go_at_call 60; exact cC _)) | (apply upOut_call; (go_at_call 27; exact cIj _)) | (apply upOut_eq; (go_at_call 27; exact cIj _)))
           go_simp; refine hK _ _ ?_; clear hK K))
      refine wpUp_nil (fun wq hwq => ?_)
      simp only [fills]
      go_wp2
      go_roundw
      case rel => exact ⟨j + 1, by omega, by go_num, by (repeat (first | exact Up.refl _ | refine Up.alloc ?_ _ | refine Up.drew ?_ | refine Up.set ?_ (by first | exact Nat.le_refl _ | (simp; done) | (simp; omega)) _ | refine Up.trans ?_ (by with_reducible assumption))), box_up hwq HKN.out, box_up hwq HST.out⟩
      case measure => simp [intOf]; omega
    · by_cases hla : k.last = -1
      · have hbe := hv hla
        have cKj := fun w => cK (-1) k.ps.length w (by omega)
        have hno : codeOk (clr k.set) k.ps.length (-1) = false := by rw [← Bool.not_eq_true, codeOk_iff]; omega
        rw [hno] at cKj
        rw [hla] at r5
        rw [hbe] at r4
        clear hno hla hbe hv cIb HB
        go_wp2_with (first | (go_at_call 86; (with_reducible refine (cKj _).mono ?_); rintro e w1 ⟨rfl, U1⟩; have B1 := bcell U1; have Z1 := U1.size; (try simp at Z1); (try rw [Nat.add_one_le_iff] at Z1)))
        go_ret
        refine ⟨rfl, ?_⟩
        (repeat (first | exact Up.refl _ | refine Up.alloc ?_ _ | refine Up.drew ?_ | refine Up.set ?_ (by first | exact Nat.le_refl _ | (simp; done) | (simp; omega)) _ | refine Up.trans ?_ (by with_reducible assumption)))
      · have hco : codeOk (clr k.set) k.ps.length k.last = true := HK.out.last.resolve_left hla
        have cKj := fun w => cK k.last k.ps.length w (by omega)
        rw [hco] at cKj
        clear hco hv cIb HB
        go_wp2_with (first | (go_at_call 86; (with_reducible refine (cKj _).mono ?_); rintro e w1 ⟨rfl, U1⟩; have B1 := bcell U1; have Z1 := U1.size; (try simp at Z1); (try rw [Nat.add_one_le_iff] at Z1)))
        go_ret
        refine ⟨rfl, ?_⟩
        (repeat (first | exact Up.refl _ | refine Up.alloc ?_ _ | refine Up.drew ?_ | refine Up.set ?_ (by first | exact Nat.le_refl _ | (simp; done) | (simp; omega)) _ | refine Up.trans ?_ (by with_reducible assumption)))

set_option maxRecDepth 100000 in
set_option maxHeartbeats 1000000 in
theorem startS_any (s : SetD) (w : World) (h : setOk s = true) :
    Calls Tryd.prog 79  #[setV s] w (fun e w' => e = .returned (.tuple #[kV ⟨s, [], 0, -1⟩ (.slice none 0 0), .bool true]) ∧ Up w w') := by
  have cS := fun w => setS_any s.ord s.lit s.most w
  rw [setD_eta, h] at cS
  clear h
  simp only [setV]
  go_enter Tryd.func79, Tryd.ntmps79
  go_wp2_with ((go_at_call 69; (with_reducible refine (cS _).mono ?_); rintro e w1 ⟨rfl, U1⟩; have B1 := bcell U1; have Z1 := U1.size; (try simp at Z1); (try rw [Nat.add_one_le_iff] at Z1)); obtain ⟨-, q0, q1, q2, q3, q4, q5⟩ := KnAt.cells (b := w.heap.size + 1) (k := ⟨⟨0, 0, 0⟩, [], 0, 0⟩) (v := .slice none 0 0) (box_up U1 (alloc2 w _ _)))
  obtain ⟨-, q0, q1, q2, q3, q4, q5⟩ := KnAt.cells (b := w.heap.size + 1) (k := ⟨⟨0, 0, 0⟩, [], 0, 0⟩) (v := .slice none 0 0) (box_up U1 (alloc2 w _ _))
  refine bodyPost_ret (v := .tuple #[kV ⟨s, [], 0, -1⟩ (.slice none 0 0), .bool true]) (by simp [results, Tryd.results79, go_sem, q0, q1, q2, q3, q4, q5]) rfl ⟨rfl, ?_⟩
  (repeat (first | with_reducible exact Up.refl _ | with_reducible assumption | with_reducible refine Up.set ?_ (by first | exact Nat.le_refl _ | (simp only []; omega) | (simp; omega)) _ | with_reducible refine Up.alloc ?_ _ | with_reducible refine Up.drew ?_ | refine Up.trans ?_ (by with_reducible assumption)))

end Go.Proofs.YtmjpopfacagjhaaDoor
