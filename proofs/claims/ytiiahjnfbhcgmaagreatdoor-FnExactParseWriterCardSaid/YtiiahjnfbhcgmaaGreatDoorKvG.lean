/- Walks of the program's and of the reference's KnownValid, for what is known of any kind. Conditions: the pairs can be read. -/
import Derived.Test.YtiiahjnfbhcgmaaGreatDoorWa
import Derived.Test.YtiiahjnfbhcgmaaGreatDoorKV
namespace Go.Proofs.YtiiahjnfbhcgmaaGreatDoor
set_option linter.unusedVariables false
set_option linter.unusedSimpArgs false
open Go Go.RowKit

def pairOk (s : SetD) (i : Nat) (p : PairD) : Bool := codeOk (clr s) i p.pre && (decide (0 ≤ p.byt) && decide (p.byt < (clr s : Int)))
def roomOk (k : KnD) : Bool := decide ((k.ps.length : Int) ≤ (lastC k.set : Int) - ((clr k.set : Int) + 1))
def pairsOk (k : KnD) : Bool := (List.range k.ps.length).all fun i => pairOk k.set i (k.ps.getD i ⟨0, 0⟩)
def lastOk (k : KnD) : Bool := if k.last = -1 then decide (k.base = k.ps.length) else codeOk (clr k.set) k.ps.length k.last
/-- Whether what is known is valid. -/
def validK (k : KnD) : Bool := setOk k.set && (roomOk k && (pairsOk k && (inB k.base 0 k.ps.length && lastOk k)))
theorem pairsOk_no {k : KnD} {j : Nat} (h : j < k.ps.length) (hp : pairOk k.set j k.ps[j] = false) : pairsOk k = false := by
  cases e : pairsOk k
  · rfl
  · unfold pairsOk at e
    rw [List.all_eq_true] at e
    have := e j (List.mem_range.2 h)
    rw [List.getD_eq_getElem?_getD, List.getElem?_eq_getElem h, Option.getD_some, hp] at this
    cases this
theorem pairsOk_yes {k : KnD} (h : ∀ j (hj : j < k.ps.length), pairOk k.set j k.ps[j] = true) : pairsOk k = true := by
  unfold pairsOk
  rw [List.all_eq_true]
  intro j hj
  have hj := List.mem_range.1 hj
  rw [List.getD_eq_getElem?_getD, List.getElem?_eq_getElem hj]
  exact h j hj
theorem validK_pairs {k : KnD} (h : pairsOk k = false) : validK k = false := by unfold validK; rw [h]; simp
theorem validK_base {k : KnD} (h : inB k.base 0 k.ps.length = false) : validK k = false := by unfold validK; rw [h]; simp
theorem validK_last {k : KnD} (h1 : setOk k.set = true) (h2 : roomOk k = true) (h3 : pairsOk k = true) (h4 : inB k.base 0 k.ps.length = true) : validK k = lastOk k := by unfold validK; rw [h1, h2, h3, h4]; rfl
theorem pairOk_of {s : SetD} {i : Nat} {p : PairD} (h : codeOk (clr s) i p.pre = true) (h0 : 0 ≤ p.byt) (h1 : p.byt < (clr s : Int)) : pairOk s i p = true := by unfold pairOk; rw [h, decide_eq_true h0, decide_eq_true h1]; rfl
theorem pairOk_not {s : SetD} {i : Nat} {p : PairD} (h : codeOk (clr s) i p.pre = false ∨ p.byt < 0 ∨ (clr s : Int) ≤ p.byt) : pairOk s i p = false := by
  unfold pairOk
  rcases h with h | h | h
  · rw [h]; rfl
  · rw [show decide (0 ≤ p.byt) = false by simp; omega]; simp
  · rw [show decide (p.byt < (clr s : Int)) = false by simp; omega]; simp
def RelKg (k : KnD) (v : Value) (w : World) (i : Value) (wr : World) : Prop := ∃ j : Nat, j ≤ k.ps.length ∧ i = .int .i64 j ∧ (∀ q (h : q < k.ps.length), q < j → pairOk k.set q k.ps[q] = true) ∧ Up w wr ∧ KnAt w.heap.size k v wr ∧ SetAt (w.heap.size + 1) k.set.ord k.set.lit k.set.most wr

set_option maxRecDepth 100000 in
set_option maxHeartbeats 8000000 in
theorem kvI_gen (k : KnD) (v : Value) (lo : Nat) (w : World) (hl : -9223372036854775808 ≤ k.set.lit ∧ k.set.lit ≤ 9223372036854775807) (hr : RdP lo w v k.ps) (hps : k.ps.length ≤ 1073741824) :
    Calls Tryz.prog 76  #[kV k v] w (Same (.bool (validK k)) w) := by
  have cS := fun w => setI_any k.set.ord k.set.lit k.set.most w hl
  rw [setD_eta] at cS
  have hrt := fun (wq : World) (hu : Up w wq) => hr.up hu
  obtain ⟨a, cap, rfl, hc1, hc2, hc3, hsome⟩ := hr
  unfold maxLen at hc2
  cases h1 : setOk k.set
  · have HV : Hid (validK k = false) := by unfold Hid validK; rw [h1]; rfl
    rw [h1] at cS
    rw [HV.out]
    clear h1 hsome hc3
    simp only [kV, setV] at *
    go_enter Tryz.func76, Tryz.ntmps76
    go_wp2
    refine wp_region_up 14 (by kernel_rfl) (by kernel_rfl) ?_
    simp only [List.take, List.drop]
    repeat (refine wpUp_step (fun K hK => ?_); go_simp; (try simp only [↓IntWalk.iteOmega]); first
      | (refine hK _ _ ?_; clear hK K)
      | (apply stepU_c
         · intro wq hwq; (have hbq := bcell hwq; (repeat (first | refine fills_no (by rfl) ?_ | refine fills_yes (by rfl) (fun vq hvq => ?_))); simp only [List.filter_nil, fills]; unfold upAt; go_simp; (try go_bits); (try simp only [↓IntWalk.iteOmega]); (try (rw [dif_pos (by omega)]; go_simp; try go_bits)); first | exact upOut_value | (apply upOut_call; (go_at_call 112; exact cS _)) | (apply upOut_eq; (go_at_call 112; exact cS _)))
         go_simp; refine hK _ _ ?_; clear hK K))
    refine wpUp_nil (fun wq hwq => ?_)
    simp only [fills]
    go_wp2
    go_ret
    refine ⟨rfl, ?_⟩
    (repeat (first | exact Up.refl _ | refine Up.alloc ?_ _ | refine Up.drew ?_ | refine Up.set ?_ (by first | exact Nat.le_refl _ | (simp; done) | (simp; omega)) _ | refine Up.trans ?_ (by with_reducible assumption)))
  have cL := fun w => lastI_any k.set w h1
  have cE := fun w => endI_any k.set w h1
  have cC := fun w => clearI_any k.set w h1
  have cK := fun x n w hn => hasI_any k.set n x w h1 hn
  obtain ⟨n1, n2, n3, n4⟩ := setOk_bd h1
  have hcb := clr_bd h1
  have H1 := Lib.hid h1
  rw [h1] at cS
  by_cases h2 : (k.ps.length : Int) > (lastC k.set : Int) - ((clr k.set : Int) + 1)
  · have HV : Hid (validK k = false) := by unfold Hid validK roomOk; rw [h1, decide_eq_false (by omega)]; rfl
    rw [HV.out]
    clear h1 hsome hc3
    simp only [kV, setV] at *
    go_enter Tryz.func76, Tryz.ntmps76
    go_wp2
    refine wp_region_up 14 (by kernel_rfl) (by kernel_rfl) ?_
    simp only [List.take, List.drop]
    repeat (refine wpUp_step (fun K hK => ?_); go_simp; (try simp only [↓IntWalk.iteOmega]); first
      | (refine hK _ _ ?_; clear hK K)
      | (apply stepU_c
         · intro wq hwq; (have hbq := bcell hwq; (repeat (first | refine fills_no (by rfl) ?_ | refine fills_yes (by rfl) (fun vq hvq => ?_))); simp only [List.filter_nil, fills]; unfold upAt; go_simp; (try go_bits); (try simp only [↓IntWalk.iteOmega]); (try (rw [dif_pos (by omega)]; go_simp; try go_bits)); first | exact upOut_value | (apply upOut_call; (go_at_call 112; exact cS _)) | (apply upOut_eq; (go_at_call 112; exact cS _)) | (apply upOut_call; (go_at_call 120; exact cL _)) | (apply upOut_eq; (go_at_call 120; exact cL _)) | (apply upOut_call; (go_at_call 70; exact cE _)) | (apply upOut_eq; (go_at_call 70; exact cE _)))
         go_simp; refine hK _ _ ?_; clear hK K))
    refine wpUp_nil (fun wq hwq => ?_)
    simp only [fills]
    go_wp2
    go_ret
    refine ⟨rfl, ?_⟩
    (repeat (first | exact Up.refl _ | refine Up.alloc ?_ _ | refine Up.drew ?_ | refine Up.set ?_ (by first | exact Nat.le_refl _ | (simp; done) | (simp; omega)) _ | refine Up.trans ?_ (by with_reducible assumption)))
  have HR : Hid (roomOk k = true) := by unfold Hid roomOk; exact decide_eq_true (by omega)
  clear h1
  simp only [kV, setV] at *
  go_enter Tryz.func76, Tryz.ntmps76
  go_wp2
  refine wp_region_up 14 (by kernel_rfl) (by kernel_rfl) ?_
  simp only [List.take, List.drop]
  repeat (refine wpUp_step (fun K hK => ?_); go_simp; (try simp only [↓IntWalk.iteOmega]); first
    | (refine hK _ _ ?_; clear hK K)
    | (apply stepU_c
       · intro wq hwq; (have hbq := bcell hwq; (repeat (first | refine fills_no (by rfl) ?_ | refine fills_yes (by rfl) (fun vq hvq => ?_))); simp only [List.filter_nil, fills]; unfold upAt; go_simp; (try go_bits); (try simp only [↓IntWalk.iteOmega]); (try (rw [dif_pos (by omega)]; go_simp; try go_bits)); first | exact upOut_value | (apply upOut_call; (go_at_call 112; exact cS _)) | (apply upOut_eq; (go_at_call 112; exact cS _)) | (apply upOut_call; (go_at_call 120; exact cL _)) | (apply upOut_eq; (go_at_call 120; exact cL _)) | (apply upOut_call; (go_at_call 70; exact cE _)) | (apply upOut_eq; (go_at_call 70; exact cE _)))
       go_simp; refine hK _ _ ?_; clear hK K))
  refine wpUp_nil (fun wq hwq => ?_)
  simp only [fills]
  have BQ := bcell hwq
  have hU1 : Up w wq := by (repeat (first | exact Up.refl _ | refine Up.alloc ?_ _ | refine Up.drew ?_ | refine Up.set ?_ (by first | exact Nat.le_refl _ | (simp; done) | (simp; omega)) _ | refine Up.trans ?_ (by with_reducible assumption)))
  have hKA : KnAt w.heap.size k (.slice a k.ps.length cap) wq := box_up hwq (box_up ((Up.refl _).alloc _) (MapKept.heap_alloc w _).1)
  have hSA : SetAt (w.heap.size + 1) k.set.ord k.set.lit k.set.most wq := box_up hwq (alloc2 w _ _)
  go_wp2
  go_loopw [25] (fun i wr => RelKg k (.slice a k.ps.length cap) w i wr) (fun i _ => k.ps.length - (intOf i).toNat)
  case atStart => exact ⟨0, Nat.zero_le _, rfl, fun q h hq => absurd hq (Nat.not_lt_zero _), hU1, hKA, hSA⟩
  case round =>
    clear hKA hSA hU1 hwq BQ h2
    obtain ⟨j, hj, rfl, hall, hup, hkn, hst⟩ := hrel
    have HALL := Lib.hid hall
    obtain ⟨b0, r0, r1, r2, r3, r4, r5⟩ := hkn.cells
    obtain ⟨b1, s0, s1, s2⟩ := hst.cells
    have HKN := Lib.hid hkn
    have HST := Lib.hid hst
    clear hkn hst hall
    by_cases hlt : j < k.ps.length
    · obtain ⟨b, off, rfl, hlo, hbl, hcells⟩ := hsome (by omega)
      obtain ⟨q0, q1⟩ := hcells j k.ps[j] (List.getElem?_eq_getElem hlt)
      clear hcells
      have cKj := fun w => cK k.ps[j].pre j w (by omega)
      have p0 := (hup.cell (p := ⟨b, off + j * 2, none⟩) hbl).trans q0
      have p1 := (hup.cell (p := ⟨b, off + j * 2 + 1, none⟩) hbl).trans q1
      have HNO : Hid ((codeOk (clr k.set) j (k.ps[j]).pre = false ∨ (k.ps[j]).byt < 0 ∨ (clr k.set : Int) ≤ (k.ps[j]).byt) → validK k = false) := fun h => validK_pairs (pairsOk_no hlt (pairOk_not h))
      have HYES : Hid (codeOk (clr k.set) j (k.ps[j]).pre = true → 0 ≤ (k.ps[j]).byt → (k.ps[j]).byt < (clr k.set : Int) → ∀ q (h : q < k.ps.length), q < j + 1 → pairOk k.set q k.ps[q] = true) := fun e1 e2 e3 q h hq => by
        rcases Nat.lt_or_ge q j with h' | h'
        · exact HALL.out q h h'
        · have : q = j := by omega
          subst this
          exact pairOk_of e1 e2 e3
      have hbl2 := Nat.lt_of_lt_of_le hbl hup.size
      generalize k.ps[j].pre = xp at *
      generalize k.ps[j].byt = xb at *
      clear cK
      cases hco : codeOk (clr k.set) j xp
      · have HV : Hid (validK k = false) := HNO.out (.inl hco)
        rw [hco] at cKj
        clear hco HNO HYES
        go_wp2
        refine wp_region_up 18 (by kernel_rfl) (by kernel_rfl) ?_
        simp only [List.take, List.drop]
        repeat (refine wpUp_step (fun K hK => ?_); go_simp; (try simp only [↓IntWalk.iteOmega]); first
          | (refine hK _ _ ?_; clear hK K)
          | (apply stepU_c
             · intro wq hwq; (have hbq := bcell hwq; (repeat (first | refine fills_no (by rfl) ?_ | refine fills_yes (by rfl) (fun vq hvq => ?_))); simp only [List.filter_nil, fills]; unfold upAt; go_simp; (try go_bits); (try simp only [↓IntWalk.iteOmega]); (try (rw [dif_pos (by omega)]; go_simp; try go_bits)); first | exact upOut_value | (apply upOut_call; (go_at_call 142; exact cKj _)) | (apply upOut_eq; (go_at_call 142; exact cKj _)) | (apply upOut_call; (go_at_call 52; exact cC _)) | (apply upOut_eq; (go_at_call 52; exact cC _)))
             go_simp; refine hK _ _ ?_; clear hK K))
        refine wpUp_nil (fun wq hwq => ?_)
        simp only [fills]
        go_wp2
        go_ret
        refine ⟨by rw [HV.out]; rfl, ?_⟩
        (repeat (first | exact Up.refl _ | refine Up.alloc ?_ _ | refine Up.drew ?_ | refine Up.set ?_ (by first | exact Nat.le_refl _ | (simp; done) | (simp; omega)) _ | refine Up.trans ?_ (by with_reducible assumption)))
      · rw [hco] at cKj
        by_cases hx0 : xb < 0
        · have HV : Hid (validK k = false) := HNO.out (.inr (.inl hx0))
          clear hco HNO HYES
          go_wp2
          refine wp_region_up 18 (by kernel_rfl) (by kernel_rfl) ?_
          simp only [List.take, List.drop]
          repeat (refine wpUp_step (fun K hK => ?_); go_simp; (try simp only [↓IntWalk.iteOmega]); first
            | (refine hK _ _ ?_; clear hK K)
            | (apply stepU_c
               · intro wq hwq; (have hbq := bcell hwq; (repeat (first | refine fills_no (by rfl) ?_ | refine fills_yes (by rfl) (fun vq hvq => ?_))); simp only [List.filter_nil, fills]; unfold upAt; go_simp; (try go_bits); (try simp only [↓IntWalk.iteOmega]); (try (rw [dif_pos (by omega)]; go_simp; try go_bits)); first | exact upOut_value | (apply upOut_call; (go_at_call 142; exact cKj _)) | (apply upOut_eq; (go_at_call 142; exact cKj _)) | (apply upOut_call; (go_at_call 52; exact cC _)) | (apply upOut_eq; (go_at_call 52; exact cC _)))
               go_simp; refine hK _ _ ?_; clear hK K))
          refine wpUp_nil (fun wq hwq => ?_)
          simp only [fills]
          go_wp2
          go_ret
          refine ⟨by rw [HV.out]; rfl, ?_⟩
          (repeat (first | exact Up.refl _ | refine Up.alloc ?_ _ | refine Up.drew ?_ | refine Up.set ?_ (by first | exact Nat.le_refl _ | (simp; done) | (simp; omega)) _ | refine Up.trans ?_ (by with_reducible assumption)))
        · by_cases hxc : xb ≥ (clr k.set : Int)
          · have HV : Hid (validK k = false) := HNO.out (.inr (.inr hxc))
            clear hco HNO HYES
            go_wp2
            refine wp_region_up 18 (by kernel_rfl) (by kernel_rfl) ?_
            simp only [List.take, List.drop]
            repeat (refine wpUp_step (fun K hK => ?_); go_simp; (try simp only [↓IntWalk.iteOmega]); first
              | (refine hK _ _ ?_; clear hK K)
              | (apply stepU_c
                 · intro wq hwq; (have hbq := bcell hwq; (repeat (first | refine fills_no (by rfl) ?_ | refine fills_yes (by rfl) (fun vq hvq => ?_))); simp only [List.filter_nil, fills]; unfold upAt; go_simp; (try go_bits); (try simp only [↓IntWalk.iteOmega]); (try (rw [dif_pos (by omega)]; go_simp; try go_bits)); first | exact upOut_value | (apply upOut_call; (go_at_call 142; exact cKj _)) | (apply upOut_eq; (go_at_call 142; exact cKj _)) | (apply upOut_call; (go_at_call 52; exact cC _)) | (apply upOut_eq; (go_at_call 52; exact cC _)))
                 go_simp; refine hK _ _ ?_; clear hK K))
            refine wpUp_nil (fun wq hwq => ?_)
            simp only [fills]
            go_wp2
            go_ret
            refine ⟨by rw [HV.out]; rfl, ?_⟩
            (repeat (first | exact Up.refl _ | refine Up.alloc ?_ _ | refine Up.drew ?_ | refine Up.set ?_ (by first | exact Nat.le_refl _ | (simp; done) | (simp; omega)) _ | refine Up.trans ?_ (by with_reducible assumption)))
          · have HY : Hid (∀ q (h : q < k.ps.length), q < j + 1 → pairOk k.set q k.ps[q] = true) := HYES.out hco (by omega) (by omega)
            clear hco HNO HYES
            go_wp2
            refine wp_region_up 18 (by kernel_rfl) (by kernel_rfl) ?_
            simp only [List.take, List.drop]
            repeat (refine wpUp_step (fun K hK => ?_); go_simp; (try simp only [↓IntWalk.iteOmega]); first
              | (refine hK _ _ ?_; clear hK K)
              | (apply stepU_c
                 · intro wq hwq; (have hbq := bcell hwq; (repeat (first | refine fills_no (by rfl) ?_ | refine fills_yes (by rfl) (fun vq hvq => ?_))); simp only [List.filter_nil, fills]; unfold upAt; go_simp; (try go_bits); (try simp only [↓IntWalk.iteOmega]); (try (rw [dif_pos (by omega)]; go_simp; try go_bits)); first | exact upOut_value | (apply upOut_call; (go_at_call 142; exact cKj _)) | (apply upOut_eq; (go_at_call 142; exact cKj _)) | (apply upOut_call; (go_at_call 52; exact cC _)) | (apply upOut_eq; (go_at_call 52; exact cC _)))
                 go_simp; refine hK _ _ ?_; clear hK K))
            refine wpUp_nil (fun wq hwq => ?_)
            simp only [fills]
            go_wp2
            go_roundw
            case rel => exact ⟨j + 1, by omega, by go_num, HY.out, by (repeat (first | exact Up.refl _ | refine Up.alloc ?_ _ | refine Up.drew ?_ | refine Up.set ?_ (by first | exact Nat.le_refl _ | (simp; done) | (simp; omega)) _ | refine Up.trans ?_ (by with_reducible assumption))), box_up hwq (box_up ((Up.refl _).alloc _) HKN.out), box_up hwq (box_up ((Up.refl _).alloc _) HST.out)⟩
            case measure => simp [intOf]; omega
    · have HP : Hid (pairsOk k = true) := pairsOk_yes fun q h => HALL.out q h (by omega)
      by_cases hb1 : k.base < 0
      · have HV : Hid (validK k = false) := validK_base (inB_not.2 (.inl hb1))
        go_wp2
        go_ret
        refine ⟨by rw [HV.out]; rfl, ?_⟩
        (repeat (first | exact Up.refl _ | refine Up.alloc ?_ _ | refine Up.drew ?_ | refine Up.set ?_ (by first | exact Nat.le_refl _ | (simp; done) | (simp; omega)) _ | refine Up.trans ?_ (by with_reducible assumption)))
      by_cases hb2 : k.base > (k.ps.length : Int)
      · have HV : Hid (validK k = false) := validK_base (inB_not.2 (.inr hb2))
        go_wp2
        go_ret
        refine ⟨by rw [HV.out]; rfl, ?_⟩
        (repeat (first | exact Up.refl _ | refine Up.alloc ?_ _ | refine Up.drew ?_ | refine Up.set ?_ (by first | exact Nat.le_refl _ | (simp; done) | (simp; omega)) _ | refine Up.trans ?_ (by with_reducible assumption)))
      have HV : Hid (validK k = lastOk k) := validK_last H1.out HR.out HP.out (inB_iff.2 ⟨by omega, by omega⟩)
      by_cases hla : k.last = -1
      · have HL : Hid (lastOk k = decide (k.base = k.ps.length)) := by unfold Hid lastOk; rw [if_pos hla]
        rw [hla] at r5
        clear hla
        go_wp2
        go_ret
        refine ⟨by rw [HV.out, HL.out]; rfl, ?_⟩
        (repeat (first | exact Up.refl _ | refine Up.alloc ?_ _ | refine Up.drew ?_ | refine Up.set ?_ (by first | exact Nat.le_refl _ | (simp; done) | (simp; omega)) _ | refine Up.trans ?_ (by with_reducible assumption)))
      · have HL : Hid (lastOk k = codeOk (clr k.set) k.ps.length k.last) := by unfold Hid lastOk; rw [if_neg hla]
        have cKj := fun w => cK k.last k.ps.length w (by omega)
        go_wp2_with (first | (go_at_call 142; (with_reducible refine (cKj _).mono ?_); rintro e w1 ⟨rfl, U1⟩; have B1 := bcell U1; have Z1 := U1.size; (try simp at Z1); (try rw [Nat.add_one_le_iff] at Z1)))
        go_ret
        refine ⟨by rw [HV.out, HL.out]; rfl, ?_⟩
        (repeat (first | exact Up.refl _ | refine Up.alloc ?_ _ | refine Up.drew ?_ | refine Up.set ?_ (by first | exact Nat.le_refl _ | (simp; done) | (simp; omega)) _ | refine Up.trans ?_ (by with_reducible assumption)))

set_option maxRecDepth 100000 in
set_option maxHeartbeats 8000000 in
theorem kvS_gen (k : KnD) (v : Value) (lo : Nat) (w : World) (hr : RdP lo w v k.ps) (hps : k.ps.length ≤ 1073741824) :
    Calls Tryz.prog 123  #[kV k v] w (Same (.bool (validK k)) w) := by
  have cS := fun w => setS_any k.set.ord k.set.lit k.set.most w
  rw [setD_eta] at cS
  have hrt := fun (wq : World) (hu : Up w wq) => hr.up hu
  obtain ⟨a, cap, rfl, hc1, hc2, hc3, hsome⟩ := hr
  unfold maxLen at hc2
  cases h1 : setOk k.set
  · have HV : Hid (validK k = false) := by unfold Hid validK; rw [h1]; rfl
    rw [h1] at cS
    rw [HV.out]
    clear h1 hsome hc3
    simp only [kV, setV] at *
    go_enter Tryz.func123, Tryz.ntmps123
    go_wp2
    refine wp_region_up 23 (by kernel_rfl) (by kernel_rfl) ?_
    simp only [List.take, List.drop]
    repeat (refine wpUp_step (fun K hK => ?_); go_simp; (try simp only [↓IntWalk.iteOmega]); first
      | (refine hK _ _ ?_; clear hK K)
      | (apply stepU_c
         · intro wq hwq; (have hbq := bcell hwq; (repeat (first | refine fills_no (by rfl) ?_ | refine fills_yes (by rfl) (fun vq hvq => ?_))); simp only [List.filter_nil, fills]; unfold upAt; go_simp; (try go_bits); (try simp only [↓IntWalk.iteOmega]); (try (rw [dif_pos (by omega)]; go_simp; try go_bits)); first | exact upOut_value | (apply upOut_call; (go_at_call 126; exact cS _)) | (apply upOut_eq; (go_at_call 126; exact cS _)))
         go_simp; refine hK _ _ ?_; clear hK K))
    refine wpUp_nil (fun wq hwq => ?_)
    simp only [fills]
    go_wp2
    go_ret
    refine ⟨rfl, ?_⟩
    (repeat (first | exact Up.refl _ | refine Up.alloc ?_ _ | refine Up.drew ?_ | refine Up.set ?_ (by first | exact Nat.le_refl _ | (simp; done) | (simp; omega)) _ | refine Up.trans ?_ (by with_reducible assumption)))
  have cL := fun w => l1Last_any k.set w h1
  have cE := fun w => l1End_any k.set w h1
  have cC := fun w => l1Clear_any k.set w h1
  have cK := fun x n w hn => l2Code_any k.set x n w h1 hn
  have cI := fun a b c w => l1In_any a b c w
  have cIb := fun w => l1In_any k.base 0 (k.ps.length : Int) w
  obtain ⟨n1, n2, n3, n4⟩ := setOk_bd h1
  have hcb := clr_bd h1
  have H1 := Lib.hid h1
  rw [h1] at cS
  by_cases h2 : (k.ps.length : Int) > (lastC k.set : Int) - ((clr k.set : Int) + 1)
  · have HV : Hid (validK k = false) := by unfold Hid validK roomOk; rw [h1, decide_eq_false (by omega)]; rfl
    rw [HV.out]
    clear h1 hsome hc3
    simp only [kV, setV] at *
    go_enter Tryz.func123, Tryz.ntmps123
    go_wp2
    refine wp_region_up 23 (by kernel_rfl) (by kernel_rfl) ?_
    simp only [List.take, List.drop]
    repeat (refine wpUp_step (fun K hK => ?_); go_simp; (try simp only [↓IntWalk.iteOmega]); first
      | (refine hK _ _ ?_; clear hK K)
      | (apply stepU_c
         · intro wq hwq; (have hbq := bcell hwq; (repeat (first | refine fills_no (by rfl) ?_ | refine fills_yes (by rfl) (fun vq hvq => ?_))); simp only [List.filter_nil, fills]; unfold upAt; go_simp; (try go_bits); (try simp only [↓IntWalk.iteOmega]); (try (rw [dif_pos (by omega)]; go_simp; try go_bits)); first | exact upOut_value | (apply upOut_call; (go_at_call 126; exact cS _)) | (apply upOut_eq; (go_at_call 126; exact cS _)) | (apply upOut_call; (go_at_call 132; exact cL _)) | (apply upOut_eq; (go_at_call 132; exact cL _)) | (apply upOut_call; (go_at_call 151; exact cE _)) | (apply upOut_eq; (go_at_call 151; exact cE _)))
         go_simp; refine hK _ _ ?_; clear hK K))
    refine wpUp_nil (fun wq hwq => ?_)
    simp only [fills]
    go_wp2
    go_ret
    refine ⟨rfl, ?_⟩
    (repeat (first | exact Up.refl _ | refine Up.alloc ?_ _ | refine Up.drew ?_ | refine Up.set ?_ (by first | exact Nat.le_refl _ | (simp; done) | (simp; omega)) _ | refine Up.trans ?_ (by with_reducible assumption)))
  have HR : Hid (roomOk k = true) := by unfold Hid roomOk; exact decide_eq_true (by omega)
  cases hb : inB k.base 0 (k.ps.length : Int)
  · have HV : Hid (validK k = false) := validK_base hb
    rw [hb] at cIb
    rw [HV.out]
    clear h1 hsome hc3 hb
    simp only [kV, setV] at *
    go_enter Tryz.func123, Tryz.ntmps123
    go_wp2
    refine wp_region_up 23 (by kernel_rfl) (by kernel_rfl) ?_
    simp only [List.take, List.drop]
    repeat (refine wpUp_step (fun K hK => ?_); go_simp; (try simp only [↓IntWalk.iteOmega]); first
      | (refine hK _ _ ?_; clear hK K)
      | (apply stepU_c
         · intro wq hwq; (have hbq := bcell hwq; (repeat (first | refine fills_no (by rfl) ?_ | refine fills_yes (by rfl) (fun vq hvq => ?_))); simp only [List.filter_nil, fills]; unfold upAt; go_simp; (try go_bits); (try simp only [↓IntWalk.iteOmega]); (try (rw [dif_pos (by omega)]; go_simp; try go_bits)); first | exact upOut_value | (apply upOut_call; (go_at_call 126; exact cS _)) | (apply upOut_eq; (go_at_call 126; exact cS _)) | (apply upOut_call; (go_at_call 132; exact cL _)) | (apply upOut_eq; (go_at_call 132; exact cL _)) | (apply upOut_call; (go_at_call 151; exact cE _)) | (apply upOut_eq; (go_at_call 151; exact cE _)) | (apply upOut_call; (go_at_call 170; exact cIb _)) | (apply upOut_eq; (go_at_call 170; exact cIb _)))
         go_simp; refine hK _ _ ?_; clear hK K))
    refine wpUp_nil (fun wq hwq => ?_)
    simp only [fills]
    go_wp2
    go_ret
    refine ⟨rfl, ?_⟩
    (repeat (first | exact Up.refl _ | refine Up.alloc ?_ _ | refine Up.drew ?_ | refine Up.set ?_ (by first | exact Nat.le_refl _ | (simp; done) | (simp; omega)) _ | refine Up.trans ?_ (by with_reducible assumption)))
  have HB := Lib.hid hb
  rw [hb] at cIb
  clear h1 hb
  simp only [kV, setV] at *
  go_enter Tryz.func123, Tryz.ntmps123
  go_wp2
  refine wp_region_up 23 (by kernel_rfl) (by kernel_rfl) ?_
  simp only [List.take, List.drop]
  repeat (refine wpUp_step (fun K hK => ?_); go_simp; (try simp only [↓IntWalk.iteOmega]); first
    | (refine hK _ _ ?_; clear hK K)
    | (apply stepU_c
       · intro wq hwq; (have hbq := bcell hwq; (repeat (first | refine fills_no (by rfl) ?_ | refine fills_yes (by rfl) (fun vq hvq => ?_))); simp only [List.filter_nil, fills]; unfold upAt; go_simp; (try go_bits); (try simp only [↓IntWalk.iteOmega]); (try (rw [dif_pos (by omega)]; go_simp; try go_bits)); first | exact upOut_value | (apply upOut_call; (go_at_call 126; exact cS _)) | (apply upOut_eq; (go_at_call 126; exact cS _)) | (apply upOut_call; (go_at_call 132; exact cL _)) | (apply upOut_eq; (go_at_call 132; exact cL _)) | (apply upOut_call; (go_at_call 151; exact cE _)) | (apply upOut_eq; (go_at_call 151; exact cE _)) | (apply upOut_call; (go_at_call 170; exact cIb _)) | (apply upOut_eq; (go_at_call 170; exact cIb _)))
       go_simp; refine hK _ _ ?_; clear hK K))
  refine wpUp_nil (fun wq hwq => ?_)
  simp only [fills]
  have BQ := bcell hwq
  go_wp2
  have hU1 : Up w wq := by (repeat (first | exact Up.refl _ | refine Up.alloc ?_ _ | refine Up.drew ?_ | refine Up.set ?_ (by first | exact Nat.le_refl _ | (simp; done) | (simp; omega)) _ | refine Up.trans ?_ (by with_reducible assumption)))
  have hKA : KnAt w.heap.size k (.slice a k.ps.length cap) wq := box_up hwq (box_up ((Up.refl _).alloc _) (MapKept.heap_alloc w _).1)
  have hSA : SetAt (w.heap.size + 1) k.set.ord k.set.lit k.set.most wq := box_up hwq (alloc2 w _ _)
  go_loopw [4] (fun i wr => RelKg k (.slice a k.ps.length cap) w i wr) (fun i _ => k.ps.length - (intOf i).toNat)
  case atStart => exact ⟨0, Nat.zero_le _, rfl, fun q h hq => absurd hq (Nat.not_lt_zero _), hU1, hKA, hSA⟩
  case round =>
    clear hKA hSA hU1 hwq BQ h2 cIb
    obtain ⟨j, hj, rfl, hall, hup, hkn, hst⟩ := hrel
    have HALL := Lib.hid hall
    obtain ⟨b0, r0, r1, r2, r3, r4, r5⟩ := hkn.cells
    obtain ⟨b1, s0, s1, s2⟩ := hst.cells
    have HKN := Lib.hid hkn
    have HST := Lib.hid hst
    clear hkn hst hall
    by_cases hlt : j < k.ps.length
    · obtain ⟨b, off, rfl, hlo, hbl, hcells⟩ := hsome (by omega)
      obtain ⟨q0, q1⟩ := hcells j k.ps[j] (List.getElem?_eq_getElem hlt)
      clear hcells
      have cKj := fun w => cK k.ps[j].pre j w (by omega)
      have cIj := fun w => l1In_any k.ps[j].byt 0 ((clr k.set : Int) - 1) w
      have HNO : Hid ((codeOk (clr k.set) j (k.ps[j]).pre = false ∨ (k.ps[j]).byt < 0 ∨ (clr k.set : Int) ≤ (k.ps[j]).byt) → validK k = false) := fun h => validK_pairs (pairsOk_no hlt (pairOk_not h))
      have HYES : Hid (codeOk (clr k.set) j (k.ps[j]).pre = true → 0 ≤ (k.ps[j]).byt → (k.ps[j]).byt < (clr k.set : Int) → ∀ q (h : q < k.ps.length), q < j + 1 → pairOk k.set q k.ps[q] = true) := fun e1 e2 e3 q h hq => by
        rcases Nat.lt_or_ge q j with h' | h'
        · exact HALL.out q h h'
        · have : q = j := by omega
          subst this
          exact pairOk_of e1 e2 e3
      generalize k.ps[j].pre = xp at *
      generalize k.ps[j].byt = xb at *
      clear cK
      cases hco : codeOk (clr k.set) j xp
      · have HV : Hid (validK k = false) := HNO.out (.inl hco)
        rw [hco] at cKj
        clear hco HNO HYES
        go_wp2
        refine wp_region_up 23 (by kernel_rfl) (by kernel_rfl) ?_
        simp only [List.take, List.drop]
        repeat (refine wpUp_step (fun K hK => ?_); go_simp; (try simp only [↓IntWalk.iteOmega]); first
          | (refine hK _ _ ?_; clear hK K)
          | (apply stepU_c
             · intro wq hwq; (have hbq := bcell hwq; (repeat (first | refine fills_no (by rfl) ?_ | refine fills_yes (by rfl) (fun vq hvq => ?_))); simp only [List.filter_nil, fills]; unfold upAt; (try ((have e0 := ((hup.trans hwq).cell (p := ⟨b, off + j * 2, none⟩) hbl).trans q0; have e1 := ((hup.trans hwq).cell (p := ⟨b, off + j * 2 + 1, none⟩) hbl).trans q1))); go_simp; (try go_bits); (try simp only [↓IntWalk.iteOmega]); (try (rw [dif_pos (by omega)]; go_simp; try go_bits)); first | exact upOut_value | (apply upOut_call; (go_at_call 176; exact cKj _)) | (apply upOut_eq; (go_at_call 176; exact cKj _)) | (apply upOut_call; (go_at_call 109; exact cC _)) | (apply upOut_eq; (go_at_call 109; exact cC _)) | (apply upOut_call; (go_at_call 170; exact cIj _)) | (apply upOut_eq; (go_at_call 170; exact cIj _)))
             go_simp; refine hK _ _ ?_; clear hK K))
        refine wpUp_nil (fun wq hwq => ?_)
        simp only [fills]
        go_wp2
        go_ret
        refine ⟨by rw [HV.out]; rfl, ?_⟩
        (repeat (first | exact Up.refl _ | refine Up.alloc ?_ _ | refine Up.drew ?_ | refine Up.set ?_ (by first | exact Nat.le_refl _ | (simp; done) | (simp; omega)) _ | refine Up.trans ?_ (by with_reducible assumption)))
      · rw [hco] at cKj
        cases hi : inB xb 0 ((clr k.set : Int) - 1)
        · have HV : Hid (validK k = false) := HNO.out (.inr (by rcases inB_not.1 hi with h | h; exact .inl h; exact .inr (by omega)))
          rw [hi] at cIj
          clear hco HNO HYES hi
          go_wp2
          refine wp_region_up 23 (by kernel_rfl) (by kernel_rfl) ?_
          simp only [List.take, List.drop]
          repeat (refine wpUp_step (fun K hK => ?_); go_simp; (try simp only [↓IntWalk.iteOmega]); first
            | (refine hK _ _ ?_; clear hK K)
            | (apply stepU_c
               · intro wq hwq; (have hbq := bcell hwq; (repeat (first | refine fills_no (by rfl) ?_ | refine fills_yes (by rfl) (fun vq hvq => ?_))); simp only [List.filter_nil, fills]; unfold upAt; (try ((have e0 := ((hup.trans hwq).cell (p := ⟨b, off + j * 2, none⟩) hbl).trans q0; have e1 := ((hup.trans hwq).cell (p := ⟨b, off + j * 2 + 1, none⟩) hbl).trans q1))); go_simp; (try go_bits); (try simp only [↓IntWalk.iteOmega]); (try (rw [dif_pos (by omega)]; go_simp; try go_bits)); first | exact upOut_value | (apply upOut_call; (go_at_call 176; exact cKj _)) | (apply upOut_eq; (go_at_call 176; exact cKj _)) | (apply upOut_call; (go_at_call 109; exact cC _)) | (apply upOut_eq; (go_at_call 109; exact cC _)) | (apply upOut_call; (go_at_call 170; exact cIj _)) | (apply upOut_eq; (go_at_call 170; exact cIj _)))
               go_simp; refine hK _ _ ?_; clear hK K))
          refine wpUp_nil (fun wq hwq => ?_)
          simp only [fills]
          go_wp2
          go_ret
          refine ⟨by rw [HV.out]; rfl, ?_⟩
          (repeat (first | exact Up.refl _ | refine Up.alloc ?_ _ | refine Up.drew ?_ | refine Up.set ?_ (by first | exact Nat.le_refl _ | (simp; done) | (simp; omega)) _ | refine Up.trans ?_ (by with_reducible assumption)))
        · have hi2 := inB_iff.1 hi
          have HY : Hid (∀ q (h : q < k.ps.length), q < j + 1 → pairOk k.set q k.ps[q] = true) := HYES.out hco hi2.1 (by omega)
          rw [hi] at cIj
          clear hco HNO HYES hi hi2
          go_wp2
          refine wp_region_up 23 (by kernel_rfl) (by kernel_rfl) ?_
          simp only [List.take, List.drop]
          repeat (refine wpUp_step (fun K hK => ?_); go_simp; (try simp only [↓IntWalk.iteOmega]); first
            | (refine hK _ _ ?_; clear hK K)
            | (apply stepU_c
               · intro wq hwq; (have hbq := bcell hwq; (repeat (first | refine fills_no (by rfl) ?_ | refine fills_yes (by rfl) (fun vq hvq => ?_))); simp only [List.filter_nil, fills]; unfold upAt; (try ((have e0 := ((hup.trans hwq).cell (p := ⟨b, off + j * 2, none⟩) hbl).trans q0; have e1 := ((hup.trans hwq).cell (p := ⟨b, off + j * 2 + 1, none⟩) hbl).trans q1))); go_simp; (try go_bits); (try simp only [↓IntWalk.iteOmega]); (try (rw [dif_pos (by omega)]; go_simp; try go_bits)); first | exact upOut_value | (apply upOut_call; (go_at_call 176; exact cKj _)) | (apply upOut_eq; (go_at_call 176; exact cKj _)) | (apply upOut_call; (go_at_call 109; exact cC _)) | (apply upOut_eq; (go_at_call 109; exact cC _)) | (apply upOut_call; (go_at_call 170; exact cIj _)) | (apply upOut_eq; (go_at_call 170; exact cIj _)))
               go_simp; refine hK _ _ ?_; clear hK K))
          refine wpUp_nil (fun wq hwq => ?_)
          simp only [fills]
          go_wp2
          go_roundw
          case rel => exact ⟨j + 1, by omega, by go_num, HY.out, by (repeat (first | exact Up.refl _ | refine Up.alloc ?_ _ | refine Up.drew ?_ | refine Up.set ?_ (by first | exact Nat.le_refl _ | (simp; done) | (simp; omega)) _ | refine Up.trans ?_ (by with_reducible assumption))), box_up hwq HKN.out, box_up hwq HST.out⟩
          case measure => simp [intOf]; omega
    · have HP : Hid (pairsOk k = true) := pairsOk_yes fun q h => HALL.out q h (by omega)
      have HV : Hid (validK k = lastOk k) := validK_last H1.out HR.out HP.out HB.out
      by_cases hla : k.last = -1
      · have HL : Hid (lastOk k = decide (k.base = k.ps.length)) := by unfold Hid lastOk; rw [if_pos hla]
        have cKj := fun w => cK (-1) k.ps.length w (by omega)
        have hno : codeOk (clr k.set) k.ps.length (-1) = false := by rw [← Bool.not_eq_true, codeOk_iff]; omega
        rw [hno] at cKj
        rw [hla] at r5
        clear hno hla
        go_wp2_with (first | (go_at_call 176; (with_reducible refine (cKj _).mono ?_); rintro e w1 ⟨rfl, U1⟩; have B1 := bcell U1; have Z1 := U1.size; (try simp at Z1); (try rw [Nat.add_one_le_iff] at Z1)))
        go_ret
        refine ⟨by rw [HV.out, HL.out]; rfl, ?_⟩
        (repeat (first | exact Up.refl _ | refine Up.alloc ?_ _ | refine Up.drew ?_ | refine Up.set ?_ (by first | exact Nat.le_refl _ | (simp; done) | (simp; omega)) _ | refine Up.trans ?_ (by with_reducible assumption)))
      · have HL : Hid (lastOk k = codeOk (clr k.set) k.ps.length k.last) := by unfold Hid lastOk; rw [if_neg hla]
        have cKj := fun w => cK k.last k.ps.length w (by omega)
        have hl1 : (k.last == -1) = false := by simpa using hla
        cases hco : codeOk (clr k.set) k.ps.length k.last
        all_goals
          rw [hco] at cKj
          have HC := Lib.hid hco
          clear hco
          go_wp2_with (first | (go_at_call 176; (with_reducible refine (cKj _).mono ?_); rintro e w1 ⟨rfl, U1⟩; have B1 := bcell U1; have Z1 := U1.size; (try simp at Z1); (try rw [Nat.add_one_le_iff] at Z1)))
          go_ret
          refine ⟨by rw [HV.out, HL.out, HC.out]; rfl, ?_⟩
          (repeat (first | exact Up.refl _ | refine Up.alloc ?_ _ | refine Up.drew ?_ | refine Up.set ?_ (by first | exact Nat.le_refl _ | (simp; done) | (simp; omega)) _ | refine Up.trans ?_ (by with_reducible assumption)))

end Go.Proofs.YtiiahjnfbhcgmaaGreatDoor
