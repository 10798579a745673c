/- Texts joined into one: the walks and laws that the last text leans on. Conditions: as each says. -/
import Derived.Test.YtiiahjnfbhcgmaaDoorKvG
import Derived.Test.YtiiahjnfbhcgmaaDoorRd
import Derived.Test.YtiiahjnfbhcgmaaDoorCleared
import Derived.Test.YtiiahjnfbhcgmaaDoorMFnExactFormatWriterLawB
import Derived.Test.YtiiahjnfbhcgmaaDoorMFnExactFormatWriterLawD
import Derived.Lib.AtoiTie
import Derived.Test.YtiiahjnfbhcgmaaDoorSets
import Derived.Test.YtiiahjnfbhcgmaaDoorUg
import Derived.Test.YtiiahjnfbhcgmaaDoorWk
import Derived.Test.YtiiahjnfbhcgmaaDoorWrp
import Derived.Test.YtiiahjnfbhcgmaaDoorPk2
import Derived.Test.YtiiahjnfbhcgmaaDoorComp
import Derived.Test.YtiiahjnfbhcgmaaDoorStartW

set_option linter.unusedVariables false
set_option linter.unusedSimpArgs false
/- Plain facts: what is valid is what the walks ask; pairs are read on after draws. Conditions: none. -/
namespace Go.Proofs.YtiiahjnfbhcgmaaDoor
set_option linter.unusedVariables false
set_option linter.unusedSimpArgs false
open Go Go.RowKit

theorem ok_of_valid {k : KnD} (h : validK k = true) : k.Ok ∧ (k.last = -1 → k.base = k.ps.length) := by
  unfold validK at h
  simp only [Bool.and_eq_true] at h
  obtain ⟨h1, h2, h3, h4, h5⟩ := h
  have hc := clr_bd h1
  unfold roomOk at h2
  rw [decide_eq_true_eq] at h2
  rw [inB_iff] at h4
  refine ⟨⟨h1, fun i hi => ?_, ?_, h4.1, h4.2, ?_⟩, fun hl => ?_⟩
  · rw [prOk_get hi]
    unfold pairsOk at h3
    rw [List.all_eq_true] at h3
    have := h3 i (List.mem_range.2 hi)
    rw [List.getD_eq_getElem?_getD, List.getElem?_eq_getElem hi, Option.getD_some] at this
    exact this
  · show k.ps.length + clr k.set + 1 ≤ lastC k.set
    omega
  · unfold lastOk at h5
    split at h5
    · exact .inl ‹_›
    · exact .inr h5
  · unfold lastOk at h5
    rw [if_pos hl] at h5
    simpa using h5

theorem RdP.gr {lo rb : Nat} {w w' : World} {v : Value} {ps : List PairD} (h : RdP lo w v ps) (hg : w.grownBy w' (some rb)) (hl : rb < lo) : RdP lo w' v ps := by
  obtain ⟨a, cap, h1, h2, h2', h2'', h3⟩ := h
  refine ⟨a, cap, h1, h2, h2', h2'', fun hp => ?_⟩
  obtain ⟨b, off, e1, e2, e4, e5⟩ := h3 hp
  have hne : some b ≠ some rb := fun e => by cases e; omega
  exact ⟨b, off, e1, e2, Nat.lt_of_lt_of_le e4 hg.size, fun i p hi => ⟨((gcell hg).1 b _ e4 hne).trans (e5 i p hi).1, ((gcell hg).1 b _ e4 hne).trans (e5 i p hi).2⟩⟩
theorem RdP.set {lo : Nat} {w : World} {v : Value} {ps : List PairD} (h : RdP lo w v ps) {b : Nat} (hl : b < lo) (i : Nat) (u : Value) : RdP lo (w.setCell ⟨b, i, none⟩ u) v ps :=
  h.gr (grownBy_set (grownBy_refl w (some b)) i u) hl

end Go.Proofs.YtiiahjnfbhcgmaaDoor

/- Plain: the texts of settings and of what is known, and reading them. Conditions: none. -/
namespace Go.Proofs.YtiiahjnfbhcgmaaDoor
set_option linter.unusedVariables false
set_option linter.unusedSimpArgs false
open Go

def ordT (o : Int) : List UInt8 := if o = 1 then [104, 105, 103, 104] else [108, 111, 119]
def setL (s : SetD) : List UInt8 := Lib.join [ordT s.ord, Lib.itoa s.lit, Lib.itoa s.most] [32]
theorem join3_len (a b c : List UInt8) (s : UInt8) : (Lib.join [a, b, c] [s]).length = a.length + b.length + c.length + 2 := by
  simp [Lib.join_cons, Lib.joinTail]; omega
theorem join4_len (a b c d : List UInt8) (s : UInt8) : (Lib.join [a, b, c, d] [s]).length = a.length + b.length + c.length + d.length + 3 := by
  simp [Lib.join_cons, Lib.joinTail]; omega
/-- What FormatSetting returns. -/
def fmtSet (s : SetD) : List UInt8 := if setOk s then setL s else []
theorem setOk_small {s : SetD} (h : setOk s = true) : (s.ord = 0 ∨ s.ord = 1) ∧ 1 ≤ s.lit ∧ s.lit ≤ 8 ∧ 3 ≤ s.most ∧ s.most ≤ 10 := by
  obtain ⟨h1, h2, h3, h4⟩ := setOk_bd h
  exact ⟨h1, h2.1, h2.2, by omega, h4⟩
theorem fmtSet_le (s : SetD) : (fmtSet s).length ≤ 50 := by
  unfold fmtSet
  split
  · rename_i h
    obtain ⟨h1, h2, h3, h4, h5⟩ := setOk_small h
    have e1 := itoa_le (n := s.lit) (by omega) (by omega)
    have e2 := itoa_le (n := s.most) (by omega) (by omega)
    have e3 : (ordT s.ord).length ≤ 4 := by unfold ordT; split <;> decide
    unfold setL
    rw [join3_len]
    omega
  · simp

/-- The text of a pair. -/
def pairT (p : PairD) : List UInt8 := Lib.itoa p.pre ++ 46 :: Lib.itoa p.byt
def prsT (ps : List PairD) : List UInt8 := Lib.join (ps.map pairT) [44]
def knL (k : KnD) : List UInt8 := Lib.join [fmtSet k.set, Lib.itoa k.base, Lib.itoa k.last, someL (prsT k.ps)] [59]
/-- What FormatKnown returns. -/
def fmtK (k : KnD) : List UInt8 := if validK k then knL k else []
/-- The bounds of what is known and valid. -/
theorem validK_small {k : KnD} (h : validK k = true) : setOk k.set = true ∧ k.ps.length ≤ 1024 ∧ (0 ≤ k.base ∧ k.base ≤ 1024) ∧ (-1 ≤ k.last ∧ k.last ≤ 2000) ∧ ∀ p ∈ k.ps, 0 ≤ p.pre ∧ p.pre ≤ 2000 ∧ 0 ≤ p.byt ∧ p.byt ≤ 255 := by
  obtain ⟨hok, -⟩ := ok_of_valid h
  have h1 := hok.c_bd
  have h2 := hok.len
  have h3 := hok.base0
  have h4 := hok.base1
  have hcb := clr_bd hok.set
  refine ⟨hok.set, by omega, by omega, ?_, fun p hp => ?_⟩
  · rcases hok.last with e | e
    · omega
    · rw [codeOk_iff] at e; omega
  · obtain ⟨i, hi, rfl⟩ := List.getElem_of_mem hp
    obtain ⟨a, b, c⟩ := hok.ps.get hi
    rw [codeOk_iff] at a
    omega
end Go.Proofs.YtiiahjnfbhcgmaaDoor

/- FormatSetting and FormatKnown of the reference. Conditions: the pairs can be read, at most 2^30. -/
namespace Go.Proofs.YtiiahjnfbhcgmaaDoor
set_option linter.unusedVariables false
set_option linter.unusedSimpArgs false
open Go Go.RowKit

theorem setL_bs (s : SetD) : ((bs (ordT s.ord) ++ (⟨#[32]⟩ : ByteArray)) ++ bs (Lib.itoa s.lit) ++ (⟨#[32]⟩ : ByteArray)) ++ bs (Lib.itoa s.most) = bs (setL s) := by
  rw [show (⟨#[32]⟩ : ByteArray) = bs [32] from rfl]
  simp [bs_app, setL, Lib.join_cons, Lib.joinTail]
set_option maxRecDepth 100000 in
set_option maxHeartbeats 1000000 in
theorem fsetS_any (s : SetD) (w : World) : Calls Tryd.prog 65  #[setV s] w (Same (.string (bs (fmtSet s))) w) := by
  have cS := fun w => setS_any s.ord s.lit s.most w
  rw [setD_eta] at cS
  cases h : setOk s
  · have e : Hid (fmtSet s = []) := by unfold Hid fmtSet; rw [h]; rfl
    rw [h] at cS
    rw [e.out]
    clear h
    simp only [setV] at *
    go_enter Tryd.func65, Tryd.ntmps65
    go_wp2_with ((go_at_call 83; (with_reducible refine (cS _).mono ?_); rintro e w1 ⟨rfl, U1⟩; have B1 := bcell U1; have Z1 := U1.size; (try simp at Z1); (try rw [Nat.add_one_le_iff] at Z1)))
    go_ret
    exact ⟨rfl, by (repeat (first | with_reducible exact Up.refl _ | with_reducible assumption | with_reducible refine Up.set ?_ (by first | exact Nat.le_refl _ | (simp only []; omega) | (simp; omega)) _ | with_reducible refine Up.alloc ?_ _ | with_reducible refine Up.drew ?_ | refine Up.trans ?_ (by with_reducible assumption)))⟩
  · obtain ⟨h1, h2, h3, h4, h5⟩ := setOk_small h
    have e : Hid (fmtSet s = setL s) := by unfold Hid fmtSet; rw [h]; rfl
    rw [h] at cS
    rw [e.out]
    have HX := Lib.hid (setL_bs s)
    have cA := fun wx => dec_any s.lit wx (by omega) (by omega)
    have cB := fun wx => dec_any s.most wx (by omega) (by omega)
    have lA := itoa_le (n := s.lit) (by omega) (by omega)
    have lB := itoa_le (n := s.most) (by omega) (by omega)
    have zA := bs_size (Lib.itoa s.lit)
    have zB := bs_size (Lib.itoa s.most)
    clear h e
    generalize Lib.itoa s.lit = A at *
    generalize Lib.itoa s.most = B at *
    simp only [setV] at *
    rcases h1 with ho | ho
    all_goals
      first
        | have HO : Hid (bs (ordT s.ord) ++ (⟨#[32]⟩ : ByteArray) = (⟨#[108, 111, 119, 32]⟩ : ByteArray)) := by unfold Hid; rw [ho]; rfl
        | have HO : Hid (bs (ordT s.ord) ++ (⟨#[32]⟩ : ByteArray) = (⟨#[104, 105, 103, 104, 32]⟩ : ByteArray)) := by unfold Hid; rw [ho]; rfl
      rw [ho] at cS
      rw [ho]
      go_enter Tryd.func65, Tryd.ntmps65
      go_wp2_with ((go_at_call 83; (with_reducible refine (cS _).mono ?_); rintro e w1 ⟨rfl, U1⟩; have B1 := bcell U1; have Z1 := U1.size; (try simp at Z1); (try rw [Nat.add_one_le_iff] at Z1)))
      refine wp_region_up 10 (by kernel_rfl) (by kernel_rfl) ?_
      simp only [List.take, List.drop]
      repeat (refine wpUp_step (fun K hK => ?_); go_simp; (try simp only [↓IntWalk.iteOmega]); first
        | (refine hK _ _ ?_; clear hK K)
        | (apply stepU_c
           · intro wq hwq; (have hbq := bcell hwq; (repeat (first | refine fills_no (by rfl) ?_ | refine fills_yes (by rfl) (fun vq hvq => ?_))); simp only [List.filter_nil, fills]; unfold upAt; go_simp; (try go_bits); (try simp only [↓IntWalk.iteOmega]); (try (rw [dif_pos (by omega)]; go_simp; try go_bits)); first | exact upOut_value | (apply upOut_call; (go_at_call 25; first | with_reducible exact cA _ | with_reducible exact cB _)) | (apply upOut_eq; (go_at_call 25; first | with_reducible exact cA _ | with_reducible exact cB _)))
           go_simp; refine hK _ _ ?_; clear hK K))
      refine wpUp_nil (fun wq hwq => ?_)
      simp only [fills]
      go_wp2
      go_ret
      exact ⟨by rw [← HX.out, HO.out]; rfl, by (repeat (first | with_reducible exact Up.refl _ | with_reducible assumption | with_reducible refine Up.set ?_ (by first | exact Nat.le_refl _ | (simp only []; omega) | (simp; omega)) _ | with_reducible refine Up.alloc ?_ _ | with_reducible refine Up.drew ?_ | refine Up.trans ?_ (by with_reducible assumption)))⟩
theorem prsT_one {ps : List PairD} (h : 0 < ps.length) : prsT (ps.take (0 + 1)) = pairT ps[0] := by
  rw [List.take_succ_eq_append_getElem h]
  simp [prsT, Lib.join_one]
theorem prsT_succ {ps : List PairD} {k : Nat} (h0 : 0 < k) (h : k < ps.length) : prsT (ps.take (k + 1)) = prsT (ps.take k) ++ [44] ++ pairT ps[k] := by
  rw [List.take_succ_eq_append_getElem h]
  unfold prsT
  rw [List.map_append, List.map_singleton, join_snoc _ _ _ (by intro e; have := congrArg List.length e; simp only [List.length_map, List.length_take, List.length_nil] at this; omega)]
theorem pairT_le {p : PairD} (h : 0 ≤ p.pre ∧ p.pre ≤ 2000 ∧ 0 ≤ p.byt ∧ p.byt ≤ 255) : (pairT p).length ≤ 43 := by
  have h1 := itoa_le (n := p.pre) (by omega) (by omega)
  have h2 := itoa_le (n := p.byt) (by omega) (by omega)
  simp only [pairT, List.length_append, List.length_cons]
  omega
theorem prsT_le {ps : List PairD} (hl : ps.length ≤ 1024) (h : ∀ p ∈ ps, 0 ≤ p.pre ∧ p.pre ≤ 2000 ∧ 0 ≤ p.byt ∧ p.byt ≤ 255) (k : Nat) : (prsT (ps.take k)).length ≤ 45056 := by
  have h1 := join_le 43 ((ps.take k).map pairT) 44 (fun x hx => by
    obtain ⟨p, hp, rfl⟩ := List.mem_map.1 hx
    exact pairT_le (h p (List.mem_of_mem_take hp)))
  have h3 : ((ps.take k).map pairT).length ≤ 1024 := by rw [List.length_map, List.length_take]; omega
  unfold prsT
  have := Nat.mul_le_mul_left 44 h3
  omega
theorem someL_le {l : List UInt8} {n : Nat} (h : l.length ≤ n) (hn : 1 ≤ n) : (someL l).length ≤ n := by
  unfold someL; split
  · exact hn
  · exact h
theorem fmtK_le (k : KnD) : (fmtK k).length ≤ 46000 := by
  unfold fmtK
  split
  · rename_i hv
    obtain ⟨h1, h2, h3, h4, h5⟩ := validK_small hv
    have e1 := fmtSet_le k.set
    have e2 := itoa_le (n := k.base) (by omega) (by omega)
    have e3 := itoa_le (n := k.last) (by omega) (by omega)
    have e4 := prsT_le h2 h5 k.ps.length
    rw [List.take_length] at e4
    have e5 := someL_le e4 (by omega)
    unfold knL
    rw [join4_len]
    omega
  · simp
theorem knL_bs (k : KnD) : ((bs (fmtSet k.set) ++ (⟨#[59]⟩ : ByteArray)) ++ bs (Lib.itoa k.base) ++ (⟨#[59]⟩ : ByteArray) ++ bs (Lib.itoa k.last) ++ (⟨#[59]⟩ : ByteArray)) ++ bs (someL (prsT k.ps)) = bs (knL k) := by
  rw [show (⟨#[59]⟩ : ByteArray) = bs [59] from rfl]
  simp [bs_app, knL, Lib.join_cons, Lib.joinTail]
def RelFk (k : KnD) (v : Value) (w : World) (b : Nat) (out i : Value) (wr : World) : Prop := ∃ j : Nat, j ≤ k.ps.length ∧ i = .int .i64 j ∧ out = .string (bs (prsT (k.ps.take j))) ∧ Up w wr ∧ KnAt b k v wr

set_option maxRecDepth 100000 in
set_option maxHeartbeats 8000000 in
theorem fkS_any (k : KnD) (v : Value) (lo : Nat) (w : World) (hr : RdP lo w v k.ps) (hps : k.ps.length ≤ 1073741824) :
    Calls Tryd.prog 35  #[kV k v] w (Same (.string (bs (fmtK k))) w) := by
  have cV := fun wx h => kvS_gen k v lo wx h hps
  have hrt := fun (wq : World) (hu : Up w wq) => hr.up hu
  obtain ⟨a, cap, rfl, hc1, hc2, hc3, hsome⟩ := hr
  unfold maxLen at hc2
  cases hv : validK k
  · have e : Hid (fmtK k = []) := by unfold Hid fmtK; rw [hv]; rfl
    rw [hv] at cV
    rw [e.out]
    clear hv hsome hc3
    simp only [kV] at *
    go_enter Tryd.func35, Tryd.ntmps35
    go_wp2_with ((go_at_call 61; (with_reducible refine (cV _ (hrt _ (by (repeat (first | with_reducible exact Up.refl _ | with_reducible assumption | with_reducible refine Up.set ?_ (by first | exact Nat.le_refl _ | (simp only []; omega) | (simp; omega)) _ | with_reducible refine Up.alloc ?_ _ | with_reducible refine Up.drew ?_ | refine Up.trans ?_ (by with_reducible assumption)))))).mono ?_); rintro e w1 ⟨rfl, U1⟩; have B1 := bcell U1; have Z1 := U1.size; (try simp at Z1); (try rw [Nat.add_one_le_iff] at Z1)))
    go_ret
    exact ⟨rfl, by (repeat (first | with_reducible exact Up.refl _ | with_reducible assumption | with_reducible refine Up.set ?_ (by first | exact Nat.le_refl _ | (simp only []; omega) | (simp; omega)) _ | with_reducible refine Up.alloc ?_ _ | with_reducible refine Up.drew ?_ | refine Up.trans ?_ (by with_reducible assumption)))⟩
  · obtain ⟨h1, h2, h3, h4, h5⟩ := validK_small hv
    have e : Hid (fmtK k = knL k) := by unfold Hid fmtK; rw [hv]; rfl
    have hr := Lib.hid h5
    have hle := Lib.hid (prsT_le h2 h5)
    have cF := fun wx => fsetS_any k.set wx
    have zF := fmtSet_le k.set
    rw [hv] at cV
    rw [e.out]
    have HX := Lib.hid (knL_bs k)
    clear hv h5
    simp only [kV, setV] at *
    go_enter Tryd.func35, Tryd.ntmps35
    go_wp2_with ((go_at_call 61; (with_reducible refine (cV _ (hrt _ (by (repeat (first | with_reducible exact Up.refl _ | with_reducible assumption | with_reducible refine Up.set ?_ (by first | exact Nat.le_refl _ | (simp only []; omega) | (simp; omega)) _ | with_reducible refine Up.alloc ?_ _ | with_reducible refine Up.drew ?_ | refine Up.trans ?_ (by with_reducible assumption)))))).mono ?_); rintro e w1 ⟨rfl, U1⟩; have B1 := bcell U1; have Z1 := U1.size; (try simp at Z1); (try rw [Nat.add_one_le_iff] at Z1)))
    have hU1 : Up w w1 := by (repeat (first | with_reducible exact Up.refl _ | with_reducible assumption | with_reducible refine Up.set ?_ (by first | exact Nat.le_refl _ | (simp only []; omega) | (simp; omega)) _ | with_reducible refine Up.alloc ?_ _ | with_reducible refine Up.drew ?_ | refine Up.trans ?_ (by with_reducible assumption)))
    have hKA : KnAt w.heap.size k (.slice a k.ps.length cap) w1 := box_up U1 (MapKept.heap_alloc w _).1
    clear cV B1 Z1 U1
    go_loopw [3, 4] (fun out i wr => RelFk k (.slice a k.ps.length cap) w w.heap.size out i wr) (fun _ i _ => k.ps.length - (intOf i).toNat)
    case atStart => exact ⟨0, Nat.zero_le _, rfl, rfl, hU1, hKA⟩
    case round =>
      clear hU1 hKA
      obtain ⟨j, hj, rfl, rfl, hup, hkn⟩ := hrel
      have hJ := hle.out j
      have zJ := bs_size (prsT (k.ps.take j))
      obtain ⟨b0, r0, r1, r2, r3, r4, r5⟩ := hkn.cells
      have HKN := Lib.hid hkn
      clear hkn
      by_cases hlt : j < k.ps.length
      · obtain ⟨b, off, rfl, hlo, hbl, hcells⟩ := hsome (by omega)
        obtain ⟨q0, q1⟩ := hcells j k.ps[j] (List.getElem?_eq_getElem hlt)
        have p0 := (hup.cell (p := ⟨b, off + j * 2, none⟩) hbl).trans q0
        have p1 := (hup.cell (p := ⟨b, off + j * 2 + 1, none⟩) hbl).trans q1
        have hbw := Nat.lt_of_lt_of_le hbl hup.size
        obtain ⟨n1, n2, n3, n4⟩ := hr.out k.ps[j] (List.getElem_mem _)
        have cA := fun wx => dec_any k.ps[j].pre wx (by omega) (by omega)
        have cB := fun wx => dec_any k.ps[j].byt wx (by omega) (by omega)
        have lA := itoa_le (n := k.ps[j].pre) (by omega) (by omega)
        have lB := itoa_le (n := k.ps[j].byt) (by omega) (by omega)
        have zA := bs_size (Lib.itoa k.ps[j].pre)
        have zB := bs_size (Lib.itoa k.ps[j].byt)
        clear hcells q0 q1
        by_cases h0 : 0 < j
        · have HY : Hid (((bs (prsT (k.ps.take j)) ++ (⟨#[44]⟩ : ByteArray)) ++ bs (Lib.itoa k.ps[j].pre) ++ (⟨#[46]⟩ : ByteArray)) ++ bs (Lib.itoa k.ps[j].byt) = bs (prsT (k.ps.take (j + 1)))) := by
            unfold Hid
            rw [prsT_succ h0 hlt, show (⟨#[44]⟩ : ByteArray) = bs [44] from rfl, show (⟨#[46]⟩ : ByteArray) = bs [46] from rfl]
            simp [bs_app, pairT]
          generalize prsT (k.ps.take j) = J at *
          generalize Lib.itoa k.ps[j].pre = A at *
          generalize Lib.itoa k.ps[j].byt = B at *
          generalize k.ps[j].pre = x at *
          generalize k.ps[j].byt = y at *
          clear hr hle cF HX
          go_wp2
          refine wp_region_up 18 (by kernel_rfl) (by kernel_rfl) ?_
          simp only [List.take, List.drop]
          repeat (refine wpUp_step (fun K hK => ?_); go_simp; (try simp only [↓IntWalk.iteOmega]); first
            | (refine hK _ _ ?_; clear hK K)
            | (apply stepU_c
               · intro wq hwq; (have hbq := bcell hwq; (repeat (first | refine fills_no (by rfl) ?_ | refine fills_yes (by rfl) (fun vq hvq => ?_))); simp only [List.filter_nil, fills]; unfold upAt; go_simp; (try go_bits); (try simp only [↓IntWalk.iteOmega]); (try (rw [dif_pos (by omega)]; go_simp; try go_bits)); first | exact upOut_value | (apply upOut_call; (go_at_call 25; first | with_reducible exact cA _ | with_reducible exact cB _)) | (apply upOut_eq; (go_at_call 25; first | with_reducible exact cA _ | with_reducible exact cB _)))
               go_simp; refine hK _ _ ?_; clear hK K))
          refine wpUp_nil (fun wq hwq => ?_)
          simp only [fills]
          go_wp2
          go_roundw
          case rel => exact ⟨j + 1, by omega, by go_num, by rw [← HY.out], by (repeat (first | with_reducible exact Up.refl _ | with_reducible assumption | with_reducible refine Up.set ?_ (by first | exact Nat.le_refl _ | (simp only []; omega) | (simp; omega)) _ | with_reducible refine Up.alloc ?_ _ | with_reducible refine Up.drew ?_ | refine Up.trans ?_ (by with_reducible assumption))), box_up hwq HKN.out⟩
          case measure => simp [intOf]; omega
        · have hj0 : j = 0 := by omega
          subst hj0
          simp only [Nat.zero_mul, Nat.add_zero] at p0 p1
          have HY : Hid ((bs (prsT (k.ps.take 0)) ++ bs (Lib.itoa k.ps[0].pre) ++ (⟨#[46]⟩ : ByteArray)) ++ bs (Lib.itoa k.ps[0].byt) = bs (prsT (k.ps.take (0 + 1)))) := by
            unfold Hid
            rw [prsT_one hlt, show (⟨#[46]⟩ : ByteArray) = bs [46] from rfl]
            simp [bs_app, pairT, prsT, Lib.join_nil]
          generalize prsT (k.ps.take 0) = J at *
          generalize Lib.itoa k.ps[0].pre = A at *
          generalize Lib.itoa k.ps[0].byt = B at *
          generalize k.ps[0].pre = x at *
          generalize k.ps[0].byt = y at *
          clear hr hle cF HX
          go_wp2
          refine wp_region_up 18 (by kernel_rfl) (by kernel_rfl) ?_
          simp only [List.take, List.drop]
          repeat (refine wpUp_step (fun K hK => ?_); go_simp; (try simp only [↓IntWalk.iteOmega]); first
            | (refine hK _ _ ?_; clear hK K)
            | (apply stepU_c
               · intro wq hwq; (have hbq := bcell hwq; (repeat (first | refine fills_no (by rfl) ?_ | refine fills_yes (by rfl) (fun vq hvq => ?_))); simp only [List.filter_nil, fills]; unfold upAt; go_simp; (try go_bits); (try simp only [↓IntWalk.iteOmega]); (try (rw [dif_pos (by omega)]; go_simp; try go_bits)); first | exact upOut_value | (apply upOut_call; (go_at_call 25; first | with_reducible exact cA _ | with_reducible exact cB _)) | (apply upOut_eq; (go_at_call 25; first | with_reducible exact cA _ | with_reducible exact cB _)))
               go_simp; refine hK _ _ ?_; clear hK K))
          refine wpUp_nil (fun wq hwq => ?_)
          simp only [fills]
          go_wp2
          go_roundw
          case rel => exact ⟨0 + 1, by omega, by go_num, by rw [← HY.out], by (repeat (first | with_reducible exact Up.refl _ | with_reducible assumption | with_reducible refine Up.set ?_ (by first | exact Nat.le_refl _ | (simp only []; omega) | (simp; omega)) _ | with_reducible refine Up.alloc ?_ _ | with_reducible refine Up.drew ?_ | refine Up.trans ?_ (by with_reducible assumption))), box_up hwq HKN.out⟩
          case measure => simp [intOf]; omega
      · have hjl : j = k.ps.length := by omega
        have HP : Hid (prsT (k.ps.take j) = prsT k.ps) := by unfold Hid; rw [hjl, List.take_length]
        rw [HP.out] at hJ zJ ⊢
        have cS := fun wx => l3Some_any (prsT k.ps) wx
        have lS := someL_le hJ (by omega)
        have zS := bs_size (someL (prsT k.ps))
        have cA := fun wx => dec_any k.base wx (by omega) (by omega)
        have cB := fun wx => dec_any k.last wx (by omega) (by omega)
        have lA := itoa_le (n := k.base) (by omega) (by omega)
        have lB := itoa_le (n := k.last) (by omega) (by omega)
        have zA := bs_size (Lib.itoa k.base)
        have zB := bs_size (Lib.itoa k.last)
        have zG := bs_size (fmtSet k.set)
        clear hr hle HP hsome hc3
        generalize Lib.itoa k.base = A at *
        generalize Lib.itoa k.last = B at *
        generalize someL (prsT k.ps) = S at *
        generalize prsT k.ps = J at *
        generalize fmtSet k.set = F at *
        go_wp2
        refine wp_region_up 17 (by kernel_rfl) (by kernel_rfl) ?_
        simp only [List.take, List.drop]
        repeat (refine wpUp_step (fun K hK => ?_); go_simp; (try simp only [↓IntWalk.iteOmega]); first
          | (refine hK _ _ ?_; clear hK K)
          | (apply stepU_c
             · intro wq hwq; (have hbq := bcell hwq; (repeat (first | refine fills_no (by rfl) ?_ | refine fills_yes (by rfl) (fun vq hvq => ?_))); simp only [List.filter_nil, fills]; unfold upAt; go_simp; (try go_bits); (try simp only [↓IntWalk.iteOmega]); (try (rw [dif_pos (by omega)]; go_simp; try go_bits)); first | exact upOut_value | (apply upOut_call; (go_at_call 25; first | with_reducible exact cA _ | with_reducible exact cB _)) | (apply upOut_eq; (go_at_call 25; first | with_reducible exact cA _ | with_reducible exact cB _)) | (apply upOut_call; (go_at_call 65; with_reducible exact cF _)) | (apply upOut_eq; (go_at_call 65; with_reducible exact cF _)) | (apply upOut_call; (go_at_call 26; with_reducible exact cS _)) | (apply upOut_eq; (go_at_call 26; with_reducible exact cS _)))
             go_simp; refine hK _ _ ?_; clear hK K))
        refine wpUp_nil (fun wq hwq => ?_)
        simp only [fills]
        go_wp2
        go_ret
        exact ⟨by rw [← HX.out]; rfl, by (repeat (first | with_reducible exact Up.refl _ | with_reducible assumption | with_reducible refine Up.set ?_ (by first | exact Nat.le_refl _ | (simp only []; omega) | (simp; omega)) _ | with_reducible refine Up.alloc ?_ _ | with_reducible refine Up.drew ?_ | refine Up.trans ?_ (by with_reducible assumption)))⟩

end Go.Proofs.YtiiahjnfbhcgmaaDoor

/- FormatSetting and FormatKnown of the program. Conditions: the pairs can be read, at most 2^30; the table of powers of ten lies where it was laid. -/
namespace Go.Proofs.YtiiahjnfbhcgmaaDoor
set_option linter.unusedVariables false
set_option linter.unusedSimpArgs false
open Go Go.RowKit

/-- A row of texts that has just been made. -/
def MkS (base : Nat) (xs : List (List UInt8)) (v : Value) (w : World) : Prop := w.ownsRow base 9 1 v xs.length (cellsS (xs.map bs))
theorem mkS_closed (base : Nat) (xs : List (List UInt8)) (v : Value) : UpClosed (MkS base xs v) := fun w w' h hu => ownsRow_up h hu
theorem mkS_new {base : Nat} {w w' : World} (hu : Up w w') (hb : base ≤ w.heap.size) (a b c d : List UInt8) : MkS base [a, b, c, d] (.slice (some ⟨w'.heap.size, 0, none⟩) 4 4) (w'.alloc (.cells #[.string (bs a), .string (bs b), .string (bs c), .string (bs d)] 9)) :=
  ⟨by simp [cellsS], .inr ⟨w'.heap.size, _, _, rfl, Nat.le_trans hb hu.size, (MapKept.heap_alloc w' _).1, Nat.le_refl _, by unfold maxLen; omega, by simp, by simp [cellsS]⟩⟩
theorem joinM_any {base : Nat} {xs : List (List UInt8)} {v : Value} {w : World} (sep : UInt8) (h : MkS base xs v w) (h0 : xs ≠ []) (hn : xs.length ≤ 1048576) (hlen : (Lib.join xs [sep]).length ≤ 140737488355328) :
    Calls Tryd.prog 31 #[v, .string ⟨#[sep]⟩] w (Same (.string (bs (Lib.join xs [sep]))) w) := by
  unfold MkS at h
  rcases ownsRow_read h with ⟨rfl, h2⟩ | ⟨g, cap, rfl, -⟩
  · exact absurd (List.length_eq_zero_iff.1 h2) h0
  · exact joinS_any g xs.length cap xs sep w base rfl hn h hlen

set_option maxRecDepth 100000 in
set_option maxHeartbeats 1000000 in
theorem fsetI_any (s : SetD) (w : World) (hT : Tab w) (hl : -9223372036854775808 ≤ s.lit ∧ s.lit ≤ 9223372036854775807) : Calls Tryd.prog 72  #[setV s] w (Same (.string (bs (fmtSet s))) w) := by
  have cS := fun w => setI_any s.ord s.lit s.most w hl
  rw [setD_eta] at cS
  cases h : setOk s
  · have e : Hid (fmtSet s = []) := by unfold Hid fmtSet; rw [h]; rfl
    rw [h] at cS
    rw [e.out]
    clear h
    simp only [setV] at *
    go_enter Tryd.func72, Tryd.ntmps72
    go_wp2_with ((go_at_call 92; (with_reducible refine (cS _).mono ?_); rintro e w1 ⟨rfl, U1⟩; have B1 := bcell U1; have Z1 := U1.size; (try simp at Z1); (try rw [Nat.add_one_le_iff] at Z1)))
    go_ret
    exact ⟨rfl, by (repeat (first | with_reducible exact Up.refl _ | with_reducible assumption | with_reducible refine Up.set ?_ (by first | exact Nat.le_refl _ | (simp only []; omega) | (simp; omega)) _ | with_reducible refine Up.alloc ?_ _ | with_reducible refine Up.drew ?_ | refine Up.trans ?_ (by with_reducible assumption)))⟩
  · obtain ⟨h1, h2, h3, h4, h5⟩ := setOk_small h
    have e : Hid (fmtSet s = setL s) := by unfold Hid fmtSet; rw [h]; rfl
    rw [h] at cS
    rw [e.out]
    have HX := Lib.hid (setL_bs s)
    have cA := fun wx (hx : Up w wx) => itoa_any s.lit wx (hT.up hx) (by omega) (by omega)
    have cB := fun wx (hx : Up w wx) => itoa_any s.most wx (hT.up hx) (by omega) (by omega)
    have lA := itoa_le (n := s.lit) (by omega) (by omega)
    have lB := itoa_le (n := s.most) (by omega) (by omega)
    have zA := bs_size (Lib.itoa s.lit)
    have zB := bs_size (Lib.itoa s.most)
    clear h e hT
    generalize Lib.itoa s.lit = A at *
    generalize Lib.itoa s.most = B at *
    simp only [setV] at *
    rcases h1 with ho | ho
    all_goals
      first
        | have HO : Hid (bs (ordT s.ord) = (⟨#[108, 111, 119]⟩ : ByteArray)) := by unfold Hid; rw [ho]; rfl
        | have HO : Hid (bs (ordT s.ord) = (⟨#[104, 105, 103, 104]⟩ : ByteArray)) := by unfold Hid; rw [ho]; rfl
      rw [ho] at cS
      rw [ho]
      go_enter Tryd.func72, Tryd.ntmps72
      go_wp2_with ((go_at_call 92; (with_reducible refine (cS _).mono ?_); rintro e w1 ⟨rfl, U1⟩; have B1 := bcell U1; have Z1 := U1.size; (try simp at Z1); (try rw [Nat.add_one_le_iff] at Z1)))
      refine wp_region_up 11 (by kernel_rfl) (by kernel_rfl) ?_
      simp only [List.take, List.drop]
      repeat (refine wpUp_step (fun K hK => ?_); go_simp; (try simp only [↓IntWalk.iteOmega]); first
        | (refine hK _ _ ?_; clear hK K)
        | (apply stepU_c
           · intro wq hwq; (have hbq := bcell hwq; (repeat (first | refine fills_no (by rfl) ?_ | refine fills_yes (by rfl) (fun vq hvq => ?_))); simp only [List.filter_nil, fills]; unfold upAt; go_simp; (try go_bits); (try simp only [↓IntWalk.iteOmega]); (try (rw [dif_pos (by omega)]; go_simp; try go_bits)); first | exact upOut_value | (apply upOut_call; (go_at_call 29; first | with_reducible exact cA _ (by (repeat (first | with_reducible exact Up.refl _ | with_reducible assumption | with_reducible refine Up.set ?_ (by first | exact Nat.le_refl _ | (simp only []; omega) | (simp; omega)) _ | with_reducible refine Up.alloc ?_ _ | with_reducible refine Up.drew ?_ | refine Up.trans ?_ (by with_reducible assumption)))) | with_reducible exact cB _ (by (repeat (first | with_reducible exact Up.refl _ | with_reducible assumption | with_reducible refine Up.set ?_ (by first | exact Nat.le_refl _ | (simp only []; omega) | (simp; omega)) _ | with_reducible refine Up.alloc ?_ _ | with_reducible refine Up.drew ?_ | refine Up.trans ?_ (by with_reducible assumption)))))) | (apply upOut_eq; (go_at_call 29; first | with_reducible exact cA _ (by (repeat (first | with_reducible exact Up.refl _ | with_reducible assumption | with_reducible refine Up.set ?_ (by first | exact Nat.le_refl _ | (simp only []; omega) | (simp; omega)) _ | with_reducible refine Up.alloc ?_ _ | with_reducible refine Up.drew ?_ | refine Up.trans ?_ (by with_reducible assumption)))) | with_reducible exact cB _ (by (repeat (first | with_reducible exact Up.refl _ | with_reducible assumption | with_reducible refine Up.set ?_ (by first | exact Nat.le_refl _ | (simp only []; omega) | (simp; omega)) _ | with_reducible refine Up.alloc ?_ _ | with_reducible refine Up.drew ?_ | refine Up.trans ?_ (by with_reducible assumption)))))))
           go_simp; refine hK _ _ ?_; clear hK K))
      refine wpUp_nil (fun wq hwq => ?_)
      simp only [fills]
      go_wp2
      go_ret
      exact ⟨by rw [← HX.out, HO.out]; rfl, by (repeat (first | with_reducible exact Up.refl _ | with_reducible assumption | with_reducible refine Up.set ?_ (by first | exact Nat.le_refl _ | (simp only []; omega) | (simp; omega)) _ | with_reducible refine Up.alloc ?_ _ | with_reducible refine Up.drew ?_ | refine Up.trans ?_ (by with_reducible assumption)))⟩
theorem knL_le {k : KnD} (hv : validK k = true) : (knL k).length ≤ 46000 := by
  have := fmtK_le k
  unfold fmtK at this
  rw [hv, if_pos rfl] at this
  exact this
def RelFki (k : KnD) (v : Value) (w W : World) (i : Value) (wr : World) : Prop := ∃ j : Nat, j ≤ k.ps.length ∧ i = .int .i64 j ∧ Up w wr ∧ KnAt w.heap.size k v wr ∧ w.heap.size < W.heap.size ∧ wr.ownsRow W.heap.size 9 1 (.slice (some ⟨W.heap.size, 0, none⟩) k.ps.length k.ps.length) k.ps.length (cellsS (midS ((k.ps.map pairT).map bs) j))

set_option maxRecDepth 100000 in
set_option maxHeartbeats 8000000 in
theorem fkI_any (k : KnD) (v : Value) (lo : Nat) (w : World) (hT : Tab w) (hl : -9223372036854775808 ≤ k.set.lit ∧ k.set.lit ≤ 9223372036854775807) (hr : RdP lo w v k.ps) (hps : k.ps.length ≤ 1073741824) :
    Calls Tryd.prog 40  #[kV k v] w (Same (.string (bs (fmtK k))) w) := by
  have cV := fun wx h => kvI_gen k v lo wx hl h hps
  have hrt := fun (wq : World) (hu : Up w wq) => hr.up hu
  obtain ⟨a, cap, rfl, hc1, hc2, hc3, hsome⟩ := hr
  unfold maxLen at hc2
  cases hv : validK k
  · have e : Hid (fmtK k = []) := by unfold Hid fmtK; rw [hv]; rfl
    rw [hv] at cV
    rw [e.out]
    clear hv hsome hc3 hT
    simp only [kV] at *
    go_enter Tryd.func40, Tryd.ntmps40
    go_wp2_with ((go_at_call 68; (with_reducible refine (cV _ (hrt _ (by (repeat (first | with_reducible exact Up.refl _ | with_reducible assumption | with_reducible refine Up.set ?_ (by first | exact Nat.le_refl _ | (simp only []; omega) | (simp; omega)) _ | with_reducible refine Up.alloc ?_ _ | with_reducible refine Up.drew ?_ | refine Up.trans ?_ (by with_reducible assumption)))))).mono ?_); rintro e w1 ⟨rfl, U1⟩; have B1 := bcell U1; have Z1 := U1.size; (try simp at Z1); (try rw [Nat.add_one_le_iff] at Z1)))
    go_ret
    exact ⟨rfl, by (repeat (first | with_reducible exact Up.refl _ | with_reducible assumption | with_reducible refine Up.set ?_ (by first | exact Nat.le_refl _ | (simp only []; omega) | (simp; omega)) _ | with_reducible refine Up.alloc ?_ _ | with_reducible refine Up.drew ?_ | refine Up.trans ?_ (by with_reducible assumption)))⟩
  · obtain ⟨h1, h2, h3, h4, h5⟩ := validK_small hv
    have e : Hid (fmtK k = knL k) := by unfold Hid fmtK; rw [hv]; rfl
    have hr := Lib.hid h5
    have hle := prsT_le h2 h5 k.ps.length
    rw [List.take_length] at hle
    have HLE := Lib.hid hle
    have HKL := Lib.hid (knL_le hv)
    have cF := fun wx (hx : Up w wx) => fsetI_any k.set wx (hT.up hx) hl
    have zF := fmtSet_le k.set
    have HT := Lib.hid hT
    rw [hv] at cV
    rw [e.out]
    obtain ⟨i0, hi0, hz0, hz1, hz2⟩ := info_parts infoStr
    have hmk : ∀ w : World, (Instr.makeSlice 62 (.int .i64 (k.ps.length : Int)) (.int .i64 (k.ps.length : Int))).run Tryd.prog w = .ok (.slice (some ⟨w.heap.size, 0, none⟩) k.ps.length k.ps.length) (w.alloc (.cells (madeCells #[.string ByteArray.empty] k.ps.length) 9)) := fun w => by
      have := run_make (P := Tryd.prog) w 62 9 i0 _ Tryd.underlying62 hi0 hz0 .i64 .i64 k.ps.length k.ps.length (by omega) (Int.le_refl _) (by rw [hz2]; omega) (by omega)
      rw [hz1] at this
      simpa [Value.cells] using this
    clear hz0 hz1 hz2 hi0 hv h5 hT hle
    simp only [kV, setV] at *
    go_enter Tryd.func40, Tryd.ntmps40
    go_wp2_with ((go_at_call 68; (with_reducible refine (cV _ (hrt _ (by (repeat (first | with_reducible exact Up.refl _ | with_reducible assumption | with_reducible refine Up.set ?_ (by first | exact Nat.le_refl _ | (simp only []; omega) | (simp; omega)) _ | with_reducible refine Up.alloc ?_ _ | with_reducible refine Up.drew ?_ | refine Up.trans ?_ (by with_reducible assumption)))))).mono ?_); rintro e w1 ⟨rfl, U1⟩; have B1 := bcell U1; have Z1 := U1.size; (try simp at Z1); (try rw [Nat.add_one_le_iff] at Z1)))
    have hU1 : Up w w1 := by (repeat (first | with_reducible exact Up.refl _ | with_reducible assumption | with_reducible refine Up.set ?_ (by first | exact Nat.le_refl _ | (simp only []; omega) | (simp; omega)) _ | with_reducible refine Up.alloc ?_ _ | with_reducible refine Up.drew ?_ | refine Up.trans ?_ (by with_reducible assumption)))
    have hKA : KnAt w.heap.size k (.slice a k.ps.length cap) w1 := box_up U1 (MapKept.heap_alloc w _).1
    have hw1 : w.heap.size < w1.heap.size := hKA.cells.1
    clear cV B1 Z1 U1
    go_loopw [16] (fun i wr => RelFki k (.slice a k.ps.length cap) w w1 i wr) (fun i _ => k.ps.length - (intOf i).toNat)
    case atStart => exact ⟨0, Nat.zero_le _, rfl, hU1.alloc _, hKA.up ((Up.refl _).alloc _), hw1, by rw [midS_zero, List.length_map, List.length_map]; exact made_strs w1 _ (by unfold maxLen; omega)⟩
    case round =>
      clear hU1 hKA hw1
      obtain ⟨j, hj, rfl, hup, hkn, hw1, ho⟩ := hrel
      obtain ⟨b0, r0, r1, r2, r3, r4, r5⟩ := hkn.cells
      have HKN := Lib.hid hkn
      have hrl : w1.heap.size < wr.heap.size := (ho.lt _ rfl).2
      clear hkn
      by_cases hlt : j < k.ps.length
      · obtain ⟨b, off, rfl, hlo, hbl, hcells⟩ := hsome (by omega)
        obtain ⟨q0, q1⟩ := hcells j k.ps[j] (List.getElem?_eq_getElem hlt)
        have p0 := (hup.cell (p := ⟨b, off + j * 2, none⟩) hbl).trans q0
        have p1 := (hup.cell (p := ⟨b, off + j * 2 + 1, none⟩) hbl).trans q1
        have hbw := Nat.lt_of_lt_of_le hbl hup.size
        obtain ⟨n1, n2, n3, n4⟩ := hr.out k.ps[j] (List.getElem_mem _)
        have cA := fun wx (hx : Up w wx) => itoa_any k.ps[j].pre wx (HT.out.up hx) (by omega) (by omega)
        have cB := fun wx (hx : Up w wx) => itoa_any k.ps[j].byt wx (HT.out.up hx) (by omega) (by omega)
        have lA := itoa_le (n := k.ps[j].pre) (by omega) (by omega)
        have lB := itoa_le (n := k.ps[j].byt) (by omega) (by omega)
        have zA := bs_size (Lib.itoa k.ps[j].pre)
        have zB := bs_size (Lib.itoa k.ps[j].byt)
        have hkT : j < ((k.ps.map pairT).map bs).length := by simpa using hlt
        have HM := Lib.hid (midS_set ((k.ps.map pairT).map bs) j hkT)
        have HX : Hid ((bs (Lib.itoa k.ps[j].pre) ++ (⟨#[46]⟩ : ByteArray)) ++ bs (Lib.itoa k.ps[j].byt) = ((k.ps.map pairT).map bs)[j]) := by
          unfold Hid
          rw [List.getElem_map, List.getElem_map, show (⟨#[46]⟩ : ByteArray) = bs [46] from rfl]
          simp [bs_app, pairT]
        have HF := Lib.hid (fun wx (hx : Up wr wx) => ownsRow_free (ownsRow_up ho hx) j)
        have HC := Lib.hid (fun wx (hx : Up wr wx) => ownsRow_cell (ownsRow_up ho hx) (midS_at ((k.ps.map pairT).map bs) j hkT))
        have HO := Lib.hid ho
        generalize Lib.itoa k.ps[j].pre = A at *
        generalize Lib.itoa k.ps[j].byt = B at *
        generalize k.ps[j].pre = x at *
        generalize k.ps[j].byt = y at *
        clear hr hcells q0 q1 ho cF
        go_wp2
        refine wp_region_up 11 (by kernel_rfl) (by kernel_rfl) ?_
        simp only [List.take, List.drop]
        repeat (refine wpUp_step (fun K hK => ?_); go_simp; (try simp only [↓IntWalk.iteOmega]); first
          | (refine hK _ _ ?_; clear hK K)
          | (apply stepU_c
             · intro wq hwq; (have hbq := bcell hwq; (repeat (first | refine fills_no (by rfl) ?_ | refine fills_yes (by rfl) (fun vq hvq => ?_))); simp only [List.filter_nil, fills]; unfold upAt; go_simp; (try go_bits); (try simp only [↓IntWalk.iteOmega]); (try (rw [dif_pos (by omega)]; go_simp; try go_bits)); first | exact upOut_value | (apply upOut_call; (go_at_call 29; first | with_reducible exact cA _ (by (repeat (first | with_reducible exact Up.refl _ | with_reducible assumption | with_reducible refine Up.set ?_ (by first | exact Nat.le_refl _ | (simp only []; omega) | (simp; omega)) _ | with_reducible refine Up.alloc ?_ _ | with_reducible refine Up.drew ?_ | refine Up.trans ?_ (by with_reducible assumption)))) | with_reducible exact cB _ (by (repeat (first | with_reducible exact Up.refl _ | with_reducible assumption | with_reducible refine Up.set ?_ (by first | exact Nat.le_refl _ | (simp only []; omega) | (simp; omega)) _ | with_reducible refine Up.alloc ?_ _ | with_reducible refine Up.drew ?_ | refine Up.trans ?_ (by with_reducible assumption)))))) | (apply upOut_eq; (go_at_call 29; first | with_reducible exact cA _ (by (repeat (first | with_reducible exact Up.refl _ | with_reducible assumption | with_reducible refine Up.set ?_ (by first | exact Nat.le_refl _ | (simp only []; omega) | (simp; omega)) _ | with_reducible refine Up.alloc ?_ _ | with_reducible refine Up.drew ?_ | refine Up.trans ?_ (by with_reducible assumption)))) | with_reducible exact cB _ (by (repeat (first | with_reducible exact Up.refl _ | with_reducible assumption | with_reducible refine Up.set ?_ (by first | exact Nat.le_refl _ | (simp only []; omega) | (simp; omega)) _ | with_reducible refine Up.alloc ?_ _ | with_reducible refine Up.drew ?_ | refine Up.trans ?_ (by with_reducible assumption)))))))
             go_simp; refine hK _ _ ?_; clear hK K))
        refine wpUp_nil (fun wq hwq => ?_)
        simp only [fills]
        have U3 : Up wr wq := by (repeat (first | with_reducible exact Up.refl _ | with_reducible assumption | with_reducible refine Up.set ?_ (by first | exact Nat.le_refl _ | (simp only []; omega) | (simp; omega)) _ | with_reducible refine Up.alloc ?_ _ | with_reducible refine Up.drew ?_ | refine Up.trans ?_ (by with_reducible assumption)))
        have q0 := HC.out wq U3
        have f0 := HF.out wq U3
        have HO3 := Lib.hid (ownsRow_up HO.out U3)
        have HU3 := Lib.hid U3
        clear HC HF
        go_wp2
        go_roundw
        case rel => exact ⟨j + 1, by omega, by go_num, (hup.trans HU3.out).set (p := ⟨w1.heap.size, j, none⟩) (Nat.le_of_lt hw1) _, box_other (HKN.out.up HU3.out) (p := ⟨w1.heap.size, j, none⟩) (Nat.ne_of_lt hw1) _, hw1, by rw [← HM.out, ← HX.out]; exact ownsRow_set HO3.out j _⟩
        case measure => simp [intOf]; omega
      · have hjl : j = k.ps.length := by omega
        subst hjl
        have hall : midS ((k.ps.map pairT).map bs) k.ps.length = (k.ps.map pairT).map bs := by
          have := midS_all ((k.ps.map pairT).map bs)
          rwa [List.length_map, List.length_map] at this
        rw [hall] at ho
        have cJ := fun wx (h : Up wr wx) => joinS_any w1.heap.size k.ps.length k.ps.length (k.ps.map pairT) 44 wx w1.heap.size (by simp) (by omega) (ownsRow_up ho h) (by have := HLE.out; unfold prsT at this; omega)
        have cD := fun wx => orDash_any (prsT k.ps) wx
        have cA := fun wx (hx : Up w wx) => itoa_any k.base wx (HT.out.up hx) (by omega) (by omega)
        have cB := fun wx (hx : Up w wx) => itoa_any k.last wx (HT.out.up hx) (by omega) (by omega)
        have HW : Hid (w.heap.size ≤ wr.heap.size) := hup.size
        rw [show Lib.join (k.ps.map pairT) [44] = prsT k.ps from rfl] at cJ
        have cM := fun (v : Value) (wx : World) (h : MkS w.heap.size [fmtSet k.set, Lib.itoa k.base, Lib.itoa k.last, someL (prsT k.ps)] v wx) => joinM_any 59 h (by simp) (by simp) (by have := HKL.out; unfold knL at this; omega)
        rw [show Lib.join [fmtSet k.set, Lib.itoa k.base, Lib.itoa k.last, someL (prsT k.ps)] [59] = knL k from rfl] at cM
        clear hr hsome hc3 hall
        generalize knL k = R at *
        generalize hA : Lib.itoa k.base = A at *
        generalize hB : Lib.itoa k.last = B at *
        generalize hS : someL (prsT k.ps) = S at *
        generalize hJ : prsT k.ps = J at *
        generalize hF : fmtSet k.set = F at *
        clear hA hB hS hJ hF
        go_wp2
        refine wp_region_up 14 (by kernel_rfl) (by kernel_rfl) ?_
        simp only [List.take, List.drop]
        repeat (refine wpUp_step (fun K hK => ?_); go_simp; (try simp only [↓IntWalk.iteOmega]); first
          | (refine hK _ _ ?_; clear hK K)
          | (apply stepU_c
             · intro wq hwq; (have hbq := bcell hwq; (repeat (first | refine fills_no (by rfl) ?_ | refine fills_yes (by rfl) (fun vq hvq => ?_))); simp only [List.filter_nil, fills]; unfold upAt; (try (skip)); go_simp; (try go_bits); (try simp only [↓IntWalk.iteOmega]); (try (rw [dif_pos (by omega)]; go_simp; try go_bits)); first | exact upOut_value | (apply upOut_call; (go_at_call 29; first | with_reducible exact cA _ (by (repeat (first | with_reducible exact Up.refl _ | with_reducible assumption | with_reducible refine Up.set ?_ (by first | exact Nat.le_refl _ | (simp only []; omega) | (simp; omega)) _ | with_reducible refine Up.alloc ?_ _ | with_reducible refine Up.drew ?_ | refine Up.trans ?_ (by with_reducible assumption)))) | with_reducible exact cB _ (by (repeat (first | with_reducible exact Up.refl _ | with_reducible assumption | with_reducible refine Up.set ?_ (by first | exact Nat.le_refl _ | (simp only []; omega) | (simp; omega)) _ | with_reducible refine Up.alloc ?_ _ | with_reducible refine Up.drew ?_ | refine Up.trans ?_ (by with_reducible assumption)))))) | (apply upOut_eq; (go_at_call 29; first | with_reducible exact cA _ (by (repeat (first | with_reducible exact Up.refl _ | with_reducible assumption | with_reducible refine Up.set ?_ (by first | exact Nat.le_refl _ | (simp only []; omega) | (simp; omega)) _ | with_reducible refine Up.alloc ?_ _ | with_reducible refine Up.drew ?_ | refine Up.trans ?_ (by with_reducible assumption)))) | with_reducible exact cB _ (by (repeat (first | with_reducible exact Up.refl _ | with_reducible assumption | with_reducible refine Up.set ?_ (by first | exact Nat.le_refl _ | (simp only []; omega) | (simp; omega)) _ | with_reducible refine Up.alloc ?_ _ | with_reducible refine Up.drew ?_ | refine Up.trans ?_ (by with_reducible assumption)))))) | (apply upOut_call; (go_at_call 72; with_reducible exact cF _ (by (repeat (first | with_reducible exact Up.refl _ | with_reducible assumption | with_reducible refine Up.set ?_ (by first | exact Nat.le_refl _ | (simp only []; omega) | (simp; omega)) _ | with_reducible refine Up.alloc ?_ _ | with_reducible refine Up.drew ?_ | refine Up.trans ?_ (by with_reducible assumption)))))) | (apply upOut_eq; (go_at_call 72; with_reducible exact cF _ (by (repeat (first | with_reducible exact Up.refl _ | with_reducible assumption | with_reducible refine Up.set ?_ (by first | exact Nat.le_refl _ | (simp only []; omega) | (simp; omega)) _ | with_reducible refine Up.alloc ?_ _ | with_reducible refine Up.drew ?_ | refine Up.trans ?_ (by with_reducible assumption)))))) | (apply upOut_call; (go_at_call 30; with_reducible exact cD _)) | (apply upOut_eq; (go_at_call 30; with_reducible exact cD _)) | (apply upOut_call; (go_at_call 31; first | with_reducible exact cJ _ (by (repeat (first | with_reducible exact Up.refl _ | with_reducible assumption | with_reducible refine Up.set ?_ (by first | exact Nat.le_refl _ | (simp only []; omega) | (simp; omega)) _ | with_reducible refine Up.alloc ?_ _ | with_reducible refine Up.drew ?_ | refine Up.trans ?_ (by with_reducible assumption)))) | exact cM _ _ hvq)) | (apply upOut_eq; (go_at_call 31; first | with_reducible exact cJ _ (by (repeat (first | with_reducible exact Up.refl _ | with_reducible assumption | with_reducible refine Up.set ?_ (by first | exact Nat.le_refl _ | (simp only []; omega) | (simp; omega)) _ | with_reducible refine Up.alloc ?_ _ | with_reducible refine Up.drew ?_ | refine Up.trans ?_ (by with_reducible assumption)))) | exact cM _ _ hvq)))
             go_simp; refine hK _ _ ?_; clear hK K)
          | (refine stepU_m (by kernel_rfl) (MkS w.heap.size [F, A, B, S]) (mkS_closed _ _) (fun wq hwq => ?_) ?_
             · (have hbq := bcell hwq; (repeat (first | refine fills_no (by rfl) ?_ | refine fills_yes (by rfl) (fun vq hvq => ?_))); simp only [List.filter_nil, fills]; unfold upAt; (try (skip)); go_simp; (try go_bits); (try simp only [↓IntWalk.iteOmega]); (try (rw [dif_pos (by omega)]; go_simp; try go_bits)); exact upOut_make ((Up.refl _).alloc _) (mkS_new hwq HW.out _ _ _ _))
             refine hK _ _ ?_; clear hK K))
        refine wpUp_nil (fun wq hwq => ?_)
        simp only [fills]
        intro v _
        go_wp2
        go_ret
        exact ⟨rfl, by (repeat (first | with_reducible exact Up.refl _ | with_reducible assumption | with_reducible refine Up.set ?_ (by first | exact Nat.le_refl _ | (simp only []; omega) | (simp; omega)) _ | with_reducible refine Up.alloc ?_ _ | with_reducible refine Up.drew ?_ | refine Up.trans ?_ (by with_reducible assumption)))⟩

end Go.Proofs.YtiiahjnfbhcgmaaDoor

/- Plain: text of bytes in hexadecimal. Conditions: none. -/
namespace Go.Proofs.YtiiahjnfbhcgmaaDoor
set_option linter.unusedVariables false
set_option linter.unusedSimpArgs false
open Go

def hexD (n : Nat) : UInt8 := if n < 10 then UInt8.ofNat (48 + n) else UInt8.ofNat (87 + n)
def hexL : List UInt8 → List UInt8
  | [] => []
  | b :: r => hexD (b.toNat / 16) :: hexD (b.toNat % 16) :: hexL r
/-- What FormatHex returns. -/
def fmtHex (l : List UInt8) : List UInt8 := if l.length ≤ 4000 then hexL l else []
theorem hexL_len : ∀ l, (hexL l).length = 2 * l.length
  | [] => rfl
  | b :: r => by
    have := hexL_len r
    simp only [hexL, List.length_cons]; omega
theorem hexL_app : ∀ a b, hexL (a ++ b) = hexL a ++ hexL b
  | [], b => rfl
  | x :: a, b => by simp [hexL, hexL_app a b]
end Go.Proofs.YtiiahjnfbhcgmaaDoor

/- FormatHex of both sides. Conditions: at most 4000 bytes. -/
namespace Go.Proofs.YtiiahjnfbhcgmaaDoor
set_option linter.unusedVariables false
set_option linter.unusedSimpArgs false
open Go Go.RowKit

theorem hexL_succ {l : List UInt8} {k : Nat} (h : k < l.length) : hexL (l.take (k + 1)) = hexL (l.take k) ++ [hexD (l[k].toNat / 16), hexD (l[k].toNat % 16)] := by
  rw [List.take_succ_eq_append_getElem h, hexL_app]; rfl
/-- A made slice of two bytes, whose block is not the row's. -/
def NewU (row : Option Nat) (n : Nat) (v : Value) (w : World) : Prop := ∃ q, v = .slice (some ⟨q, 0, none⟩) 2 2 ∧ some q ≠ row ∧ w.heap[q]? = some (.cells #[.int .u8 ((hexD (n / 16)).toNat : Int), .int .u8 ((hexD (n % 16)).toNat : Int)] 5)
theorem newU_closed {row : Option Nat} {n : Nat} : ∀ v (w w' : World), NewU row n v w → w.grownBy w' row → NewU row n v w' := fun v w w' ⟨q, h1, h2, h3⟩ hg => ⟨q, h1, h2, gbox hg h3 h2⟩
theorem newU_cells {w : World} {x : Nat} {n : Nat} (h : w.heap[x]? = some (.cells #[.int .u8 ((hexD (n / 16)).toNat : Int), .int .u8 ((hexD (n % 16)).toNat : Int)] 5)) : ∀ j u, ([.int .u8 ((hexD (n / 16)).toNat : Int), .int .u8 ((hexD (n % 16)).toNat : Int)] : List Value)[j]? = some u → w.cell? ((⟨x, 0, none⟩ : Addr).add j) = some u := by
  intro j u hu
  have hadd : (⟨x, 0, none⟩ : Addr).add j = ⟨x, j, none⟩ := by unfold Addr.add; split <;> simp_all
  rw [hadd, box_cell h]
  simpa using hu
theorem hexAt : ∀ (n : Nat) (h : n < 16) (h' : n < (⟨#[48, 49, 50, 51, 52, 53, 54, 55, 56, 57, 97, 98, 99, 100, 101, 102]⟩ : ByteArray).size), (⟨#[48, 49, 50, 51, 52, 53, 54, 55, 56, 57, 97, 98, 99, 100, 101, 102]⟩ : ByteArray)[n] = hexD n := by
  have : ∀ m : Fin 16, (⟨#[48, 49, 50, 51, 52, 53, 54, 55, 56, 57, 97, 98, 99, 100, 101, 102]⟩ : ByteArray)[m.1]'(by have := m.2; show m.1 < 16; omega) = hexD m.1 := by decide
  exact fun n h h' => this ⟨n, h⟩
theorem hex_cells (l : List UInt8) (n : Nat) : cellsU (l ++ [hexD (n / 16), hexD (n % 16)]) = cellsU l ++ [.int .u8 ((hexD (n / 16)).toNat : Int), .int .u8 ((hexD (n % 16)).toNat : Int)] := by simp [cellsU]
def RelFh (l : List UInt8) (w : World) (out i : Value) (wr : World) : Prop := ∃ k : Nat, k ≤ l.length ∧ i = .int .i64 k ∧ ownU wr w.heap.size out (hexL (l.take k)) ∧ Up w wr

set_option maxRecDepth 100000 in
set_option maxHeartbeats 4000000 in
theorem fhI_any (l : List UInt8) (w : World) (hl : l.length ≤ 4000) :
    Calls Tryd.prog 41  #[.string (bs l)] w (Same (.string (bs (fmtHex l))) w) := by
  obtain ⟨i0, hib, hz0, hz1, hz2⟩ := info_parts infoByte
  have hz := bs_size l
  rw [show fmtHex l = hexL l from if_pos hl]
  have hmk : ∀ w : World, (Instr.makeSlice 47 (.int .i64 0) (.int .i64 (2 * (l.length : Int)))).run Tryd.prog w = .ok (.slice (some ⟨w.heap.size, 0, none⟩) 0 (2 * l.length)) (w.alloc (.cells (madeCells #[.int .u8 0] (2 * l.length)) 5)) := fun w => by
    have := run_make (P := Tryd.prog) w 47 5 i0 _ Tryd.underlying47 hib hz0 .i64 .i64 0 (2 * l.length : Nat) (by omega) (by omega) (by rw [hz2]; omega) (by omega)
    rw [hz1] at this
    have hn : (2 * (l.length : Int)).toNat = 2 * l.length := by omega
    simpa [Value.cells, hn] using this
  go_enter Tryd.func41, Tryd.ntmps41
  go_wp2
  go_loopw [3, 14] (fun out i wr => RelFh l w out i wr) (fun _ i _ => l.length - (intOf i).toNat)
  case atStart => exact ⟨0, Nat.zero_le _, rfl, ⟨rfl, .inr ⟨w.heap.size, 2 * l.length, _, rfl, Nat.le_refl _, (MapKept.heap_alloc w _).1, Nat.zero_le _, by unfold maxLen; omega, by simp [madeCells], rfl⟩⟩, (Up.refl _).alloc _⟩
  case round =>
    obtain ⟨k, hk, rfl, ho, hup⟩ := hrel
    have hpl := hexL_len (l.take k)
    rw [List.length_take, Nat.min_eq_left hk] at hpl
    unfold ownU at ho
    obtain ⟨a, c, rfl⟩ := ownsRow_shape ho
    rw [hpl] at ho ⊢
    have HO := Lib.hid ho
    have HPL := Lib.hid hpl
    clear ho hpl
    have hsz := hup.size
    by_cases hlt : k < l.length
    · have hlt2 : k < (bs l).size := by omega
      have hu := u8_bd (bs l)[k]
      have HX := Lib.hid (hexL_succ hlt)
      have hn16 : (bs l)[k].toNat / 16 < 16 := by omega
      have hm16 : (bs l)[k].toNat % 16 < 16 := by omega
      have hx1 := hexAt ((bs l)[k].toNat / 16) hn16 hn16
      have hx2 := hexAt ((bs l)[k].toNat % 16) hm16 hm16
      go_wp2
      refine wp_region_own 13 12 (Value.ownBlock (.slice a (2 * k) c)) (by kernel_rfl) (by kernel_rfl) ?_
      simp only [List.take, List.drop]
      repeat (refine wpG_step (fun K hK => ?_); go_simp; (try simp only [↓IntWalk.iteOmega]); first
        | (refine hK _ _ ?_; clear hK K)
        | (refine stepG_own (by rfl) (by kernel_rfl) ((fun v w' => w'.ownsRow w.heap.size 5 1 v (2 * k + 2) (cellsU (hexL (l.take k)) ++ [.int .u8 ((hexD ((bs l)[k].toNat / 16)).toNat : Int), .int .u8 ((hexD ((bs l)[k].toNat % 16)).toNat : Int)]))) ((fun v w w' h hu => ownsRow_up h hu)) (fun wq hwq => ?_) ?_
           · ((repeat (first | refine fills_no (by rfl) ?_ | refine fills_yes (by rfl) (fun vq hvq => ?_))); simp only [List.filter_nil, fills]; (obtain ⟨bq, eqb, nb, hcb⟩ := hvq; exact gAt_append (.tmp 17) (.tmp 28) 47 (by rfl) w.heap.size 5 i0 (.int .u8 0) 1 1 Tryd.underlying47 hib hz0 hz1 hz2 rfl (by decide) (.slice a (2 * k) c) (2 * k) (cellsU (hexL (l.take k))) (by rfl) (ownsRow_up HO.out hwq) ⟨bq, 0, none⟩ 2 2 [.int .u8 ((hexD ((bs l)[k].toNat / 16)).toNat : Int), .int .u8 ((hexD ((bs l)[k].toNat % 16)).toNat : Int)] (by exact eqb) rfl (newU_cells hcb) (by intro u hu; simp at hu; rcases hu with rfl | rfl <;> rfl) (by unfold maxLen; omega) (by omega) (by have := hwq.size; omega) _ rfl))
           refine hK _ _ ?_; clear hK K)
        | (refine stepG_c (by rfl) ?_ ?_ ?_
           rotate_left
           · intro wq hwq; (have hbq := gcell hwq; (repeat (first | refine fills_no (by rfl) ?_ | refine fills_yes (by rfl) (fun vq hvq => ?_))); simp only [List.filter_nil, fills]; unfold upAt; (try (skip)); go_simp; (try go_bits); (try simp only [↓IntWalk.iteOmega]); (try (rw [dif_pos (by omega)]; go_simp; try go_bits)); first | exact upOut_value | (apply upOut_call; fail) | (apply upOut_eq; fail))
           go_simp; refine hK _ _ ?_; clear hK K)
        | (refine stepG_m (by rfl) (by kernel_rfl) (NewU (Value.ownBlock (.slice a (2 * k) c)) (bs l)[k].toNat) (newU_closed) (fun wq hwq => ?_) ?_
           · (have hbq := gcell hwq; (repeat (first | refine fills_no (by rfl) ?_ | refine fills_yes (by rfl) (fun vq hvq => ?_))); simp only [List.filter_nil, fills]; unfold upAt; (try (skip)); go_simp; (try go_bits); (try simp only [↓IntWalk.iteOmega]); (try (rw [dif_pos (by omega)]; go_simp; try go_bits)); exact upOut_make ((Up.refl _).alloc _) ⟨_, rfl, own_ne HO.out hwq.size, (MapKept.heap_alloc _ _).1⟩)
           refine hK _ _ ?_; clear hK K))
      refine wpG_nil (by rfl) (fun wq hwq => ?_)
      simp only [fills]
      rintro v11 h11 v10 -
      have hU : Up w wq := hup.grown hwq (fun y hy => (HO.out.lt y hy).1)
      obtain ⟨a3, c3, rfl⟩ := ownsRow_shape h11
      have H9 := Lib.hid (And.intro hU h11)
      clear hU h11 hwq
      go_wp2
      go_roundw
      case rel => exact ⟨k + 1, by omega, by go_num, by
        have h1 := H9.out.2
        rw [← hex_cells] at h1
        have e : hexL (l.take (k + 1)) = hexL (l.take k) ++ [hexD ((bs l)[k].toNat / 16), hexD ((bs l)[k].toNat % 16)] := HX.out
        unfold ownU
        rw [e, List.length_append, HPL.out]
        exact h1, H9.out.1⟩
      case measure => simp [intOf]; omega
    · have HKL : Hid (l.take k = l) := List.take_of_length_le (by omega)
      rw [HKL.out] at HO HPL
      have hcv : ∀ n, n = 2 * k → (convert 47 9 (.slice a n c)).run Tryd.prog wr = .ok (.string (bs (hexL l))) wr := fun n hn => by
        subst hn
        exact conv_any HO.out HPL.out.symm
      have hcv1 := hcv _ rfl
      go_wp2
      go_ret
      exact ⟨rfl, hup⟩

set_option maxRecDepth 100000 in
set_option maxHeartbeats 4000000 in
theorem fhS_any (l : List UInt8) (w : World) (hl : l.length ≤ 4000) :
    Calls Tryd.prog 36  #[.string (bs l)] w (Same (.string (bs (fmtHex l))) w) := by
  obtain ⟨i0, hib, hz0, hz1, hz2⟩ := info_parts infoByte
  have hz := bs_size l
  rw [show fmtHex l = hexL l from if_pos hl]
  have hmk : ∀ w : World, (Instr.makeSlice 47 (.int .i64 0) (.int .i64 (2 * (l.length : Int)))).run Tryd.prog w = .ok (.slice (some ⟨w.heap.size, 0, none⟩) 0 (2 * l.length)) (w.alloc (.cells (madeCells #[.int .u8 0] (2 * l.length)) 5)) := fun w => by
    have := run_make (P := Tryd.prog) w 47 5 i0 _ Tryd.underlying47 hib hz0 .i64 .i64 0 (2 * l.length : Nat) (by omega) (by omega) (by rw [hz2]; omega) (by omega)
    rw [hz1] at this
    have hn : (2 * (l.length : Int)).toNat = 2 * l.length := by omega
    simpa [Value.cells, hn] using this
  go_enter Tryd.func36, Tryd.ntmps36
  go_wp2
  go_loopw [4, 5] (fun out i wr => RelFh l w out i wr) (fun _ i _ => l.length - (intOf i).toNat)
  case atStart => exact ⟨0, Nat.zero_le _, rfl, ⟨rfl, .inr ⟨w.heap.size, 2 * l.length, _, rfl, Nat.le_refl _, (MapKept.heap_alloc w _).1, Nat.zero_le _, by unfold maxLen; omega, by simp [madeCells], rfl⟩⟩, (Up.refl _).alloc _⟩
  case round =>
    obtain ⟨k, hk, rfl, ho, hup⟩ := hrel
    have hpl := hexL_len (l.take k)
    rw [List.length_take, Nat.min_eq_left hk] at hpl
    unfold ownU at ho
    obtain ⟨a, c, rfl⟩ := ownsRow_shape ho
    rw [hpl] at ho ⊢
    have HO := Lib.hid ho
    have HPL := Lib.hid hpl
    clear ho hpl
    have hsz := hup.size
    by_cases hlt : k < l.length
    · have hlt2 : k < (bs l).size := by omega
      have hu := u8_bd (bs l)[k]
      have HX := Lib.hid (hexL_succ hlt)
      have hn16 : (bs l)[k].toNat / 16 < 16 := by omega
      have hm16 : (bs l)[k].toNat % 16 < 16 := by omega
      have hx1 := hexAt ((bs l)[k].toNat / 16) hn16 hn16
      have hx2 := hexAt ((bs l)[k].toNat % 16) hm16 hm16
      go_wp2
      refine wp_region_own 15 14 (Value.ownBlock (.slice a (2 * k) c)) (by kernel_rfl) (by kernel_rfl) ?_
      simp only [List.take, List.drop]
      repeat (refine wpG_step (fun K hK => ?_); go_simp; (try simp only [↓IntWalk.iteOmega]); first
        | (refine hK _ _ ?_; clear hK K)
        | (refine stepG_own (by rfl) (by kernel_rfl) ((fun v w' => w'.ownsRow w.heap.size 5 1 v (2 * k + 2) (cellsU (hexL (l.take k)) ++ [.int .u8 ((hexD ((bs l)[k].toNat / 16)).toNat : Int), .int .u8 ((hexD ((bs l)[k].toNat % 16)).toNat : Int)]))) ((fun v w w' h hu => ownsRow_up h hu)) (fun wq hwq => ?_) ?_
           · ((repeat (first | refine fills_no (by rfl) ?_ | refine fills_yes (by rfl) (fun vq hvq => ?_))); simp only [List.filter_nil, fills]; (obtain ⟨bq, eqb, nb, hcb⟩ := hvq; exact gAt_append (.tmp 19) (.tmp 32) 47 (by rfl) w.heap.size 5 i0 (.int .u8 0) 1 1 Tryd.underlying47 hib hz0 hz1 hz2 rfl (by decide) (.slice a (2 * k) c) (2 * k) (cellsU (hexL (l.take k))) (by rfl) (ownsRow_up HO.out hwq) ⟨bq, 0, none⟩ 2 2 [.int .u8 ((hexD ((bs l)[k].toNat / 16)).toNat : Int), .int .u8 ((hexD ((bs l)[k].toNat % 16)).toNat : Int)] (by exact eqb) rfl (newU_cells hcb) (by intro u hu; simp at hu; rcases hu with rfl | rfl <;> rfl) (by unfold maxLen; omega) (by omega) (by have := hwq.size; omega) _ rfl))
           refine hK _ _ ?_; clear hK K)
        | (refine stepG_c (by rfl) ?_ ?_ ?_
           rotate_left
           · intro wq hwq; (have hbq := gcell hwq; (repeat (first | refine fills_no (by rfl) ?_ | refine fills_yes (by rfl) (fun vq hvq => ?_))); simp only [List.filter_nil, fills]; unfold upAt; (try (skip)); go_simp; (try go_bits); (try simp only [↓IntWalk.iteOmega]); (try (rw [dif_pos (by omega)]; go_simp; try go_bits)); first | exact upOut_value | (apply upOut_call; fail) | (apply upOut_eq; fail))
           go_simp; refine hK _ _ ?_; clear hK K)
        | (refine stepG_m (by rfl) (by kernel_rfl) (NewU (Value.ownBlock (.slice a (2 * k) c)) (bs l)[k].toNat) (newU_closed) (fun wq hwq => ?_) ?_
           · (have hbq := gcell hwq; (repeat (first | refine fills_no (by rfl) ?_ | refine fills_yes (by rfl) (fun vq hvq => ?_))); simp only [List.filter_nil, fills]; unfold upAt; (try (skip)); go_simp; (try go_bits); (try simp only [↓IntWalk.iteOmega]); (try (rw [dif_pos (by omega)]; go_simp; try go_bits)); exact upOut_make ((Up.refl _).alloc _) ⟨_, rfl, own_ne HO.out hwq.size, (MapKept.heap_alloc _ _).1⟩)
           refine hK _ _ ?_; clear hK K))
      refine wpG_nil (by rfl) (fun wq hwq => ?_)
      simp only [fills]
      rintro v11 h11 v10 -
      have hU : Up w wq := hup.grown hwq (fun y hy => (HO.out.lt y hy).1)
      obtain ⟨a3, c3, rfl⟩ := ownsRow_shape h11
      have H9 := Lib.hid (And.intro hU h11)
      clear hU h11 hwq
      go_wp2
      go_roundw
      case rel => exact ⟨k + 1, by omega, by go_num, by
        have h1 := H9.out.2
        rw [← hex_cells] at h1
        have e : hexL (l.take (k + 1)) = hexL (l.take k) ++ [hexD ((bs l)[k].toNat / 16), hexD ((bs l)[k].toNat % 16)] := HX.out
        unfold ownU
        rw [e, List.length_append, HPL.out]
        exact h1, H9.out.1⟩
      case measure => simp [intOf]; omega
    · have HKL : Hid (l.take k = l) := List.take_of_length_le (by omega)
      rw [HKL.out] at HO HPL
      have hcv : ∀ n, n = 2 * k → (convert 47 9 (.slice a n c)).run Tryd.prog wr = .ok (.string (bs (hexL l))) wr := fun n hn => by
        subst hn
        exact conv_any HO.out HPL.out.symm
      have hcv1 := hcv _ rfl
      go_wp2
      go_ret
      exact ⟨rfl, hup⟩

end Go.Proofs.YtiiahjnfbhcgmaaDoor

/- Plain: the codes that a writer writes, part by part, are those of the whole text (for the writers). Conditions: what is known is valid, the data has only literals. -/
namespace Go.Proofs.YtiiahjnfbhcgmaaDoor
set_option linter.unusedVariables false
set_option linter.unusedSimpArgs false
open Go.RowKit

/-- What a writer writes of its text: the codes, what is known behind them, the text that has no code yet. -/
def wrC : Nat → KnD → List UInt8 → List Int × KnD × List UInt8
  | 0, k, d => ([], k, d)
  | n + 1, k, d =>
    if d = [] ∨ k.longest d = d then ([], k, d)
    else if (k.after (k.find (k.longest d))).full = true then
      (k.find (k.longest d) :: (k.c : Int) :: (wrC n (k.after (k.find (k.longest d))).cleared (d.drop (k.longest d).length)).1, (wrC n (k.after (k.find (k.longest d))).cleared (d.drop (k.longest d).length)).2)
    else (k.find (k.longest d) :: (wrC n (k.after (k.find (k.longest d))) (d.drop (k.longest d).length)).1, (wrC n (k.after (k.find (k.longest d))) (d.drop (k.longest d).length)).2)
theorem wrC_stop {n : Nat} {k : KnD} {d : List UInt8} (h : d = [] ∨ k.longest d = d) : wrC n k d = ([], k, d) := by
  cases n with
  | zero => rfl
  | succ n => rw [wrC, if_pos h]
/-- What is left has no code yet: it is empty, or a word. -/
theorem wrC_end : ∀ (n : Nat) (k : KnD) (d : List UInt8), d.length ≤ n → k.Ok → (∀ b ∈ d, b.toNat < k.c) →
    (wrC n k d).2.1.Ok ∧ (wrC n k d).2.1.set = k.set ∧ ((wrC n k d).2.2 = [] ∨ (wrC n k d).2.1.longest (wrC n k d).2.2 = (wrC n k d).2.2) ∧ (d ≠ [] → (wrC n k d).2.2 ≠ []) ∧ (∃ p, d = p ++ (wrC n k d).2.2) := by
  intro n
  induction n with
  | zero =>
    intro k d hd hk _
    have : d = [] := List.eq_nil_of_length_eq_zero (by omega)
    subst this
    exact ⟨hk, rfl, .inl rfl, fun h => absurd rfl h, [], rfl⟩
  | succ n ih =>
    intro k d hd hk hl
    by_cases hs : d = [] ∨ k.longest d = d
    · rw [wrC_stop hs]
      exact ⟨hk, rfl, hs, fun h => h, [], rfl⟩
    · have hd0 : d ≠ [] := fun e => hs (.inl e)
      have hp := KnD.longest_pos (k := k) hd0
      have hle := KnD.longest_le (k := k) d
      have hlt : (k.longest d).length < d.length := by
        rcases Nat.lt_or_ge (k.longest d).length d.length with h | h
        · exact h
        · exfalso
          apply hs
          right
          have ht := KnD.longest_take (k := k) d
          rw [show (k.longest d).length = d.length by omega, List.take_length] at ht
          exact ht.symm
      obtain ⟨hf, -⟩ := KnD.find_any hk hd0 hl
      have hak := KnD.after_ok hk hf
      have hr : d.drop (k.longest d).length ≠ [] := fun e => by
        have := congrArg List.length e
        rw [List.length_drop] at this
        simp at this
        omega
      have hl' : ∀ b ∈ d.drop (k.longest d).length, b.toNat < k.c := fun b hb => hl b (List.mem_of_mem_drop hb)
      have hlen : (d.drop (k.longest d).length).length ≤ n := by rw [List.length_drop]; omega
      rw [wrC, if_neg hs]
      by_cases hfu : (k.after (k.find (k.longest d))).full = true
      · rw [if_pos hfu]
        obtain ⟨h1, h2, h3, h4, p, h5⟩ := ih (k.after (k.find (k.longest d))).cleared _ hlen (KnD.cleared_ok hak) hl'
        exact ⟨h1, h2, h3, fun _ => h4 hr, d.take (k.longest d).length ++ p, by
          rw [List.append_assoc, ← h5, List.take_append_drop]⟩
      · rw [if_neg hfu]
        obtain ⟨h1, h2, h3, h4, p, h5⟩ := ih (k.after (k.find (k.longest d))) _ hlen hak hl'
        exact ⟨h1, h2, h3, fun _ => h4 hr, d.take (k.longest d).length ++ p, by
          rw [List.append_assoc, ← h5, List.take_append_drop]⟩
/-- The codes of a text that goes on begin with those that are written. -/
theorem wrC_greedy : ∀ (n : Nat) (k : KnD) (d e : List UInt8) (m : Nat), d.length ≤ n → (d ++ e).length ≤ m → k.Ok → (∀ b ∈ d, b.toNat < k.c) →
    ∃ m', ((wrC n k d).2.2 ++ e).length ≤ m' ∧ greedyN m k (d ++ e) = (wrC n k d).1 ++ greedyN m' (wrC n k d).2.1 ((wrC n k d).2.2 ++ e) := by
  intro n
  induction n with
  | zero =>
    intro k d e m hd hm hk _
    have : d = [] := List.eq_nil_of_length_eq_zero (by omega)
    subst this
    exact ⟨m, hm, rfl⟩
  | succ n ih =>
    intro k d e m hd hm hk hl
    by_cases hs : d = [] ∨ k.longest d = d
    · rw [wrC_stop hs]
      exact ⟨m, hm, rfl⟩
    · have hd0 : d ≠ [] := fun e => hs (.inl e)
      have hp := KnD.longest_pos (k := k) hd0
      have hle := KnD.longest_le (k := k) d
      have hlo := KnD.longest_more hk e hd0 (fun h => hs (.inr h))
      have hlt : (k.longest d).length < d.length := by
        rcases Nat.lt_or_ge (k.longest d).length d.length with h | h
        · exact h
        · exfalso
          apply hs
          right
          have ht := KnD.longest_take (k := k) d
          rw [show (k.longest d).length = d.length by omega, List.take_length] at ht
          exact ht.symm
      obtain ⟨hf, -⟩ := KnD.find_any hk hd0 hl
      have hak := KnD.after_ok hk hf
      have hl' : ∀ b ∈ d.drop (k.longest d).length, b.toNat < k.c := fun b hb => hl b (List.mem_of_mem_drop hb)
      have hlen : (d.drop (k.longest d).length).length ≤ n := by rw [List.length_drop]; omega
      have hdrop : (d ++ e).drop (k.longest d).length = d.drop (k.longest d).length ++ e := by rw [List.drop_append_of_le_length hle]
      have hde : d ++ e ≠ [] := by simp [hd0]
      have hne : d.drop (k.longest d).length ++ e ≠ [] := fun h => by
        have := congrArg List.length h
        rw [List.length_append, List.length_drop] at this
        simp at this
        omega
      obtain ⟨m, rfl⟩ : ∃ q, m = q + 1 := ⟨m - 1, by rw [List.length_append] at hm; omega⟩
      have hm' : (d.drop (k.longest d).length ++ e).length ≤ m := by rw [List.length_append, List.length_drop]; rw [List.length_append] at hm; omega
      rw [wrC, if_neg hs]
      by_cases hfu : (k.after (k.find (k.longest d))).full = true
      · rw [if_pos hfu]
        obtain ⟨m', h1, h2⟩ := ih (k.after (k.find (k.longest d))).cleared _ e m hlen hm' (KnD.cleared_ok hak) hl'
        refine ⟨m', h1, ?_⟩
        rw [greedyN, if_neg hde, hlo, hdrop, if_pos ⟨hfu, hne⟩, h2]
        rfl
      · rw [if_neg hfu]
        obtain ⟨m', h1, h2⟩ := ih (k.after (k.find (k.longest d))) _ e m hlen hm' hak hl'
        refine ⟨m', h1, ?_⟩
        rw [greedyN, if_neg hde, hlo, hdrop, if_neg (fun h => hfu h.1), h2]
        rfl
end Go.Proofs.YtiiahjnfbhcgmaaDoor

/- Plain: the bits of codes from a state, and their bytes when they are put into bytes part by part (for the writers). Conditions: as each says. -/
namespace Go.Proofs.YtiiahjnfbhcgmaaDoor
set_option linter.unusedVariables false
set_option linter.unusedSimpArgs false
open Go Go.RowKit

/-- Whole bytes, then the rest. -/
theorem packL_append (o : Int) {a b : List UInt8} (h : a.length % 8 = 0) : packL o (a ++ b) = packL o a ++ packL o b := by
  obtain ⟨n, hn⟩ : ∃ n, a.length = 8 * n := ⟨a.length / 8, by omega⟩
  have hpa : padL a = a := by unfold padL; rw [h]; simp
  have hpab : padL (a ++ b) = a ++ padL b := by
    unfold padL
    rw [List.append_assoc, List.length_append]
    congr 3
    omega
  have hlb := padL_length b
  refine List.ext_getElem? fun i => ?_
  unfold packL
  rw [hpa, hpab, List.length_append, hn, hlb, show (8 * n + 8 * ((b.length + 7) / 8)) / 8 = n + (b.length + 7) / 8 by omega, show 8 * n / 8 = n by omega, show 8 * ((b.length + 7) / 8) / 8 = (b.length + 7) / 8 by omega]
  rcases Nat.lt_or_ge i n with hi | hi
  · rw [List.getElem?_append_left (by simp; omega)]
    simp only [List.getElem?_map]
    rw [List.getElem?_range (by omega), List.getElem?_range (by omega)]
    simp only [Option.map_some]
    congr 1
    unfold byteN
    congr 2
    rw [List.drop_append_of_le_length (by omega), List.take_append_of_le_length (by rw [List.length_drop]; omega)]
  · rw [List.getElem?_append_right (by simp; omega)]
    simp only [List.getElem?_map, List.length_map, List.length_range]
    by_cases hb : i < n + (b.length + 7) / 8
    · rw [List.getElem?_range (by omega), List.getElem?_range (by omega)]
      simp only [Option.map_some]
      congr 1
      unfold byteN
      congr 3
      rw [List.drop_append, List.drop_of_length_le (by omega), List.nil_append]
      congr 1
      omega
    · rw [List.getElem?_eq_none (by simp; omega), List.getElem?_eq_none (by simp; omega)]
      rfl

/-- What is known behind a code. -/
def KnD.thru (k : KnD) (x : Int) : KnD := if x = (k.c : Int) + 1 then k else if x = (k.c : Int) then k.cleared else k.after x
def KnD.thruN (k : KnD) : List Int → KnD
  | [] => k
  | x :: xs => (k.thru x).thruN xs
/-- The bits of codes. -/
def bitsS (o : Int) : KnD → List Int → List UInt8
  | _, [] => []
  | k, x :: xs => codeL o x.toNat k.width ++ bitsS o (k.thru x) xs
theorem thruN_app (k : KnD) : ∀ (xs ys : List Int), k.thruN (xs ++ ys) = (k.thruN xs).thruN ys := by
  intro xs
  induction xs generalizing k with
  | nil => intro ys; rfl
  | cons x xs ih => intro ys; exact ih (k.thru x) ys
theorem bitsS_app (o : Int) : ∀ (xs ys : List Int) (k : KnD), bitsS o k (xs ++ ys) = bitsS o k xs ++ bitsS o (k.thruN xs) ys := by
  intro xs
  induction xs with
  | nil => intro ys k; rfl
  | cons x xs ih =>
    intro ys k
    show codeL o x.toNat k.width ++ bitsS o (k.thru x) (xs ++ ys) = _
    rw [ih ys (k.thru x)]
    show _ = (codeL o x.toNat k.width ++ bitsS o (k.thru x) xs) ++ bitsS o ((k.thru x).thruN xs) ys
    rw [List.append_assoc]
end Go.Proofs.YtiiahjnfbhcgmaaDoor

/- Plain: a writer that gets data in parts writes the stream of all data (for FnWriteAll and the other writers' laws). Conditions: what is known is valid, the data has only literals. -/
namespace Go.Proofs.YtiiahjnfbhcgmaaDoor
set_option linter.unusedVariables false
set_option linter.unusedSimpArgs false
open Go Go.RowKit

theorem KnD.thru_fol {k : KnD} (h : k.Ok) {x : Int} (hf : k.follows x = true) : k.thru x = k.after x := by
  have : x ≠ (k.c : Int) + 1 ∧ x ≠ (k.c : Int) := by
    rcases KnD.follows_cases h hf with hc | ⟨hg, rfl, hl⟩
    · rw [codeOk_iff] at hc; omega
    · unfold KnD.next; omega
  unfold KnD.thru
  rw [if_neg this.1, if_neg this.2]
theorem wrC_thru : ∀ (n : Nat) (k : KnD) (d : List UInt8), k.Ok → (∀ b ∈ d, b.toNat < k.c) → (wrC n k d).2.1 = k.thruN (wrC n k d).1 := by
  intro n
  induction n with
  | zero => intro k d _ _; rfl
  | succ n ih =>
    intro k d hk hl
    by_cases hs : d = [] ∨ k.longest d = d
    · rw [wrC_stop hs]; rfl
    · have hd0 : d ≠ [] := fun e => hs (.inl e)
      obtain ⟨hf, -⟩ := KnD.find_any hk hd0 hl
      have hak := KnD.after_ok hk hf
      have hl' : ∀ b ∈ d.drop (k.longest d).length, b.toNat < k.c := fun b hb => hl b (List.mem_of_mem_drop hb)
      rw [wrC, if_neg hs]
      by_cases hfu : (k.after (k.find (k.longest d))).full = true
      · rw [if_pos hfu]
        show _ = ((k.thru _).thru _).thruN _
        rw [KnD.thru_fol hk hf]
        have hc : (k.after (k.find (k.longest d))).thru (k.c : Int) = (k.after (k.find (k.longest d))).cleared := by
          unfold KnD.thru
          rw [if_neg (by show ¬ ((k.c : Int) = (k.c : Int) + 1); omega)]
          exact if_pos rfl
        rw [hc]
        exact ih _ _ (KnD.cleared_ok hak) hl'
      · rw [if_neg hfu]
        show _ = (k.thru _).thruN _
        rw [KnD.thru_fol hk hf]
        exact ih _ _ hak hl'

/-- A writer. -/
structure WrD where
  k : KnD
  pend : List UInt8
  bits : List UInt8
  beg : Bool
/-- The bits ahead of the further data's, and what is known there. -/
def WrD.open (w : WrD) : List UInt8 × KnD := if w.beg then (w.bits, w.k) else (w.bits ++ codeL w.k.set.ord w.k.c w.k.width, w.k.cleared)
def WrD.codes (w : WrD) (d : List UInt8) : List Int × KnD × List UInt8 := wrC (w.pend ++ d).length w.open.2 (w.pend ++ d)
def WrD.all (w : WrD) (d : List UInt8) : List UInt8 := w.open.1 ++ bitsS w.k.set.ord w.open.2 (w.codes d).1
/-- What further data makes of a writer, and the bytes that it writes. -/
def WrD.write (w : WrD) (d : List UInt8) : WrD × List UInt8 :=
  if d = [] then (w, []) else (⟨(w.codes d).2.1, (w.codes d).2.2, (w.all d).drop ((w.all d).length / 8 * 8), true⟩, packL w.k.set.ord ((w.all d).take ((w.all d).length / 8 * 8)))
/-- The bytes that close a writer. -/
def WrD.close (w : WrD) : List UInt8 := packL w.k.set.ord (w.open.1 ++ bitsS w.k.set.ord w.open.2 ((if w.pend = [] then [] else [w.open.2.find w.pend]) ++ [(w.k.c : Int) + 1]))

structure WaInv (k0 : KnD) (d : List UInt8) (w : WrD) (out : List UInt8) : Prop where
  ok : w.k.Ok
  set : w.k.set = k0.set
  lits : ∀ b ∈ w.pend, b.toNat < k0.c
  word : w.pend = [] ∨ w.k.longest w.pend = w.pend
  st : (w.beg = false ∧ d = [] ∧ w.pend = [] ∧ w.bits = [] ∧ w.k = k0 ∧ out = []) ∨
    (w.beg = true ∧ ∃ C P, P.length % 8 = 0 ∧ out = packL k0.set.ord P ∧ P ++ w.bits = bitsS k0.set.ord k0 C ∧ w.k = k0.thruN C ∧
      ∀ e m, (d ++ e).length ≤ m → (∀ b ∈ e, b.toNat < k0.c) → ∃ m', (w.pend ++ e).length ≤ m' ∧ (k0.c : Int) :: greedyN m k0.cleared (d ++ e) = C ++ greedyN m' w.k (w.pend ++ e))
theorem WaInv.start {k : KnD} (h : k.Ok) : WaInv k [] ⟨k, [], [], false⟩ [] := ⟨h, rfl, (fun b hb => absurd hb (List.not_mem_nil)), .inl rfl, .inl ⟨rfl, rfl, rfl, rfl, rfl, rfl⟩⟩
theorem thru_clear (k : KnD) : k.thru (k.c : Int) = k.cleared := by
  unfold KnD.thru
  rw [if_neg (by omega), if_pos rfl]
theorem WaInv.next {k0 : KnD} {d x : List UInt8} {w : WrD} {out : List UInt8} (hk0 : k0.Ok) (h : WaInv k0 d w out) (hx : ∀ b ∈ x, b.toNat < k0.c) : WaInv k0 (d ++ x) (w.write x).1 (out ++ (w.write x).2) := by
  by_cases hx0 : x = []
  · subst hx0
    unfold WrD.write
    rw [if_pos rfl, List.append_nil, List.append_nil]
    exact h
  obtain ⟨hk, hset, hlp, hword, hst⟩ := h
  have hc : w.k.c = k0.c := by unfold KnD.c; rw [hset]
  have hlx : ∀ b ∈ w.pend ++ x, b.toNat < k0.c := fun b hb => (List.mem_append.1 hb).elim (hlp b) (hx b)
  have hB := List.take_append_drop ((w.all x).length / 8 * 8) (w.all x)
  have hT : ((w.all x).take ((w.all x).length / 8 * 8)).length % 8 = 0 := by rw [List.length_take]; omega
  unfold WrD.write
  rw [if_neg hx0]
  rcases hst with ⟨b1, rfl, b3, b4, b5, rfl⟩ | ⟨b1, C, P, p1, p2, p3, p4, p5⟩
  · have ho : w.open = (codeL k0.set.ord k0.c k0.width, k0.cleared) := by unfold WrD.open; rw [b1, b4, b5]; simp
    have hcd : w.codes x = wrC x.length k0.cleared x := by unfold WrD.codes; rw [ho, b3]; rfl
    obtain ⟨q1, q2, q3, q4, q, q5⟩ := wrC_end x.length k0.cleared x (Nat.le_refl _) (KnD.cleared_ok hk0) hx
    have hth := wrC_thru x.length k0.cleared x (KnD.cleared_ok hk0) hx
    have hall : w.all x = bitsS k0.set.ord k0 ((k0.c : Int) :: (wrC x.length k0.cleared x).1) := by
      unfold WrD.all
      rw [hcd, ho, hset]
      show codeL k0.set.ord k0.c k0.width ++ _ = codeL k0.set.ord (k0.c : Int).toNat k0.width ++ bitsS k0.set.ord (k0.thru (k0.c : Int)) _
      rw [thru_clear]
      rfl
    refine ⟨by rw [hcd]; exact q1, by rw [hcd]; exact q2, fun b hb => hx b ?_, by rw [hcd]; exact q3, .inr ⟨rfl, (k0.c : Int) :: (wrC x.length k0.cleared x).1, _, hT, by rw [hset]; rfl, by rw [hB, hall], ?_, fun e m hm he => ?_⟩⟩
    · rw [hcd] at hb
      rw [q5]
      exact List.mem_append_right _ hb
    · rw [hcd, hth]
      show _ = (k0.thru (k0.c : Int)).thruN _
      rw [thru_clear]
    · rw [hcd]
      obtain ⟨m', r1, r2⟩ := wrC_greedy x.length k0.cleared x e m (Nat.le_refl _) hm (KnD.cleared_ok hk0) hx
      exact ⟨m', r1, by
        show (k0.c : Int) :: greedyN m k0.cleared (x ++ e) = _
        rw [r2]; rfl⟩
  · have ho : w.open = (w.bits, w.k) := by unfold WrD.open; rw [b1]; rfl
    have hcd : w.codes x = wrC (w.pend ++ x).length w.k (w.pend ++ x) := by unfold WrD.codes; rw [ho]
    have hlw : ∀ b ∈ w.pend ++ x, b.toNat < w.k.c := fun b hb => by rw [hc]; exact hlx b hb
    obtain ⟨q1, q2, q3, q4, q, q5⟩ := wrC_end (w.pend ++ x).length w.k (w.pend ++ x) (Nat.le_refl _) hk hlw
    have hth := wrC_thru (w.pend ++ x).length w.k (w.pend ++ x) hk hlw
    have hall : P ++ w.all x = bitsS k0.set.ord k0 (C ++ (wrC (w.pend ++ x).length w.k (w.pend ++ x)).1) := by
      unfold WrD.all
      rw [hcd, ho, hset, bitsS_app, ← p3, ← p4, List.append_assoc]
    refine ⟨by rw [hcd]; exact q1, by rw [hcd]; exact q2.trans hset, fun b hb => hlx b ?_, by rw [hcd]; exact q3, .inr ⟨rfl, C ++ (wrC (w.pend ++ x).length w.k (w.pend ++ x)).1, P ++ (w.all x).take ((w.all x).length / 8 * 8), ?_, ?_, ?_, ?_, fun e m hm he => ?_⟩⟩
    · rw [hcd] at hb
      rw [q5]
      exact List.mem_append_right _ hb
    · rw [List.length_append]; omega
    · rw [p2, hset, packL_append _ p1]
    · rw [List.append_assoc, hB, hall]
    · rw [hcd, hth, thruN_app, ← p4]
    · rw [hcd]
      have hxe : ∀ b ∈ x ++ e, b.toNat < k0.c := fun b hb => (List.mem_append.1 hb).elim (hx b) (he b)
      obtain ⟨m1, r1, r2⟩ := p5 (x ++ e) m (by rw [← List.append_assoc]; exact hm) hxe
      rw [show w.pend ++ (x ++ e) = (w.pend ++ x) ++ e from (List.append_assoc ..).symm] at r1 r2
      obtain ⟨m', s1, s2⟩ := wrC_greedy (w.pend ++ x).length w.k (w.pend ++ x) e m1 (Nat.le_refl _) r1 hk hlw
      exact ⟨m', s1, by rw [List.append_assoc d x e, r2, s2]; exact (List.append_assoc ..).symm⟩

end Go.Proofs.YtiiahjnfbhcgmaaDoor

/- Plain: writing in parts is writing at once (for FnWriteParts and FnWriteBits). Conditions: the writer is valid, the data has only literals. -/
namespace Go.Proofs.YtiiahjnfbhcgmaaDoor
set_option linter.unusedVariables false
set_option linter.unusedSimpArgs false
open Go Go.RowKit

theorem KnD.longest_lt {k : KnD} {d : List UInt8} (hs : k.longest d ≠ d) : (k.longest d).length < d.length := by
  have hle := KnD.longest_le (k := k) d
  rcases Nat.lt_or_ge (k.longest d).length d.length with h | h
  · exact h
  · exfalso
    apply hs
    have ht := KnD.longest_take (k := k) d
    rw [show (k.longest d).length = d.length by omega, List.take_length] at ht
    exact ht.symm
theorem WrD.open_ok {w : WrD} (h : w.k.Ok) : w.open.2.Ok ∧ w.open.2.set = w.k.set := by
  unfold WrD.open
  split
  · exact ⟨h, rfl⟩
  · exact ⟨KnD.cleared_ok h, rfl⟩
end Go.Proofs.YtiiahjnfbhcgmaaDoor

/- Plain: which writers are valid; what is written by a valid one is valid (for FnWriteParts, FnWriteBits). Conditions: as each says. -/
namespace Go.Proofs.YtiiahjnfbhcgmaaDoor
set_option linter.unusedVariables false
set_option linter.unusedSimpArgs false
open Go Go.RowKit

def KnD.vl (k : KnD) : Prop := k.last = -1 → k.base = k.ps.length
theorem vl_cleared {k : KnD} (h : k.Ok) : k.cleared.vl := fun _ => by
  have hb0 := h.base0
  have hb1 := h.base1
  show k.base = ((k.ps.take k.base.toNat).length : Int)
  rw [List.length_take]; omega
theorem vl_after {k : KnD} (h : k.Ok) {x : Int} (hf : k.follows x = true) : (k.after x).vl := fun hl => by
  have hl : x = -1 := hl
  have := (KnD.find_bd h hf).1
  omega
theorem wrC_vl : ∀ (n : Nat) (k : KnD) (d : List UInt8), k.Ok → k.vl → (∀ b ∈ d, b.toNat < k.c) → (wrC n k d).2.1.vl := by
  intro n
  induction n with
  | zero => intro k d _ hv _; exact hv
  | succ n ih =>
    intro k d hk hv hl
    by_cases hs : d = [] ∨ k.longest d = d
    · rw [wrC_stop hs]; exact hv
    · have hd0 : d ≠ [] := fun e => hs (.inl e)
      obtain ⟨hf, -⟩ := KnD.find_any hk hd0 hl
      have hak := KnD.after_ok hk hf
      have hl' : ∀ b ∈ d.drop (k.longest d).length, b.toNat < k.c := fun b hb => hl b (List.mem_of_mem_drop hb)
      rw [wrC, if_neg hs]
      split
      · exact ih _ _ (KnD.cleared_ok hak) (vl_cleared hak) hl'
      · exact ih _ _ hak (vl_after hk hf) hl'
/-- A word that has a code is the longest of itself. -/
theorem KnD.find_word {k : KnD} {d : List UInt8} (hd : d ≠ []) (h : 0 ≤ k.find d) : k.longest d = d := by
  have hW : k.isW d := by
    by_cases hc : d.length = 1 ∧ (d.getD 0 0).toNat < k.c
    · exact .inl hc.1
    · unfold KnD.find at h
      rw [if_neg hc] at h
      split at h
      · next i hi =>
        right
        have h1 := List.find?_some hi
        have h2 := List.mem_of_find?_eq_some hi
        exact ⟨i, List.mem_range.1 h2, by simpa using h1⟩
      · omega
  have h2 := KnD.isW_le hd hW (Nat.le_refl _) List.take_length
  have h3 := KnD.longest_le (k := k) d
  have ht := KnD.longest_take (k := k) d
  rw [show (k.longest d).length = d.length by omega, List.take_length] at ht
  exact ht.symm
theorem KnD.word_find {k : KnD} (hk : k.Ok) {d : List UInt8} (hd : d ≠ []) (hl : ∀ b ∈ d, b.toNat < k.c) (h : k.longest d = d) : 0 ≤ k.find d := by
  obtain ⟨hf, -⟩ := KnD.find_any hk hd hl
  rw [h] at hf
  exact (KnD.find_bd hk hf).1

/-- Whether a writer is valid. -/
def wrOk (w : WrD) : Prop := w.k.Ok ∧ w.k.vl ∧ (∀ b ∈ w.pend, b.toNat < w.k.c) ∧ w.pend.length ≤ 2000 ∧ isBits w.bits ∧ w.bits.length ≤ 7 ∧ (w.pend = [] ∨ w.k.longest w.pend = w.pend) ∧ (w.beg = false → w.pend = [] ∧ w.bits = [])
theorem isBits_codes (o : Int) : ∀ (xs : List Int) (k : KnD), isBits (bitsS o k xs) := by
  intro xs
  induction xs with
  | nil => intro k b hb; cases hb
  | cons x xs ih =>
    intro k b hb
    rcases List.mem_append.1 hb with hb | hb
    · have := isBits_packC o [x] [(k.width : Int)]
      simp only [packC, List.append_nil, Int.toNat_natCast] at this
      exact this b hb
    · exact ih (k.thru x) b hb
/-- What further data makes of a valid writer. -/
theorem wrOk_write {w : WrD} {d : List UInt8} (h : wrOk w) (hl : ∀ b ∈ d, b.toNat < w.k.c) (hd : (w.pend ++ d).length ≤ 2000) : wrOk (w.write d).1 ∧ (w.write d).1.k.set = w.k.set ∧ (d ≠ [] → (w.write d).1.beg = true ∧ (w.write d).1.pend ≠ []) ∧ ∃ p, w.pend ++ d = p ++ (w.write d).1.pend := by
  obtain ⟨hk, hv, hp, h2, hb, h7, hw, hn⟩ := h
  by_cases hd0 : d = []
  · subst hd0
    unfold WrD.write
    rw [if_pos rfl]
    exact ⟨⟨hk, hv, hp, h2, hb, h7, hw, hn⟩, rfl, fun h => absurd rfl h, [], by simp⟩
  obtain ⟨hok, hos⟩ := WrD.open_ok hk
  have hoc : w.open.2.c = w.k.c := by unfold KnD.c; rw [hos]
  have hov : w.open.2.vl := by
    unfold WrD.open
    split
    · exact hv
    · exact vl_cleared hk
  have hlo : ∀ x ∈ w.pend ++ d, x.toNat < w.open.2.c := fun x hx => by
    rw [hoc]
    exact (List.mem_append.1 hx).elim (hp x) (hl x)
  obtain ⟨q1, q2, q3, q4, p, q5⟩ := wrC_end (w.pend ++ d).length w.open.2 (w.pend ++ d) (Nat.le_refl _) hok hlo
  have q6 := wrC_vl (w.pend ++ d).length w.open.2 (w.pend ++ d) hok hov hlo
  have hcc : (w.codes d).2.1.c = w.k.c := by unfold KnD.c; rw [show (w.codes d).2.1.set = w.open.2.set from q2, hos]
  have q5' : w.pend ++ d = p ++ (w.codes d).2.2 := q5
  have hob : isBits w.open.1 := by
    unfold WrD.open
    split
    · exact hb
    · intro b hb'
      rcases List.mem_append.1 hb' with h | h
      · exact hb b h
      · have := isBits_packC w.k.set.ord [(w.k.c : Int)] [(w.k.width : Int)]
        simp only [packC, List.append_nil, Int.toNat_natCast] at this
        exact this b h
  have hall : isBits (w.all d) := fun b hb' => by
    rcases List.mem_append.1 hb' with h | h
    · exact hob b h
    · exact isBits_codes _ _ _ b h
  unfold WrD.write
  rw [if_neg hd0]
  refine ⟨⟨q1, q6, fun b hb' => ?_, ?_, fun b hb' => hall b (List.mem_of_mem_drop hb'), ?_, q3, fun h => by cases h⟩, q2.trans hos, fun _ => ⟨rfl, q4 (by simp [hd0])⟩, p, q5'⟩
  · show b.toNat < (w.codes d).2.1.c
    rw [hcc, ← hoc]
    exact hlo b (by rw [q5']; exact List.mem_append_right _ hb')
  · have := congrArg List.length q5'
    have h9 : (p ++ (w.codes d).2.2).length = p.length + (w.codes d).2.2.length := List.length_append
    rw [h9] at this
    show (w.codes d).2.2.length ≤ 2000
    omega
  · show ((w.all d).drop ((w.all d).length / 8 * 8)).length ≤ 7
    rw [List.length_drop]; omega

end Go.Proofs.YtiiahjnfbhcgmaaDoor

/- Plain: whether a writer is valid, what WriteData makes of a writer of any kind, and the rounds of its loop (for the writers' laws). Conditions: as each says. -/
namespace Go.Proofs.YtiiahjnfbhcgmaaDoor
set_option linter.unusedVariables false
set_option linter.unusedSimpArgs false
open Go Go.RowKit

def bitsB (l : List UInt8) : Bool := l.all fun b => decide (b.toNat = 48 ∨ b.toNat = 49)
theorem bitsB_iff {l : List UInt8} : bitsB l = true ↔ isBits l := by
  unfold bitsB isBits
  simp only [List.all_eq_true, decide_eq_true_eq]
/-- What is asked of a writer's text, bits and beginning beside what is known. -/
def wrsB (w : WrD) : Bool := (w.beg || (decide (w.pend = []) && decide (w.bits = []))) && (decide (w.pend = []) || decide (w.k.longest w.pend = w.pend))
def wrvB (w : WrD) : Bool := validK w.k && (fitsB w.k.set w.pend && ((bitsB w.bits && decide (w.bits.length ≤ 7)) && wrsB w))
theorem wrvB_ok {w : WrD} (h : wrvB w = true) : wrOk w := by
  unfold wrvB wrsB at h
  simp only [Bool.and_eq_true, Bool.or_eq_true, decide_eq_true_eq] at h
  obtain ⟨h1, h2, ⟨h3, h4⟩, h5, h6⟩ := h
  obtain ⟨g1, g2⟩ := ok_of_valid h1
  obtain ⟨f1, f2, f3⟩ := fitsB_lits h2
  refine ⟨g1, g2, f3, f2, bitsB_iff.1 h3, h4, h6, fun hb => ?_⟩
  rcases h5 with h5 | h5
  · rw [hb] at h5; cases h5
  · exact h5
/-- What WriteData makes of a writer of any kind: a writer and bytes, if the writer is valid and the data fits. -/
def wdO (w : WrD) (d : List UInt8) : Option (WrD × List UInt8) := if wrvB w && fitsB w.k.set (w.pend ++ d) then some (w.write d) else none
/-- The bytes that CloseWriter gives. -/
def wcO (w : WrD) : Option (List UInt8) := if wrvB w then some w.close else none
theorem wdO_none {w : WrD} {d : List UInt8} (h : (wrvB w && fitsB w.k.set (w.pend ++ d)) = false) : wdO w d = none := by unfold wdO; rw [h]; rfl
theorem wdO_some {w : WrD} {d : List UInt8} (h : (wrvB w && fitsB w.k.set (w.pend ++ d)) = true) : wdO w d = some (w.write d) := by unfold wdO; rw [h]; rfl

/-- The loop of WriteData at a round's beginning: what is known, the text that has no code yet, the bits. -/
structure WlD (T : List UInt8 × KnD × List UInt8) (s : SetD) (m : Nat) (k : KnD) (d b : List UInt8) : Prop where
  len : d.length ≤ m
  le : d.length ≤ 2000
  ne : d ≠ []
  sum : b.length + 20 * d.length ≤ 41000
  bit : isBits b
  tot : (b ++ bitsS s.ord k (wrC m k d).1, (wrC m k d).2) = T
  ok : k.Ok
  set : k.set = s
  lit : ∀ x ∈ d, x.toNat < clr s
theorem WlD.stop {T : List UInt8 × KnD × List UInt8} {s : SetD} {m : Nat} {k : KnD} {d b : List UInt8} (h : WlD T s m k d b) (hl : k.longest d = d) : T = (b, k, d) := by
  rw [← h.tot, wrC_stop (.inr hl)]
  show (b ++ [], k, d) = _
  rw [List.append_nil]
theorem WlD.lits {T : List UInt8 × KnD × List UInt8} {s : SetD} {m : Nat} {k : KnD} {d b : List UInt8} (h : WlD T s m k d b) : ∀ x ∈ d, x.toNat < k.c := by
  unfold KnD.c
  rw [h.set]
  exact h.lit
theorem WlD.step {T : List UInt8 × KnD × List UInt8} {s : SetD} {m : Nat} {k : KnD} {d b : List UInt8} (h : WlD T s m k d b) (hl : k.longest d ≠ d) :
    (k.follows (k.find (k.longest d)) = true ∧ k.find (k.longest d) ≠ (k.c : Int) ∧ k.find (k.longest d) ≠ (k.c : Int) + 1 ∧ 1 ≤ (k.longest d).length ∧ (k.longest d).length < d.length) ∧
    ((k.after (k.find (k.longest d))).full = true → WlD T s (m - 1) (k.after (k.find (k.longest d))).cleared (d.drop (k.longest d).length) ((b ++ codeL s.ord (k.find (k.longest d)).toNat k.width) ++ codeL s.ord (clr s) (k.after (k.find (k.longest d))).width)) ∧
    ((k.after (k.find (k.longest d))).full = false → WlD T s (m - 1) (k.after (k.find (k.longest d))) (d.drop (k.longest d).length) (b ++ codeL s.ord (k.find (k.longest d)).toNat k.width)) := by
  have hp := KnD.longest_pos (k := k) h.ne
  have hlt := KnD.longest_lt (k := k) (d := d) hl
  obtain ⟨hf, -⟩ := KnD.find_any h.ok h.ne h.lits
  have hak := KnD.after_ok h.ok hf
  have hc : k.c = clr s := by unfold KnD.c; rw [h.set]
  have hne : k.find (k.longest d) ≠ (k.c : Int) ∧ k.find (k.longest d) ≠ (k.c : Int) + 1 := by
    rcases KnD.follows_cases h.ok hf with hc | ⟨hg, e, hl⟩
    · rw [codeOk_iff] at hc; omega
    · rw [e]; unfold KnD.next; omega
  have h1 := h.len; have h2 := h.le; have h3 := h.sum; have h4 := h.tot
  obtain ⟨n, rfl⟩ : ∃ n, m = n + 1 := ⟨m - 1, by omega⟩
  have hs : ¬ (d = [] ∨ k.longest d = d) := fun e => e.elim h.ne hl
  have hr : d.drop (k.longest d).length ≠ [] := fun e => by
    have := congrArg List.length e
    rw [List.length_drop] at this
    simp at this
    omega
  have hth := KnD.thru_fol h.ok hf
  have hw := KnD.width_bd h.ok
  have hwa := KnD.width_bd hak
  refine ⟨⟨hf, hne.1, hne.2, hp, hlt⟩, fun hfu => ?_, fun hfu => ?_⟩
  · rw [wrC, if_neg hs, if_pos hfu] at h4
    refine ⟨by rw [List.length_drop]; omega, by rw [List.length_drop]; omega, hr, ?_, (h.bit.app (isBits_code _ _ _)).app (isBits_code _ _ _), ?_, KnD.cleared_ok hak, h.set, fun x hx => h.lit x (List.mem_of_mem_drop hx)⟩
    · rw [List.length_append, List.length_append, codeL_length, codeL_length, List.length_drop]; omega
    · rw [← h4]
      show _ = (b ++ (codeL s.ord _ k.width ++ (codeL s.ord (k.c : Int).toNat (k.thru _).width ++ bitsS s.ord ((k.thru _).thru (k.c : Int)) _)), _)
      rw [hth]
      have hcc : (k.after (k.find (k.longest d))).thru (k.c : Int) = (k.after (k.find (k.longest d))).cleared := thru_clear _
      rw [hcc, List.append_assoc, List.append_assoc, Int.toNat_natCast, hc]
      rfl
  · rw [wrC, if_neg hs, if_neg (by rw [hfu]; simp)] at h4
    refine ⟨by rw [List.length_drop]; omega, by rw [List.length_drop]; omega, hr, ?_, h.bit.app (isBits_code _ _ _), ?_, hak, h.set, fun x hx => h.lit x (List.mem_of_mem_drop hx)⟩
    · rw [List.length_append, codeL_length, List.length_drop]; omega
    · rw [← h4]
      show _ = (b ++ (codeL s.ord _ k.width ++ bitsS s.ord (k.thru _) _), _)
      rw [hth, List.append_assoc]
      rfl
theorem open_len {w : WrD} (h : wrOk w) : w.open.1.length ≤ 17 ∧ isBits w.open.1 := by
  have hw := KnD.width_bd h.1
  have h7 := h.2.2.2.2.2.1
  have hb := h.2.2.2.2.1
  unfold WrD.open
  split
  · exact ⟨by show w.bits.length ≤ 17; omega, hb⟩
  · refine ⟨?_, hb.app (isBits_code _ _ _)⟩
    show (w.bits ++ codeL _ _ _).length ≤ 17
    rw [List.length_append, codeL_length]; omega
theorem WlD.start {w : WrD} {d : List UInt8} (h : wrOk w) (hd : d ≠ []) (hl : ∀ x ∈ d, x.toNat < clr w.k.set) (hn : (w.pend ++ d).length ≤ 2000) :
    WlD (w.all d, (w.codes d).2) w.k.set (w.pend ++ d).length w.open.2 (w.pend ++ d) w.open.1 := by
  obtain ⟨hok, hos⟩ := WrD.open_ok h.1
  obtain ⟨o1, o2⟩ := open_len h
  exact ⟨Nat.le_refl _, hn, by simp [hd], by omega, o2, rfl, hok, hos, fun x hx => (List.mem_append.1 hx).elim (h.2.2.1 x) (hl x)⟩

/-- A writer's value. -/
def wrV (w : WrD) (v : Value) : Value := .agg #[.int .i64 w.k.set.ord, .int .i64 w.k.set.lit, .int .i64 w.k.set.most, v, .int .i64 w.k.base, .int .i64 w.k.last, .string (bs w.pend), .string (bs w.bits), .bool w.beg]
end Go.Proofs.YtiiahjnfbhcgmaaDoor

/- Plain: the texts of settings, of what is known, of writers, and reading them. Conditions: none. -/
namespace Go.Proofs.YtiiahjnfbhcgmaaDoor
set_option linter.unusedVariables false
set_option linter.unusedSimpArgs false
open Go

def begT (b : Bool) : List UInt8 := if b then [98, 101, 103, 117, 110] else [110, 101, 119]
def wrL (w : WrD) : List UInt8 := Lib.join [fmtK w.k, someL (fmtHex w.pend), someL w.bits, begT w.beg] [124]
/-- What FormatWriter returns. -/
def fmtW (w : WrD) : List UInt8 := if wrvB w then wrL w else []
theorem wrvB_parts {w : WrD} (h : wrvB w = true) : validK w.k = true ∧ w.pend.length ≤ 2000 ∧ bitsB w.bits = true ∧ w.bits.length ≤ 7 := by
  have ho := wrvB_ok h
  unfold wrvB at h
  simp only [Bool.and_eq_true, decide_eq_true_eq] at h
  exact ⟨h.1, ho.2.2.2.1, h.2.2.1.1, h.2.2.1.2⟩
end Go.Proofs.YtiiahjnfbhcgmaaDoor

