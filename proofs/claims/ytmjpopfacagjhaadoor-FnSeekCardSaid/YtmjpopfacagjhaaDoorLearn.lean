/- Walks of the reference's functions that learn a dictionary. Conditions: the settings are valid where it says so. -/
import Derived.Test.YtmjpopfacagjhaaDoorLz2
import Derived.Test.YtmjpopfacagjhaaDoorAfter
import Derived.Test.YtmjpopfacagjhaaDoorKV
namespace Go.Proofs.YtmjpopfacagjhaaDoor
set_option linter.unusedVariables false
set_option linter.unusedSimpArgs false
open Go Go.RowKit

/-- Data that fits. -/
def fitsB (s : SetD) (d : List UInt8) : Bool := setOk s && decide (d.length ≤ 2000) && litsL (clr s) d

set_option maxRecDepth 100000 in
set_option maxHeartbeats 1000000 in
theorem fitsS_any (s : SetD) (d : ByteArray) (w : World) (hd : d.size ≤ 1073741824) :
    Calls Tryd.prog 61  #[setV s, .string d] w (Same (.bool (fitsB s d.data.toList)) w) := by
  have cS := fun w => setS_any s.ord s.lit s.most w
  rw [setD_eta] at cS
  have hlen := ba_len d
  unfold fitsB
  rw [hlen]
  cases h : setOk s
  · rw [h] at cS
    clear h
    simp only [setV]
    go_enter Tryd.func61, Tryd.ntmps61
    go_wp2_with ((go_at_call 69; (with_reducible refine (cS _).mono ?_); rintro e w1 ⟨rfl, U1⟩; have B1 := bcell U1; have Z1 := U1.size; (try simp at Z1); (try rw [Nat.add_one_le_iff] at Z1)))
    go_ret
    refine ⟨ret_bool (by first | rfl | simp), ?_⟩
    (repeat (first | exact Up.refl _ | refine Up.alloc ?_ _ | refine Up.drew ?_ | refine Up.set ?_ (by first | exact Nat.le_refl _ | (simp; done) | (simp; omega)) _ | refine Up.trans ?_ (by with_reducible assumption)))
  · rw [h] at cS
    have cF := fun w => l1Fits_any s.ord s.lit s.most d w (by rw [setD_eta]; exact h) hd
    rw [setD_eta] at cF
    generalize litsL (clr s) d.data.toList = lb at *
    clear h
    simp only [setV]
    by_cases h2 : d.size ≤ 2000
    all_goals
      go_enter Tryd.func61, Tryd.ntmps61
      go_wp2_with (first | (go_at_call 69; (with_reducible refine (cS _).mono ?_); rintro e w1 ⟨rfl, U1⟩; have B1 := bcell U1; have Z1 := U1.size; (try simp at Z1); (try rw [Nat.add_one_le_iff] at Z1)) | (go_at_call 70; (with_reducible refine (cF _).mono ?_); rintro e w2 ⟨rfl, U2⟩; have B2 := bcell U2; have Z2 := U2.size; (try simp at Z2); (try rw [Nat.add_one_le_iff] at Z2)))
      go_ret
      refine ⟨ret_bool (by first | rfl | simp [h2]), ?_⟩
      (repeat (first | exact Up.refl _ | refine Up.alloc ?_ _ | refine Up.drew ?_ | refine Up.set ?_ (by first | exact Nat.le_refl _ | (simp; done) | (simp; omega)) _ | refine Up.trans ?_ (by with_reducible assumption)))

theorem upOut_known {f : FuncId} {args : Array Value} {w : World} {k : KnD} {base : Nat} (h : Calls Tryd.prog f args w (KnPost k w)) (hb : base ≤ w.heap.size) : upOut Tryd.prog (KnO base k) w (.ok (.enter f args) w) :=
  ⟨rfl, h.mono fun e w' ⟨v, he, ho, hu⟩ => ⟨kV k v, he, hu, v, rfl, ownsRow_base ho hb⟩⟩

def RelTL (K : KnD) (w : World) (t : Value) (wr : World) : Prop := ∃ (k : KnD) (d : List UInt8) (v : Value) (n : Nat), t = .string (bs d) ∧ d.length ≤ n ∧ d.length ≤ 2000 ∧ learnN n k d = K ∧ k.Ok ∧ (∀ b ∈ d, b.toNat < k.c) ∧ KnAt w.heap.size k v wr ∧ ownPr wr (w.heap.size + 2) v k.ps ∧ KnAt (w.heap.size + 1) ⟨⟨0, 0, 0⟩, [], 0, 0⟩ (.slice none 0 0) wr ∧ Up w wr
theorem bs_drop (l : List UInt8) (i : Nat) : (bs l).extract i (bs l).size = bs (l.drop i) := by
  rw [bs_ext, bs_size, List.take_of_length_le (by rw [List.length_drop]; exact Nat.le_refl _)]
theorem bs_drop' (l : List UInt8) (i n : Nat) (hn : n = l.length) : (bs l).extract i n = bs (l.drop i) := by
  subst hn; rw [← bs_size, bs_drop]
def slen : Value → Nat
  | .string s => s.size
  | _ => 0

set_option maxRecDepth 100000 in
set_option maxHeartbeats 4000000 in
theorem learnS_any (k : KnD) (v : Value) (lo : Nat) (d : ByteArray) (w : World) (h : k.Ok) (hr : RdP lo w v k.ps) (hd : d.size ≤ 2000) (hl : ∀ b ∈ d.data.toList, b.toNat < k.c) :
    Calls Tryd.prog 83  #[kV k v, .string d] w (KnPost (learnK k d.data.toList) w) := by
  have cC := fun w hr => l2Cleared_any k v lo w h hr
  have hrt := fun (wq : World) (hu : Up w wq) => hr.up hu
  obtain ⟨a, cap, rfl, -, -, -, -⟩ := hr
  have HK := Lib.hid h
  clear h
  simp only [kV] at *
  go_enter Tryd.func83, Tryd.ntmps83
  go_wp2_with fail
  refine (cC _ (hrt _ (by (repeat (first | with_reducible exact Up.refl _ | with_reducible assumption | with_reducible refine Up.set ?_ (by first | exact Nat.le_refl _ | (simp only []; omega) | (simp; omega)) _ | with_reducible refine Up.alloc ?_ _ | with_reducible refine Up.drew ?_ | refine Up.trans ?_ (by with_reducible assumption)))))).mono ?_
  rintro e w1 ⟨v1, rfl, ho1, U1⟩
  obtain ⟨a1, c1, rfl⟩ := ownsRow_shape ho1
  have hK : KnAt w.heap.size k (.slice a k.ps.length cap) w1 := KnAt.up (box_up ((Up.refl _).alloc _) (MapKept.heap_alloc w _).1) U1
  have hR : KnAt (w.heap.size + 1) ⟨⟨0, 0, 0⟩, [], 0, 0⟩ (.slice none 0 0) w1 := KnAt.up (alloc2 w _ _) U1
  have hO : ownPr w1 (w.heap.size + 2) (.slice a1 k.cleared.ps.length c1) k.cleared.ps := ownsRow_base ho1 (by simp)
  have hU1 : Up w w1 := by (repeat (first | with_reducible exact Up.refl _ | with_reducible assumption | with_reducible refine Up.set ?_ (by first | exact Nat.le_refl _ | (simp only []; omega) | (simp; omega)) _ | with_reducible refine Up.alloc ?_ _ | with_reducible refine Up.drew ?_ | refine Up.trans ?_ (by with_reducible assumption)))
  obtain ⟨-, r0, r1, r2, r3, r4, r5⟩ := hK.cells
  have hfr := box_free hK
  have HS := Lib.hid (And.intro hK (And.intro hR (And.intro hO hU1)))
  have HL : Hid (d = bs d.data.toList) := (bs_self d).symm
  have HLl := Lib.hid hl
  have hdl := ba_len d
  clear hK hR hO hU1 ho1 hl U1
  generalize d.data.toList = L at *
  go_wp2
  go_loopw [1] (fun t wr => RelTL (learnN L.length k.cleared L) w t wr) (fun t _ => slen t)
  case atStart =>
    obtain ⟨hK, hR, hO, hU1⟩ := HS.out
    refine ⟨k.cleared, L, .slice a1 k.cleared.ps.length c1, L.length, congrArg Value.string HL.out, Nat.le_refl _, by omega, rfl, KnD.cleared_ok HK.out, HLl.out, KnAt.store hK k.cleared _, KnW.own hO (fun e => by have := (hO.lt _ e.symm).1; omega) k.cleared _, (KnW.other (by omega) k.cleared _).trans hR, KnW.up hU1 (Nat.le_refl _) k.cleared _⟩
  case round =>
    clear HS HL r0 r1 r2 r3 r4 r5 hfr hdl hd
    obtain ⟨k', d', v', n, rfl, hn, hd2, hln, hok, hlit, hkn, hown, hres, hup⟩ := hrel
    obtain ⟨a', c', rfl⟩ := ownsRow_shape hown
    have HKN := Lib.hid (And.intro hkn (And.intro hown (And.intro hres (And.intro hup (And.intro hok (And.intro hlit hln))))))
    obtain ⟨b0, r0, r1, r2, r3, r4, r5⟩ := hkn.cells
    by_cases hde : d' = []
    · subst hde
      rw [learnN_nil] at hln
      subst hln
      have hres' := hres
      obtain ⟨-, q0, q1, q2, q3, q4, q5⟩ := KnAt.cells (k := ⟨⟨0, 0, 0⟩, [], 0, 0⟩) (v := .slice none 0 0) hres
      have hfr := box_free hres
      have HO := Lib.hid hown
      have HU := Lib.hid hup
      have hset : Hid ((learnN L.length k.cleared L).set = k.set) := (learnN_ok L.length (KnD.cleared_ok HK.out) (d := L) HLl.out).2.1
      have HE : Hid (learnK k L = ⟨(learnN L.length k.cleared L).set, (learnN L.length k.cleared L).ps, (learnN L.length k.cleared L).ps.length, -1⟩) := by unfold Hid learnK; rw [hset.out]
      rw [show bs ([] : List UInt8) = (⟨#[]⟩ : ByteArray) from rfl]
      generalize learnN L.length k.cleared L = kk at *
      clear hres hres' hown hup hlit hok
      go_wp2
      rw [HE.out]
      refine bodyPost_ret (v := kV ⟨kk.set, kk.ps, kk.ps.length, -1⟩ (.slice a' kk.ps.length c')) (by simp [results, Tryd.results83, go_sem, q0, q1, q2, q3, q4, q5]) rfl ⟨_, rfl, ?_, ?_⟩
      · refine ownsRow_base (base := w.heap.size + 2) ?_ (by omega)
        repeat (with_reducible refine ownsRow_setne ?_ (by omega) _ _)
        exact HO.out
      · have hUU := HU.out
        (repeat (first | with_reducible exact Up.refl _ | with_reducible assumption | with_reducible refine Up.set ?_ (by first | exact Nat.le_refl _ | (simp only []; omega) | (simp; omega)) _ | with_reducible refine Up.alloc ?_ _ | with_reducible refine Up.drew ?_ | refine Up.trans ?_ (by with_reducible assumption)))
    · have HNE : (bs d').toList.isEmpty = false := by rw [Lib.toList_data, bs_data]; cases d' with | nil => exact absurd rfl hde | cons _ _ => rfl
      have hpos : 0 < d'.length := List.length_pos_iff.2 hde
      have cLg := fun wx hr => l2Longest_any k' (.slice a' k'.ps.length c') (w.heap.size + 2) (bs d') wx hok hr (by rw [bs_size]; exact hpos) (by rw [bs_size]; omega)
      have hfa := KnD.find_any hok hde hlit
      have hlp := KnD.longest_pos (k := k') hde
      have hll := KnD.longest_le (k := k') d'
      have cF := fun wx hr => l2Find_any k' (.slice a' k'.ps.length c') (w.heap.size + 2) (bs (k'.longest d')) wx hok hr (by rw [bs_size]; omega)
      have cA := fun wx hr => l2After_any k' (.slice a' k'.ps.length c') (w.heap.size + 2) (k'.find (k'.longest d')) wx hok hr hfa.1
      have hrt' := fun (wq : World) (hu : Up wr wq) => RdP.up (RdP.of_own hown) hu
      obtain ⟨m, rfl⟩ : ∃ m, n = m + 1 := ⟨n - 1, by omega⟩
      have HLN : Hid (learnN m (k'.after (k'.find (k'.longest d'))) (d'.drop (k'.longest d').length) = learnN L.length k.cleared L) := by unfold Hid; rw [← hln, learnN_step hde]
      have HOK2 := Lib.hid (KnD.after_ok hok hfa.1)
      rw [bs_data] at cLg cF
      have hz1 := bs_size d'
      have hz2 := bs_size (k'.longest d')
      have hrs : w.heap.size + 1 < wr.heap.size := (Array.getElem?_eq_some_iff.1 hres).1
      clear hfa hok hlit hln hkn hown hres hup hde
      generalize hx : k'.find (k'.longest d') = x at *
      generalize hwl : k'.longest d' = wl at *
      go_wp2_with (first | (go_at_call 91; (with_reducible refine (cLg _ (hrt' _ (Up.refl _))).mono ?_); rintro e w2 ⟨rfl, U2⟩; have B2 := bcell U2; have Z2 := U2.size; (try simp at Z2); (try rw [Nat.add_one_le_iff] at Z2)))
      have hus := U2.size
      refine wp_region_up 5 (by kernel_rfl) (by kernel_rfl) ?_
      simp only [List.take, List.drop]
      repeat (refine wpUp_step (fun K hK => ?_); go_simp; (try simp only [↓IntWalk.iteOmega]); first
        | (refine hK _ _ ?_; clear hK K)
        | (apply stepU_c
           · intro wq hwq; (have hbq := bcell hwq; (repeat (first | refine fills_no (by rfl) ?_ | refine fills_yes (by rfl) (fun vq hvq => ?_))); simp only [List.filter_nil, fills]; unfold upAt; (try ((obtain ⟨-, r0, r1, r2, r3, r4, r5⟩ := KnAt.cells (KnAt.up HKN.out.1 (U2.trans hwq))))); go_simp; (try go_bits); (try simp only [↓IntWalk.iteOmega]); (try (rw [dif_pos (by omega)]; go_simp; try go_bits)); first | exact upOut_value | (apply upOut_call; (go_at_call 93; exact cF _ (hrt' _ (U2.trans hwq)))) | (apply upOut_eq; (go_at_call 93; exact cF _ (hrt' _ (U2.trans hwq)))))
           go_simp; refine hK _ _ ?_; clear hK K)
        | (refine stepU_m (by kernel_rfl) (KnO (w.heap.size + 2) (k'.after x)) (knO_closed _ _) (fun wq hwq => ?_) ?_
           · (have hbq := bcell hwq; (repeat (first | refine fills_no (by rfl) ?_ | refine fills_yes (by rfl) (fun vq hvq => ?_))); simp only [List.filter_nil, fills]; unfold upAt; (try ((obtain ⟨-, r0, r1, r2, r3, r4, r5⟩ := KnAt.cells (KnAt.up HKN.out.1 (U2.trans hwq))))); go_simp; (try go_bits); (try simp only [↓IntWalk.iteOmega]); (try (rw [dif_pos (by omega)]; go_simp; try go_bits)); (apply upOut_known; exact cA _ (hrt' _ (U2.trans hwq)); (have := hwq.size; omega)))
           refine hK _ _ ?_; clear hK K))
      refine wpUp_nil (fun wq hwq => ?_)
      simp only [fills]
      rintro u ⟨v3, rfl, ho3⟩
      obtain ⟨a3, c3, rfl⟩ := ownsRow_shape ho3
      have hkq := KnAt.up HKN.out.1 (U2.trans hwq)
      obtain ⟨-, r0, r1, r2, r3, r4, r5⟩ := hkq.cells
      have hfr := box_free hkq
      have HQ := Lib.hid (And.intro hkq (And.intro ho3 (And.intro (KnAt.up HKN.out.2.2.1 (U2.trans hwq)) (HKN.out.2.2.2.1.trans (U2.trans hwq)))))
      clear hkq ho3 cA cF cLg hrt'
      go_wp2
      go_roundw
      case rel =>
        obtain ⟨g1, g2, g3, g4⟩ := HQ.out
        refine ⟨k'.after x, d'.drop wl.length, .slice a3 (k'.after x).ps.length c3, m, ?_, by rw [List.length_drop]; omega, by rw [List.length_drop]; omega, HLN.out, HOK2.out, fun b hb => HKN.out.2.2.2.2.2.1 b (List.mem_of_mem_drop hb), KnAt.store g1 (k'.after x) _, KnW.own g2 (fun e => by have := (g2.lt _ e.symm).1; omega) (k'.after x) _, (KnW.other (by omega) (k'.after x) _).trans g3, KnW.up g4 (Nat.le_refl _) (k'.after x) _⟩
        rw [bs_drop' _ _ _ (by omega)]
      case measure => simp [slen]; omega

end Go.Proofs.YtmjpopfacagjhaaDoor
