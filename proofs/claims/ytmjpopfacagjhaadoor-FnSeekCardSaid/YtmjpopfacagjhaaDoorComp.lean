/- Walks of the reference's l2Compress, Compress and CompressWith. Conditions: what is known is valid and can be read; for CompressWith none but the strings' bound. -/
import Derived.Test.YtmjpopfacagjhaaDoorPk2
import Derived.Test.YtmjpopfacagjhaaDoorGw
import Derived.Test.YtmjpopfacagjhaaDoorStartW
namespace Go.Proofs.YtmjpopfacagjhaaDoor
set_option linter.unusedVariables false
set_option linter.unusedSimpArgs false
open Go Go.RowKit

/-- The stream of data. -/
def compL (k : KnD) (d : List UInt8) : List UInt8 := packL k.set.ord (packC k.set.ord (greedy k d) (walkN k (greedy k d) [] []).ws)
def compO (k : KnD) (d : List UInt8) : Option (List UInt8) := if fitsB k.set d then some (compL k d) else none
/-- The stream of data with a dictionary. -/
def compW (s : SetD) (dict d : List UInt8) : Option (List UInt8) := if fitsB s dict then compO (learnK (startK s) dict) d else none
def optS (o : Option (List UInt8)) : Value := .tuple #[.string (bs (o.getD [])), .bool o.isSome]
theorem upOut_ints {f : FuncId} {args : Array Value} {w : World} {l : List Int} (h : Calls Tryd.prog f args w (IntsPost l w)) : upOut Tryd.prog (fun v w' => RdI 0 w' v l) w (.ok (.enter f args) w) :=
  ⟨rfl, h.mono fun e w' ⟨v, he, ho, hu⟩ => ⟨v, he, hu, by
    obtain ⟨a, cap, h1, h2, h3, h4⟩ := RdI.of_own ho
    exact ⟨a, cap, h1, h2, h3, fun hp => by
      obtain ⟨b, off, e1, e2, e3, e4⟩ := h4 hp
      exact ⟨b, off, e1, Nat.zero_le _, e3, e4⟩⟩⟩⟩

set_option maxRecDepth 100000 in
set_option maxHeartbeats 4000000 in
theorem l2Compress_any (k : KnD) (v : Value) (lo : Nat) (d : ByteArray) (w : World) (h : k.Ok) (hr : RdP lo w v k.ps) (hd : d.size ≤ 2000) (hl : ∀ b ∈ d.data.toList, b.toNat < k.c) :
    Calls Tryd.prog 82  #[kV k v, .string d] w (Same (.string (bs (compL k d.data.toList))) w) := by
  have hdl := ba_len d
  obtain ⟨g1, g2, g3, g4, g5⟩ := walk_greedy h hl (by omega)
  have g6 := greedy_len k d.data.toList
  have cG := fun wx hr => l2Greedy_any k v lo d wx h hr hd hl
  have cP := fun wx vc hr hc => l2Pack_any k v lo (greedy k d.data.toList) vc 0 wx h hr hc (by omega) g1 (fun x hx => ⟨(g5 x hx).1, by have := (g5 x hx).2; omega⟩) (fun x hx => ⟨by have := (g4 x hx).1; omega, by have := (g4 x hx).2; omega⟩)
  have hpc := packC_len k.set.ord (greedy k d.data.toList) (walkN k (greedy k d.data.toList) [] []).ws (fun x hx => ⟨by have := (g4 x hx).1; omega, by have := (g4 x hx).2; omega⟩)
  have hib := isBits_packC k.set.ord (greedy k d.data.toList) (walkN k (greedy k d.data.toList) [] []).ws
  have HE : Hid (compL k d.data.toList = packL k.set.ord (packC k.set.ord (greedy k d.data.toList) (walkN k (greedy k d.data.toList) [] []).ws)) := rfl
  rw [HE.out]
  clear HE g2 g3 g4 g5
  generalize (walkN k (greedy k d.data.toList) [] []).ws = ws at *
  generalize greedy k d.data.toList = codes at *
  generalize packC k.set.ord codes ws = pc at *
  have hbz := bs_size pc
  have cK := fun wx => l1Pack_any k.set.ord (bs pc) wx (by rw [bs_data]; exact hib) (by rw [bs_size]; omega)
  rw [bs_data] at cK
  have hrt := fun (wq : World) (hu : Up w wq) => hr.up hu
  obtain ⟨a, cap, rfl, -, -, -, -⟩ := hr
  clear h hl hib g1 hpc hbz g6 hdl
  simp only [kV] at *
  go_enter Tryd.func82, Tryd.ntmps82
  go_wp2
  refine wp_region_up 9 (by kernel_rfl) (by kernel_rfl) ?_
  simp only [List.take, List.drop]
  repeat (refine wpUp_step (fun K hK => ?_); go_simp; (try simp only [↓IntWalk.iteOmega]); first
    | (refine hK _ _ ?_; clear hK K)
    | (apply stepU_c
       · intro wq hwq; (have hbq := bcell hwq; (repeat (first | refine fills_no (by rfl) ?_ | refine fills_yes (by rfl) (fun vq hvq => ?_))); simp only [List.filter_nil, fills]; unfold upAt; (try (skip)); go_simp; (try go_bits); (try simp only [↓IntWalk.iteOmega]); (try (rw [dif_pos (by omega)]; go_simp; try go_bits)); first | exact upOut_value | (apply upOut_call; (go_at_call 88; exact cP _ _ (hrt _ (by (repeat (first | with_reducible exact Up.refl _ | with_reducible assumption | with_reducible refine Up.set ?_ (by first | exact Nat.le_refl _ | (simp only []; omega) | (simp; omega)) _ | with_reducible refine Up.alloc ?_ _ | with_reducible refine Up.drew ?_ | refine Up.trans ?_ (by with_reducible assumption))))) hvq)) | (apply upOut_eq; (go_at_call 88; exact cP _ _ (hrt _ (by (repeat (first | with_reducible exact Up.refl _ | with_reducible assumption | with_reducible refine Up.set ?_ (by first | exact Nat.le_refl _ | (simp only []; omega) | (simp; omega)) _ | with_reducible refine Up.alloc ?_ _ | with_reducible refine Up.drew ?_ | refine Up.trans ?_ (by with_reducible assumption))))) hvq)) | (apply upOut_call; (go_at_call 87; exact cK _)) | (apply upOut_eq; (go_at_call 87; exact cK _)))
       go_simp; refine hK _ _ ?_; clear hK K)
    | (refine stepU_m (by kernel_rfl) ((fun v w' => RdI 0 w' v codes)) ((fun v w w' h hu => RdI.up h hu)) (fun wq hwq => ?_) ?_
       · (have hbq := bcell hwq; (repeat (first | refine fills_no (by rfl) ?_ | refine fills_yes (by rfl) (fun vq hvq => ?_))); simp only [List.filter_nil, fills]; unfold upAt; (try (skip)); go_simp; (try go_bits); (try simp only [↓IntWalk.iteOmega]); (try (rw [dif_pos (by omega)]; go_simp; try go_bits)); (apply upOut_ints; go_at_call 89; exact cG _ (hrt _ (by (repeat (first | with_reducible exact Up.refl _ | with_reducible assumption | with_reducible refine Up.set ?_ (by first | exact Nat.le_refl _ | (simp only []; omega) | (simp; omega)) _ | with_reducible refine Up.alloc ?_ _ | with_reducible refine Up.drew ?_ | refine Up.trans ?_ (by with_reducible assumption)))))))
       refine hK _ _ ?_; clear hK K))
  refine wpUp_nil (fun wq hwq => ?_)
  simp only [fills]
  rintro u -
  go_wp2
  go_ret
  exact ⟨rfl, by (repeat (first | with_reducible exact Up.refl _ | with_reducible assumption | with_reducible refine Up.set ?_ (by first | exact Nat.le_refl _ | (simp only []; omega) | (simp; omega)) _ | with_reducible refine Up.alloc ?_ _ | with_reducible refine Up.drew ?_ | refine Up.trans ?_ (by with_reducible assumption)))⟩

set_option maxRecDepth 100000 in
set_option maxHeartbeats 1000000 in
theorem compS_any (k : KnD) (v : Value) (lo : Nat) (d : ByteArray) (w : World) (h : k.Ok) (hv : k.last = -1 → k.base = k.ps.length) (hr : RdP lo w v k.ps) (hd : d.size ≤ 1073741824) :
    Calls Tryd.prog 78  #[kV k v, .string d] w (Same (optS (compO k d.data.toList)) w) := by
  have cV := fun wx hr => kvS_any k v lo wx h hv hr
  have cF := fun wx => fitsS_any k.set d wx hd
  have hrt := fun (wq : World) (hu : Up w wq) => hr.up hu
  have hlen := ba_len d
  unfold compO optS
  cases hf : fitsB k.set d.data.toList
  · rw [hf] at cF
    simp only [Bool.false_eq_true, if_false]
    obtain ⟨a, cap, rfl, -, -, -, -⟩ := hr
    clear h hv hf
    simp only [kV] at *
    go_enter Tryd.func78, Tryd.ntmps78
    go_wp2_with (first | (go_at_call 81; (with_reducible refine (cV _ (hrt _ (by (repeat (first | with_reducible exact Up.refl _ | with_reducible assumption | with_reducible refine Up.set ?_ (by first | exact Nat.le_refl _ | (simp only []; omega) | (simp; omega)) _ | with_reducible refine Up.alloc ?_ _ | with_reducible refine Up.drew ?_ | refine Up.trans ?_ (by with_reducible assumption)))))).mono ?_); rintro e w1 ⟨rfl, U1⟩; have B1 := bcell U1; have Z1 := U1.size; (try simp at Z1); (try rw [Nat.add_one_le_iff] at Z1)) | (go_at_call 61; (with_reducible refine (cF _).mono ?_); rintro e w2 ⟨rfl, U2⟩; have B2 := bcell U2; have Z2 := U2.size; (try simp at Z2); (try rw [Nat.add_one_le_iff] at Z2)))
    go_ret2
    refine ⟨rfl, ?_⟩
    (repeat (first | with_reducible exact Up.refl _ | with_reducible assumption | with_reducible refine Up.set ?_ (by first | exact Nat.le_refl _ | (simp only []; omega) | (simp; omega)) _ | with_reducible refine Up.alloc ?_ _ | with_reducible refine Up.drew ?_ | refine Up.trans ?_ (by with_reducible assumption)))
  · rw [hf] at cF
    simp only [if_true]
    obtain ⟨-, h2, h3⟩ := fitsB_lits hf
    have cL := fun wx hr => l2Compress_any k v lo d wx h hr (by omega) h3
    obtain ⟨a, cap, rfl, -, -, -, -⟩ := hr
    clear h hv hf h3
    generalize compL k d.data.toList = cl at *
    simp only [kV] at *
    go_enter Tryd.func78, Tryd.ntmps78
    go_wp2_with (first | (go_at_call 81; (with_reducible refine (cV _ (hrt _ (by (repeat (first | with_reducible exact Up.refl _ | with_reducible assumption | with_reducible refine Up.set ?_ (by first | exact Nat.le_refl _ | (simp only []; omega) | (simp; omega)) _ | with_reducible refine Up.alloc ?_ _ | with_reducible refine Up.drew ?_ | refine Up.trans ?_ (by with_reducible assumption)))))).mono ?_); rintro e w1 ⟨rfl, U1⟩; have B1 := bcell U1; have Z1 := U1.size; (try simp at Z1); (try rw [Nat.add_one_le_iff] at Z1)) | (go_at_call 61; (with_reducible refine (cF _).mono ?_); rintro e w2 ⟨rfl, U2⟩; have B2 := bcell U2; have Z2 := U2.size; (try simp at Z2); (try rw [Nat.add_one_le_iff] at Z2)) | (go_at_call 82; (with_reducible refine (cL _ (hrt _ (by (repeat (first | with_reducible exact Up.refl _ | with_reducible assumption | with_reducible refine Up.set ?_ (by first | exact Nat.le_refl _ | (simp only []; omega) | (simp; omega)) _ | with_reducible refine Up.alloc ?_ _ | with_reducible refine Up.drew ?_ | refine Up.trans ?_ (by with_reducible assumption)))))).mono ?_); rintro e w3 ⟨rfl, U3⟩; have B3 := bcell U3; have Z3 := U3.size; (try simp at Z3); (try rw [Nat.add_one_le_iff] at Z3)))
    go_ret2
    refine ⟨rfl, ?_⟩
    (repeat (first | with_reducible exact Up.refl _ | with_reducible assumption | with_reducible refine Up.set ?_ (by first | exact Nat.le_refl _ | (simp only []; omega) | (simp; omega)) _ | with_reducible refine Up.alloc ?_ _ | with_reducible refine Up.drew ?_ | refine Up.trans ?_ (by with_reducible assumption)))

set_option maxRecDepth 100000 in
set_option maxHeartbeats 4000000 in
theorem compWS_any (s : SetD) (dict d : ByteArray) (w : World) (hi : dict.size ≤ 1073741824) (hd : d.size ≤ 1073741824) :
    Calls Tryd.prog 74  #[setV s, .string dict, .string d] w (Same (optS (compW s dict.data.toList d.data.toList)) w) := by
  have cS := fun wx => startWS_any s dict wx hi
  unfold compW
  cases hf : fitsB s dict.data.toList
  · rw [hf] at cS
    simp only [Bool.false_eq_true, if_false] at cS ⊢
    unfold optS
    clear hf
    simp only [setV] at *
    go_enter Tryd.func74, Tryd.ntmps74
    go_wp2_with ((go_at_call 77; (with_reducible refine (cS _).mono ?_); rintro e w1 ⟨rfl, U1⟩; have B1 := bcell U1; have Z1 := U1.size; (try simp at Z1); (try rw [Nat.add_one_le_iff] at Z1)))
    go_ret2
    refine ⟨rfl, ?_⟩
    (repeat (first | with_reducible exact Up.refl _ | with_reducible assumption | with_reducible refine Up.set ?_ (by first | exact Nat.le_refl _ | (simp only []; omega) | (simp; omega)) _ | with_reducible refine Up.alloc ?_ _ | with_reducible refine Up.drew ?_ | refine Up.trans ?_ (by with_reducible assumption)))
  · rw [hf] at cS
    simp only [if_true] at cS ⊢
    obtain ⟨h1, h2, h3⟩ := fitsB_lits hf
    have hok : (learnK (startK s) dict.data.toList).Ok := learnK_ok (startK_ok h1) h3
    have cC := fun wx v hr => compS_any (learnK (startK s) dict.data.toList) v 0 d wx hok (fun _ => rfl) hr hd
    clear hf h1 h2 h3 hok
    generalize learnK (startK s) dict.data.toList = kk at *
    unfold optS at *
    generalize compO kk d.data.toList = oo at *
    simp only [setV, kV] at *
    go_enter Tryd.func74, Tryd.ntmps74
    go_wp2_with (first | (go_at_call 77; (with_reducible refine (cS _).mono ?_); rintro e w1 ⟨v1, rfl, ho1, U1⟩; obtain ⟨a1, c1, rfl⟩ := ownsRow_shape ho1; have HO1 := Lib.hid ho1; clear ho1) | (go_at_call 78; (with_reducible refine (cC _ _ (((RdP.of_own HO1.out).up (by (repeat (first | with_reducible exact Up.refl _ | with_reducible assumption | with_reducible refine Up.set ?_ (by first | exact Nat.le_refl _ | (simp only []; omega) | (simp; omega)) _ | with_reducible refine Up.alloc ?_ _ | with_reducible refine Up.drew ?_ | refine Up.trans ?_ (by with_reducible assumption))))).low (Nat.zero_le _))).mono ?_); rintro e w3 ⟨rfl, U3⟩; have B3 := bcell U3; have Z3 := U3.size; (try simp at Z3); (try rw [Nat.add_one_le_iff] at Z3)))
    go_ret2
    refine ⟨rfl, ?_⟩
    (repeat (first | with_reducible exact Up.refl _ | with_reducible assumption | with_reducible refine Up.set ?_ (by first | exact Nat.le_refl _ | (simp only []; omega) | (simp; omega)) _ | with_reducible refine Up.alloc ?_ _ | with_reducible refine Up.drew ?_ | refine Up.trans ?_ (by with_reducible assumption)))

end Go.Proofs.YtmjpopfacagjhaaDoor
