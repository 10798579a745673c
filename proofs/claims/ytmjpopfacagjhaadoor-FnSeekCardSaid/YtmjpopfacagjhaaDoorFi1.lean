/- FormatIndex of the reference. Conditions: the places can be read, at most 2^20. -/
import Derived.Test.YtmjpopfacagjhaaDoorFip
import Derived.Test.YtmjpopfacagjhaaDoorDc
import Derived.Test.YtmjpopfacagjhaaDoorSeek4
namespace Go.Proofs.YtmjpopfacagjhaaDoor
set_option linter.unusedVariables false
set_option linter.unusedSimpArgs false
open Go Go.RowKit

theorem bs_nil : bs [] = ⟨#[]⟩ := rfl
set_option maxRecDepth 100000 in
set_option maxHeartbeats 1000000 in
theorem l3Some_any (l : List UInt8) (w : World) : Calls Tryd.prog 15  #[.string (bs l)] w (fun e w' => e = .returned (.string (bs (someL l))) ∧ w = w') := by
  by_cases h : l = []
  · subst h
    have hb : (bs []).toList.isEmpty = true := by rw [Lib.toList_data, bs_data]; rfl
    go_enter Tryd.func15, Tryd.ntmps15
    go_wp2
    go_ret
    exact ⟨rfl, rfl⟩
  · have e : Hid (someL l = l) := if_neg h
    have hb : (bs l).toList.isEmpty = false := by rw [Lib.toList_data, bs_data]; cases l with | nil => exact absurd rfl h | cons _ _ => rfl
    rw [e.out]
    go_enter Tryd.func15, Tryd.ntmps15
    go_wp2
    go_ret
    exact ⟨rfl, rfl⟩

def RelFs (ps : List PlaceD) (w : World) (out i : Value) (wr : World) : Prop := ∃ k : Nat, k ≤ ps.length ∧ i = .int .i64 k ∧ out = .string (bs (idxL (ps.take k))) ∧ Up w wr

set_option maxRecDepth 100000 in
set_option maxHeartbeats 1000000 in
theorem fixS_any (ps : List PlaceD) (v : Value) (base : Nat) (w : World) (hown : w.ownsRow base 34 2 v ps.length (cellsP ps)) (hl : ps.length ≤ 1048576) :
    Calls Tryd.prog 6  #[v] w (Same (.string (bs (fmtIx ps))) w) := by
  obtain ⟨a, ca, rfl, hm, -⟩ := ownsRow_any hown
  have cV := fun w h => validS_any ps (.slice a ps.length ca) base w h hl
  cases hv : validP ps
  · have e : Hid (fmtIx ps = []) := by unfold Hid fmtIx; rw [hv]; rfl
    rw [hv] at cV
    rw [e.out]
    clear hv
    go_enter Tryd.func6, Tryd.ntmps6
    go_wp2_with fail
    (with_reducible refine (cV _ hown).mono ?_); rintro e w1 ⟨rfl, U1⟩
    go_wp2
    go_ret
    exact ⟨rfl, U1⟩
  · have e : Hid (fmtIx ps = someL (idxL ps)) := by unfold Hid fmtIx; rw [hv]; rfl
    have hr := Lib.hid (validP_range hv)
    have hle := Lib.hid (idxL_le hv)
    have h40 := hr.out.1
    rw [hv] at cV
    rw [e.out]
    clear hv
    go_enter Tryd.func6, Tryd.ntmps6
    go_wp2_with fail
    (with_reducible refine (cV _ hown).mono ?_); rintro e w1 ⟨rfl, U1⟩
    have hown := ownsRow_up hown U1
    clear cV
    go_wp2
    go_loopw [3, 4] (fun out i wr => RelFs ps w1 out i wr) (fun _ i _ => ps.length - (intOf i).toNat)
    case atStart => exact ⟨0, Nat.zero_le _, rfl, rfl, Up.refl _⟩
    case round =>
      obtain ⟨k, hk, rfl, rfl, hup⟩ := hrel
      have hJ := hle.out k
      have zJ := bs_size (idxL (ps.take k))
      by_cases hlt : k < ps.length
      · obtain ⟨g, rfl, hc1, hc2, -, hg⟩ := ownsRow_slot hown (by omega)
        have hgw := Nat.lt_of_lt_of_le hg hup.size
        obtain ⟨r1, r2, r3, r4⟩ := hr.out.2 k hlt
        obtain ⟨c0, c1⟩ := plc_cells' (read_cells (ownsRow_up hown hup)) hlt
        have cA := fun wx => dec_any ps[k].place wx (by omega) (by omega)
        have cB := fun wx => dec_any ps[k].start wx (by omega) (by omega)
        have lA := itoa_le (n := ps[k].place) (by omega) (by omega)
        have lB := itoa_le (n := ps[k].start) (by omega) (by omega)
        have zA := bs_size (Lib.itoa ps[k].place)
        have zB := bs_size (Lib.itoa ps[k].start)
        by_cases h0 : 0 < k
        · have HX : Hid (((bs (idxL (ps.take k)) ++ (⟨#[32]⟩ : ByteArray)) ++ bs (Lib.itoa ps[k].place) ++ (⟨#[58]⟩ : ByteArray)) ++ bs (Lib.itoa ps[k].start) = bs (idxL (ps.take (k + 1)))) := by
            unfold Hid
            rw [idxL_succ h0 hlt, show (⟨#[32]⟩ : ByteArray) = bs [32] from rfl, show (⟨#[58]⟩ : ByteArray) = bs [58] from rfl]
            simp [bs_app, plcT]
          generalize idxL (ps.take k) = J at *
          generalize Lib.itoa ps[k].place = A at *
          generalize Lib.itoa ps[k].start = B at *
          generalize ps[k].place = x at *
          generalize ps[k].start = y at *
          clear hr hle
          go_wp2
          refine wp_region_up 16 (by kernel_rfl) (by kernel_rfl) ?_
          simp only [List.take, List.drop]
          repeat (refine wpUp_step (fun K hK => ?_); go_simp; (try simp only [↓IntWalk.iteOmega]); first
            | (refine hK _ _ ?_; clear hK K)
            | (apply stepU_c
               · intro wq hwq; (have hbq := bcell hwq; (repeat (first | refine fills_no (by rfl) ?_ | refine fills_yes (by rfl) (fun vq hvq => ?_))); simp only [List.filter_nil, fills]; unfold upAt; go_simp; (try go_bits); (try simp only [↓IntWalk.iteOmega]); (try (rw [dif_pos (by omega)]; go_simp; try go_bits)); first | exact upOut_value | (apply upOut_call; (go_at_call 14; first | with_reducible exact cA _ | with_reducible exact cB _)) | (apply upOut_eq; (go_at_call 14; first | with_reducible exact cA _ | with_reducible exact cB _)))
               go_simp; refine hK _ _ ?_; clear hK K))
          refine wpUp_nil (fun wq hwq => ?_)
          simp only [fills]
          go_wp2
          go_roundw
          case rel => exact ⟨k + 1, by omega, by go_num, by rw [← HX.out], by (repeat (first | with_reducible exact Up.refl _ | with_reducible assumption | with_reducible refine Up.set ?_ (by first | exact Nat.le_refl _ | (simp only []; omega) | (simp; omega)) _ | with_reducible refine Up.alloc ?_ _ | with_reducible refine Up.drew ?_ | refine Up.trans ?_ (by with_reducible assumption)))⟩
          case measure => simp [intOf]; omega
        · have hk0 : k = 0 := by omega
          subst hk0
          have HX : Hid ((bs (idxL (ps.take 0)) ++ bs (Lib.itoa ps[0].place) ++ (⟨#[58]⟩ : ByteArray)) ++ bs (Lib.itoa ps[0].start) = bs (idxL (ps.take (0 + 1)))) := by
            unfold Hid
            rw [idxL_one hlt, show (⟨#[58]⟩ : ByteArray) = bs [58] from rfl]
            simp [bs_app, plcT, idxL, Lib.join_nil]
          generalize idxL (ps.take 0) = J at *
          generalize Lib.itoa ps[0].place = A at *
          generalize Lib.itoa ps[0].start = B at *
          generalize ps[0].place = x at *
          generalize ps[0].start = y at *
          clear hr hle
          go_wp2
          refine wp_region_up 16 (by kernel_rfl) (by kernel_rfl) ?_
          simp only [List.take, List.drop]
          repeat (refine wpUp_step (fun K hK => ?_); go_simp; (try simp only [↓IntWalk.iteOmega]); first
            | (refine hK _ _ ?_; clear hK K)
            | (apply stepU_c
               · intro wq hwq; (have hbq := bcell hwq; (repeat (first | refine fills_no (by rfl) ?_ | refine fills_yes (by rfl) (fun vq hvq => ?_))); simp only [List.filter_nil, fills]; unfold upAt; go_simp; (try go_bits); (try simp only [↓IntWalk.iteOmega]); (try (rw [dif_pos (by omega)]; go_simp; try go_bits)); first | exact upOut_value | (apply upOut_call; (go_at_call 14; first | with_reducible exact cA _ | with_reducible exact cB _)) | (apply upOut_eq; (go_at_call 14; first | with_reducible exact cA _ | with_reducible exact cB _)))
               go_simp; refine hK _ _ ?_; clear hK K))
          refine wpUp_nil (fun wq hwq => ?_)
          simp only [fills]
          go_wp2
          go_roundw
          case rel => exact ⟨0 + 1, by omega, by go_num, by rw [← HX.out], by (repeat (first | with_reducible exact Up.refl _ | with_reducible assumption | with_reducible refine Up.set ?_ (by first | exact Nat.le_refl _ | (simp only []; omega) | (simp; omega)) _ | with_reducible refine Up.alloc ?_ _ | with_reducible refine Up.drew ?_ | refine Up.trans ?_ (by with_reducible assumption)))⟩
          case measure => simp [intOf]; omega
      · have e : k = ps.length := by omega
        subst e
        rw [List.take_length] at *
        have cS := fun wx => l3Some_any (idxL ps) wx
        go_wp2_with fail
        (with_reducible refine (cS _).mono ?_); rintro e w2 ⟨rfl, rfl⟩
        go_wp2
        go_ret
        exact ⟨rfl, U1.trans hup⟩

end Go.Proofs.YtmjpopfacagjhaaDoor
