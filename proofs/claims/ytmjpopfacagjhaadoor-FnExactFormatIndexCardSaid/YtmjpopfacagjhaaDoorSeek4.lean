/- Walk of the reference's l5Index. Conditions: the places can be read. -/
import Derived.Test.YtmjpopfacagjhaaDoorSeek3
namespace Go.Proofs.YtmjpopfacagjhaaDoor
set_option linter.unusedVariables false
set_option linter.unusedSimpArgs false
open Go.RowKit

set_option maxRecDepth 100000 in
set_option maxHeartbeats 4000000 in
theorem validS_any (ps : List PlaceD) (v : Value) (base : Nat) (w : World) (hown : w.ownsRow base 34 2 v ps.length (cellsP ps)) (hl : ps.length ≤ 1048576) :
    Calls Tryd.prog 13 #[v] w (Same (.bool (validP ps)) w) := by
  obtain ⟨a, ca, rfl, hm, -⟩ := ownsRow_any hown
  go_enter Tryd.func13, Tryd.ntmps13
  go_wp2
  go_loopw [3] (fun i wr => RelV ps w i wr) (fun i _ => ps.length - (intOf i).toNat)
  case atStart => exact ⟨0, Nat.zero_le _, rfl, fun j hj => absurd hj (Nat.not_lt_zero _), Up.refl _⟩
  case round =>
    obtain ⟨k, hk, rfl, hall, hup⟩ := hrel
    have HA := Lib.hid hall
    clear hall
    by_cases hlt : k < ps.length
    · obtain ⟨g, rfl, hc1, hc2, -, hg⟩ := ownsRow_slot hown (by omega)
      have hrd := read_cells (ownsRow_up hown hup)
      obtain ⟨c0, c1⟩ := plc_cells' hrd hlt
      have hgw := Nat.lt_of_lt_of_le hg hup.size
      by_cases hb : 0 ≤ ps[k].place ∧ ps[k].place ≤ 4000 ∧ 0 ≤ ps[k].start ∧ ps[k].start ≤ 2000
      · obtain ⟨q1, q2, q3, q4⟩ := hb
        have nxt : ∀ (hp : plcB ps k = true) (j : Nat), j < k + 1 → plcB ps j = true := fun hp j hj => by
          rcases Nat.lt_or_ge j k with h | h
          · exact HA.out j h
          · have : j = k := by omega
            rw [this]; exact hp
        have NX := Lib.hid nxt
        clear nxt
        have I1 : inB ps[k].place 0 4000 = true := inB_iff.2 ⟨q1, q2⟩
        have I2 : inB ps[k].start 0 2000 = true := inB_iff.2 ⟨q3, q4⟩
        cases k with
        | zero =>
          clear hrd
          have HZ := Lib.hid (plcB_zero hlt)
          generalize hx : ps[0].place = x at *
          generalize hy : ps[0].start = y at *
          by_cases e1 : x = 0
          · by_cases e2 : y = 0
            · have HP : Hid (plcB ps 0 = true) := by unfold Hid; rw [HZ.out]; simp [e1, e2]
              subst e1 e2
              clear hx hy
              go_wp2_with (go_at_call 27; (with_reducible refine (l1In_any _ _ _ _).mono ?_); rintro e w' ⟨rfl, rfl⟩)
              refine wp_region_up 38 (by kernel_rfl) (by kernel_rfl) ?_
              simp only [List.take, List.drop]
              repeat (refine wpUp_step (fun K hK => ?_); go_simp; (try simp only [↓IntWalk.iteOmega]); first
                | (refine hK _ _ ?_; clear hK K)
                | (apply stepU_c
                   · intro wq hwq; (have hbq := bcell hwq; (repeat (first | refine fills_no (by rfl) ?_ | refine fills_yes (by rfl) (fun vq hvq => ?_))); simp only [List.filter_nil, fills]; unfold upAt; (try (skip)); go_simp; (try go_bits); (try simp only [↓IntWalk.iteOmega]); (try (rw [dif_pos (by omega)]; go_simp; try go_bits)); first | exact upOut_value)
                   go_simp; refine hK _ _ ?_; clear hK K))
              refine wpUp_nil (fun wq hwq => ?_)
              simp only [fills]
              go_wp2
              go_roundw
              case rel => exact ⟨0 + 1, by omega, by go_num, NX.out HP.out, (hup.alloc _).trans hwq⟩
              case measure => simp [intOf]; omega
            · have HN : Hid (validP ps = false) := validP_no hlt (by rw [HZ.out]; simp [e2])
              subst e1
              have e2' : (y == 0) = false := by simpa using e2
              clear hx hy
              go_wp2_with (go_at_call 27; (with_reducible refine (l1In_any _ _ _ _).mono ?_); rintro e w' ⟨rfl, rfl⟩)
              refine wp_region_up 38 (by kernel_rfl) (by kernel_rfl) ?_
              simp only [List.take, List.drop]
              repeat (refine wpUp_step (fun K hK => ?_); go_simp; (try simp only [↓IntWalk.iteOmega]); first
                | (refine hK _ _ ?_; clear hK K)
                | (apply stepU_c
                   · intro wq hwq; (have hbq := bcell hwq; (repeat (first | refine fills_no (by rfl) ?_ | refine fills_yes (by rfl) (fun vq hvq => ?_))); simp only [List.filter_nil, fills]; unfold upAt; (try (skip)); go_simp; (try go_bits); (try simp only [↓IntWalk.iteOmega]); (try (rw [dif_pos (by omega)]; go_simp; try go_bits)); first | exact upOut_value)
                   go_simp; refine hK _ _ ?_; clear hK K))
              refine wpUp_nil (fun wq hwq => ?_)
              simp only [fills]
              go_wp2
              go_ret
              exact ⟨ret_bool HN.out.symm, (hup.alloc _).trans hwq⟩
          · have HN : Hid (validP ps = false) := validP_no hlt (by rw [HZ.out]; simp [e1])
            have e1' : (x == 0) = false := by simpa using e1
            clear hx hy
            go_wp2_with (go_at_call 27; (with_reducible refine (l1In_any _ _ _ _).mono ?_); rintro e w' ⟨rfl, rfl⟩)
            refine wp_region_up 38 (by kernel_rfl) (by kernel_rfl) ?_
            simp only [List.take, List.drop]
            repeat (refine wpUp_step (fun K hK => ?_); go_simp; (try simp only [↓IntWalk.iteOmega]); first
              | (refine hK _ _ ?_; clear hK K)
              | (apply stepU_c
                 · intro wq hwq; (have hbq := bcell hwq; (repeat (first | refine fills_no (by rfl) ?_ | refine fills_yes (by rfl) (fun vq hvq => ?_))); simp only [List.filter_nil, fills]; unfold upAt; (try (skip)); go_simp; (try go_bits); (try simp only [↓IntWalk.iteOmega]); (try (rw [dif_pos (by omega)]; go_simp; try go_bits)); first | exact upOut_value)
                 go_simp; refine hK _ _ ?_; clear hK K))
            refine wpUp_nil (fun wq hwq => ?_)
            simp only [fills]
            go_wp2
            go_ret
            exact ⟨ret_bool HN.out.symm, (hup.alloc _).trans hwq⟩
        | succ j =>
          obtain ⟨d0, d1⟩ := plc_cells' hrd (show j < ps.length by omega)
          clear hrd
          have HZ := Lib.hid (plcB_succ hlt)
          generalize ps[j + 1].place = x at *
          generalize ps[j + 1].start = y at *
          generalize ps[j].place = x' at *
          generalize ps[j].start = y' at *
          by_cases e1 : x ≤ x'
          · have HN : Hid (validP ps = false) := validP_no hlt (by rw [HZ.out]; simp; omega)
            go_wp2_with (go_at_call 27; (with_reducible refine (l1In_any _ _ _ _).mono ?_); rintro e w' ⟨rfl, rfl⟩)
            refine wp_region_up 38 (by kernel_rfl) (by kernel_rfl) ?_
            simp only [List.take, List.drop]
            repeat (refine wpUp_step (fun K hK => ?_); go_simp; (try simp only [↓IntWalk.iteOmega]); first
              | (refine hK _ _ ?_; clear hK K)
              | (apply stepU_c
                 · intro wq hwq; (have hbq := bcell hwq; (repeat (first | refine fills_no (by rfl) ?_ | refine fills_yes (by rfl) (fun vq hvq => ?_))); simp only [List.filter_nil, fills]; unfold upAt; (try ((have x0 := hbq.1 g (j * 2) (by simp; omega); have x1 := hbq.1 g (j * 2 + 1) (by simp; omega)))); go_simp; (try go_bits); (try simp only [↓IntWalk.iteOmega]); (try (rw [dif_pos (by omega)]; go_simp; try go_bits)); first | exact upOut_value)
                 go_simp; refine hK _ _ ?_; clear hK K))
            refine wpUp_nil (fun wq hwq => ?_)
            simp only [fills]
            go_wp2
            go_ret
            exact ⟨ret_bool HN.out.symm, (hup.alloc _).trans hwq⟩
          · by_cases e2 : y ≤ y'
            · have HN : Hid (validP ps = false) := validP_no hlt (by rw [HZ.out]; simp; omega)
              go_wp2_with (go_at_call 27; (with_reducible refine (l1In_any _ _ _ _).mono ?_); rintro e w' ⟨rfl, rfl⟩)
              refine wp_region_up 38 (by kernel_rfl) (by kernel_rfl) ?_
              simp only [List.take, List.drop]
              repeat (refine wpUp_step (fun K hK => ?_); go_simp; (try simp only [↓IntWalk.iteOmega]); first
                | (refine hK _ _ ?_; clear hK K)
                | (apply stepU_c
                   · intro wq hwq; (have hbq := bcell hwq; (repeat (first | refine fills_no (by rfl) ?_ | refine fills_yes (by rfl) (fun vq hvq => ?_))); simp only [List.filter_nil, fills]; unfold upAt; (try ((have x0 := hbq.1 g (j * 2) (by simp; omega); have x1 := hbq.1 g (j * 2 + 1) (by simp; omega)))); go_simp; (try go_bits); (try simp only [↓IntWalk.iteOmega]); (try (rw [dif_pos (by omega)]; go_simp; try go_bits)); first | exact upOut_value)
                   go_simp; refine hK _ _ ?_; clear hK K))
              refine wpUp_nil (fun wq hwq => ?_)
              simp only [fills]
              go_wp2
              go_ret
              exact ⟨ret_bool HN.out.symm, (hup.alloc _).trans hwq⟩
            · have HP : Hid (plcB ps (j + 1) = true) := by unfold Hid; rw [HZ.out]; simp; omega
              go_wp2_with (go_at_call 27; (with_reducible refine (l1In_any _ _ _ _).mono ?_); rintro e w' ⟨rfl, rfl⟩)
              refine wp_region_up 38 (by kernel_rfl) (by kernel_rfl) ?_
              simp only [List.take, List.drop]
              repeat (refine wpUp_step (fun K hK => ?_); go_simp; (try simp only [↓IntWalk.iteOmega]); first
                | (refine hK _ _ ?_; clear hK K)
                | (apply stepU_c
                   · intro wq hwq; (have hbq := bcell hwq; (repeat (first | refine fills_no (by rfl) ?_ | refine fills_yes (by rfl) (fun vq hvq => ?_))); simp only [List.filter_nil, fills]; unfold upAt; (try ((have x0 := hbq.1 g (j * 2) (by simp; omega); have x1 := hbq.1 g (j * 2 + 1) (by simp; omega)))); go_simp; (try go_bits); (try simp only [↓IntWalk.iteOmega]); (try (rw [dif_pos (by omega)]; go_simp; try go_bits)); first | exact upOut_value)
                   go_simp; refine hK _ _ ?_; clear hK K))
              refine wpUp_nil (fun wq hwq => ?_)
              simp only [fills]
              go_wp2
              go_roundw
              case rel => exact ⟨j + 1 + 1, by omega, by go_num, NX.out HP.out, (hup.alloc _).trans hwq⟩
              case measure => simp [intOf]; omega
      · have HN : Hid (validP ps = false) := validP_no hlt (plcB_no1 hlt hb)
        clear hrd
        generalize ps[k].place = x at *
        generalize ps[k].start = y at *
        by_cases q1 : 0 ≤ x ∧ x ≤ 4000
        · have I1 : inB x 0 4000 = true := inB_iff.2 q1
          have I2 : inB y 0 2000 = false := inB_not.2 (by omega)
          clear hb q1
          go_wp2_with (go_at_call 27; (with_reducible refine (l1In_any _ _ _ _).mono ?_); rintro e w' ⟨rfl, rfl⟩)
          go_ret
          exact ⟨ret_bool HN.out.symm, hup.alloc _⟩
        · have I1 : inB x 0 4000 = false := inB_not.2 (by omega)
          clear hb q1
          go_wp2_with (go_at_call 27; (with_reducible refine (l1In_any _ _ _ _).mono ?_); rintro e w' ⟨rfl, rfl⟩)
          go_ret
          exact ⟨ret_bool HN.out.symm, hup.alloc _⟩
    · have e : k = ps.length := by omega
      by_cases h40 : ps.length ≤ 40
      · have HN : Hid (validP ps = true) := validP_yes h40 (fun i hi => HA.out i (by omega))
        have hd : decide ((ps.length : Int) ≤ 40) = true := decide_eq_true (by omega)
        go_wp2
        go_ret
        exact ⟨ret_bool (by rw [HN.out]), hup⟩
      · have HN : Hid (validP ps = false) := validP_len h40
        have hd : decide ((ps.length : Int) ≤ 40) = false := decide_eq_false (by omega)
        go_wp2
        go_ret
        exact ⟨ret_bool (by rw [HN.out]), hup⟩

end Go.Proofs.YtmjpopfacagjhaaDoor
