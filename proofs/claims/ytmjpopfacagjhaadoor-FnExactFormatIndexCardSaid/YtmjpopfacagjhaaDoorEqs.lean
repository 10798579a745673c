/- Walks of the laws' own functions on slices of places and of blocks: equality. Conditions: the rows can be read. -/
import Derived.Test.YtmjpopfacagjhaaDoorPlaces
namespace Go.Proofs.YtmjpopfacagjhaaDoor
set_option linter.unusedVariables false
set_option linter.unusedSimpArgs false
open Go.RowKit

set_option maxRecDepth 100000 in
set_option maxHeartbeats 1000000 in
theorem eqPlc_same (n z : Int) (w : World) :
    Calls Tryd.prog 21 #[.agg #[.int .i64 n, .int .i64 z], .agg #[.int .i64 n, .int .i64 z]] w (Same (.bool true) w) := by
  go_enter Tryd.func21, Tryd.ntmps21
  go_wp2
  go_ret
  refine ⟨rfl, ?_⟩
  (repeat (first | exact Up.refl _ | refine Up.alloc ?_ _ | refine Up.drew ?_ | refine Up.set ?_ (by first | exact Nat.le_refl _ | (simp; done) | (simp; omega)) _ | refine Up.trans ?_ (by with_reducible assumption)))

theorem plc_cells' {w : World} {l : List PlaceD} {g : Nat} (hc : ∀ j u, (cellsP l)[j]? = some u → w.cell? ⟨g, j, none⟩ = some u) {k : Nat} (hk : k < l.length) :
    w.cell? ⟨g, k * 2, none⟩ = some (.int .i64 l[k].place) ∧ w.cell? ⟨g, k * 2 + 1, none⟩ = some (.int .i64 l[k].start) := plc_cells hc (List.getElem?_eq_getElem hk)
theorem read_cells {w : World} {base : Nat} {e : TypeId} {size n : Nat} {xs : List Value} {g cap : Nat} (h : w.ownsRow base e size (.slice (some ⟨g, 0, none⟩) n cap) n xs) : ∀ j u, xs[j]? = some u → w.cell? ⟨g, j, none⟩ = some u := fun j u hu => ownsRow_cell h hu

set_option maxRecDepth 100000 in
set_option maxHeartbeats 2000000 in
theorem eqPlaceS_any (l : List PlaceD) (va vb : Value) (ba bb : Nat) (w : World) (ha : w.ownsRow ba 34 2 va l.length (cellsP l)) (hb : w.ownsRow bb 34 2 vb l.length (cellsP l)) :
    Calls Tryd.prog 9 #[va, vb] w (Same (.bool true) w) := by
  obtain ⟨a, ca, rfl, hm, -⟩ := ownsRow_any ha
  obtain ⟨b, cb, rfl, -, -⟩ := ownsRow_any hb
  unfold maxLen at hm
  go_enter Tryd.func9, Tryd.ntmps9
  go_wp2
  go_loopw [5] (fun i wr => RelE w l.length i wr) (fun i _ => l.length - (intOf i).toNat)
  case atStart => exact ⟨0, Nat.zero_le _, rfl, Up.refl _⟩
  case round =>
    obtain ⟨k, hk, rfl, hup⟩ := hrel
    by_cases hlt : k < l.length
    · obtain ⟨g, rfl, hc1, hc2, -, hg⟩ := ownsRow_slot ha (by omega)
      obtain ⟨g', rfl, hc1', hc2', -, hg'⟩ := ownsRow_slot hb (by omega)
      have hgw := Nat.lt_of_lt_of_le hg hup.size
      have hgw' := Nat.lt_of_lt_of_le hg' hup.size
      obtain ⟨c0, c1⟩ := plc_cells' (read_cells (ownsRow_up ha hup)) hlt
      obtain ⟨d0, d1⟩ := plc_cells' (read_cells (ownsRow_up hb hup)) hlt
      go_wp2
      refine wp_region_up 10 (by kernel_rfl) (by kernel_rfl) ?_
      simp only [List.take, List.drop]
      repeat (refine wpUp_step (fun K hK => ?_); go_simp; (try simp only [↓IntWalk.iteOmega]); first
        | (refine hK _ _ ?_; clear hK K)
        | (apply stepU_c
           · intro wq hwq; (have hbq := bcell hwq; (repeat (first | refine fills_no (by rfl) ?_ | refine fills_yes (by rfl) (fun vq hvq => ?_))); simp only [List.filter_nil, fills]; unfold upAt; (try ((have xa0 := hbq.1 g (k * 2) hgw; have xa1 := hbq.1 g (k * 2 + 1) hgw; have xb0 := hbq.1 g' (k * 2) hgw'; have xb1 := hbq.1 g' (k * 2 + 1) hgw'))); go_simp; (try go_bits); (try simp only [↓IntWalk.iteOmega]); (try (rw [dif_pos (by omega)]; go_simp; try go_bits)); first | exact upOut_value | (apply upOut_call; (go_at_call 21; with_reducible exact eqPlc_same _ _ _)) | (apply upOut_eq; (go_at_call 21; with_reducible exact eqPlc_same _ _ _)))
           go_simp; refine hK _ _ ?_; clear hK K))
      refine wpUp_nil (fun wq hwq => ?_)
      simp only [fills]
      go_wp2
      go_roundw
      case rel => exact ⟨k + 1, by omega, by go_num, hup.trans hwq⟩
      case measure => simp [intOf]; omega
    · go_wp2
      go_ret
      exact ⟨rfl, hup⟩

end Go.Proofs.YtmjpopfacagjhaaDoor
