/- Walks of the laws' own functions that copy places that came in. Conditions: they can be read, and are at most 2^20. -/
import Derived.Test.YtmjpopfacagjhaaDoorIndex
namespace Go.Proofs.YtmjpopfacagjhaaDoor
set_option linter.unusedVariables false
set_option linter.unusedSimpArgs false
open Go.RowKit

/-- A slice of places that can be read. -/
def ArgP (w : World) (v : Value) (ps : List PlaceD) : Prop := ∃ a cap, v = .slice a ps.length cap ∧ ps.length ≤ maxLen ∧ (0 < ps.length → ∃ b off, a = some ⟨b, off, none⟩ ∧ ps.length ≤ cap ∧ cap ≤ maxLen ∧ b < w.heap.size ∧ ∀ i p, ps[i]? = some p → w.cell? ⟨b, off + i * 2, none⟩ = some (.int .i64 p.place) ∧ w.cell? ⟨b, off + i * 2 + 1, none⟩ = some (.int .i64 p.start))
theorem ArgP.up {w w' : World} {v : Value} {ps : List PlaceD} (h : ArgP w v ps) (hu : Up w w') : ArgP w' v ps := by
  obtain ⟨a, cap, h1, h2, h3⟩ := h
  refine ⟨a, cap, h1, h2, fun hp => ?_⟩
  obtain ⟨b, off, e1, e2, e3, e4, e5⟩ := h3 hp
  exact ⟨b, off, e1, e2, e3, Nat.lt_of_lt_of_le e4 hu.size, fun i p hi => ⟨(hu.cell (p := ⟨b, _, none⟩) e4).trans (e5 i p hi).1, (hu.cell (p := ⟨b, _, none⟩) e4).trans (e5 i p hi).2⟩⟩

set_option maxRecDepth 100000 in
set_option maxHeartbeats 1000000 in
theorem toPlace_any (x y : Int) (w : World) :
    Calls Tryd.prog 16 #[.agg #[.int .i64 x, .int .i64 y]] w (Same (.agg #[.int .i64 x, .int .i64 y]) w) := by
  go_enter Tryd.func16, Tryd.ntmps16
  go_wp2
  exact bodyPost_ret (v := .agg #[.int .i64 x, .int .i64 y]) (by simp [results, Tryd.results16, go_sem]) rfl ⟨rfl, (((Up.refl _).alloc _).alloc _).alloc _⟩

set_option maxRecDepth 100000 in
set_option maxHeartbeats 1000000 in
theorem szPlaceS_any (ps : List PlaceD) (v : Value) (w : World) (h : ArgP w v ps) :
    Calls Tryd.prog 5 #[v, .int .i64 1048576] w (fun e w' => e = .returned (.int .i64 (if (1048576 : Int) < ps.length then -1 else 1048576 - ps.length)) ∧ w = w') := by
  obtain ⟨a, cap, rfl, hm, -⟩ := h
  unfold maxLen at hm
  by_cases hl : (1048576 : Int) < ps.length
  · have e : Hid ((if (1048576 : Int) < ps.length then (-1 : Int) else 1048576 - ps.length) = -1) := if_pos hl
    rw [e.out]
    go_enter Tryd.func5, Tryd.ntmps5
    go_wp2
    go_ret
    exact ⟨rfl, rfl⟩
  · have e : Hid ((if (1048576 : Int) < ps.length then (-1 : Int) else 1048576 - ps.length) = 1048576 - ps.length) := if_neg hl
    rw [e.out]
    go_enter Tryd.func5, Tryd.ntmps5
    go_wp2
    go_ret
    exact ⟨rfl, rfl⟩

def midT (ps : List PlaceD) (k : Nat) : List PlaceD := ps.take k ++ List.replicate (ps.length - k) ⟨0, 0⟩
theorem midT_all (ps : List PlaceD) : midT ps ps.length = ps := by simp [midT]
theorem midT_zero (ps : List PlaceD) : midT ps 0 = List.replicate ps.length ⟨0, 0⟩ := by simp [midT]
theorem midT_at (ps : List PlaceD) (k : Nat) (h : k < ps.length) : (midT ps k)[k]? = some ⟨0, 0⟩ := by
  rw [midT, List.getElem?_append_right (by simp; omega), List.getElem?_replicate, if_pos (by simp; omega)]
theorem midT_set (ps : List PlaceD) (k : Nat) (h : k < ps.length) : ((cellsP (midT ps k)).set (k * 2) (.int .i64 ps[k].place)).set (k * 2 + 1) (.int .i64 ps[k].start) = cellsP (midT ps (k + 1)) := by
  have e : List.replicate (ps.length - k) (⟨0, 0⟩ : PlaceD) = ⟨0, 0⟩ :: List.replicate (ps.length - (k + 1)) ⟨0, 0⟩ := by
    rw [show ps.length - k = (ps.length - (k + 1)) + 1 by omega]; rfl
  rw [midT, midT, e, List.take_succ_eq_append_getElem h]
  simp only [cellsP, List.flatMap_append, List.flatMap_cons, List.flatMap_nil, List.append_nil, List.append_assoc]
  exact set2 _ _ _ _ _ _ _ (by have := cellsP_length (ps.take k); rw [List.length_take, Nat.min_eq_left (by omega)] at this; exact this)

def RelTP (ps : List PlaceD) (w : World) (i : Value) (wr : World) : Prop := ∃ k : Nat, k ≤ ps.length ∧ i = .int .i64 k ∧ Up w wr ∧ wr.ownsRow w.heap.size 34 2 (.slice (some ⟨w.heap.size, 0, none⟩) ps.length ps.length) ps.length (cellsP (midT ps k))

set_option maxRecDepth 100000 in
set_option maxHeartbeats 2000000 in
theorem toPlaceS_any (ps : List PlaceD) (v : Value) (w : World) (h : ArgP w v ps) (hl : ps.length ≤ 1048576) :
    Calls Tryd.prog 7 #[v] w (fun e w' => ∃ u, e = .returned u ∧ w'.ownsRow w.heap.size 34 2 u ps.length (cellsP ps) ∧ Up w w') := by
  obtain ⟨i0, hi0, hz0, hz1, hz2⟩ := info_parts infoPlace
  have hmk : ∀ w : World, (Instr.makeSlice 25 (.int .i64 (ps.length : Int)) (.int .i64 (ps.length : Int))).run Tryd.prog w = .ok (.slice (some ⟨w.heap.size, 0, none⟩) ps.length ps.length) (w.alloc (.cells (madeCells #[.int .i64 0, .int .i64 0] (ps.length * 2)) 34)) := fun w => by
    have := run_make (P := Tryd.prog) w 25 34 i0 _ Tryd.underlying25 hi0 hz0 .i64 .i64 ps.length ps.length (by omega) (Int.le_refl _) (by rw [hz2]; omega) (by omega)
    rw [hz1] at this
    simpa [Value.cells] using this
  clear hz0 hz1 hz2 hi0
  obtain ⟨a, cap, rfl, hm, hsome⟩ := h
  go_enter Tryd.func7, Tryd.ntmps7
  go_wp2
  go_loopw [4] (fun i wr => RelTP ps w i wr) (fun i _ => ps.length - (intOf i).toNat)
  case atStart => exact ⟨0, Nat.zero_le _, rfl, (Up.refl _).alloc _, by rw [midT_zero]; exact made_row w _ _ (Nat.le_refl _) hm⟩
  case round =>
    obtain ⟨k, hk, rfl, hup, ho⟩ := hrel
    by_cases hlt : k < ps.length
    · obtain ⟨b, off, rfl, hc1, hc2, hbl, hcells⟩ := hsome (by omega)
      obtain ⟨x0, x1⟩ := hcells k ps[k] (List.getElem?_eq_getElem hlt)
      have c0 := (hup.cell (p := ⟨b, off + k * 2, none⟩) hbl).trans x0
      have c1 := (hup.cell (p := ⟨b, off + k * 2 + 1, none⟩) hbl).trans x1
      clear x0 x1 hcells
      have HM := Lib.hid (midT_set ps k hlt)
      have hrl : w.heap.size < wr.heap.size := (ho.lt _ rfl).2
      go_wp2_with (go_at_call 16; (with_reducible refine (toPlace_any _ _ _).mono ?_); rintro e w1 ⟨rfl, U1⟩; have ho1 := ownsRow_up ho U1; obtain ⟨d0, d1⟩ := plc_cells (read_cells ho1) (midT_at ps k hlt); have f0 := ownsRow_free ho1 (k * 2); have f1 := ownsRow_free ho1 (k * 2 + 1))
      go_roundw
      case rel => exact ⟨k + 1, by omega, by go_num, ((hup.trans U1).set (p := ⟨w.heap.size, k * 2, none⟩) (Nat.le_refl _) _).set (p := ⟨w.heap.size, k * 2 + 1, none⟩) (Nat.le_refl _) _, by rw [← HM.out]; exact ownsRow_set (ownsRow_set (ownsRow_up ho U1) (k * 2) _) (k * 2 + 1) _⟩
      case measure => simp [intOf]; omega
    · have e : k = ps.length := by omega
      subst e
      rw [midT_all] at ho
      go_wp2
      go_ret
      exact ⟨_, rfl, ho, hup⟩

end Go.Proofs.YtmjpopfacagjhaaDoor
