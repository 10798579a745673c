/- Walks of the reference's draws of settings and data. Conditions: the reader is one (Rdr), its place is bounded. -/
import Derived.Test.YtmjpopfacagjhaaDoorDraw1
import Derived.Test.YtmjpopfacagjhaaDoorSets
import Derived.Test.YtmjpopfacagjhaaDoorWk
namespace Go.Proofs.YtmjpopfacagjhaaDoor
set_option linter.unusedVariables false
set_option linter.unusedSimpArgs false
open Go Go.RowKit

theorem isSetV (a b c : Int) : ∃ s : SetD, Value.agg #[.int .i64 a, .int .i64 b, .int .i64 c] = .agg #[.int .i64 s.ord, .int .i64 s.lit, .int .i64 s.most] := ⟨⟨a, b, c⟩, rfl⟩
def isSet (v : Value) : Prop := ∃ s : SetD, v = setV s ∧ setOk s = true

set_option maxRecDepth 100000 in
set_option maxHeartbeats 4000000 in
theorem l1Some_any (rb : Nat) (B : Value) (w : World) (N : Nat) (h : Rdr rb B w N) (hN : N ≤ 1000000000) :
    Calls Tryd.prog 48  #[.pointer (some ⟨rb, 0, none⟩)] w (Drawn rb B 5 isSet w) := by
  have hlt := h.lt
  have HR := Lib.hid h
  have hne0 : ¬ w.heap.size = rb := by omega
  have hU := RdUp.refl rb B 0 w
  have e1 : w.heap.size < w.heap.size + 1 := by omega
  have e2 : w.heap.size < w.heap.size + 1 + 1 := by omega
  go_enter Tryd.func48, Tryd.ntmps48
  go_wp2_with (first | (go_at_call 24; ((with_reducible refine (num_at ([2, 3, 2, 1, 8, 5]) HR.out hU (by intro c hU; (repeat (first | with_reducible assumption | refine RdUp.ups ?_ (by with_reducible assumption) | with_reducible refine RdUp.set ?_ (by first | exact Nat.le_refl _ | (simp only []; omega) | (simp; omega)) _ | with_reducible refine RdUp.alloc ?_ _ | with_reducible refine RdUp.drew ?_ | with_reducible exact RdUp.of (Up.refl _)))) (by omega) (by first | rfl | (simp; done) | fail) (by first | rfl | (simp; done) | fail) (by first | rfl | (simp; done) | fail) (by simp) (by simp) (by first | rfl | (simp; done) | fail)).mono ?_); rintro e w' ⟨i, rfl, hi, hU, U⟩; have D := gcell U.1; have Z := U.1.size; (try simp at Z); (try have Y0 : w.heap.size < w'.heap.size := (by omega)); (try have Y1 : w.heap.size + 1 < w'.heap.size := (by omega)); (try have Y2 : w.heap.size + 1 + 1 < w'.heap.size := (by omega)); (try have X0 : w.heap.size < w'.heap.size + 1 := (by omega)); (try have X1 : w.heap.size + 1 < w'.heap.size + 1 := (by omega)); (try have X2 : w.heap.size + 1 + 1 < w'.heap.size + 1 := (by omega)); ((have hl1 : 1 ≤ i := (by simp at hi; omega)); (have hl2 : i ≤ 8 := (by simp at hi; omega)); clear hi))) | (go_at_call 23; ((with_reducible refine (pick_at HR.out hU (by intro c hU; (repeat (first | with_reducible assumption | refine RdUp.ups ?_ (by with_reducible assumption) | with_reducible refine RdUp.set ?_ (by first | exact Nat.le_refl _ | (simp only []; omega) | (simp; omega)) _ | with_reducible refine RdUp.alloc ?_ _ | with_reducible refine RdUp.drew ?_ | with_reducible exact RdUp.of (Up.refl _)))) (by omega)).mono ?_); rintro e w' ⟨i, rfl, hi0, hi1, hU, U⟩; have D := gcell U.1; have Z := U.1.size; (try simp at Z); (try have Y0 : w.heap.size < w'.heap.size := (by omega)); (try have Y1 : w.heap.size + 1 < w'.heap.size := (by omega)); (try have Y2 : w.heap.size + 1 + 1 < w'.heap.size := (by omega)); (try have X0 : w.heap.size < w'.heap.size + 1 := (by omega)); (try have X1 : w.heap.size + 1 < w'.heap.size + 1 := (by omega)); (try have X2 : w.heap.size + 1 + 1 < w'.heap.size + 1 := (by omega)))))
  all_goals
    have q0 : w'.cell? ⟨w.heap.size, 0, none⟩ = some (.int .i64 0) := by simp [go_sem, *]
    have q1 : w'.cell? ⟨w.heap.size, 1, none⟩ = some (.int .i64 0) := by simp [go_sem, *]
    have q2 : w'.cell? ⟨w.heap.size, 2, none⟩ = some (.int .i64 0) := by simp [go_sem, *]
    refine bodyPost_ret (v := _) (by simp [results, Tryd.results48, go_sem, q0, q1, q2]; rfl) rfl ?_
    refine ⟨_, rfl, ⟨⟨_, _, _⟩, rfl, ?_⟩, ?_⟩
    · simp [setOk, inB]; omega
    · exact RdUp.fin hU (by intro c hU; (repeat (first | with_reducible assumption | refine RdUp.ups ?_ (by with_reducible assumption) | with_reducible refine RdUp.set ?_ (by first | exact Nat.le_refl _ | (simp only []; omega) | (simp; omega)) _ | with_reducible refine RdUp.alloc ?_ _ | with_reducible refine RdUp.drew ?_ | with_reducible exact RdUp.of (Up.refl _)))) (by omega)

theorem make_u8 (n : Nat) (hn : n ≤ 1048576) (w : World) : (Instr.makeSlice 29 (.int .i64 0) (.int .i64 (n : Int))).run Tryd.prog w = .ok (.slice (some ⟨w.heap.size, 0, none⟩) 0 n) (w.alloc (.cells (madeCells #[.int .u8 0] n) 5)) := by
  obtain ⟨i0, hi0, hz0, hz1, hz2⟩ := info_parts infoByte
  have := run_make (P := Tryd.prog) w 29 5 i0 _ Tryd.underlying29 hi0 hz0 .i64 .i64 0 n (by omega) (by omega) (by rw [hz2]; omega) (by omega)
  rw [hz1] at this
  simpa [Value.cells] using this
theorem own_made0 {w : World} {base n : Nat} (hb : base ≤ w.heap.size) (hn : n ≤ maxLen) : ownU (w.alloc (.cells (madeCells #[.int .u8 0] n) 5)) base (.slice (some ⟨w.heap.size, 0, none⟩) 0 n) [] :=
  World.ownsRow_made w _ n hb hn (by simp [madeCells])
theorem own_rd {rb : Nat} {w w' : World} {base : Nat} {e : TypeId} {size n : Nat} {v : Value} {xs : List Value} (h : w.ownsRow base e size v n xs) (hb : rb < base) (hg : w.grownBy w' (some rb)) : w'.ownsRow base e size v n xs :=
  h.kept hg (low_ne' (w := w) h hb)
theorem ownU_snocR {w : World} {base : Nat} {v : Value} {l : List UInt8} {y : Int} (h : w.ownsRow base 5 1 v (l.length + 1) (cellsU l ++ [.int .u8 y])) (h0 : 0 ≤ y) (h1 : y < 256) : ownU w base v (l ++ [ub y]) := by
  have e : (l ++ [ub y]).length = l.length + 1 := by simp
  unfold ownU
  rw [e, cellsU_snoc, ub_nat h0 h1]
  exact h
def RelBy (rb : Nat) (B : Value) (n c : Nat) (w : World) (out i : Value) (wr : World) : Prop := ∃ (l : List UInt8) (k : Nat), i = .int .i64 k ∧ l.length + k ≤ n ∧ ownU wr w.heap.size out l ∧ RdUp rb B (c + l.length) w wr

theorem row_ge {w : World} {base : Nat} {e : TypeId} {size n : Nat} {v : Value} {xs : List Value} (h : w.ownsRow base e size v n xs) : ∀ k, v.ownBlock = some k → base ≤ k := fun k hk => (h.lt k hk).1
set_option maxRecDepth 100000 in
set_option maxHeartbeats 4000000 in
theorem l1Bytes_any (rb : Nat) (B : Value) (n : Nat) (w : World) (N : Nat) (h : Rdr rb B w N) (hN : N ≤ 1000000000) (hn : n ≤ 1000) :
    Calls Tryd.prog 51  #[.pointer (some ⟨rb, 0, none⟩), .int .i64 n] w (Drawn rb B 1001 (IsStr n) w) := by
  obtain ⟨i0, hib, hz0, hz1, hz2⟩ := info_parts infoByte
  have hmk := make_u8 n (by omega)
  have hlt := h.lt
  have HR := Lib.hid h
  have hne0 : ¬ w.heap.size = rb := by omega
  have hU := RdUp.refl rb B 0 w
  have e1 : w.heap.size < w.heap.size + 1 := by omega
  go_enter Tryd.func51, Tryd.ntmps51
  go_wp2_with (first | (go_at_call 23; ((with_reducible refine (pick_at HR.out hU (by intro c hU; (repeat (first | with_reducible assumption | refine RdUp.ups ?_ (by with_reducible assumption) | with_reducible refine RdUp.set ?_ (by first | exact Nat.le_refl _ | (simp only []; omega) | (simp; omega)) _ | with_reducible refine RdUp.alloc ?_ _ | with_reducible refine RdUp.drew ?_ | with_reducible exact RdUp.of (Up.refl _)))) (by omega)).mono ?_); rintro e w' ⟨i, rfl, hi0, hi1, hU, U⟩; have D := gcell U.1; have Z := U.1.size; (try simp at Z); (try have Y0 : w.heap.size < w'.heap.size := (by omega)); (try have Y1 : w.heap.size + 1 < w'.heap.size := (by omega)); (try have Y2 : w.heap.size + 1 + 1 < w'.heap.size := (by omega)); (try have X0 : w.heap.size < w'.heap.size + 1 := (by omega)); (try have X1 : w.heap.size + 1 < w'.heap.size + 1 := (by omega)); (try have X2 : w.heap.size + 1 + 1 < w'.heap.size + 1 := (by omega)))))
  have hU1 := hU
  obtain ⟨k, rfl⟩ := Int.eq_ofNat_of_zero_le hi0
  have ho : ownU w' w.heap.size (.slice (some ⟨w.heap.size, 0, none⟩) 0 n) [] := own_rd (own_made0 (Nat.le_refl _) (by unfold maxLen; omega)) hlt U.1
  clear D U Z Y0 X0
  go_loopw [5, 6] (fun out i wr => RelBy rb B n 1 w out i wr) (fun _ i _ => (intOf i).toNat)
  case atStart => exact ⟨[], k, rfl, by simp; omega, ho, hU1⟩
  case round =>
    obtain ⟨l, k, rfl, hlk, ho, hU⟩ := hrel
    obtain ⟨a, c, rfl⟩ := ownsRow_shape ho
    have HO := Lib.hid ho
    by_cases hk : 0 < k
    · clear ho
      have hU1 := hU
      have hwz := hU.1.size
      go_wp2_with (first | (go_at_call 23; ((with_reducible refine (pick_at HR.out hU (by intro c hU; (repeat (first | with_reducible assumption | refine RdUp.ups ?_ (by with_reducible assumption) | with_reducible refine RdUp.set ?_ (by first | exact Nat.le_refl _ | (simp only []; omega) | (simp; omega)) _ | with_reducible refine RdUp.alloc ?_ _ | with_reducible refine RdUp.drew ?_ | with_reducible exact RdUp.of (Up.refl _)))) (by omega)).mono ?_); rintro e w' ⟨i, rfl, hi0, hi1, hU, U⟩; have D := gcell U.1; have Z := U.1.size; (try simp at Z); (try have Y0 : w.heap.size < w'.heap.size := (by omega)); (try have Y1 : w.heap.size + 1 < w'.heap.size := (by omega)); (try have Y2 : w.heap.size + 1 + 1 < w'.heap.size := (by omega)); (try have X0 : w.heap.size < w'.heap.size + 1 := (by omega)); (try have X1 : w.heap.size + 1 < w'.heap.size + 1 := (by omega)); (try have X2 : w.heap.size + 1 + 1 < w'.heap.size + 1 := (by omega)))) | (at_builtin; refine wpList_append_own _ rfl _ _ 29 rfl (w.heap.size) 5 i0 (.int .u8 0) 1 1 Tryd.underlying29 hib hz0 hz1 hz2 rfl (by decide) _ _ _ rfl ((own_rd HO.out hlt U.1).alloc _) ⟨(w').heap.size, 0, none⟩ 1 1 [.int .u8 i] rfl rfl (new_cells [.int .u8 i] _ rfl) (by intro u hu; simp at hu; subst hu; rfl) (by unfold maxLen; omega) (by omega) (by simp; omega) ?_; rintro v2 w2 hown2 hgr2 -; skip))
      go_roundw
      case rel =>
        refine ⟨l ++ [ub i], k - 1, by go_num, by simp; omega, ?_, ?_⟩
        · have e : (l ++ [ub i]).length = l.length + 1 := by simp
          exact ownU_snocR hown2 hi0 (by omega)
        · refine RdUp.mono ((hU.alloc _).gr hgr2 (row_ge HO.out)) (by simp; omega)
      case measure => simp [intOf]; omega
    · have cv := conv_any ho rfl
      clear ho
      go_wp2
      go_ret
      refine ⟨_, rfl, ⟨_, rfl, by rw [bs_size]; omega⟩, ?_⟩
      exact RdUp.fin hU (by intro c hU; (repeat (first | with_reducible assumption | refine RdUp.ups ?_ (by with_reducible assumption) | with_reducible refine RdUp.set ?_ (by first | exact Nat.le_refl _ | (simp only []; omega) | (simp; omega)) _ | with_reducible refine RdUp.alloc ?_ _ | with_reducible refine RdUp.drew ?_ | with_reducible exact RdUp.of (Up.refl _)))) (by omega)

end Go.Proofs.YtmjpopfacagjhaaDoor
