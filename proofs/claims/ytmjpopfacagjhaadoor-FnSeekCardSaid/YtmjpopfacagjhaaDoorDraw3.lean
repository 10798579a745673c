/- Walks of the reference's draws of data and dictionaries. Conditions: the reader is one (Rdr), its place is bounded; the setting is valid. -/
import Derived.Test.YtmjpopfacagjhaaDoorDraw2
namespace Go.Proofs.YtmjpopfacagjhaaDoor
set_option linter.unusedVariables false
set_option linter.unusedSimpArgs false
open Go Go.RowKit

def RelDa (rb : Nat) (B : Value) (n c : Nat) (w : World) (out i : Value) (wr : World) : Prop := ∃ (l : List UInt8) (k : Nat), i = .int .i64 k ∧ l.length + k ≤ n ∧ ownU wr (w.heap.size + 1) out l ∧ RdUp rb B (c + 3 * l.length) w wr
theorem own_at {w : World} {base : Nat} {v : Value} {l : List UInt8} (h : ownU w base v l) (hl : 0 < l.length) : ∃ g c, v = .slice (some ⟨g, 0, none⟩) l.length c ∧ base ≤ g ∧ g < w.heap.size ∧ ∀ i (hi : i < l.length), w.cell? ⟨g, i, none⟩ = some (.int .u8 l[i].toNat) := by
  rcases ownsRow_read h with ⟨rfl, h2⟩ | ⟨g, cap, rfl, h1, h2, h3, h4, h5⟩
  · omega
  · exact ⟨g, cap, rfl, h3, h4, fun i hi => h5 i _ (cellsU_get hi)⟩

theorem mod_bd (x p : Int) (h0 : 0 ≤ x) (h1 : 1 ≤ p) : 0 ≤ x % p ∧ x % p ≤ x := by
  refine ⟨Int.emod_nonneg _ (by omega), ?_⟩
  rcases Int.lt_or_le x p with h | h
  · rw [Int.emod_eq_of_lt h0 h]; exact Int.le_refl _
  · have := Int.emod_lt_of_pos x (by omega : 0 < p); omega
set_option maxRecDepth 100000 in
set_option maxHeartbeats 8000000 in
theorem l1Data_any (rb : Nat) (B : Value) (s : SetD) (n : Nat) (w : World) (N : Nat) (h : Rdr rb B w N) (hN : N ≤ 1000000000) (hn : n ≤ 1000) (hs : setOk s = true) :
    Calls Tryd.prog 50  #[.pointer (some ⟨rb, 0, none⟩), setV s, .int .i64 n] w (Drawn rb B 3010 (IsStr n) w) := by
  obtain ⟨i0, hib, hz0, hz1, hz2⟩ := info_parts infoByte
  have hmk := make_u8 n (by omega)
  have hlt := h.lt
  have HR := Lib.hid h
  have hne0 : ¬ w.heap.size = rb := by omega
  have hne1 : ¬ w.heap.size + 1 = rb := by omega
  have hU := RdUp.refl rb B 0 w
  have e1 : w.heap.size < w.heap.size + 1 := by omega
  have e2 : w.heap.size < w.heap.size + 1 + 1 := by omega
  have e3 : w.heap.size + 1 < w.heap.size + 1 + 1 := by omega
  have cK := fun wx => l1Clear_any s wx hs
  obtain ⟨hcb1, hcb2, -, -⟩ := clr_bd hs
  simp only [setV] at *
  clear hs
  have ho0 : ownU ((w.alloc (.cells #[.int .i64 s.ord, .int .i64 s.lit, .int .i64 s.most] 63)).alloc (.cells (madeCells #[.int .u8 0] n) 5)) (w.heap.size + 1) (.slice (some ⟨w.heap.size + 1, 0, none⟩) 0 n) [] := by
    have h0 := own_made0 (w := w.alloc (.cells #[.int .i64 s.ord, .int .i64 s.lit, .int .i64 s.most] 63)) (base := w.heap.size + 1) (n := n) (by simp) (by unfold maxLen; omega)
    rwa [size_alloc] at h0
  go_enter Tryd.func50, Tryd.ntmps50
  go_wp2_with ((go_at_call 60; (with_reducible refine (cK _).mono ?_); rintro e w1 ⟨rfl, U1⟩; have B1 := bcell U1; have Z1 := U1.size; (try simp at Z1); (try rw [Nat.add_one_le_iff] at Z1)))
  have ho1 := ownsRow_up ho0 U1
  have x0 : w.heap.size < w1.heap.size := by omega
  have x1 : w.heap.size < w1.heap.size + 1 := by omega
  go_wp2_with ((go_at_call 24; ((with_reducible refine (num_at ([2, 3, ((clr s : Nat) : Int), 1]) HR.out hU (by intro c hU; (repeat (first | with_reducible assumption | refine RdUp.ups ?_ (by with_reducible assumption) | with_reducible refine RdUp.set ?_ (by first | exact Nat.le_refl _ | (simp only []; omega) | (simp; omega)) _ | with_reducible refine RdUp.alloc ?_ _ | with_reducible refine RdUp.drew ?_ | with_reducible exact RdUp.of (Up.refl _)))) (by omega) (by first | rfl | (simp; done) | fail) (by first | rfl | (simp; done) | fail) (by first | rfl | (simp; done) | fail) (by simp) (by simp) (by first | rfl | (simp; done) | fail)).mono ?_); rintro e w' ⟨i, rfl, hi, hU, U⟩; have D := gcell U.1; have Z := U.1.size; (try simp at Z); (try have Y0 : w.heap.size < w'.heap.size := (by omega)); (try have Y1 : w.heap.size + 1 < w'.heap.size := (by omega)); (try have Y2 : w.heap.size + 1 + 1 < w'.heap.size := (by omega)); (try have X0 : w.heap.size < w'.heap.size + 1 := (by omega)); (try have X1 : w.heap.size + 1 < w'.heap.size + 1 := (by omega)); (try have X2 : w.heap.size + 1 + 1 < w'.heap.size + 1 := (by omega)); ((have hp1 : 1 ≤ i := (by simp at hi; omega)); (have hp2 : i ≤ 256 := (by simp at hi; omega)); clear hi))))
  have ho := own_rd (ho1.alloc _) (by omega) U.1
  refine (cK _).mono ?_
  rintro e w3 ⟨rfl, U3⟩
  have ho := ownsRow_up ho U3
  have hz3 := U3.size
  have hU := hU.ups U3
  clear D U Z Y0 X0 B1 Z1 U1 U3 ho1 ho0
  rcases Int.lt_or_le (clr s : Int) i with hle | hle
  · have hq1 : (1 : Int) ≤ (clr s : Int) := by omega
    have hq2 : (clr s : Int) ≤ 256 := by omega
    have hrb : rb < w.heap.size + 1 := by omega
    clear hcb1 hcb2
    generalize ((clr s : Nat) : Int) = part at *
    go_wp2_with (first | (go_at_call 23; ((with_reducible refine (pick_at (n := 7) HR.out hU (by intro c hU; (repeat (first | with_reducible assumption | refine RdUp.ups ?_ (by with_reducible assumption) | with_reducible refine RdUp.set ?_ (by first | exact Nat.le_refl _ | (simp only []; omega) | (simp; omega)) _ | with_reducible refine RdUp.alloc ?_ _ | with_reducible refine RdUp.drew ?_ | with_reducible exact RdUp.of (Up.refl _)))) (by omega)).mono ?_); rintro e w' ⟨per, rfl, per0, per1, hU, U⟩; have D := gcell U.1; have Z := U.1.size; (try simp at Z); (try have Y0 : w.heap.size < w'.heap.size := (by omega)); (try have Y1 : w.heap.size + 1 < w'.heap.size := (by omega)); (try have Y2 : w.heap.size + 1 + 1 < w'.heap.size := (by omega)); (try have X0 : w.heap.size < w'.heap.size + 1 := (by omega)); (try have X1 : w.heap.size + 1 < w'.heap.size + 1 := (by omega)); (try have X2 : w.heap.size + 1 + 1 < w'.heap.size + 1 := (by omega)); (have ho := own_rd ho hrb U.1))) | (go_at_call 23; ((with_reducible refine (pick_at (n := 4) HR.out hU (by intro c hU; (repeat (first | with_reducible assumption | refine RdUp.ups ?_ (by with_reducible assumption) | with_reducible refine RdUp.set ?_ (by first | exact Nat.le_refl _ | (simp only []; omega) | (simp; omega)) _ | with_reducible refine RdUp.alloc ?_ _ | with_reducible refine RdUp.drew ?_ | with_reducible exact RdUp.of (Up.refl _)))) (by omega)).mono ?_); rintro e w' ⟨mode, rfl, mode0, mode1, hU, U⟩; have D := gcell U.1; have Z := U.1.size; (try simp at Z); (try have Y0 : w.heap.size < w'.heap.size := (by omega)); (try have Y1 : w.heap.size + 1 < w'.heap.size := (by omega)); (try have Y2 : w.heap.size + 1 + 1 < w'.heap.size := (by omega)); (try have X0 : w.heap.size < w'.heap.size + 1 := (by omega)); (try have X1 : w.heap.size + 1 < w'.heap.size + 1 := (by omega)); (try have X2 : w.heap.size + 1 + 1 < w'.heap.size + 1 := (by omega)); (have ho := own_rd ho hrb U.1))) | (go_at_call 23; ((with_reducible refine (pick_at (n := (n : Int) + 1) HR.out hU (by intro c hU; (repeat (first | with_reducible assumption | refine RdUp.ups ?_ (by with_reducible assumption) | with_reducible refine RdUp.set ?_ (by first | exact Nat.le_refl _ | (simp only []; omega) | (simp; omega)) _ | with_reducible refine RdUp.alloc ?_ _ | with_reducible refine RdUp.drew ?_ | with_reducible exact RdUp.of (Up.refl _)))) (by omega)).mono ?_); rintro e w' ⟨kk, rfl, kk0, kk1, hU, U⟩; have D := gcell U.1; have Z := U.1.size; (try simp at Z); (try have Y0 : w.heap.size < w'.heap.size := (by omega)); (try have Y1 : w.heap.size + 1 < w'.heap.size := (by omega)); (try have Y2 : w.heap.size + 1 + 1 < w'.heap.size := (by omega)); (try have X0 : w.heap.size < w'.heap.size + 1 := (by omega)); (try have X1 : w.heap.size + 1 < w'.heap.size + 1 := (by omega)); (try have X2 : w.heap.size + 1 + 1 < w'.heap.size + 1 := (by omega)); (have ho := own_rd ho hrb U.1))))
    obtain ⟨k, rfl⟩ := Int.eq_ofNat_of_zero_le kk0
    have hU1 := hU
    obtain ⟨pn, hpn⟩ := Int.eq_ofNat_of_zero_le (by omega : 0 ≤ 1 + per)
    rw [hpn]
    have hpn1 : 1 ≤ pn := by omega
    have hpn2 : pn ≤ 7 := by omega
    clear hpn per0 per1 D U Z Y0 X0 Y1 X1 Y2 X2
    go_loopw [7, 11] (fun out i wr => RelDa rb B n 4 w out i wr) (fun _ i _ => (intOf i).toNat)
    case atStart => exact ⟨[], k, rfl, by simp; omega, ho, hU1⟩
    case round =>
      clear ho hU1
      obtain ⟨l, k, rfl, hlk, ho, hU⟩ := hrel
      have hwz := hU.1.size
      have hll : l.length ≤ 1000 := by omega
      by_cases hk : 0 < k
      · rcases (by omega : mode = 0 ∨ mode = 1 ∨ 2 ≤ mode) with rfl | rfl | hmo
        · rcases Nat.eq_zero_or_pos l.length with hl | hl
          · have hl0 : ¬ (0 : Int) < (l.length : Int) := by omega
            obtain ⟨a, c, rfl⟩ := ownsRow_shape ho
            have HL := Lib.hid hl
            clear hl
            go_wp2_with (first | (go_at_call 23; ((with_reducible refine (pick_at (n := 256) HR.out hU (by intro c hU; (repeat (first | with_reducible assumption | refine RdUp.ups ?_ (by with_reducible assumption) | with_reducible refine RdUp.set ?_ (by first | exact Nat.le_refl _ | (simp only []; omega) | (simp; omega)) _ | with_reducible refine RdUp.alloc ?_ _ | with_reducible refine RdUp.drew ?_ | with_reducible exact RdUp.of (Up.refl _)))) (by omega)).mono ?_); rintro e w' ⟨x, rfl, x0, x1, hU, U⟩; have D := gcell U.1; have Z := U.1.size; (try simp at Z); (try have Y0 : w.heap.size < w'.heap.size := (by omega)); (try have Y1 : w.heap.size + 1 < w'.heap.size := (by omega)); (try have Y2 : w.heap.size + 1 + 1 < w'.heap.size := (by omega)); (try have X0 : w.heap.size < w'.heap.size + 1 := (by omega)); (try have X1 : w.heap.size + 1 < w'.heap.size + 1 := (by omega)); (try have X2 : w.heap.size + 1 + 1 < w'.heap.size + 1 := (by omega)); (have ho := own_rd ho hrb U.1; obtain ⟨hm0, hm1⟩ := mod_bd x part (by omega) (by omega)))) | (at_builtin; refine wpList_append_own _ rfl _ _ 29 rfl (w.heap.size + 1) 5 i0 (.int .u8 0) 1 1 Tryd.underlying29 hib hz0 hz1 hz2 rfl (by decide) _ _ _ rfl ((ho).alloc _) ⟨(w').heap.size, 0, none⟩ 1 1 [.int .u8 (x % part)] rfl rfl (new_cells [.int .u8 (x % part)] _ rfl) (by intro u hu; simp at hu; subst hu; rfl) (by unfold maxLen; omega) (by omega) (by simp; omega) ?_; rintro v2 w2 hown2 hgr2 -; have hsn := ownU_snocR hown2 (by omega) (by omega)))
            all_goals
              go_roundw
              case rel => exact ⟨_, k - 1, by go_num, by simp; omega, hsn, RdUp.mono ((hU.alloc _).gr hgr2 (fun y hy => by have := row_ge ho y hy; omega)) (by simp; omega)⟩
              case measure => simp [intOf]; omega
          · obtain ⟨g, c, rfl, hg1, hg2, hcl⟩ := own_at ho hl
            obtain ⟨m, hm⟩ : ∃ m : Nat, ((l.length : Int) - 1 = (m : Int)) := ⟨l.length - 1, by omega⟩
            have hml : m < l.length := by omega
            have hml1 : (m : Int) < (l.length : Int) := by omega
            have hgr : ¬ g = rb := by omega
            have hx1 := hcl m hml
            have hb1 := u8_bd l[m]
            have hb0 : (0 : Int) ≤ (l[m].toNat : Int) := Int.natCast_nonneg _
            generalize (l[m].toNat : Int) = z1 at *
            clear hcl
            go_wp2_with (first | (go_at_call 23; ((with_reducible refine (pick_at (n := 256) HR.out hU (by intro c hU; (repeat (first | with_reducible assumption | refine RdUp.ups ?_ (by with_reducible assumption) | with_reducible refine RdUp.set ?_ (by first | exact Nat.le_refl _ | (simp only []; omega) | (simp; omega)) _ | with_reducible refine RdUp.alloc ?_ _ | with_reducible refine RdUp.drew ?_ | with_reducible exact RdUp.of (Up.refl _)))) (by omega)).mono ?_); rintro e w' ⟨x, rfl, x0, x1, hU, U⟩; have D := gcell U.1; have Z := U.1.size; (try simp at Z); (try have Y0 : w.heap.size < w'.heap.size := (by omega)); (try have Y1 : w.heap.size + 1 < w'.heap.size := (by omega)); (try have Y2 : w.heap.size + 1 + 1 < w'.heap.size := (by omega)); (try have X0 : w.heap.size < w'.heap.size + 1 := (by omega)); (try have X1 : w.heap.size + 1 < w'.heap.size + 1 := (by omega)); (try have X2 : w.heap.size + 1 + 1 < w'.heap.size + 1 := (by omega)); (have ho := own_rd ho hrb U.1; have Yg : g < w'.heap.size := (by omega); obtain ⟨hm0, hm1⟩ := mod_bd x part (by omega) (by omega)))) | (go_at_call 23; ((with_reducible refine (pick_at (n := 4) HR.out hU (by intro c hU; (repeat (first | with_reducible assumption | refine RdUp.ups ?_ (by with_reducible assumption) | with_reducible refine RdUp.set ?_ (by first | exact Nat.le_refl _ | (simp only []; omega) | (simp; omega)) _ | with_reducible refine RdUp.alloc ?_ _ | with_reducible refine RdUp.drew ?_ | with_reducible exact RdUp.of (Up.refl _)))) (by omega)).mono ?_); rintro e w' ⟨y4, rfl, y40, y41, hU, U⟩; have D := gcell U.1; have Z := U.1.size; (try simp at Z); (try have Y0 : w.heap.size < w'.heap.size := (by omega)); (try have Y1 : w.heap.size + 1 < w'.heap.size := (by omega)); (try have Y2 : w.heap.size + 1 + 1 < w'.heap.size := (by omega)); (try have X0 : w.heap.size < w'.heap.size + 1 := (by omega)); (try have X1 : w.heap.size + 1 < w'.heap.size + 1 := (by omega)); (try have X2 : w.heap.size + 1 + 1 < w'.heap.size + 1 := (by omega)); (have ho := own_rd ho hrb U.1; have Yg : g < w'.heap.size := (by omega); skip))) | (at_builtin; refine wpList_append_own _ rfl _ _ 29 rfl (w.heap.size + 1) 5 i0 (.int .u8 0) 1 1 Tryd.underlying29 hib hz0 hz1 hz2 rfl (by decide) _ _ _ rfl ((ho).alloc _) ⟨(w').heap.size, 0, none⟩ 1 1 [.int .u8 (x % part)] rfl rfl (new_cells [.int .u8 (x % part)] _ rfl) (by intro u hu; simp at hu; subst hu; rfl) (by unfold maxLen; omega) (by omega) (by simp; omega) ?_; rintro v2 w2 hown2 hgr2 -; have hsn := ownU_snocR hown2 (by omega) (by omega)) | (at_builtin; refine wpList_append_own _ rfl _ _ 29 rfl (w.heap.size + 1) 5 i0 (.int .u8 0) 1 1 Tryd.underlying29 hib hz0 hz1 hz2 rfl (by decide) _ _ _ rfl ((ho).alloc _) ⟨(w').heap.size, 0, none⟩ 1 1 [.int .u8 z1] rfl rfl (new_cells [.int .u8 z1] _ rfl) (by intro u hu; simp at hu; subst hu; rfl) (by unfold maxLen; omega) (by omega) (by simp; omega) ?_; rintro v2 w2 hown2 hgr2 -; have hsn := ownU_snocR hown2 (by omega) (by omega)))
            all_goals
              go_roundw
              case rel => exact ⟨_, k - 1, by go_num, by simp; omega, hsn, RdUp.mono ((hU.alloc _).gr hgr2 (fun y hy => by have := row_ge ho y hy; omega)) (by simp; omega)⟩
              case measure => simp [intOf]; omega
        · by_cases hp : pn ≤ l.length
          · obtain ⟨g, c, rfl, hg1, hg2, hcl⟩ := own_at ho (by omega)
            obtain ⟨m, hm⟩ : ∃ m : Nat, ((l.length : Int) - (pn : Int) = (m : Int)) := ⟨l.length - pn, by omega⟩
            have hml : m < l.length := by omega
            have hml1 : (m : Int) < (l.length : Int) := by omega
            have hgr : ¬ g = rb := by omega
            have hx1 := hcl m hml
            have hb1 := u8_bd l[m]
            have hb0 : (0 : Int) ≤ (l[m].toNat : Int) := Int.natCast_nonneg _
            generalize (l[m].toNat : Int) = z1 at *
            clear hcl
            go_wp2_with (first | (go_at_call 23; ((with_reducible refine (pick_at (n := 256) HR.out hU (by intro c hU; (repeat (first | with_reducible assumption | refine RdUp.ups ?_ (by with_reducible assumption) | with_reducible refine RdUp.set ?_ (by first | exact Nat.le_refl _ | (simp only []; omega) | (simp; omega)) _ | with_reducible refine RdUp.alloc ?_ _ | with_reducible refine RdUp.drew ?_ | with_reducible exact RdUp.of (Up.refl _)))) (by omega)).mono ?_); rintro e w' ⟨x, rfl, x0, x1, hU, U⟩; have D := gcell U.1; have Z := U.1.size; (try simp at Z); (try have Y0 : w.heap.size < w'.heap.size := (by omega)); (try have Y1 : w.heap.size + 1 < w'.heap.size := (by omega)); (try have Y2 : w.heap.size + 1 + 1 < w'.heap.size := (by omega)); (try have X0 : w.heap.size < w'.heap.size + 1 := (by omega)); (try have X1 : w.heap.size + 1 < w'.heap.size + 1 := (by omega)); (try have X2 : w.heap.size + 1 + 1 < w'.heap.size + 1 := (by omega)); (have ho := own_rd ho hrb U.1; have Yg : g < w'.heap.size := (by omega); obtain ⟨hm0, hm1⟩ := mod_bd x part (by omega) (by omega)))) | (go_at_call 23; ((with_reducible refine (pick_at (n := 10) HR.out hU (by intro c hU; (repeat (first | with_reducible assumption | refine RdUp.ups ?_ (by with_reducible assumption) | with_reducible refine RdUp.set ?_ (by first | exact Nat.le_refl _ | (simp only []; omega) | (simp; omega)) _ | with_reducible refine RdUp.alloc ?_ _ | with_reducible refine RdUp.drew ?_ | with_reducible exact RdUp.of (Up.refl _)))) (by omega)).mono ?_); rintro e w' ⟨y10, rfl, y100, y101, hU, U⟩; have D := gcell U.1; have Z := U.1.size; (try simp at Z); (try have Y0 : w.heap.size < w'.heap.size := (by omega)); (try have Y1 : w.heap.size + 1 < w'.heap.size := (by omega)); (try have Y2 : w.heap.size + 1 + 1 < w'.heap.size := (by omega)); (try have X0 : w.heap.size < w'.heap.size + 1 := (by omega)); (try have X1 : w.heap.size + 1 < w'.heap.size + 1 := (by omega)); (try have X2 : w.heap.size + 1 + 1 < w'.heap.size + 1 := (by omega)); (have ho := own_rd ho hrb U.1; have Yg : g < w'.heap.size := (by omega); skip))) | (at_builtin; refine wpList_append_own _ rfl _ _ 29 rfl (w.heap.size + 1) 5 i0 (.int .u8 0) 1 1 Tryd.underlying29 hib hz0 hz1 hz2 rfl (by decide) _ _ _ rfl ((ho).alloc _) ⟨(w').heap.size, 0, none⟩ 1 1 [.int .u8 (x % part)] rfl rfl (new_cells [.int .u8 (x % part)] _ rfl) (by intro u hu; simp at hu; subst hu; rfl) (by unfold maxLen; omega) (by omega) (by simp; omega) ?_; rintro v2 w2 hown2 hgr2 -; have hsn := ownU_snocR hown2 (by omega) (by omega)) | (at_builtin; refine wpList_append_own _ rfl _ _ 29 rfl (w.heap.size + 1) 5 i0 (.int .u8 0) 1 1 Tryd.underlying29 hib hz0 hz1 hz2 rfl (by decide) _ _ _ rfl ((ho).alloc _) ⟨(w').heap.size, 0, none⟩ 1 1 [.int .u8 z1] rfl rfl (new_cells [.int .u8 z1] _ rfl) (by intro u hu; simp at hu; subst hu; rfl) (by unfold maxLen; omega) (by omega) (by simp; omega) ?_; rintro v2 w2 hown2 hgr2 -; have hsn := ownU_snocR hown2 (by omega) (by omega)))
            all_goals
              go_roundw
              case rel => exact ⟨_, k - 1, by go_num, by simp; omega, hsn, RdUp.mono ((hU.alloc _).gr hgr2 (fun y hy => by have := row_ge ho y hy; omega)) (by simp; omega)⟩
              case measure => simp [intOf]; omega
          · obtain ⟨a, c, rfl⟩ := ownsRow_shape ho
            go_wp2_with (first | (go_at_call 23; ((with_reducible refine (pick_at (n := 256) HR.out hU (by intro c hU; (repeat (first | with_reducible assumption | refine RdUp.ups ?_ (by with_reducible assumption) | with_reducible refine RdUp.set ?_ (by first | exact Nat.le_refl _ | (simp only []; omega) | (simp; omega)) _ | with_reducible refine RdUp.alloc ?_ _ | with_reducible refine RdUp.drew ?_ | with_reducible exact RdUp.of (Up.refl _)))) (by omega)).mono ?_); rintro e w' ⟨x, rfl, x0, x1, hU, U⟩; have D := gcell U.1; have Z := U.1.size; (try simp at Z); (try have Y0 : w.heap.size < w'.heap.size := (by omega)); (try have Y1 : w.heap.size + 1 < w'.heap.size := (by omega)); (try have Y2 : w.heap.size + 1 + 1 < w'.heap.size := (by omega)); (try have X0 : w.heap.size < w'.heap.size + 1 := (by omega)); (try have X1 : w.heap.size + 1 < w'.heap.size + 1 := (by omega)); (try have X2 : w.heap.size + 1 + 1 < w'.heap.size + 1 := (by omega)); (have ho := own_rd ho hrb U.1; obtain ⟨hm0, hm1⟩ := mod_bd x part (by omega) (by omega)))) | (at_builtin; refine wpList_append_own _ rfl _ _ 29 rfl (w.heap.size + 1) 5 i0 (.int .u8 0) 1 1 Tryd.underlying29 hib hz0 hz1 hz2 rfl (by decide) _ _ _ rfl ((ho).alloc _) ⟨(w').heap.size, 0, none⟩ 1 1 [.int .u8 (x % part)] rfl rfl (new_cells [.int .u8 (x % part)] _ rfl) (by intro u hu; simp at hu; subst hu; rfl) (by unfold maxLen; omega) (by omega) (by simp; omega) ?_; rintro v2 w2 hown2 hgr2 -; have hsn := ownU_snocR hown2 (by omega) (by omega)))
            all_goals
              go_roundw
              case rel => exact ⟨_, k - 1, by go_num, by simp; omega, hsn, RdUp.mono ((hU.alloc _).gr hgr2 (fun y hy => by have := row_ge ho y hy; omega)) (by simp; omega)⟩
              case measure => simp [intOf]; omega
        · obtain ⟨a, c, rfl⟩ := ownsRow_shape ho
          go_wp2_with (first | (go_at_call 23; ((with_reducible refine (pick_at (n := 256) HR.out hU (by intro c hU; (repeat (first | with_reducible assumption | refine RdUp.ups ?_ (by with_reducible assumption) | with_reducible refine RdUp.set ?_ (by first | exact Nat.le_refl _ | (simp only []; omega) | (simp; omega)) _ | with_reducible refine RdUp.alloc ?_ _ | with_reducible refine RdUp.drew ?_ | with_reducible exact RdUp.of (Up.refl _)))) (by omega)).mono ?_); rintro e w' ⟨x, rfl, x0, x1, hU, U⟩; have D := gcell U.1; have Z := U.1.size; (try simp at Z); (try have Y0 : w.heap.size < w'.heap.size := (by omega)); (try have Y1 : w.heap.size + 1 < w'.heap.size := (by omega)); (try have Y2 : w.heap.size + 1 + 1 < w'.heap.size := (by omega)); (try have X0 : w.heap.size < w'.heap.size + 1 := (by omega)); (try have X1 : w.heap.size + 1 < w'.heap.size + 1 := (by omega)); (try have X2 : w.heap.size + 1 + 1 < w'.heap.size + 1 := (by omega)); (have ho := own_rd ho hrb U.1; obtain ⟨hm0, hm1⟩ := mod_bd x part (by omega) (by omega)))) | (at_builtin; refine wpList_append_own _ rfl _ _ 29 rfl (w.heap.size + 1) 5 i0 (.int .u8 0) 1 1 Tryd.underlying29 hib hz0 hz1 hz2 rfl (by decide) _ _ _ rfl ((ho).alloc _) ⟨(w').heap.size, 0, none⟩ 1 1 [.int .u8 (x % part)] rfl rfl (new_cells [.int .u8 (x % part)] _ rfl) (by intro u hu; simp at hu; subst hu; rfl) (by unfold maxLen; omega) (by omega) (by simp; omega) ?_; rintro v2 w2 hown2 hgr2 -; have hsn := ownU_snocR hown2 (by omega) (by omega)))
          all_goals
            go_roundw
            case rel => exact ⟨_, k - 1, by go_num, by simp; omega, hsn, RdUp.mono ((hU.alloc _).gr hgr2 (fun y hy => by have := row_ge ho y hy; omega)) (by simp; omega)⟩
            case measure => simp [intOf]; omega
      · obtain ⟨a, c, rfl⟩ := ownsRow_shape ho
        have cv := conv_any ho rfl
        clear ho
        go_wp2
        go_ret
        refine ⟨_, rfl, ⟨_, rfl, by rw [bs_size]; omega⟩, ?_⟩
        exact RdUp.fin hU (by intro c hU; (repeat (first | with_reducible assumption | refine RdUp.ups ?_ (by with_reducible assumption) | with_reducible refine RdUp.set ?_ (by first | exact Nat.le_refl _ | (simp only []; omega) | (simp; omega)) _ | with_reducible refine RdUp.alloc ?_ _ | with_reducible refine RdUp.drew ?_ | with_reducible exact RdUp.of (Up.refl _)))) (by omega)
  · obtain ⟨part, rfl⟩ : ∃ p : Int, p = i := ⟨_, rfl⟩
    have hrb : rb < w.heap.size + 1 := by omega
    go_wp2_with (first | (go_at_call 23; ((with_reducible refine (pick_at (n := 7) HR.out hU (by intro c hU; (repeat (first | with_reducible assumption | refine RdUp.ups ?_ (by with_reducible assumption) | with_reducible refine RdUp.set ?_ (by first | exact Nat.le_refl _ | (simp only []; omega) | (simp; omega)) _ | with_reducible refine RdUp.alloc ?_ _ | with_reducible refine RdUp.drew ?_ | with_reducible exact RdUp.of (Up.refl _)))) (by omega)).mono ?_); rintro e w' ⟨per, rfl, per0, per1, hU, U⟩; have D := gcell U.1; have Z := U.1.size; (try simp at Z); (try have Y0 : w.heap.size < w'.heap.size := (by omega)); (try have Y1 : w.heap.size + 1 < w'.heap.size := (by omega)); (try have Y2 : w.heap.size + 1 + 1 < w'.heap.size := (by omega)); (try have X0 : w.heap.size < w'.heap.size + 1 := (by omega)); (try have X1 : w.heap.size + 1 < w'.heap.size + 1 := (by omega)); (try have X2 : w.heap.size + 1 + 1 < w'.heap.size + 1 := (by omega)); (have ho := own_rd ho hrb U.1))) | (go_at_call 23; ((with_reducible refine (pick_at (n := 4) HR.out hU (by intro c hU; (repeat (first | with_reducible assumption | refine RdUp.ups ?_ (by with_reducible assumption) | with_reducible refine RdUp.set ?_ (by first | exact Nat.le_refl _ | (simp only []; omega) | (simp; omega)) _ | with_reducible refine RdUp.alloc ?_ _ | with_reducible refine RdUp.drew ?_ | with_reducible exact RdUp.of (Up.refl _)))) (by omega)).mono ?_); rintro e w' ⟨mode, rfl, mode0, mode1, hU, U⟩; have D := gcell U.1; have Z := U.1.size; (try simp at Z); (try have Y0 : w.heap.size < w'.heap.size := (by omega)); (try have Y1 : w.heap.size + 1 < w'.heap.size := (by omega)); (try have Y2 : w.heap.size + 1 + 1 < w'.heap.size := (by omega)); (try have X0 : w.heap.size < w'.heap.size + 1 := (by omega)); (try have X1 : w.heap.size + 1 < w'.heap.size + 1 := (by omega)); (try have X2 : w.heap.size + 1 + 1 < w'.heap.size + 1 := (by omega)); (have ho := own_rd ho hrb U.1))) | (go_at_call 23; ((with_reducible refine (pick_at (n := (n : Int) + 1) HR.out hU (by intro c hU; (repeat (first | with_reducible assumption | refine RdUp.ups ?_ (by with_reducible assumption) | with_reducible refine RdUp.set ?_ (by first | exact Nat.le_refl _ | (simp only []; omega) | (simp; omega)) _ | with_reducible refine RdUp.alloc ?_ _ | with_reducible refine RdUp.drew ?_ | with_reducible exact RdUp.of (Up.refl _)))) (by omega)).mono ?_); rintro e w' ⟨kk, rfl, kk0, kk1, hU, U⟩; have D := gcell U.1; have Z := U.1.size; (try simp at Z); (try have Y0 : w.heap.size < w'.heap.size := (by omega)); (try have Y1 : w.heap.size + 1 < w'.heap.size := (by omega)); (try have Y2 : w.heap.size + 1 + 1 < w'.heap.size := (by omega)); (try have X0 : w.heap.size < w'.heap.size + 1 := (by omega)); (try have X1 : w.heap.size + 1 < w'.heap.size + 1 := (by omega)); (try have X2 : w.heap.size + 1 + 1 < w'.heap.size + 1 := (by omega)); (have ho := own_rd ho hrb U.1))))
    obtain ⟨k, rfl⟩ := Int.eq_ofNat_of_zero_le kk0
    have hU1 := hU
    obtain ⟨pn, hpn⟩ := Int.eq_ofNat_of_zero_le (by omega : 0 ≤ 1 + per)
    rw [hpn]
    have hpn1 : 1 ≤ pn := by omega
    have hpn2 : pn ≤ 7 := by omega
    clear hpn per0 per1 D U Z Y0 X0 Y1 X1 Y2 X2
    go_loopw [7, 11] (fun out i wr => RelDa rb B n 4 w out i wr) (fun _ i _ => (intOf i).toNat)
    case atStart => exact ⟨[], k, rfl, by simp; omega, ho, hU1⟩
    case round =>
      clear ho hU1
      obtain ⟨l, k, rfl, hlk, ho, hU⟩ := hrel
      have hwz := hU.1.size
      have hll : l.length ≤ 1000 := by omega
      by_cases hk : 0 < k
      · rcases (by omega : mode = 0 ∨ mode = 1 ∨ 2 ≤ mode) with rfl | rfl | hmo
        · rcases Nat.eq_zero_or_pos l.length with hl | hl
          · have hl0 : ¬ (0 : Int) < (l.length : Int) := by omega
            obtain ⟨a, c, rfl⟩ := ownsRow_shape ho
            have HL := Lib.hid hl
            clear hl
            go_wp2_with (first | (go_at_call 23; ((with_reducible refine (pick_at (n := 256) HR.out hU (by intro c hU; (repeat (first | with_reducible assumption | refine RdUp.ups ?_ (by with_reducible assumption) | with_reducible refine RdUp.set ?_ (by first | exact Nat.le_refl _ | (simp only []; omega) | (simp; omega)) _ | with_reducible refine RdUp.alloc ?_ _ | with_reducible refine RdUp.drew ?_ | with_reducible exact RdUp.of (Up.refl _)))) (by omega)).mono ?_); rintro e w' ⟨x, rfl, x0, x1, hU, U⟩; have D := gcell U.1; have Z := U.1.size; (try simp at Z); (try have Y0 : w.heap.size < w'.heap.size := (by omega)); (try have Y1 : w.heap.size + 1 < w'.heap.size := (by omega)); (try have Y2 : w.heap.size + 1 + 1 < w'.heap.size := (by omega)); (try have X0 : w.heap.size < w'.heap.size + 1 := (by omega)); (try have X1 : w.heap.size + 1 < w'.heap.size + 1 := (by omega)); (try have X2 : w.heap.size + 1 + 1 < w'.heap.size + 1 := (by omega)); (have ho := own_rd ho hrb U.1; obtain ⟨hm0, hm1⟩ := mod_bd x part (by omega) (by omega)))) | (at_builtin; refine wpList_append_own _ rfl _ _ 29 rfl (w.heap.size + 1) 5 i0 (.int .u8 0) 1 1 Tryd.underlying29 hib hz0 hz1 hz2 rfl (by decide) _ _ _ rfl ((ho).alloc _) ⟨(w').heap.size, 0, none⟩ 1 1 [.int .u8 (x % part)] rfl rfl (new_cells [.int .u8 (x % part)] _ rfl) (by intro u hu; simp at hu; subst hu; rfl) (by unfold maxLen; omega) (by omega) (by simp; omega) ?_; rintro v2 w2 hown2 hgr2 -; have hsn := ownU_snocR hown2 (by omega) (by omega)))
            all_goals
              go_roundw
              case rel => exact ⟨_, k - 1, by go_num, by simp; omega, hsn, RdUp.mono ((hU.alloc _).gr hgr2 (fun y hy => by have := row_ge ho y hy; omega)) (by simp; omega)⟩
              case measure => simp [intOf]; omega
          · obtain ⟨g, c, rfl, hg1, hg2, hcl⟩ := own_at ho hl
            obtain ⟨m, hm⟩ : ∃ m : Nat, ((l.length : Int) - 1 = (m : Int)) := ⟨l.length - 1, by omega⟩
            have hml : m < l.length := by omega
            have hml1 : (m : Int) < (l.length : Int) := by omega
            have hgr : ¬ g = rb := by omega
            have hx1 := hcl m hml
            have hb1 := u8_bd l[m]
            have hb0 : (0 : Int) ≤ (l[m].toNat : Int) := Int.natCast_nonneg _
            generalize (l[m].toNat : Int) = z1 at *
            clear hcl
            go_wp2_with (first | (go_at_call 23; ((with_reducible refine (pick_at (n := 256) HR.out hU (by intro c hU; (repeat (first | with_reducible assumption | refine RdUp.ups ?_ (by with_reducible assumption) | with_reducible refine RdUp.set ?_ (by first | exact Nat.le_refl _ | (simp only []; omega) | (simp; omega)) _ | with_reducible refine RdUp.alloc ?_ _ | with_reducible refine RdUp.drew ?_ | with_reducible exact RdUp.of (Up.refl _)))) (by omega)).mono ?_); rintro e w' ⟨x, rfl, x0, x1, hU, U⟩; have D := gcell U.1; have Z := U.1.size; (try simp at Z); (try have Y0 : w.heap.size < w'.heap.size := (by omega)); (try have Y1 : w.heap.size + 1 < w'.heap.size := (by omega)); (try have Y2 : w.heap.size + 1 + 1 < w'.heap.size := (by omega)); (try have X0 : w.heap.size < w'.heap.size + 1 := (by omega)); (try have X1 : w.heap.size + 1 < w'.heap.size + 1 := (by omega)); (try have X2 : w.heap.size + 1 + 1 < w'.heap.size + 1 := (by omega)); (have ho := own_rd ho hrb U.1; have Yg : g < w'.heap.size := (by omega); obtain ⟨hm0, hm1⟩ := mod_bd x part (by omega) (by omega)))) | (go_at_call 23; ((with_reducible refine (pick_at (n := 4) HR.out hU (by intro c hU; (repeat (first | with_reducible assumption | refine RdUp.ups ?_ (by with_reducible assumption) | with_reducible refine RdUp.set ?_ (by first | exact Nat.le_refl _ | (simp only []; omega) | (simp; omega)) _ | with_reducible refine RdUp.alloc ?_ _ | with_reducible refine RdUp.drew ?_ | with_reducible exact RdUp.of (Up.refl _)))) (by omega)).mono ?_); rintro e w' ⟨y4, rfl, y40, y41, hU, U⟩; have D := gcell U.1; have Z := U.1.size; (try simp at Z); (try have Y0 : w.heap.size < w'.heap.size := (by omega)); (try have Y1 : w.heap.size + 1 < w'.heap.size := (by omega)); (try have Y2 : w.heap.size + 1 + 1 < w'.heap.size := (by omega)); (try have X0 : w.heap.size < w'.heap.size + 1 := (by omega)); (try have X1 : w.heap.size + 1 < w'.heap.size + 1 := (by omega)); (try have X2 : w.heap.size + 1 + 1 < w'.heap.size + 1 := (by omega)); (have ho := own_rd ho hrb U.1; have Yg : g < w'.heap.size := (by omega); skip))) | (at_builtin; refine wpList_append_own _ rfl _ _ 29 rfl (w.heap.size + 1) 5 i0 (.int .u8 0) 1 1 Tryd.underlying29 hib hz0 hz1 hz2 rfl (by decide) _ _ _ rfl ((ho).alloc _) ⟨(w').heap.size, 0, none⟩ 1 1 [.int .u8 (x % part)] rfl rfl (new_cells [.int .u8 (x % part)] _ rfl) (by intro u hu; simp at hu; subst hu; rfl) (by unfold maxLen; omega) (by omega) (by simp; omega) ?_; rintro v2 w2 hown2 hgr2 -; have hsn := ownU_snocR hown2 (by omega) (by omega)) | (at_builtin; refine wpList_append_own _ rfl _ _ 29 rfl (w.heap.size + 1) 5 i0 (.int .u8 0) 1 1 Tryd.underlying29 hib hz0 hz1 hz2 rfl (by decide) _ _ _ rfl ((ho).alloc _) ⟨(w').heap.size, 0, none⟩ 1 1 [.int .u8 z1] rfl rfl (new_cells [.int .u8 z1] _ rfl) (by intro u hu; simp at hu; subst hu; rfl) (by unfold maxLen; omega) (by omega) (by simp; omega) ?_; rintro v2 w2 hown2 hgr2 -; have hsn := ownU_snocR hown2 (by omega) (by omega)))
            all_goals
              go_roundw
              case rel => exact ⟨_, k - 1, by go_num, by simp; omega, hsn, RdUp.mono ((hU.alloc _).gr hgr2 (fun y hy => by have := row_ge ho y hy; omega)) (by simp; omega)⟩
              case measure => simp [intOf]; omega
        · by_cases hp : pn ≤ l.length
          · obtain ⟨g, c, rfl, hg1, hg2, hcl⟩ := own_at ho (by omega)
            obtain ⟨m, hm⟩ : ∃ m : Nat, ((l.length : Int) - (pn : Int) = (m : Int)) := ⟨l.length - pn, by omega⟩
            have hml : m < l.length := by omega
            have hml1 : (m : Int) < (l.length : Int) := by omega
            have hgr : ¬ g = rb := by omega
            have hx1 := hcl m hml
            have hb1 := u8_bd l[m]
            have hb0 : (0 : Int) ≤ (l[m].toNat : Int) := Int.natCast_nonneg _
            generalize (l[m].toNat : Int) = z1 at *
            clear hcl
            go_wp2_with (first | (go_at_call 23; ((with_reducible refine (pick_at (n := 256) HR.out hU (by intro c hU; (repeat (first | with_reducible assumption | refine RdUp.ups ?_ (by with_reducible assumption) | with_reducible refine RdUp.set ?_ (by first | exact Nat.le_refl _ | (simp only []; omega) | (simp; omega)) _ | with_reducible refine RdUp.alloc ?_ _ | with_reducible refine RdUp.drew ?_ | with_reducible exact RdUp.of (Up.refl _)))) (by omega)).mono ?_); rintro e w' ⟨x, rfl, x0, x1, hU, U⟩; have D := gcell U.1; have Z := U.1.size; (try simp at Z); (try have Y0 : w.heap.size < w'.heap.size := (by omega)); (try have Y1 : w.heap.size + 1 < w'.heap.size := (by omega)); (try have Y2 : w.heap.size + 1 + 1 < w'.heap.size := (by omega)); (try have X0 : w.heap.size < w'.heap.size + 1 := (by omega)); (try have X1 : w.heap.size + 1 < w'.heap.size + 1 := (by omega)); (try have X2 : w.heap.size + 1 + 1 < w'.heap.size + 1 := (by omega)); (have ho := own_rd ho hrb U.1; have Yg : g < w'.heap.size := (by omega); obtain ⟨hm0, hm1⟩ := mod_bd x part (by omega) (by omega)))) | (go_at_call 23; ((with_reducible refine (pick_at (n := 10) HR.out hU (by intro c hU; (repeat (first | with_reducible assumption | refine RdUp.ups ?_ (by with_reducible assumption) | with_reducible refine RdUp.set ?_ (by first | exact Nat.le_refl _ | (simp only []; omega) | (simp; omega)) _ | with_reducible refine RdUp.alloc ?_ _ | with_reducible refine RdUp.drew ?_ | with_reducible exact RdUp.of (Up.refl _)))) (by omega)).mono ?_); rintro e w' ⟨y10, rfl, y100, y101, hU, U⟩; have D := gcell U.1; have Z := U.1.size; (try simp at Z); (try have Y0 : w.heap.size < w'.heap.size := (by omega)); (try have Y1 : w.heap.size + 1 < w'.heap.size := (by omega)); (try have Y2 : w.heap.size + 1 + 1 < w'.heap.size := (by omega)); (try have X0 : w.heap.size < w'.heap.size + 1 := (by omega)); (try have X1 : w.heap.size + 1 < w'.heap.size + 1 := (by omega)); (try have X2 : w.heap.size + 1 + 1 < w'.heap.size + 1 := (by omega)); (have ho := own_rd ho hrb U.1; have Yg : g < w'.heap.size := (by omega); skip))) | (at_builtin; refine wpList_append_own _ rfl _ _ 29 rfl (w.heap.size + 1) 5 i0 (.int .u8 0) 1 1 Tryd.underlying29 hib hz0 hz1 hz2 rfl (by decide) _ _ _ rfl ((ho).alloc _) ⟨(w').heap.size, 0, none⟩ 1 1 [.int .u8 (x % part)] rfl rfl (new_cells [.int .u8 (x % part)] _ rfl) (by intro u hu; simp at hu; subst hu; rfl) (by unfold maxLen; omega) (by omega) (by simp; omega) ?_; rintro v2 w2 hown2 hgr2 -; have hsn := ownU_snocR hown2 (by omega) (by omega)) | (at_builtin; refine wpList_append_own _ rfl _ _ 29 rfl (w.heap.size + 1) 5 i0 (.int .u8 0) 1 1 Tryd.underlying29 hib hz0 hz1 hz2 rfl (by decide) _ _ _ rfl ((ho).alloc _) ⟨(w').heap.size, 0, none⟩ 1 1 [.int .u8 z1] rfl rfl (new_cells [.int .u8 z1] _ rfl) (by intro u hu; simp at hu; subst hu; rfl) (by unfold maxLen; omega) (by omega) (by simp; omega) ?_; rintro v2 w2 hown2 hgr2 -; have hsn := ownU_snocR hown2 (by omega) (by omega)))
            all_goals
              go_roundw
              case rel => exact ⟨_, k - 1, by go_num, by simp; omega, hsn, RdUp.mono ((hU.alloc _).gr hgr2 (fun y hy => by have := row_ge ho y hy; omega)) (by simp; omega)⟩
              case measure => simp [intOf]; omega
          · obtain ⟨a, c, rfl⟩ := ownsRow_shape ho
            go_wp2_with (first | (go_at_call 23; ((with_reducible refine (pick_at (n := 256) HR.out hU (by intro c hU; (repeat (first | with_reducible assumption | refine RdUp.ups ?_ (by with_reducible assumption) | with_reducible refine RdUp.set ?_ (by first | exact Nat.le_refl _ | (simp only []; omega) | (simp; omega)) _ | with_reducible refine RdUp.alloc ?_ _ | with_reducible refine RdUp.drew ?_ | with_reducible exact RdUp.of (Up.refl _)))) (by omega)).mono ?_); rintro e w' ⟨x, rfl, x0, x1, hU, U⟩; have D := gcell U.1; have Z := U.1.size; (try simp at Z); (try have Y0 : w.heap.size < w'.heap.size := (by omega)); (try have Y1 : w.heap.size + 1 < w'.heap.size := (by omega)); (try have Y2 : w.heap.size + 1 + 1 < w'.heap.size := (by omega)); (try have X0 : w.heap.size < w'.heap.size + 1 := (by omega)); (try have X1 : w.heap.size + 1 < w'.heap.size + 1 := (by omega)); (try have X2 : w.heap.size + 1 + 1 < w'.heap.size + 1 := (by omega)); (have ho := own_rd ho hrb U.1; obtain ⟨hm0, hm1⟩ := mod_bd x part (by omega) (by omega)))) | (at_builtin; refine wpList_append_own _ rfl _ _ 29 rfl (w.heap.size + 1) 5 i0 (.int .u8 0) 1 1 Tryd.underlying29 hib hz0 hz1 hz2 rfl (by decide) _ _ _ rfl ((ho).alloc _) ⟨(w').heap.size, 0, none⟩ 1 1 [.int .u8 (x % part)] rfl rfl (new_cells [.int .u8 (x % part)] _ rfl) (by intro u hu; simp at hu; subst hu; rfl) (by unfold maxLen; omega) (by omega) (by simp; omega) ?_; rintro v2 w2 hown2 hgr2 -; have hsn := ownU_snocR hown2 (by omega) (by omega)))
            all_goals
              go_roundw
              case rel => exact ⟨_, k - 1, by go_num, by simp; omega, hsn, RdUp.mono ((hU.alloc _).gr hgr2 (fun y hy => by have := row_ge ho y hy; omega)) (by simp; omega)⟩
              case measure => simp [intOf]; omega
        · obtain ⟨a, c, rfl⟩ := ownsRow_shape ho
          go_wp2_with (first | (go_at_call 23; ((with_reducible refine (pick_at (n := 256) HR.out hU (by intro c hU; (repeat (first | with_reducible assumption | refine RdUp.ups ?_ (by with_reducible assumption) | with_reducible refine RdUp.set ?_ (by first | exact Nat.le_refl _ | (simp only []; omega) | (simp; omega)) _ | with_reducible refine RdUp.alloc ?_ _ | with_reducible refine RdUp.drew ?_ | with_reducible exact RdUp.of (Up.refl _)))) (by omega)).mono ?_); rintro e w' ⟨x, rfl, x0, x1, hU, U⟩; have D := gcell U.1; have Z := U.1.size; (try simp at Z); (try have Y0 : w.heap.size < w'.heap.size := (by omega)); (try have Y1 : w.heap.size + 1 < w'.heap.size := (by omega)); (try have Y2 : w.heap.size + 1 + 1 < w'.heap.size := (by omega)); (try have X0 : w.heap.size < w'.heap.size + 1 := (by omega)); (try have X1 : w.heap.size + 1 < w'.heap.size + 1 := (by omega)); (try have X2 : w.heap.size + 1 + 1 < w'.heap.size + 1 := (by omega)); (have ho := own_rd ho hrb U.1; obtain ⟨hm0, hm1⟩ := mod_bd x part (by omega) (by omega)))) | (at_builtin; refine wpList_append_own _ rfl _ _ 29 rfl (w.heap.size + 1) 5 i0 (.int .u8 0) 1 1 Tryd.underlying29 hib hz0 hz1 hz2 rfl (by decide) _ _ _ rfl ((ho).alloc _) ⟨(w').heap.size, 0, none⟩ 1 1 [.int .u8 (x % part)] rfl rfl (new_cells [.int .u8 (x % part)] _ rfl) (by intro u hu; simp at hu; subst hu; rfl) (by unfold maxLen; omega) (by omega) (by simp; omega) ?_; rintro v2 w2 hown2 hgr2 -; have hsn := ownU_snocR hown2 (by omega) (by omega)))
          all_goals
            go_roundw
            case rel => exact ⟨_, k - 1, by go_num, by simp; omega, hsn, RdUp.mono ((hU.alloc _).gr hgr2 (fun y hy => by have := row_ge ho y hy; omega)) (by simp; omega)⟩
            case measure => simp [intOf]; omega
      · obtain ⟨a, c, rfl⟩ := ownsRow_shape ho
        have cv := conv_any ho rfl
        clear ho
        go_wp2
        go_ret
        refine ⟨_, rfl, ⟨_, rfl, by rw [bs_size]; omega⟩, ?_⟩
        exact RdUp.fin hU (by intro c hU; (repeat (first | with_reducible assumption | refine RdUp.ups ?_ (by with_reducible assumption) | with_reducible refine RdUp.set ?_ (by first | exact Nat.le_refl _ | (simp only []; omega) | (simp; omega)) _ | with_reducible refine RdUp.alloc ?_ _ | with_reducible refine RdUp.drew ?_ | with_reducible exact RdUp.of (Up.refl _)))) (by omega)

end Go.Proofs.YtmjpopfacagjhaaDoor
