/- Walks of the reference's draws of dictionaries, settings and containers. Conditions: the reader is one (Rdr), its place is bounded; the setting is valid. -/
import Derived.Test.YtmjpopfacagjhaaDoorDraw3
import Derived.Test.YtmjpopfacagjhaaDoorBlkOf
import Derived.Test.YtmjpopfacagjhaaDoorKV
namespace Go.Proofs.YtmjpopfacagjhaaDoor
set_option linter.unusedVariables false
set_option linter.unusedSimpArgs false
open Go Go.RowKit

theorem ext_le (s : ByteArray) (i j : Nat) : (s.extract i j).size ≤ s.size := by
  rw [ByteArray.size_extract]; omega

theorem l1Data_as (m : Int) (n : Nat) (hm : m = n) (rb : Nat) (B : Value) (s : SetD) (w : World) (N : Nat) (h : Rdr rb B w N) (hN : N ≤ 1000000000) (hn : n ≤ 1000) (hs : setOk s = true) :
    Calls Tryd.prog 50  #[.pointer (some ⟨rb, 0, none⟩), setV s, .int .i64 m] w (Drawn rb B 3010 (IsStr n) w) := by subst hm; exact l1Data_any rb B s n w N h hN hn hs
theorem l1Bytes_as (m : Int) (n : Nat) (hm : m = n) (rb : Nat) (B : Value) (w : World) (N : Nat) (h : Rdr rb B w N) (hN : N ≤ 1000000000) (hn : n ≤ 1000) :
    Calls Tryd.prog 51  #[.pointer (some ⟨rb, 0, none⟩), .int .i64 m] w (Drawn rb B 1001 (IsStr n) w) := by subst hm; exact l1Bytes_any rb B n w N h hN hn

set_option maxRecDepth 100000 in
set_option maxHeartbeats 4000000 in
theorem l4Dict_any (rb : Nat) (B : Value) (s : SetD) (d : ByteArray) (w : World) (N : Nat) (h : Rdr rb B w N) (hN : N ≤ 900000000) (hd : d.size ≤ 1000) (hs : setOk s = true) :
    Calls Tryd.prog 49  #[.pointer (some ⟨rb, 0, none⟩), setV s, .string d] w (Drawn rb B 3020 (IsStr 1000) w) := by
  have hlt := h.lt
  have HR := Lib.hid h
  have hne0 : ¬ w.heap.size = rb := by omega
  have hU := RdUp.refl rb B 0 w
  have e1 : w.heap.size < w.heap.size + 1 := by omega
  have cD := fun w N h hN => l1Data_as 20 20 rfl rb B s w N h hN (by omega) hs
  simp only [setV] at *
  clear hs
  by_cases hd0 : 0 < d.size
  all_goals
    go_enter Tryd.func49, Tryd.ntmps49
    go_wp2_with (first | (go_at_call 23; ((with_reducible refine (pick_at (n := 4) HR.out hU (by intro c hU; (repeat (first | with_reducible assumption | refine RdUp.ups ?_ (by with_reducible assumption) | with_reducible refine RdUp.set ?_ (by first | exact Nat.le_refl _ | (simp only []; omega) | (simp; omega)) _ | with_reducible refine RdUp.alloc ?_ _ | with_reducible refine RdUp.drew ?_ | with_reducible exact RdUp.of (Up.refl _)))) (by omega)).mono ?_); rintro e w' ⟨x, rfl, x0, x1, hU, U⟩; have D := gcell U.1; have Z := U.1.size; (try simp at Z); (try have Y0 : w.heap.size < w'.heap.size := (by omega)); (try have Y1 : w.heap.size + 1 < w'.heap.size := (by omega)); (try have Y2 : w.heap.size + 1 + 1 < w'.heap.size := (by omega)); (try have X0 : w.heap.size < w'.heap.size + 1 := (by omega)); (try have X1 : w.heap.size + 1 < w'.heap.size + 1 := (by omega)); (try have X2 : w.heap.size + 1 + 1 < w'.heap.size + 1 := (by omega)); (skip))) | (go_at_call 23; ((with_reducible refine (pick_at (n := (d.size : Int)) HR.out hU (by intro c hU; (repeat (first | with_reducible assumption | refine RdUp.ups ?_ (by with_reducible assumption) | with_reducible refine RdUp.set ?_ (by first | exact Nat.le_refl _ | (simp only []; omega) | (simp; omega)) _ | with_reducible refine RdUp.alloc ?_ _ | with_reducible refine RdUp.drew ?_ | with_reducible exact RdUp.of (Up.refl _)))) (by omega)).mono ?_); rintro e w' ⟨y, rfl, y0, y1, hU, U⟩; have D := gcell U.1; have Z := U.1.size; (try simp at Z); (try have Y0 : w.heap.size < w'.heap.size := (by omega)); (try have Y1 : w.heap.size + 1 < w'.heap.size := (by omega)); (try have Y2 : w.heap.size + 1 + 1 < w'.heap.size := (by omega)); (try have X0 : w.heap.size < w'.heap.size + 1 := (by omega)); (try have X1 : w.heap.size + 1 < w'.heap.size + 1 := (by omega)); (try have X2 : w.heap.size + 1 + 1 < w'.heap.size + 1 := (by omega)); ((obtain ⟨q, rfl⟩ := Int.eq_ofNat_of_zero_le y0); (have hq : q < d.size := (by omega))))) | (go_at_call 50; ((with_reducible refine (draw_at (cD) HR.out hU (by intro c hU; (repeat (first | with_reducible assumption | refine RdUp.ups ?_ (by with_reducible assumption) | with_reducible refine RdUp.set ?_ (by first | exact Nat.le_refl _ | (simp only []; omega) | (simp; omega)) _ | with_reducible refine RdUp.alloc ?_ _ | with_reducible refine RdUp.drew ?_ | with_reducible exact RdUp.of (Up.refl _)))) (by omega)).mono ?_); rintro e w' ⟨v, rfl, ⟨st, rfl, hst⟩, hU, U⟩; have D := gcell U.1; have Z := U.1.size; (try simp at Z); (try have Y0 : w.heap.size < w'.heap.size := (by omega)); (try have Y1 : w.heap.size + 1 < w'.heap.size := (by omega)); (try have Y2 : w.heap.size + 1 + 1 < w'.heap.size := (by omega)); (try have X0 : w.heap.size < w'.heap.size + 1 := (by omega)); (try have X1 : w.heap.size + 1 < w'.heap.size + 1 := (by omega)); (try have X2 : w.heap.size + 1 + 1 < w'.heap.size + 1 := (by omega)))))
    all_goals
      go_ret
      exact ⟨_, rfl, ⟨_, rfl, (by first | omega | exact Nat.zero_le _ | exact Nat.le_trans (ext_le _ _ _) hd)⟩, by exact RdUp.fin hU (by intro c hU; (repeat (first | with_reducible assumption | refine RdUp.ups ?_ (by with_reducible assumption) | with_reducible refine RdUp.set ?_ (by first | exact Nat.le_refl _ | (simp only []; omega) | (simp; omega)) _ | with_reducible refine RdUp.alloc ?_ _ | with_reducible refine RdUp.drew ?_ | with_reducible exact RdUp.of (Up.refl _)))) (by omega)⟩

theorem Rdr.least {rb : Nat} {B : Value} {w : World} {N : Nat} (h : Rdr rb B w N) : ∃ p, p ≤ N ∧ Rdr rb B w p ∧ Hid (∀ N', Rdr rb B w N' → p ≤ N') := by
  obtain ⟨⟨p, h1, h2⟩, h3⟩ := h
  refine ⟨p, h1, ⟨⟨p, Nat.le_refl _, h2⟩, h3⟩, fun N' h' => ?_⟩
  obtain ⟨⟨q, g1, g2⟩, _⟩ := h'
  rw [h2] at g2
  simp at g2
  omega
theorem RdUp.made {rb : Nat} {B : Value} {w w' : World} {p C M : Nat} (hm : Hid (∀ N', Rdr rb B w N' → p ≤ N')) (hg : w.grownBy w' (some rb)) (hr : Rdr rb B w' M) (hM : M ≤ p + C) : RdUp rb B C w w' :=
  ⟨hg, fun N' h' => hr.mono (by have := hm N' h'; omega)⟩
def isSetStr (n : Nat) (v : Value) : Prop := ∃ (s : SetD) (d : ByteArray), v = .tuple #[setV s, .string d] ∧ setOk s = true ∧ d.size ≤ n

set_option maxRecDepth 100000 in
set_option maxHeartbeats 4000000 in
theorem l5Setup_any (rb : Nat) (B : Value) (w : World) (N : Nat) (h : Rdr rb B w N) (hN : N ≤ 800000000) :
    Calls Tryd.prog 37  #[.pointer (some ⟨rb, 0, none⟩)] w (Drawn rb B 25000 (isSetStr 1000) w) := by
  obtain ⟨p, hp, h, HM⟩ := h.least
  have hlt := h.lt
  have HR := Lib.hid h
  have hne0 : ¬ w.heap.size = rb := by omega
  have hU := RdUp.refl rb B 0 w
  have e1 : w.heap.size < w.heap.size + 1 := by omega
  have cS := fun w N h hN => l1Some_any rb B w N h hN
  go_enter Tryd.func37, Tryd.ntmps37
  go_wp2_with ((go_at_call 48; ((with_reducible refine (draw_at (cS) HR.out hU (by intro c hU; (repeat (first | with_reducible assumption | refine RdUp.ups ?_ (by with_reducible assumption) | with_reducible refine RdUp.set ?_ (by first | exact Nat.le_refl _ | (simp only []; omega) | (simp; omega)) _ | with_reducible refine RdUp.alloc ?_ _ | with_reducible refine RdUp.drew ?_ | with_reducible exact RdUp.of (Up.refl _)))) (by omega)).mono ?_); rintro e w' ⟨v, rfl, ⟨s, rfl, hs⟩, hU, U⟩; have D := gcell U.1; have Z := U.1.size; (try simp at Z); (try have Y0 : w.heap.size < w'.heap.size := (by omega)); (try have Y1 : w.heap.size + 1 < w'.heap.size := (by omega)); (try have Y2 : w.heap.size + 1 + 1 < w'.heap.size := (by omega)); (try have X0 : w.heap.size < w'.heap.size + 1 := (by omega)); (try have X1 : w.heap.size + 1 < w'.heap.size + 1 := (by omega)); (try have X2 : w.heap.size + 1 + 1 < w'.heap.size + 1 := (by omega)))))
  have hSB : SetAt w'.heap.size s.ord s.lit s.most (w'.alloc (.cells #[.int .i64 s.ord, .int .i64 s.lit, .int .i64 s.most] 63)) := (MapKept.heap_alloc w' _).1
  have hRB : SetAt w.heap.size 0 0 0 (w'.alloc (.cells #[.int .i64 s.ord, .int .i64 s.lit, .int .i64 s.most] 63)) := box_up ((Up.refl _).alloc _) (gbox U.1 (MapKept.heap_alloc w _).1 (by simp; omega))
  have hU2 : RdUp rb B 5 w (w'.alloc (.cells #[.int .i64 s.ord, .int .i64 s.lit, .int .i64 s.most] 63)) := by exact RdUp.fin hU (by intro c hU; (repeat (first | with_reducible assumption | refine RdUp.ups ?_ (by with_reducible assumption) | with_reducible refine RdUp.set ?_ (by first | exact Nat.le_refl _ | (simp only []; omega) | (simp; omega)) _ | with_reducible refine RdUp.alloc ?_ _ | with_reducible refine RdUp.drew ?_ | with_reducible exact RdUp.of (Up.refl _)))) (by omega)
  generalize (w'.alloc (.cells #[.int .i64 s.ord, .int .i64 s.lit, .int .i64 s.most] 63)) = W at *
  have hr2 := hU2.2 _ h
  have HS := Lib.hid hs
  obtain ⟨hb, s0, s1, s2⟩ := hSB.cells
  obtain ⟨hb0, q0, q1, q2⟩ := hRB.cells
  have hfr := box_free hRB
  have hne1 : ¬ w'.heap.size = rb := by omega
  clear hs U D
  refine wp_region_rd 7 rb B 3100 (p + 5) (by kernel_rfl) (by kernel_rfl) hr2 ?_
  simp only [List.take, List.drop]
  repeat (refine wpR_step (fun K hK => ?_); go_simp; (try simp only [↓IntWalk.iteOmega]); first
    | (refine hK _ _ ?_; clear hK K)
    | (refine stepR_c ?_ ?_ ?_
       rotate_left
       · intro wq hwq hrq; (have hbq := gcell hwq; (repeat (first | refine fills_no (by rfl) ?_ | (refine fills_yes (by rfl) (fun vq hvq => ?_)))); simp only [List.filter_nil, fills]; unfold upAt; (try ((obtain ⟨d, rfl, hd⟩ := hvq))); go_simp; (try go_bits); (try simp only [↓IntWalk.iteOmega]); (try (rw [dif_pos (by omega)]; go_simp; try go_bits)); first | exact upOut_value)
       go_simp; refine hK _ _ ?_; clear hK K)
    | (refine stepR_d (by rfl) (by kernel_rfl) (fun v _ => IsStr 12 v) (fun _ _ _ h _ => h) (fun wq hwq hrq => ?_) ?_
       · (have hbq := gcell hwq; (repeat (first | refine fills_no (by rfl) ?_ | (refine fills_yes (by rfl) (fun vq hvq => ?_)))); simp only [List.filter_nil, fills]; unfold gAt; (try ((obtain ⟨d, rfl, hd⟩ := hvq))); go_simp; (try go_bits); (try simp only [↓IntWalk.iteOmega]); (try (rw [dif_pos (by omega)]; go_simp; try go_bits)); (with_reducible refine gOut_drawn ((l1Data_as 12 12 rfl rb B s wq _ hrq (by omega) (by omega) HS.out)) ?_); decide)
       refine hK _ _ ?_; clear hK K)
    | (refine stepR_d (by rfl) (by kernel_rfl) (fun v _ => IsStr 1000 v) (fun _ _ _ h _ => h) (fun wq hwq hrq => ?_) ?_
       · (have hbq := gcell hwq; (repeat (first | refine fills_no (by rfl) ?_ | (refine fills_yes (by rfl) (fun vq hvq => ?_)))); simp only [List.filter_nil, fills]; unfold gAt; (try ((obtain ⟨d, rfl, hd⟩ := hvq))); go_simp; (try go_bits); (try simp only [↓IntWalk.iteOmega]); (try (rw [dif_pos (by omega)]; go_simp; try go_bits)); (with_reducible refine gOut_drawn ((l4Dict_any rb B s d wq _ hrq (by omega) (by omega) HS.out)) ?_); decide)
       refine hK _ _ ?_; clear hK K))
  refine wpR_nil (fun wq hwq hrq => ?_)
  simp only [fills]
  rintro v ⟨d, rfl, hd⟩ - -
  have D := gcell hwq
  have hU := RdUp.made (C := 25000) HM (grownBy_trans hU2.1 hwq) hrq (by omega)
  go_wp2
  rw [onlyN_normal]
  go_wp2
  refine bodyPost_ret (v := _) (by simp [results, Tryd.results37, go_sem, D, q0, q1, q2, hb0, hne0]; rfl) rfl ?_
  refine ⟨_, rfl, ⟨_, _, rfl, HS.out, hd⟩, ?_⟩
  exact RdUp.fin hU (by intro c hU; (repeat (first | with_reducible assumption | refine RdUp.ups ?_ (by with_reducible assumption) | with_reducible refine RdUp.set ?_ (by first | exact Nat.le_refl _ | (simp only []; omega) | (simp; omega)) _ | with_reducible refine RdUp.alloc ?_ _ | with_reducible refine RdUp.drew ?_ | with_reducible exact RdUp.of (Up.refl _)))) (by omega)

set_option maxRecDepth 100000 in
set_option maxHeartbeats 4000000 in
theorem l5Wild_any (rb : Nat) (B : Value) (s : SetD) (n : Nat) (m : Int) (hm : m = n) (w : World) (N : Nat) (h : Rdr rb B w N) (hN : N ≤ 800000000) (hn : n ≤ 900) (hs : setOk s = true) :
    Calls Tryd.prog 38  #[.pointer (some ⟨rb, 0, none⟩), setV s, .int .i64 m] w (Drawn rb B 4020 (IsStr (n + 6)) w) := by
  have hlt := h.lt
  have HR := Lib.hid h
  have hne0 : ¬ w.heap.size = rb := by omega
  have hU := RdUp.refl rb B 0 w
  have e1 : w.heap.size < w.heap.size + 1 := by omega
  have cD := fun w N h hN => l1Data_as m n hm rb B s w N h hN (by omega) hs
  have cB := fun w N h hN => l1Bytes_as 6 6 rfl rb B w N h hN (by omega)
  simp only [setV] at *
  clear hs hm
  go_enter Tryd.func38, Tryd.ntmps38
  go_wp2_with (first | (go_at_call 23; ((with_reducible refine (pick_at (n := 5) HR.out hU (by intro c hU; (repeat (first | with_reducible assumption | refine RdUp.ups ?_ (by with_reducible assumption) | with_reducible refine RdUp.set ?_ (by first | exact Nat.le_refl _ | (simp only []; omega) | (simp; omega)) _ | with_reducible refine RdUp.alloc ?_ _ | with_reducible refine RdUp.drew ?_ | with_reducible exact RdUp.of (Up.refl _)))) (by omega)).mono ?_); rintro e w' ⟨x, rfl, x0, x1, hU, U⟩; have D := gcell U.1; have Z := U.1.size; (try simp at Z); (try have Y0 : w.heap.size < w'.heap.size := (by omega)); (try have Y1 : w.heap.size + 1 < w'.heap.size := (by omega)); (try have Y2 : w.heap.size + 1 + 1 < w'.heap.size := (by omega)); (try have X0 : w.heap.size < w'.heap.size + 1 := (by omega)); (try have X1 : w.heap.size + 1 < w'.heap.size + 1 := (by omega)); (try have X2 : w.heap.size + 1 + 1 < w'.heap.size + 1 := (by omega)); (skip))) | (go_at_call 50; ((with_reducible refine (draw_at (cD) HR.out hU (by intro c hU; (repeat (first | with_reducible assumption | refine RdUp.ups ?_ (by with_reducible assumption) | with_reducible refine RdUp.set ?_ (by first | exact Nat.le_refl _ | (simp only []; omega) | (simp; omega)) _ | with_reducible refine RdUp.alloc ?_ _ | with_reducible refine RdUp.drew ?_ | with_reducible exact RdUp.of (Up.refl _)))) (by omega)).mono ?_); rintro e w' ⟨v, rfl, ⟨st, rfl, hst⟩, hU, U⟩; have D := gcell U.1; have Z := U.1.size; (try simp at Z); (try have Y0 : w.heap.size < w'.heap.size := (by omega)); (try have Y1 : w.heap.size + 1 < w'.heap.size := (by omega)); (try have Y2 : w.heap.size + 1 + 1 < w'.heap.size := (by omega)); (try have X0 : w.heap.size < w'.heap.size + 1 := (by omega)); (try have X1 : w.heap.size + 1 < w'.heap.size + 1 := (by omega)); (try have X2 : w.heap.size + 1 + 1 < w'.heap.size + 1 := (by omega)))) | (go_at_call 51; ((with_reducible refine (draw_at (cB) HR.out hU (by intro c hU; (repeat (first | with_reducible assumption | refine RdUp.ups ?_ (by with_reducible assumption) | with_reducible refine RdUp.set ?_ (by first | exact Nat.le_refl _ | (simp only []; omega) | (simp; omega)) _ | with_reducible refine RdUp.alloc ?_ _ | with_reducible refine RdUp.drew ?_ | with_reducible exact RdUp.of (Up.refl _)))) (by omega)).mono ?_); rintro e w' ⟨v, rfl, ⟨sb, rfl, hsb⟩, hU, U⟩; have D := gcell U.1; have Z := U.1.size; (try simp at Z); (try have Y0 : w.heap.size < w'.heap.size := (by omega)); (try have Y1 : w.heap.size + 1 < w'.heap.size := (by omega)); (try have Y2 : w.heap.size + 1 + 1 < w'.heap.size := (by omega)); (try have X0 : w.heap.size < w'.heap.size + 1 := (by omega)); (try have X1 : w.heap.size + 1 < w'.heap.size + 1 := (by omega)); (try have X2 : w.heap.size + 1 + 1 < w'.heap.size + 1 := (by omega)))))
  all_goals
    go_ret
    exact ⟨_, rfl, ⟨_, rfl, (by (try rw [ByteArray.size_append]); omega)⟩, by exact RdUp.fin hU (by intro c hU; (repeat (first | with_reducible assumption | refine RdUp.ups ?_ (by with_reducible assumption) | with_reducible refine RdUp.set ?_ (by first | exact Nat.le_refl _ | (simp only []; omega) | (simp; omega)) _ | with_reducible refine RdUp.alloc ?_ _ | with_reducible refine RdUp.drew ?_ | with_reducible exact RdUp.of (Up.refl _)))) (by omega)⟩

def isCont (v : Value) : Prop := ∃ (s : SetD) (d st : ByteArray), v = .tuple #[setV s, .string d, .string st] ∧ setOk s = true ∧ d.size ≤ 1000 ∧ st.size ≤ 5000
theorem makeN_len (s : SetD) (dict : List UInt8) (size : Nat) (h1 : 1 ≤ size) (h2 : size ≤ 64) : ∀ (n : Nat) (f : Int) (d : List UInt8), (makeN s dict size n f d).length ≤ 74 * d.length
  | 0, f, d => by simp [makeN]
  | n + 1, f, d => by
    by_cases hd : d = []
    · subst hd; rw [makeN_nil]; simp
    · rw [makeN_step hd, List.length_append]
      have h3 := makeN_len s dict size h1 h2 n (f + 1) (d.drop size)
      have h4 := blockD_bd s dict f (bs (d.take size))
      have hz := bs_size (d.take size)
      rw [List.length_take] at hz
      have h5 := textD_len (blockD s dict f (bs (d.take size))) (by omega)
      have h6 := List.length_pos_iff.2 hd
      rw [List.length_drop] at h3
      omega

end Go.Proofs.YtmjpopfacagjhaaDoor
