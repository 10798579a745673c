/- Walks of the reference's draws of containers and blocks. Conditions: the reader is one (Rdr), its place is bounded. -/
import Derived.Test.YtmjpopfacagjhaaDoorDraw4
namespace Go.Proofs.YtmjpopfacagjhaaDoor
set_option linter.unusedVariables false
set_option linter.unusedSimpArgs false
open Go Go.RowKit

theorem upOut_D {P : Program} (D : Value → World → Prop) {w : World} {r : Result Next} (h : upOut P D w r) : upOut P D w r := h
def IsSB (n : Nat) (v : Value) : Prop := ∃ (st : ByteArray) (b : Bool), v = .tuple #[.string st, .bool b] ∧ st.size ≤ n
def IsBool (v : Value) : Prop := ∃ b : Bool, v = .bool b
theorem upOut_same {f : FuncId} {args : Array Value} {w : World} {v : Value} {D : Value → Prop} (h : Calls Tryd.prog f args w (Same v w)) (hd : D v) : upOut Tryd.prog (fun v _ => D v) w (.ok (.enter f args) w) :=
  ⟨rfl, h.mono fun _ _ ⟨he, hu⟩ => ⟨v, he, hu, hd⟩⟩
def IsU (n : Int) (v : Value) : Prop := ∃ i : Int, v = .int .u64 i ∧ 0 ≤ i ∧ i ≤ n
def IsByte (v : Value) : Prop := ∃ i : Int, v = .int .u8 i ∧ 0 ≤ i ∧ i ≤ 255
theorem isByte_any {x : Int} : IsByte (.int .u8 (IntKind.u8.wrap x)) := ⟨_, rfl, by rw [IntKind.wrap_u8]; omega, by rw [IntKind.wrap_u8]; omega⟩
/-- A list of one byte, in another block than rb. -/
def LitR (rb : Nat) (v : Value) (w : World) : Prop := ∃ (b : Nat) (x : Int), v = .slice (some ⟨b, 0, none⟩) 1 1 ∧ b < w.heap.size ∧ b ≠ rb ∧ w.cell? ⟨b, 0, none⟩ = some (.int .u8 x)
theorem litR_closed {rb : Nat} : ∀ (v : Value) (w w' : World), LitR rb v w → w.grownBy w' (some rb) → LitR rb v w' := fun v w w' ⟨b, x, h1, h2, h3, h4⟩ hg =>
  ⟨b, x, h1, Nat.lt_of_lt_of_le h2 hg.size, h3, ((gcell hg).1 b 0 h2 (fun e => h3 (Option.some.inj e))).trans h4⟩
theorem litR_new {rb : Nat} {w : World} {x : Int} (hlt : rb < w.heap.size) (h0 : 0 ≤ x) (h1 : x ≤ 255) : LitR rb (.slice (some ⟨w.heap.size, 0, none⟩) 1 1) (w.alloc (.cells #[.int .u8 x] 5)) :=
  ⟨w.heap.size, x, rfl, by simp, by omega, by rw [box_cell (MapKept.heap_alloc w _).1]; rfl⟩
/-- What a list of one byte becomes. -/
def LitS (v : Value) (w : World) (x : Int) : Prop := (convert 29 9 v).run Tryd.prog w = .ok (.string (strOfNums [x])) w
theorem litR_open {rb : Nat} {v : Value} {w : World} (h : LitR rb v w) : ∃ x, LitS v w x := by
  obtain ⟨b, x, rfl, -, -, h4⟩ := h
  exact ⟨x, conv_one w b x h4⟩
theorem litR_conv {v : Value} {w : World} {x : Int} (h : LitS v w x) : (convert 29 9 v).run Tryd.prog w = .ok (.string (strOfNums [x])) w := h
theorem mkO_size (s : SetD) (dict d : List UInt8) (size : Int) (h : d.length ≤ 66) : IsSB 5000 (optS (mkO s dict d size)) := by
  refine ⟨_, _, rfl, ?_⟩
  rw [bs_size]
  unfold mkO
  split
  · next hk =>
    unfold mkOk at hk
    simp only [Bool.and_eq_true, inB_iff, decide_eq_true_eq] at hk
    have := makeN_len s dict size.toNat (by omega) (by omega) d.length 0 d
    simp only [Option.getD_some]
    omega
  · simp

theorem draw_atM {rb : Nat} {B : Value} {c d N M : Nat} {w0 w1 w : World} {D : Value → Prop} {f : FuncId} {args : Array Value} (hf : ∀ w N, Rdr rb B w N → N ≤ M → Calls Tryd.prog f args w (Drawn rb B d D w)) (h : Rdr rb B w0 N) (hU1 : RdUp rb B c w0 w1) (hx : ∀ c, RdUp rb B c w0 w1 → RdUp rb B c w0 w) (hN : N + c ≤ M) :
    Calls Tryd.prog f args w (fun e w' => ∃ v, e = .returned v ∧ D v ∧ RdUp rb B (c + d) w0 w' ∧ RdUp rb B d w w') :=
  (hf w (N + c) ((hx c hU1).2 N h) hN).mono fun e w' ⟨v, he, h1, hu⟩ => ⟨v, he, h1, (hx c hU1).trans hu, hu⟩

set_option maxRecDepth 100000 in
set_option maxHeartbeats 4000000 in
theorem l5Some_any (rb : Nat) (B : Value) (w : World) (N : Nat) (h : Rdr rb B w N) (hN : N ≤ 700000000) :
    Calls Tryd.prog 32  #[.pointer (some ⟨rb, 0, none⟩)] w (Drawn rb B 40000 isCont w) := by
  obtain ⟨p, hp, h, HM⟩ := h.least
  have hlt := h.lt
  have HR := Lib.hid h
  have hne0 : ¬ w.heap.size = rb := by omega
  have hU := RdUp.refl rb B 0 w
  have e1 : w.heap.size < w.heap.size + 1 := by omega
  have cS := fun w N h hN => l5Setup_any rb B w N h hN
  go_enter Tryd.func32, Tryd.ntmps32
  go_wp2_with ((go_at_call 37; ((with_reducible refine (draw_atM (cS) HR.out hU (by intro c hU; (repeat (first | with_reducible assumption | refine RdUp.ups ?_ (by with_reducible assumption) | with_reducible refine RdUp.set ?_ (by first | exact Nat.le_refl _ | (simp only []; omega) | (simp; omega)) _ | with_reducible refine RdUp.alloc ?_ _ | with_reducible refine RdUp.drew ?_ | with_reducible exact RdUp.of (Up.refl _)))) (by omega)).mono ?_); rintro e w' ⟨v, rfl, ⟨s, dict, rfl, hs, hdi⟩, hU, U⟩; have D := gcell U.1; have Z := U.1.size; (try simp at Z); (try have Y0 : w.heap.size < w'.heap.size := (by omega)); (try have Y1 : w.heap.size + 1 < w'.heap.size := (by omega)); (try have Y2 : w.heap.size + 1 + 1 < w'.heap.size := (by omega)); (try have X0 : w.heap.size < w'.heap.size + 1 := (by omega)); (try have X1 : w.heap.size + 1 < w'.heap.size + 1 := (by omega)); (try have X2 : w.heap.size + 1 + 1 < w'.heap.size + 1 := (by omega)))))
  have cW := fun w N h hN => l5Wild_any rb B s 60 60 rfl w N h hN (by omega) hs
  simp only [setV] at *
  have HS := Lib.hid hs
  clear hs
  have hSB : SetAt w'.heap.size s.ord s.lit s.most (w'.alloc (.cells #[.int .i64 s.ord, .int .i64 s.lit, .int .i64 s.most] 63)) := (MapKept.heap_alloc w' _).1
  have hRB : SetAt w.heap.size 0 0 0 (w'.alloc (.cells #[.int .i64 s.ord, .int .i64 s.lit, .int .i64 s.most] 63)) := box_up ((Up.refl _).alloc _) (gbox U.1 (MapKept.heap_alloc w _).1 (by simp; omega))
  have hU : RdUp rb B 25000 w (w'.alloc (.cells #[.int .i64 s.ord, .int .i64 s.lit, .int .i64 s.most] 63)) := by exact RdUp.fin hU (by intro c hU; (repeat (first | with_reducible assumption | refine RdUp.ups ?_ (by with_reducible assumption) | with_reducible refine RdUp.set ?_ (by first | exact Nat.le_refl _ | (simp only []; omega) | (simp; omega)) _ | with_reducible refine RdUp.alloc ?_ _ | with_reducible refine RdUp.drew ?_ | with_reducible exact RdUp.of (Up.refl _)))) (by omega)
  have hne1 : ¬ w'.heap.size = rb := by omega
  generalize (w'.alloc (.cells #[.int .i64 s.ord, .int .i64 s.lit, .int .i64 s.most] 63)) = W at *
  generalize w'.heap.size = b5 at *
  obtain ⟨hb5, s0, s1, s2⟩ := hSB.cells
  clear D U Y0 X0 Z
  go_wp2_with ((go_at_call 38; ((with_reducible refine (draw_atM (cW) HR.out hU (by intro c hU; (repeat (first | with_reducible assumption | refine RdUp.ups ?_ (by with_reducible assumption) | with_reducible refine RdUp.set ?_ (by first | exact Nat.le_refl _ | (simp only []; omega) | (simp; omega)) _ | with_reducible refine RdUp.alloc ?_ _ | with_reducible refine RdUp.drew ?_ | with_reducible exact RdUp.of (Up.refl _)))) (by omega)).mono ?_); rintro e w' ⟨v, rfl, ⟨d, rfl, hd⟩, hU, U⟩; have D := gcell U.1; have Z := U.1.size; (try simp at Z); (try have Y0 : w.heap.size < w'.heap.size := (by omega)); (try have Y1 : w.heap.size + 1 < w'.heap.size := (by omega)); (try have Y2 : w.heap.size + 1 + 1 < w'.heap.size := (by omega)); (try have X0 : w.heap.size < w'.heap.size + 1 := (by omega)); (try have X1 : w.heap.size + 1 < w'.heap.size + 1 := (by omega)); (try have X2 : w.heap.size + 1 + 1 < w'.heap.size + 1 := (by omega)))))
  have hSB := gbox U.1 hSB (by simp; omega)
  have hRB := gbox U.1 hRB (by simp; omega)
  clear s0 s1 s2 D hb5
  obtain ⟨hb5, s0, s1, s2⟩ := SetAt.cells hSB
  obtain ⟨hb0, q0, q1, q2⟩ := SetAt.cells hRB
  have hfr := box_free hRB
  have hdl := ba_len d
  have hr2 := hU.2 _ h
  have cM := fun i w => makeCS_any s dict d i w (by omega) (by omega)
  have hmk := fun i => mkO_size s dict.data.toList d.data.toList i (by omega)
  simp only [setV] at cM
  refine wp_region_rd 10 rb B 1 (p + (25000 + 4020)) (by kernel_rfl) (by kernel_rfl) hr2 ?_
  simp only [List.take, List.drop]
  repeat (refine wpR_step (fun K hK => ?_); go_simp; (try simp only [↓IntWalk.iteOmega]); first
    | (refine hK _ _ ?_; clear hK K)
    | (refine stepR_c ?_ ?_ ?_
       rotate_left
       · intro wq hwq hrq; (have hbq := gcell hwq; (repeat (first | refine fills_no (by rfl) ?_ | (refine fills_yes (by rfl) (fun vq hvq => ?_); (try ((first | (obtain ⟨i, rfl, hi0, hi1⟩ := hvq) | (obtain ⟨st, bb, rfl, hst⟩ := hvq))))))); simp only [List.filter_nil, fills]; unfold upAt; (try (skip)); go_simp; (try go_bits); (try simp only [↓IntWalk.iteOmega]); (try (rw [dif_pos (by omega)]; go_simp; try go_bits)); first | exact upOut_value)
       go_simp; refine hK _ _ ?_; clear hK K)
    | (refine stepR_m (by kernel_rfl) ?_ ?_ (fun wq hwq hrq => ?_) ?_
       rotate_left 2
       · (have hbq := gcell hwq; (repeat (first | refine fills_no (by rfl) ?_ | (refine fills_yes (by rfl) (fun vq hvq => ?_); (try ((first | (obtain ⟨i, rfl, hi0, hi1⟩ := hvq) | (obtain ⟨st, bb, rfl, hst⟩ := hvq))))))); simp only [List.filter_nil, fills]; unfold upAt; (try (skip)); go_simp; (try go_bits); (try simp only [↓IntWalk.iteOmega]); (try (rw [dif_pos (by omega)]; go_simp; try go_bits)); first | ((with_reducible refine upOut_D (fun v _ => IsInt 2 26 v) ?_); (((with_reducible refine upOut_make (Up.refl _) ?_); exact ⟨_, rfl, by omega, by omega⟩))) | ((with_reducible refine upOut_D (fun v _ => IsSB 5000 v) ?_); ((first | ((with_reducible refine upOut_same (cM _ _) ?_); exact hmk _) | ((with_reducible refine upOut_make (Up.refl _) ?_); exact ⟨_, _, rfl, hst⟩)))) | ((with_reducible refine upOut_D (fun v _ => IsStr 5000 v) ?_); (((with_reducible refine upOut_make (Up.refl _) ?_); exact ⟨_, rfl, hst⟩))) | ((with_reducible refine upOut_D (fun v _ => IsBool v) ?_); (((with_reducible refine upOut_make (Up.refl _) ?_); exact ⟨_, rfl⟩))))
       rotate_left
       · (first | exact (fun _ _ _ h _ => h))
       refine hK _ _ ?_; clear hK K)
    | (refine stepR_d (by rfl) (by kernel_rfl) (fun v _ => pickB 24 v) (fun _ _ _ h _ => h) (fun wq hwq hrq => ?_) ?_
       · (have hbq := gcell hwq; (repeat (first | refine fills_no (by rfl) ?_ | (refine fills_yes (by rfl) (fun vq hvq => ?_); (try ((first | (obtain ⟨i, rfl, hi0, hi1⟩ := hvq) | (obtain ⟨st, bb, rfl, hst⟩ := hvq))))))); simp only [List.filter_nil, fills]; unfold gAt; (try (skip)); go_simp; (try go_bits); (try simp only [↓IntWalk.iteOmega]); (try (rw [dif_pos (by omega)]; go_simp; try go_bits)); (with_reducible refine gOut_drawn ((pick_any rb B 24 wq _ hrq (by omega))) ?_); decide)
       refine hK _ _ ?_; clear hK K))
  refine wpR_nil (fun wq hwq hrq => ?_)
  simp only [fills]
  rintro v9 ⟨bb, rfl⟩ v8 ⟨st, rfl, hst⟩ - - - - - - - -
  have D := gcell hwq
  have hU := RdUp.made (C := 40000) HM (grownBy_trans hU.1 hwq) hrq (by omega)
  clear hwq
  go_wp2
  rw [onlyN_normal]
  go_wp2
  refine bodyPost_ret (v := _) (by simp [results, Tryd.results32, go_sem, D, q0, q1, q2, hb0, hne0]; rfl) rfl ?_
  refine ⟨_, rfl, ⟨_, _, _, rfl, HS.out, hdi, hst⟩, ?_⟩
  exact RdUp.fin hU (by intro c hU; (repeat (first | with_reducible assumption | refine RdUp.ups ?_ (by with_reducible assumption) | with_reducible refine RdUp.set ?_ (by first | exact Nat.le_refl _ | (simp only []; omega) | (simp; omega)) _ | with_reducible refine RdUp.alloc ?_ _ | with_reducible refine RdUp.drew ?_ | with_reducible exact RdUp.of (Up.refl _)))) (by omega)

end Go.Proofs.YtmjpopfacagjhaaDoor
