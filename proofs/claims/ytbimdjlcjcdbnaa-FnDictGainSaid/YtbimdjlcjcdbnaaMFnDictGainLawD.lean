/- Texts joined into one: the walks and laws that the last text leans on. Conditions: as each says. -/
import Derived.Test.YtbimdjlcjcdbnaaMFnDictGainLawA
import Derived.Test.YtbimdjlcjcdbnaaMarks
import Derived.Test.YtbimdjlcjcdbnaaBa

/- Walks of the reference's draws of data that may not fit, of settings that may not be valid, of dictionaries. Conditions: the reader is one (Rdr), its place is bounded. -/
namespace Go.Proofs.Ytbimdjlcjcdbnaa
set_option linter.unusedVariables false
set_option linter.unusedSimpArgs false
open Go Go.RowKit

def isSetB (v : Value) : Prop := ∃ s : SetD, v = setV s ∧ (-9223372036854775808 ≤ s.lit ∧ s.lit ≤ 9223372036854775807)
theorem isSetB_mk (a b c : Int) (h : -9223372036854775808 ≤ b ∧ b ≤ 9223372036854775807) : isSetB (.agg #[.int .i64 a, .int .i64 b, .int .i64 c]) := ⟨⟨a, b, c⟩, rfl, h⟩

set_option maxRecDepth 100000 in
set_option maxHeartbeats 4000000 in
theorem l1BadB_any (rb : Nat) (B : Value) (s : SetD) (w : World) (N : Nat) (h : Rdr rb B w N) (hN : N ≤ 1000000000) (hs : setOk s = true) :
    Calls Try.prog 89  #[.pointer (some ⟨rb, 0, none⟩), setV s] w (Drawn rb B 2 isSetB w) := by
  have hlt := h.lt
  have HR := Lib.hid h
  have hne0 : ¬ w.heap.size = rb := by omega
  have hne1 : ¬ w.heap.size + 1 = rb := by omega
  have hU := RdUp.refl rb B 0 w
  have e1 : w.heap.size < w.heap.size + 1 := by omega
  have e2 : w.heap.size < w.heap.size + 1 + 1 := by omega
  have e3 : w.heap.size + 1 < w.heap.size + 1 + 1 := by omega
  have hlb := (setOk_bd hs).2.1
  obtain ⟨hlb1, hlb2⟩ := hlb
  clear hs
  simp only [setV]
  go_enter Try.func89, Try.ntmps89
  go_wp2_with (first | (go_at_call 97; ((with_reducible refine (num_at ([-1, 2]) HR.out hU (by intro c hU; (repeat (first | with_reducible assumption | refine RdUp.ups ?_ (by with_reducible assumption) | with_reducible refine RdUp.set ?_ (by first | exact Nat.le_refl _ | (simp only []; omega) | (simp; omega)) _ | with_reducible refine RdUp.alloc ?_ _ | with_reducible refine RdUp.drew ?_ | with_reducible exact RdUp.of (Up.refl _)))) (by omega) (by first | rfl | (simp; done) | fail) (by first | rfl | (simp; done) | fail) (by first | rfl | (simp; done) | fail) (by simp) (by simp) (by first | rfl | (simp; done) | fail)).mono ?_); rintro e w' ⟨i, rfl, hi, hU, U⟩; have D := gcell U.1; have Z := U.1.size; (try simp at Z); (try have Y0 : w.heap.size < w'.heap.size := (by omega)); (try have Y1 : w.heap.size + 1 < w'.heap.size := (by omega)); (try have Y2 : w.heap.size + 1 + 1 < w'.heap.size := (by omega)); (try have X0 : w.heap.size < w'.heap.size + 1 := (by omega)); (try have X1 : w.heap.size + 1 < w'.heap.size + 1 := (by omega)); (try have X2 : w.heap.size + 1 + 1 < w'.heap.size + 1 := (by omega)); (clear hi))) | (go_at_call 97; ((with_reducible refine (num_at ([0, 9, -1, 9223372036854775807]) HR.out hU (by intro c hU; (repeat (first | with_reducible assumption | refine RdUp.ups ?_ (by with_reducible assumption) | with_reducible refine RdUp.set ?_ (by first | exact Nat.le_refl _ | (simp only []; omega) | (simp; omega)) _ | with_reducible refine RdUp.alloc ?_ _ | with_reducible refine RdUp.drew ?_ | with_reducible exact RdUp.of (Up.refl _)))) (by omega) (by first | rfl | (simp; done) | fail) (by first | rfl | (simp; done) | fail) (by first | rfl | (simp; done) | fail) (by simp) (by simp) (by first | rfl | (simp; done) | fail)).mono ?_); rintro e w' ⟨i, rfl, hi, hU, U⟩; have D := gcell U.1; have Z := U.1.size; (try simp at Z); (try have Y0 : w.heap.size < w'.heap.size := (by omega)); (try have Y1 : w.heap.size + 1 < w'.heap.size := (by omega)); (try have Y2 : w.heap.size + 1 + 1 < w'.heap.size := (by omega)); (try have X0 : w.heap.size < w'.heap.size + 1 := (by omega)); (try have X1 : w.heap.size + 1 < w'.heap.size + 1 := (by omega)); (try have X2 : w.heap.size + 1 + 1 < w'.heap.size + 1 := (by omega)); ((have hlx : -9223372036854775808 ≤ i ∧ i ≤ 9223372036854775807 := (by simp at hi; omega)); clear hi))) | (go_at_call 97; ((with_reducible refine (num_at ([s.lit + 1, 11, -1, -9223372036854775808]) HR.out hU (by intro c hU; (repeat (first | with_reducible assumption | refine RdUp.ups ?_ (by with_reducible assumption) | with_reducible refine RdUp.set ?_ (by first | exact Nat.le_refl _ | (simp only []; omega) | (simp; omega)) _ | with_reducible refine RdUp.alloc ?_ _ | with_reducible refine RdUp.drew ?_ | with_reducible exact RdUp.of (Up.refl _)))) (by omega) (by first | rfl | (simp; done) | fail) (by first | rfl | (simp; done) | fail) (by first | rfl | (simp; done) | fail) (by simp) (by simp) (by first | rfl | (simp; done) | fail)).mono ?_); rintro e w' ⟨i, rfl, hi, hU, U⟩; have D := gcell U.1; have Z := U.1.size; (try simp at Z); (try have Y0 : w.heap.size < w'.heap.size := (by omega)); (try have Y1 : w.heap.size + 1 < w'.heap.size := (by omega)); (try have Y2 : w.heap.size + 1 + 1 < w'.heap.size := (by omega)); (try have X0 : w.heap.size < w'.heap.size + 1 := (by omega)); (try have X1 : w.heap.size + 1 < w'.heap.size + 1 := (by omega)); (try have X2 : w.heap.size + 1 + 1 < w'.heap.size + 1 := (by omega)); (clear hi))) | (go_at_call 59; ((with_reducible refine (pick_at HR.out hU (by intro c hU; (repeat (first | with_reducible assumption | refine RdUp.ups ?_ (by with_reducible assumption) | with_reducible refine RdUp.set ?_ (by first | exact Nat.le_refl _ | (simp only []; omega) | (simp; omega)) _ | with_reducible refine RdUp.alloc ?_ _ | with_reducible refine RdUp.drew ?_ | with_reducible exact RdUp.of (Up.refl _)))) (by omega)).mono ?_); rintro e w' ⟨i, rfl, hi0, hi1, hU, U⟩; have D := gcell U.1; have Z := U.1.size; (try simp at Z); (try have Y0 : w.heap.size < w'.heap.size := (by omega)); (try have Y1 : w.heap.size + 1 < w'.heap.size := (by omega)); (try have Y2 : w.heap.size + 1 + 1 < w'.heap.size := (by omega)); (try have X0 : w.heap.size < w'.heap.size + 1 := (by omega)); (try have X1 : w.heap.size + 1 < w'.heap.size + 1 := (by omega)); (try have X2 : w.heap.size + 1 + 1 < w'.heap.size + 1 := (by omega)))))
  all_goals
    have q0 : w'.cell? ⟨w.heap.size + 1, 0, none⟩ = some (.int .i64 0) := by simp [go_sem, *]
    have q1 : w'.cell? ⟨w.heap.size + 1, 1, none⟩ = some (.int .i64 0) := by simp [go_sem, *]
    have q2 : w'.cell? ⟨w.heap.size + 1, 2, none⟩ = some (.int .i64 0) := by simp [go_sem, *]
    refine bodyPost_ret (v := _) (by simp [results, Try.results89, go_sem, q0, q1, q2]; rfl) rfl ?_
    refine ⟨_, rfl, isSetB_mk _ _ _ (by first | omega | assumption), ?_⟩
    exact RdUp.fin hU (by intro c hU; (repeat (first | with_reducible assumption | refine RdUp.ups ?_ (by with_reducible assumption) | with_reducible refine RdUp.set ?_ (by first | exact Nat.le_refl _ | (simp only []; omega) | (simp; omega)) _ | with_reducible refine RdUp.alloc ?_ _ | with_reducible refine RdUp.drew ?_ | with_reducible exact RdUp.of (Up.refl _)))) (by omega)


theorem upOut_ex {f : FuncId} {args : Array Value} {w : World} {D : Value → Prop} (h : Calls Try.prog f args w (fun e w' => ∃ v, e = .returned v ∧ Up w w' ∧ D v)) : upOut Try.prog (fun v _ => D v) w (.ok (.enter f args) w) := ⟨rfl, h⟩
theorem RdInts.gr {rb : Nat} {w w' : World} {v : Value} {l : List Int} (h : RdInts rb w v l) (hg : w.grownBy w' (some rb)) : RdInts rb w' v l := by
  obtain ⟨b, off, cap, h1, h2, h3, h4, h5, h6⟩ := h
  exact ⟨b, off, cap, h1, h2, h3, Nat.lt_of_lt_of_le h4 hg.size, h5, fun i x hi => ((gcell hg).1 b _ h4 (fun e => h5 (Option.some.inj e))).trans (h6 i x hi)⟩
theorem rdInts_new {rb : Nat} {w : World} {T : TypeId} (l : List Int) {cs : Array Value} (hcs : cs = (l.map (Value.int .i64)).toArray) (hl : l.length ≤ 100) {n cap : Nat} (hn : n = l.length) (hc : cap = n) (hlt : rb < w.heap.size) : RdInts rb (w.alloc (.cells cs T)) (.slice (some ⟨w.heap.size, 0, none⟩) n cap) l := by
  subst hcs hc hn
  refine ⟨w.heap.size, 0, l.length, rfl, Nat.le_refl _, by unfold maxLen; omega, by simp, by omega, fun i x hi => ?_⟩
  rw [box_cell (MapKept.heap_alloc w _).1, Nat.zero_add]
  simp [hi]
theorem many_str (s : ByteArray) (i : Int) (M : Nat) (h0 : 0 ≤ i) (h1 : i ≤ M) (hM : M ≤ 2001) (hs : s.size ≤ 1) (w : World) : Calls Try.prog 98  #[.string s, .int .i64 i] w (fun e w' => ∃ v, e = .returned v ∧ Up w w' ∧ IsStr M v) := by
  obtain ⟨n, rfl⟩ := Int.eq_ofNat_of_zero_le h0
  have hn : n ≤ M := by omega
  have hb : n * s.size ≤ n := by
    have := Nat.mul_le_mul_left n hs
    omega
  refine (l9Many_any s n w (by omega) (by omega) (by omega)).mono fun e w' ⟨he, hw⟩ => ⟨_, he, hw ▸ Up.refl _, _, rfl, ?_⟩
  rw [bs_size, rep_length, ba_len]; omega

set_option maxRecDepth 100000 in
set_option maxHeartbeats 8000000 in
theorem l1Wild_any (rb : Nat) (B : Value) (d : ByteArray) (w : World) (N : Nat) (h : Rdr rb B w N) (hN : N ≤ 900000000) (hd : d.size ≤ 1000) :
    Calls Try.prog 61  #[.pointer (some ⟨rb, 0, none⟩), .string d] w (Drawn rb B 10 (IsStr 2001) w) := by
  obtain ⟨p, hp, h, HM⟩ := h.least
  have hlt := h.lt
  have HR := Lib.hid h
  have hU := RdUp.refl rb B 0 w
  have hcv := conv_new1
  have hz255 : (strOfNums [255]).size = 1 := strOfNums_size _
  go_enter Try.func61, Try.ntmps61
  go_wp2_with (first | (go_at_call 59; ((with_reducible refine (pick_at (n := 40) HR.out hU (by intro c hU; (repeat (first | with_reducible assumption | refine RdUp.ups ?_ (by with_reducible assumption) | with_reducible refine RdUp.set ?_ (by first | exact Nat.le_refl _ | (simp only []; omega) | (simp; omega)) _ | with_reducible refine RdUp.alloc ?_ _ | with_reducible refine RdUp.drew ?_ | with_reducible exact RdUp.of (Up.refl _)))) (by omega)).mono ?_); rintro e w' ⟨x, rfl, x0, x1, hU, U⟩; have D := gcell U.1; have Z := U.1.size; (try simp at Z); (try have Y0 : w.heap.size < w'.heap.size := (by omega)); (try have Y1 : w.heap.size + 1 < w'.heap.size := (by omega)); (try have Y2 : w.heap.size + 1 + 1 < w'.heap.size := (by omega)); (try have X0 : w.heap.size < w'.heap.size + 1 := (by omega)); (try have X1 : w.heap.size + 1 < w'.heap.size + 1 := (by omega)); (try have X2 : w.heap.size + 1 + 1 < w'.heap.size + 1 := (by omega)); (skip))))
  all_goals first
    | (go_ret
       exact ⟨_, rfl, ⟨_, rfl, (by first | omega | (rw [ByteArray.size_append, strOfNums_size]; show _ + 1 ≤ _; omega))⟩, by exact RdUp.fin hU (by intro c hU; (repeat (first | with_reducible assumption | refine RdUp.ups ?_ (by with_reducible assumption) | with_reducible refine RdUp.set ?_ (by first | exact Nat.le_refl _ | (simp only []; omega) | (simp; omega)) _ | with_reducible refine RdUp.alloc ?_ _ | with_reducible refine RdUp.drew ?_ | with_reducible exact RdUp.of (Up.refl _)))) (by omega)⟩)
    | skip
  have hr2 := hU.2 _ h
  refine wp_region_rd 6 rb B 1 (p + (0 + 1)) (by kernel_rfl) (by kernel_rfl) hr2 ?_
  simp only [List.take, List.drop]
  repeat (refine wpR_step (fun K hK => ?_); go_simp; (try simp only [↓IntWalk.iteOmega]); first
    | (refine hK _ _ ?_; clear hK K)
    | (refine stepR_c ?_ ?_ ?_
       rotate_left
       · intro wq hwq hrq; (have hbq := gcell hwq; (repeat (first | refine fills_no (by rfl) ?_ | (refine fills_yes (by rfl) (fun vq hvq => ?_); (try ((first | ((with_reducible have hl : LitR rb vq wq := hvq); obtain ⟨x, hlv⟩ := litR_open hl) | ((with_reducible have hvi : RdInts rb wq vq [2000, 2001] := hvq)) | ((with_reducible have hvs : IsStr 1 vq := hvq); obtain ⟨sb, rfl, hsb⟩ := hvs) | ((with_reducible have hvo : oneOf [2000, 2001] vq := hvq); obtain ⟨i, rfl, hi9⟩ := hvo))))))); simp only [List.filter_nil, fills]; unfold upAt; (try (skip)); go_simp; (try go_bits); (try simp only [↓IntWalk.iteOmega]); (try (rw [dif_pos (by omega)]; go_simp; try go_bits)); first | exact upOut_value)
       go_simp; refine hK _ _ ?_; clear hK K)
    | (refine stepR_m (by kernel_rfl) ?_ ?_ (fun wq hwq hrq => ?_) ?_
       rotate_left 2
       · (have hbq := gcell hwq; (repeat (first | refine fills_no (by rfl) ?_ | (refine fills_yes (by rfl) (fun vq hvq => ?_); (try ((first | ((with_reducible have hl : LitR rb vq wq := hvq); obtain ⟨x, hlv⟩ := litR_open hl) | ((with_reducible have hvi : RdInts rb wq vq [2000, 2001] := hvq)) | ((with_reducible have hvs : IsStr 1 vq := hvq); obtain ⟨sb, rfl, hsb⟩ := hvs) | ((with_reducible have hvo : oneOf [2000, 2001] vq := hvq); obtain ⟨i, rfl, hi9⟩ := hvo))))))); simp only [List.filter_nil, fills]; unfold upAt; (try (skip)); go_simp; (try go_bits); (try simp only [↓IntWalk.iteOmega]); (try (rw [dif_pos (by omega)]; go_simp; try go_bits)); first | ((with_reducible refine upOut_D (LitR rb) ?_); (((with_reducible refine upOut_make ((Up.refl _).alloc _) ?_); exact litR_new hrq.lt (by omega) (by omega)))) | ((with_reducible refine upOut_D (fun v _ => IsStr 1 v) ?_); ((rw [litR_conv hlv]; (try go_simp); (with_reducible refine upOut_make (Up.refl _) ?_); exact ⟨_, rfl, by rw [strOfNums_size]; exact Nat.le_refl _⟩))) | ((with_reducible refine upOut_D ((fun v w => RdInts rb w v [2000, 2001])) ?_); (((with_reducible refine upOut_make ((Up.refl _).alloc _) ?_); exact rdInts_new [2000, 2001] rfl (by decide) rfl rfl hrq.lt))) | ((with_reducible refine upOut_D (fun v _ => IsStr 2001 v) ?_); ((with_reducible refine upOut_ex (many_str _ _ 2001 (by simp at hi9; omega) (by simp at hi9; omega) (by omega) hsb _)))))
       rotate_left
       · (first | exact (fun _ _ _ h _ => h) | exact (litR_closed) | exact ((fun v w w' h hg => RdInts.gr h hg)))
       refine hK _ _ ?_; clear hK K)
    | (refine stepR_d (by rfl) (by kernel_rfl) (fun v _ => oneOf [2000, 2001] v) (fun _ _ _ h _ => h) (fun wq hwq hrq => ?_) ?_
       · (have hbq := gcell hwq; (repeat (first | refine fills_no (by rfl) ?_ | (refine fills_yes (by rfl) (fun vq hvq => ?_); (try ((first | ((with_reducible have hl : LitR rb vq wq := hvq); obtain ⟨x, hlv⟩ := litR_open hl) | ((with_reducible have hvi : RdInts rb wq vq [2000, 2001] := hvq)) | ((with_reducible have hvs : IsStr 1 vq := hvq); obtain ⟨sb, rfl, hsb⟩ := hvs) | ((with_reducible have hvo : oneOf [2000, 2001] vq := hvq); obtain ⟨i, rfl, hi9⟩ := hvo))))))); simp only [List.filter_nil, fills]; unfold gAt; (try (skip)); go_simp; (try go_bits); (try simp only [↓IntWalk.iteOmega]); (try (rw [dif_pos (by omega)]; go_simp; try go_bits)); (with_reducible refine gOut_drawn ((num_any rb B [2000, 2001] _ wq _ hrq (by omega) hvi (by decide))) ?_); decide)
       refine hK _ _ ?_; clear hK K))
  refine wpR_nil (fun wq hwq hrq => ?_)
  simp only [fills]
  rintro v9 ⟨sb, rfl, hsb⟩
  intros
  have hU := RdUp.made (C := 10) HM (grownBy_trans hU.1 hwq) hrq (by omega)
  go_wp2
  rw [onlyN_normal]
  go_wp2
  go_ret
  exact ⟨_, rfl, ⟨_, rfl, hsb⟩, by exact RdUp.fin hU (by intro c hU; (repeat (first | with_reducible assumption | refine RdUp.ups ?_ (by with_reducible assumption) | with_reducible refine RdUp.set ?_ (by first | exact Nat.le_refl _ | (simp only []; omega) | (simp; omega)) _ | with_reducible refine RdUp.alloc ?_ _ | with_reducible refine RdUp.drew ?_ | with_reducible exact RdUp.of (Up.refl _)))) (by omega)⟩

def isL4 (v : Value) : Prop := ∃ (s : SetD) (dict d : ByteArray), v = .tuple #[setV s, .string dict, .string d] ∧ (-9223372036854775808 ≤ s.lit ∧ s.lit ≤ 9223372036854775807) ∧ dict.size ≤ 2001 ∧ d.size ≤ 2001

set_option maxRecDepth 100000 in
set_option maxHeartbeats 8000000 in
theorem l4Some_any (rb : Nat) (B : Value) (w : World) (N : Nat) (h : Rdr rb B w N) (hN : N ≤ 700000000) :
    Calls Try.prog 51  #[.pointer (some ⟨rb, 0, none⟩)] w (Drawn rb B 9000 isL4 w) := by
  obtain ⟨p, hp, h, HM⟩ := h.least
  have hlt := h.lt
  have HR := Lib.hid h
  have hne0 : ¬ w.heap.size = rb := by omega
  have hU := RdUp.refl rb B 0 w
  have e1 : w.heap.size < w.heap.size + 1 := by omega
  have cS := fun w N h hN => l1Some_any rb B w N h hN
  have HRB0 : SetAt w.heap.size 0 0 0 (w.alloc (.cells #[.int .i64 0, .int .i64 0, .int .i64 0] 24)) := (MapKept.heap_alloc w _).1
  go_enter Try.func51, Try.ntmps51
  go_wp2_with ((go_at_call 87; ((with_reducible refine (draw_at (cS) HR.out hU (by intro c hU; (repeat (first | with_reducible assumption | refine RdUp.ups ?_ (by with_reducible assumption) | with_reducible refine RdUp.set ?_ (by first | exact Nat.le_refl _ | (simp only []; omega) | (simp; omega)) _ | with_reducible refine RdUp.alloc ?_ _ | with_reducible refine RdUp.drew ?_ | with_reducible exact RdUp.of (Up.refl _)))) (by omega)).mono ?_); rintro e w' ⟨v, rfl, ⟨s, rfl, hs⟩, hU, U⟩; have D := gcell U.1; have Z := U.1.size; (try simp at Z); (try have Y0 : w.heap.size < w'.heap.size := (by omega)); (try have Y1 : w.heap.size + 1 < w'.heap.size := (by omega)); (try have Y2 : w.heap.size + 1 + 1 < w'.heap.size := (by omega)); (try have X0 : w.heap.size < w'.heap.size + 1 := (by omega)); (try have X1 : w.heap.size + 1 < w'.heap.size + 1 := (by omega)); (try have X2 : w.heap.size + 1 + 1 < w'.heap.size + 1 := (by omega)))))
  have hSB : SetAt w'.heap.size s.ord s.lit s.most (w'.alloc (.cells #[.int .i64 s.ord, .int .i64 s.lit, .int .i64 s.most] 24)) := (MapKept.heap_alloc w' _).1
  have hRB : SetAt w.heap.size 0 0 0 (w'.alloc (.cells #[.int .i64 s.ord, .int .i64 s.lit, .int .i64 s.most] 24)) := box_up ((Up.refl _).alloc _) (gbox U.1 HRB0 (by simp; omega))
  have hU : RdUp rb B 5 w (w'.alloc (.cells #[.int .i64 s.ord, .int .i64 s.lit, .int .i64 s.most] 24)) := by exact RdUp.fin hU (by intro c hU; (repeat (first | with_reducible assumption | refine RdUp.ups ?_ (by with_reducible assumption) | with_reducible refine RdUp.set ?_ (by first | exact Nat.le_refl _ | (simp only []; omega) | (simp; omega)) _ | with_reducible refine RdUp.alloc ?_ _ | with_reducible refine RdUp.drew ?_ | with_reducible exact RdUp.of (Up.refl _)))) (by omega)
  have hbr : ¬ w'.heap.size = rb := by omega
  generalize (w'.alloc (.cells #[.int .i64 s.ord, .int .i64 s.lit, .int .i64 s.most] 24)) = W at *
  generalize w'.heap.size = b5 at *
  obtain ⟨hbs, s0, s1, s2⟩ := SetAt.cells hSB
  obtain ⟨hb0, q0, q1, q2⟩ := SetAt.cells hRB
  have hfr := box_free hRB
  clear D U Z
  have cD := fun w N h hN => l1Data_as 28 28 rfl rb B s w N h hN (by omega) hs
  have cI := fun d hd w N h hN => l4Dict_any rb B s d w N h hN hd hs
  have cB := fun w N h hN => l1BadB_any rb B s w N h hN hs
  have cW := fun d hd w N h hN => l1Wild_any rb B d w N h hN hd
  clear hs HRB0
  simp only [setV] at *
  go_wp2_with (first | ((go_at_call 60; ((with_reducible refine (draw_atM (cD) HR.out hU (by intro c hU; (repeat (first | with_reducible assumption | refine RdUp.ups ?_ (by with_reducible assumption) | with_reducible refine RdUp.set ?_ (by first | exact Nat.le_refl _ | (simp only []; omega) | (simp; omega)) _ | with_reducible refine RdUp.alloc ?_ _ | with_reducible refine RdUp.drew ?_ | with_reducible exact RdUp.of (Up.refl _)))) (by omega)).mono ?_); rintro e w' ⟨v, rfl, ⟨d, rfl, hd⟩, hU, U⟩; have D := gcell U.1; have Z := U.1.size; (try simp at Z); (try have Y0 : w.heap.size < w'.heap.size := (by omega)); (try have Y1 : w.heap.size + 1 < w'.heap.size := (by omega)); (try have Y2 : w.heap.size + 1 + 1 < w'.heap.size := (by omega)); (try have X0 : w.heap.size < w'.heap.size + 1 := (by omega)); (try have X1 : w.heap.size + 1 < w'.heap.size + 1 := (by omega)); (try have X2 : w.heap.size + 1 + 1 < w'.heap.size + 1 := (by omega)))); have hSB := gbox U.1 hSB (by simp; omega); have hRB := gbox U.1 hRB (by simp; omega); clear s0 s1 s2 hbs q0 q1 q2 hb0 hfr; obtain ⟨hbs, s0, s1, s2⟩ := SetAt.cells hSB; obtain ⟨hb0, q0, q1, q2⟩ := SetAt.cells hRB; have hfr := box_free hRB; clear D U) | ((go_at_call 88; ((with_reducible refine (draw_atM (cI d (by omega)) HR.out hU (by intro c hU; (repeat (first | with_reducible assumption | refine RdUp.ups ?_ (by with_reducible assumption) | with_reducible refine RdUp.set ?_ (by first | exact Nat.le_refl _ | (simp only []; omega) | (simp; omega)) _ | with_reducible refine RdUp.alloc ?_ _ | with_reducible refine RdUp.drew ?_ | with_reducible exact RdUp.of (Up.refl _)))) (by omega)).mono ?_); rintro e w' ⟨v, rfl, ⟨dict, rfl, hdi⟩, hU, U⟩; have D := gcell U.1; have Z := U.1.size; (try simp at Z); (try have Y0 : w.heap.size < w'.heap.size := (by omega)); (try have Y1 : w.heap.size + 1 < w'.heap.size := (by omega)); (try have Y2 : w.heap.size + 1 + 1 < w'.heap.size := (by omega)); (try have X0 : w.heap.size < w'.heap.size + 1 := (by omega)); (try have X1 : w.heap.size + 1 < w'.heap.size + 1 := (by omega)); (try have X2 : w.heap.size + 1 + 1 < w'.heap.size + 1 := (by omega)))); have hSB := gbox U.1 hSB (by simp; omega); have hRB := gbox U.1 hRB (by simp; omega); clear s0 s1 s2 hbs q0 q1 q2 hb0 hfr; obtain ⟨hbs, s0, s1, s2⟩ := SetAt.cells hSB; obtain ⟨hb0, q0, q1, q2⟩ := SetAt.cells hRB; have hfr := box_free hRB; clear D U) | ((go_at_call 59; ((with_reducible refine (pick_at (n := 24) HR.out hU (by intro c hU; (repeat (first | with_reducible assumption | refine RdUp.ups ?_ (by with_reducible assumption) | with_reducible refine RdUp.set ?_ (by first | exact Nat.le_refl _ | (simp only []; omega) | (simp; omega)) _ | with_reducible refine RdUp.alloc ?_ _ | with_reducible refine RdUp.drew ?_ | with_reducible exact RdUp.of (Up.refl _)))) (by omega)).mono ?_); rintro e w' ⟨x, rfl, x0, x1, hU, U⟩; have D := gcell U.1; have Z := U.1.size; (try simp at Z); (try have Y0 : w.heap.size < w'.heap.size := (by omega)); (try have Y1 : w.heap.size + 1 < w'.heap.size := (by omega)); (try have Y2 : w.heap.size + 1 + 1 < w'.heap.size := (by omega)); (try have X0 : w.heap.size < w'.heap.size + 1 := (by omega)); (try have X1 : w.heap.size + 1 < w'.heap.size + 1 := (by omega)); (try have X2 : w.heap.size + 1 + 1 < w'.heap.size + 1 := (by omega)); (skip))); have hSB := gbox U.1 hSB (by simp; omega); have hRB := gbox U.1 hRB (by simp; omega); clear s0 s1 s2 hbs q0 q1 q2 hb0 hfr; obtain ⟨hbs, s0, s1, s2⟩ := SetAt.cells hSB; obtain ⟨hb0, q0, q1, q2⟩ := SetAt.cells hRB; have hfr := box_free hRB; clear D U) | ((go_at_call 61; ((with_reducible refine (draw_atM (cW _ (by omega)) HR.out hU (by intro c hU; (repeat (first | with_reducible assumption | refine RdUp.ups ?_ (by with_reducible assumption) | with_reducible refine RdUp.set ?_ (by first | exact Nat.le_refl _ | (simp only []; omega) | (simp; omega)) _ | with_reducible refine RdUp.alloc ?_ _ | with_reducible refine RdUp.drew ?_ | with_reducible exact RdUp.of (Up.refl _)))) (by omega)).mono ?_); rintro e w' ⟨v, rfl, ⟨dw, rfl, hdw⟩, hU, U⟩; have D := gcell U.1; have Z := U.1.size; (try simp at Z); (try have Y0 : w.heap.size < w'.heap.size := (by omega)); (try have Y1 : w.heap.size + 1 < w'.heap.size := (by omega)); (try have Y2 : w.heap.size + 1 + 1 < w'.heap.size := (by omega)); (try have X0 : w.heap.size < w'.heap.size + 1 := (by omega)); (try have X1 : w.heap.size + 1 < w'.heap.size + 1 := (by omega)); (try have X2 : w.heap.size + 1 + 1 < w'.heap.size + 1 := (by omega)))); have hSB := gbox U.1 hSB (by simp; omega); have hRB := gbox U.1 hRB (by simp; omega); clear s0 s1 s2 hbs q0 q1 q2 hb0 hfr; obtain ⟨hbs, s0, s1, s2⟩ := SetAt.cells hSB; obtain ⟨hb0, q0, q1, q2⟩ := SetAt.cells hRB; have hfr := box_free hRB; clear D U) | ((go_at_call 89; ((with_reducible refine (draw_atM (cB) HR.out hU (by intro c hU; (repeat (first | with_reducible assumption | refine RdUp.ups ?_ (by with_reducible assumption) | with_reducible refine RdUp.set ?_ (by first | exact Nat.le_refl _ | (simp only []; omega) | (simp; omega)) _ | with_reducible refine RdUp.alloc ?_ _ | with_reducible refine RdUp.drew ?_ | with_reducible exact RdUp.of (Up.refl _)))) (by omega)).mono ?_); rintro e w' ⟨v, rfl, ⟨s9, rfl, hs9⟩, hU, U⟩; have D := gcell U.1; have Z := U.1.size; (try simp at Z); (try have Y0 : w.heap.size < w'.heap.size := (by omega)); (try have Y1 : w.heap.size + 1 < w'.heap.size := (by omega)); (try have Y2 : w.heap.size + 1 + 1 < w'.heap.size := (by omega)); (try have X0 : w.heap.size < w'.heap.size + 1 := (by omega)); (try have X1 : w.heap.size + 1 < w'.heap.size + 1 := (by omega)); (try have X2 : w.heap.size + 1 + 1 < w'.heap.size + 1 := (by omega)))); have hSB := gbox U.1 hSB (by simp; omega); have hRB := gbox U.1 hRB (by simp; omega); clear s0 s1 s2 hbs q0 q1 q2 hb0 hfr; obtain ⟨hbs, s0, s1, s2⟩ := SetAt.cells hSB; obtain ⟨hb0, q0, q1, q2⟩ := SetAt.cells hRB; have hfr := box_free hRB; clear D U))
  all_goals
    refine bodyPost_ret (v := _) (by simp [results, Try.results51, go_sem, q0, q1, q2, hb0, hne0]; rfl) rfl ?_
    refine ⟨_, rfl, ⟨s9, _, _, rfl, hs9, by omega, by omega⟩, ?_⟩
    exact RdUp.fin hU (by intro c hU; (repeat (first | with_reducible assumption | refine RdUp.ups ?_ (by with_reducible assumption) | with_reducible refine RdUp.set ?_ (by first | exact Nat.le_refl _ | (simp only []; omega) | (simp; omega)) _ | with_reducible refine RdUp.alloc ?_ _ | with_reducible refine RdUp.drew ?_ | with_reducible exact RdUp.of (Up.refl _)))) (by omega)

set_option maxRecDepth 100000 in
set_option maxHeartbeats 4000000 in
theorem drawCompressWith_any (v : Value) (l : List UInt8) (w : World) (h : ArgU w v l) :
    Calls Try.prog 25  #[v] w (fun e w' => ∃ v, e = .returned v ∧ isL4 v ∧ Up w w') := by
  have cO := fun w' hu => open_at (h.up (w' := w') hu)
  clear h
  go_enter Try.func25, Try.ntmps25
  go_wp2_with (go_at_call 52; (with_reducible refine (cO _ (by (repeat (first | with_reducible exact Up.refl _ | with_reducible assumption | with_reducible refine Up.set ?_ (by first | exact Nat.le_refl _ | (simp only []; omega) | (simp; omega)) _ | with_reducible refine Up.alloc ?_ _ | with_reducible refine Up.drew ?_ | refine Up.trans ?_ (by with_reducible assumption))))).mono ?_); rintro e w1 ⟨B, rfl, hr, U1⟩)
  have hRB : SetAt w.heap.size 0 0 0 w1 := box_up U1 (MapKept.heap_alloc w _).1
  have hUp : Up w w1 := by (repeat (first | with_reducible exact Up.refl _ | with_reducible assumption | with_reducible refine Up.set ?_ (by first | exact Nat.le_refl _ | (simp only []; omega) | (simp; omega)) _ | with_reducible refine Up.alloc ?_ _ | with_reducible refine Up.drew ?_ | refine Up.trans ?_ (by with_reducible assumption)))
  rw [size_alloc] at hr
  have hrw : w.heap.size < w.heap.size + 1 := by omega
  generalize w.heap.size + 1 = rb at *
  obtain ⟨p, hp, hr, HM⟩ := hr.least
  have hlt := hr.lt
  have HR := Lib.hid hr
  have hU := RdUp.refl rb B 0 w1
  have cS := fun w N h hN => l4Some_any rb B w N h hN
  have hne0 : ¬ w.heap.size = rb := by omega
  clear cO U1
  go_wp2_with ((go_at_call 51; ((with_reducible refine (draw_atM (cS) HR.out hU (by intro c hU; (repeat (first | with_reducible assumption | refine RdUp.ups ?_ (by with_reducible assumption) | with_reducible refine RdUp.set ?_ (by first | exact Nat.le_refl _ | (simp only []; omega) | (simp; omega)) _ | with_reducible refine RdUp.alloc ?_ _ | with_reducible refine RdUp.drew ?_ | with_reducible exact RdUp.of (Up.refl _)))) (by omega)).mono ?_); rintro e w' ⟨v, rfl, ⟨s, dict, d, rfl, hs, hdi, hd⟩, hU, U⟩; have D := gcell U.1; have Z := U.1.size; (try simp at Z); (try have Y0 : w.heap.size < w'.heap.size := (by omega)); (try have Y1 : w.heap.size + 1 < w'.heap.size := (by omega)); (try have Y2 : w.heap.size + 1 + 1 < w'.heap.size := (by omega)); (try have X0 : w.heap.size < w'.heap.size + 1 := (by omega)); (try have X1 : w.heap.size + 1 < w'.heap.size + 1 := (by omega)); (try have X2 : w.heap.size + 1 + 1 < w'.heap.size + 1 := (by omega)))); have hRB := gbox U.1 hRB (by simp; omega); obtain ⟨hb0, q0, q1, q2⟩ := SetAt.cells hRB; have hfr := box_free hRB; have hUw := up_grownR hUp hU.1 (by omega); clear D U)
  refine bodyPost_ret (v := _) (by simp [results, Try.results25, go_sem, q0, q1, q2, hb0, hne0]; rfl) rfl ?_
  refine ⟨_, rfl, ⟨s, dict, d, rfl, hs, hdi, hd⟩, ?_⟩
  (repeat (first | with_reducible exact Up.refl _ | with_reducible assumption | with_reducible refine Up.set ?_ (by first | exact Nat.le_refl _ | (simp only []; omega) | (simp; omega)) _ | with_reducible refine Up.alloc ?_ _ | with_reducible refine Up.drew ?_ | refine Up.trans ?_ (by with_reducible assumption)))

end Go.Proofs.Ytbimdjlcjcdbnaa

