/- Texts joined into one: the walks and laws that the last text leans on. Conditions: as each says. -/
import Derived.Test.YtiiahjnfbhcgmaaGreatDoorMFnIndexTextLawA
import Derived.Test.YtiiahjnfbhcgmaaGreatDoorEnds

set_option linter.unusedVariables false
set_option linter.unusedSimpArgs false
/- Arguments that are slices of bytes, and a string repeated. Conditions: as each says. -/
namespace Go.Proofs.YtiiahjnfbhcgmaaGreatDoor
set_option linter.unusedVariables false
set_option linter.unusedSimpArgs false
open Go.ChangeShapes Go.WideShapes Go.ChangeAt Go.RowKit Go.Joins
open Go.ChangeMaps (open_string shut_string)

theorem open_argU {H : Type} {enc : TypeId × Value → H} {W : World} {fuel : Nat} {a0 : Option Addr} {len cap : Nat} {d : DataW H} {p : List MemPlace}
    (h : DataW.trod enc Tryz.prog W 0 (fun _ => true) true fuel 22 [.slice a0 len cap] = some (d, p)) (hlt : ∀ x ∈ p, x.block < W.heap.size) : ∃ l, ArgU W (.slice a0 len cap) l := by
  rcases open_ints Tryz.underlying22 Tryz.underlying5 (by kernel_rfl) h with ⟨hcs, hx⟩ | ⟨a, len', cap', zs, hcs, _, hl, hm, hz, hx, hcell, hwz⟩
  · simp only [List.cons.injEq, and_true] at hcs
    cases hcs
    exact ⟨[], none, 0, rfl, Nat.le_refl _, by unfold maxLen; omega, fun h => absurd h (Nat.lt_irrefl _)⟩
  · simp only [List.cons.injEq, and_true] at hcs
    cases hcs
    simp only [Prod.mk.injEq] at hx
    obtain ⟨rfl, rfl⟩ := hx
    simp only [if_true] at hz
    have hlen : ((zs.take len).map fun n => UInt8.ofNat n.toNat).length = len := by simp; omega
    refine ⟨(zs.take len).map fun n => UInt8.ofNat n.toNat, some a, cap, by rw [hlen], by rw [hlen]; exact hl, hm, fun hp => ?_⟩
    rw [hlen] at hp
    obtain ⟨b, off, spot⟩ := a
    have hspot : spot = none := by simpa [Addr.add] using World.cell?_spot (hcell 0 (by omega))
    subst hspot
    refine ⟨b, off, rfl, hlt (.cell b off) (by simp only [MemPlace.row, List.mem_map, List.mem_range]; exact ⟨0, by omega, rfl⟩), fun i x hi => ?_⟩
    have hil : i < len := by
      have := (List.getElem?_eq_some_iff.1 hi).1
      rw [hlen] at this; exact this
    have hcj := hcell i (by omega)
    rw [Addr.add_lit] at hcj
    rw [hcj]
    have hb := range_u8 hwz i
    have e : zs.getD i 0 = zs[i]'(by omega) := by simp [List.getD, List.getElem?_eq_getElem (show i < zs.length by omega)]
    rw [List.getD_eq_getElem?_getD] at e ⊢
    rw [e] at hb ⊢
    have hx : x = UInt8.ofNat (zs[i]'(by omega)).toNat := by
      have : i < zs.length := by omega
      simp [List.getElem?_take, hil, this] at hi
      exact hi.symm
    rw [hx]
    congr 2
    simp only [UInt8.toNat_ofNat']
    omega

end Go.Proofs.YtiiahjnfbhcgmaaGreatDoor

/- Walk of the reference's l3Bent and of its draw of a text of places. Conditions: the reader is one, its place is bounded; the argument can be read. -/
namespace Go.Proofs.YtiiahjnfbhcgmaaGreatDoor
set_option linter.unusedVariables false
set_option linter.unusedSimpArgs false
open Go Go.RowKit

/-- Strings that a slice lists. -/
def RdTx (rb : Nat) (w : World) (v : Value) (l : List ByteArray) : Prop := ∃ b off cap, v = .slice (some ⟨b, off, none⟩) l.length cap ∧ l.length ≤ cap ∧ cap ≤ maxLen ∧ b < w.heap.size ∧ b ≠ rb ∧ ∀ i x, l[i]? = some x → w.cell? ⟨b, off + i, none⟩ = some (.string x)
def oneTx (l : List ByteArray) (v : Value) : Prop := ∃ s : ByteArray, v = .string s ∧ s ∈ l

set_option maxRecDepth 100000 in
set_option maxHeartbeats 2000000 in
theorem ofT_any (rb : Nat) (B : Value) (l : List ByteArray) (v : Value) (w : World) (N : Nat) (h : Rdr rb B w N) (hN : N ≤ 1099511627776) (hr : RdTx rb w v l) (hl : 0 < l.length) :
    Calls Tryz.prog 111  #[.pointer (some ⟨rb, 0, none⟩), v] w (Drawn rb B 1 (oneTx l) w) := by
  obtain ⟨b, off, cap, rfl, h1, h2, h3, h4, h5⟩ := hr
  have cP := fun wx h => pick_any rb B (l.length : Int) wx N h hN
  unfold maxLen at h2
  go_enter Tryz.func111, Tryz.ntmps111
  go_wp2_with (go_at_call 43; (with_reducible refine (cP _ h).mono ?_); rintro e w1 ⟨v1, rfl, ⟨i, rfl, hi0, hi1⟩, U1⟩; obtain ⟨j, rfl⟩ := Int.eq_ofNat_of_zero_le hi0; have hjl : j < l.length := (by omega); have hx := ((gcell U1.1).1 b (off + j) h3 (fun e => h4 (Option.some.inj e))).trans (h5 j l[j] (List.getElem?_eq_getElem hjl)))
  go_ret
  exact ⟨_, rfl, ⟨_, rfl, List.getElem_mem hjl⟩, U1⟩
theorem RdTx.gr {rb : Nat} {w w' : World} {v : Value} {l : List ByteArray} (h : RdTx rb w v l) (hg : w.grownBy w' (some rb)) : RdTx rb w' v l := by
  obtain ⟨b, off, cap, h1, h2, h3, h4, h5, h6⟩ := h
  exact ⟨b, off, cap, h1, h2, h3, Nat.lt_of_lt_of_le h4 hg.size, h5, fun i x hi => ((gcell hg).1 b _ h4 (fun e => h5 (Option.some.inj e))).trans (h6 i x hi)⟩
theorem rdTx_new {rb : Nat} {w : World} {T : TypeId} (l : List ByteArray) {cs : Array Value} (hcs : cs = (l.map Value.string).toArray) (hl : l.length ≤ 100) {n cap : Nat} (hn : n = l.length) (hc : cap = n) (hlt : rb < w.heap.size) : RdTx rb (w.alloc (.cells cs T)) (.slice (some ⟨w.heap.size, 0, none⟩) n cap) l := by
  subst hcs hc hn
  refine ⟨w.heap.size, 0, l.length, rfl, Nat.le_refl _, by unfold maxLen; omega, by simp, by omega, fun i x hi => ?_⟩
  rw [box_cell (MapKept.heap_alloc w _).1, Nat.zero_add]
  simp [hi]
theorem rdUpT_r {rb : Nat} {B : Value} {c N : Nat} {w w' : World} (h : RdUp rb B c w w') (hr : Rdr rb B w N) : Rdr rb B w' (N + c) := h.2 _ hr
/-- The texts that l3Bent puts in. -/
def bentL : List ByteArray := [⟨#[]⟩, ⟨#[48]⟩, ⟨#[49]⟩, ⟨#[59]⟩, ⟨#[44]⟩, ⟨#[46]⟩, ⟨#[45]⟩, ⟨#[124]⟩, ⟨#[32]⟩]
theorem bentL_le : ∀ s ∈ bentL, s.size ≤ 1 := by
  intro s hs
  simp only [bentL, List.mem_cons, List.not_mem_nil, or_false] at hs
  rcases hs with rfl | rfl | rfl | rfl | rfl | rfl | rfl | rfl | rfl <;> decide
theorem ofB_any (rb : Nat) (B : Value) (v : Value) (w : World) (N : Nat) (h : Rdr rb B w N) (hN : N ≤ 1099511627776) (hr : RdTx rb w v bentL) :
    Calls Tryz.prog 111  #[.pointer (some ⟨rb, 0, none⟩), v] w (Drawn rb B 1 (IsStr 1) w) :=
  (ofT_any rb B bentL v w N h hN hr (by decide)).mono fun e w' ⟨v, he, ⟨i, hv, h1⟩, hu⟩ => ⟨v, he, ⟨i, hv, bentL_le i h1⟩, hu⟩
def IsBetw (a b : Int) (v : Value) : Prop := ∃ i : Int, v = .int .i64 i ∧ a ≤ i ∧ i ≤ b

set_option maxRecDepth 100000 in
set_option maxHeartbeats 8000000 in
theorem l3Bent_any (rb : Nat) (B : Value) (s : ByteArray) (w : World) (N : Nat) (h : Rdr rb B w N) (hN : N ≤ 700000000) (hs : s.size ≤ 60000) :
    Calls Tryz.prog 79  #[.pointer (some ⟨rb, 0, none⟩), .string s] w (Drawn rb B 100 (IsStr 120001) w) := by
  obtain ⟨p, hp, h, HM⟩ := h.least
  have hlt := h.lt
  have HR := Lib.hid h
  have hU := RdUp.refl rb B 0 w
  by_cases he : s.size = 0
  · have hb : s.toList.isEmpty = true := by
      rw [Lib.toList_data]
      have := ba_len s
      cases hl : s.data.toList with
      | nil => rfl
      | cons _ _ => rw [hl] at this; simp at this; omega
    go_enter Tryz.func79, Tryz.ntmps79
    go_wp2_with (first | (go_at_call 43; ((with_reducible refine (pick_at (n := 2) HR.out hU (by intro c hU; (repeat (first | with_reducible assumption | refine RdUp.ups ?_ (by with_reducible assumption) | with_reducible refine RdUp.set ?_ (by first | exact Nat.le_refl _ | (simp only []; omega) | (simp; omega)) _ | with_reducible refine RdUp.alloc ?_ _ | with_reducible refine RdUp.drew ?_ | with_reducible exact RdUp.of (Up.refl _)))) (by omega)).mono ?_); rintro e w' ⟨m, rfl, m0, m1, hU, U⟩; clear U; (skip))))
    all_goals
      go_ret
      exact ⟨_, rfl, ⟨_, rfl, by omega⟩, by exact RdUp.fin hU (by intro c hU; (repeat (first | with_reducible assumption | refine RdUp.ups ?_ (by with_reducible assumption) | with_reducible refine RdUp.set ?_ (by first | exact Nat.le_refl _ | (simp only []; omega) | (simp; omega)) _ | with_reducible refine RdUp.alloc ?_ _ | with_reducible refine RdUp.drew ?_ | with_reducible exact RdUp.of (Up.refl _)))) (by omega)⟩
  · have hb : s.toList.isEmpty = false := by
      rw [Lib.toList_data]
      have := ba_len s
      cases hl : s.data.toList with
      | nil => rw [hl] at this; simp at this; omega
      | cons _ _ => rfl
    go_enter Tryz.func79, Tryz.ntmps79
    go_wp2_with (first | (go_at_call 43; ((with_reducible refine (pick_at (n := 2) HR.out hU (by intro c hU; (repeat (first | with_reducible assumption | refine RdUp.ups ?_ (by with_reducible assumption) | with_reducible refine RdUp.set ?_ (by first | exact Nat.le_refl _ | (simp only []; omega) | (simp; omega)) _ | with_reducible refine RdUp.alloc ?_ _ | with_reducible refine RdUp.drew ?_ | with_reducible exact RdUp.of (Up.refl _)))) (by omega)).mono ?_); rintro e w' ⟨m, rfl, m0, m1, hU, U⟩; clear U; (skip))) | (go_at_call 43; ((with_reducible refine (pick_at (n := (s.size : Int)) HR.out hU (by intro c hU; (repeat (first | with_reducible assumption | refine RdUp.ups ?_ (by with_reducible assumption) | with_reducible refine RdUp.set ?_ (by first | exact Nat.le_refl _ | (simp only []; omega) | (simp; omega)) _ | with_reducible refine RdUp.alloc ?_ _ | with_reducible refine RdUp.drew ?_ | with_reducible exact RdUp.of (Up.refl _)))) (by omega)).mono ?_); rintro e w' ⟨k, rfl, k0, k1, hU, U⟩; clear U; ((obtain ⟨kn, rfl⟩ := Int.eq_ofNat_of_zero_le k0); (have hk : kn < s.size := (by omega)); (have hx1 := Nat.le_trans (ext_le s 0 kn) hs)))))
    all_goals first
      | (go_ret
         exact ⟨_, rfl, ⟨_, rfl, by omega⟩, by exact RdUp.fin hU (by intro c hU; (repeat (first | with_reducible assumption | refine RdUp.ups ?_ (by with_reducible assumption) | with_reducible refine RdUp.set ?_ (by first | exact Nat.le_refl _ | (simp only []; omega) | (simp; omega)) _ | with_reducible refine RdUp.alloc ?_ _ | with_reducible refine RdUp.drew ?_ | with_reducible exact RdUp.of (Up.refl _)))) (by omega)⟩)
      | skip
    have hr2 := hU.2 _ h
    refine wp_region_rd 14 rb B 1 (p + (0 + 1 + 1)) (by kernel_rfl) (by kernel_rfl) hr2 ?_
    simp only [List.take, List.drop]
    repeat (refine wpR_step (fun K hK => ?_); go_simp; (try simp only [↓IntWalk.iteOmega]); first
      | (refine hK _ _ ?_; clear hK K)
      | (refine stepR_c ?_ ?_ ?_
         rotate_left
         · intro wq hwq hrq; (have hbq := gcell hwq; (repeat (first | refine fills_no (by rfl) ?_ | (refine fills_yes (by rfl) (fun vq hvq => ?_); (try ((first | ((with_reducible have hvs : RdTx rb wq vq bentL := hvq)) | (obtain ⟨i, rfl, hi0, hi1⟩ := hvq; obtain ⟨jn, rfl⟩ := Int.eq_ofNat_of_zero_le (show 0 ≤ i by omega)) | (obtain ⟨sb, rfl, hsb⟩ := hvq))))))); simp only [List.filter_nil, fills]; unfold upAt; (try (skip)); go_simp; (try go_bits); (try simp only [↓IntWalk.iteOmega]); (try (rw [dif_pos (by omega)]; go_simp; try go_bits)); first | exact upOut_value)
         go_simp; refine hK _ _ ?_; clear hK K)
      | (refine stepR_m (by kernel_rfl) ?_ ?_ (fun wq hwq hrq => ?_) ?_
         rotate_left 2
         · (have hbq := gcell hwq; (repeat (first | refine fills_no (by rfl) ?_ | (refine fills_yes (by rfl) (fun vq hvq => ?_); (try ((first | ((with_reducible have hvs : RdTx rb wq vq bentL := hvq)) | (obtain ⟨i, rfl, hi0, hi1⟩ := hvq; obtain ⟨jn, rfl⟩ := Int.eq_ofNat_of_zero_le (show 0 ≤ i by omega)) | (obtain ⟨sb, rfl, hsb⟩ := hvq))))))); simp only [List.filter_nil, fills]; unfold upAt; (try (skip)); go_simp; (try go_bits); (try simp only [↓IntWalk.iteOmega]); (try (rw [dif_pos (by omega)]; go_simp; try go_bits)); first | ((with_reducible refine upOut_D ((fun v w => RdTx rb w v bentL)) ?_); (((with_reducible refine upOut_make ((Up.refl _).alloc _) ?_); exact rdTx_new bentL rfl (by decide) rfl rfl hrq.lt))) | ((with_reducible refine upOut_D (fun v _ => IsStr 60001 v) ?_); (((with_reducible refine upOut_make (Up.refl _) ?_); exact ⟨_, rfl, by rw [ByteArray.size_append]; omega⟩))) | ((with_reducible refine upOut_D (fun v _ => IsStr 60000 v) ?_); (((with_reducible refine upOut_make (Up.refl _) ?_); exact ⟨_, rfl, Nat.le_trans (ext_le _ _ _) hs⟩))) | ((with_reducible refine upOut_D (fun v _ => IsStr 120001 v) ?_); (((with_reducible refine upOut_make (Up.refl _) ?_); exact ⟨_, rfl, by rw [ByteArray.size_append]; omega⟩))) | ((with_reducible refine upOut_D (fun v _ => IsBetw kn (kn + 1) v) ?_); (((with_reducible refine upOut_make (Up.refl _) ?_); exact ⟨_, rfl, by omega, by omega⟩))))
         rotate_left
         · (first | exact (fun _ _ _ h _ => h) | exact ((fun v w w' h hg => RdTx.gr h hg)))
         refine hK _ _ ?_; clear hK K)
      | (refine stepR_d (by rfl) (by kernel_rfl) (fun v _ => IsStr 1 v) (fun _ _ _ h _ => h) (fun wq hwq hrq => ?_) ?_
         · (have hbq := gcell hwq; (repeat (first | refine fills_no (by rfl) ?_ | (refine fills_yes (by rfl) (fun vq hvq => ?_); (try ((first | ((with_reducible have hvs : RdTx rb wq vq bentL := hvq)) | (obtain ⟨i, rfl, hi0, hi1⟩ := hvq; obtain ⟨jn, rfl⟩ := Int.eq_ofNat_of_zero_le (show 0 ≤ i by omega)) | (obtain ⟨sb, rfl, hsb⟩ := hvq))))))); simp only [List.filter_nil, fills]; unfold gAt; (try (skip)); go_simp; (try go_bits); (try simp only [↓IntWalk.iteOmega]); (try (rw [dif_pos (by omega)]; go_simp; try go_bits)); (with_reducible refine gOut_drawn ((ofB_any rb B _ wq _ hrq (by omega) hvs)) ?_); decide)
         refine hK _ _ ?_; clear hK K)
      | (refine stepR_d (by rfl) (by kernel_rfl) (fun v _ => pickB 2 v) (fun _ _ _ h _ => h) (fun wq hwq hrq => ?_) ?_
         · (have hbq := gcell hwq; (repeat (first | refine fills_no (by rfl) ?_ | (refine fills_yes (by rfl) (fun vq hvq => ?_); (try ((first | ((with_reducible have hvs : RdTx rb wq vq bentL := hvq)) | (obtain ⟨i, rfl, hi0, hi1⟩ := hvq; obtain ⟨jn, rfl⟩ := Int.eq_ofNat_of_zero_le (show 0 ≤ i by omega)) | (obtain ⟨sb, rfl, hsb⟩ := hvq))))))); simp only [List.filter_nil, fills]; unfold gAt; (try (skip)); go_simp; (try go_bits); (try simp only [↓IntWalk.iteOmega]); (try (rw [dif_pos (by omega)]; go_simp; try go_bits)); (with_reducible refine gOut_drawn ((pick_any rb B 2 wq _ hrq (by omega))) ?_); decide)
         refine hK _ _ ?_; clear hK K))
    refine wpR_nil (fun wq hwq hrq => ?_)
    simp only [fills]
    trace_state
    rintro v9 ⟨sb, rfl, hsb⟩
    intros
    have hU := RdUp.made (C := 100) HM (grownBy_trans hU.1 hwq) hrq (by omega)
    go_wp2
    rw [onlyN_normal]
    go_wp2
    go_ret
    exact ⟨_, rfl, ⟨_, rfl, hsb⟩, by exact RdUp.fin hU (by intro c hU; (repeat (first | with_reducible assumption | refine RdUp.ups ?_ (by with_reducible assumption) | with_reducible refine RdUp.set ?_ (by first | exact Nat.le_refl _ | (simp only []; omega) | (simp; omega)) _ | with_reducible refine RdUp.alloc ?_ _ | with_reducible refine RdUp.drew ?_ | with_reducible exact RdUp.of (Up.refl _)))) (by omega)⟩

end Go.Proofs.YtiiahjnfbhcgmaaGreatDoor

