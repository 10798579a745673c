/- Walks of the reference's functions on settings and on data that fits. Conditions: the setting is valid where it says so. -/
import Derived.Test.YtnbmkoapohjnmaaSet1
namespace Go.Proofs.Ytnbmkoapohjnmaa
set_option linter.unusedVariables false
set_option linter.unusedSimpArgs false
open Go.RowKit

set_option maxRecDepth 100000 in
set_option maxHeartbeats 1000000 in
theorem l1Clear_any (s : SetD) (w : World) (h : setOk s = true) :
    Calls Try.prog 77  #[setV s] w (Same (.int .i64 (clr s)) w) := by
  obtain ⟨o, l, m⟩ := s
  obtain ⟨-, ⟨h1, h2⟩, -, -⟩ := setOk_bd h
  simp only at h1 h2
  obtain ⟨n, rfl⟩ : ∃ n : Nat, l = n := ⟨l.toNat, by omega⟩
  clear h
  have e : Hid (((2 ^ n : Nat) : Int) = (clr ⟨o, n, m⟩ : Nat)) := rfl
  simp only [setV]
  go_enter Try.func77, Try.ntmps77
  go_wp2_with ((go_at_call 108; (with_reducible refine (l1Two_any n _ (by omega)).mono ?_); rintro e w' ⟨rfl, rfl⟩))
  go_ret
  refine ⟨ret_int e.out, ?_⟩
  (repeat (first | exact Up.refl _ | refine Up.alloc ?_ _ | refine Up.drew ?_ | refine Up.set ?_ (by first | exact Nat.le_refl _ | (simp; done) | (simp; omega)) _ | refine Up.trans ?_ (by with_reducible assumption)))
set_option maxRecDepth 100000 in
set_option maxHeartbeats 1000000 in
theorem l1End_any (s : SetD) (w : World) (h : setOk s = true) :
    Calls Try.prog 92  #[setV s] w (Same (.int .i64 ((clr s : Int) + 1)) w) := by
  have hb := clr_bd h
  obtain ⟨o, l, m⟩ := s
  obtain ⟨-, ⟨h1, h2⟩, -, -⟩ := setOk_bd h
  simp only at h1 h2
  obtain ⟨n, rfl⟩ : ∃ n : Nat, l = n := ⟨l.toNat, by omega⟩
  clear h
  have e : Hid (((2 ^ n : Nat) : Int) = (clr ⟨o, n, m⟩ : Nat)) := rfl
  generalize clr ⟨o, (n : Int), m⟩ = c at *
  have hb1 := hb.1
  have hb2 := hb.2.1
  clear hb
  simp only [setV]
  go_enter Try.func92, Try.ntmps92
  go_wp2_with ((go_at_call 108; (with_reducible refine (l1Two_at n _ c rfl e.out (by omega) _).mono ?_); rintro e w' ⟨rfl, rfl⟩))
  go_ret
  refine ⟨rfl, ?_⟩
  (repeat (first | exact Up.refl _ | refine Up.alloc ?_ _ | refine Up.drew ?_ | refine Up.set ?_ (by first | exact Nat.le_refl _ | (simp; done) | (simp; omega)) _ | refine Up.trans ?_ (by with_reducible assumption)))
set_option maxRecDepth 100000 in
set_option maxHeartbeats 1000000 in
theorem l1Last_any (s : SetD) (w : World) (h : setOk s = true) :
    Calls Try.prog 91  #[setV s] w (Same (.int .i64 (lastC s : Nat)) w) := by
  have hb := clr_bd h
  obtain ⟨o, l, m⟩ := s
  obtain ⟨-, ⟨h1, h2⟩, h3, h4⟩ := setOk_bd h
  simp only at h1 h2 h3 h4
  obtain ⟨n, rfl⟩ : ∃ n : Nat, m = n := ⟨m.toNat, by omega⟩
  clear h
  have hp : 0 < 2 ^ n := Nat.pow_pos (by decide)
  have e : Hid (((2 ^ n : Nat) : Int) = ((lastC ⟨o, l, n⟩ + 1 : Nat) : Int)) := by
    show ((2 ^ n : Nat) : Int) = ((2 ^ n - 1 + 1 : Nat) : Int)
    omega
  generalize lastC ⟨o, l, (n : Int)⟩ = c at *
  have hb1 := hb.2.2.2
  clear hb hp
  simp only [setV]
  go_enter Try.func91, Try.ntmps91
  go_wp2_with ((go_at_call 108; (with_reducible refine (l1Two_at n _ _ rfl e.out (by omega) _).mono ?_); rintro e w' ⟨rfl, rfl⟩))
  go_ret
  refine ⟨ret_int (by omega), ?_⟩
  (repeat (first | exact Up.refl _ | refine Up.alloc ?_ _ | refine Up.drew ?_ | refine Up.set ?_ (by first | exact Nat.le_refl _ | (simp; done) | (simp; omega)) _ | refine Up.trans ?_ (by with_reducible assumption)))

theorem ba_len (s : ByteArray) : s.data.toList.length = s.size := by simp
/-- All bytes are literals. -/
def litsL (c : Nat) (l : List UInt8) : Bool := l.all fun b => decide (b.toNat < c)
theorem litsL_no {c : Nat} {l : List UInt8} {k : Nat} (h : k < l.length) (hn : ¬ l[k].toNat < c) : litsL c l = false := by
  unfold litsL; rw [List.all_eq_false]; exact ⟨l[k], List.getElem_mem h, by simp; omega⟩
theorem litsL_yes {c : Nat} {l : List UInt8} (h : ∀ k (hk : k < l.length), l[k].toNat < c) : litsL c l = true := by
  unfold litsL; rw [List.all_eq_true]
  intro b hb
  obtain ⟨k, hk, rfl⟩ := List.mem_iff_getElem.1 hb
  simpa using h k hk
theorem litsL_get {c : Nat} {l : List UInt8} (h : litsL c l = true) {k : Nat} (hk : k < l.length) : l[k].toNat < c := by
  unfold litsL at h
  rw [List.all_eq_true] at h
  simpa using h _ (List.getElem_mem hk)

/-- A setting lies in the block b. -/
def SetAt (b : Nat) (o l m : Int) (w : World) : Prop := w.heap[b]? = some (.cells #[.int .i64 o, .int .i64 l, .int .i64 m] 29)
theorem SetAt.cells {b : Nat} {o l m : Int} {w : World} (h : SetAt b o l m w) : b < w.heap.size ∧ w.cell? ⟨b, 0, none⟩ = some (.int .i64 o) ∧ w.cell? ⟨b, 1, none⟩ = some (.int .i64 l) ∧ w.cell? ⟨b, 2, none⟩ = some (.int .i64 m) :=
  ⟨(Array.getElem?_eq_some_iff.1 h).1, box_cell h 0, box_cell h 1, box_cell h 2⟩
def RelL (c : Nat) (s : ByteArray) (o l m : Int) (w : World) (i : Value) (wr : World) : Prop := ∃ k : Nat, k ≤ s.size ∧ i = .int .i64 k ∧ Up w wr ∧ SetAt w.heap.size o l m wr ∧ (∀ j (hj : j < s.data.toList.length), j < k → (s.data.toList[j]).toNat < c)

set_option maxRecDepth 100000 in
set_option maxHeartbeats 1000000 in
theorem l1Fits_any (o l m : Int) (s : ByteArray) (w : World) (h : setOk ⟨o, l, m⟩ = true) (hs : s.size ≤ 1073741824) :
    Calls Try.prog 63  #[.agg #[.int .i64 o, .int .i64 l, .int .i64 m], .string s] w (Same (.bool (litsL (clr ⟨o, l, m⟩) s.data.toList)) w) := by
  have cC := fun w => l1Clear_any ⟨o, l, m⟩ w h
  obtain ⟨hb1, hb2, -, -⟩ := clr_bd h
  generalize clr ⟨o, l, m⟩ = c at *
  unfold setV at cC
  clear h
  go_enter Try.func63, Try.ntmps63
  go_wp2
  go_loopw [5] (fun i wr => RelL c s o l m w i wr) (fun i _ => s.size - (intOf i).toNat)
  case atStart => exact ⟨0, Nat.zero_le _, rfl, by (repeat (first | exact Up.refl _ | refine Up.alloc ?_ _ | refine Up.drew ?_ | refine Up.set ?_ (by first | exact Nat.le_refl _ | (simp; done) | (simp; omega)) _ | refine Up.trans ?_ (by with_reducible assumption))), (MapKept.heap_alloc w _).1, fun j hj h => absurd h (Nat.not_lt_zero _)⟩
  case round =>
    obtain ⟨k, hk, rfl, hup, hset, hall⟩ := hrel
    obtain ⟨b0, b1, b2, b3⟩ := hset.cells
    have HB := Lib.hid hset
    clear hset
    have HA := Lib.hid hall
    clear hall
    by_cases hlt : k < s.size
    · have hu := u8_bd s[k]
      have hl : k < s.data.toList.length := by simpa using hlt
      have e : s[k] = s.data.toList[k] := rfl
      by_cases hc : s[k].toNat < c
      · have hN : Hid (∀ j (hj : j < s.data.toList.length), j < k + 1 → (s.data.toList[j]).toNat < c) := fun j hj hjk => by
          rcases Nat.lt_or_ge j k with h | h
          · exact HA.out j hj h
          · have : j = k := by omega
            subst this; exact hc
        clear e
        go_wp2
        refine wp_region_up 7 (by kernel_rfl) (by kernel_rfl) ?_
        simp only [List.take, List.drop]
        repeat (refine wpUp_step (fun K hK => ?_); go_simp; (try simp only [↓IntWalk.iteOmega]); first
          | (refine hK _ _ ?_; clear hK K)
          | (apply stepU_c
             · intro wq hwq; (have hbq := bcell hwq; (repeat (first | refine fills_no (by rfl) ?_ | refine fills_yes (by rfl) (fun vq hvq => ?_))); simp only [List.filter_nil, fills]; unfold upAt; go_simp; (try go_bits); (try simp only [↓IntWalk.iteOmega]); (try (rw [dif_pos (by omega)]; go_simp; try go_bits)); first | exact upOut_value | (apply upOut_call; (go_at_call 77; exact cC _)) | (apply upOut_eq; (go_at_call 77; exact cC _)))
             go_simp; refine hK _ _ ?_; clear hK K))
        refine wpUp_nil (fun wq hwq => ?_)
        simp only [fills]
        go_wp2
        go_roundw
        case rel => exact ⟨k + 1, by omega, by go_num, by (repeat (first | exact Up.refl _ | refine Up.alloc ?_ _ | refine Up.drew ?_ | refine Up.set ?_ (by first | exact Nat.le_refl _ | (simp; done) | (simp; omega)) _ | refine Up.trans ?_ (by with_reducible assumption))), box_up hwq HB.out, hN.out⟩
        case measure => simp [intOf]; omega
      · have hN : Hid (litsL c s.data.toList = false) := litsL_no hl (by rw [← e]; exact hc)
        clear e
        go_wp2
        refine wp_region_up 7 (by kernel_rfl) (by kernel_rfl) ?_
        simp only [List.take, List.drop]
        repeat (refine wpUp_step (fun K hK => ?_); go_simp; (try simp only [↓IntWalk.iteOmega]); first
          | (refine hK _ _ ?_; clear hK K)
          | (apply stepU_c
             · intro wq hwq; (have hbq := bcell hwq; (repeat (first | refine fills_no (by rfl) ?_ | refine fills_yes (by rfl) (fun vq hvq => ?_))); simp only [List.filter_nil, fills]; unfold upAt; go_simp; (try go_bits); (try simp only [↓IntWalk.iteOmega]); (try (rw [dif_pos (by omega)]; go_simp; try go_bits)); first | exact upOut_value | (apply upOut_call; (go_at_call 77; exact cC _)) | (apply upOut_eq; (go_at_call 77; exact cC _)))
             go_simp; refine hK _ _ ?_; clear hK K))
        refine wpUp_nil (fun wq hwq => ?_)
        simp only [fills]
        go_wp2
        go_ret
        refine ⟨ret_bool hN.out.symm, ?_⟩
        (repeat (first | exact Up.refl _ | refine Up.alloc ?_ _ | refine Up.drew ?_ | refine Up.set ?_ (by first | exact Nat.le_refl _ | (simp; done) | (simp; omega)) _ | refine Up.trans ?_ (by with_reducible assumption)))
    · have hN : Hid (litsL c s.data.toList = true) := litsL_yes fun j hj => HA.out j hj (by rw [ba_len] at hj; omega)
      go_wp2
      go_ret
      refine ⟨ret_bool hN.out.symm, ?_⟩
      (repeat (first | exact Up.refl _ | refine Up.alloc ?_ _ | refine Up.drew ?_ | refine Up.set ?_ (by first | exact Nat.le_refl _ | (simp; done) | (simp; omega)) _ | refine Up.trans ?_ (by with_reducible assumption)))

end Go.Proofs.Ytnbmkoapohjnmaa
