/- Slices of strings: those that came in, and the laws' helpers that measure, copy and compare them. Conditions: as each says. -/
import Derived.Test.YtnbmkoapohjnmaaWf
import Derived.SliceStrings
namespace Go.Proofs.Ytnbmkoapohjnmaa
set_option linter.unusedVariables false
set_option linter.unusedSimpArgs false
open Go Go.RowKit Go.ChangeShapes

theorem infoStr : (Try.prog.info? 9).map (fun i => (i.zero, i.size, i.bytes)) = some (some (.string ByteArray.empty), 1, 16) := by kernel_rfl
def cellsS (l : List ByteArray) : List Value := l.map Value.string
theorem cellsS_length (l : List ByteArray) : (cellsS l).length = l.length := by simp [cellsS]
/-- A slice of strings that can be read. -/
def ArgS (w : World) (v : Value) (l : List ByteArray) : Prop := ∃ a cap, v = .slice a l.length cap ∧ l.length ≤ maxLen ∧ (∀ s ∈ l, s.size ≤ maxLen) ∧ (0 < l.length → ∃ b off, a = some ⟨b, off, none⟩ ∧ l.length ≤ cap ∧ cap ≤ maxLen ∧ b < w.heap.size ∧ ∀ i s, l[i]? = some s → w.cell? ⟨b, off + i, none⟩ = some (.string s))
theorem ArgS.up {w w' : World} {v : Value} {l : List ByteArray} (h : ArgS w v l) (hu : Up w w') : ArgS w' v l := by
  obtain ⟨a, cap, h1, h2, h2', h3⟩ := h
  refine ⟨a, cap, h1, h2, h2', fun hp => ?_⟩
  obtain ⟨b, off, e1, e2, e3, e4, e5⟩ := h3 hp
  exact ⟨b, off, e1, e2, e3, Nat.lt_of_lt_of_le e4 hu.size, fun i p hi => (hu.cell (p := ⟨b, _, none⟩) e4).trans (e5 i p hi)⟩
def ownS (w : World) (base : Nat) (v : Value) (l : List ByteArray) : Prop := w.ownsRow base 9 1 v l.length (cellsS l)
theorem ArgS.of_own {w : World} {base : Nat} {v : Value} {l : List ByteArray} (h : ownS w base v l) (hs : ∀ s ∈ l, s.size ≤ maxLen) : ArgS w v l := by
  rcases ownsRow_read h with ⟨rfl, h2⟩ | ⟨g, cap, rfl, h1, h2, h3, h4, h5⟩
  · exact ⟨none, 0, by rw [h2], by rw [h2]; exact Nat.zero_le _, hs, fun h => by omega⟩
  · refine ⟨some ⟨g, 0, none⟩, cap, rfl, by omega, hs, fun _ => ⟨g, 0, rfl, h1, h2, h4, fun i x hi => ?_⟩⟩
    rw [Nat.zero_add]
    refine h5 _ _ ?_
    simp [cellsS, hi]
theorem ArgS.at {w : World} {a : Option Addr} {n c : Nat} {l : List ByteArray} (h : ArgS w (.slice a n c) l) {i : Nat} (hi : i < l.length) : ∃ b off, a = some ⟨b, off, none⟩ ∧ b < w.heap.size ∧ w.cell? ⟨b, off + i, none⟩ = some (.string l[i]) ∧ n = l.length ∧ n ≤ c ∧ c ≤ maxLen := by
  obtain ⟨a', c', e, h1, h2, h3⟩ := h
  cases e
  obtain ⟨b, off, e1, e2, e3, e4, e5⟩ := h3 (by omega)
  exact ⟨b, off, e1, e4, e5 i _ (List.getElem?_eq_getElem hi), rfl, e2, e3⟩

theorem open_argS {H : Type} {enc : TypeId × Value → H} {W : World} {fuel : Nat} {a0 : Option Addr} {len cap : Nat} {d : DataW H} {p : List MemPlace}
    (h : DataW.trod enc Try.prog W 0 (fun _ => true) true fuel 40 [.slice a0 len cap] = some (d, p)) (hlt : ∀ x ∈ p, x.block < W.heap.size) : ∃ l, ArgS W (.slice a0 len cap) l := by
  rcases open_strings Try.underlying40 Try.underlying9 (by kernel_rfl) h with ⟨hcs, hx⟩ | ⟨a, len', cap', ss, hcs, _, hl, hm, hz, hx, hcell, hwz⟩
  · simp only [List.cons.injEq, and_true] at hcs
    cases hcs
    exact ⟨[], none, 0, rfl, Nat.zero_le _, by simp, fun h => absurd h (Nat.lt_irrefl _)⟩
  · simp only [List.cons.injEq, and_true] at hcs
    cases hcs
    simp only [Prod.mk.injEq] at hx
    obtain ⟨rfl, rfl⟩ := hx
    simp only [if_true] at hz
    have hlen : (ss.take len).length = len := by rw [List.length_take]; omega
    refine ⟨ss.take len, some a, cap, by rw [hlen], by rw [hlen]; omega, fun s hs => hwz s (List.mem_of_mem_take hs), fun hp => ?_⟩
    rw [hlen] at hp
    obtain ⟨b, off, spot⟩ := a
    have hspot : spot = none := by simpa [Addr.add] using World.cell?_spot (hcell 0 (by omega))
    subst hspot
    refine ⟨b, off, rfl, by rw [hlen]; exact hl, hm, hlt (.cell b off) (by simp only [MemPlace.row, List.mem_map, List.mem_range]; exact ⟨0, by omega, rfl⟩), fun i x hi => ?_⟩
    have hil : i < len := by
      have := (List.getElem?_eq_some_iff.1 hi).1
      rw [hlen] at this; exact this
    have hcj := hcell i (by omega)
    rw [Addr.add_lit] at hcj
    rw [hcj]
    have : i < ss.length := by omega
    simp [List.getElem?_take, hil, this] at hi
    simp [this, hi]

/-- What szStringS counts. -/
def szS (n : Int) : List ByteArray → Int
  | [] => n
  | s :: l => if n - s.size < 0 then -1 else szS (n - s.size) l
theorem szS_ok : ∀ (l : List ByteArray) (n : Int), n ≤ 1048576 → 0 ≤ szS n l → ∀ s ∈ l, s.size ≤ 1048576
  | [], n, _, _, s, hs => by simp at hs
  | x :: l, n, h, h0, s, hs => by
    unfold szS at h0
    split at h0
    · omega
    · rcases List.mem_cons.1 hs with rfl | hs
      · omega
      · exact szS_ok l (n - x.size) (by omega) h0 s hs
def RelSz (T : Int) (l : List ByteArray) (n i : Value) (w wr : World) : Prop := ∃ (y : Int) (j : Nat), n = .int .i64 y ∧ i = .int .i64 j ∧ 0 ≤ y ∧ y ≤ 1048576 ∧ j ≤ l.length ∧ szS y (l.drop j) = T ∧ w = wr

set_option maxRecDepth 100000 in
set_option maxHeartbeats 2000000 in
theorem szStr_any (l : List ByteArray) (v : Value) (w : World) (h : ArgS w v l) :
    Calls Try.prog 19  #[v, .int .i64 1048576] w (fun e w' => w = w' ∧ ∃ r : Int, e = .returned (.int .i64 r) ∧ (0 ≤ r → l.length ≤ 1048576 ∧ ∀ s ∈ l, s.size ≤ 1048576)) := by
  have hat := h
  obtain ⟨a, cap, rfl, hm, hms, -⟩ := h
  unfold maxLen at hm
  by_cases hl : l.length ≤ 1048576
  · have hH : ∃ T, T = szS (1048576 - (l.length : Int)) l := ⟨_, rfl⟩
    obtain ⟨T, hT⟩ := hH
    have HT := Lib.hid hT
    clear hT
    go_enter Try.func19, Try.ntmps19
    go_wp2
    go_loopw [1, 5] (fun n i wr => RelSz T l n i w wr) (fun _ i _ => l.length - (intOf i).toNat)
    case atStart => exact ⟨1048576 - (l.length : Int), 0, rfl, rfl, by omega, by omega, Nat.zero_le _, by rw [List.drop_zero]; exact HT.out.symm, rfl⟩
    case round =>
      obtain ⟨y, j, rfl, rfl, hy0, hy1, hj, htot, rfl⟩ := hrel
      by_cases hlt : j < l.length
      · obtain ⟨b, off, rfl, hbl, hx, -, hnc, hcm⟩ := hat.at hlt
        have hD : l.drop j = l[j] :: l.drop (j + 1) := List.drop_eq_getElem_cons hlt
        rw [hD] at htot
        have hsm := hms _ (List.getElem_mem hlt)
        unfold maxLen at hsm hcm
        have HH := Lib.hid htot
        clear htot hD
        generalize l[j] = s at *
        by_cases hneg : y - s.size < 0
        · go_wp2
          go_ret
          exact ⟨rfl, -1, rfl, fun h => by omega⟩
        · go_wp2
          go_roundw
          case rel => exact ⟨y - s.size, j + 1, rfl, by go_num, by omega, by omega, by omega, by have := HH.out; unfold szS at this; rw [if_neg hneg] at this; exact this, rfl⟩
          case measure => simp [intOf]; omega
      · have e : j = l.length := by omega
        subst e
        rw [List.drop_length] at htot
        go_wp2
        go_ret
        refine ⟨rfl, y, rfl, fun h => ⟨hl, szS_ok l (1048576 - (l.length : Int)) (by omega) ?_⟩⟩
        rw [← HT.out, ← htot]
        exact h
  · go_enter Try.func19, Try.ntmps19
    go_wp2
    go_ret
    exact ⟨rfl, -1, rfl, fun h => by omega⟩

def midS (l : List ByteArray) (k : Nat) : List ByteArray := l.take k ++ List.replicate (l.length - k) ByteArray.empty
theorem midS_all (l : List ByteArray) : midS l l.length = l := by simp [midS]
theorem midS_zero (l : List ByteArray) : midS l 0 = List.replicate l.length ByteArray.empty := by simp [midS]
theorem midS_set (l : List ByteArray) (k : Nat) (h : k < l.length) : (cellsS (midS l k)).set k (.string l[k]) = cellsS (midS l (k + 1)) := by
  have e : List.replicate (l.length - k) ByteArray.empty = ByteArray.empty :: List.replicate (l.length - (k + 1)) ByteArray.empty := by
    rw [show l.length - k = (l.length - (k + 1)) + 1 by omega]; rfl
  rw [midS, midS, e, List.take_succ_eq_append_getElem h]
  unfold cellsS
  simp only [List.map_append, List.map_cons, List.map_nil, List.append_assoc, List.cons_append, List.nil_append]
  rw [List.set_append_right _ _ (by simp; omega)]
  simp [List.length_take, Nat.min_eq_left (Nat.le_of_lt h)]
theorem midS_at (l : List ByteArray) (k : Nat) (h : k < l.length) : (cellsS (midS l k))[k]? = some (.string ByteArray.empty) := by
  unfold cellsS midS
  rw [List.getElem?_map, List.getElem?_append_right (by simp; omega), List.getElem?_replicate, if_pos (by simp; omega)]
  rfl
def RelTS (l : List ByteArray) (w : World) (i : Value) (wr : World) : Prop := ∃ k : Nat, k ≤ l.length ∧ i = .int .i64 k ∧ Up w wr ∧ wr.ownsRow w.heap.size 9 1 (.slice (some ⟨w.heap.size, 0, none⟩) l.length l.length) l.length (cellsS (midS l k))
theorem made_listS (n : Nat) : (madeCells #[Value.string ByteArray.empty] n).toList.take n = List.replicate n (Value.string ByteArray.empty) := by
  apply List.ext_getElem
  · simp [madeCells]
  · intro i h1 h2
    simp [madeCells, Nat.mod_one]
theorem made_strs (w : World) (n : Nat) (hn : n ≤ maxLen) : (w.alloc (.cells (madeCells #[.string ByteArray.empty] n) 9)).ownsRow w.heap.size 9 1 (.slice (some ⟨w.heap.size, 0, none⟩) n n) n (cellsS (List.replicate n ByteArray.empty)) := by
  refine ⟨by simp [cellsS], .inr ⟨w.heap.size, n, _, rfl, Nat.le_refl _, (MapKept.heap_alloc w _).1, Nat.le_refl _, hn, ?_, ?_⟩⟩
  · simp [madeCells]
  · rw [Nat.mul_one, made_listS]; simp [cellsS]

set_option maxRecDepth 100000 in
set_option maxHeartbeats 2000000 in
theorem toStr_any (l : List ByteArray) (v : Value) (w : World) (h : ArgS w v l) (hl : l.length ≤ 1048576) :
    Calls Try.prog 21  #[v] w (fun e w' => ∃ u, e = .returned u ∧ ownS w' w.heap.size u l ∧ Up w w') := by
  obtain ⟨i0, hi0, hz0, hz1, hz2⟩ := info_parts infoStr
  have hmk : ∀ w : World, (Instr.makeSlice 40 (.int .i64 (l.length : Int)) (.int .i64 (l.length : Int))).run Try.prog w = .ok (.slice (some ⟨w.heap.size, 0, none⟩) l.length l.length) (w.alloc (.cells (madeCells #[.string ByteArray.empty] l.length) 9)) := fun w => by
    have := run_make (P := Try.prog) w 40 9 i0 _ Try.underlying40 hi0 hz0 .i64 .i64 l.length l.length (by omega) (Int.le_refl _) (by rw [hz2]; omega) (by omega)
    rw [hz1] at this
    simpa [Value.cells] using this
  clear hz0 hz1 hz2 hi0
  have hat := h
  obtain ⟨a, cap, rfl, hm, hms, -⟩ := h
  go_enter Try.func21, Try.ntmps21
  go_wp2
  go_loopw [4] (fun i wr => RelTS l w i wr) (fun i _ => l.length - (intOf i).toNat)
  case atStart => exact ⟨0, Nat.zero_le _, rfl, (Up.refl _).alloc _, by rw [midS_zero]; exact made_strs w _ hm⟩
  case round =>
    obtain ⟨k, hk, rfl, hup, ho⟩ := hrel
    by_cases hlt : k < l.length
    · obtain ⟨b, off, rfl, hbl, hx, -, hnc, hcm⟩ := (hat.up hup).at hlt
      have d0 := ownsRow_cell ho (midS_at l k hlt)
      have f0 := ownsRow_free ho k
      have HM := Lib.hid (midS_set l k hlt)
      have hrl : w.heap.size < wr.heap.size := (ho.lt _ rfl).2
      have hbn : b < w.heap.size := by
        obtain ⟨a2, c2, e2, _, _, h3⟩ := hat
        cases e2
        obtain ⟨b', off', e3, _, _, e4, _⟩ := h3 (by omega)
        cases e3
        exact e4
      generalize l[k] = s at *
      unfold maxLen at hcm
      go_wp2
      go_roundw
      case rel => exact ⟨k + 1, by omega, by go_num, hup.set (p := ⟨w.heap.size, k, none⟩) (Nat.le_refl _) _, by rw [← HM.out]; exact ownsRow_set ho k _⟩
      case measure => simp [intOf]; omega
    · have e : k = l.length := by omega
      subst e
      rw [midS_all] at ho
      go_wp2
      go_ret
      exact ⟨_, rfl, ho, hup⟩

def RelEqS (n : Nat) (i : Value) (w wr : World) : Prop := ∃ j : Nat, i = .int .i64 j ∧ j ≤ n ∧ Up w wr
set_option maxRecDepth 100000 in
set_option maxHeartbeats 1000000 in
theorem eqStr_any (l : List ByteArray) (va vb : Value) (w : World) (ha : ArgS w va l) (hb : ArgS w vb l) :
    Calls Try.prog 23  #[va, vb] w (Same (.bool true) w) := by
  have hat := ha; have hbt := hb
  obtain ⟨a1, c1, rfl, hm, -, -⟩ := ha
  obtain ⟨a2, c2, rfl, -, -, -⟩ := hb
  unfold maxLen at hm
  go_enter Try.func23, Try.ntmps23
  go_wp2
  go_loopw [5] (fun i wr => RelEqS l.length i w wr) (fun i _ => l.length - (intOf i).toNat)
  case atStart => exact ⟨0, rfl, Nat.zero_le _, Up.refl _⟩
  case round =>
    obtain ⟨j, rfl, hj, hup⟩ := hrel
    by_cases hlt : j < l.length
    · obtain ⟨b1, o1, rfl, hbl1, hx1, -, hn1, hc1⟩ := (hat.up hup).at hlt
      obtain ⟨b2, o2, rfl, hbl2, hx2, -, hn2, hc2⟩ := (hbt.up hup).at hlt
      generalize l[j] = s at *
      unfold maxLen at hc1 hc2
      go_wp2
      refine wp_region_up 9 (by kernel_rfl) (by kernel_rfl) ?_
      simp only [List.take, List.drop]
      repeat (refine wpUp_step (fun K hK => ?_); go_simp; (try simp only [↓IntWalk.iteOmega]); first
        | (refine hK _ _ ?_; clear hK K)
        | (apply stepU_c
           · intro wq hwq; (have hbq := bcell hwq; (repeat (first | refine fills_no (by rfl) ?_ | refine fills_yes (by rfl) (fun vq hvq => ?_))); simp only [List.filter_nil, fills]; unfold upAt; (try ((have hx3 := (hwq.cell (p := ⟨b1, o1 + j, none⟩) hbl1).trans hx1; have hx4 := (hwq.cell (p := ⟨b2, o2 + j, none⟩) hbl2).trans hx2))); go_simp; (try go_bits); (try simp only [↓IntWalk.iteOmega]); (try (rw [dif_pos (by omega)]; go_simp; try go_bits)); first | exact upOut_value)
           go_simp; refine hK _ _ ?_; clear hK K))
      refine wpUp_nil (fun wq hwq => ?_)
      simp only [fills]
      go_wp2
      go_roundw
      case rel => exact ⟨j + 1, by go_num, by omega, by (repeat (first | with_reducible exact Up.refl _ | with_reducible assumption | with_reducible refine Up.set ?_ (by first | exact Nat.le_refl _ | (simp only []; omega) | (simp; omega)) _ | with_reducible refine Up.alloc ?_ _ | with_reducible refine Up.drew ?_ | refine Up.trans ?_ (by with_reducible assumption)))⟩
      case measure => simp [intOf]; omega
    · go_wp2
      go_ret
      exact ⟨rfl, hup⟩

end Go.Proofs.Ytnbmkoapohjnmaa
