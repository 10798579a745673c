/- Walks of TouchedBlocks, the program's and the reference's. Conditions: the string's length is below 2^30. -/
import Derived.Test.YtaneilegnmnfpaaPlaces
namespace Go.Proofs.Ytaneilegnmnfpaa
set_option linter.unusedVariables false
set_option linter.unusedSimpArgs false
open Go.RowKit

/-- Whether block number i has data of the range. -/
def hitB (l : List BlkD) (lo hi : Int) (i : Nat) : Bool := decide (sizeSum (l.take i) < hi) && decide (lo < sizeSum (l.take (i + 1))) && decide (lo < hi)
def touchK (l : List BlkD) (lo hi : Int) (k : Nat) : List Int := ((List.range k).filter (hitB l lo hi)).map fun (i : Nat) => (i : Int)
theorem touchK_hit {l : List BlkD} {lo hi : Int} {k : Nat} (h : hitB l lo hi k = true) : touchK l lo hi (k + 1) = touchK l lo hi k ++ [(k : Int)] := by simp [touchK, List.range_succ, List.filter_append, h]
theorem touchK_miss {l : List BlkD} {lo hi : Int} {k : Nat} (h : hitB l lo hi k = false) : touchK l lo hi (k + 1) = touchK l lo hi k := by simp [touchK, List.range_succ, List.filter_append, h]
theorem touchK_length (l : List BlkD) (lo hi : Int) (k : Nat) : (touchK l lo hi k).length ≤ k := by
  have := List.length_filter_le (hitB l lo hi) (List.range k)
  simp [touchK] at *; exact this
def contTouch (s : ByteArray) (lo hi : Int) : List Int := match contBlocks s with | none => [] | some l => touchK l lo hi l.length
theorem hitB_iff {l : List BlkD} {lo hi : Int} {k : Nat} : hitB l lo hi k = true ↔ sizeSum (l.take k) < hi ∧ lo < sizeSum (l.take (k + 1)) ∧ lo < hi := by simp [hitB, and_assoc]
theorem hitB_not {l : List BlkD} {lo hi : Int} {k : Nat} : hitB l lo hi k = false ↔ ¬ (sizeSum (l.take k) < hi ∧ lo < sizeSum (l.take (k + 1)) ∧ lo < hi) := by rw [← hitB_iff]; simp
theorem cellsI_snoc (l : List Int) (x : Int) : cellsI (l ++ [x]) = cellsI l ++ [.int .i64 x] := by simp [cellsI]
theorem oneInt (x : Int) : ∀ u ∈ [Value.int .i64 x], u.oneCell' = true := by
  intro u hu; simp at hu; subst hu; rfl

def RelT (l : List BlkD) (lo hi : Int) (w : World) (v t i : Value) (wr : World) : Prop := ∃ k : Nat, k ≤ l.length ∧ i = .int .i64 k ∧ t = .int .i64 (sizeSum (l.take k)) ∧ wr.ownsRow w.heap.size 3 1 v (touchK l lo hi k).length (cellsI (touchK l lo hi k)) ∧ Up w wr

def TouchPost (s : ByteArray) (lo hi : Int) (w : World) (e : Ending) (w' : World) : Prop := ∃ v, e = .returned v ∧ w'.ownsRow w.heap.size 3 1 v (contTouch s lo hi).length (cellsI (contTouch s lo hi)) ∧ Up w w'

set_option maxRecDepth 100000 in
set_option maxHeartbeats 2000000 in
theorem touchI_any (s : ByteArray) (lo hi : Int) (w : World) (hs : s.size ≤ 1073741824) :
    Calls Try.prog 31 #[.string s, .int .i64 lo, .int .i64 hi] w (TouchPost s lo hi w) := by
  obtain ⟨i0, hi0, hz0, hz1, hz2⟩ := info_parts infoInt
  unfold TouchPost contTouch
  cases hc : contBlocks s with
  | none =>
    have cP := contI_none hc hs
    clear hc
    go_enter Try.func31, Try.ntmps31
    go_wp2_with (go_at_call 36; (with_reducible refine (cP _).mono ?_); rintro e w1 ⟨v, rfl, hown, U1⟩)
    go_ret
    exact ⟨_, rfl, World.ownsRow_nil _ _ _ _, U1⟩
  | some l =>
    have cP := contI_some hc hs
    have hok := contBlocks_ok hc
    have hl40 := hok.1
    clear hc
    go_enter Try.func31, Try.ntmps31
    go_wp2_with (go_at_call 36; (with_reducible refine (cP _).mono ?_); rintro e w1 ⟨v, rfl, hownB, U1⟩; obtain ⟨a, cap, rfl, hm, hsome⟩ := ownsRow_any hownB)
    go_loopw [9, 10, 23] (fun v t i wr => RelT l lo hi w1 v t i wr) (fun _ _ i _ => l.length - (intOf i).toNat)
    case atStart => exact ⟨0, Nat.zero_le _, rfl, rfl, World.ownsRow_nil _ _ _ _, Up.refl _⟩
    case round =>
      obtain ⟨k, hk, rfl, rfl, hown, hup⟩ := hrel
      have htl := touchK_length l lo hi k
      have hsz := hup.size
      have hlen : (l.take k).length ≤ 40 := by simp; omega
      obtain ⟨hb1, hb2⟩ := sizeSum_bd (accOk_take hok k)
      have hb3 : sizeSum (l.take k) ≤ 2560 := by omega
      clear hb2 hlen
      by_cases hlt : k < l.length
      · obtain ⟨g, rfl, hnc, hcm, hbg, hg, hcells⟩ := hsome (by omega)
        obtain ⟨c0, c1, c2, c3⟩ := blk_cells (w := wr) (fun j u hj => (hup.cell (p := ⟨g, j, none⟩) hg).trans (hcells j u hj)) hlt
        obtain ⟨hs1, hs2, _⟩ := (hok.2 l[k] (List.getElem_mem hlt))
        have HS : Hid (sizeSum (l.take (k + 1)) = sizeSum (l.take k) + l[k].size) := sizeSum_take hlt
        clear hcells
        cases hh : hitB l lo hi k
        · have HT := Lib.hid (touchK_miss hh)
          have hh' := hitB_not.1 hh
          rw [HS.out] at hh'
          clear hh
          generalize sizeSum (l.take k) = S at *
          generalize l[k].size = Z at *
          by_cases q1 : S < lo
          all_goals by_cases q2 : hi < S + Z
          all_goals
            first
            | (exfalso; omega)
            | go_wp2
              go_roundw
              case rel => exact ⟨k + 1, by omega, by go_num, by rw [HS.out], by rw [HT.out]; exact hown.alloc _, hup.alloc _⟩
              case measure => simp [intOf]; omega
        · have HT := Lib.hid (touchK_hit hh)
          obtain ⟨q1, q2, q3⟩ := hitB_iff.1 hh
          rw [HS.out] at q2
          clear hh
          generalize sizeSum (l.take k) = S at *
          generalize l[k].size = Z at *
          by_cases r1 : S < lo
          all_goals by_cases r2 : hi < S + Z
          all_goals
            go_wp2_with (at_builtin; refine wpList_append_own _ rfl _ _ 43 rfl w1.heap.size 3 i0 (.int .i64 0) 1 8 Try.underlying43 hi0 hz0 hz1 hz2 rfl (by decide) _ _ _ rfl ((hown.alloc _).alloc _) ⟨wr.heap.size + 1, 0, none⟩ 1 1 [.int .i64 k] rfl rfl (new_cells [.int .i64 k] _ (size_alloc _ _).symm) (oneInt _) (by unfold maxLen; omega) (by omega) (by simp; omega) ?_; rintro v2 w2 hown2 hgr2 -)
            go_roundw
            case rel => exact ⟨k + 1, by omega, by go_num, by rw [HS.out], by rw [HT.out, cellsI_snoc, List.length_append]; exact hown2, ((hup.alloc _).alloc _).grown hgr2 (fun x hx => (hown.lt x hx).1)⟩
            case measure => simp [intOf]; omega
      · have e : k = l.length := by omega
        subst e
        go_wp2
        go_ret
        exact ⟨_, rfl, ownsRow_base hown U1.size, U1.trans hup⟩

def RelU (l : List BlkD) (lo hi : Int) (w : World) (vb vp : Value) (v i : Value) (wr : World) : Prop := ∃ k : Nat, k ≤ l.length ∧ i = .int .i64 k ∧ wr.ownsRow w.heap.size 3 1 v (touchK l lo hi k).length (cellsI (touchK l lo hi k)) ∧ wr.ownsRow 0 27 4 vb l.length (cellsB l) ∧ wr.ownsRow 0 67 2 vp l.length (cellsP (placesK l l.length)) ∧ Up w wr

set_option maxRecDepth 100000 in
set_option maxHeartbeats 4000000 in
theorem touchS_any (s : ByteArray) (lo hi : Int) (w : World) (hs : s.size ≤ 1073741824) :
    Calls Try.prog 30 #[.string s, .int .i64 lo, .int .i64 hi] w (TouchPost s lo hi w) := by
  obtain ⟨i0, hi0, hz0, hz1, hz2⟩ := info_parts infoInt
  unfold TouchPost contTouch
  cases hc : contBlocks s with
  | none =>
    have cP := contS_none hc hs
    clear hc
    go_enter Try.func30, Try.ntmps30
    go_wp2_with (first | (go_at_call 59; (with_reducible refine (cP _).mono ?_); rintro e w1 ⟨v, rfl, hownB, U1⟩; obtain ⟨a, cap, rfl, -, -⟩ := ownsRow_any hownB) | (go_at_call 62; (with_reducible refine (placesS_any [] _ _ _ hownB accOk_nil).mono ?_); rintro e w2 ⟨vp, rfl, hownP, U2⟩))
    go_loopw [7, 11] (fun v i wr => v = .slice (some ⟨w.heap.size, 0, none⟩) 0 0 ∧ i = .int .i64 0 ∧ wr = w2) (fun _ _ _ => 0)
    case atStart => exact ⟨rfl, rfl, rfl⟩
    case round =>
      obtain ⟨rfl, rfl, rfl⟩ := hrel
      go_wp2
      go_ret
      exact ⟨_, rfl, ownsRow_up (ownsRow_up (World.ownsRow_made w #[] 0 (Nat.le_refl _) (by unfold maxLen; omega) rfl) U1) U2, ((Up.refl _).alloc _).trans (U1.trans U2)⟩
  | some l =>
    have cP := contS_some hc hs
    have hok := contBlocks_ok hc
    have hl40 := hok.1
    clear hc
    go_enter Try.func30, Try.ntmps30
    go_wp2_with (first | (go_at_call 59; (with_reducible refine (cP _).mono ?_); rintro e w1 ⟨v, rfl, hownB, U1⟩; obtain ⟨a, cap, rfl, -, -⟩ := ownsRow_any hownB) | (go_at_call 62; (with_reducible refine (placesS_any l _ _ _ hownB hok).mono ?_); rintro e w2 ⟨vp, rfl, hownP, U2⟩; obtain ⟨ap, capp, rfl, -, -⟩ := ownsRow_any hownP))
    go_loopw [7, 11] (fun v i wr => RelU l lo hi w (.slice a l.length cap) (.slice ap l.length capp) v i wr) (fun _ i _ => l.length - (intOf i).toNat)
    case atStart => exact ⟨0, Nat.zero_le _, rfl, ownsRow_up (ownsRow_up (World.ownsRow_made w #[] 0 (Nat.le_refl _) (by unfold maxLen; omega) rfl) U1) U2, ownsRow_up (ownsRow_base hownB (Nat.zero_le _)) U2, ownsRow_base hownP (Nat.zero_le _), ((Up.refl _).alloc _).trans (U1.trans U2)⟩
    case round =>
      obtain ⟨k, hk, rfl, hO, hB, hP, hup⟩ := hrel
      have htl := touchK_length l lo hi k
      have hsz := hup.size
      have hlen : (l.take k).length ≤ 40 := by simp; omega
      obtain ⟨hb1, hb2⟩ := sizeSum_bd (accOk_take hok k)
      have hb3 : sizeSum (l.take k) ≤ 2560 := by omega
      clear hb2 hlen
      by_cases hlt : k < l.length
      · obtain ⟨g, rfl, hnc, hcm, hbg, hg⟩ := ownsRow_slot hB (by omega)
        obtain ⟨gp, rfl, hncp, hcmp, hbgp, hgp⟩ := ownsRow_slot hP (by omega)
        obtain ⟨c0, c1, c2, c3⟩ := blk_cells (w := wr) (fun j u hj => ownsRow_cell hB hj) hlt
        obtain ⟨d0, d1⟩ := plc_cells (w := wr) (fun j u hj => ownsRow_cell hP hj) (placesK_get l l.length k hlt)
        obtain ⟨hs1, hs2, _⟩ := (hok.2 l[k] (List.getElem_mem hlt))
        have HS : Hid (sizeSum (l.take (k + 1)) = sizeSum (l.take k) + l[k].size) := sizeSum_take hlt
        clear c0 c1 c3 d0
        simp only at d1
        cases hh : hitB l lo hi k
        · have HT := Lib.hid (touchK_miss hh)
          have hh' := hitB_not.1 hh
          rw [HS.out] at hh'
          clear hh
          generalize sizeSum (l.take k) = S at *
          generalize l[k].size = Z at *
          by_cases q1 : S < hi
          all_goals by_cases q2 : lo < S + Z
          all_goals by_cases q3 : lo < hi
          all_goals
            first
            | (exfalso; omega)
            | (first | have e1 := decide_eq_true q1 | have e1 := decide_eq_false q1)
              (first | have e2 := decide_eq_true q2 | have e2 := decide_eq_false q2)
              (first | have e3 := decide_eq_true q3 | have e3 := decide_eq_false q3)
              go_wp2
              refine wp_region_up 27 (by kernel_rfl) (by kernel_rfl) ?_
              simp only [List.take, List.drop]
              repeat (refine wpUp_step (fun K hK => ?_); go_simp; (try simp only [↓IntWalk.iteOmega]); first
                | (refine hK _ _ ?_; clear hK K)
                | (apply stepU_c
                   · intro wq hwq; (have hbq := bcell hwq; (repeat (first | refine fills_no (by rfl) ?_ | refine fills_yes (by rfl) (fun vq hvq => ?_))); simp only [List.filter_nil, fills]; unfold upAt; (try ((have x1 := hbq.1 gp (k * 2 + 1) hgp; have x2 := hbq.1 g (k * 4 + 2) hg))); go_simp; (try go_bits); (try simp only [↓IntWalk.iteOmega]); (try (rw [dif_pos (by omega)]; go_simp; try go_bits)); first | exact upOut_value)
                   go_simp; refine hK _ _ ?_; clear hK K))
              refine wpUp_nil (fun wq hwq => ?_)
              simp only [fills]
              go_wp2
              go_roundw
              case rel => exact ⟨k + 1, by omega, by go_num, by rw [HT.out]; exact ownsRow_up hO hwq, ownsRow_up hB hwq, ownsRow_up hP hwq, hup.trans hwq⟩
              case measure => simp [intOf]; omega
        · have HT := Lib.hid (touchK_hit hh)
          obtain ⟨q1, q2, q3⟩ := hitB_iff.1 hh
          rw [HS.out] at q2
          clear hh
          generalize sizeSum (l.take k) = S at *
          generalize l[k].size = Z at *
          go_wp2
          refine wp_region_up 27 (by kernel_rfl) (by kernel_rfl) ?_
          simp only [List.take, List.drop]
          repeat (refine wpUp_step (fun K hK => ?_); go_simp; (try simp only [↓IntWalk.iteOmega]); first
            | (refine hK _ _ ?_; clear hK K)
            | (apply stepU_c
               · intro wq hwq; (have hbq := bcell hwq; (repeat (first | refine fills_no (by rfl) ?_ | refine fills_yes (by rfl) (fun vq hvq => ?_))); simp only [List.filter_nil, fills]; unfold upAt; (try ((have x1 := hbq.1 gp (k * 2 + 1) hgp; have x2 := hbq.1 g (k * 4 + 2) hg))); go_simp; (try go_bits); (try simp only [↓IntWalk.iteOmega]); (try (rw [dif_pos (by omega)]; go_simp; try go_bits)); first | exact upOut_value)
               go_simp; refine hK _ _ ?_; clear hK K))
          refine wpUp_nil (fun wq hwq => ?_)
          simp only [fills]
          have hOq := ownsRow_up hO hwq
          have hBq := ownsRow_up hB hwq
          have hPq := ownsRow_up hP hwq
          have U3 := hup.trans hwq
          go_wp2_with (at_builtin; refine wpList_append_own _ rfl _ _ 43 rfl w.heap.size 3 i0 (.int .i64 0) 1 8 Try.underlying43 hi0 hz0 hz1 hz2 rfl (by decide) _ _ _ rfl (hOq.alloc _) ⟨wq.heap.size, 0, none⟩ 1 1 [.int .i64 k] rfl rfl (new_cells [.int .i64 k] _ rfl) (oneInt _) (by unfold maxLen; omega) (by omega) (by have := U3.size; simp; omega) ?_; rintro v2 w2 hown2 hgr2 -)
          go_roundw
          case rel => exact ⟨k + 1, by omega, by go_num, by rw [HT.out, cellsI_snoc, List.length_append]; exact hown2, (hBq.alloc _).kept hgr2 (ownsRow_ne hBq hOq (by decide)), (hPq.alloc _).kept hgr2 (ownsRow_ne hPq hOq (by decide)), (U3.alloc _).grown hgr2 (fun x hx => (hO.lt x hx).1)⟩
          case measure => simp [intOf]; omega
      · have e : k = l.length := by omega
        subst e
        go_wp2
        go_ret
        exact ⟨_, rfl, hO, hup⟩

end Go.Proofs.Ytaneilegnmnfpaa
