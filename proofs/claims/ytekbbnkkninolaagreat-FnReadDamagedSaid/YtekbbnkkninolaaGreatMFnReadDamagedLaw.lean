/- What is read with places has the range's length, and is the container's data where the places are the container's. Conditions: none. -/
import Derived.Test.YtekbbnkkninolaaGreatMFnReadDamagedLawI
namespace Go.Proofs.YtekbbnkkninolaaGreat
set_option linter.unusedVariables false
set_option linter.unusedSimpArgs false
open Go Go.RowKit

theorem cont_len {s : SetD} {dict : List UInt8} {st : ByteArray} {l : List BlkD} (hb : contBlocks st = some l) : LenOk (dataO s dict) l := by
  intro b hm x hx
  obtain ⟨i, hi, rfl⟩ := List.mem_iff_getElem.1 hm
  obtain ⟨q, q1, q2, q3, q4, q5, -⟩ := (cont_lies hb).2.2 i l[i] (List.getElem?_eq_getElem hi)
  rw [← q4] at hx ⊢
  exact len_dataO (b := blkAt st q) (parseOk_form q3).2.2 hx
theorem conO_some {s : SetD} {dict : List UInt8} {st : ByteArray} {D : List UInt8} (h : conO s dict st = some D) : ∃ l, contBlocks st = some l ∧ allF (dataO s dict) l = some D ∧ fitsB s dict = true := by
  unfold conO at h
  split at h
  · next hf =>
    cases hb : contBlocks st with
    | none => rw [hb] at h; cases h
    | some l => rw [hb] at h; exact ⟨l, rfl, h, hf⟩
  · cases h
theorem idxO_some {f : BlkD → Option (List UInt8)} {fit : Bool} {st : ByteArray} {ps : List PlaceD} {a b : Int} {d : List UInt8} (h : idxO f fit st ps a b = some d) :
    0 ≤ a ∧ a ≤ b ∧ b ≤ 2000 ∧ ((a = b ∧ d = []) ∨ (a < b ∧ ∃ (k : Nat) (hk : k < ps.length) (e : List UInt8), (ps[k]).start ≤ a ∧ needN f st ps b (ps.length - k) k (ps[k]).start = some e ∧ d = (e.drop (a - (ps[k]).start).toNat).take ((b - (ps[k]).start).toNat - (a - (ps[k]).start).toNat))) := by
  unfold idxO at h
  split at h
  · next hok =>
    unfold idxOk at hok
    simp only [Bool.and_eq_true, decide_eq_true_eq] at hok
    obtain ⟨-, -, -, h1, h2⟩ := hok
    have h1 := inB_iff.1 h1
    have h2 := inB_iff.1 h2
    refine ⟨h1.1, h1.2, h2.2, ?_⟩
    unfold idxR at h
    split at h
    · next he => cases h; exact .inl ⟨he, rfl⟩
    · split at h
      · cases h
      · next hne hn =>
        rcases seekK_lt (ps := ps) (o := a) ps.length (Nat.le_refl _) with h7 | ⟨j, j1, -, j3, j4⟩
        · rw [h7] at hn; exact absurd (by omega) hn
        · rw [j3, Int.toNat_natCast, show ps.getD j ⟨0, 0⟩ = ps[j] by rw [List.getD_eq_getElem?_getD, List.getElem?_eq_getElem j1]; rfl] at h
          unfold fromN at h
          cases hx : needN f st ps b (ps.length - j) j (ps[j]).start with
          | none => rw [hx] at h; cases h
          | some e =>
            rw [hx] at h
            cases h
            exact .inr ⟨by omega, j, j1, e, j4, hx, rfl⟩
  · cases h
theorem idxO_len {f : BlkD → Option (List UInt8)} {fit : Bool} {st : ByteArray} {ps : List PlaceD} {a b : Int} {d : List UInt8} (h : idxO f fit st ps a b = some d) : (d.length : Int) = b - a := by
  obtain ⟨h1, h2, -, ⟨rfl, rfl⟩ | ⟨h3, k, hk, e, h4, h5, rfl⟩⟩ := idxO_some h
  · simp
  · have := need_ge _ _ _ _ h5
    rw [List.length_take, List.length_drop]
    omega
theorem idxO_own {f : BlkD → Option (List UInt8)} {fit : Bool} {st : ByteArray} {l : List BlkD} {D : List UInt8} {ps : List PlaceD} {a b : Int} {d : List UInt8} (hb : contBlocks st = some l) (hL : LenOk f l) (hD : allF f l = some D) (hp : (placesK l l.length).take (min l.length ps.length) = ps) (h : idxO f fit st ps a b = some d) (hab : a ≠ b) :
    b ≤ D.length ∧ d = (D.drop a.toNat).take (b.toNat - a.toNat) := by
  obtain ⟨h1, h2, -, ⟨rfl, rfl⟩ | ⟨h3, k, hk, e, h4, h5, rfl⟩⟩ := idxO_some h
  · exact absurd rfl hab
  · have hpp : ∀ i p, ps[i]? = some p → i < l.length ∧ p = ⟨bytesSum (l.take i), sizeSum (l.take i)⟩ := fun i p hi => by
      rw [← hp, List.getElem?_take] at hi
      split at hi
      · next hlt =>
        have hil : i < l.length := by omega
        rw [placesK_get l l.length i hil] at hi
        exact ⟨hil, (Option.some.inj hi).symm⟩
      · cases hi
    obtain ⟨hkl, hpk⟩ := hpp k _ (List.getElem?_eq_getElem hk)
    rw [hpk] at h4 h5 ⊢
    simp only at h4 h5 ⊢
    obtain ⟨e1, e2⟩ := need_sound hb hL hD hpp (ps.length - k) k e (by omega) h5
    have h6 := need_ge _ _ _ _ h5
    have h0 : 0 ≤ sizeSum (l.take k) := (sizeSum_bd (accOk_take (contBlocks_ok hb) k)).1
    refine ⟨by omega, ?_⟩
    generalize sizeSum (l.take k) = Z at *
    rw [e1, List.drop_take, List.drop_drop, List.take_take]
    congr 1
    · omega
    · congr 1
      omega

end Go.Proofs.YtekbbnkkninolaaGreat
namespace Go.Proofs.YtekbbnkkninolaaGreat.lawFnReadDamaged
set_option linter.unusedVariables false
set_option linter.unusedSimpArgs false
open Go.ChangeShapes Go.WideShapes Go.ChangeAt Go.RowKit Go.Joins
open Go.ChangeMaps (open_string shut_string)

def RelG (l1 l2 : List PlaceD) (w : World) (i : Value) (wr : World) : Prop := ∃ k : Nat, k ≤ l1.length ∧ i = .int .i64 k ∧ (∀ j, j < k → l1[j]? = l2[j]?) ∧ Up w wr

set_option maxRecDepth 100000 in
set_option maxHeartbeats 4000000 in
theorem soPlacesG (l1 l2 : List PlaceD) (va vb : Value) (ba bb : Nat) (w : World) (ha : w.ownsRow ba 76 2 va l1.length (cellsP l1)) (hb : w.ownsRow bb 76 2 vb l2.length (cellsP l2)) :
    Calls Tryz.prog 60  #[va, vb] w (fun e w' => ∃ b : Bool, e = .returned (.bool b) ∧ (b = true → l1 = l2) ∧ Up w w') := by
  obtain ⟨a, ca, rfl, hm, -⟩ := ownsRow_any ha
  obtain ⟨b, cb, rfl, hm2, -⟩ := ownsRow_any hb
  unfold maxLen at hm hm2
  by_cases hn : l1.length = l2.length
  · have HN2 := Lib.hid hn
    rw [← hn] at hb hm2 ⊢
    clear hn
    go_enter Tryz.func60, Tryz.ntmps60
    go_wp2
    go_loopw [5] (fun i wr => RelG l1 l2 w i wr) (fun i _ => l1.length - (intOf i).toNat)
    case atStart => exact ⟨0, Nat.zero_le _, rfl, fun j hj => absurd hj (Nat.not_lt_zero _), Up.refl _⟩
    case round =>
      obtain ⟨k, hk, rfl, hall, hup⟩ := hrel
      have HA := Lib.hid hall
      clear hall
      by_cases hlt : k < l1.length
      · obtain ⟨g, rfl, hc1, hc2, -, hg⟩ := ownsRow_slot ha (by omega)
        obtain ⟨g', rfl, hc1', hc2', -, hg'⟩ := ownsRow_slot hb (by omega)
        have hgw := Nat.lt_of_lt_of_le hg hup.size
        have hgw' := Nat.lt_of_lt_of_le hg' hup.size
        have hlt2 : k < l2.length := by have := HN2.out; omega
        have ⟨c0, c1⟩ := plc_cells' (read_cells (ownsRow_up ha hup)) hlt
        have ⟨d0, d1⟩ := plc_cells' (read_cells (ownsRow_up hb hup)) hlt2
        by_cases hp : (l1[k]).place = (l2[k]).place ∧ (l1[k]).start = (l2[k]).start
        · have HN : Hid (∀ j, j < k + 1 → l1[j]? = l2[j]?) := fun j hj => by
            rcases Nat.lt_or_ge j k with h | h
            · exact HA.out j h
            · have : j = k := by omega
              subst this
              rw [List.getElem?_eq_getElem hlt, List.getElem?_eq_getElem hlt2]
              congr 1
              cases h1 : l1[j]; cases h2 : l2[j]
              rw [h1, h2] at hp
              simp only at hp
              rw [hp.1, hp.2]
          rw [hp.1] at c0
          rw [hp.2] at c1
          clear hp HA
          go_wp2
          refine wp_region_up 9 (by kernel_rfl) (by kernel_rfl) ?_
          simp only [List.take, List.drop]
          repeat (refine wpUp_step (fun K hK => ?_); go_simp; (try simp only [↓IntWalk.iteOmega]); first
            | (refine hK _ _ ?_; clear hK K)
            | (apply stepU_c
               · intro wq hwq; (have hbq := bcell hwq; (repeat (first | refine fills_no (by rfl) ?_ | refine fills_yes (by rfl) (fun vq hvq => ?_))); simp only [List.filter_nil, fills]; unfold upAt; (try ((have xa0 := (hbq.1 g (k * 2) hgw).trans c0; have xa1 := (hbq.1 g (k * 2 + 1) hgw).trans c1; have xb0 := (hbq.1 g' (k * 2) hgw').trans d0; have xb1 := (hbq.1 g' (k * 2 + 1) hgw').trans d1))); go_simp; (try go_bits); (try simp only [↓IntWalk.iteOmega]); (try (rw [dif_pos (by omega)]; go_simp; try go_bits)); first | exact upOut_value)
               go_simp; refine hK _ _ ?_; clear hK K))
          refine wpUp_nil (fun wq hwq => ?_)
          simp only [fills]
          go_wp2
          go_roundw
          case rel => exact ⟨k + 1, by omega, by go_num, HN.out, hup.trans hwq⟩
          case measure => simp [intOf]; omega
        · have hq : (l1[k]).place ≠ (l2[k]).place ∨ ((l1[k]).place = (l2[k]).place ∧ (l1[k]).start ≠ (l2[k]).start) := by
            by_cases h : (l1[k]).place = (l2[k]).place
            · exact .inr ⟨h, fun h2 => hp ⟨h, h2⟩⟩
            · exact .inl h
          clear hp HA
          generalize (l1[k]).place = p1 at *
          generalize (l1[k]).start = z1 at *
          generalize (l2[k]).place = p2 at *
          generalize (l2[k]).start = z2 at *
          rcases hq with h | ⟨rfl, h⟩
          all_goals
            go_wp2
            refine wp_region_up 9 (by kernel_rfl) (by kernel_rfl) ?_
            simp only [List.take, List.drop]
            repeat (refine wpUp_step (fun K hK => ?_); go_simp; (try simp only [↓IntWalk.iteOmega]); first
              | (refine hK _ _ ?_; clear hK K)
              | (apply stepU_c
                 · intro wq hwq; (have hbq := bcell hwq; (repeat (first | refine fills_no (by rfl) ?_ | refine fills_yes (by rfl) (fun vq hvq => ?_))); simp only [List.filter_nil, fills]; unfold upAt; (try ((have xa0 := (hbq.1 g (k * 2) hgw).trans c0; have xa1 := (hbq.1 g (k * 2 + 1) hgw).trans c1; have xb0 := (hbq.1 g' (k * 2) hgw').trans d0; have xb1 := (hbq.1 g' (k * 2 + 1) hgw').trans d1))); go_simp; (try go_bits); (try simp only [↓IntWalk.iteOmega]); (try (rw [dif_pos (by omega)]; go_simp; try go_bits)); first | exact upOut_value)
                 go_simp; refine hK _ _ ?_; clear hK K))
            refine wpUp_nil (fun wq hwq => ?_)
            simp only [fills]
            go_wp2
            go_ret
            exact ⟨false, rfl, fun h => (by cases h), hup.trans hwq⟩
      · have e : l1 = l2 := List.ext_getElem? fun j => by
          by_cases hj : j < l1.length
          · exact HA.out j (by omega)
          · rw [List.getElem?_eq_none (by omega), List.getElem?_eq_none (by have := HN2.out; omega)]
        have HE := Lib.hid e
        clear e HA HN2
        go_wp2
        go_ret
        exact ⟨true, rfl, fun _ => HE.out, hup⟩
  · go_enter Tryz.func60, Tryz.ntmps60
    go_wp2
    go_ret
    exact ⟨false, rfl, fun h => (by cases h), Up.refl _⟩

theorem own_cap {w : World} {base n m c : Nat} {a : Option Addr} {xs : List Value} (h : w.ownsRow base 76 2 (.slice a n c) n xs) (hm : m ≤ n) : m ≤ c := by
  rcases Nat.eq_zero_or_pos n with h0 | h0
  · omega
  · obtain ⟨g, -, h1, -⟩ := ownsRow_slot h h0
    omega

set_option maxRecDepth 100000 in
set_option maxHeartbeats 8000000 in
theorem walk (vc : Value) (lc : List UInt8) (w : World) (hc : ArgU w vc lc) :
    Calls Tryz.prog 16  #[vc] w (Same (.bool true) w) := by
  have cD := fun w' hu => drawReadIndexed_any vc lc w' (hc.up (w' := w') hu)
  obtain ⟨ac, cc, rfl, hc1, hc2, -⟩ := hc
  unfold maxLen at hc2
  by_cases h1 : 1048576 < lc.length
  · go_enter Tryz.func16, Tryz.ntmps16
    go_wp2
    go_ret
    exact ⟨rfl, by (repeat (first | with_reducible exact Up.refl _ | with_reducible assumption | with_reducible refine Up.set ?_ (by first | exact Nat.le_refl _ | (simp only []; omega) | (simp; omega)) _ | with_reducible refine Up.alloc ?_ _ | with_reducible refine Up.drew ?_ | refine Up.trans ?_ (by with_reducible assumption)))⟩
  go_enter Tryz.func16, Tryz.ntmps16
  go_wp2_with (go_at_call 59; (with_reducible refine (cD _ (by (repeat (first | with_reducible exact Up.refl _ | with_reducible assumption | with_reducible refine Up.set ?_ (by first | exact Nat.le_refl _ | (simp only []; omega) | (simp; omega)) _ | with_reducible refine Up.alloc ?_ _ | with_reducible refine Up.drew ?_ | refine Up.trans ?_ (by with_reducible assumption))))).mono ?_); rintro e w1 ⟨s, dict, st, u, ps, a, b, rfl, hs, hdi, hst, hp40, hO, U1⟩; simp only [setV]; have B1 := bcell U1; have Z1 := U1.size; (try simp at Z1); (try rw [Nat.add_one_le_iff] at Z1))
  have hOt := fun (wq : World) (hu : Up w1 wq) => ownsRow_up hO hu
  have HO := Lib.hid hO
  have cI := fun wx h => idxI_any s dict st ps u w.heap.size a b wx hs (by omega) (by omega) h (by omega)
  have cS := fun wx h => idxS_any s dict st ps u w.heap.size a b wx (by omega) (by omega) h (by omega)
  have cC := fun wx => conI_any s dict st wx hs (by omega) (by omega)
  have cX := fun wx => indexI_any st wx (by omega)
  obtain ⟨ap, cp, rfl⟩ := ownsRow_shape hO
  clear cD hO
  unfold IndexPost at cX
  cases hx : idxO (dataO s dict.data.toList) (fitsB s dict.data.toList) st ps a b with
  | none =>
    rw [hx, optS_none] at cI cS
    simp only [setV] at *
    clear hx cC cX
    go_wp2_with (first | ((go_at_call 25; (with_reducible refine (cI _ (hOt _ (by (repeat (first | with_reducible exact Up.refl _ | with_reducible assumption | with_reducible refine Up.set ?_ (by first | exact Nat.le_refl _ | (simp only []; omega) | (simp; omega)) _ | with_reducible refine Up.alloc ?_ _ | with_reducible refine Up.drew ?_ | refine Up.trans ?_ (by with_reducible assumption)))))).mono ?_); rintro e w2 ⟨rfl, U2⟩; have B2 := bcell U2; have Z2 := U2.size; (try simp at Z2); (try rw [Nat.add_one_le_iff] at Z2)); (try have V2a : w1.heap.size < w2.heap.size := (by omega)); (try have V2b : w1.heap.size + 1 < w2.heap.size := (by omega)); (try have V2c : w2.heap.size < w2.heap.size := (by omega)); (try have V2d : w3.heap.size < w2.heap.size := (by omega)); (try have V2e : w4.heap.size < w2.heap.size := (by omega)); skip) | ((go_at_call 23; (with_reducible refine (cS _ (hOt _ (by (repeat (first | with_reducible exact Up.refl _ | with_reducible assumption | with_reducible refine Up.set ?_ (by first | exact Nat.le_refl _ | (simp only []; omega) | (simp; omega)) _ | with_reducible refine Up.alloc ?_ _ | with_reducible refine Up.drew ?_ | refine Up.trans ?_ (by with_reducible assumption)))))).mono ?_); rintro e w3 ⟨rfl, U3⟩; have B3 := bcell U3; have Z3 := U3.size; (try simp at Z3); (try rw [Nat.add_one_le_iff] at Z3)); (try have V3a : w1.heap.size < w3.heap.size := (by omega)); (try have V3b : w1.heap.size + 1 < w3.heap.size := (by omega)); (try have V3c : w2.heap.size < w3.heap.size := (by omega)); (try have V3d : w3.heap.size < w3.heap.size := (by omega)); (try have V3e : w4.heap.size < w3.heap.size := (by omega)); skip))
    go_ret
    refine ⟨ret_bool (by simp; try rfl), ?_⟩
    (repeat (first | with_reducible exact Up.refl _ | with_reducible assumption | with_reducible refine Up.set ?_ (by first | exact Nat.le_refl _ | (simp only []; omega) | (simp; omega)) _ | with_reducible refine Up.alloc ?_ _ | with_reducible refine Up.drew ?_ | refine Up.trans ?_ (by with_reducible assumption)))
  | some d =>
    have hdl := idxO_len hx
    have hdz := bs_size d
    obtain ⟨g1, g2, g3, -⟩ := idxO_some hx
    rw [hx] at cI cS
    unfold optS at cI cS
    simp only [Option.getD_some, Option.isSome_some] at cI cS
    cases hco : conO s dict.data.toList st with
    | none =>
      rw [hco, optS_none] at cC
      obtain ⟨okb, hok⟩ : ∃ x, (contBlocks st).isSome = x := ⟨_, rfl⟩
      rw [hok] at cX
      simp only [setV] at *
      clear hx hco hok
      go_wp2_with (first | ((go_at_call 25; (with_reducible refine (cI _ (hOt _ (by (repeat (first | with_reducible exact Up.refl _ | with_reducible assumption | with_reducible refine Up.set ?_ (by first | exact Nat.le_refl _ | (simp only []; omega) | (simp; omega)) _ | with_reducible refine Up.alloc ?_ _ | with_reducible refine Up.drew ?_ | refine Up.trans ?_ (by with_reducible assumption)))))).mono ?_); rintro e w2 ⟨rfl, U2⟩; have B2 := bcell U2; have Z2 := U2.size; (try simp at Z2); (try rw [Nat.add_one_le_iff] at Z2)); (try have V2a : w1.heap.size < w2.heap.size := (by omega)); (try have V2b : w1.heap.size + 1 < w2.heap.size := (by omega)); (try have V2c : w2.heap.size < w2.heap.size := (by omega)); (try have V2d : w3.heap.size < w2.heap.size := (by omega)); (try have V2e : w4.heap.size < w2.heap.size := (by omega)); skip) | ((go_at_call 23; (with_reducible refine (cS _ (hOt _ (by (repeat (first | with_reducible exact Up.refl _ | with_reducible assumption | with_reducible refine Up.set ?_ (by first | exact Nat.le_refl _ | (simp only []; omega) | (simp; omega)) _ | with_reducible refine Up.alloc ?_ _ | with_reducible refine Up.drew ?_ | refine Up.trans ?_ (by with_reducible assumption)))))).mono ?_); rintro e w3 ⟨rfl, U3⟩; have B3 := bcell U3; have Z3 := U3.size; (try simp at Z3); (try rw [Nat.add_one_le_iff] at Z3)); (try have V3a : w1.heap.size < w3.heap.size := (by omega)); (try have V3b : w1.heap.size + 1 < w3.heap.size := (by omega)); (try have V3c : w2.heap.size < w3.heap.size := (by omega)); (try have V3d : w3.heap.size < w3.heap.size := (by omega)); (try have V3e : w4.heap.size < w3.heap.size := (by omega)); skip) | ((go_at_call 19; (with_reducible refine (cC _).mono ?_); rintro e w4 ⟨rfl, U4⟩; have B4 := bcell U4; have Z4 := U4.size; (try simp at Z4); (try rw [Nat.add_one_le_iff] at Z4)); (try have V4a : w1.heap.size < w4.heap.size := (by omega)); (try have V4b : w1.heap.size + 1 < w4.heap.size := (by omega)); (try have V4c : w2.heap.size < w4.heap.size := (by omega)); (try have V4d : w3.heap.size < w4.heap.size := (by omega)); (try have V4e : w4.heap.size < w4.heap.size := (by omega)); skip) | (go_at_call 56; (with_reducible refine (cX _).mono ?_); rintro e w5 ⟨v5, rfl, h5, U5⟩))
      go_ret
      refine ⟨ret_bool (by simp; try omega), ?_⟩
      (repeat (first | with_reducible exact Up.refl _ | with_reducible assumption | with_reducible refine Up.set ?_ (by first | exact Nat.le_refl _ | (simp only []; omega) | (simp; omega)) _ | with_reducible refine Up.alloc ?_ _ | with_reducible refine Up.drew ?_ | refine Up.trans ?_ (by with_reducible assumption)))
    | some D =>
      obtain ⟨l, hcb, hall, -⟩ := conO_some hco
      have hl40 := (contBlocks_ok hcb).1
      have hDz := bs_size D
      rw [hco] at cC
      rw [hcb] at cX
      unfold optS at cC
      simp only [setV, Option.getD_some, Option.isSome_some] at *
      have HPL : Hid ((placesK l l.length).length = l.length) := placesK_length l l.length
      by_cases hab : a = b
      · subst hab
        clear hx hco hcb hall
        go_wp2_with (first | ((go_at_call 25; (with_reducible refine (cI _ (hOt _ (by (repeat (first | with_reducible exact Up.refl _ | with_reducible assumption | with_reducible refine Up.set ?_ (by first | exact Nat.le_refl _ | (simp only []; omega) | (simp; omega)) _ | with_reducible refine Up.alloc ?_ _ | with_reducible refine Up.drew ?_ | refine Up.trans ?_ (by with_reducible assumption)))))).mono ?_); rintro e w2 ⟨rfl, U2⟩; have B2 := bcell U2; have Z2 := U2.size; (try simp at Z2); (try rw [Nat.add_one_le_iff] at Z2)); (try have V2a : w1.heap.size < w2.heap.size := (by omega)); (try have V2b : w1.heap.size + 1 < w2.heap.size := (by omega)); (try have V2c : w2.heap.size < w2.heap.size := (by omega)); (try have V2d : w3.heap.size < w2.heap.size := (by omega)); (try have V2e : w4.heap.size < w2.heap.size := (by omega)); skip) | ((go_at_call 23; (with_reducible refine (cS _ (hOt _ (by (repeat (first | with_reducible exact Up.refl _ | with_reducible assumption | with_reducible refine Up.set ?_ (by first | exact Nat.le_refl _ | (simp only []; omega) | (simp; omega)) _ | with_reducible refine Up.alloc ?_ _ | with_reducible refine Up.drew ?_ | refine Up.trans ?_ (by with_reducible assumption)))))).mono ?_); rintro e w3 ⟨rfl, U3⟩; have B3 := bcell U3; have Z3 := U3.size; (try simp at Z3); (try rw [Nat.add_one_le_iff] at Z3)); (try have V3a : w1.heap.size < w3.heap.size := (by omega)); (try have V3b : w1.heap.size + 1 < w3.heap.size := (by omega)); (try have V3c : w2.heap.size < w3.heap.size := (by omega)); (try have V3d : w3.heap.size < w3.heap.size := (by omega)); (try have V3e : w4.heap.size < w3.heap.size := (by omega)); skip) | ((go_at_call 19; (with_reducible refine (cC _).mono ?_); rintro e w4 ⟨rfl, U4⟩; have B4 := bcell U4; have Z4 := U4.size; (try simp at Z4); (try rw [Nat.add_one_le_iff] at Z4)); (try have V4a : w1.heap.size < w4.heap.size := (by omega)); (try have V4b : w1.heap.size + 1 < w4.heap.size := (by omega)); (try have V4c : w2.heap.size < w4.heap.size := (by omega)); (try have V4d : w3.heap.size < w4.heap.size := (by omega)); (try have V4e : w4.heap.size < w4.heap.size := (by omega)); skip) | (go_at_call 56; (with_reducible refine (cX _).mono ?_); rintro e w5 ⟨v5, rfl, h5, U5⟩))
        go_ret
        refine ⟨ret_bool (by simp; try omega), ?_⟩
        (repeat (first | with_reducible exact Up.refl _ | with_reducible assumption | with_reducible refine Up.set ?_ (by first | exact Nat.le_refl _ | (simp only []; omega) | (simp; omega)) _ | with_reducible refine Up.alloc ?_ _ | with_reducible refine Up.drew ?_ | refine Up.trans ?_ (by with_reducible assumption)))
      · have HOW : Hid ((placesK l l.length).take (min l.length ps.length) = ps → b ≤ D.length ∧ (bs D).extract a.toNat b.toNat = bs d) := fun hp => by
          obtain ⟨i1, i2⟩ := idxO_own hcb (cont_len hcb) hall hp hx hab
          refine ⟨i1, ?_⟩
          rw [bs_ext, ← i2]
        clear hx hco hcb hall
        obtain ⟨m, hm⟩ : ∃ m, min l.length ps.length = m := ⟨_, rfl⟩
        have hmi : min (l.length : Int) (ps.length : Int) = (m : Int) := by omega
        have hml : m ≤ l.length := by omega
        rw [hm] at HOW
        clear hm
        generalize placesK l l.length = P at *
        go_wp2_with (first | ((go_at_call 25; (with_reducible refine (cI _ (hOt _ (by (repeat (first | with_reducible exact Up.refl _ | with_reducible assumption | with_reducible refine Up.set ?_ (by first | exact Nat.le_refl _ | (simp only []; omega) | (simp; omega)) _ | with_reducible refine Up.alloc ?_ _ | with_reducible refine Up.drew ?_ | refine Up.trans ?_ (by with_reducible assumption)))))).mono ?_); rintro e w2 ⟨rfl, U2⟩; have B2 := bcell U2; have Z2 := U2.size; (try simp at Z2); (try rw [Nat.add_one_le_iff] at Z2)); (try have V2a : w1.heap.size < w2.heap.size := (by omega)); (try have V2b : w1.heap.size + 1 < w2.heap.size := (by omega)); (try have V2c : w2.heap.size < w2.heap.size := (by omega)); (try have V2d : w3.heap.size < w2.heap.size := (by omega)); (try have V2e : w4.heap.size < w2.heap.size := (by omega)); skip) | ((go_at_call 23; (with_reducible refine (cS _ (hOt _ (by (repeat (first | with_reducible exact Up.refl _ | with_reducible assumption | with_reducible refine Up.set ?_ (by first | exact Nat.le_refl _ | (simp only []; omega) | (simp; omega)) _ | with_reducible refine Up.alloc ?_ _ | with_reducible refine Up.drew ?_ | refine Up.trans ?_ (by with_reducible assumption)))))).mono ?_); rintro e w3 ⟨rfl, U3⟩; have B3 := bcell U3; have Z3 := U3.size; (try simp at Z3); (try rw [Nat.add_one_le_iff] at Z3)); (try have V3a : w1.heap.size < w3.heap.size := (by omega)); (try have V3b : w1.heap.size + 1 < w3.heap.size := (by omega)); (try have V3c : w2.heap.size < w3.heap.size := (by omega)); (try have V3d : w3.heap.size < w3.heap.size := (by omega)); (try have V3e : w4.heap.size < w3.heap.size := (by omega)); skip) | ((go_at_call 19; (with_reducible refine (cC _).mono ?_); rintro e w4 ⟨rfl, U4⟩; have B4 := bcell U4; have Z4 := U4.size; (try simp at Z4); (try rw [Nat.add_one_le_iff] at Z4)); (try have V4a : w1.heap.size < w4.heap.size := (by omega)); (try have V4b : w1.heap.size + 1 < w4.heap.size := (by omega)); (try have V4c : w2.heap.size < w4.heap.size := (by omega)); (try have V4d : w3.heap.size < w4.heap.size := (by omega)); (try have V4e : w4.heap.size < w4.heap.size := (by omega)); skip) | (go_at_call 56; (with_reducible refine (cX _).mono ?_); rintro e w5 ⟨v5, rfl, h5, U5⟩; rw [HPL.out] at h5; obtain ⟨a5, c5, rfl⟩ := ownsRow_shape h5; have hmc : m ≤ c5 := own_cap h5 hml))
        have hPt : (P.take m).length = m := by rw [List.length_take, HPL.out]; omega
        have hrow := ownsRow_take h5 hml
        rw [cellsP_take] at hrow
        have cG := soPlacesG (P.take m) ps (.slice a5 m c5) _ _ _ w5 (by rw [hPt]; exact hrow) (hOt _ (by (repeat (first | with_reducible exact Up.refl _ | with_reducible assumption | with_reducible refine Up.set ?_ (by first | exact Nat.le_refl _ | (simp only []; omega) | (simp; omega)) _ | with_reducible refine Up.alloc ?_ _ | with_reducible refine Up.drew ?_ | refine Up.trans ?_ (by with_reducible assumption)))))
        clear hrow hPt
        (with_reducible refine cG.mono ?_); rintro e w6 ⟨q, rfl, hq, U6⟩
        cases q
        · go_wp2
          go_ret
          refine ⟨ret_bool (by simp; try omega), ?_⟩
          (repeat (first | with_reducible exact Up.refl _ | with_reducible assumption | with_reducible refine Up.set ?_ (by first | exact Nat.le_refl _ | (simp only []; omega) | (simp; omega)) _ | with_reducible refine Up.alloc ?_ _ | with_reducible refine Up.drew ?_ | refine Up.trans ?_ (by with_reducible assumption)))
        · obtain ⟨q1, q2⟩ := HOW.out (hq rfl)
          clear hq
          go_wp2
          go_ret
          refine ⟨ret_bool (by simp; try omega), ?_⟩
          (repeat (first | with_reducible exact Up.refl _ | with_reducible assumption | with_reducible refine Up.set ?_ (by first | exact Nat.le_refl _ | (simp only []; omega) | (simp; omega)) _ | with_reducible refine Up.alloc ?_ _ | with_reducible refine Up.drew ?_ | refine Up.trans ?_ (by with_reducible assumption)))

set_option maxRecDepth 100000 in
theorem lifted (os : Os) (started : os.Started) (H : Type) (enc : TypeId × Value → H) :
    ReturnsInHanded {} Tryz.checked os 16 .any (Rows.fnReadDamagedSpec.pre6 enc Tryz.prog Tryz.f16 Rows.fnReadDamagedRow.domain false) (Rows.fnReadDamagedSpec.post enc Tryz.prog Tryz.f16 false true false false) := by
  refine returnsInHanded_of_change (C := Tryz.checked) own started (by kernel_rfl) Tryz.func16
    (ChangeSpec.witness6 (enc := enc) (C := Tryz.checked) false ⟨#[], #[.slice none 0 0], []⟩ 8 (by kernel_rfl) (by kernel_rfl) (by kernel_rfl) (by kernel_rfl)) ?_
  intro W base args ds gs before hval0 hW hcnd _
  have hval : ∀ (j : Nat) t v, Tryz.f16.params[j]? = some t → args[j]? = some v → Value.okWide Tryz.prog W .any base t v := hval0
  have hW' := hW
  obtain ⟨p, q, hA0, hV, rfl, hfz, hnd⟩ := hW
  have hA : DataW.TrodAll enc Tryz.prog W 0 (fun _ => true) true Tryz.f16.params.toList args.toList ds p := hA0
  rw [Tryz.params16] at hA hval
  obtain ⟨v0, d0, rfl, rfl, h0⟩ := trodAll_one hA
  obtain ⟨p0, rfl⟩ : ∃ x, x = p := ⟨_, rfl⟩
  obtain ⟨a0, n0, c0, rfl⟩ := okWide_slice Tryz.underlying38 (hval 0 38 v0 rfl rfl)
  have hlt0 : ∀ x ∈ p0, x.block < W.heap.size := fun x hx => by simpa using hW'.lt x (by simp [hx])
  obtain ⟨fuel0, hf0⟩ := h0
  obtain ⟨lcode, hcode⟩ := open_argU (by simpa [Value.cells] using hf0) hlt0
  obtain ⟨rfl, rfl⟩ := trodVars_none hV
  refine (walk _ _ W hcode).mono fun e W' ⟨he, hu⟩ => ?_
  subst he
  exact ⟨_, rfl, post_law (f := Tryz.f16) TryzlaidOut (by kernel_rfl) rfl Tryz.underlying4 rfl hW' (fun ds' h => by subst h; exact ⟨rfl, rfl, rfl⟩) hu⟩

set_option maxHeartbeats 80000000 in
theorem closed : joinedFacts Tryz.checked.prog 16 Tryz.f16 Rows.fnReadDamagedSpec Rows.fnReadDamagedRow = true := by
  unfold joinedFacts
  repeat' (with_reducible refine (Bool.and_eq_true_iff.2 ⟨?_, ?_⟩))
  all_goals (as_aux_lemma => kernel_rfl)

theorem holds : Rows.FnReadDamagedSaid :=
  OpenClaim.holds_of_wide 16 Tryz.f16 rfl rfl rfl rfl rfl rfl rfl ⟨rfl, rfl, rfl, rfl, rfl⟩ rfl rfl rfl rfl rfl (by as_aux_lemma => kernel_rfl) Tryz.func16 closed
    (of_decide_eq_true (by as_aux_lemma => kernel_rfl)) (by unfold Func.isWrapper; first | (rw [if_pos (by decide +kernel)]; kernel_rfl) | (rw [if_neg (by decide +kernel)]; exact ⟨rfl, rfl⟩))
    (fun os started H enc _ => lifted os started H enc)

end Go.Proofs.YtekbbnkkninolaaGreat.lawFnReadDamaged
