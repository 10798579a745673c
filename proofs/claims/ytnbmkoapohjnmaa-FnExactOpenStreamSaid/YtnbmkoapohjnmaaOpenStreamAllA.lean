/- Texts joined into one: the walks and laws that the last text leans on. Conditions: as each says. -/
import Derived.Test.YtnbmkoapohjnmaaSt
import Derived.Test.YtnbmkoapohjnmaaComp
import Derived.Test.YtnbmkoapohjnmaaWd
import Derived.Test.YtnbmkoapohjnmaaTree10
import Derived.Test.YtnbmkoapohjnmaaGlen
import Derived.Test.YtnbmkoapohjnmaaWf
import Derived.Test.YtnbmkoapohjnmaaRc3
import Derived.Test.YtnbmkoapohjnmaaSets
import Derived.Test.YtnbmkoapohjnmaaBa

/- Plain laws on the best dictionary; walks of the reference's l4Fits, l4Size, l4Total, BestDict, BestSample. Conditions: the strings can be read and are no longer than 2^20 bytes. -/
namespace Go.Proofs.Ytnbmkoapohjnmaa
set_option linter.unusedVariables false
set_option linter.unusedSimpArgs false
open Go Go.RowKit

/-- The least index with the least value among the indices 0 to n. -/
def bestI (f : Nat → Nat) : Nat → Nat
  | 0 => 0
  | n + 1 => if f (n + 1) < f (bestI f n) then n + 1 else bestI f n
theorem bestI_le (f : Nat → Nat) : ∀ n, bestI f n ≤ n
  | 0 => Nat.le_refl _
  | n + 1 => by
    have := bestI_le f n
    unfold bestI; split <;> omega
theorem bestI_min (f : Nat → Nat) : ∀ n i, i ≤ n → f (bestI f n) ≤ f i ∧ (i < bestI f n → f (bestI f n) < f i)
  | 0, i, h => by
    have : i = 0 := by omega
    subst this; exact ⟨Nat.le_refl _, fun h => absurd h (Nat.lt_irrefl _)⟩
  | n + 1, i, h => by
    have hb := bestI_le f n
    unfold bestI
    split
    · next hlt =>
      rcases Nat.lt_or_ge n i with h1 | h1
      · have : i = n + 1 := by omega
        subst this; exact ⟨Nat.le_refl _, fun h => absurd h (Nat.lt_irrefl _)⟩
      · have := (bestI_min f n i h1).1
        exact ⟨by omega, fun _ => by omega⟩
    · next hlt =>
      rcases Nat.lt_or_ge n i with h1 | h1
      · have : i = n + 1 := by omega
        subst this; exact ⟨by omega, fun h => by omega⟩
      · exact bestI_min f n i h1
/-- The size of the stream of data with a dictionary; of all texts. -/
def szW (s : SetD) (dict d : ByteArray) : Nat := ((compW s dict.data.toList d.data.toList).getD []).length
def totW (s : SetD) (dict : ByteArray) (ts : List ByteArray) : Nat := (ts.map (szW s dict)).sum
def allFitB (s : SetD) (l : List ByteArray) : Bool := decide (1 ≤ l.length) && decide (l.length ≤ 8) && l.all fun t => fitsB s t.data.toList
theorem allFit_iff {s : SetD} {l : List ByteArray} : allFitB s l = true ↔ 1 ≤ l.length ∧ l.length ≤ 8 ∧ ∀ t ∈ l, fitsB s t.data.toList = true := by
  unfold allFitB
  simp only [Bool.and_eq_true, decide_eq_true_eq, List.all_eq_true]
  exact ⟨fun ⟨⟨a, b⟩, c⟩ => ⟨a, b, c⟩, fun ⟨a, b, c⟩ => ⟨⟨a, b⟩, c⟩⟩
theorem allFit_no {s : SetD} {l : List ByteArray} {i : Nat} (h : i < l.length) (hn : fitsB s (l[i]).data.toList = false) : allFitB s l = false := by
  cases e : allFitB s l
  · rfl
  · have := (allFit_iff.1 e).2.2 _ (List.getElem_mem h)
    rw [hn] at this; cases this
theorem compL_len2 {k : KnD} {d : List UInt8} (h : k.Ok) (hl : ∀ b ∈ d, b.toNat < k.c) (hd : d.length ≤ 2000) : (compL k d).length ≤ 10000 := by
  obtain ⟨g1, g2, g3, g4, g5⟩ := walk_greedy h hl hd
  have g6 := greedy_len k d
  have g7 := packC_len k.set.ord (greedy k d) (walkN k (greedy k d) [] []).ws (fun x hx => ⟨by have := (g4 x hx).1; omega, by have := (g4 x hx).2; omega⟩)
  unfold compL
  rw [packL_length]; omega
theorem compW_len2 {s : SetD} {dict d : List UInt8} : ((compW s dict d).getD []).length ≤ 10000 := by
  unfold compW
  split
  · next h1 =>
    obtain ⟨f1, f2, f3⟩ := fitsB_lits h1
    have hok : (learnK (startK s) dict).Ok := learnK_ok (startK_ok f1) f3
    unfold compO
    split
    · next h2 =>
      obtain ⟨e1, e2, e3⟩ := fitsB_lits h2
      exact compL_len2 hok e3 e2
    · simp
  · simp
theorem szW_bd (s : SetD) (dict d : ByteArray) : szW s dict d ≤ 10000 := compW_len2
theorem sum_bd (f : ByteArray → Nat) (h : ∀ x, f x ≤ 10000) : ∀ l : List ByteArray, (l.map f).sum ≤ 10000 * l.length
  | [] => by simp
  | x :: l => by
    have h1 := h x
    have h2 := sum_bd f h l
    simp only [List.map_cons, List.sum_cons, List.length_cons]; omega
theorem sum_take (f : ByteArray → Nat) {l : List ByteArray} {i : Nat} (h : i < l.length) : ((l.take (i + 1)).map f).sum = ((l.take i).map f).sum + f l[i] := by
  rw [List.take_succ_eq_append_getElem h, List.map_append, List.sum_append]; simp

set_option maxRecDepth 100000 in
set_option maxHeartbeats 1000000 in
theorem l4Size_any (s : SetD) (dict d : ByteArray) (w : World) (hi : dict.size ≤ 1073741824) (hd : d.size ≤ 1073741824) :
    Calls Try.prog 51  #[setV s, .string dict, .string d] w (Same (.int .i64 (szW s dict d : Nat)) w) := by
  have cC := fun wx => compWS_any s dict d wx hi hd
  have hz := bs_size ((compW s dict.data.toList d.data.toList).getD [])
  have hsz := szW_bd s dict d
  unfold optS at cC
  unfold szW at hsz ⊢
  generalize (compW s dict.data.toList d.data.toList).isSome = ok at *
  generalize (compW s dict.data.toList d.data.toList).getD [] = c at *
  simp only [setV] at *
  go_enter Try.func51, Try.ntmps51
  go_wp2_with ((go_at_call 34; (with_reducible refine (cC _).mono ?_); rintro e w1 ⟨rfl, U1⟩; have B1 := bcell U1; have Z1 := U1.size; (try simp at Z1); (try rw [Nat.add_one_le_iff] at Z1)))
  go_ret
  refine ⟨rfl, ?_⟩
  (repeat (first | with_reducible exact Up.refl _ | with_reducible assumption | with_reducible refine Up.set ?_ (by first | exact Nat.le_refl _ | (simp only []; omega) | (simp; omega)) _ | with_reducible refine Up.alloc ?_ _ | with_reducible refine Up.drew ?_ | refine Up.trans ?_ (by with_reducible assumption)))

def RelFi (s : SetD) (l : List ByteArray) (w : World) (i : Value) (wr : World) : Prop := ∃ j : Nat, i = .int .i64 j ∧ j ≤ l.length ∧ (∀ q (h : q < l.length), q < j → fitsB s (l[q]).data.toList = true) ∧ SetAt w.heap.size s.ord s.lit s.most wr ∧ Up w wr
theorem fits_set {s : SetD} {d : List UInt8} (h : fitsB s d = true) : setOk s = true := (fitsB_lits h).1

set_option maxRecDepth 100000 in
set_option maxHeartbeats 4000000 in
theorem l4Fits_any (s : SetD) (l : List ByteArray) (v : Value) (w : World) (h : ArgS w v l) (hl : l.length ≤ 1048576) (hs : ∀ t ∈ l, t.size ≤ 1048576) :
    Calls Try.prog 45  #[setV s, v] w (Same (.bool (allFitB s l)) w) := by
  have hat := h
  obtain ⟨a, cap, rfl, hm, hms, -⟩ := h
  obtain ⟨o, li, mo⟩ := s
  have cV := fun w => setS_any o li mo w
  have cI := fun w => l1In_any (l.length : Int) 1 8 w
  simp only [setV] at *
  go_enter Try.func45, Try.ntmps45
  go_wp2
  go_loopw [5] (fun i wr => RelFi ⟨o, li, mo⟩ l w i wr) (fun i _ => l.length - (intOf i).toNat)
  case atStart => exact ⟨0, rfl, Nat.zero_le _, fun q h1 h2 => absurd h2 (Nat.not_lt_zero _), (MapKept.heap_alloc w _).1, by (repeat (first | with_reducible exact Up.refl _ | with_reducible assumption | with_reducible refine Up.set ?_ (by first | exact Nat.le_refl _ | (simp only []; omega) | (simp; omega)) _ | with_reducible refine Up.alloc ?_ _ | with_reducible refine Up.drew ?_ | refine Up.trans ?_ (by with_reducible assumption)))⟩
  case round =>
    obtain ⟨j, rfl, hj, hall, hset, hup⟩ := hrel
    obtain ⟨hb0, s0, s1, s2⟩ := hset.cells
    have HA := Lib.hid hall
    have HSE := Lib.hid hset
    clear hall hset
    by_cases hlt : j < l.length
    · obtain ⟨b, off, rfl, hbl, hx, -, hnc, hcm⟩ := (hat.up hup).at hlt
      have hsj := hs _ (List.getElem_mem hlt)
      have cF := fun wx => fitsS_any ⟨o, li, mo⟩ l[j] wx (by omega)
      unfold maxLen at hcm
      cases hf : fitsB ⟨o, li, mo⟩ (l[j]).data.toList
      · rw [hf] at cF
        have HN : Hid (allFitB ⟨o, li, mo⟩ l = false) := allFit_no hlt hf
        clear hf
        generalize l[j] = t at *
        simp only [setV] at cF
        go_wp2
        refine wp_region_up 7 (by kernel_rfl) (by kernel_rfl) ?_
        simp only [List.take, List.drop]
        repeat (refine wpUp_step (fun K hK => ?_); go_simp; (try simp only [↓IntWalk.iteOmega]); first
          | (refine hK _ _ ?_; clear hK K)
          | (apply stepU_c
             · intro wq hwq; (have hbq := bcell hwq; (repeat (first | refine fills_no (by rfl) ?_ | refine fills_yes (by rfl) (fun vq hvq => ?_))); simp only [List.filter_nil, fills]; unfold upAt; (try ((have hx2 := (hwq.cell (p := ⟨b, off + j, none⟩) hbl).trans hx))); go_simp; (try go_bits); (try simp only [↓IntWalk.iteOmega]); (try (rw [dif_pos (by omega)]; go_simp; try go_bits)); first | exact upOut_value | (apply upOut_call; (go_at_call 50; exact cF _)) | (apply upOut_eq; (go_at_call 50; exact cF _)))
             go_simp; refine hK _ _ ?_; clear hK K))
        refine wpUp_nil (fun wq hwq => ?_)
        simp only [fills]
        go_wp2
        go_ret
        refine ⟨ret_bool HN.out.symm, ?_⟩
        (repeat (first | with_reducible exact Up.refl _ | with_reducible assumption | with_reducible refine Up.set ?_ (by first | exact Nat.le_refl _ | (simp only []; omega) | (simp; omega)) _ | with_reducible refine Up.alloc ?_ _ | with_reducible refine Up.drew ?_ | refine Up.trans ?_ (by with_reducible assumption)))
      · rw [hf] at cF
        have HN : Hid (∀ q (h : q < l.length), q < j + 1 → fitsB ⟨o, li, mo⟩ (l[q]).data.toList = true) := fun q h1 h2 => by
          rcases Nat.lt_or_ge q j with h3 | h3
          · exact HA.out q h1 h3
          · have : q = j := by omega
            subst this; exact hf
        clear hf
        generalize l[j] = t at *
        simp only [setV] at cF
        go_wp2
        refine wp_region_up 7 (by kernel_rfl) (by kernel_rfl) ?_
        simp only [List.take, List.drop]
        repeat (refine wpUp_step (fun K hK => ?_); go_simp; (try simp only [↓IntWalk.iteOmega]); first
          | (refine hK _ _ ?_; clear hK K)
          | (apply stepU_c
             · intro wq hwq; (have hbq := bcell hwq; (repeat (first | refine fills_no (by rfl) ?_ | refine fills_yes (by rfl) (fun vq hvq => ?_))); simp only [List.filter_nil, fills]; unfold upAt; (try ((have hx2 := (hwq.cell (p := ⟨b, off + j, none⟩) hbl).trans hx))); go_simp; (try go_bits); (try simp only [↓IntWalk.iteOmega]); (try (rw [dif_pos (by omega)]; go_simp; try go_bits)); first | exact upOut_value | (apply upOut_call; (go_at_call 50; exact cF _)) | (apply upOut_eq; (go_at_call 50; exact cF _)))
             go_simp; refine hK _ _ ?_; clear hK K))
        refine wpUp_nil (fun wq hwq => ?_)
        simp only [fills]
        go_wp2
        go_roundw
        case rel => exact ⟨j + 1, by go_num, by omega, HN.out, box_up hwq HSE.out, by (repeat (first | with_reducible exact Up.refl _ | with_reducible assumption | with_reducible refine Up.set ?_ (by first | exact Nat.le_refl _ | (simp only []; omega) | (simp; omega)) _ | with_reducible refine Up.alloc ?_ _ | with_reducible refine Up.drew ?_ | refine Up.trans ?_ (by with_reducible assumption)))⟩
        case measure => simp [intOf]; omega
    · have e : j = l.length := by omega
      subst e
      cases hso : setOk ⟨o, li, mo⟩
      · have HN : Hid (allFitB ⟨o, li, mo⟩ l = false) := by
          unfold Hid
          cases e : allFitB ⟨o, li, mo⟩ l
          · rfl
          · obtain ⟨h1, h2, h3⟩ := allFit_iff.1 e
            have := fits_set (h3 l[0] (List.getElem_mem (by omega)))
            rw [hso] at this; cases this
        rw [hso] at cV
        clear hso
        go_wp2_with (first | (go_at_call 61; (with_reducible refine (cV _).mono ?_); rintro e w1 ⟨rfl, U1⟩; have B1 := bcell U1; have Z1 := U1.size; (try simp at Z1); (try rw [Nat.add_one_le_iff] at Z1)))
        go_ret
        refine ⟨ret_bool HN.out.symm, ?_⟩
        (repeat (first | with_reducible exact Up.refl _ | with_reducible assumption | with_reducible refine Up.set ?_ (by first | exact Nat.le_refl _ | (simp only []; omega) | (simp; omega)) _ | with_reducible refine Up.alloc ?_ _ | with_reducible refine Up.drew ?_ | refine Up.trans ?_ (by with_reducible assumption)))
      · have HN : Hid (allFitB ⟨o, li, mo⟩ l = inB (l.length : Int) 1 8) := by
          unfold Hid
          rw [Bool.eq_iff_iff, allFit_iff, inB_iff]
          exact ⟨fun h => by omega, fun h => ⟨by omega, by omega, fun t ht => by
            obtain ⟨q, hq, rfl⟩ := List.mem_iff_getElem.1 ht
            exact HA.out q hq hq⟩⟩
        rw [hso] at cV
        clear hso
        generalize inB (l.length : Int) 1 8 = ib at *
        go_wp2_with (first | (go_at_call 61; (with_reducible refine (cV _).mono ?_); rintro e w1 ⟨rfl, U1⟩; have B1 := bcell U1; have Z1 := U1.size; (try simp at Z1); (try rw [Nat.add_one_le_iff] at Z1)) | (go_at_call 41; (with_reducible refine (cI _).mono ?_); rintro e w' ⟨rfl, rfl⟩))
        go_ret
        refine ⟨ret_bool HN.out.symm, ?_⟩
        (repeat (first | with_reducible exact Up.refl _ | with_reducible assumption | with_reducible refine Up.set ?_ (by first | exact Nat.le_refl _ | (simp only []; omega) | (simp; omega)) _ | with_reducible refine Up.alloc ?_ _ | with_reducible refine Up.drew ?_ | refine Up.trans ?_ (by with_reducible assumption)))

end Go.Proofs.Ytnbmkoapohjnmaa

/- Walks of the reference's l4Total, BestDict, BestSample. Conditions: the strings can be read and are no longer than 2^20 bytes. -/
namespace Go.Proofs.Ytnbmkoapohjnmaa
set_option linter.unusedVariables false
set_option linter.unusedSimpArgs false
open Go Go.RowKit

def RelTt (s : SetD) (dict : ByteArray) (ts : List ByteArray) (w : World) (n i : Value) (wr : World) : Prop := ∃ j : Nat, i = .int .i64 j ∧ j ≤ ts.length ∧ n = .int .i64 ((((ts.take j).map (szW s dict)).sum : Nat) : Int) ∧ SetAt w.heap.size s.ord s.lit s.most wr ∧ Up w wr

set_option maxRecDepth 100000 in
set_option maxHeartbeats 4000000 in
theorem l4Total_any (s : SetD) (dict : ByteArray) (ts : List ByteArray) (v : Value) (w : World) (hi : dict.size ≤ 1073741824) (h : ArgS w v ts) (hl : ts.length ≤ 8) (hs : ∀ t ∈ ts, t.size ≤ 1048576) :
    Calls Try.prog 54  #[setV s, .string dict, v] w (Same (.int .i64 (totW s dict ts : Nat)) w) := by
  have hat := h
  obtain ⟨a, cap, rfl, hm, hms, -⟩ := h
  simp only [setV] at *
  go_enter Try.func54, Try.ntmps54
  go_wp2
  go_loopw [7, 8] (fun n i wr => RelTt s dict ts w n i wr) (fun _ i _ => ts.length - (intOf i).toNat)
  case atStart => exact ⟨0, rfl, Nat.zero_le _, rfl, (MapKept.heap_alloc w _).1, by (repeat (first | with_reducible exact Up.refl _ | with_reducible assumption | with_reducible refine Up.set ?_ (by first | exact Nat.le_refl _ | (simp only []; omega) | (simp; omega)) _ | with_reducible refine Up.alloc ?_ _ | with_reducible refine Up.drew ?_ | refine Up.trans ?_ (by with_reducible assumption)))⟩
  case round =>
    obtain ⟨j, rfl, hj, rfl, hset, hup⟩ := hrel
    obtain ⟨hb0, s0, s1, s2⟩ := hset.cells
    have HSE := Lib.hid hset
    clear hset
    have hsb := sum_bd (szW s dict) (szW_bd s dict) (ts.take j)
    rw [List.length_take] at hsb
    have hsb2 : ((ts.take j).map (szW s dict)).sum ≤ 80000 := by omega
    clear hsb
    by_cases hlt : j < ts.length
    · obtain ⟨b, off, rfl, hbl, hx, -, hnc, hcm⟩ := (hat.up hup).at hlt
      have hsj := hs _ (List.getElem_mem hlt)
      have cC := fun wx => l4Size_any s dict ts[j] wx hi (by omega)
      have hz := szW_bd s dict ts[j]
      have HS : Hid ((((ts.take (j + 1)).map (szW s dict)).sum : Nat) = ((ts.take j).map (szW s dict)).sum + szW s dict ts[j]) := sum_take (szW s dict) hlt
      unfold maxLen at hcm
      generalize szW s dict ts[j] = z at *
      generalize ((ts.take j).map (szW s dict)).sum = q at *
      generalize ts[j] = t at *
      simp only [setV] at cC
      go_wp2
      refine wp_region_up 10 (by kernel_rfl) (by kernel_rfl) ?_
      simp only [List.take, List.drop]
      repeat (refine wpUp_step (fun K hK => ?_); go_simp; (try simp only [↓IntWalk.iteOmega]); first
        | (refine hK _ _ ?_; clear hK K)
        | (apply stepU_c
           · intro wq hwq; (have hbq := bcell hwq; (repeat (first | refine fills_no (by rfl) ?_ | refine fills_yes (by rfl) (fun vq hvq => ?_))); simp only [List.filter_nil, fills]; unfold upAt; (try ((have hx2 := (hwq.cell (p := ⟨b, off + j, none⟩) hbl).trans hx; obtain ⟨hbz, s0, s1, s2⟩ := SetAt.cells (box_up hwq HSE.out)))); go_simp; (try go_bits); (try simp only [↓IntWalk.iteOmega]); (try (rw [dif_pos (by omega)]; go_simp; try go_bits)); first | exact upOut_value | (apply upOut_call; (go_at_call 51; exact cC _)) | (apply upOut_eq; (go_at_call 51; exact cC _)))
           go_simp; refine hK _ _ ?_; clear hK K))
      refine wpUp_nil (fun wq hwq => ?_)
      simp only [fills]
      go_wp2
      go_roundw
      case rel => exact ⟨j + 1, by go_num, by omega, by (rw [HS.out]; try rfl), box_up hwq HSE.out, by (repeat (first | with_reducible exact Up.refl _ | with_reducible assumption | with_reducible refine Up.set ?_ (by first | exact Nat.le_refl _ | (simp only []; omega) | (simp; omega)) _ | with_reducible refine Up.alloc ?_ _ | with_reducible refine Up.drew ?_ | refine Up.trans ?_ (by with_reducible assumption)))⟩
      case measure => simp [intOf]; omega
    · have e : j = ts.length := by omega
      subst e
      have HT : Hid (((ts.take ts.length).map (szW s dict)).sum = totW s dict ts) := by unfold Hid totW; rw [List.take_length]
      go_wp2
      go_ret
      exact ⟨ret_int (by rw [← HT.out]), hup⟩

/-- The index of the best dictionary; -1 if the arguments are not valid. -/
def bestV (s : SetD) (ds ts : List ByteArray) (ok : Bool) : Int := if allFitB s ds && ok then (bestI (fun i => totW s (ds.getD i ByteArray.empty) ts) (ds.length - 1) : Nat) else -1
theorem totW_one (s : SetD) (dict t : ByteArray) : totW s dict [t] = szW s dict t := by simp [totW]
theorem getD_lt {ds : List ByteArray} {i : Nat} (h : i < ds.length) : ds.getD i ByteArray.empty = ds[i] := by rw [List.getD_eq_getElem?_getD, List.getElem?_eq_getElem h]; rfl
def RelBe (f : Nat → Nat) (n : Nat) (s : SetD) (sb : Nat) (w : World) (b i : Value) (wr : World) : Prop := ∃ j : Nat, i = .int .i64 ((j : Int) + 1) ∧ j + 1 ≤ n ∧ b = .int .i64 (bestI f j : Nat) ∧ SetAt sb s.ord s.lit s.most wr ∧ Up w wr

set_option maxRecDepth 100000 in
set_option maxHeartbeats 4000000 in
theorem bestDictS_any (s : SetD) (ds : List ByteArray) (v : Value) (d : ByteArray) (w : World) (h : ArgS w v ds) (hl : ds.length ≤ 1048576) (hs : ∀ t ∈ ds, t.size ≤ 1048576) (hd : d.size ≤ 1048576) :
    Calls Try.prog 24  #[setV s, v, .string d] w (Same (.int .i64 (bestV s ds [d] (fitsB s d.data.toList))) w) := by
  have hat := h
  have cF := fun wx hr => l4Fits_any s ds v wx hr hl hs
  have cD := fun wx => fitsS_any s d wx (by omega)
  have hrt := fun (wq : World) (hu : Up w wq) => h.up hu
  unfold bestV
  cases h1 : allFitB s ds
  · rw [h1] at cF
    simp only [Bool.false_and, Bool.false_eq_true, if_false]
    obtain ⟨a, cap, rfl, hm, hms, -⟩ := h
    clear h1
    simp only [setV] at *
    go_enter Try.func24, Try.ntmps24
    go_wp2_with ((go_at_call 45; (with_reducible refine (cF _ (hrt _ (by (repeat (first | with_reducible exact Up.refl _ | with_reducible assumption | with_reducible refine Up.set ?_ (by first | exact Nat.le_refl _ | (simp only []; omega) | (simp; omega)) _ | with_reducible refine Up.alloc ?_ _ | with_reducible refine Up.drew ?_ | refine Up.trans ?_ (by with_reducible assumption)))))).mono ?_); rintro e w1 ⟨rfl, U1⟩; have B1 := bcell U1; have Z1 := U1.size; (try simp at Z1); (try rw [Nat.add_one_le_iff] at Z1)))
    go_ret
    refine ⟨rfl, ?_⟩
    (repeat (first | with_reducible exact Up.refl _ | with_reducible assumption | with_reducible refine Up.set ?_ (by first | exact Nat.le_refl _ | (simp only []; omega) | (simp; omega)) _ | with_reducible refine Up.alloc ?_ _ | with_reducible refine Up.drew ?_ | refine Up.trans ?_ (by with_reducible assumption)))
  · rw [h1] at cF
    cases h2 : fitsB s d.data.toList
    · rw [h2] at cD
      simp only [Bool.true_and, Bool.false_eq_true, if_false]
      obtain ⟨a, cap, rfl, hm, hms, -⟩ := h
      clear h1 h2
      simp only [setV] at *
      go_enter Try.func24, Try.ntmps24
      go_wp2_with (first | ((go_at_call 45; (with_reducible refine (cF _ (hrt _ (by (repeat (first | with_reducible exact Up.refl _ | with_reducible assumption | with_reducible refine Up.set ?_ (by first | exact Nat.le_refl _ | (simp only []; omega) | (simp; omega)) _ | with_reducible refine Up.alloc ?_ _ | with_reducible refine Up.drew ?_ | refine Up.trans ?_ (by with_reducible assumption)))))).mono ?_); rintro e w1 ⟨rfl, U1⟩; have B1 := bcell U1; have Z1 := U1.size; (try simp at Z1); (try rw [Nat.add_one_le_iff] at Z1)); (try have Y1a : w.heap.size < w1.heap.size := (by omega)); (try have Y1b : w.heap.size + 1 < w1.heap.size := (by omega)); (try have Y1c : w.heap.size + 1 + 1 < w1.heap.size := (by omega)); (try have Y1d : w.heap.size + 1 + 1 + 1 < w1.heap.size := (by omega)); skip) | (go_at_call 50; (with_reducible refine (cD _).mono ?_); rintro e w2 ⟨rfl, U2⟩; have B2 := bcell U2; have Z2 := U2.size; (try simp at Z2); (try rw [Nat.add_one_le_iff] at Z2)))
      go_ret
      refine ⟨rfl, ?_⟩
      (repeat (first | with_reducible exact Up.refl _ | with_reducible assumption | with_reducible refine Up.set ?_ (by first | exact Nat.le_refl _ | (simp only []; omega) | (simp; omega)) _ | with_reducible refine Up.alloc ?_ _ | with_reducible refine Up.drew ?_ | refine Up.trans ?_ (by with_reducible assumption)))
    · rw [h2] at cD
      simp only [Bool.true_and, if_true]
      obtain ⟨l1, l2, l3⟩ := allFit_iff.1 h1
      obtain ⟨a, cap, rfl, hm, hms, -⟩ := h
      clear h1 h2 l3
      simp only [setV] at *
      go_enter Try.func24, Try.ntmps24
      go_wp2_with (first | ((go_at_call 45; (with_reducible refine (cF _ (hrt _ (by (repeat (first | with_reducible exact Up.refl _ | with_reducible assumption | with_reducible refine Up.set ?_ (by first | exact Nat.le_refl _ | (simp only []; omega) | (simp; omega)) _ | with_reducible refine Up.alloc ?_ _ | with_reducible refine Up.drew ?_ | refine Up.trans ?_ (by with_reducible assumption)))))).mono ?_); rintro e w1 ⟨rfl, U1⟩; have B1 := bcell U1; have Z1 := U1.size; (try simp at Z1); (try rw [Nat.add_one_le_iff] at Z1)); (try have Y1a : w.heap.size < w1.heap.size := (by omega)); (try have Y1b : w.heap.size + 1 < w1.heap.size := (by omega)); (try have Y1c : w.heap.size + 1 + 1 < w1.heap.size := (by omega)); (try have Y1d : w.heap.size + 1 + 1 + 1 < w1.heap.size := (by omega)); skip) | (go_at_call 50; (with_reducible refine (cD _).mono ?_); rintro e w2 ⟨rfl, U2⟩; have B2 := bcell U2; have Z2 := U2.size; (try simp at Z2); (try rw [Nat.add_one_le_iff] at Z2)))
      have hSE : SetAt w.heap.size s.ord s.lit s.most w2 := box_up U2 (box_up U1 (MapKept.heap_alloc w _).1)
      have hUU : Up w w2 := by (repeat (first | with_reducible exact Up.refl _ | with_reducible assumption | with_reducible refine Up.set ?_ (by first | exact Nat.le_refl _ | (simp only []; omega) | (simp; omega)) _ | with_reducible refine Up.alloc ?_ _ | with_reducible refine Up.drew ?_ | refine Up.trans ?_ (by with_reducible assumption)))
      go_loopw [7, 8] (fun b i wr => RelBe (fun i => totW s (ds.getD i ByteArray.empty) [d]) ds.length s w.heap.size w b i wr) (fun _ i _ => ds.length - (intOf i).toNat)
      case atStart => exact ⟨0, rfl, by omega, rfl, hSE, hUU⟩
      case round =>
        clear hSE hUU U1 U2
        obtain ⟨j, rfl, hj, rfl, hset, hup⟩ := hrel
        obtain ⟨hb0, s0, s1, s2⟩ := hset.cells
        have HSE := Lib.hid hset
        clear hset
        have hbl9 := bestI_le (fun i => totW s (ds.getD i ByteArray.empty) [d]) j
        have hjn : j < ds.length := by omega
        by_cases hlt : j + 1 < ds.length
        · obtain ⟨b, off, rfl, hbl, hx, -, hnc, hcm⟩ := (hat.up hup).at hlt
          obtain ⟨b', off', e, -, hy, -, -, -⟩ := (hat.up hup).at (show bestI (fun i => totW s (ds.getD i ByteArray.empty) [d]) j < ds.length by omega)
          cases e
          have hs1 := hs _ (List.getElem_mem hlt)
          have hs2 := hs _ (List.getElem_mem (show bestI (fun i => totW s (ds.getD i ByteArray.empty) [d]) j < ds.length by omega))
          have c1 := fun wx => l4Size_any s ds[j + 1] d wx (by omega) (by omega)
          have c2 := fun wx => l4Size_any s (ds[bestI (fun i => totW s (ds.getD i ByteArray.empty) [d]) j]'(by omega)) d wx (by omega) (by omega)
          have e1 : totW s (ds.getD (j + 1) ByteArray.empty) [d] = szW s ds[j + 1] d := by rw [totW_one, getD_lt hlt]
          have e2 : totW s (ds.getD (bestI (fun i => totW s (ds.getD i ByteArray.empty) [d]) j) ByteArray.empty) [d] = szW s (ds[bestI (fun i => totW s (ds.getD i ByteArray.empty) [d]) j]'(by omega)) d := by rw [totW_one, getD_lt (by omega)]
          have hB : bestI (fun i => totW s (ds.getD i ByteArray.empty) [d]) (j + 1) = if szW s ds[j + 1] d < szW s (ds[bestI (fun i => totW s (ds.getD i ByteArray.empty) [d]) j]'(by omega)) d then j + 1 else bestI (fun i => totW s (ds.getD i ByteArray.empty) [d]) j := by
            rw [← e1, ← e2]; rfl
          have HB := Lib.hid hB
          clear e1 e2 hB
          unfold maxLen at hcm
          generalize (ds[bestI (fun i => totW s (ds.getD i ByteArray.empty) [d]) j]'(by omega)) = t2 at *
          generalize ds[j + 1] = t1 at *
          generalize hqb : bestI (fun i => totW s (ds.getD i ByteArray.empty) [d]) j = q at *
          clear hqb
          simp only [setV] at c1 c2
          by_cases hcmp : szW s t1 d < szW s t2 d
          · have HR : Hid (bestI (fun i => totW s (ds.getD i ByteArray.empty) [d]) (j + 1) = j + 1) := HB.out.trans (if_pos hcmp)
            go_wp2
            refine wp_region_up 15 (by kernel_rfl) (by kernel_rfl) ?_
            simp only [List.take, List.drop]
            repeat (refine wpUp_step (fun K hK => ?_); go_simp; (try simp only [↓IntWalk.iteOmega]); first
              | (refine hK _ _ ?_; clear hK K)
              | (apply stepU_c
                 · intro wq hwq; (have hbq := bcell hwq; (repeat (first | refine fills_no (by rfl) ?_ | refine fills_yes (by rfl) (fun vq hvq => ?_))); simp only [List.filter_nil, fills]; unfold upAt; (try ((have hx2 := (hwq.cell (p := ⟨b, off + (j + 1), none⟩) hbl).trans hx; have hy2 := (hwq.cell (p := ⟨b, off + q, none⟩) hbl).trans hy; obtain ⟨hbz, s0, s1, s2⟩ := SetAt.cells (box_up hwq HSE.out)))); go_simp; (try go_bits); (try simp only [↓IntWalk.iteOmega]); (try (rw [dif_pos (by omega)]; go_simp; try go_bits)); first | exact upOut_value | (apply upOut_call; (go_at_call 51; with_reducible exact c1 _)) | (apply upOut_eq; (go_at_call 51; with_reducible exact c1 _)) | (apply upOut_call; (go_at_call 51; with_reducible exact c2 _)) | (apply upOut_eq; (go_at_call 51; with_reducible exact c2 _)))
                 go_simp; refine hK _ _ ?_; clear hK K))
            refine wpUp_nil (fun wq hwq => ?_)
            simp only [fills]
            go_wp2
            go_roundw
            case rel => exact ⟨j + 1, by go_num, by omega, by (rw [HR.out]; try go_num), box_up hwq HSE.out, by (repeat (first | with_reducible exact Up.refl _ | with_reducible assumption | with_reducible refine Up.set ?_ (by first | exact Nat.le_refl _ | (simp only []; omega) | (simp; omega)) _ | with_reducible refine Up.alloc ?_ _ | with_reducible refine Up.drew ?_ | refine Up.trans ?_ (by with_reducible assumption)))⟩
            case measure => simp [intOf]; omega
          · have HR : Hid (bestI (fun i => totW s (ds.getD i ByteArray.empty) [d]) (j + 1) = q) := HB.out.trans (if_neg hcmp)
            go_wp2
            refine wp_region_up 15 (by kernel_rfl) (by kernel_rfl) ?_
            simp only [List.take, List.drop]
            repeat (refine wpUp_step (fun K hK => ?_); go_simp; (try simp only [↓IntWalk.iteOmega]); first
              | (refine hK _ _ ?_; clear hK K)
              | (apply stepU_c
                 · intro wq hwq; (have hbq := bcell hwq; (repeat (first | refine fills_no (by rfl) ?_ | refine fills_yes (by rfl) (fun vq hvq => ?_))); simp only [List.filter_nil, fills]; unfold upAt; (try ((have hx2 := (hwq.cell (p := ⟨b, off + (j + 1), none⟩) hbl).trans hx; have hy2 := (hwq.cell (p := ⟨b, off + q, none⟩) hbl).trans hy; obtain ⟨hbz, s0, s1, s2⟩ := SetAt.cells (box_up hwq HSE.out)))); go_simp; (try go_bits); (try simp only [↓IntWalk.iteOmega]); (try (rw [dif_pos (by omega)]; go_simp; try go_bits)); first | exact upOut_value | (apply upOut_call; (go_at_call 51; with_reducible exact c1 _)) | (apply upOut_eq; (go_at_call 51; with_reducible exact c1 _)) | (apply upOut_call; (go_at_call 51; with_reducible exact c2 _)) | (apply upOut_eq; (go_at_call 51; with_reducible exact c2 _)))
                 go_simp; refine hK _ _ ?_; clear hK K))
            refine wpUp_nil (fun wq hwq => ?_)
            simp only [fills]
            go_wp2
            go_roundw
            case rel => exact ⟨j + 1, by go_num, by omega, by (rw [HR.out]; try go_num), box_up hwq HSE.out, by (repeat (first | with_reducible exact Up.refl _ | with_reducible assumption | with_reducible refine Up.set ?_ (by first | exact Nat.le_refl _ | (simp only []; omega) | (simp; omega)) _ | with_reducible refine Up.alloc ?_ _ | with_reducible refine Up.drew ?_ | refine Up.trans ?_ (by with_reducible assumption)))⟩
            case measure => simp [intOf]; omega
        · have HJ : Hid (j = ds.length - 1) := by unfold Hid; omega
          go_wp2
          go_ret
          exact ⟨ret_int (by rw [← HJ.out]), hup⟩

end Go.Proofs.Ytnbmkoapohjnmaa

/- Walks of the program's PackCodes, GreedyCodes, Compress. Conditions: what is known is valid and can be read. -/
namespace Go.Proofs.Ytnbmkoapohjnmaa
set_option linter.unusedVariables false
set_option linter.unusedSimpArgs false
open Go Go.RowKit

theorem packC_len10 (o : Int) : ∀ (xs ws : List Int), (∀ w ∈ ws, 0 ≤ w ∧ w ≤ 10) → (packC o xs ws).length ≤ 10 * ws.length
  | [], ws, _ => by simp [packC]
  | _ :: _, [], _ => by simp [packC]
  | x :: xs, w :: ws, h => by
    simp only [packC, List.length_append, codeL_length, List.length_cons]
    have h1 := h w (List.mem_cons_self ..)
    have h2 := packC_len10 o xs ws fun v hv => h v (List.mem_cons_of_mem _ hv)
    omega

set_option maxRecDepth 100000 in
set_option maxHeartbeats 1000000 in
theorem packBI_any (o : Int) (s : ByteArray) (w : World) (ho : o = 0 ∨ o = 1) (hb : isBits s.data.toList) (hs : s.size ≤ 32000) :
    Calls Try.prog 101  #[.int .i64 o, .string s] w (Same (.tuple #[.string (bs (packL o s.data.toList)), .bool true]) w) := by
  have cO := fun w => orderI_any o w
  have cV := fun w => bitsVI_any s w hb hs
  have cP := fun w => packI_any o s w ho hb (by omega)
  have ho1 : (o == 0 || o == 1) = true := by rcases ho with rfl | rfl <;> rfl
  rw [ho1] at cO
  clear hb ho ho1
  go_enter Try.func101, Try.ntmps101
  go_wp2_with (first | (go_at_call 78; (with_reducible refine (cO _).mono ?_); rintro e w' ⟨rfl, rfl⟩) | (go_at_call 128; (with_reducible refine (cV _).mono ?_); rintro e w' ⟨rfl, rfl⟩) | (go_at_call 129; (with_reducible refine (cP _).mono ?_); rintro e w3 ⟨rfl, U3⟩; have B3 := bcell U3; have Z3 := U3.size; (try simp at Z3); (try rw [Nat.add_one_le_iff] at Z3)))
  go_ret2
  exact ⟨rfl, U3⟩

theorem nil_row {w : World} {base : Nat} {e : TypeId} {size n c : Nat} {a : Option Addr} {xs : List Value} (h : w.ownsRow base e size (.slice a n c) n xs) : a = none → n = 0 ∧ c = 0 := fun ha => by
  subst ha
  rcases h.2 with ⟨e1, _⟩ | ⟨g, cp, cur, e1, _⟩
  · simpa using e1
  · simp at e1
theorem clipI_any (a : Option Addr) (n c : Nat) (w : World) (h : n ≤ c) (hc : c ≤ 9223372036854775807) (ha : a = none → n = 0 ∧ c = 0) :
    Calls Try.prog 97 #[.slice a n c] w (fun e w' => e = .returned (.slice a n n) ∧ w = w') := by
  cases a with
  | none =>
    obtain ⟨h1, h2⟩ := ha rfl
    subst h1; subst h2
    go_enter Try.func97, Try.ntmps97
    go_wp2
    go_ret
    exact ⟨rfl, rfl⟩
  | some ad =>
    clear ha
    go_enter Try.func97, Try.ntmps97
    go_wp2
    go_ret
    exact ⟨rfl, rfl⟩

def RelPc (o : Int) (codes ws : List Int) (a0 : World) (out i : Value) (wr : World) : Prop := ∃ n : Nat, i = .int .i64 n ∧ n ≤ codes.length ∧ ownU wr a0.heap.size out (packC o (codes.take n) (ws.take n)) ∧ Up a0 wr

set_option maxRecDepth 100000 in
set_option maxHeartbeats 8000000 in
theorem packCI_any (k : KnD) (v : Value) (lo : Nat) (codes : List Int) (vc : Value) (lc : Nat) (w : World) (h : k.Ok) (hv : k.last = -1 → k.base = k.ps.length) (hr : RdP lo w v k.ps) (hc : RdI lc w vc codes) (hl : codes.length ≤ 3100) (hT : (walkN k codes [] []).ok = true) (hD : (walkN k codes [] []).data.length ≤ 2000)
    (hw : (walkN k codes [] []).ws.length = codes.length) (hcb : ∀ x ∈ codes, 0 ≤ x ∧ x ≤ 1048576) (hwb : ∀ x ∈ (walkN k codes [] []).ws, 0 ≤ x ∧ x ≤ 10) :
    Calls Try.prog 73  #[kV k v, vc] w (Same (.tuple #[.string (bs (packL k.set.ord (packC k.set.ord codes (walkN k codes [] []).ws))), .bool true]) w) := by
  have cW := fun wx hr hc => walkI_any k v lo codes vc lc wx h hv hr hc hl hT hD
  have hrt := fun (wq : World) (hu : Up w wq) => hr.up hu
  have hct := fun (wq : World) (hu : Up w wq) => hc.up hu
  have ho := (setOk_bd h.set).1
  obtain ⟨a, cap, rfl, -, -, -, -⟩ := hr
  obtain ⟨ac, cc, rfl, hcc1, hcc2, -⟩ := id hc
  unfold maxLen at hcc2
  have hpl := packC_len10 k.set.ord codes _ hwb
  have hib := isBits_packC k.set.ord codes (walkN k codes [] []).ws
  clear hT hD
  generalize walkN k codes [] [] = T at *
  have hwl : T.ws.length ≤ 3100 := by omega
  have cP := fun wx => packBI_any k.set.ord (bs (packC k.set.ord codes T.ws)) wx ho (by rw [bs_data]; exact hib) (by rw [bs_size]; omega)
  rw [bs_data] at cP
  have HW := Lib.hid hw
  have HCB := Lib.hid hcb
  have HWB := Lib.hid hwb
  clear h hv hw hcb hwb hib
  simp only [kV] at *
  go_enter Try.func73, Try.ntmps73
  go_wp2_with (go_at_call 99; (with_reducible refine (cW _ (hrt _ (by (repeat (first | with_reducible exact Up.refl _ | with_reducible assumption | with_reducible refine Up.set ?_ (by first | exact Nat.le_refl _ | (simp only []; omega) | (simp; omega)) _ | with_reducible refine Up.alloc ?_ _ | with_reducible refine Up.drew ?_ | refine Up.trans ?_ (by with_reducible assumption))))) (hct _ (by (repeat (first | with_reducible exact Up.refl _ | with_reducible assumption | with_reducible refine Up.set ?_ (by first | exact Nat.le_refl _ | (simp only []; omega) | (simp; omega)) _ | with_reducible refine Up.alloc ?_ _ | with_reducible refine Up.drew ?_ | refine Up.trans ?_ (by with_reducible assumption)))))).mono ?_); rintro e w1 ⟨vw, rfl, ho1, U1⟩; obtain ⟨aw, cw, rfl⟩ := ownsRow_shape ho1; have B1 := bcell U1; have HO1 := Lib.hid ho1; clear ho1)
  have hU1 : Up w w1 := by (repeat (first | with_reducible exact Up.refl _ | with_reducible assumption | with_reducible refine Up.set ?_ (by first | exact Nat.le_refl _ | (simp only []; omega) | (simp; omega)) _ | with_reducible refine Up.alloc ?_ _ | with_reducible refine Up.drew ?_ | refine Up.trans ?_ (by with_reducible assumption)))
  have HK1 : KnAt w.heap.size k (.slice a k.ps.length cap) w1 := box_up U1 (MapKept.heap_alloc w _).1
  have HK := Lib.hid HK1
  clear hrt HK1 U1 B1 cW
  go_loopw [9, 23] (fun out i wr => RelPc k.set.ord codes T.ws w1 out i wr) (fun _ i _ => codes.length - (intOf i).toNat)
  case atStart => exact ⟨0, rfl, Nat.zero_le _, World.ownsRow_nil _ _ _ _, Up.refl _⟩
  case round =>
    obtain ⟨n, rfl, hle, hown, hup⟩ := hrel
    have hdl : (packC k.set.ord (codes.take n) (T.ws.take n)).length ≤ 131072 := by
      have := packC_len10 k.set.ord (codes.take n) (T.ws.take n) (fun x hx => HWB.out x (List.mem_of_mem_take hx))
      rw [List.length_take] at this
      omega
    obtain ⟨-, r0, r1, r2, r3, r4, r5⟩ := (HK.out.up hup).cells
    obtain ⟨ad, cd, rfl⟩ := ownsRow_shape hown
    have HOW := Lib.hid hown
    have HUP := Lib.hid hup
    by_cases hlt : n < codes.length
    · have hlt2 : n < T.ws.length := by have := HW.out; omega
      obtain ⟨bc, oc, rfl, hbc1, hbc2, -, -, -, -⟩ := RdI.at (hct _ (hU1.trans hup)) hlt
      obtain ⟨bw, ow, rfl, hbw1, hbw2, -, hbw4, hbw5, -⟩ := RdI.at (RdI.of_own (ownsRow_up HO1.out hup)) hlt2
      have hb := HCB.out _ (List.getElem_mem hlt)
      have hb2 := HWB.out _ (List.getElem_mem hlt2)
      obtain ⟨xn, hxn⟩ := Int.eq_ofNat_of_zero_le hb.1
      obtain ⟨wn, hwn⟩ := Int.eq_ofNat_of_zero_le hb2.1
      have cB := fun wq hu hown => bitsI_any w1 k.set.ord xn wn (.slice ad (packC k.set.ord (codes.take n) (T.ws.take n)).length cd) (packC k.set.ord (codes.take n) (T.ws.take n)) wq ho (by omega) (by omega) (by omega) hu hown
      have HS : Hid (packC k.set.ord (codes.take (n + 1)) (T.ws.take (n + 1)) = packC k.set.ord (codes.take n) (T.ws.take n) ++ codeL k.set.ord xn wn) := by
        unfold Hid
        rw [packC_take k.set.ord HW.out.symm hlt, hxn, hwn]; rfl
      rw [hxn] at hbc2
      rw [hwn] at hbw2
      unfold maxLen at hbw5
      generalize packC k.set.ord (codes.take n) (T.ws.take n) = dn at *
      clear hb hb2 hxn hwn hown hup
      go_wp2
      refine wp_region_upR 9 (by kernel_rfl) (by kernel_rfl) ?_
      simp only [List.take, List.drop]
      repeat (refine wpUp_step (fun K hK => ?_); go_simp; (try simp only [↓IntWalk.iteOmega]); first
        | (refine hK _ _ ?_; clear hK K)
        | (apply stepU_c
           · intro wq hwq; (have hbq := bcell hwq; (repeat (first | refine fills_no (by rfl) ?_ | refine fills_yes (by rfl) (fun vq hvq => ?_))); simp only [List.filter_nil, fills]; unfold upAt; (try ((obtain ⟨-, r0, r1, r2, r3, r4, r5⟩ := (HK.out.up (HUP.out.trans hwq)).cells; have hbw3 := (hwq.cell (p := ⟨bw, ow + n, none⟩) hbw1).trans hbw2))); go_simp; (try go_bits); (try simp only [↓IntWalk.iteOmega]); (try (rw [dif_pos (by omega)]; go_simp; try go_bits)); first | exact upOut_value)
           go_simp; refine hK _ _ ?_; clear hK K))
      refine wpUp_nil (fun wq hwq => ?_)
      simp only [fills]
      go_wp2_with fail
      with_reducible refine (cB _ (HUP.out.trans hwq) (ownsRow_up HOW.out hwq)).mono ?_
      rintro e w5 ⟨v5, rfl, ho5, hU5⟩
      obtain ⟨a5, c5, rfl⟩ := ownsRow_shape (ownsRow_n2 (n' := dn.length + (codeL k.set.ord xn wn).length) ho5 (by simp))
      have HO5 := Lib.hid ho5
      clear ho5
      go_wp2
      go_roundw
      case rel => exact ⟨n + 1, by go_num, by omega, by rw [HS.out]; exact HO5.out, hU5⟩
      case measure => simp [intOf]; omega
    · have e : n = codes.length := by omega
      subst e
      have ht1 : codes.take codes.length = codes := List.take_length
      have ht2 : T.ws.take codes.length = T.ws := by rw [← HW.out]; exact List.take_length
      rw [ht1, ht2] at hown hdl ⊢
      have cv := conv_any hown rfl
      clear hown ht1 ht2 HOW
      generalize packC k.set.ord codes T.ws = dn at *
      go_wp2_with ((go_at_call 101; (with_reducible refine (cP _).mono ?_); rintro e w5 ⟨rfl, U5⟩; have B5 := bcell U5; have Z5 := U5.size; (try simp at Z5); (try rw [Nat.add_one_le_iff] at Z5)))
      go_ret2
      exact ⟨rfl, hU1.trans (hup.trans U5)⟩

/-- What GreedyCodes gives. -/
def GcPost (l : List Int) (w : World) (e : Ending) (w' : World) : Prop := ∃ v, e = .returned (.tuple #[v, .bool true]) ∧ RdI 0 w' v l ∧ Up w w'

set_option maxRecDepth 100000 in
set_option maxHeartbeats 4000000 in
theorem gcodesI_any (k : KnD) (v : Value) (lo : Nat) (d : ByteArray) (w : World) (h : k.Ok) (hv : k.last = -1 → k.base = k.ps.length) (hr : RdP lo w v k.ps) (hd : d.size ≤ 1073741824) :
    Calls Try.prog 72  #[kV k v, .string d] w (fun e w' => if fitsB k.set d.data.toList then GcPost (greedy k d.data.toList) w e w' else Same (.tuple #[.slice none 0 0, .bool false]) w e w') := by
  have cV := fun wx hr => kvI_any k v lo wx h hv hr
  obtain ⟨-, hlb, -, -⟩ := setOk_bd h.set
  have cF := fun wx => fitsI_any k.set d wx (by omega) hd
  have hrt := fun (wq : World) (hu : Up w wq) => hr.up hu
  have hlen := ba_len d
  cases hf : fitsB k.set d.data.toList
  · rw [hf] at cF
    simp only [Bool.false_eq_true, if_false]
    obtain ⟨a, cap, rfl, -, -, -, -⟩ := hr
    clear h hv hf
    simp only [kV] at *
    go_enter Try.func72, Try.ntmps72
    go_wp2_with (first | (go_at_call 65; (with_reducible refine (cV _ (hrt _ (by (repeat (first | with_reducible exact Up.refl _ | with_reducible assumption | with_reducible refine Up.set ?_ (by first | exact Nat.le_refl _ | (simp only []; omega) | (simp; omega)) _ | with_reducible refine Up.alloc ?_ _ | with_reducible refine Up.drew ?_ | refine Up.trans ?_ (by with_reducible assumption)))))).mono ?_); rintro e w1 ⟨rfl, U1⟩; have B1 := bcell U1; have Z1 := U1.size; (try simp at Z1); (try rw [Nat.add_one_le_iff] at Z1)) | (go_at_call 52; (with_reducible refine (cF _).mono ?_); rintro e w2 ⟨rfl, U2⟩; have B2 := bcell U2; have Z2 := U2.size; (try simp at Z2); (try rw [Nat.add_one_le_iff] at Z2)))
    go_ret2
    refine ⟨rfl, ?_⟩
    (repeat (first | with_reducible exact Up.refl _ | with_reducible assumption | with_reducible refine Up.set ?_ (by first | exact Nat.le_refl _ | (simp only []; omega) | (simp; omega)) _ | with_reducible refine Up.alloc ?_ _ | with_reducible refine Up.drew ?_ | refine Up.trans ?_ (by with_reducible assumption)))
  · rw [hf] at cF
    simp only [if_true]
    obtain ⟨-, h2, h3⟩ := fitsB_lits hf
    have cG := fun wx hr => greedy_any k v lo d wx h hr (by omega) h3
    obtain ⟨a, cap, rfl, -, -, -, -⟩ := hr
    clear h hv hf h3
    generalize greedy k d.data.toList = codes at *
    simp only [kV] at *
    go_enter Try.func72, Try.ntmps72
    go_wp2_with (first | (go_at_call 65; (with_reducible refine (cV _ (hrt _ (by (repeat (first | with_reducible exact Up.refl _ | with_reducible assumption | with_reducible refine Up.set ?_ (by first | exact Nat.le_refl _ | (simp only []; omega) | (simp; omega)) _ | with_reducible refine Up.alloc ?_ _ | with_reducible refine Up.drew ?_ | refine Up.trans ?_ (by with_reducible assumption)))))).mono ?_); rintro e w1 ⟨rfl, U1⟩; have B1 := bcell U1; have Z1 := U1.size; (try simp at Z1); (try rw [Nat.add_one_le_iff] at Z1)) | (go_at_call 52; (with_reducible refine (cF _).mono ?_); rintro e w2 ⟨rfl, U2⟩; have B2 := bcell U2; have Z2 := U2.size; (try simp at Z2); (try rw [Nat.add_one_le_iff] at Z2)) | (go_at_call 98; (with_reducible refine (cG _ (hrt _ (by (repeat (first | with_reducible exact Up.refl _ | with_reducible assumption | with_reducible refine Up.set ?_ (by first | exact Nat.le_refl _ | (simp only []; omega) | (simp; omega)) _ | with_reducible refine Up.alloc ?_ _ | with_reducible refine Up.drew ?_ | refine Up.trans ?_ (by with_reducible assumption)))))).mono ?_); rintro e w3 ⟨v3, rfl, ho3, U3⟩; have hrd3 := RdI.of_own ho3; obtain ⟨a3, c3, rfl⟩ := ownsRow_shape ho3; have hcp3 := ownsRow_cap ho3; have hn3 := nil_row ho3; have HRD := Lib.hid hrd3; clear hrd3 ho3) | (go_at_call 97; (with_reducible refine (clipI_any _ _ _ _ hcp3.1 hcp3.2 hn3).mono ?_); rintro e w' ⟨rfl, rfl⟩))
    go_ret2
    refine ⟨_, rfl, ?_, by (repeat (first | with_reducible exact Up.refl _ | with_reducible assumption | with_reducible refine Up.set ?_ (by first | exact Nat.le_refl _ | (simp only []; omega) | (simp; omega)) _ | with_reducible refine Up.alloc ?_ _ | with_reducible refine Up.drew ?_ | refine Up.trans ?_ (by with_reducible assumption)))⟩
    obtain ⟨a', cap', e1, e2, e3, e4⟩ := HRD.out
    cases e1
    exact ⟨_, _, rfl, Nat.le_refl _, by omega, fun hp => by
      obtain ⟨b, off, f1, f2, f3, f4⟩ := e4 hp
      exact ⟨b, off, f1, Nat.zero_le _, f3, f4⟩⟩

set_option maxRecDepth 100000 in
set_option maxHeartbeats 4000000 in
theorem compI_any (k : KnD) (v : Value) (lo : Nat) (d : ByteArray) (w : World) (h : k.Ok) (hv : k.last = -1 → k.base = k.ps.length) (hr : RdP lo w v k.ps) (hd : d.size ≤ 1073741824) :
    Calls Try.prog 60  #[kV k v, .string d] w (Same (optS (compO k d.data.toList)) w) := by
  have cG := fun wx hr => gcodesI_any k v lo d wx h hv hr hd
  have hrt := fun (wq : World) (hu : Up w wq) => hr.up hu
  have hlen := ba_len d
  unfold compO optS
  cases hf : fitsB k.set d.data.toList
  · rw [hf] at cG
    simp only [Bool.false_eq_true, if_false] at cG ⊢
    obtain ⟨a, cap, rfl, -, -, -, -⟩ := hr
    clear h hv hf
    simp only [kV] at *
    go_enter Try.func60, Try.ntmps60
    go_wp2_with ((go_at_call 72; (with_reducible refine (cG _ (hrt _ (by (repeat (first | with_reducible exact Up.refl _ | with_reducible assumption | with_reducible refine Up.set ?_ (by first | exact Nat.le_refl _ | (simp only []; omega) | (simp; omega)) _ | with_reducible refine Up.alloc ?_ _ | with_reducible refine Up.drew ?_ | refine Up.trans ?_ (by with_reducible assumption)))))).mono ?_); rintro e w1 ⟨rfl, U1⟩; have B1 := bcell U1; have Z1 := U1.size; (try simp at Z1); (try rw [Nat.add_one_le_iff] at Z1)))
    go_ret2
    refine ⟨rfl, ?_⟩
    (repeat (first | with_reducible exact Up.refl _ | with_reducible assumption | with_reducible refine Up.set ?_ (by first | exact Nat.le_refl _ | (simp only []; omega) | (simp; omega)) _ | with_reducible refine Up.alloc ?_ _ | with_reducible refine Up.drew ?_ | refine Up.trans ?_ (by with_reducible assumption)))
  · rw [hf] at cG
    simp only [if_true] at cG ⊢
    obtain ⟨-, h2, h3⟩ := fitsB_lits hf
    obtain ⟨g1, g2, g3, g4, g5⟩ := walk_greedy h h3 (by omega)
    have g6 := greedy_tight h h3 (by omega)
    have cP := fun wx vc hr hc => packCI_any k v lo (greedy k d.data.toList) vc 0 wx h hv hr hc (by omega) g3 (by rw [g2]; omega) g1 (fun x hx => ⟨(g5 x hx).1, by have := (g5 x hx).2; omega⟩) (fun x hx => ⟨by have := (g4 x hx).1; omega, (g4 x hx).2⟩)
    have HE : Hid (compL k d.data.toList = packL k.set.ord (packC k.set.ord (greedy k d.data.toList) (walkN k (greedy k d.data.toList) [] []).ws)) := rfl
    simp only [Option.getD_some, Option.isSome_some]
    rw [HE.out]
    generalize packL k.set.ord (packC k.set.ord (greedy k d.data.toList) (walkN k (greedy k d.data.toList) [] []).ws) = cl at *
    clear g1 g2 g3 g4 g5 g6 HE hf h3
    generalize greedy k d.data.toList = codes at *
    obtain ⟨a, cap, rfl, -, -, -, -⟩ := hr
    clear h hv
    simp only [kV] at *
    go_enter Try.func60, Try.ntmps60
    go_wp2_with (first | (go_at_call 72; (with_reducible refine (cG _ (hrt _ (by (repeat (first | with_reducible exact Up.refl _ | with_reducible assumption | with_reducible refine Up.set ?_ (by first | exact Nat.le_refl _ | (simp only []; omega) | (simp; omega)) _ | with_reducible refine Up.alloc ?_ _ | with_reducible refine Up.drew ?_ | refine Up.trans ?_ (by with_reducible assumption)))))).mono ?_); rintro e w1 ⟨v1, rfl, hr1, U1⟩; have B1 := bcell U1; have HR1 := Lib.hid hr1; obtain ⟨a1, c1, rfl, -, -, -⟩ := hr1) | (go_at_call 73; (with_reducible refine (cP _ _ (hrt _ (by (repeat (first | with_reducible exact Up.refl _ | with_reducible assumption | with_reducible refine Up.set ?_ (by first | exact Nat.le_refl _ | (simp only []; omega) | (simp; omega)) _ | with_reducible refine Up.alloc ?_ _ | with_reducible refine Up.drew ?_ | refine Up.trans ?_ (by with_reducible assumption))))) HR1.out).mono ?_); rintro e w2 ⟨rfl, U2⟩; have B2 := bcell U2; have Z2 := U2.size; (try simp at Z2); (try rw [Nat.add_one_le_iff] at Z2)))
    go_ret2
    refine ⟨rfl, ?_⟩
    (repeat (first | with_reducible exact Up.refl _ | with_reducible assumption | with_reducible refine Up.set ?_ (by first | exact Nat.le_refl _ | (simp only []; omega) | (simp; omega)) _ | with_reducible refine Up.alloc ?_ _ | with_reducible refine Up.drew ?_ | refine Up.trans ?_ (by with_reducible assumption)))

end Go.Proofs.Ytnbmkoapohjnmaa

/- Walks of the program's allFit, bestOf, BestDict, BestSample. Conditions: the strings can be read and are no longer than 2^20 bytes. -/
namespace Go.Proofs.Ytnbmkoapohjnmaa
set_option linter.unusedVariables false
set_option linter.unusedSimpArgs false
open Go Go.RowKit

set_option maxRecDepth 100000 in
set_option maxHeartbeats 4000000 in
theorem allFitI_any (s : SetD) (l : List ByteArray) (v : Value) (w : World) (hli : -9223372036854775808 ≤ s.lit ∧ s.lit ≤ 9223372036854775807) (h : ArgS w v l) (hl : l.length ≤ 1048576) (hs : ∀ t ∈ l, t.size ≤ 1048576) :
    Calls Try.prog 47  #[setV s, v] w (Same (.bool (allFitB s l)) w) := by
  have hat := h
  obtain ⟨a, cap, rfl, hm, hms, -⟩ := h
  obtain ⟨o, li, mo⟩ := s
  simp only [setV] at *
  by_cases h0 : l.length < 1
  · have HN : Hid (allFitB ⟨o, li, mo⟩ l = false) := by
      unfold Hid allFitB; rw [decide_eq_false (by omega)]; rfl
    go_enter Try.func47, Try.ntmps47
    go_wp2
    go_ret
    refine ⟨ret_bool HN.out.symm, ?_⟩
    (repeat (first | with_reducible exact Up.refl _ | with_reducible assumption | with_reducible refine Up.set ?_ (by first | exact Nat.le_refl _ | (simp only []; omega) | (simp; omega)) _ | with_reducible refine Up.alloc ?_ _ | with_reducible refine Up.drew ?_ | refine Up.trans ?_ (by with_reducible assumption)))
  · by_cases h8 : 8 < l.length
    · have HN : Hid (allFitB ⟨o, li, mo⟩ l = false) := by
        unfold Hid allFitB; rw [decide_eq_false (show ¬ l.length ≤ 8 by omega), Bool.and_false]; rfl
      go_enter Try.func47, Try.ntmps47
      go_wp2
      go_ret
      refine ⟨ret_bool HN.out.symm, ?_⟩
      (repeat (first | with_reducible exact Up.refl _ | with_reducible assumption | with_reducible refine Up.set ?_ (by first | exact Nat.le_refl _ | (simp only []; omega) | (simp; omega)) _ | with_reducible refine Up.alloc ?_ _ | with_reducible refine Up.drew ?_ | refine Up.trans ?_ (by with_reducible assumption)))
    · go_enter Try.func47, Try.ntmps47
      go_wp2
      go_loopw [17] (fun i wr => RelFi ⟨o, li, mo⟩ l w i wr) (fun i _ => l.length - (intOf i).toNat)
      case atStart => exact ⟨0, rfl, Nat.zero_le _, fun q h1 h2 => absurd h2 (Nat.not_lt_zero _), (MapKept.heap_alloc w _).1, by (repeat (first | with_reducible exact Up.refl _ | with_reducible assumption | with_reducible refine Up.set ?_ (by first | exact Nat.le_refl _ | (simp only []; omega) | (simp; omega)) _ | with_reducible refine Up.alloc ?_ _ | with_reducible refine Up.drew ?_ | refine Up.trans ?_ (by with_reducible assumption)))⟩
      case round =>
        obtain ⟨j, rfl, hj, hall, hset, hup⟩ := hrel
        obtain ⟨hb0, s0, s1, s2⟩ := hset.cells
        have HA := Lib.hid hall
        have HSE := Lib.hid hset
        clear hall hset
        by_cases hlt : j < l.length
        · obtain ⟨b, off, rfl, hbl, hx, -, hnc, hcm⟩ := (hat.up hup).at hlt
          have hsj := hs _ (List.getElem_mem hlt)
          have cF := fun wx => fitsI_any ⟨o, li, mo⟩ l[j] wx hli (by omega)
          unfold maxLen at hcm
          cases hf : fitsB ⟨o, li, mo⟩ (l[j]).data.toList
          · rw [hf] at cF
            have HN : Hid (allFitB ⟨o, li, mo⟩ l = false) := allFit_no hlt hf
            clear hf
            generalize l[j] = t at *
            simp only [setV] at cF
            go_wp2_with ((go_at_call 52; (with_reducible refine (cF _).mono ?_); rintro e w3 ⟨rfl, U3⟩; have B3 := bcell U3; have Z3 := U3.size; (try simp at Z3); (try rw [Nat.add_one_le_iff] at Z3)))
            go_ret
            refine ⟨ret_bool HN.out.symm, ?_⟩
            (repeat (first | with_reducible exact Up.refl _ | with_reducible assumption | with_reducible refine Up.set ?_ (by first | exact Nat.le_refl _ | (simp only []; omega) | (simp; omega)) _ | with_reducible refine Up.alloc ?_ _ | with_reducible refine Up.drew ?_ | refine Up.trans ?_ (by with_reducible assumption)))
          · rw [hf] at cF
            have HN : Hid (∀ q (h : q < l.length), q < j + 1 → fitsB ⟨o, li, mo⟩ (l[q]).data.toList = true) := fun q h1 h2 => by
              rcases Nat.lt_or_ge q j with h3 | h3
              · exact HA.out q h1 h3
              · have : q = j := by omega
                subst this; exact hf
            clear hf
            generalize l[j] = t at *
            simp only [setV] at cF
            go_wp2_with ((go_at_call 52; (with_reducible refine (cF _).mono ?_); rintro e w3 ⟨rfl, U3⟩; have B3 := bcell U3; have Z3 := U3.size; (try simp at Z3); (try rw [Nat.add_one_le_iff] at Z3)))
            go_roundw
            case rel => exact ⟨j + 1, by go_num, by omega, HN.out, box_up U3 HSE.out, by (repeat (first | with_reducible exact Up.refl _ | with_reducible assumption | with_reducible refine Up.set ?_ (by first | exact Nat.le_refl _ | (simp only []; omega) | (simp; omega)) _ | with_reducible refine Up.alloc ?_ _ | with_reducible refine Up.drew ?_ | refine Up.trans ?_ (by with_reducible assumption)))⟩
            case measure => simp [intOf]; omega
        · have e : j = l.length := by omega
          subst e
          have HN : Hid (allFitB ⟨o, li, mo⟩ l = true) := allFit_iff.2 ⟨by omega, by omega, fun t ht => by
            obtain ⟨q, hq, rfl⟩ := List.mem_iff_getElem.1 ht
            exact HA.out q hq hq⟩
          go_wp2
          go_ret
          refine ⟨ret_bool HN.out.symm, ?_⟩
          (repeat (first | with_reducible exact Up.refl _ | with_reducible assumption | with_reducible refine Up.set ?_ (by first | exact Nat.le_refl _ | (simp only []; omega) | (simp; omega)) _ | with_reducible refine Up.alloc ?_ _ | with_reducible refine Up.drew ?_ | refine Up.trans ?_ (by with_reducible assumption)))

theorem szW_fit {s : SetD} {dict d : ByteArray} (h1 : fitsB s dict.data.toList = true) (h2 : fitsB s d.data.toList = true) : compO (learnK (startK s) dict.data.toList) d.data.toList = some (compL (learnK (startK s) dict.data.toList) d.data.toList) ∧ szW s dict d = (compL (learnK (startK s) dict.data.toList) d.data.toList).length := by
  have h3 : compO (learnK (startK s) dict.data.toList) d.data.toList = some (compL (learnK (startK s) dict.data.toList) d.data.toList) := by
    unfold compO
    rw [if_pos (show fitsB (learnK (startK s) dict.data.toList).set d.data.toList = true from h2)]
  refine ⟨h3, ?_⟩
  unfold szW compW
  rw [if_pos h1, h3]; rfl
/-- The outer loop of bestOf; the inner one. -/
def RelBo (f : Nat → Nat) (n : Nat) (s : SetD) (w : World) (b z i : Value) (wr : World) : Prop := ∃ j : Nat, i = .int .i64 j ∧ j ≤ n ∧ ((j = 0 ∧ b = .int .i64 (-1) ∧ z = .int .i64 0) ∨ ∃ q : Nat, j = q + 1 ∧ b = .int .i64 (bestI f q : Nat) ∧ z = .int .i64 (f (bestI f q) : Nat)) ∧ SetAt w.heap.size s.ord s.lit s.most wr ∧ Up w wr
def RelBi (s : SetD) (dict : ByteArray) (ts : List ByteArray) (kk : KnD) (vk : Value) (w1 : World) (z a i : Value) (wr : World) : Prop := ∃ j : Nat, i = .int .i64 j ∧ j ≤ ts.length ∧ z = .int .i64 ((((ts.take j).map (szW s dict)).sum : Nat) : Int) ∧ a = .bool true ∧ KnAt w1.heap.size kk vk wr ∧ Up w1 wr

set_option maxRecDepth 100000 in
set_option maxHeartbeats 8000000 in
theorem bestOf_any (s : SetD) (ds ts : List ByteArray) (vd vt : Value) (w : World) (hli : -9223372036854775808 ≤ s.lit ∧ s.lit ≤ 9223372036854775807) (hd : ArgS w vd ds) (ht : ArgS w vt ts) (f1 : ∀ x ∈ ds, fitsB s x.data.toList = true) (f2 : ∀ x ∈ ts, fitsB s x.data.toList = true) (h1 : 1 ≤ ds.length) (h8 : ds.length ≤ 8) (h8' : ts.length ≤ 8)
    (hsd : ∀ t ∈ ds, t.size ≤ 1048576) (hst : ∀ t ∈ ts, t.size ≤ 1048576) :
    Calls Try.prog 53  #[setV s, vd, vt] w (Same (.int .i64 (bestI (fun i => totW s (ds.getD i ByteArray.empty) ts) (ds.length - 1) : Nat)) w) := by
  have hdt := hd
  have htt := ht
  obtain ⟨a, cap, rfl, hm, hms, -⟩ := hd
  obtain ⟨at', cat, rfl, hmt, hmst, -⟩ := ht
  have HF1 := Lib.hid f1
  have HF2 := Lib.hid f2
  clear f1 f2
  obtain ⟨F, HFD⟩ : ∃ F : Nat → Nat, Hid (F = fun i => totW s (ds.getD i ByteArray.empty) ts) := ⟨_, rfl⟩
  rw [← HFD.out]
  simp only [setV] at *
  go_enter Try.func53, Try.ntmps53
  go_wp2
  go_loopw [7, 8, 21] (fun b z i wr => RelBo F ds.length s w b z i wr) (fun _ _ i _ => ds.length - (intOf i).toNat)
  case atStart => exact ⟨0, rfl, Nat.zero_le _, .inl ⟨rfl, rfl, rfl⟩, (MapKept.heap_alloc w _).1, by (repeat (first | with_reducible exact Up.refl _ | with_reducible assumption | with_reducible refine Up.set ?_ (by first | exact Nat.le_refl _ | (simp only []; omega) | (simp; omega)) _ | with_reducible refine Up.alloc ?_ _ | with_reducible refine Up.drew ?_ | refine Up.trans ?_ (by with_reducible assumption)))⟩
  case round =>
    obtain ⟨j, rfl, hj, hbz, hset, hup⟩ := hrel
    obtain ⟨hb0, s0, s1, s2⟩ := hset.cells
    have HSE := Lib.hid hset
    have HBZ := Lib.hid hbz
    clear hset hbz
    by_cases hlt : j < ds.length
    · obtain ⟨b, off, rfl, hbl, hx, -, hnc, hcm⟩ := (hdt.up hup).at hlt
      have hsj := hsd _ (List.getElem_mem hlt)
      have hfj := HF1.out _ (List.getElem_mem hlt)
      have cS := fun wx => startWI_any s ds[j] wx hli (by omega)
      rw [hfj] at cS
      simp only [if_true] at cS
      obtain ⟨g1, g2, g3⟩ := fitsB_lits hfj
      have hok : (learnK (startK s) (ds[j]).data.toList).Ok := learnK_ok (startK_ok g1) g3
      have cC := fun (wx : World) (v : Value) (d : ByteArray) (hr : RdP 0 wx v (learnK (startK s) (ds[j]'hlt).data.toList).ps) (hd : d.size ≤ 1073741824) => compI_any (learnK (startK s) (ds[j]).data.toList) v 0 d wx hok (fun _ => rfl) hr hd
      have HSZ : Hid (∀ d : ByteArray, fitsB s d.data.toList = true → compO (learnK (startK s) (ds[j]).data.toList) d.data.toList = some (compL (learnK (startK s) (ds[j]).data.toList) d.data.toList) ∧ szW s ds[j] d = (compL (learnK (startK s) (ds[j]).data.toList) d.data.toList).length) := fun d hd => szW_fit hfj hd
      have HFJ : Hid (F j = totW s ds[j] ts) := by unfold Hid; rw [HFD.out]; show totW s (ds.getD j ByteArray.empty) ts = _; rw [getD_lt hlt]
      have hFb : F j ≤ 80000 := by rw [HFJ.out]; have := sum_bd (szW s ds[j]) (szW_bd s ds[j]) ts; unfold totW; omega
      unfold maxLen at hcm
      clear g1 g2 g3 hok hfj
      generalize learnK (startK s) (ds[j]).data.toList = kk at *
      generalize ds[j] = dict at *
      simp only [setV, kV] at cS cC
      go_wp2_with (go_at_call 31; (with_reducible refine (cS _).mono ?_); rintro e w1 ⟨v1, rfl, ho1, U1⟩; obtain ⟨a1, c1, rfl⟩ := ownsRow_shape ho1; have HO1 := Lib.hid ho1; clear ho1)
      go_loopw [13, 14, 34] (fun z a i wr => RelBi s dict ts kk (.slice a1 kk.ps.length c1) w1 z a i wr) (fun _ _ i _ => ts.length - (intOf i).toNat)
      case atStart => exact ⟨0, rfl, Nat.zero_le _, rfl, rfl, (MapKept.heap_alloc w1 _).1, by (repeat (first | with_reducible exact Up.refl _ | with_reducible assumption | with_reducible refine Up.set ?_ (by first | exact Nat.le_refl _ | (simp only []; omega) | (simp; omega)) _ | with_reducible refine Up.alloc ?_ _ | with_reducible refine Up.drew ?_ | refine Up.trans ?_ (by with_reducible assumption)))⟩
      case round =>
        obtain ⟨n, rfl, hn, rfl, rfl, hkn, hup2⟩ := hrel
        obtain ⟨hk0, r0, r1, r2, r3, r4, r5⟩ := hkn.cells
        have HKN := Lib.hid hkn
        clear hkn
        have hsb := sum_bd (szW s dict) (szW_bd s dict) (ts.take n)
        rw [List.length_take] at hsb
        have hsb2 : ((ts.take n).map (szW s dict)).sum ≤ 80000 := by omega
        clear hsb
        by_cases hlt2 : n < ts.length
        · obtain ⟨b2, off2, rfl, hbl2, hx2, -, hnc2, hcm2⟩ := (htt.up ((hup.trans U1).trans hup2)).at hlt2
          have hsn := hst _ (List.getElem_mem hlt2)
          obtain ⟨z1, z2⟩ := HSZ.out _ (HF2.out _ (List.getElem_mem hlt2))
          have cC2 := fun wx hr => cC wx (.slice a1 kk.ps.length c1) ts[n] hr (by omega)
          rw [z1] at cC2
          have hz := szW_bd s dict ts[n]
          rw [z2] at hz
          have HS : Hid ((((ts.take (n + 1)).map (szW s dict)).sum : Nat) = ((ts.take n).map (szW s dict)).sum + (compL kk (ts[n]).data.toList).length) := by unfold Hid; rw [sum_take (szW s dict) hlt2, z2]
          unfold maxLen at hcm2
          clear z1 z2
          generalize compL kk (ts[n]).data.toList = cl at *
          generalize ts[n] = t at *
          have hcz := bs_size cl
          generalize ((ts.take n).map (szW s dict)).sum = q at *
          unfold optS at cC2
          simp only [Option.getD_some, Option.isSome_some] at cC2
          go_wp2_with (go_at_call 60; (with_reducible refine (cC2 _ (((RdP.of_own HO1.out).up hup2).low (Nat.zero_le _))).mono ?_); rintro e w3 ⟨rfl, U3⟩)
          go_roundw
          case rel => exact ⟨n + 1, by go_num, by omega, by (rw [HS.out]; try go_num), rfl, box_up U3 HKN.out, by (repeat (first | with_reducible exact Up.refl _ | with_reducible assumption | with_reducible refine Up.set ?_ (by first | exact Nat.le_refl _ | (simp only []; omega) | (simp; omega)) _ | with_reducible refine Up.alloc ?_ _ | with_reducible refine Up.drew ?_ | refine Up.trans ?_ (by with_reducible assumption)))⟩
          case measure => simp [intOf]; omega
        · have e : n = ts.length := by omega
          subst e
          have HT : Hid (((ts.take ts.length).map (szW s dict)).sum = F j) := by unfold Hid; rw [HFJ.out]; unfold totW; rw [List.take_length]
          rw [HT.out] at hsb2 ⊢
          have hUU : Up w wr := by (repeat (first | with_reducible exact Up.refl _ | with_reducible assumption | with_reducible refine Up.set ?_ (by first | exact Nat.le_refl _ | (simp only []; omega) | (simp; omega)) _ | with_reducible refine Up.alloc ?_ _ | with_reducible refine Up.drew ?_ | refine Up.trans ?_ (by with_reducible assumption)))
          have HSE2 := Lib.hid (box_up (U1.trans hup2) HSE.out)
          clear hup2 U1 cC HKN HT
          rcases HBZ.out with ⟨rfl, rfl, rfl⟩ | ⟨q, rfl, rfl, rfl⟩
          · go_wp2
            go_roundw
            case rel => exact ⟨1, by go_num, by omega, .inr ⟨0, rfl, rfl, rfl⟩, HSE2.out, hUU⟩
            case measure => simp [intOf]; omega
          · have hbn : ¬ ((bestI F q : Nat) : Int) < 0 := by omega
            by_cases hc : F (q + 1) < F (bestI F q)
            · have HB : Hid (bestI F (q + 1) = q + 1) := if_pos hc
              go_wp2
              go_roundw
              case rel => exact ⟨q + 2, by go_num, by omega, .inr ⟨q + 1, rfl, by (rw [HB.out]; try go_num), by (rw [HB.out])⟩, HSE2.out, hUU⟩
              case measure => simp [intOf]; omega
            · have HB : Hid (bestI F (q + 1) = bestI F q) := if_neg hc
              go_wp2
              go_roundw
              case rel => exact ⟨q + 2, by go_num, by omega, .inr ⟨q + 1, rfl, by (rw [HB.out]), by (rw [HB.out])⟩, HSE2.out, hUU⟩
              case measure => simp [intOf]; omega
    · have e : j = ds.length := by omega
      rcases HBZ.out with ⟨hj0, -, -⟩ | ⟨q, hq, rfl, rfl⟩
      · omega
      · have HQ : Hid (q = ds.length - 1) := by unfold Hid; omega
        clear hq e
        go_wp2
        go_ret
        exact ⟨ret_int (by rw [← HQ.out]), hup⟩

end Go.Proofs.Ytnbmkoapohjnmaa

/- Walks of OpenStream, the program's and the reference's. Conditions: the strings can be read and are no longer than 2^20 bytes. -/
namespace Go.Proofs.Ytnbmkoapohjnmaa
set_option linter.unusedVariables false
set_option linter.unusedSimpArgs false
open Go Go.RowKit

/-- What opening a stream gives: the data and the dictionary's index. -/
def tryO (R : DecR) (n i : Nat) : Option (List UInt8 × Nat) := if R.fin = 0 ∧ R.used = n then some (R.data, i) else none
def openN (s : SetD) (st : ByteArray) : List ByteArray → Nat → Option (List UInt8 × Nat)
  | [], _ => none
  | d :: l, i => if sumOf d = numAt st 0 then tryO (decW s d.data.toList (st.extract 2 st.size).data.toList) (st.size - 2) i else openN s st l (i + 1)
def openO (s : SetD) (ds : List ByteArray) (st : ByteArray) : Option (List UInt8 × Nat) := if allFitB s ds && decide (2 ≤ st.size) then openN s st ds 0 else none
def openV : Option (List UInt8 × Nat) → Value
  | some (d, i) => .tuple #[.string (bs d), .int .i64 i, .bool true]
  | none => .tuple #[.string ByteArray.empty, .int .i64 (-1), .bool false]
theorem openN_hit {s : SetD} {st : ByteArray} {ds : List ByteArray} {j : Nat} (h : j < ds.length) (hc : sumOf ds[j] = numAt st 0) : openN s st (ds.drop j) j = tryO (decW s (ds[j]).data.toList (st.extract 2 st.size).data.toList) (st.size - 2) j := by
  rw [List.drop_eq_getElem_cons h, openN, if_pos hc]
theorem openN_next {s : SetD} {st : ByteArray} {ds : List ByteArray} {j : Nat} (h : j < ds.length) (hc : ¬ sumOf ds[j] = numAt st 0) : openN s st (ds.drop j) j = openN s st (ds.drop (j + 1)) (j + 1) := by
  rw [List.drop_eq_getElem_cons h, openN, if_neg hc]
theorem two_cmp {n : Int} (h0 : 0 ≤ n) (h1 : n ≤ 65535) {st : ByteArray} (h2 : 2 ≤ st.size) : (two n = st.extract 0 2) ↔ n = numAt st 0 := by
  have e := two_num st 0 (by omega)
  rw [Nat.zero_add] at e
  rw [← e]
  exact ⟨fun h => two_inj ⟨h0, h1⟩ (numAt_bd st 0) h, fun h => by rw [h]⟩
def RelOs (T : Option (List UInt8 × Nat)) (s : SetD) (st : ByteArray) (ds : List ByteArray) (w : World) (i : Value) (wr : World) : Prop := ∃ j : Nat, i = .int .i64 j ∧ j ≤ ds.length ∧ openN s st (ds.drop j) j = T ∧ SetAt w.heap.size s.ord s.lit s.most wr ∧ Up w wr
theorem ext_size2 (st : ByteArray) (h : 2 ≤ st.size) : (st.extract 2 st.size).size = st.size - 2 := by simp

set_option maxRecDepth 100000 in
set_option maxHeartbeats 8000000 in
theorem openS_any (s : SetD) (ds : List ByteArray) (v : Value) (st : ByteArray) (w : World) (h : ArgS w v ds) (hl : ds.length ≤ 1048576) (hs : ∀ t ∈ ds, t.size ≤ 1048576) (hst : st.size ≤ 1048576) :
    Calls Try.prog 20  #[setV s, v, .string st] w (Same (openV (openO s ds st)) w) := by
  have hat := h
  have cF := fun wx hr => l4Fits_any s ds v wx hr hl hs
  have hrt := fun (wq : World) (hu : Up w wq) => h.up hu
  unfold openO
  cases h1 : allFitB s ds
  · rw [h1] at cF
    simp only [Bool.false_and, Bool.false_eq_true, if_false, openV]
    obtain ⟨a, cap, rfl, hm, hms, -⟩ := h
    clear h1
    simp only [setV] at *
    go_enter Try.func20, Try.ntmps20
    go_wp2_with ((go_at_call 45; (with_reducible refine (cF _ (hrt _ (by (repeat (first | with_reducible exact Up.refl _ | with_reducible assumption | with_reducible refine Up.set ?_ (by first | exact Nat.le_refl _ | (simp only []; omega) | (simp; omega)) _ | with_reducible refine Up.alloc ?_ _ | with_reducible refine Up.drew ?_ | refine Up.trans ?_ (by with_reducible assumption)))))).mono ?_); rintro e w1 ⟨rfl, U1⟩; have B1 := bcell U1; have Z1 := U1.size; (try simp at Z1); (try rw [Nat.add_one_le_iff] at Z1)))
    refine bodyPost_ret (v := .tuple #[.string ByteArray.empty, .int .i64 (-1), .bool false]) (by simp [results, Try.results20, go_sem]; try rfl) rfl ⟨rfl, ?_⟩
    (repeat (first | with_reducible exact Up.refl _ | with_reducible assumption | with_reducible refine Up.set ?_ (by first | exact Nat.le_refl _ | (simp only []; omega) | (simp; omega)) _ | with_reducible refine Up.alloc ?_ _ | with_reducible refine Up.drew ?_ | refine Up.trans ?_ (by with_reducible assumption)))
  · rw [h1] at cF
    by_cases h2 : 2 ≤ st.size
    case neg =>
      rw [decide_eq_false h2]
      simp only [Bool.and_false, Bool.false_eq_true, if_false, openV]
      obtain ⟨a, cap, rfl, hm, hms, -⟩ := h
      have h2' : (st.size : Int) < 2 := by omega
      clear h1 h2
      simp only [setV] at *
      go_enter Try.func20, Try.ntmps20
      go_wp2_with ((go_at_call 45; (with_reducible refine (cF _ (hrt _ (by (repeat (first | with_reducible exact Up.refl _ | with_reducible assumption | with_reducible refine Up.set ?_ (by first | exact Nat.le_refl _ | (simp only []; omega) | (simp; omega)) _ | with_reducible refine Up.alloc ?_ _ | with_reducible refine Up.drew ?_ | refine Up.trans ?_ (by with_reducible assumption)))))).mono ?_); rintro e w1 ⟨rfl, U1⟩; have B1 := bcell U1; have Z1 := U1.size; (try simp at Z1); (try rw [Nat.add_one_le_iff] at Z1)))
      refine bodyPost_ret (v := .tuple #[.string ByteArray.empty, .int .i64 (-1), .bool false]) (by simp [results, Try.results20, go_sem]; try rfl) rfl ⟨rfl, ?_⟩
      (repeat (first | with_reducible exact Up.refl _ | with_reducible assumption | with_reducible refine Up.set ?_ (by first | exact Nat.le_refl _ | (simp only []; omega) | (simp; omega)) _ | with_reducible refine Up.alloc ?_ _ | with_reducible refine Up.drew ?_ | refine Up.trans ?_ (by with_reducible assumption)))
    case pos =>
      rw [decide_eq_true h2]
      simp only [Bool.and_true, if_true]
      obtain ⟨T, HT⟩ : ∃ T, Hid (openN s st (ds.drop 0) 0 = T) := ⟨_, rfl⟩
      have HT0 : Hid (openN s st ds 0 = T) := HT.out
      rw [HT0.out]
      obtain ⟨a, cap, rfl, hm, hms, -⟩ := h
      have h2' : ¬ (st.size : Int) < 2 := by omega
      clear h1
      simp only [setV] at *
      go_enter Try.func20, Try.ntmps20
      go_wp2_with ((go_at_call 45; (with_reducible refine (cF _ (hrt _ (by (repeat (first | with_reducible exact Up.refl _ | with_reducible assumption | with_reducible refine Up.set ?_ (by first | exact Nat.le_refl _ | (simp only []; omega) | (simp; omega)) _ | with_reducible refine Up.alloc ?_ _ | with_reducible refine Up.drew ?_ | refine Up.trans ?_ (by with_reducible assumption)))))).mono ?_); rintro e w1 ⟨rfl, U1⟩; have B1 := bcell U1; have Z1 := U1.size; (try simp at Z1); (try rw [Nat.add_one_le_iff] at Z1)))
      have hSE : SetAt w.heap.size s.ord s.lit s.most w1 := box_up U1 (MapKept.heap_alloc w _).1
      have hUU : Up w w1 := by (repeat (first | with_reducible exact Up.refl _ | with_reducible assumption | with_reducible refine Up.set ?_ (by first | exact Nat.le_refl _ | (simp only []; omega) | (simp; omega)) _ | with_reducible refine Up.alloc ?_ _ | with_reducible refine Up.drew ?_ | refine Up.trans ?_ (by with_reducible assumption)))
      go_loopw [9] (fun i wr => RelOs T s st ds w i wr) (fun i _ => ds.length - (intOf i).toNat)
      case atStart => exact ⟨0, rfl, Nat.zero_le _, HT.out, hSE, hUU⟩
      case round =>
        clear hSE hUU U1
        obtain ⟨j, rfl, hj, htot, hset, hup⟩ := hrel
        have HSE := Lib.hid hset
        have HTO := Lib.hid htot
        clear hset htot
        by_cases hlt : j < ds.length
        · obtain ⟨b, off, rfl, hbl, hx, -, hnc, hcm⟩ := (hat.up hup).at hlt
          have hsj := hs _ (List.getElem_mem hlt)
          have cM := fun wx => sumS_any ds[j] wx (by omega)
          have hsb := sumOf_bd ds[j]
          have c2 := fun wx => l4Two_any (sumOf ds[j]) wx (by omega) (by omega)
          have hcmp := two_cmp (n := sumOf ds[j]) (by omega) (by omega) h2
          have cD := fun wx => decWS_any s ds[j] (st.extract 2 st.size) wx (by omega) (by rw [ext_size2 st h2]; omega)
          obtain ⟨d1, d2, d3, d4⟩ := decW_bd s (ds[j]).data.toList (st.extract 2 st.size).data.toList
          have HH := fun hc => openN_hit (s := s) (st := st) hlt hc
          have HN := fun hc => openN_next (s := s) (st := st) hlt hc
          unfold maxLen at hcm
          have d4' : (decW s (ds[j]).data.toList (st.extract 2 st.size).data.toList).used ≤ 1048576 := by
            have := ext_size2 st h2
            have e : (st.extract 2 st.size).data.toList.length = (st.extract 2 st.size).size := by simp
            omega
          clear d4
          generalize decW s (ds[j]).data.toList (st.extract 2 st.size).data.toList = R at *
          generalize sumOf ds[j] = so at *
          generalize ds[j] = dj at *
          obtain ⟨dd, ff, uu⟩ := R
          unfold decV at cD
          simp only [setV] at cD
          dsimp only at d1 d2 d3 d4'
          by_cases hc : so = numAt st 0
          · have he := hcmp.2 hc
            have hcw : ∀ wx, Calls Try.prog 35  #[.int .i64 so] wx (Same (.string (st.extract 0 2)) wx) := by rw [← he]; exact c2
            have HT1 : Hid (tryO ⟨dd, ff, uu⟩ (st.size - 2) j = T) := by have := HTO.out; rw [HH hc] at this; exact this
            clear HH HN hcmp hc
            go_wp2
            refine wp_region_up 9 (by kernel_rfl) (by kernel_rfl) ?_
            simp only [List.take, List.drop]
            repeat (refine wpUp_step (fun K hK => ?_); go_simp; (try simp only [↓IntWalk.iteOmega]); first
              | (refine hK _ _ ?_; clear hK K)
              | (apply stepU_c
                 · intro wq hwq; (have hbq := bcell hwq; (repeat (first | refine fills_no (by rfl) ?_ | refine fills_yes (by rfl) (fun vq hvq => ?_))); simp only [List.filter_nil, fills]; unfold upAt; (try ((have hx2 := (hwq.cell (p := ⟨b, off + j, none⟩) hbl).trans hx))); go_simp; (try go_bits); (try simp only [↓IntWalk.iteOmega]); (try (rw [dif_pos (by omega)]; go_simp; try go_bits)); first | exact upOut_value | (apply upOut_call; (go_at_call 36; with_reducible exact cM _)) | (apply upOut_eq; (go_at_call 36; with_reducible exact cM _)) | (apply upOut_call; (go_at_call 35; with_reducible exact hcw _)) | (apply upOut_eq; (go_at_call 35; with_reducible exact hcw _)))
                 go_simp; refine hK _ _ ?_; clear hK K))
            refine wpUp_nil (fun wq hwq => ?_)
            simp only [fills]
            have HU3 := Lib.hid (hup.trans hwq)
            have HX3 := Lib.hid ((hwq.cell (p := ⟨b, off + j, none⟩) hbl).trans hx)
            have HS3 := Lib.hid (box_up hwq HSE.out)
            have hbl3 := Nat.lt_of_lt_of_le hbl hwq.size
            clear hwq
            go_wp2
            refine wp_region_up 15 (by kernel_rfl) (by kernel_rfl) ?_
            simp only [List.take, List.drop]
            have hx3 := HX3.out
            repeat (refine wpUp_step (fun K hK => ?_); go_simp; (try simp only [↓IntWalk.iteOmega]); first
              | (refine hK _ _ ?_; clear hK K)
              | (apply stepU_c
                 · intro wq hwq; (have hbq := bcell hwq; (repeat (first | refine fills_no (by rfl) ?_ | refine fills_yes (by rfl) (fun vq hvq => ?_))); simp only [List.filter_nil, fills]; unfold upAt; (try ((have hx2 := (hwq.cell (p := ⟨b, off + j, none⟩) hbl3).trans HX3.out; obtain ⟨hbz, s0, s1, s2⟩ := SetAt.cells (box_up hwq HS3.out)))); go_simp; (try go_bits); (try simp only [↓IntWalk.iteOmega]); (try (rw [dif_pos (by omega)]; go_simp; try go_bits)); first | exact upOut_value | (apply upOut_call; (go_at_call 46; with_reducible exact cD _)) | (apply upOut_eq; (go_at_call 46; with_reducible exact cD _)))
                 go_simp; refine hK _ _ ?_; clear hK K))
            refine wpUp_nil (fun wq hwq => ?_)
            simp only [fills]
            have hU4 := HU3.out.trans hwq
            clear hwq
            by_cases hf : ff = 0
            · by_cases hu : uu = st.size - 2
              · have HT2 : Hid (T = some (dd, j)) := by unfold Hid; rw [← HT1.out]; exact if_pos ⟨hf, hu⟩
                have hue : ((uu : Int) == (st.size : Int) - 2) = true := by simp; omega
                have hu9 : (uu : Int) = (st.size : Int) - 2 := by omega
                subst hf
                clear hu
                go_wp2
                refine bodyPost_ret (v := .tuple #[.string (bs dd), .int .i64 j, .bool true]) (by simp [results, Try.results20, go_sem]; try rfl) rfl ⟨by rw [HT2.out]; rfl, ?_⟩
                (repeat (first | with_reducible exact Up.refl _ | with_reducible assumption | with_reducible refine Up.set ?_ (by first | exact Nat.le_refl _ | (simp only []; omega) | (simp; omega)) _ | with_reducible refine Up.alloc ?_ _ | with_reducible refine Up.drew ?_ | refine Up.trans ?_ (by with_reducible assumption)))
              · have HT2 : Hid (T = none) := by unfold Hid; rw [← HT1.out]; exact if_neg (fun h => hu h.2)
                have hue : ((uu : Int) == (st.size : Int) - 2) = false := by simp; omega
                have hu9 : ¬ (uu : Int) = (st.size : Int) - 2 := by omega
                subst hf
                clear hu
                go_wp2
                refine bodyPost_ret (v := .tuple #[.string ByteArray.empty, .int .i64 (-1), .bool false]) (by simp [results, Try.results20, go_sem]; try rfl) rfl ⟨by rw [HT2.out]; rfl, ?_⟩
                (repeat (first | with_reducible exact Up.refl _ | with_reducible assumption | with_reducible refine Up.set ?_ (by first | exact Nat.le_refl _ | (simp only []; omega) | (simp; omega)) _ | with_reducible refine Up.alloc ?_ _ | with_reducible refine Up.drew ?_ | refine Up.trans ?_ (by with_reducible assumption)))
            · have HT2 : Hid (T = none) := by unfold Hid; rw [← HT1.out]; exact if_neg (fun h => hf h.1)
              go_wp2
              refine bodyPost_ret (v := .tuple #[.string ByteArray.empty, .int .i64 (-1), .bool false]) (by simp [results, Try.results20, go_sem]; try rfl) rfl ⟨by rw [HT2.out]; rfl, ?_⟩
              (repeat (first | with_reducible exact Up.refl _ | with_reducible assumption | with_reducible refine Up.set ?_ (by first | exact Nat.le_refl _ | (simp only []; omega) | (simp; omega)) _ | with_reducible refine Up.alloc ?_ _ | with_reducible refine Up.drew ?_ | refine Up.trans ?_ (by with_reducible assumption)))
          · have he : ¬ two so = st.extract 0 2 := fun h => hc (hcmp.1 h)
            have he2 : ((two so).toList == (st.extract 0 2).toList) = false := ba_ne he
            have HT1 : Hid (openN s st (ds.drop (j + 1)) (j + 1) = T) := by have := HTO.out; rw [HN hc] at this; exact this
            clear HH HN hcmp hc
            go_wp2
            refine wp_region_up 9 (by kernel_rfl) (by kernel_rfl) ?_
            simp only [List.take, List.drop]
            repeat (refine wpUp_step (fun K hK => ?_); go_simp; (try simp only [↓IntWalk.iteOmega]); first
              | (refine hK _ _ ?_; clear hK K)
              | (apply stepU_c
                 · intro wq hwq; (have hbq := bcell hwq; (repeat (first | refine fills_no (by rfl) ?_ | refine fills_yes (by rfl) (fun vq hvq => ?_))); simp only [List.filter_nil, fills]; unfold upAt; (try ((have hx2 := (hwq.cell (p := ⟨b, off + j, none⟩) hbl).trans hx))); go_simp; (try go_bits); (try simp only [↓IntWalk.iteOmega]); (try (rw [dif_pos (by omega)]; go_simp; try go_bits)); first | exact upOut_value | (apply upOut_call; (go_at_call 36; with_reducible exact cM _)) | (apply upOut_eq; (go_at_call 36; with_reducible exact cM _)) | (apply upOut_call; (go_at_call 35; with_reducible exact c2 _)) | (apply upOut_eq; (go_at_call 35; with_reducible exact c2 _)))
                 go_simp; refine hK _ _ ?_; clear hK K))
            refine wpUp_nil (fun wq hwq => ?_)
            simp only [fills]
            go_wp2
            go_roundw
            case rel => exact ⟨j + 1, by go_num, by omega, HT1.out, box_up hwq HSE.out, by (repeat (first | with_reducible exact Up.refl _ | with_reducible assumption | with_reducible refine Up.set ?_ (by first | exact Nat.le_refl _ | (simp only []; omega) | (simp; omega)) _ | with_reducible refine Up.alloc ?_ _ | with_reducible refine Up.drew ?_ | refine Up.trans ?_ (by with_reducible assumption)))⟩
            case measure => simp [intOf]; omega
        · have e : j = ds.length := by omega
          have HT2 : Hid (T = none) := by unfold Hid; rw [← HTO.out, e, List.drop_length]; rfl
          go_wp2
          refine bodyPost_ret (v := .tuple #[.string ByteArray.empty, .int .i64 (-1), .bool false]) (by simp [results, Try.results20, go_sem]; try rfl) rfl ⟨by rw [HT2.out]; rfl, ?_⟩
          (repeat (first | with_reducible exact Up.refl _ | with_reducible assumption | with_reducible refine Up.set ?_ (by first | exact Nat.le_refl _ | (simp only []; omega) | (simp; omega)) _ | with_reducible refine Up.alloc ?_ _ | with_reducible refine Up.drew ?_ | refine Up.trans ?_ (by with_reducible assumption)))

end Go.Proofs.Ytnbmkoapohjnmaa

/- Walk of the program's OpenStream. Conditions: the strings can be read and are no longer than 2^20 bytes. -/
namespace Go.Proofs.Ytnbmkoapohjnmaa
set_option linter.unusedVariables false
set_option linter.unusedSimpArgs false
open Go Go.RowKit

set_option maxRecDepth 100000 in
set_option maxHeartbeats 8000000 in
theorem openI_any (s : SetD) (ds : List ByteArray) (v : Value) (st : ByteArray) (w : World) (hli : -9223372036854775808 ≤ s.lit ∧ s.lit ≤ 9223372036854775807) (h : ArgS w v ds) (hl : ds.length ≤ 1048576) (hs : ∀ t ∈ ds, t.size ≤ 1048576) (hst : st.size ≤ 1048576) :
    Calls Try.prog 22  #[setV s, v, .string st] w (Same (openV (openO s ds st)) w) := by
  have hat := h
  have cF := fun wx hr => allFitI_any s ds v wx hli hr hl hs
  have hrt := fun (wq : World) (hu : Up w wq) => h.up hu
  unfold openO
  cases h1 : allFitB s ds
  · rw [h1] at cF
    simp only [Bool.false_and, Bool.false_eq_true, if_false, openV]
    obtain ⟨a, cap, rfl, hm, hms, -⟩ := h
    clear h1
    simp only [setV] at *
    go_enter Try.func22, Try.ntmps22
    go_wp2_with ((go_at_call 47; (with_reducible refine (cF _ (hrt _ (by (repeat (first | with_reducible exact Up.refl _ | with_reducible assumption | with_reducible refine Up.set ?_ (by first | exact Nat.le_refl _ | (simp only []; omega) | (simp; omega)) _ | with_reducible refine Up.alloc ?_ _ | with_reducible refine Up.drew ?_ | refine Up.trans ?_ (by with_reducible assumption)))))).mono ?_); rintro e w1 ⟨rfl, U1⟩; have B1 := bcell U1; have Z1 := U1.size; (try simp at Z1); (try rw [Nat.add_one_le_iff] at Z1)))
    refine bodyPost_ret (v := .tuple #[.string ByteArray.empty, .int .i64 (-1), .bool false]) (by simp [results, Try.results22, go_sem]; try rfl) rfl ⟨rfl, ?_⟩
    (repeat (first | with_reducible exact Up.refl _ | with_reducible assumption | with_reducible refine Up.set ?_ (by first | exact Nat.le_refl _ | (simp only []; omega) | (simp; omega)) _ | with_reducible refine Up.alloc ?_ _ | with_reducible refine Up.drew ?_ | refine Up.trans ?_ (by with_reducible assumption)))
  · rw [h1] at cF
    by_cases h2 : 2 ≤ st.size
    case neg =>
      rw [decide_eq_false h2]
      simp only [Bool.and_false, Bool.false_eq_true, if_false, openV]
      obtain ⟨a, cap, rfl, hm, hms, -⟩ := h
      have h2' : (st.size : Int) < 2 := by omega
      clear h1 h2
      simp only [setV] at *
      go_enter Try.func22, Try.ntmps22
      go_wp2_with ((go_at_call 47; (with_reducible refine (cF _ (hrt _ (by (repeat (first | with_reducible exact Up.refl _ | with_reducible assumption | with_reducible refine Up.set ?_ (by first | exact Nat.le_refl _ | (simp only []; omega) | (simp; omega)) _ | with_reducible refine Up.alloc ?_ _ | with_reducible refine Up.drew ?_ | refine Up.trans ?_ (by with_reducible assumption)))))).mono ?_); rintro e w1 ⟨rfl, U1⟩; have B1 := bcell U1; have Z1 := U1.size; (try simp at Z1); (try rw [Nat.add_one_le_iff] at Z1)))
      refine bodyPost_ret (v := .tuple #[.string ByteArray.empty, .int .i64 (-1), .bool false]) (by simp [results, Try.results22, go_sem]; try rfl) rfl ⟨rfl, ?_⟩
      (repeat (first | with_reducible exact Up.refl _ | with_reducible assumption | with_reducible refine Up.set ?_ (by first | exact Nat.le_refl _ | (simp only []; omega) | (simp; omega)) _ | with_reducible refine Up.alloc ?_ _ | with_reducible refine Up.drew ?_ | refine Up.trans ?_ (by with_reducible assumption)))
    case pos =>
      rw [decide_eq_true h2]
      simp only [Bool.and_true, if_true]
      have cN : ∀ wx, Calls Try.prog 48  #[.string st, .int .i64 0] wx (Same (.int .i64 (numAt st 0)) wx) := fun wx => numberAt_at st 0 0 _ rfl rfl (by omega) (by omega) wx
      have hnb := numAt_bd st 0
      obtain ⟨T, HT⟩ : ∃ T, Hid (openN s st (ds.drop 0) 0 = T) := ⟨_, rfl⟩
      have HT0 : Hid (openN s st ds 0 = T) := HT.out
      rw [HT0.out]
      obtain ⟨a, cap, rfl, hm, hms, -⟩ := h
      have h2' : ¬ (st.size : Int) < 2 := by omega
      clear h1
      simp only [setV] at *
      go_enter Try.func22, Try.ntmps22
      go_wp2_with ((go_at_call 47; (with_reducible refine (cF _ (hrt _ (by (repeat (first | with_reducible exact Up.refl _ | with_reducible assumption | with_reducible refine Up.set ?_ (by first | exact Nat.le_refl _ | (simp only []; omega) | (simp; omega)) _ | with_reducible refine Up.alloc ?_ _ | with_reducible refine Up.drew ?_ | refine Up.trans ?_ (by with_reducible assumption)))))).mono ?_); rintro e w1 ⟨rfl, U1⟩; have B1 := bcell U1; have Z1 := U1.size; (try simp at Z1); (try rw [Nat.add_one_le_iff] at Z1)))
      have hSE : SetAt w.heap.size s.ord s.lit s.most w1 := box_up U1 (MapKept.heap_alloc w _).1
      have hUU : Up w w1 := by (repeat (first | with_reducible exact Up.refl _ | with_reducible assumption | with_reducible refine Up.set ?_ (by first | exact Nat.le_refl _ | (simp only []; omega) | (simp; omega)) _ | with_reducible refine Up.alloc ?_ _ | with_reducible refine Up.drew ?_ | refine Up.trans ?_ (by with_reducible assumption)))
      refine wp_region_up 6 (by kernel_rfl) (by kernel_rfl) ?_
      simp only [List.take, List.drop]
      repeat (refine wpUp_step (fun K hK => ?_); go_simp; (try simp only [↓IntWalk.iteOmega]); first
        | (refine hK _ _ ?_; clear hK K)
        | (apply stepU_c
           · intro wq hwq; (have hbq := bcell hwq; (repeat (first | refine fills_no (by rfl) ?_ | refine fills_yes (by rfl) (fun vq hvq => ?_))); simp only [List.filter_nil, fills]; unfold upAt; go_simp; (try go_bits); (try simp only [↓IntWalk.iteOmega]); (try (rw [dif_pos (by omega)]; go_simp; try go_bits)); first | exact upOut_value | (apply upOut_call; (go_at_call 48; with_reducible exact cN _)) | (apply upOut_eq; (go_at_call 48; with_reducible exact cN _)))
           go_simp; refine hK _ _ ?_; clear hK K))
      refine wpUp_nil (fun wq hwq => ?_)
      simp only [fills]
      have hSE2 := box_up hwq hSE
      have hUU2 := hUU.trans hwq
      clear hwq hSE hUU U1 B1 Z1
      go_wp2
      go_loopw [31] (fun i wr => RelOs T s st ds w i wr) (fun i _ => ds.length - (intOf i).toNat)
      case atStart => exact ⟨0, rfl, Nat.zero_le _, HT.out, hSE2, hUU2⟩
      case round =>
        clear hSE2 hUU2
        obtain ⟨j, rfl, hj, htot, hset, hup⟩ := hrel
        obtain ⟨hb0, s0, s1, s2⟩ := hset.cells
        have HSE := Lib.hid hset
        have HTO := Lib.hid htot
        clear hset htot
        by_cases hlt : j < ds.length
        · obtain ⟨b, off, rfl, hbl, hx, -, hnc, hcm⟩ := (hat.up hup).at hlt
          have hsj := hs _ (List.getElem_mem hlt)
          have cM := fun wx => sumI_any ds[j] wx (by omega)
          have hsb := sumOf_bd ds[j]
          have cD := fun wx => decWI_any s ds[j] (st.extract 2 st.size) wx hli (by omega) (by rw [ext_size2 st h2]; omega)
          obtain ⟨d1, d2, d3, d4⟩ := decW_bd s (ds[j]).data.toList (st.extract 2 st.size).data.toList
          have HH := fun hc => openN_hit (s := s) (st := st) hlt hc
          have HN := fun hc => openN_next (s := s) (st := st) hlt hc
          unfold maxLen at hcm
          have hes := ext_size2 st h2
          have HES := Lib.hid hes
          have d4' : (decW s (ds[j]).data.toList (st.extract 2 st.size).data.toList).used ≤ 1048576 := by
            have e : (st.extract 2 st.size).data.toList.length = (st.extract 2 st.size).size := by simp
            omega
          clear d4 hes
          generalize decW s (ds[j]).data.toList (st.extract 2 st.size).data.toList = R at *
          generalize sumOf ds[j] = so at *
          generalize ds[j] = dj at *
          obtain ⟨dd, ff, uu⟩ := R
          unfold decV at cD
          simp only [setV] at cD
          dsimp only at d1 d2 d3 d4'
          by_cases hc : so = numAt st 0
          · have he1 : (so == numAt st 0) = true := by simpa using hc
            have HT1 : Hid (tryO ⟨dd, ff, uu⟩ (st.size - 2) j = T) := by have := HTO.out; rw [HH hc] at this; exact this
            have cM2 := cM
            rw [hc] at cM2
            clear HH HN cM
            by_cases hf : ff = 0
            · by_cases hu : uu = st.size - 2
              · have HT2 : Hid (T = some (dd, j)) := by unfold Hid; rw [← HT1.out]; exact if_pos ⟨hf, hu⟩
                have hu9 : (uu : Int) = (st.size : Int) - 2 := by omega
                have hue : ((uu : Int) == (((st.extract 2 st.size).size : Nat) : Int)) = true := by rw [HES.out]; simp; omega
                subst hf
                clear hu hc
                go_wp2_with (first | (go_at_call 39; (with_reducible refine (cM2 _).mono ?_); rintro e w' ⟨rfl, rfl⟩) | (go_at_call 49; (with_reducible refine (cD _).mono ?_); rintro e w3 ⟨rfl, U3⟩; have B3 := bcell U3; have Z3 := U3.size; (try simp at Z3); (try rw [Nat.add_one_le_iff] at Z3)))
                refine bodyPost_ret (v := .tuple #[.string (bs dd), .int .i64 j, .bool true]) (by simp [results, Try.results22, go_sem]; try rfl) rfl ⟨by rw [HT2.out]; rfl, ?_⟩
                (repeat (first | with_reducible exact Up.refl _ | with_reducible assumption | with_reducible refine Up.set ?_ (by first | exact Nat.le_refl _ | (simp only []; omega) | (simp; omega)) _ | with_reducible refine Up.alloc ?_ _ | with_reducible refine Up.drew ?_ | refine Up.trans ?_ (by with_reducible assumption)))
              · have HT2 : Hid (T = none) := by unfold Hid; rw [← HT1.out]; exact if_neg (fun h => hu h.2)
                have hu9 : ¬ (uu : Int) = (st.size : Int) - 2 := by omega
                have hue : ((uu : Int) == (((st.extract 2 st.size).size : Nat) : Int)) = false := by rw [HES.out]; simp; omega
                subst hf
                clear hu hc
                go_wp2_with (first | (go_at_call 39; (with_reducible refine (cM2 _).mono ?_); rintro e w' ⟨rfl, rfl⟩) | (go_at_call 49; (with_reducible refine (cD _).mono ?_); rintro e w3 ⟨rfl, U3⟩; have B3 := bcell U3; have Z3 := U3.size; (try simp at Z3); (try rw [Nat.add_one_le_iff] at Z3)))
                refine bodyPost_ret (v := .tuple #[.string ByteArray.empty, .int .i64 (-1), .bool false]) (by simp [results, Try.results22, go_sem]; try rfl) rfl ⟨by rw [HT2.out]; rfl, ?_⟩
                (repeat (first | with_reducible exact Up.refl _ | with_reducible assumption | with_reducible refine Up.set ?_ (by first | exact Nat.le_refl _ | (simp only []; omega) | (simp; omega)) _ | with_reducible refine Up.alloc ?_ _ | with_reducible refine Up.drew ?_ | refine Up.trans ?_ (by with_reducible assumption)))
            · have HT2 : Hid (T = none) := by unfold Hid; rw [← HT1.out]; exact if_neg (fun h => hf h.1)
              clear hc
              go_wp2_with (first | (go_at_call 39; (with_reducible refine (cM2 _).mono ?_); rintro e w' ⟨rfl, rfl⟩) | (go_at_call 49; (with_reducible refine (cD _).mono ?_); rintro e w3 ⟨rfl, U3⟩; have B3 := bcell U3; have Z3 := U3.size; (try simp at Z3); (try rw [Nat.add_one_le_iff] at Z3)))
              refine bodyPost_ret (v := .tuple #[.string ByteArray.empty, .int .i64 (-1), .bool false]) (by simp [results, Try.results22, go_sem]; try rfl) rfl ⟨by rw [HT2.out]; rfl, ?_⟩
              (repeat (first | with_reducible exact Up.refl _ | with_reducible assumption | with_reducible refine Up.set ?_ (by first | exact Nat.le_refl _ | (simp only []; omega) | (simp; omega)) _ | with_reducible refine Up.alloc ?_ _ | with_reducible refine Up.drew ?_ | refine Up.trans ?_ (by with_reducible assumption)))
          · have he1 : (so == numAt st 0) = false := by simpa using hc
            have HT1 : Hid (openN s st (ds.drop (j + 1)) (j + 1) = T) := by have := HTO.out; rw [HN hc] at this; exact this
            clear HH HN
            go_wp2_with ((go_at_call 39; (with_reducible refine (cM _).mono ?_); rintro e w' ⟨rfl, rfl⟩))
            go_roundw
            case rel => exact ⟨j + 1, by go_num, by omega, HT1.out, HSE.out, hup⟩
            case measure => simp [intOf]; omega
        · have e : j = ds.length := by omega
          have HT2 : Hid (T = none) := by unfold Hid; rw [← HTO.out, e, List.drop_length]; rfl
          go_wp2
          refine bodyPost_ret (v := .tuple #[.string ByteArray.empty, .int .i64 (-1), .bool false]) (by simp [results, Try.results22, go_sem]; try rfl) rfl ⟨by rw [HT2.out]; rfl, ?_⟩
          (repeat (first | with_reducible exact Up.refl _ | with_reducible assumption | with_reducible refine Up.set ?_ (by first | exact Nat.le_refl _ | (simp only []; omega) | (simp; omega)) _ | with_reducible refine Up.alloc ?_ _ | with_reducible refine Up.drew ?_ | refine Up.trans ?_ (by with_reducible assumption)))

end Go.Proofs.Ytnbmkoapohjnmaa

/- Texts joined into one: Eqb, Law. Conditions: as each says. -/

/- Walks of the laws' helpers that take a setting over and compare blocks. Conditions: none. -/
namespace Go.Proofs.Ytnbmkoapohjnmaa
set_option linter.unusedVariables false
set_option linter.unusedSimpArgs false
open Go Go.RowKit

set_option maxRecDepth 100000 in
set_option maxHeartbeats 1000000 in
theorem toSet_any (o l m : Int) (w : World) :
    Calls Try.prog 11  #[.agg #[.int .i64 o, .int .i64 l, .int .i64 m]] w (Same (.agg #[.int .i64 o, .int .i64 l, .int .i64 m]) w) := by
  go_enter Try.func11, Try.ntmps11
  go_wp2
  refine bodyPost_ret (v := .agg #[.int .i64 o, .int .i64 l, .int .i64 m]) (by simp [results, Try.results11, go_sem]; try rfl) rfl ⟨rfl, ?_⟩
  (repeat (first | with_reducible exact Up.refl _ | with_reducible assumption | with_reducible refine Up.set ?_ (by first | exact Nat.le_refl _ | (simp only []; omega) | (simp; omega)) _ | with_reducible refine Up.alloc ?_ _ | with_reducible refine Up.drew ?_ | refine Up.trans ?_ (by with_reducible assumption)))
set_option maxRecDepth 100000 in
set_option maxHeartbeats 1000000 in
theorem eqBlk_any (n : Int) (r : Bool) (z : Int) (b : ByteArray) (w : World) :
    Calls Try.prog 18  #[.agg #[.int .i64 n, .bool r, .int .i64 z, .string b], .agg #[.int .i64 n, .bool r, .int .i64 z, .string b]] w (Same (.bool true) w) := by
  go_enter Try.func18, Try.ntmps18
  go_wp2
  go_ret
  refine ⟨rfl, ?_⟩
  (repeat (first | with_reducible exact Up.refl _ | with_reducible assumption | with_reducible refine Up.set ?_ (by first | exact Nat.le_refl _ | (simp only []; omega) | (simp; omega)) _ | with_reducible refine Up.alloc ?_ _ | with_reducible refine Up.drew ?_ | refine Up.trans ?_ (by with_reducible assumption)))

end Go.Proofs.Ytnbmkoapohjnmaa

/- The end of every law's row: the call answers true and nothing that was there has turned. Conditions: those of post_law. -/
namespace Go.Proofs.Ytnbmkoapohjnmaa
set_option linter.unusedVariables false
set_option linter.unusedSimpArgs false
open Go.ChangeShapes Go.WideShapes Go.ChangeAt Go.RowKit

theorem TrylaidOut : laidOutB Try.prog = true := by kernel_rfl
theorem own : ownKnob Try.prog.godebug = none := by kernel_rfl

theorem trodAll_up {H : Type} {enc : TypeId × Value → H} {P : Program} (hl : laidOutB P = true) {W W' : World} (hb : Below W.heap.size W W') : ∀ (ts : List TypeId) (vs : List Value) (ds : List (DataW H)) (ps : List MemPlace),
    (∀ t ∈ ts, P.readableRec t = true ∧ t < P.types.size) → (∀ x ∈ ps, x.block < W.heap.size) → DataW.TrodAll enc P W 0 (fun _ => true) true ts vs ds ps → DataW.TrodAll enc P W' 0 (fun b => decide (b < W.heap.size)) true ts vs ds ps
  | [], [], [], _, _, _, h => h
  | t :: ts, v :: vs, d :: ds, ps, ht, hp, h => by
    obtain ⟨p, q, h1, h2, rfl⟩ := h
    refine ⟨p, q, Below.trod hl (ht t (List.mem_cons_self ..)).1 (ht t (List.mem_cons_self ..)).2 h1 hb fun x hx => hp x (List.mem_append_left _ hx), ?_, rfl⟩
    exact trodAll_up hl hb ts vs ds q (fun t h => ht t (List.mem_cons_of_mem _ h)) (fun x hx => hp x (List.mem_append_right _ hx)) h2
  | [], _ :: _, _, _, _, _, h => h.elim
  | _ :: _, [], _, _, _, _, h => h.elim
  | [], [], _ :: _, _, _, _, h => h.elim
  | _ :: _, _ :: _, [], _, _, _, h => h.elim

theorem post_law {H : Type} {enc : TypeId × Value → H} {P : Program} {f : Func} {s : ChangeSpec} {W W' : World} {args : Array Value} {ds gs : List (DataW H)} {before : List MemPlace} {tb : TypeId}
    (hl : laidOutB P = true) (hp : (f.params.all fun t => P.readableRec t && decide (t < P.types.size)) = true) (hrt : f.resultTypes = #[tb]) (htb : P.underlying tb = some .bool) (hvars : s.vars = [])
    (hW : DataW.Whole enc P f.params.toList s.vars false W args.toList ds gs before) (hs : ∀ ds' : List (DataW H), ds' = ds → (s.fn H ds').results = [.lit (.bool true)] ∧ (s.fn H ds').args = ds ∧ (s.fn H ds').vars = []) (hb : Up W W') :
    s.post enc P f false true false false W args (.bool true) W' := by
  have hlt := fun p hp => hW.lt (p := p) hp
  obtain ⟨p, q, hA, hV, rfl, hz, hn⟩ := id hW
  rw [hvars] at hV
  obtain ⟨rfl, rfl⟩ := trodVars_none hV
  obtain ⟨e1, e2, e3⟩ := hs (ds ++ []) (by simp)
  refine ⟨ds, [], p ++ [], [], p, [], hW, ?_, ?_, ?_, ?_, fun h => by cases h⟩
  · rw [e1, hrt]
    exact trodAll_mk1 (shut_bool htb true)
  · rw [e2]
    refine trodAll_up hl hb _ _ _ _ (fun t ht => ?_) (fun x hx => hlt x (by simpa using hx)) hA
    have := Array.all_eq_true_iff_forall_mem.1 hp t (by simpa using ht)
    simpa using this
  · rw [e3, hvars]
    rfl
  · exact hb.frame _

end Go.Proofs.Ytnbmkoapohjnmaa
