/- Walk of the reference's l2Greedy. Conditions: what is known is valid and can be read; the data fits. -/
import Derived.Test.YtmjpopfacagjhaaDoorIn
namespace Go.Proofs.YtmjpopfacagjhaaDoor
set_option linter.unusedVariables false
set_option linter.unusedSimpArgs false
open Go Go.RowKit

/-- No code is left for a word, and a clear code would make room. -/
def KnD.full (k : KnD) : Bool := decide (lastC k.set < k.next) && decide (k.base < k.ps.length)
/-- The codes of the longest words, behind the first clear code. -/
def greedyN : Nat → KnD → List UInt8 → List Int
  | 0, k, _ => [(k.c : Int) + 1]
  | n + 1, k, d => if d = [] then [(k.c : Int) + 1] else
      k.find (k.longest d) :: (if (k.after (k.find (k.longest d))).full = true ∧ d.drop (k.longest d).length ≠ [] then (k.c : Int) :: greedyN n (k.after (k.find (k.longest d))).cleared (d.drop (k.longest d).length) else greedyN n (k.after (k.find (k.longest d))) (d.drop (k.longest d).length))
def greedy (k : KnD) (d : List UInt8) : List Int := (k.c : Int) :: greedyN d.length k.cleared d
theorem greedyN_nil (n : Nat) (k : KnD) : greedyN n k [] = [(k.c : Int) + 1] := by cases n <;> simp [greedyN]
theorem greedyN_full {n : Nat} {k : KnD} {d : List UInt8} {x : Int} {w : List UInt8} (hd : d ≠ []) (hw : k.longest d = w) (hx : k.find w = x) (hf : (k.after x).full = true) (hn : d.drop w.length ≠ []) : greedyN (n + 1) k d = x :: (k.c : Int) :: greedyN n (k.after x).cleared (d.drop w.length) := by
  subst hw; subst hx
  rw [greedyN, if_neg hd, if_pos ⟨hf, hn⟩]
theorem greedyN_more {n : Nat} {k : KnD} {d : List UInt8} {x : Int} {w : List UInt8} (hd : d ≠ []) (hw : k.longest d = w) (hx : k.find w = x) (hf : ¬ ((k.after x).full = true ∧ d.drop w.length ≠ [])) : greedyN (n + 1) k d = x :: greedyN n (k.after x) (d.drop w.length) := by
  subst hw; subst hx
  rw [greedyN, if_neg hd, if_neg hf]
structure GrAt (T : List Int) (w : World) (k : KnD) (d : List UInt8) (v : Value) (n : Nat) (acc : List Int) (out : Value) (wr : World) : Prop where
  len : d.length ≤ n
  le : d.length ≤ 2000
  sum : acc.length + 2 * d.length ≤ 4001
  tot : acc ++ greedyN n k d = T
  ok : k.Ok
  lit : ∀ b ∈ d, b.toNat < k.c
  kn : KnAt w.heap.size k v wr
  pr : ownPr wr (w.heap.size + 1) v k.ps
  own : ownI wr (w.heap.size + 1) out acc
  up : Up w wr
theorem GrAt.step {T : List Int} {w : World} {k : KnD} {d : List UInt8} {v : Value} {m : Nat} {acc : List Int} {out : Value} {wr : World} (h : GrAt T w k d v (m + 1) acc out wr) (hd : d ≠ []) {x : Int} {wl : List UInt8} (hw : k.longest d = wl) (hx : k.find wl = x)
    (hf : ¬ ((k.after x).full = true ∧ d.drop wl.length ≠ [])) {W : World} {v5 out4 : Value} (h1 : KnAt w.heap.size (k.after x) v5 W) (h2 : ownPr W (w.heap.size + 1) v5 (k.after x).ps) (h3 : ownI W (w.heap.size + 1) out4 (acc ++ [x])) (h4 : Up w W) : GrAt T w (k.after x) (d.drop wl.length) v5 m (acc ++ [x]) out4 W := by
  have hp := KnD.longest_pos (k := k) hd
  have hl := KnD.longest_le (k := k) d
  have hfa := KnD.find_any h.ok hd h.lit
  rw [hw] at hp hl hfa
  rw [hx] at hfa
  have h5 := h.len; have h6 := h.le; have h7 := h.sum
  refine ⟨by rw [List.length_drop]; omega, by rw [List.length_drop]; omega, by rw [List.length_drop, List.length_append]; simp; omega, ?_, KnD.after_ok h.ok hfa.1, fun b hb => h.lit b (List.mem_of_mem_drop hb), h1, h2, h3, h4⟩
  rw [← h.tot, greedyN_more hd hw hx hf, List.append_assoc]; rfl
theorem GrAt.step2 {T : List Int} {w : World} {k : KnD} {d : List UInt8} {v : Value} {m : Nat} {acc : List Int} {out : Value} {wr : World} (h : GrAt T w k d v (m + 1) acc out wr) (hd : d ≠ []) {x : Int} {wl : List UInt8} (hw : k.longest d = wl) (hx : k.find wl = x)
    (hf : (k.after x).full = true) (hn : d.drop wl.length ≠ []) {W : World} {v5 out4 : Value} (h1 : KnAt w.heap.size (k.after x).cleared v5 W) (h2 : ownPr W (w.heap.size + 1) v5 (k.after x).cleared.ps) (h3 : ownI W (w.heap.size + 1) out4 (acc ++ [x] ++ [(k.c : Int)])) (h4 : Up w W) : GrAt T w (k.after x).cleared (d.drop wl.length) v5 m (acc ++ [x] ++ [(k.c : Int)]) out4 W := by
  have hp := KnD.longest_pos (k := k) hd
  have hl := KnD.longest_le (k := k) d
  have hfa := KnD.find_any h.ok hd h.lit
  rw [hw] at hp hl hfa
  rw [hx] at hfa
  have h5 := h.len; have h6 := h.le; have h7 := h.sum
  refine ⟨by rw [List.length_drop]; omega, by rw [List.length_drop]; omega, by rw [List.length_drop, List.length_append, List.length_append]; simp; omega, ?_, KnD.cleared_ok (KnD.after_ok h.ok hfa.1), fun b hb => h.lit b (List.mem_of_mem_drop hb), h1, h2, h3, h4⟩
  rw [← h.tot, greedyN_full hd hw hx hf hn, List.append_assoc, List.append_assoc]; rfl
def RelGr (T : List Int) (w : World) (t out : Value) (wr : World) : Prop := ∃ (k : KnD) (d : List UInt8) (v : Value) (n : Nat) (acc : List Int), t = .string (bs d) ∧ GrAt T w k d v n acc out wr

set_option maxRecDepth 100000 in
set_option maxHeartbeats 20000000 in
theorem l2Greedy_any (k : KnD) (v : Value) (lo : Nat) (d : ByteArray) (w : World) (h : k.Ok) (hr : RdP lo w v k.ps) (hd : d.size ≤ 2000) (hl : ∀ b ∈ d.data.toList, b.toNat < k.c) :
    Calls Tryd.prog 89  #[kV k v, .string d] w (IntsPost (greedy k d.data.toList) w) := by
  obtain ⟨i0, hi, hz0, hz1, hz2⟩ := info_parts infoIntG
  have cC := fun wx hr => l2Cleared_any k v lo wx h hr
  have cK := fun wx => l1Clear_any k.set wx h.set
  have hrt := fun (wq : World) (hu : Up w wq) => hr.up hu
  obtain ⟨hb1, hb2, -, -, -⟩ := h.nums
  obtain ⟨a, cap, rfl, -, -, -, -⟩ := hr
  have HK := Lib.hid h
  clear h
  simp only [kV] at *
  go_enter Tryd.func89, Tryd.ntmps89
  go_wp2_with (first | (go_at_call 60; (with_reducible refine (cK _).mono ?_); rintro e w9 ⟨rfl, U9⟩; have B9 := bcell U9; have Z9 := U9.size; (try simp at Z9); (try rw [Nat.add_one_le_iff] at Z9)) | fail)
  refine (cC _ (hrt _ (by (repeat (first | with_reducible exact Up.refl _ | with_reducible assumption | with_reducible refine Up.set ?_ (by first | exact Nat.le_refl _ | (simp only []; omega) | (simp; omega)) _ | with_reducible refine Up.alloc ?_ _ | with_reducible refine Up.drew ?_ | refine Up.trans ?_ (by with_reducible assumption)))))).mono ?_
  rintro e w1 ⟨v1, rfl, ho1, U2⟩
  obtain ⟨a1, c1, rfl⟩ := ownsRow_shape ho1
  have hua := U9.size
  simp at hua
  have hK : KnAt w.heap.size k (.slice a k.ps.length cap) w1 := KnAt.up (KnAt.up (MapKept.heap_alloc w _).1 U9) ((Up.alloc (Up.refl _) _).trans U2)
  have hO : ownPr w1 (w.heap.size + 1) (.slice a1 k.cleared.ps.length c1) k.cleared.ps := ownsRow_base ho1 (by simp; omega)
  have hI : ownI w1 (w.heap.size + 1) (.slice (some ⟨w9.heap.size, 0, none⟩) 1 1) [(k.c : Int)] := ownsRow_up (own_made1 w9 (by omega)) U2
  have hU1 : Up w w1 := by (repeat (first | with_reducible exact Up.refl _ | with_reducible assumption | with_reducible refine Up.set ?_ (by first | exact Nat.le_refl _ | (simp only []; omega) | (simp; omega)) _ | with_reducible refine Up.alloc ?_ _ | with_reducible refine Up.drew ?_ | refine Up.trans ?_ (by with_reducible assumption)))
  obtain ⟨-, r0, r1, r2, r3, r4, r5⟩ := hK.cells
  have hfr := box_free hK
  have HS := Lib.hid (And.intro hK (And.intro hI (And.intro hO hU1)))
  have HL : Hid (d = bs d.data.toList) := (bs_self d).symm
  have HLl := Lib.hid hl
  have hdl := ba_len d
  clear hK hI hO hU1 ho1 hl U9 U2 B9 Z9
  generalize d.data.toList = L at *
  go_wp2
  go_loopw [1, 5] (fun t out wr => RelGr (greedy k L) w t out wr) (fun t _ _ => slen t)
  case atStart =>
    obtain ⟨hK, hI, hO, hU1⟩ := HS.out
    refine ⟨k.cleared, L, .slice a1 k.cleared.ps.length c1, L.length, [(k.c : Int)], congrArg Value.string HL.out, Nat.le_refl _, by omega, by simp; omega, rfl, KnD.cleared_ok HK.out, HLl.out, KnAt.store hK k.cleared _, KnW.own hO (fun e => by have := (hO.lt _ e.symm).1; omega) k.cleared _, KnW.own hI (fun e => by have := (hI.lt _ e.symm).1; omega) k.cleared _, KnW.up hU1 (Nat.le_refl _) k.cleared _⟩
  case round =>
    clear HS HL r0 r1 r2 r3 r4 r5 hfr hdl hd cC cK hrt
    obtain ⟨k', d', v', n, acc, rfl, hG⟩ := hrel
    have HG := Lib.hid hG
    obtain ⟨hn, hd2, hsum, htot, hok, hlit, hkn, hpr, hown, hup⟩ := hG
    obtain ⟨a', c', rfl⟩ := ownsRow_shape hpr
    obtain ⟨ai, ci, rfl⟩ := ownsRow_shape hown
    obtain ⟨b0, r0, r1, r2, r3, r4, r5⟩ := hkn.cells
    have hrt' := fun (wq : World) (hu : Up wr wq) => RdP.up (RdP.of_own hpr) hu
    by_cases hde : d' = []
    · subst hde
      have htt := HG.out.tot
      rw [greedyN_nil] at htt
      have HT := Lib.hid htt
      have cE := fun wx => l1End_any k'.set wx hok.set
      have hcb := hok.nums.2.1
      clear htot htt hrt' hkn hpr hok hlit
      rw [show bs ([] : List UInt8) = (⟨#[]⟩ : ByteArray) from rfl]
      go_wp2_with (first | (go_at_call 85; (with_reducible refine (cE _).mono ?_); rintro e w2 ⟨rfl, U2⟩; have B2 := bcell U2; have Z2 := U2.size; (try simp at Z2); (try rw [Nat.add_one_le_iff] at Z2)) | (at_builtin; refine wpList_append_own _ rfl _ _ 48 rfl (w.heap.size + 1) 3 i0 (.int .i64 0) 1 8 Tryd.underlying48 hi hz0 hz1 hz2 rfl (by decide) _ _ _ rfl ((ownsRow_up HG.out.own U2).alloc _) ⟨w2.heap.size, 0, none⟩ 1 1 [.int .i64 ((clr k'.set : Int) + 1)] rfl rfl (new_cells [.int .i64 ((clr k'.set : Int) + 1)] _ rfl) (by intro u hu; simp at hu; subst hu; rfl) (by unfold maxLen; simp at hsum; omega) (by simp at hsum; omega) (by have := U2.size; simp; omega) ?_; rintro v4 w4 hown4 hgr4 -; have HU4 := Lib.hid (Up.grown (HG.out.up.trans (U2.alloc _)) hgr4 (fun y hy => by have := (HG.out.own.lt y hy).1; omega)); have HI4 := Lib.hid hown4; clear hown4 hgr4))
      go_ret
      refine ⟨_, rfl, ?_, HU4.out⟩
      have h4 := HI4.out
      rw [← cellsI_snoc] at h4
      have e : acc ++ [(clr k'.set : Int) + 1] = greedy k L := HT.out
      have e2 : (acc ++ [(clr k'.set : Int) + 1]).length = acc.length + 1 := by simp
      rw [← e2, e] at h4
      exact ownsRow_base h4 (by omega)
    · have HNE : (bs d').toList.isEmpty = false := by rw [Lib.toList_data, bs_data]; cases d' with | nil => exact absurd rfl hde | cons _ _ => rfl
      have hpos : 0 < d'.length := List.length_pos_iff.2 hde
      have cLg := fun wx hr => l2Longest_any k' (.slice a' k'.ps.length c') (w.heap.size + 1) (bs d') wx hok hr (by rw [bs_size]; exact hpos) (by rw [bs_size]; omega)
      have hfa := KnD.find_any hok hde hlit
      have hfb := KnD.find_bd hok hfa.1
      have hlp := KnD.longest_pos (k := k') hde
      have hll := KnD.longest_le (k := k') d'
      have cF := fun wx hr => l2Find_any k' (.slice a' k'.ps.length c') (w.heap.size + 1) (bs (k'.longest d')) wx hok hr (by rw [bs_size]; omega)
      have cA := fun wx hr => l2After_any k' (.slice a' k'.ps.length c') (w.heap.size + 1) (k'.find (k'.longest d')) wx hok hr hfa.1
      obtain ⟨m, rfl⟩ : ∃ m, n = m + 1 := ⟨n - 1, by omega⟩
      have HOK2 := Lib.hid (KnD.after_ok hok hfa.1)
      rw [bs_data] at cLg cF
      have hy1 := bs_size d'
      have hy2 := bs_size (k'.longest d')
      have HDE := Lib.hid hde
      clear hfa hok hlit htot hkn hpr hown hup hde
      generalize hx : k'.find (k'.longest d') = x at *
      have HX := Lib.hid hx
      generalize hwl : k'.longest d' = wl at *
      have HWL := Lib.hid hwl
      clear hx hwl
      go_wp2_with (first | (go_at_call 91; (with_reducible refine (cLg _ (hrt' _ (Up.refl _))).mono ?_); rintro e w2 ⟨rfl, U2⟩; have B2 := bcell U2; have Z2 := U2.size; (try simp at Z2); (try rw [Nat.add_one_le_iff] at Z2)) | (go_at_call 93; (with_reducible refine (cF _ (hrt' _ U2)).mono ?_); rintro e w3 ⟨rfl, U3⟩; have B3 := bcell U3; have Z3 := U3.size; (try simp at Z3); (try rw [Nat.add_one_le_iff] at Z3)) | (at_builtin; refine wpList_append_own _ rfl _ _ 48 rfl (w.heap.size + 1) 3 i0 (.int .i64 0) 1 8 Tryd.underlying48 hi hz0 hz1 hz2 rfl (by decide) _ _ _ rfl ((ownsRow_up HG.out.own (U2.trans U3)).alloc _) ⟨w3.heap.size, 0, none⟩ 1 1 [.int .i64 x] rfl rfl (new_cells [.int .i64 x] _ rfl) (by intro u hu; simp at hu; subst hu; rfl) (by unfold maxLen; omega) (by omega) (by have := (U2.trans U3).size; simp; omega) ?_; rintro v4 w4 hown4 hgr4 -; obtain ⟨a4, c4, rfl⟩ := ownsRow_shape hown4; have hk4 := KnAt.gr (KnAt.up HG.out.kn ((U2.trans U3).alloc _)) hgr4 (fun e => by have := (HG.out.own.lt _ e.symm).1; omega); have HP4 := Lib.hid ((ownsRow_up HG.out.pr ((U2.trans U3).alloc _)).kept hgr4 (rows_ne HG.out.pr HG.out.own (by decide))); have HU4 := Lib.hid (Up.grown (HG.out.up.trans ((U2.trans U3).alloc _)) hgr4 (fun y hy => by have := (HG.out.own.lt y hy).1; omega)); have HI4 := Lib.hid hown4; obtain ⟨-, r0, r1, r2, r3, r4, r5⟩ := hk4.cells; have HK4 := Lib.hid hk4; clear hk4 hown4 hgr4) | (go_at_call 92; (with_reducible refine (cA _ (RdP.of_own HP4.out)).mono ?_); rintro e w5 ⟨v5, rfl, ho5, U5⟩; obtain ⟨a5, c5, rfl⟩ := ownsRow_shape ho5; obtain ⟨-, r0, r1, r2, r3, r4, r5⟩ := KnAt.cells (KnAt.up HK4.out U5); have hfr := box_free (KnAt.up HK4.out U5); have B5 := bcell U5; have HP5 := Lib.hid ho5; clear ho5))
      have hw4 : w.heap.size < w4.heap.size := (Array.getElem?_eq_some_iff.1 HK4.out).1
      have hK6 := KnAt.store (KnAt.up HK4.out U5) (k'.after x) (.slice a5 (k'.after x).ps.length c5)
      have hP6 := KnW.own (b := w.heap.size) (ownsRow_base HP5.out (by omega : w.heap.size + 1 ≤ w4.heap.size)) (fun e => by have := (HP5.out.lt _ e.symm).1; omega) (k'.after x) (.slice a5 (k'.after x).ps.length c5)
      have hI6 := KnW.own (b := w.heap.size) (ownsRow_up HI4.out U5) (fun e => by have := (HI4.out.lt _ e.symm).1; omega) (k'.after x) (.slice a5 (k'.after x).ps.length c5)
      have hU6 := KnW.up (HU4.out.trans U5) (Nat.le_refl _) (k'.after x) (.slice a5 (k'.after x).ps.length c5)
      rw [← cellsI_snoc] at hI6
      have HW := Lib.hid (And.intro hK6 (And.intro hP6 (And.intro hI6 hU6)))
      clear hK6 hP6 hI6 hU6 r0 r1 r2 r3 r4 r5 hfr B5 HK4 HP4 HP5 HI4 HU4 cA cF cLg hrt'
      rw [show (World.setCell (World.setCell (World.setCell (World.setCell (World.setCell (World.setCell w5 ⟨w.heap.size, 0, none⟩ (.int .i64 (k'.after x).set.ord)) ⟨w.heap.size, 1, none⟩ (.int .i64 (k'.after x).set.lit)) ⟨w.heap.size, 2, none⟩ (.int .i64 (k'.after x).set.most)) ⟨w.heap.size, 3, none⟩ (.slice a5 (k'.after x).ps.length c5)) ⟨w.heap.size, 4, none⟩ (.int .i64 (k'.after x).base)) ⟨w.heap.size, 5, none⟩ (.int .i64 (k'.after x).last)) = KnW w5 w.heap.size (k'.after x) (.slice a5 (k'.after x).ps.length c5) from rfl]
      first | rw [bs_drop] | rw [bs_drop' _ _ _ rfl]
      generalize KnW w5 w.heap.size (k'.after x) (.slice a5 (k'.after x).ps.length c5) = W at HW ⊢
      have hset : Hid ((k'.after x).set = k'.set) := rfl
      have HST := fun hf => Lib.hid (fun (W : World) (v5 out4 : Value) h1 h2 h3 h4 => GrAt.step HG.out HDE.out HWL.out HX.out hf (W := W) (v5 := v5) (out4 := out4) h1 h2 h3 h4)
      have HST2 := fun hf hn => Lib.hid (fun (W : World) (v5 out4 : Value) h1 h2 h3 h4 => GrAt.step2 HG.out HDE.out HWL.out HX.out hf hn (W := W) (v5 := v5) (out4 := out4) h1 h2 h3 h4)
      have hdl2 : (d'.drop wl.length).length < d'.length := by rw [List.length_drop]; omega
      clear HG HX HWL HDE
      generalize k'.after x = k6 at *
      generalize d'.drop wl.length = d6 at *
      have hac : (acc ++ [x]).length = acc.length + 1 := by simp
      have hacl : (acc ++ [x]).length ≤ 4002 := by omega
      generalize acc ++ [x] = acc6 at *
      rw [← hac] at HW ⊢
      obtain ⟨hk6, hp6, hi6, hu6⟩ := HW.out
      obtain ⟨bb, r0, r1, r2, r3, r4, r5⟩ := hk6.cells
      clear hk6 hp6 hi6 hu6 hac
      by_cases hd6 : d6 = []
      · subst hd6
        have HS := HST (fun h => h.2 rfl)
        clear HST HST2
        rw [show bs ([] : List UInt8) = (⟨#[]⟩ : ByteArray) from rfl]
        refine wp_region_up 18 (by kernel_rfl) (by kernel_rfl) ?_
        simp only [List.take, List.drop]
        repeat (refine wpUp_step (fun K hK => ?_); go_simp; (try simp only [↓IntWalk.iteOmega]); first
          | (refine hK _ _ ?_; clear hK K)
          | (apply stepU_c
             · intro wq hwq; (have hbq := bcell hwq; (repeat (first | refine fills_no (by rfl) ?_ | refine fills_yes (by rfl) (fun vq hvq => ?_))); simp only [List.filter_nil, fills]; unfold upAt; (try (skip)); go_simp; (try go_bits); (try simp only [↓IntWalk.iteOmega]); (try (rw [dif_pos (by omega)]; go_simp; try go_bits)); first | exact upOut_value)
             go_simp; refine hK _ _ ?_; clear hK K))
        refine wpUp_nil (fun wq hwq => ?_)
        simp only [fills]
        go_wp2
        go_roundw
        case rel =>
          obtain ⟨hk6, hp6, hi6, hu6⟩ := HW.out
          exact ⟨k6, [], _, m, acc6, rfl, HS.out _ _ _ (hk6.up hwq) (ownsRow_up hp6 hwq) (ownsRow_up hi6 hwq) (hu6.trans hwq)⟩
        case measure =>
          have e0 : (⟨#[]⟩ : ByteArray).size = 0 := rfl
          simp [slen, bs_size, e0]; omega
      · have HNE6 : (bs d6).toList.isEmpty = false := by rw [Lib.toList_data, bs_data]; cases d6 with | nil => exact absurd rfl hd6 | cons _ _ => rfl
        have hok6 := HOK2.out
        have cN := fun wx hr => l2Next_any k6 (.slice a5 k6.ps.length c5) (w.heap.size + 1) wx hok6 hr
        have cL := fun wx => l1Last_any k6.set wx hok6.set
        have cC := fun wx hr => l2Cleared_any k6 (.slice a5 k6.ps.length c5) (w.heap.size + 1) wx hok6 hr
        have cK := fun wx => l1Clear_any k6.set wx hok6.set
        have hrt' := fun (wq : World) (hu : Up W wq) => RdP.up (RdP.of_own HW.out.2.1) hu
        have hnx := KnD.next_bd hok6
        have hlb := hok6.nums.2.2.1
        have HD6 := Lib.hid hd6
        clear hd6 hok6
        by_cases e1 : lastC k6.set < k6.next
        · by_cases e2 : k6.base < k6.ps.length
          · have hfull : k6.full = true := by unfold KnD.full; rw [decide_eq_true e1, decide_eq_true e2]; rfl
            have HS := HST2 hfull HD6.out
            clear HST HST2 hfull
            generalize k6.next = nx6 at *
            generalize lastC k6.set = lc6 at *
            refine wp_region_up 18 (by kernel_rfl) (by kernel_rfl) ?_
            simp only [List.take, List.drop]
            repeat (refine wpUp_step (fun K hK => ?_); go_simp; (try simp only [↓IntWalk.iteOmega]); first
              | (refine hK _ _ ?_; clear hK K)
              | (apply stepU_c
                 · intro wq hwq; (have hbq := bcell hwq; (repeat (first | refine fills_no (by rfl) ?_ | refine fills_yes (by rfl) (fun vq hvq => ?_))); simp only [List.filter_nil, fills]; unfold upAt; (try ((obtain ⟨-, r0, r1, r2, r3, r4, r5⟩ := KnAt.cells (HW.out.1.up hwq)))); go_simp; (try go_bits); (try simp only [↓IntWalk.iteOmega]); (try (rw [dif_pos (by omega)]; go_simp; try go_bits)); first | exact upOut_value | (apply upOut_call; (go_at_call 98; exact cN _ (hrt' _ hwq))) | (apply upOut_eq; (go_at_call 98; exact cN _ (hrt' _ hwq))) | (apply upOut_call; (go_at_call 84; exact cL _)) | (apply upOut_eq; (go_at_call 84; exact cL _)))
                 go_simp; refine hK _ _ ?_; clear hK K))
            refine wpUp_nil (fun wq hwq => ?_)
            simp only [fills]
            obtain ⟨-, r0, r1, r2, r3, r4, r5⟩ := KnAt.cells (HW.out.1.up hwq)
            have hwz := hwq.size
            go_wp2_with (first | (go_at_call 60; (with_reducible refine (cK _).mono ?_); rintro e w7 ⟨rfl, U7⟩; have B7 := bcell U7; have Z7 := U7.size; (try simp at Z7); (try rw [Nat.add_one_le_iff] at Z7)) | (at_builtin; refine wpList_append_own _ rfl _ _ 48 rfl (w.heap.size + 1) 3 i0 (.int .i64 0) 1 8 Tryd.underlying48 hi hz0 hz1 hz2 rfl (by decide) _ _ _ rfl ((ownsRow_up HW.out.2.2.1 (hwq.trans U7)).alloc _) ⟨w7.heap.size, 0, none⟩ 1 1 [.int .i64 (clr k6.set : Nat)] rfl rfl (new_cells [.int .i64 (clr k6.set : Nat)] _ rfl) (by intro u hu; simp at hu; subst hu; rfl) (by unfold maxLen; omega) (by omega) (by have := U7.size; simp; omega) ?_; rintro v8 w8 hown8 hgr8 -; obtain ⟨a8, c8, rfl⟩ := ownsRow_shape hown8; have hk8 := KnAt.gr (KnAt.up HW.out.1 ((hwq.trans U7).alloc _)) hgr8 (fun e => by have := (HW.out.2.2.1.lt _ e.symm).1; omega); have HP8 := Lib.hid ((ownsRow_up HW.out.2.1 ((hwq.trans U7).alloc _)).kept hgr8 (rows_ne HW.out.2.1 HW.out.2.2.1 (by decide))); have HU8 := Lib.hid (Up.grown (HW.out.2.2.2.trans ((hwq.trans U7).alloc _)) hgr8 (fun y hy => by have := (HW.out.2.2.1.lt y hy).1; omega)); have HI8 := Lib.hid hown8; obtain ⟨-, r0, r1, r2, r3, r4, r5⟩ := hk8.cells; have HK8 := Lib.hid hk8; clear hk8 hown8 hgr8) | (go_at_call 90; (with_reducible refine (cC _ (RdP.of_own HP8.out)).mono ?_); rintro e w10 ⟨v10, rfl, ho10, U10⟩; obtain ⟨a10, c10, rfl⟩ := ownsRow_shape ho10; obtain ⟨-, r0, r1, r2, r3, r4, r5⟩ := KnAt.cells (KnAt.up HK8.out U10); have hfr := box_free (KnAt.up HK8.out U10); have B10 := bcell U10; have HP10 := Lib.hid ho10; clear ho10))
            go_roundw
            case rel =>
              have hw8 : w.heap.size < w8.heap.size := (Array.getElem?_eq_some_iff.1 HK8.out).1
              have hI := ownsRow_up HI8.out U10
              rw [← cellsI_snoc] at hI
              have hl8 : (acc6 ++ [((clr k6.set : Nat) : Int)]).length = acc6.length + 1 := by simp
              rw [← hl8] at hI ⊢
              have hkc : ((clr k6.set : Nat) : Int) = (k'.c : Int) := by rw [hset.out]; rfl
              rw [hkc] at hI ⊢
              refine ⟨k6.cleared, d6, _, m, acc6 ++ [(k'.c : Int)], rfl, HS.out _ _ _ (KnAt.store (KnAt.up HK8.out U10) k6.cleared (.slice a10 k6.cleared.ps.length c10)) (KnW.own (ownsRow_base HP10.out (by omega)) (fun e => by have := (HP10.out.lt _ e.symm).1; omega) k6.cleared _) (KnW.own hI (fun e => by have := (hI.lt _ e.symm).1; omega) k6.cleared _) (KnW.up (HU8.out.trans U10) (Nat.le_refl _) k6.cleared _)⟩
            case measure => simp [slen, bs_size]; omega
          · have hfull : ¬ (k6.full = true ∧ d6 ≠ []) := fun h => by
              have := h.1
              unfold KnD.full at this
              rw [decide_eq_false e2, Bool.and_false] at this
              cases this
            have HS := HST hfull
            clear HST HST2 hfull
            generalize k6.next = nx6 at *
            generalize lastC k6.set = lc6 at *
            refine wp_region_up 18 (by kernel_rfl) (by kernel_rfl) ?_
            simp only [List.take, List.drop]
            repeat (refine wpUp_step (fun K hK => ?_); go_simp; (try simp only [↓IntWalk.iteOmega]); first
              | (refine hK _ _ ?_; clear hK K)
              | (apply stepU_c
                 · intro wq hwq; (have hbq := bcell hwq; (repeat (first | refine fills_no (by rfl) ?_ | refine fills_yes (by rfl) (fun vq hvq => ?_))); simp only [List.filter_nil, fills]; unfold upAt; (try ((obtain ⟨-, r0, r1, r2, r3, r4, r5⟩ := KnAt.cells (HW.out.1.up hwq)))); go_simp; (try go_bits); (try simp only [↓IntWalk.iteOmega]); (try (rw [dif_pos (by omega)]; go_simp; try go_bits)); first | exact upOut_value | (apply upOut_call; (go_at_call 98; exact cN _ (hrt' _ hwq))) | (apply upOut_eq; (go_at_call 98; exact cN _ (hrt' _ hwq))) | (apply upOut_call; (go_at_call 84; exact cL _)) | (apply upOut_eq; (go_at_call 84; exact cL _)))
                 go_simp; refine hK _ _ ?_; clear hK K))
            refine wpUp_nil (fun wq hwq => ?_)
            simp only [fills]
            go_wp2
            go_roundw
            case rel =>
              obtain ⟨hk6, hp6, hi6, hu6⟩ := HW.out
              exact ⟨k6, d6, _, m, acc6, rfl, HS.out _ _ _ (hk6.up hwq) (ownsRow_up hp6 hwq) (ownsRow_up hi6 hwq) (hu6.trans hwq)⟩
            case measure => simp [slen, bs_size]; omega
        · have hfull : ¬ (k6.full = true ∧ d6 ≠ []) := fun h => by
            have := h.1
            unfold KnD.full at this
            rw [decide_eq_false e1, Bool.false_and] at this
            cases this
          have HS := HST hfull
          clear HST HST2 hfull
          generalize k6.next = nx6 at *
          generalize lastC k6.set = lc6 at *
          refine wp_region_up 18 (by kernel_rfl) (by kernel_rfl) ?_
          simp only [List.take, List.drop]
          repeat (refine wpUp_step (fun K hK => ?_); go_simp; (try simp only [↓IntWalk.iteOmega]); first
            | (refine hK _ _ ?_; clear hK K)
            | (apply stepU_c
               · intro wq hwq; (have hbq := bcell hwq; (repeat (first | refine fills_no (by rfl) ?_ | refine fills_yes (by rfl) (fun vq hvq => ?_))); simp only [List.filter_nil, fills]; unfold upAt; (try ((obtain ⟨-, r0, r1, r2, r3, r4, r5⟩ := KnAt.cells (HW.out.1.up hwq)))); go_simp; (try go_bits); (try simp only [↓IntWalk.iteOmega]); (try (rw [dif_pos (by omega)]; go_simp; try go_bits)); first | exact upOut_value | (apply upOut_call; (go_at_call 98; exact cN _ (hrt' _ hwq))) | (apply upOut_eq; (go_at_call 98; exact cN _ (hrt' _ hwq))) | (apply upOut_call; (go_at_call 84; exact cL _)) | (apply upOut_eq; (go_at_call 84; exact cL _)))
               go_simp; refine hK _ _ ?_; clear hK K))
          refine wpUp_nil (fun wq hwq => ?_)
          simp only [fills]
          go_wp2
          go_roundw
          case rel =>
            obtain ⟨hk6, hp6, hi6, hu6⟩ := HW.out
            exact ⟨k6, d6, _, m, acc6, rfl, HS.out _ _ _ (hk6.up hwq) (ownsRow_up hp6 hwq) (ownsRow_up hi6 hwq) (hu6.trans hwq)⟩
          case measure => simp [slen, bs_size]; omega

end Go.Proofs.YtmjpopfacagjhaaDoor
