/- FormatIndex of the program. Conditions: the places can be read, at most 2^20; the table of powers of ten lies where it was laid. -/
import Derived.Test.YtmjpopfacagjhaaDoorFi1
import Derived.Test.YtmjpopfacagjhaaDoorStr
import Derived.Test.YtmjpopfacagjhaaDoorDoor
import Derived.Test.YtmjpopfacagjhaaDoorShelf
import Derived.Test.YtmjpopfacagjhaaDoorSeek3
namespace Go.Proofs.YtmjpopfacagjhaaDoor
set_option linter.unusedVariables false
set_option linter.unusedSimpArgs false
open Go Go.RowKit

theorem up_grow (w : World) (n : Nat) (os : Array Obj) : Up w (Go.Sort.grow (w.drewN n) os) :=
  ⟨rfl, rfl, rfl, by simp [Go.Sort.grow], fun i hi => by
    show ((w.drewN n).heap ++ os)[i]? = _
    rw [Array.getElem?_append_left (by show i < w.heap.size; omega)]
    rfl⟩
theorem itoa_any (n : Int) (w : World) (hT : Tab w) (h0 : -9223372036854775808 ≤ n) (h1 : n ≤ 9223372036854775807) :
    Calls Tryd.prog 18 #[.int .i64 n] w (Same (.string (bs (Lib.itoa n))) w) :=
  (Tryd.strconv_Itoa n h0 h1 w hT).mono fun e w' ⟨he, k, os, hw⟩ => ⟨he, by subst hw; exact up_grow w k os⟩
set_option maxRecDepth 100000 in
set_option maxHeartbeats 1000000 in
theorem orDash_any (l : List UInt8) (w : World) : Calls Tryd.prog 19  #[.string (bs l)] w (fun e w' => e = .returned (.string (bs (someL l))) ∧ w = w') := by
  by_cases h : l = []
  · subst h
    have hb : (bs []).toList.isEmpty = true := by rw [Lib.toList_data, bs_data]; rfl
    go_enter Tryd.func19, Tryd.ntmps19
    go_wp2
    go_ret
    exact ⟨rfl, rfl⟩
  · have e : Hid (someL l = l) := if_neg h
    have hb : (bs l).toList.isEmpty = false := by rw [Lib.toList_data, bs_data]; cases l with | nil => exact absurd rfl h | cons _ _ => rfl
    rw [e.out]
    go_enter Tryd.func19, Tryd.ntmps19
    go_wp2
    go_ret
    exact ⟨rfl, rfl⟩
/-- Join of texts that have been made. -/
theorem joinS_any (g n cap : Nat) (xs : List (List UInt8)) (sep : UInt8) (w : World) (base : Nat) (hn : n = xs.length) (hb : n ≤ 1048576) (h : w.ownsRow base 9 1 (.slice (some ⟨g, 0, none⟩) n cap) n (cellsS (xs.map bs))) (hlen : (Lib.join xs [sep]).length ≤ 140737488355328) :
    Calls Tryd.prog 20 #[.slice (some ⟨g, 0, none⟩) n cap, .string ⟨#[sep]⟩] w (Same (.string (bs (Lib.join xs [sep]))) w) := by
  show Calls Tryd.prog 20 #[.slice (some ⟨g, 0, none⟩) n cap, .string (bs [sep])] w _
  subst hn
  have hl := (h.lt g rfl).2
  have hc : xs.length ≤ cap ∧ cap ≤ maxLen := by
    rcases ownsRow_read h with ⟨e, -⟩ | ⟨g', cap', e, q1, q2, -⟩
    · cases e
    · cases e; exact ⟨q1, q2⟩
  have hm : (xs.map bs).map (fun b => b.data.toList) = xs := by
    rw [List.map_map]
    conv => rhs; rw [← List.map_id xs]
    exact List.map_congr_left fun x _ => by simp [bs_data]
  have hx : (xs.map bs).length = xs.length := by simp
  have := Tryd.strings_Join g 0 cap (xs.map bs) (bs [sep]) w (fun j x hj => by
    rw [Nat.zero_add]
    exact ownsRow_cell h (by simp only [cellsS, List.getElem?_map, hj]; rfl)) hl (by rw [hx]; exact by omega) (by rw [hx]; exact hc.1) (by rw [hm]; simpa [bs_data] using hlen)
  rw [hx] at this
  refine this.mono fun e w' ⟨he, hw⟩ => ⟨?_, hw⟩
  rw [he, hm]
  simp [bs_data, bs]

def RelFit (ps : List PlaceD) (w : World) (i : Value) (wr : World) : Prop := ∃ k : Nat, k ≤ ps.length ∧ i = .int .i64 k ∧ Up w wr ∧ wr.ownsRow w.heap.size 9 1 (.slice (some ⟨w.heap.size, 0, none⟩) ps.length ps.length) ps.length (cellsS (midS ((ps.map plcT).map bs) k))

set_option maxRecDepth 100000 in
set_option maxHeartbeats 1000000 in
theorem fixI_any (ps : List PlaceD) (v : Value) (base : Nat) (w : World) (hT : Tab w) (hown : w.ownsRow base 34 2 v ps.length (cellsP ps)) (hl : ps.length ≤ 1048576) :
    Calls Tryd.prog 8  #[v] w (Same (.string (bs (fmtIx ps))) w) := by
  obtain ⟨a, ca, rfl, hm, -⟩ := ownsRow_any hown
  have cV := fun w h => validI_any ps (.slice a ps.length ca) base w h hl
  cases hv : validP ps
  · have e : Hid (fmtIx ps = []) := by unfold Hid fmtIx; rw [hv]; rfl
    rw [hv] at cV
    rw [e.out]
    clear hv
    go_enter Tryd.func8, Tryd.ntmps8
    go_wp2_with fail
    (with_reducible refine (cV _ hown).mono ?_); rintro e w1 ⟨rfl, U1⟩
    go_wp2
    go_ret
    exact ⟨rfl, U1⟩
  · have e : Hid (fmtIx ps = someL (idxL ps)) := by unfold Hid fmtIx; rw [hv]; rfl
    have hr := Lib.hid (validP_range hv)
    have hle := idxL_le hv ps.length
    rw [List.take_length] at hle
    have HLE := Lib.hid hle
    have h40 := hr.out.1
    rw [hv] at cV
    rw [e.out]
    clear hv hle
    obtain ⟨i0, hi0, hz0, hz1, hz2⟩ := info_parts infoStr
    have hmk : ∀ w : World, (Instr.makeSlice 41 (.int .i64 (ps.length : Int)) (.int .i64 (ps.length : Int))).run Tryd.prog w = .ok (.slice (some ⟨w.heap.size, 0, none⟩) ps.length ps.length) (w.alloc (.cells (madeCells #[.string ByteArray.empty] ps.length) 9)) := fun w => by
      have := run_make (P := Tryd.prog) w 41 9 i0 _ Tryd.underlying41 hi0 hz0 .i64 .i64 ps.length ps.length (by omega) (Int.le_refl _) (by rw [hz2]; omega) (by omega)
      rw [hz1] at this
      simpa [Value.cells] using this
    clear hz0 hz1 hz2 hi0
    go_enter Tryd.func8, Tryd.ntmps8
    go_wp2_with fail
    (with_reducible refine (cV _ hown).mono ?_); rintro e w1 ⟨rfl, U1⟩
    have hown := ownsRow_up hown U1
    have HT := Lib.hid (hT.up U1)
    clear cV hT
    go_wp2
    go_loopw [14] (fun i wr => RelFit ps w1 i wr) (fun i _ => ps.length - (intOf i).toNat)
    case atStart => exact ⟨0, Nat.zero_le _, rfl, (Up.refl _).alloc _, by rw [midS_zero, List.length_map, List.length_map]; exact made_strs w1 _ (by unfold maxLen; omega)⟩
    case round =>
      obtain ⟨k, hk, rfl, hup, ho⟩ := hrel
      have hrl : w1.heap.size < wr.heap.size := (ho.lt _ rfl).2
      by_cases hlt : k < ps.length
      · obtain ⟨g, rfl, hc1, hc2, -, hg⟩ := ownsRow_slot hown (by omega)
        have hgw := Nat.lt_of_lt_of_le hg hup.size
        obtain ⟨c0, c1⟩ := plc_cells' (read_cells (ownsRow_up hown hup)) hlt
        obtain ⟨r1, r2, r3, r4⟩ := hr.out.2 k hlt
        have cA := fun wx (hx : Up w1 wx) => itoa_any ps[k].place wx (HT.out.up hx) (by omega) (by omega)
        have cB := fun wx (hx : Up w1 wx) => itoa_any ps[k].start wx (HT.out.up hx) (by omega) (by omega)
        have lA := itoa_le (n := ps[k].place) (by omega) (by omega)
        have lB := itoa_le (n := ps[k].start) (by omega) (by omega)
        have zA := bs_size (Lib.itoa ps[k].place)
        have zB := bs_size (Lib.itoa ps[k].start)
        have hkT : k < ((ps.map plcT).map bs).length := by simpa using hlt
        have HM := Lib.hid (midS_set ((ps.map plcT).map bs) k hkT)
        have HX : Hid ((bs (Lib.itoa ps[k].place) ++ (⟨#[58]⟩ : ByteArray)) ++ bs (Lib.itoa ps[k].start) = ((ps.map plcT).map bs)[k]) := by
          unfold Hid
          rw [List.getElem_map, List.getElem_map, show (⟨#[58]⟩ : ByteArray) = bs [58] from rfl]
          simp [bs_app, plcT]
        have d0 := ownsRow_cell ho (midS_at ((ps.map plcT).map bs) k hkT)
        have HF := Lib.hid (fun wx (hx : Up wr wx) => ownsRow_free (ownsRow_up ho hx) k)
        have HC := Lib.hid (fun wx (hx : Up wr wx) => ownsRow_cell (ownsRow_up ho hx) (midS_at ((ps.map plcT).map bs) k hkT))
        have HO := Lib.hid ho
        generalize Lib.itoa ps[k].place = A at *
        generalize Lib.itoa ps[k].start = B at *
        generalize ps[k].place = x at *
        generalize ps[k].start = y at *
        clear hr d0 ho
        go_wp2
        refine wp_region_up 11 (by kernel_rfl) (by kernel_rfl) ?_
        simp only [List.take, List.drop]
        repeat (refine wpUp_step (fun K hK => ?_); go_simp; (try simp only [↓IntWalk.iteOmega]); first
          | (refine hK _ _ ?_; clear hK K)
          | (apply stepU_c
             · intro wq hwq; (have hbq := bcell hwq; (repeat (first | refine fills_no (by rfl) ?_ | refine fills_yes (by rfl) (fun vq hvq => ?_))); simp only [List.filter_nil, fills]; unfold upAt; go_simp; (try go_bits); (try simp only [↓IntWalk.iteOmega]); (try (rw [dif_pos (by omega)]; go_simp; try go_bits)); first | exact upOut_value | (apply upOut_call; (go_at_call 18; first | with_reducible exact cA _ (by (repeat (first | with_reducible exact Up.refl _ | with_reducible assumption | with_reducible refine Up.set ?_ (by first | exact Nat.le_refl _ | (simp only []; omega) | (simp; omega)) _ | with_reducible refine Up.alloc ?_ _ | with_reducible refine Up.drew ?_ | refine Up.trans ?_ (by with_reducible assumption)))) | with_reducible exact cB _ (by (repeat (first | with_reducible exact Up.refl _ | with_reducible assumption | with_reducible refine Up.set ?_ (by first | exact Nat.le_refl _ | (simp only []; omega) | (simp; omega)) _ | with_reducible refine Up.alloc ?_ _ | with_reducible refine Up.drew ?_ | refine Up.trans ?_ (by with_reducible assumption)))))) | (apply upOut_eq; (go_at_call 18; first | with_reducible exact cA _ (by (repeat (first | with_reducible exact Up.refl _ | with_reducible assumption | with_reducible refine Up.set ?_ (by first | exact Nat.le_refl _ | (simp only []; omega) | (simp; omega)) _ | with_reducible refine Up.alloc ?_ _ | with_reducible refine Up.drew ?_ | refine Up.trans ?_ (by with_reducible assumption)))) | with_reducible exact cB _ (by (repeat (first | with_reducible exact Up.refl _ | with_reducible assumption | with_reducible refine Up.set ?_ (by first | exact Nat.le_refl _ | (simp only []; omega) | (simp; omega)) _ | with_reducible refine Up.alloc ?_ _ | with_reducible refine Up.drew ?_ | refine Up.trans ?_ (by with_reducible assumption)))))))
             go_simp; refine hK _ _ ?_; clear hK K))
        refine wpUp_nil (fun wq hwq => ?_)
        simp only [fills]
        have U3 : Up wr wq := by (repeat (first | with_reducible exact Up.refl _ | with_reducible assumption | with_reducible refine Up.set ?_ (by first | exact Nat.le_refl _ | (simp only []; omega) | (simp; omega)) _ | with_reducible refine Up.alloc ?_ _ | with_reducible refine Up.drew ?_ | refine Up.trans ?_ (by with_reducible assumption)))
        have q0 := HC.out wq U3
        have f0 := HF.out wq U3
        have HO3 := Lib.hid (ownsRow_up HO.out U3)
        have HU3 := Lib.hid (hup.trans U3)
        clear HC HF
        go_wp2
        go_roundw
        case rel => exact ⟨k + 1, by omega, by go_num, HU3.out.set (p := ⟨w1.heap.size, k, none⟩) (Nat.le_refl _) _, by rw [← HM.out, ← HX.out]; exact ownsRow_set HO3.out k _⟩
        case measure => simp [intOf]; omega
      · have e : k = ps.length := by omega
        subst e
        have hall : midS ((ps.map plcT).map bs) ps.length = (ps.map plcT).map bs := by
          have := midS_all ((ps.map plcT).map bs)
          rwa [List.length_map, List.length_map] at this
        rw [hall] at ho
        have cJ := fun wx (h : Up wr wx) => joinS_any w1.heap.size ps.length ps.length (ps.map plcT) 32 wx w1.heap.size (by simp) (by omega) (ownsRow_up ho h) (by have := HLE.out; unfold idxL at this; omega)
        have cD := fun wx => orDash_any (Lib.join (List.map plcT ps) [32]) wx
        go_wp2_with fail
        (with_reducible refine (cJ _ (Up.refl _)).mono ?_); rintro e w2 ⟨rfl, U2⟩
        go_wp2_with fail
        (with_reducible refine (cD _).mono ?_); rintro e w3 ⟨rfl, rfl⟩
        go_wp2
        go_ret
        exact ⟨rfl, (U1.trans hup).trans U2⟩

end Go.Proofs.YtmjpopfacagjhaaDoor
