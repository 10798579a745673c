/- Texts joined into one: the walks and laws that the last text leans on. Conditions: as each says. -/
import Derived.Test.YtekogcjdaolcbaaGreatDoorMFnWriterTextLawK
import Derived.Test.YtekogcjdaolcbaaGreatDoorTie
import Derived.Test.YtekogcjdaolcbaaGreatDoorCards
import Derived.Lib.LaidTab
import Derived.Lib.ItoaNum
import Derived.LaidMore
import Derived.MakeChecks
import Derived.Stop.LaidErr
import Derived.Test.YtekogcjdaolcbaaGreatDoorMFnWriterTextLawE
import Derived.Test.YtekogcjdaolcbaaGreatDoorMFnWriterTextLawH

set_option linter.unusedVariables false
set_option linter.unusedSimpArgs false
/- The package-level variables that these rows list: what the door's own heap holds, and what the walks take from it. Conditions: none. -/
namespace Go.Proofs.YtekogcjdaolcbaaGreatDoor
open Go
abbrev Tab (w : World) : Prop := Lib.TabIs Tryz.prog w "internal/strconv.uint64pow10" .u64 Lib.pow10Tab
theorem pow10_data : (Rows.laid_internal_strconv_uint64pow10 : DataW Unit) = Lib.tabData .u64 Lib.pow10Tab := by kernel_rfl
theorem Tab.up {w w' : World} (h : Tab w) (hu : Up w w') : Tab w' := by
  unfold Tab Lib.TabIs World.var? at *
  cases hg : Tryz.prog.globalNamed "internal/strconv.uint64pow10" with
  | none => rw [hg] at h; simp at h
  | some g =>
    rw [hg] at h
    simp only [Option.bind_some] at h ⊢
    have hlt : g < w.heap.size := by
      rcases Nat.lt_or_ge g w.heap.size with h' | h'
      · exact h'
      · rw [Array.getElem?_eq_none h'] at h; simp at h
    rw [hu.block g hlt]
    exact h
end Go.Proofs.YtekogcjdaolcbaaGreatDoor

/- FormatIndex of the program. Conditions: the places can be read, at most 2^20; the table of powers of ten lies where it was laid. -/
namespace Go.Proofs.YtekogcjdaolcbaaGreatDoor
open Go Go.RowKit
theorem up_grow (w : World) (n : Nat) (os : Array Obj) : Up w (Go.Sort.grow (w.drewN n) os) :=
  ⟨rfl, rfl, rfl, by simp [Go.Sort.grow], fun i hi => by
    show ((w.drewN n).heap ++ os)[i]? = _
    rw [Array.getElem?_append_left (by show i < w.heap.size; omega)]
    rfl⟩
theorem itoa_any (n : Int) (w : World) (hT : Tab w) (h0 : -9223372036854775808 ≤ n) (h1 : n ≤ 9223372036854775807) :
    Calls Tryz.prog 80 #[.int .i64 n] w (Same (.string (bs (Lib.itoa n))) w) :=
  (Tryz.strconv_Itoa n h0 h1 w hT).mono fun e w' ⟨he, k, os, hw⟩ => ⟨he, by subst hw; exact up_grow w k os⟩
set_option maxRecDepth 100000 in
set_option maxHeartbeats 1000000 in
theorem orDash_any (l : List UInt8) (w : World) : Calls Tryz.prog 55  #[.string (bs l)] w (fun e w' => e = .returned (.string (bs (someL l))) ∧ w = w') := by
  by_cases h : l = []
  · subst h
    have hb : (bs []).toList.isEmpty = true := by rw [Lib.toList_data, bs_data]; rfl
    go_enter Tryz.func55, Tryz.ntmps55
    go_wp2
    go_ret
    exact ⟨rfl, rfl⟩
  · have e : Hid (someL l = l) := if_neg h
    have hb : (bs l).toList.isEmpty = false := by rw [Lib.toList_data, bs_data]; cases l with | nil => exact absurd rfl h | cons _ _ => rfl
    rw [e.out]
    go_enter Tryz.func55, Tryz.ntmps55
    go_wp2
    go_ret
    exact ⟨rfl, rfl⟩
theorem joinS_any (g n cap : Nat) (xs : List (List UInt8)) (sep : UInt8) (w : World) (base : Nat) (hn : n = xs.length) (hb : n ≤ 1048576) (h : w.ownsRow base 9 1 (.slice (some ⟨g, 0, none⟩) n cap) n (cellsS (xs.map bs))) (hlen : (Lib.join xs [sep]).length ≤ 140737488355328) :
    Calls Tryz.prog 53 #[.slice (some ⟨g, 0, none⟩) n cap, .string ⟨#[sep]⟩] w (Same (.string (bs (Lib.join xs [sep]))) w) := by
  show Calls Tryz.prog 53 #[.slice (some ⟨g, 0, none⟩) n cap, .string (bs [sep])] w _
  subst hn
  have hl := (h.lt g rfl).2
  have hc : xs.length ≤ cap ∧ cap ≤ maxLen := by
    rcases ownsRow_read h with ⟨e, -⟩ | ⟨g', cap', e, q1, q2, -⟩
    · cases e
    · cases e; exact ⟨q1, q2⟩
  have hm : (xs.map bs).map (fun b => b.data.toList) = xs := by
    rw [List.map_map]
    conv => rhs; rw [← List.map_id xs]
    exact List.map_congr_left fun x _ => by simp [bs_data]
  have hx : (xs.map bs).length = xs.length := by simp
  have := Tryz.strings_Join g 0 cap (xs.map bs) (bs [sep]) w (fun j x hj => by
    rw [Nat.zero_add]
    exact ownsRow_cell h (by simp only [cellsS, List.getElem?_map, hj]; rfl)) hl (by rw [hx]; exact by omega) (by rw [hx]; exact hc.1) (by rw [hm]; simpa [bs_data] using hlen)
  rw [hx] at this
  refine this.mono fun e w' ⟨he, hw⟩ => ⟨?_, hw⟩
  rw [he, hm]
  simp [bs_data, bs]
end Go.Proofs.YtekogcjdaolcbaaGreatDoor

/- The program's parseNumber. Conditions: the listed variables lie as they were laid. -/
namespace Go.Proofs.YtekogcjdaolcbaaGreatDoor
open Go Go.RowKit
structure Lay (w : World) : Prop where
  tab : Tab w
  max : ∃ m, w.cell? ⟨0, 0, none⟩ = some (.int .i64 m)
  es : ∃ te pe, w.cell? ⟨2, 0, none⟩ = some (.iface te pe)
  er : ∃ te pe, w.cell? ⟨3, 0, none⟩ = some (.iface te pe)
theorem cell_up {w w' : World} {a : Addr} {v : Value} (h : w.cell? a = some v) (hu : Up w w') : w'.cell? a = some v := (hu.cell (World.block_lt_of_cell? _ _ h)).trans h
theorem Lay.up {w w' : World} (h : Lay w) (hu : Up w w') : Lay w' := by
  obtain ⟨h1, ⟨m, h2⟩, ⟨a, b, h3⟩, ⟨c, d, h4⟩⟩ := h
  exact ⟨h1.up hu, ⟨m, cell_up h2 hu⟩, ⟨a, b, cell_up h3 hu⟩, ⟨c, d, cell_up h4 hu⟩⟩
def numP (l : List UInt8) : Option Int := match Lib.atoiAll l with
  | .ok v => if Lib.itoa v = l then some v else none
  | _ => none
theorem atoi_any (l : List UInt8) (w : World) (hL : Lay w) (hl : l.length ≤ 1048576) :
    Calls Tryz.prog 134 #[.string (bs l)] w (fun e w' => ∃ v u, e = .returned (.tuple #[.int .i64 v, u]) ∧ Up w w' ∧ (Lib.atoiAll l = .ok v ∧ u = .nilIface ∨ (∀ v', Lib.atoiAll l ≠ .ok v') ∧ ∃ t p, u = .iface t (.pointer (some p)))) := by
  have hd : (bs l).data.toList = l := by simp [bs_data]
  have hz := bs_size l
  cases h : Lib.atoiAll l
  · rename_i v
    refine (Tryz.strconv_Atoi_ok (bs l) (by omega) v (by rw [hd]; exact h) w).mono fun e w' ⟨he, hw⟩ => ⟨v, _, he, ?_, .inl ⟨rfl, rfl⟩⟩
    rcases hw with rfl | ⟨t, rfl⟩
    · exact Up.refl _
    · exact Lib.bytesWorld_below w _ t
  · obtain ⟨te, pe, hs⟩ := hL.es
    exact (Any.strconv_Atoi_syntax Tryz.laysC172 (bs l) (by omega) (by rw [hd]; exact h) _ w hs (.inr ⟨te, pe, rfl⟩)).mono fun e w' ⟨N, he, _, _, hw⟩ => ⟨_, _, he, hw, .inr ⟨(fun v' h' => by cases h'), _, _, rfl⟩⟩
  · obtain ⟨te, pe, hs⟩ := hL.er
    exact (Tryz.strconv_Atoi_range (bs l) (by omega) (by rw [hd]; exact h) _ w hs (.inr ⟨te, pe, rfl⟩)).mono fun e w' ⟨N, he, _, _, hw⟩ => ⟨_, _, he, hw, .inr ⟨(fun v' h' => by cases h'), _, _, rfl⟩⟩
set_option maxRecDepth 100000 in
set_option maxHeartbeats 1000000 in
theorem pnum_any (l : List UInt8) (w : World) (hL : Lay w) (hl : l.length ≤ 1048576) :
    Calls Tryz.prog 81  #[.string (bs l)] w (fun e w' => e = .returned (.tuple #[.int .i64 ((numP l).getD 0), .bool (numP l).isSome]) ∧ Up w w') := by
  have cA := fun wx (hx : Up w wx) => atoi_any l wx (hL.up hx) hl
  have HT := Lib.hid hL.tab
  clear hL
  go_enter Tryz.func81, Tryz.ntmps81
  go_wp2_with fail
  (with_reducible refine (cA _ (by (repeat (first | with_reducible exact Up.refl _ | with_reducible assumption | with_reducible refine Up.set ?_ (by first | exact Nat.le_refl _ | (simp only []; omega) | (simp; omega)) _ | with_reducible refine Up.alloc ?_ _ | with_reducible refine Up.drew ?_ | refine Up.trans ?_ (by with_reducible assumption))))).mono ?_); rintro e w1 ⟨v, u, rfl, U1, hvu⟩
  rcases hvu with ⟨h, rfl⟩ | ⟨h, t, p, rfl⟩
  · have hb := Lib.atoiAll_bounds h
    have cI := fun wx (hx : Up w wx) => itoa_any v wx (HT.out.up hx) hb.1 hb.2
    by_cases he : Lib.itoa v = l
    · have hq : Hid (numP l = some v) := by unfold Hid numP; rw [h]; exact if_pos he
      subst he
      clear h
      go_wp2_with (go_at_call 80; (with_reducible refine (cI _ (by (repeat (first | with_reducible exact Up.refl _ | with_reducible assumption | with_reducible refine Up.set ?_ (by first | exact Nat.le_refl _ | (simp only []; omega) | (simp; omega)) _ | with_reducible refine Up.alloc ?_ _ | with_reducible refine Up.drew ?_ | refine Up.trans ?_ (by with_reducible assumption))))).mono ?_); rintro e w2 ⟨rfl, U2⟩)
      all_goals ((try simp only [Exit.inBlock, Exit.then]); refine bodyPost_ret (v := _) (by simp [results, Tryz.results81, go_sem]; rfl) rfl ?_)
      all_goals exact ⟨by rw [hq.out]; rfl, by (repeat (first | with_reducible exact Up.refl _ | with_reducible assumption | with_reducible refine Up.set ?_ (by first | exact Nat.le_refl _ | (simp only []; omega) | (simp; omega)) _ | with_reducible refine Up.alloc ?_ _ | with_reducible refine Up.drew ?_ | refine Up.trans ?_ (by with_reducible assumption)))⟩
    · have hq : Hid (numP l = none) := by unfold Hid numP; rw [h]; exact if_neg he
      have hne : ((bs (Lib.itoa v)).toList == (bs l).toList) = false := by rw [Lib.toList_data, Lib.toList_data, bs_data, bs_data]; simpa using he
      clear h
      go_wp2_with (go_at_call 80; (with_reducible refine (cI _ (by (repeat (first | with_reducible exact Up.refl _ | with_reducible assumption | with_reducible refine Up.set ?_ (by first | exact Nat.le_refl _ | (simp only []; omega) | (simp; omega)) _ | with_reducible refine Up.alloc ?_ _ | with_reducible refine Up.drew ?_ | refine Up.trans ?_ (by with_reducible assumption))))).mono ?_); rintro e w2 ⟨rfl, U2⟩)
      all_goals ((try simp only [Exit.inBlock, Exit.then]); refine bodyPost_ret (v := _) (by simp [results, Tryz.results81, go_sem]; rfl) rfl ?_)
      all_goals exact ⟨by rw [hq.out]; rfl, by (repeat (first | with_reducible exact Up.refl _ | with_reducible assumption | with_reducible refine Up.set ?_ (by first | exact Nat.le_refl _ | (simp only []; omega) | (simp; omega)) _ | with_reducible refine Up.alloc ?_ _ | with_reducible refine Up.drew ?_ | refine Up.trans ?_ (by with_reducible assumption)))⟩
  · have hq : Hid (numP l = none) := by
      unfold Hid numP
      cases h' : Lib.atoiAll l
      · exact absurd h' (h _)
      · rfl
      · rfl
    clear h
    go_wp2
    all_goals ((try simp only [Exit.inBlock, Exit.then]); refine bodyPost_ret (v := _) (by simp [results, Tryz.results81, go_sem]; rfl) rfl ?_)
    all_goals exact ⟨by rw [hq.out]; rfl, by (repeat (first | with_reducible exact Up.refl _ | with_reducible assumption | with_reducible refine Up.set ?_ (by first | exact Nat.le_refl _ | (simp only []; omega) | (simp; omega)) _ | with_reducible refine Up.alloc ?_ _ | with_reducible refine Up.drew ?_ | refine Up.trans ?_ (by with_reducible assumption)))⟩
end Go.Proofs.YtekogcjdaolcbaaGreatDoor

