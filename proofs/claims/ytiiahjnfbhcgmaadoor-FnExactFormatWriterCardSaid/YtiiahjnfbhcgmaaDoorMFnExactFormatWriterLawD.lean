/- Texts joined into one: the walks and laws that the last text leans on. Conditions: as each says. -/
import Derived.Test.YtiiahjnfbhcgmaaDoorMFnExactFormatWriterLawB
import Derived.Test.YtiiahjnfbhcgmaaDoorMFnExactFormatWriterLawC
import Derived.Test.YtiiahjnfbhcgmaaDoorMFnExactFormatWriterLawA
import Derived.Test.YtiiahjnfbhcgmaaDoorShelf

set_option linter.unusedVariables false
set_option linter.unusedSimpArgs false
/- FormatIndex of the program. Conditions: the places can be read, at most 2^20; the table of powers of ten lies where it was laid. -/
namespace Go.Proofs.YtiiahjnfbhcgmaaDoor
set_option linter.unusedVariables false
set_option linter.unusedSimpArgs false
open Go Go.RowKit

theorem up_grow (w : World) (n : Nat) (os : Array Obj) : Up w (Go.Sort.grow (w.drewN n) os) :=
  ⟨rfl, rfl, rfl, by simp [Go.Sort.grow], fun i hi => by
    show ((w.drewN n).heap ++ os)[i]? = _
    rw [Array.getElem?_append_left (by show i < w.heap.size; omega)]
    rfl⟩
theorem itoa_any (n : Int) (w : World) (hT : Tab w) (h0 : -9223372036854775808 ≤ n) (h1 : n ≤ 9223372036854775807) :
    Calls Tryd.prog 29 #[.int .i64 n] w (Same (.string (bs (Lib.itoa n))) w) :=
  (Tryd.strconv_Itoa n h0 h1 w hT).mono fun e w' ⟨he, k, os, hw⟩ => ⟨he, by subst hw; exact up_grow w k os⟩
set_option maxRecDepth 100000 in
set_option maxHeartbeats 1000000 in
theorem orDash_any (l : List UInt8) (w : World) : Calls Tryd.prog 30  #[.string (bs l)] w (fun e w' => e = .returned (.string (bs (someL l))) ∧ w = w') := by
  by_cases h : l = []
  · subst h
    have hb : (bs []).toList.isEmpty = true := by rw [Lib.toList_data, bs_data]; rfl
    go_enter Tryd.func30, Tryd.ntmps30
    go_wp2
    go_ret
    exact ⟨rfl, rfl⟩
  · have e : Hid (someL l = l) := if_neg h
    have hb : (bs l).toList.isEmpty = false := by rw [Lib.toList_data, bs_data]; cases l with | nil => exact absurd rfl h | cons _ _ => rfl
    rw [e.out]
    go_enter Tryd.func30, Tryd.ntmps30
    go_wp2
    go_ret
    exact ⟨rfl, rfl⟩
/-- Join of texts that have been made. -/
theorem joinS_any (g n cap : Nat) (xs : List (List UInt8)) (sep : UInt8) (w : World) (base : Nat) (hn : n = xs.length) (hb : n ≤ 1048576) (h : w.ownsRow base 9 1 (.slice (some ⟨g, 0, none⟩) n cap) n (cellsS (xs.map bs))) (hlen : (Lib.join xs [sep]).length ≤ 140737488355328) :
    Calls Tryd.prog 31 #[.slice (some ⟨g, 0, none⟩) n cap, .string ⟨#[sep]⟩] w (Same (.string (bs (Lib.join xs [sep]))) w) := by
  show Calls Tryd.prog 31 #[.slice (some ⟨g, 0, none⟩) n cap, .string (bs [sep])] w _
  subst hn
  have hl := (h.lt g rfl).2
  have hc : xs.length ≤ cap ∧ cap ≤ maxLen := by
    rcases ownsRow_read h with ⟨e, -⟩ | ⟨g', cap', e, q1, q2, -⟩
    · cases e
    · cases e; exact ⟨q1, q2⟩
  have hm : (xs.map bs).map (fun b => b.data.toList) = xs := by
    rw [List.map_map]
    conv => rhs; rw [← List.map_id xs]
    exact List.map_congr_left fun x _ => by simp [bs_data]
  have hx : (xs.map bs).length = xs.length := by simp
  have := Tryd.strings_Join g 0 cap (xs.map bs) (bs [sep]) w (fun j x hj => by
    rw [Nat.zero_add]
    exact ownsRow_cell h (by simp only [cellsS, List.getElem?_map, hj]; rfl)) hl (by rw [hx]; exact by omega) (by rw [hx]; exact hc.1) (by rw [hm]; simpa [bs_data] using hlen)
  rw [hx] at this
  refine this.mono fun e w' ⟨he, hw⟩ => ⟨?_, hw⟩
  rw [he, hm]
  simp [bs_data, bs]

end Go.Proofs.YtiiahjnfbhcgmaaDoor

/- The program's parseNumber. Conditions: the listed variables lie as they were laid. -/
namespace Go.Proofs.YtiiahjnfbhcgmaaDoor
set_option linter.unusedVariables false
set_option linter.unusedSimpArgs false
open Go Go.RowKit

/-- What the parsing walks ask of the world: the table of powers of ten, bytealg.MaxLen, strconv.ErrSyntax, strconv.ErrRange. -/
structure Lay (w : World) : Prop where
  tab : Tab w
  max : ∃ m, w.cell? ⟨0, 0, none⟩ = some (.int .i64 m)
  es : ∃ te pe, w.cell? ⟨2, 0, none⟩ = some (.iface te pe)
  er : ∃ te pe, w.cell? ⟨3, 0, none⟩ = some (.iface te pe)
theorem cell_up {w w' : World} {a : Addr} {v : Value} (h : w.cell? a = some v) (hu : Up w w') : w'.cell? a = some v := (hu.cell (World.block_lt_of_cell? _ _ h)).trans h
theorem Lay.up {w w' : World} (h : Lay w) (hu : Up w w') : Lay w' := by
  obtain ⟨h1, ⟨m, h2⟩, ⟨a, b, h3⟩, ⟨c, d, h4⟩⟩ := h
  exact ⟨h1.up hu, ⟨m, cell_up h2 hu⟩, ⟨a, b, cell_up h3 hu⟩, ⟨c, d, cell_up h4 hu⟩⟩
end Go.Proofs.YtiiahjnfbhcgmaaDoor

