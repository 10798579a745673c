/- Walk of the reference's l5Seek. Conditions: the places can be read. -/
import Derived.Test.YtmjpopfacagjhaaDoorSeek1
namespace Go.Proofs.YtmjpopfacagjhaaDoor
set_option linter.unusedVariables false
set_option linter.unusedSimpArgs false
open Go.RowKit

/-- The last of the first k places that does not begin behind an offset, or -1. -/
def seekK (ps : List PlaceD) (o : Int) : Nat → Int
  | 0 => -1
  | k + 1 => if ((ps[k]?).map fun p => decide (p.start ≤ o)) = some true then k else seekK ps o k
theorem seekK_hit {ps : List PlaceD} {o : Int} {k : Nat} (h : k < ps.length) (hp : ps[k].start ≤ o) : seekK ps o (k + 1) = k := by
  rw [seekK, if_pos (by rw [List.getElem?_eq_getElem h]; simp [hp])]
theorem seekK_miss {ps : List PlaceD} {o : Int} {k : Nat} (h : k < ps.length) (hp : ¬ ps[k].start ≤ o) : seekK ps o (k + 1) = seekK ps o k := by
  rw [seekK, if_neg (by rw [List.getElem?_eq_getElem h]; simp; omega)]

def RelK (ps : List PlaceD) (o : Int) (w : World) (f i : Value) (wr : World) : Prop := ∃ k : Nat, k ≤ ps.length ∧ i = .int .i64 k ∧ f = .int .i64 (seekK ps o k) ∧ Up w wr

set_option maxRecDepth 100000 in
set_option maxHeartbeats 1000000 in
theorem l5Seek_any (ps : List PlaceD) (v : Value) (base : Nat) (o : Int) (w : World) (hown : w.ownsRow base 34 2 v ps.length (cellsP ps)) (hl : ps.length ≤ 1048576) :
    Calls Tryd.prog 26 #[v, .int .i64 o] w (Same (.int .i64 (seekK ps o ps.length)) w) := by
  obtain ⟨a, ca, rfl, hm, -⟩ := ownsRow_any hown
  go_enter Tryd.func26, Tryd.ntmps26
  go_wp2
  go_loopw [5, 6] (fun f i wr => RelK ps o w f i wr) (fun _ i _ => ps.length - (intOf i).toNat)
  case atStart => exact ⟨0, Nat.zero_le _, rfl, rfl, Up.refl _⟩
  case round =>
    obtain ⟨k, hk, rfl, rfl, hup⟩ := hrel
    by_cases hlt : k < ps.length
    · obtain ⟨g, rfl, hc1, hc2, -, hg⟩ := ownsRow_slot hown (by omega)
      obtain ⟨c0, c1⟩ := plc_cells' (read_cells (ownsRow_up hown hup)) hlt
      by_cases hp : ps[k].start ≤ o
      · have HS := Lib.hid (seekK_hit hlt hp)
        go_wp2
        go_roundw
        case rel => exact ⟨k + 1, by omega, by go_num, by rw [HS.out], hup⟩
        case measure => simp [intOf]; omega
      · have HS := Lib.hid (seekK_miss hlt hp)
        go_wp2
        go_roundw
        case rel => exact ⟨k + 1, by omega, by go_num, by rw [HS.out], hup⟩
        case measure => simp [intOf]; omega
    · have e : k = ps.length := by omega
      subst e
      go_wp2
      go_ret
      exact ⟨rfl, hup⟩

/-- What a place must be at its turn. -/
def plcB (ps : List PlaceD) (i : Nat) : Bool := match ps[i]? with
  | none => false
  | some p => decide (0 ≤ p.place ∧ p.place ≤ 4000 ∧ 0 ≤ p.start ∧ p.start ≤ 2000) && (if i = 0 then decide (p.place = 0 ∧ p.start = 0) else match ps[i - 1]? with
    | none => false
    | some q => decide (q.place < p.place ∧ q.start < p.start))
theorem plcB_zero {ps : List PlaceD} (h : 0 < ps.length) : plcB ps 0 = decide (ps[0].place = 0 ∧ ps[0].start = 0) := by
  unfold plcB
  rw [List.getElem?_eq_getElem h]
  simp only [if_true]
  rw [Bool.eq_iff_iff]; simp; omega
theorem plcB_succ {ps : List PlaceD} {k : Nat} (h : k + 1 < ps.length) : plcB ps (k + 1) = decide ((0 ≤ ps[k + 1].place ∧ ps[k + 1].place ≤ 4000 ∧ 0 ≤ ps[k + 1].start ∧ ps[k + 1].start ≤ 2000) ∧ ps[k].place < ps[k + 1].place ∧ ps[k].start < ps[k + 1].start) := by
  unfold plcB
  rw [List.getElem?_eq_getElem h, Nat.add_sub_cancel, List.getElem?_eq_getElem (by omega : k < ps.length)]
  simp only [Nat.succ_ne_zero, if_false]
  rw [Bool.eq_iff_iff]; simp
def validP (ps : List PlaceD) : Bool := decide (ps.length ≤ 40) && (List.range ps.length).all (plcB ps)
theorem validP_no {ps : List PlaceD} {i : Nat} (h : i < ps.length) (hn : plcB ps i = false) : validP ps = false := by
  have : (List.range ps.length).all (plcB ps) = false := by
    rw [List.all_eq_false]; exact ⟨i, List.mem_range.2 h, by simp [hn]⟩
  unfold validP; rw [this, Bool.and_false]
theorem validP_len {ps : List PlaceD} (h : ¬ ps.length ≤ 40) : validP ps = false := by
  unfold validP; rw [decide_eq_false h, Bool.false_and]
theorem validP_yes {ps : List PlaceD} (h : ps.length ≤ 40) (hh : ∀ i, i < ps.length → plcB ps i = true) : validP ps = true := by
  unfold validP; rw [decide_eq_true h, Bool.true_and, List.all_eq_true]
  exact fun i hi => hh i (List.mem_range.1 hi)

end Go.Proofs.YtmjpopfacagjhaaDoor
