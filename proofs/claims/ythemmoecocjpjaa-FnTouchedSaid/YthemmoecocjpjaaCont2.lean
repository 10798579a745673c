/- Walks of the functions that add up the sizes of blocks. Conditions: the blocks are those of a string (accOk), and can be read. -/
import Derived.Test.YthemmoecocjpjaaCont0
namespace Go.Proofs.Ythemmoecocjpjaa
set_option linter.unusedVariables false
set_option linter.unusedSimpArgs false
open Go.RowKit

theorem sizeSum_take {l : List BlkD} {k : Nat} (h : k < l.length) : sizeSum (l.take (k + 1)) = sizeSum (l.take k) + l[k].size := by
  rw [List.take_succ_eq_append_getElem h, sizeSum_snoc]
theorem accOk_take {l : List BlkD} (h : accOk l) (k : Nat) : accOk (l.take k) :=
  ⟨by have := h.1; simp; omega, fun b hb => h.2 b (List.mem_of_mem_take hb)⟩

/-- The cells of block number k. -/
theorem blk_cells {w : World} {l : List BlkD} {g : Nat} (hc : ∀ j u, (cellsB l)[j]? = some u → w.cell? ⟨g, j, none⟩ = some u) {k : Nat} (hk : k < l.length) :
    w.cell? ⟨g, k * 4, none⟩ = some (.int .i64 l[k].num) ∧ w.cell? ⟨g, k * 4 + 1, none⟩ = some (.bool l[k].raw) ∧ w.cell? ⟨g, k * 4 + 2, none⟩ = some (.int .i64 l[k].size) ∧ w.cell? ⟨g, k * 4 + 3, none⟩ = some (.string l[k].body) := by
  have hb : l[k]? = some l[k] := List.getElem?_eq_getElem hk
  exact ⟨hc _ _ (cellsB_get l k 0 _ hb (by omega)), hc _ _ (cellsB_get l k 1 _ hb (by omega)), hc _ _ (cellsB_get l k 2 _ hb (by omega)), hc _ _ (cellsB_get l k 3 _ hb (by omega))⟩

def RelS (l : List BlkD) (w : World) (t i : Value) (wr : World) : Prop := ∃ k : Nat, k ≤ l.length ∧ i = .int .i64 k ∧ t = .int .i64 (sizeSum (l.take k)) ∧ Up w wr

set_option maxRecDepth 100000 in
set_option maxHeartbeats 1000000 in
theorem sizeI_any (l : List BlkD) (v : Value) (base : Nat) (w : World) (hown : w.ownsRow base 24 4 v l.length (cellsB l)) (hok : accOk l) :
    Calls Try.prog 66 #[v] w (Same (.int .i64 (sizeSum l)) w) := by
  have hl40 := hok.1
  obtain ⟨a, cap, rfl, hm, hsome⟩ := ownsRow_any hown
  clear hown
  go_enter Try.func66, Try.ntmps66
  go_wp2
  go_loopw [3, 8] (fun t i wr => RelS l w t i wr) (fun _ i _ => l.length - (intOf i).toNat)
  case atStart => exact ⟨0, Nat.zero_le _, rfl, rfl, Up.refl _⟩
  case round =>
    obtain ⟨k, hk, rfl, rfl, hup⟩ := hrel
    obtain ⟨hb1, hb2⟩ := sizeSum_bd (accOk_take hok k)
    have hlen : (l.take k).length ≤ 40 := by simp; omega
    have hb3 : sizeSum (l.take k) ≤ 2560 := by omega
    clear hb2 hlen
    by_cases hlt : k < l.length
    · obtain ⟨g, rfl, hnc, hcm, hbg, hg, hcells⟩ := hsome (by omega)
      obtain ⟨c0, c1, c2, c3⟩ := blk_cells (w := wr) (fun j u hj => (hup.cell (p := ⟨g, j, none⟩) hg).trans (hcells j u hj)) hlt
      obtain ⟨hs1, hs2, _⟩ := (hok.2 l[k] (List.getElem_mem hlt))
      have HS : Hid (sizeSum (l.take (k + 1)) = sizeSum (l.take k) + l[k].size) := sizeSum_take hlt
      clear hcells
      go_wp2
      go_roundw
      case rel => exact ⟨k + 1, by omega, by go_num, by rw [HS.out], (hup.alloc _)⟩
      case measure => simp [intOf]; omega
    · have e : Hid (l.take k = l) := List.take_of_length_le (by omega)
      go_wp2
      go_ret
      exact ⟨ret_int (by rw [e.out]), hup⟩

set_option maxRecDepth 100000 in
set_option maxHeartbeats 1000000 in
theorem sizeS_any (l : List BlkD) (v : Value) (base : Nat) (w : World) (hown : w.ownsRow base 24 4 v l.length (cellsB l)) (hok : accOk l) :
    Calls Try.prog 100 #[v] w (Same (.int .i64 (sizeSum l)) w) := by
  have hl40 := hok.1
  obtain ⟨a, cap, rfl, hm, hsome⟩ := ownsRow_any hown
  clear hown
  go_enter Try.func100, Try.ntmps100
  go_wp2
  go_loopw [3, 4] (fun t i wr => RelS l w t i wr) (fun _ i _ => l.length - (intOf i).toNat)
  case atStart => exact ⟨0, Nat.zero_le _, rfl, rfl, Up.refl _⟩
  case round =>
    obtain ⟨k, hk, rfl, rfl, hup⟩ := hrel
    obtain ⟨hb1, hb2⟩ := sizeSum_bd (accOk_take hok k)
    have hlen : (l.take k).length ≤ 40 := by simp; omega
    have hb3 : sizeSum (l.take k) ≤ 2560 := by omega
    clear hb2 hlen
    by_cases hlt : k < l.length
    · obtain ⟨g, rfl, hnc, hcm, hbg, hg, hcells⟩ := hsome (by omega)
      obtain ⟨c0, c1, c2, c3⟩ := blk_cells (w := wr) (fun j u hj => (hup.cell (p := ⟨g, j, none⟩) hg).trans (hcells j u hj)) hlt
      obtain ⟨hs1, hs2, _⟩ := (hok.2 l[k] (List.getElem_mem hlt))
      have HS : Hid (sizeSum (l.take (k + 1)) = sizeSum (l.take k) + l[k].size) := sizeSum_take hlt
      clear hcells
      go_wp2
      go_roundw
      case rel => exact ⟨k + 1, by omega, by go_num, by rw [HS.out], hup⟩
      case measure => simp [intOf]; omega
    · have e : Hid (l.take k = l) := List.take_of_length_le (by omega)
      go_wp2
      go_ret
      exact ⟨ret_int (by rw [e.out]), hup⟩

end Go.Proofs.Ythemmoecocjpjaa
