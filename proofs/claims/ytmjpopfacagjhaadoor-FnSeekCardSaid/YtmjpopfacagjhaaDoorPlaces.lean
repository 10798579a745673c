/- Walk of the reference's l5Places. Conditions: the blocks are those of a string (accOk) and can be read. -/
import Derived.Test.YtmjpopfacagjhaaDoorBa
namespace Go.Proofs.YtmjpopfacagjhaaDoor
set_option linter.unusedVariables false
set_option linter.unusedSimpArgs false
open Go.RowKit

theorem infoPlace : (Tryd.prog.info? 34).map (fun i => (i.zero, i.size, i.bytes)) = some (some (.agg #[.int .i64 0, .int .i64 0]), 2, 16) := by kernel_rfl

structure PlaceD where
  place : Int
  start : Int
def plcC (p : PlaceD) : List Value := [.int .i64 p.place, .int .i64 p.start]
def cellsP (l : List PlaceD) : List Value := l.flatMap plcC
theorem cellsP_length (l : List PlaceD) : (cellsP l).length = l.length * 2 := by
  induction l with
  | nil => rfl
  | cons b l ih => simp only [cellsP, List.flatMap_cons, List.length_append, List.length_cons] at ih ⊢; simp only [plcC, List.length_cons, List.length_nil]; omega
theorem cellsP_snoc (l : List PlaceD) (b : PlaceD) : cellsP (l ++ [b]) = cellsP l ++ plcC b := by simp [cellsP]
theorem cellsP_get (l : List PlaceD) (i j : Nat) (b : PlaceD) (hb : l[i]? = some b) (hj : j < 2) : (cellsP l)[i * 2 + j]? = (plcC b)[j]? := by
  induction l generalizing i with
  | nil => simp at hb
  | cons a l ih =>
    have e : cellsP (a :: l) = plcC a ++ cellsP l := rfl
    rw [e]
    cases i with
    | zero =>
      simp at hb; subst hb
      rw [List.getElem?_append_left (by simp [plcC]; omega)]
      simp
    | succ i =>
      rw [List.getElem?_append_right (by simp [plcC]; omega)]
      rw [← ih i (by simpa using hb)]
      congr 1
      simp [plcC]; omega
theorem plcC_one (b : PlaceD) : ∀ u ∈ plcC b, u.oneCell' = true := by
  intro u hu
  simp only [plcC, List.mem_cons, List.not_mem_nil, or_false] at hu
  rcases hu with rfl | rfl <;> rfl

def bytesSum (l : List BlkD) : Int := (l.map fun b => 10 + (b.body.size : Int)).sum
theorem bytesSum_take {l : List BlkD} {k : Nat} (h : k < l.length) : bytesSum (l.take (k + 1)) = bytesSum (l.take k) + 10 + l[k].body.size := by
  rw [List.take_succ_eq_append_getElem h]; simp only [bytesSum, List.map_append, List.sum_append, List.map_cons, List.map_nil, List.sum_cons, List.sum_nil]; omega
theorem bytesSum_bd {l : List BlkD} (h : accOk l) : 0 ≤ bytesSum l ∧ bytesSum l ≤ 74 * l.length := by
  replace h := h.2
  induction l with
  | nil => simp [bytesSum]
  | cons b l ih =>
    have := h b (List.mem_cons_self ..)
    have := ih fun b hb => h b (List.mem_cons_of_mem _ hb)
    simp only [bytesSum, List.map_cons, List.sum_cons, List.length_cons] at *
    omega
/-- The first k places of blocks. -/
def placesK (l : List BlkD) (k : Nat) : List PlaceD := (List.range k).map fun i => ⟨bytesSum (l.take i), sizeSum (l.take i)⟩
theorem placesK_length (l : List BlkD) (k : Nat) : (placesK l k).length = k := by simp [placesK]
theorem placesK_succ (l : List BlkD) (k : Nat) : placesK l (k + 1) = placesK l k ++ [⟨bytesSum (l.take k), sizeSum (l.take k)⟩] := by simp [placesK, List.range_succ]
theorem placesK_get (l : List BlkD) (n k : Nat) (h : k < n) : (placesK l n)[k]? = some ⟨bytesSum (l.take k), sizeSum (l.take k)⟩ := by simp [placesK, h]
theorem plc_cells {w : World} {l : List PlaceD} {g : Nat} (hc : ∀ j u, (cellsP l)[j]? = some u → w.cell? ⟨g, j, none⟩ = some u) {k : Nat} {p : PlaceD} (hk : l[k]? = some p) :
    w.cell? ⟨g, k * 2, none⟩ = some (.int .i64 p.place) ∧ w.cell? ⟨g, k * 2 + 1, none⟩ = some (.int .i64 p.start) :=
  ⟨hc _ _ (cellsP_get l k 0 _ hk (by omega)), hc _ _ (cellsP_get l k 1 _ hk (by omega))⟩

/-- Rows of different element types lie in different blocks. -/
def RelP (l : List BlkD) (w : World) (v a f i : Value) (wr : World) : Prop := ∃ k : Nat, k ≤ l.length ∧ i = .int .i64 k ∧ a = .int .i64 (bytesSum (l.take k)) ∧ f = .int .i64 (sizeSum (l.take k)) ∧ wr.ownsRow w.heap.size 34 2 v k (cellsP (placesK l k)) ∧ Up w wr

set_option maxRecDepth 100000 in
set_option maxHeartbeats 1000000 in
theorem placesS_any (l : List BlkD) (vb : Value) (base : Nat) (w : World) (hb : w.ownsRow base 94 4 vb l.length (cellsB l)) (hok : accOk l) :
    Calls Tryd.prog 41 #[vb] w (fun e w' => ∃ v, e = .returned v ∧ w'.ownsRow w.heap.size 34 2 v l.length (cellsP (placesK l l.length)) ∧ Up w w') := by
  obtain ⟨i0, hi, hz0, hz1, hz2⟩ := info_parts infoPlace
  have hl40 := hok.1
  obtain ⟨a, cap, rfl, hm, hsome⟩ := ownsRow_any hb
  clear hb
  go_enter Tryd.func41, Tryd.ntmps41
  go_wp2
  go_loopw [3, 4, 5, 6] (fun v a f i wr => RelP l w v a f i wr) (fun _ _ _ i _ => l.length - (intOf i).toNat)
  case atStart => exact ⟨0, Nat.zero_le _, rfl, rfl, rfl, World.ownsRow_made _ _ _ (Nat.le_refl _) (by unfold maxLen; omega) rfl, (Up.refl _).alloc _⟩
  case round =>
    obtain ⟨k, hk, rfl, rfl, rfl, hown, hup⟩ := hrel
    have hsz := hup.size
    have hlen : (l.take k).length ≤ 40 := by simp; omega
    obtain ⟨hb1, hb2⟩ := sizeSum_bd (accOk_take hok k)
    obtain ⟨hd1, hd2⟩ := bytesSum_bd (accOk_take hok k)
    have hb3 : sizeSum (l.take k) ≤ 2560 := by omega
    have hd3 : bytesSum (l.take k) ≤ 2960 := by omega
    clear hb2 hd2 hlen
    by_cases hlt : k < l.length
    · obtain ⟨g, rfl, hnc, hcm, hbg, hg, hcells⟩ := hsome (by omega)
      obtain ⟨hs1, hs2, hs3⟩ := (hok.2 l[k] (List.getElem_mem hlt))
      have HS : Hid (sizeSum (l.take (k + 1)) = sizeSum (l.take k) + l[k].size) := sizeSum_take hlt
      have HD : Hid (bytesSum (l.take (k + 1)) = bytesSum (l.take k) + 10 + l[k].body.size) := bytesSum_take hlt
      have HP : Hid (placesK l (k + 1) = placesK l k ++ [⟨bytesSum (l.take k), sizeSum (l.take k)⟩]) := placesK_succ l k
      have hCC : ∀ w' : World, Up w w' → _ := fun w' hu => blk_cells (w := w') (fun j u hj => (hu.cell (p := ⟨g, j, none⟩) hg).trans (hcells j u hj)) hlt
      clear hcells
      go_wp2_with (at_builtin; refine wpList_append_own _ rfl _ _ 25 rfl w.heap.size 34 i0 (.agg #[.int .i64 0, .int .i64 0]) 2 16 Tryd.underlying25 hi hz0 hz1 hz2 rfl (by decide) _ _ _ rfl (hown.alloc _) ⟨wr.heap.size, 0, none⟩ 1 1 (plcC ⟨bytesSum (l.take k), sizeSum (l.take k)⟩) rfl rfl (new_cells (plcC ⟨bytesSum (l.take k), sizeSum (l.take k)⟩) _ rfl) (plcC_one _) (by unfold maxLen; omega) (by omega) (by simp; omega) ?_; rintro v2 w2 hown2 hgr2 -; have U2 := (hup.alloc _).grown hgr2 (fun x hx => (hown.lt x hx).1); obtain ⟨c0, c1, c2, c3⟩ := hCC _ U2)
      go_roundw
      case rel => exact ⟨k + 1, by omega, by go_num, by rw [HD.out], by rw [HS.out], by rw [HP.out, cellsP_snoc]; exact hown2, U2⟩
      case measure => simp [intOf]; omega
    · have e : k = l.length := by omega
      subst e
      go_wp2
      go_ret
      exact ⟨_, rfl, hown, hup⟩

end Go.Proofs.YtmjpopfacagjhaaDoor
