/- Texts joined into one: the walks and laws that the last text leans on. Conditions: as each says. -/
import Derived.Test.YtgbakgaegldomaaMWriteAllLawD
import Derived.Test.YtgbakgaegldomaaBa

/- Walks of the laws' toPair, toPairS, toKnown, toWriter: a law's writer as the program's. Conditions: the pairs can be read. -/
namespace Go.Proofs.Ytgbakgaegldomaa
set_option linter.unusedVariables false
set_option linter.unusedSimpArgs false
open Go Go.RowKit

set_option maxRecDepth 100000 in
set_option maxHeartbeats 1000000 in
theorem toPair_any (x y : Int) (w : World) :
    Calls Try.prog 101  #[.agg #[.int .i64 x, .int .i64 y]] w (Same (.agg #[.int .i64 x, .int .i64 y]) w) := by
  go_enter Try.func101, Try.ntmps101
  go_wp2
  refine bodyPost_ret (v := .agg #[.int .i64 x, .int .i64 y]) (by simp [results, Try.results101, go_sem]; try rfl) rfl ⟨rfl, ?_⟩
  (repeat (first | with_reducible exact Up.refl _ | with_reducible assumption | with_reducible refine Up.set ?_ (by first | exact Nat.le_refl _ | (simp only []; omega) | (simp; omega)) _ | with_reducible refine Up.alloc ?_ _ | with_reducible refine Up.drew ?_ | refine Up.trans ?_ (by with_reducible assumption)))

/-- The first k pairs, then zeros. -/
def midPr (ps : List PairD) (k : Nat) : List PairD := ps.take k ++ List.replicate (ps.length - k) ⟨0, 0⟩
theorem midPr_zero (ps : List PairD) : midPr ps 0 = List.replicate ps.length ⟨0, 0⟩ := by unfold midPr; simp
theorem midPr_all (ps : List PairD) : midPr ps ps.length = ps := by unfold midPr; simp
theorem cellsPr_app (a b : List PairD) : cellsPr (a ++ b) = cellsPr a ++ cellsPr b := by unfold cellsPr; rw [List.flatMap_append]
theorem midPr_step (ps : List PairD) (k : Nat) (h : k < ps.length) : ((cellsPr (midPr ps k)).set (k * 2) (.int .i64 ps[k].pre)).set (k * 2 + 1) (.int .i64 ps[k].byt) = cellsPr (midPr ps (k + 1)) := by
  have hl : (cellsPr (ps.take k)).length = k * 2 := by rw [cellsPr_length, List.length_take]; omega
  have e1 : midPr ps k = ps.take k ++ (⟨0, 0⟩ :: List.replicate (ps.length - (k + 1)) ⟨0, 0⟩) := by
    unfold midPr; rw [← List.replicate_succ]; congr 2; omega
  have e2 : midPr ps (k + 1) = ps.take k ++ (ps[k] :: List.replicate (ps.length - (k + 1)) ⟨0, 0⟩) := by
    unfold midPr
    rw [show ps.take (k + 1) = ps.take k ++ [ps[k]] from (List.take_append_getElem h).symm, List.append_assoc]
    rfl
  rw [e1, e2, cellsPr_app, cellsPr_app, List.set_append_right _ _ (by omega), hl, List.set_append_right _ _ (by omega), hl]
  congr 1
  rw [Nat.sub_self, show k * 2 + 1 - k * 2 = 1 by omega]
  rfl
theorem midPr_at0 {ps : List PairD} {k : Nat} (h : k < ps.length) : ∃ u v, (cellsPr (midPr ps k))[k * 2]? = some (.int .i64 u) ∧ (cellsPr (midPr ps k))[k * 2 + 1]? = some (.int .i64 v) := by
  have hl : (cellsPr (ps.take k)).length = k * 2 := by rw [cellsPr_length, List.length_take]; omega
  have e1 : midPr ps k = ps.take k ++ (⟨0, 0⟩ :: List.replicate (ps.length - (k + 1)) ⟨0, 0⟩) := by
    unfold midPr; rw [← List.replicate_succ]; congr 2; omega
  refine ⟨0, 0, ?_, ?_⟩
  · rw [e1, cellsPr_app, List.getElem?_append_right (by omega), hl, Nat.sub_self]; rfl
  · rw [e1, cellsPr_app, List.getElem?_append_right (by omega), hl, show k * 2 + 1 - k * 2 = 1 by omega]; rfl
theorem cells_rep (n : Nat) : cellsPr (List.replicate n ⟨0, 0⟩) = List.replicate (n * 2) (Value.int .i64 0) := by
  induction n with
  | zero => rfl
  | succ n ih =>
    rw [List.replicate_succ]
    show prC ⟨0, 0⟩ ++ cellsPr (List.replicate n ⟨0, 0⟩) = _
    rw [ih, show (n + 1) * 2 = n * 2 + 1 + 1 by omega, List.replicate_succ, List.replicate_succ]
    rfl
theorem made_list2 (n : Nat) : (madeCells #[Value.int .i64 0, Value.int .i64 0] (n * 2)).toList.take (n * 2) = List.replicate (n * 2) (Value.int .i64 0) := by
  apply List.ext_getElem
  · simp [madeCells]
  · intro i h1 h2
    rcases Nat.mod_two_eq_zero_or_one i with h | h <;> simp [madeCells, h]
theorem made_pairs (w : World) (n : Nat) (hn : n ≤ maxLen) : ownPr (w.alloc (.cells (madeCells #[.int .i64 0, .int .i64 0] (n * 2)) 127)) w.heap.size (.slice (some ⟨w.heap.size, 0, none⟩) n n) (List.replicate n ⟨0, 0⟩) := by
  have hl : (List.replicate n (⟨0, 0⟩ : PairD)).length = n := List.length_replicate
  unfold ownPr
  rw [hl]
  refine ⟨by rw [cellsPr_length, hl], .inr ⟨w.heap.size, n, _, rfl, Nat.le_refl _, (MapKept.heap_alloc w _).1, Nat.le_refl _, hn, ?_, ?_⟩⟩
  · simp [madeCells]
  · rw [made_list2, cells_rep]

def RelTp (ps : List PairD) (w : World) (i : Value) (wr : World) : Prop := ∃ k : Nat, k ≤ ps.length ∧ i = .int .i64 k ∧ Up w wr ∧ wr.ownsRow w.heap.size 127 2 (.slice (some ⟨w.heap.size, 0, none⟩) ps.length ps.length) ps.length (cellsPr (midPr ps k))

set_option maxRecDepth 100000 in
set_option maxHeartbeats 4000000 in
theorem toPairS_any (v : Value) (ps : List PairD) (lo : Nat) (w : World) (hr : RdP lo w v ps) (hn : ps.length ≤ 1048576) :
    Calls Try.prog 58  #[v] w (fun e w' => ∃ v', e = .returned v' ∧ ownPr w' w.heap.size v' ps ∧ Up w w') := by
  obtain ⟨i0, hi0, hz0, hz1, hz2⟩ := info_parts infoPair
  have hmk : ∀ (w : World) (n : Nat), n ≤ 1048576 → (Instr.makeSlice 31 (.int .i64 (n : Int)) (.int .i64 (n : Int))).run Try.prog w = .ok (.slice (some ⟨w.heap.size, 0, none⟩) n n) (w.alloc (.cells (madeCells #[.int .i64 0, .int .i64 0] (n * 2)) 127)) := fun w n hn => by
    have := run_make (P := Try.prog) w 31 127 i0 _ Try.underlying31 hi0 hz0 .i64 .i64 n n (by omega) (Int.le_refl _) (by rw [hz2]; omega) (by omega)
    rw [hz1] at this
    simpa [Value.cells] using this
  have hmk' := fun w => hmk w ps.length hn
  clear hmk hz0 hz1 hz2 hi0
  obtain ⟨a, cap, rfl, hc1, hc2, hc3, hsome⟩ := hr
  unfold maxLen at hc2
  go_enter Try.func58, Try.ntmps58
  go_wp2_with fail
  go_loopw [4] (fun i wr => RelTp ps w i wr) (fun i _ => ps.length - (intOf i).toNat)
  case atStart => exact ⟨0, Nat.zero_le _, rfl, (Up.refl _).alloc _, by rw [midPr_zero]; have := made_pairs w ps.length (by unfold maxLen; omega); unfold ownPr at this; rwa [List.length_replicate] at this⟩
  case round =>
    obtain ⟨j, hj, rfl, hup, ho⟩ := hrel
    by_cases hlt : j < ps.length
    · obtain ⟨b, off, rfl, hlo, hbl, hcells⟩ := hsome (by omega)
      obtain ⟨q0, q1⟩ := hcells j ps[j] (List.getElem?_eq_getElem hlt)
      clear hcells
      have p0 := (hup.cell (p := ⟨b, off + j * 2, none⟩) hbl).trans q0
      have p1 := (hup.cell (p := ⟨b, off + j * 2 + 1, none⟩) hbl).trans q1
      have hrl : w.heap.size < wr.heap.size := (ho.lt _ rfl).2
      obtain ⟨u0, v0, hu0, hv0⟩ := midPr_at0 hlt
      have d0 := ownsRow_cell ho hu0
      have d1 := ownsRow_cell ho hv0
      have f0 := ownsRow_free ho (j * 2)
      have f1 := ownsRow_free ho (j * 2 + 1)
      have cE := fun wq => toPair_any ps[j].pre ps[j].byt wq
      have hbw : b < wr.heap.size := Nat.lt_of_lt_of_le hbl hup.size
      clear hu0 hv0
      go_wp2_with (first | (go_at_call 101; (with_reducible refine (cE _).mono ?_); rintro e w1 ⟨rfl, U1⟩; have B1 := bcell U1; have Z1 := U1.size; (try simp at Z1); (try rw [Nat.add_one_le_iff] at Z1)) | fail)
      have ho1 := ownsRow_up ho U1
      go_roundw
      case rel => exact ⟨j + 1, by omega, by go_num, ((hup.trans U1).set (p := ⟨w.heap.size, j * 2, none⟩) (Nat.le_refl _) _).set (p := ⟨w.heap.size, j * 2 + 1, none⟩) (Nat.le_refl _) _, by rw [← midPr_step ps j hlt]; exact ownsRow_set (ownsRow_set ho1 (j * 2) _) (j * 2 + 1) _⟩
      case measure => simp [intOf]; omega
    · have e : j = ps.length := by omega
      subst e
      go_wp2_with fail
      go_ret
      rw [midPr_all] at ho
      exact ⟨_, rfl, ho, hup⟩

set_option maxRecDepth 100000 in
set_option maxHeartbeats 4000000 in
theorem toKnown_any (k : KnD) (v : Value) (lo : Nat) (w : World) (hr : RdP lo w v k.ps) (hn : k.ps.length ≤ 1048576) :
    Calls Try.prog 22  #[kV k v] w (KnPost k w) := by
  have cS := fun wq => toSet_any k.set.ord k.set.lit k.set.most wq
  have cP := fun wq h => toPairS_any v k.ps lo wq h hn
  have hrt := fun (wq : World) (hu : Up w wq) => hr.up hu
  obtain ⟨a, cap, rfl, -⟩ := id hr
  clear hr
  simp only [kV]
  go_enter Try.func22, Try.ntmps22
  go_wp2_with (first | (go_at_call 57; (with_reducible refine (cS _).mono ?_); rintro e w1 ⟨rfl, U1⟩; have B1 := bcell U1; have Z1 := U1.size; (try simp at Z1); (try rw [Nat.add_one_le_iff] at Z1)) | fail)
  have hK3 : KnAt (w.heap.size + 1 + 1) ⟨k.set, [], 0, 0⟩ (.slice none 0 0) (((w1.setCell ⟨w.heap.size + 1 + 1, 0, none⟩ (.int .i64 k.set.ord)).setCell ⟨w.heap.size + 1 + 1, 1, none⟩ (.int .i64 k.set.lit)).setCell ⟨w.heap.size + 1 + 1, 2, none⟩ (.int .i64 k.set.most)) := by
    have h0 : w1.heap[w.heap.size + 1 + 1]? = some (.cells #[.int .i64 0, .int .i64 0, .int .i64 0, .slice none 0 0, .int .i64 0, .int .i64 0] 33) := box_up U1 (alloc3c w _ _ _)
    have h1 := box_set (box_set (box_set h0 0 (.int .i64 k.set.ord)) 1 (.int .i64 k.set.lit)) 2 (.int .i64 k.set.most)
    unfold KnAt
    simpa using h1
  have hne1 : w.heap.size ≠ w.heap.size + 1 + 1 := by omega
  have hne2 : w.heap.size + 1 ≠ w.heap.size + 1 + 1 := by omega
  have hK1 : w1.heap[w.heap.size]? = some (.cells #[.int .i64 k.set.ord, .int .i64 k.set.lit, .int .i64 k.set.most, .slice a k.ps.length cap, .int .i64 k.base, .int .i64 k.last] 26) := box_up U1 (box_up (((Up.refl _).alloc _).alloc _) (MapKept.heap_alloc w _).1)
  have hK2 : KnAt (w.heap.size + 1) ⟨⟨0, 0, 0⟩, [], 0, 0⟩ (.slice none 0 0) w1 := box_up U1 (box_up ((Up.refl _).alloc _) (alloc2 w _ _))
  have hK1 : (((w1.setCell ⟨w.heap.size + 1 + 1, 0, none⟩ (.int .i64 k.set.ord)).setCell ⟨w.heap.size + 1 + 1, 1, none⟩ (.int .i64 k.set.lit)).setCell ⟨w.heap.size + 1 + 1, 2, none⟩ (.int .i64 k.set.most)).heap[w.heap.size]? = _ := (Below.heap_setCell _ _ _ _ hne1).trans ((Below.heap_setCell _ _ _ _ hne1).trans ((Below.heap_setCell _ _ _ _ hne1).trans hK1))
  have hK2 : KnAt (w.heap.size + 1) ⟨⟨0, 0, 0⟩, [], 0, 0⟩ (.slice none 0 0) (((w1.setCell ⟨w.heap.size + 1 + 1, 0, none⟩ (.int .i64 k.set.ord)).setCell ⟨w.heap.size + 1 + 1, 1, none⟩ (.int .i64 k.set.lit)).setCell ⟨w.heap.size + 1 + 1, 2, none⟩ (.int .i64 k.set.most)) := (Below.heap_setCell _ _ _ _ hne2).trans ((Below.heap_setCell _ _ _ _ hne2).trans ((Below.heap_setCell _ _ _ _ hne2).trans hK2))
  have hU : Up w (((w1.setCell ⟨w.heap.size + 1 + 1, 0, none⟩ (.int .i64 k.set.ord)).setCell ⟨w.heap.size + 1 + 1, 1, none⟩ (.int .i64 k.set.lit)).setCell ⟨w.heap.size + 1 + 1, 2, none⟩ (.int .i64 k.set.most)) := by (repeat (first | with_reducible exact Up.refl _ | with_reducible assumption | with_reducible refine Up.set ?_ (by first | exact Nat.le_refl _ | (simp only []; omega) | (simp; omega)) _ | with_reducible refine Up.alloc ?_ _ | with_reducible refine Up.drew ?_ | refine Up.trans ?_ (by with_reducible assumption)))
  have hzz : w.heap.size + 3 ≤ (((w1.setCell ⟨w.heap.size + 1 + 1, 0, none⟩ (.int .i64 k.set.ord)).setCell ⟨w.heap.size + 1 + 1, 1, none⟩ (.int .i64 k.set.lit)).setCell ⟨w.heap.size + 1 + 1, 2, none⟩ (.int .i64 k.set.most)).heap.size := by have := U1.size; simp at this; simp [World.setCell]; omega
  clear U1 hne1 hne2
  generalize ((w1.setCell ⟨w.heap.size + 1 + 1, 0, none⟩ (.int .i64 k.set.ord)).setCell ⟨w.heap.size + 1 + 1, 1, none⟩ (.int .i64 k.set.lit)).setCell ⟨w.heap.size + 1 + 1, 2, none⟩ (.int .i64 k.set.most) = W at *
  with_reducible refine (cP _ (hrt _ hU)).mono ?_
  rintro e w2 ⟨v2, rfl, ho2, U2⟩
  obtain ⟨a2, c2, rfl⟩ := ownsRow_shape ho2
  have HO := Lib.hid ho2
  have HU := Lib.hid (hU.trans U2)
  have hz2 := U2.size
  have hA1 := box_up U2 hK1
  have c0 := box_cell hA1 0
  have c1 := box_cell hA1 1
  have c2' := box_cell hA1 2
  have c3 := box_cell hA1 3
  have c4 := box_cell hA1 4
  have c5 := box_cell hA1 5
  simp at c0 c1 c2' c3 c4 c5
  obtain ⟨hb1, q0, q1, q2, q3, q4, q5⟩ := KnAt.cells (box_up U2 hK2)
  obtain ⟨hb2, s0, s1, s2, s3, s4, s5⟩ := KnAt.cells (box_up U2 hK3)
  have hfq := box_free (box_up U2 hK2)
  have hfs := box_free (box_up U2 hK3)
  clear hK1 hK2 hK3 hU U2 ho2 hA1
  go_wp2_with fail
  refine bodyPost_ret (v := kV k (.slice a2 k.ps.length c2)) (by simp [results, Try.results22, go_sem, q0, q1, q2, q3, q4, q5]; try rfl) rfl ?_
  have hlo := fun b e => (HO.out.lt b e).1
  have hn1 : some (w.heap.size + 1) ≠ Value.ownBlock (.slice a2 k.ps.length c2) := fun e => by have := hlo _ e.symm; omega
  have hn2 : some (w.heap.size + 1 + 1) ≠ Value.ownBlock (.slice a2 k.ps.length c2) := fun e => by have := hlo _ e.symm; omega
  refine ⟨.slice a2 k.ps.length c2, rfl, ?_, ?_⟩
  · have ho := ownsRow_base HO.out (show w.heap.size ≤ W.heap.size by omega)
    repeat (first | with_reducible refine ownsRow_setb ?_ hn1 _ _ | with_reducible refine ownsRow_setb ?_ hn2 _ _)
    exact ho
  · have hU := HU.out
    (repeat (first | with_reducible exact Up.refl _ | with_reducible assumption | with_reducible refine Up.set ?_ (by first | exact Nat.le_refl _ | (simp only []; omega) | (simp; omega)) _ | with_reducible refine Up.alloc ?_ _ | with_reducible refine Up.drew ?_ | refine Up.trans ?_ (by with_reducible assumption)))

end Go.Proofs.Ytgbakgaegldomaa

/- Walk of the reference's l5Places. Conditions: the blocks are those of a string (accOk) and can be read. -/
namespace Go.Proofs.Ytgbakgaegldomaa
set_option linter.unusedVariables false
set_option linter.unusedSimpArgs false
open Go.RowKit

structure PlaceD where
  place : Int
  start : Int
end Go.Proofs.Ytgbakgaegldomaa

/- Plain: what WriteData leaves, valid or not, as one value; what szWriter says of the sizes. Conditions: none. -/
namespace Go.Proofs.Ytgbakgaegldomaa
set_option linter.unusedVariables false
set_option linter.unusedSimpArgs false
open Go Go.RowKit

/-- The writer that WriteData hands back, be there one or not. -/
def oWr (o : Option (WrD × List UInt8)) : WrD := (o.map (·.1)).getD wr0
def oBy (o : Option (WrD × List UInt8)) : List UInt8 := (o.map (·.2)).getD []
theorem ownPr_nil (w : World) (base : Nat) : ownPr w base (.slice none 0 0) [] := ⟨by simp [cellsPr], .inl ⟨rfl, rfl⟩⟩
theorem wdP_all {o : Option (WrD × List UInt8)} {w w' : World} {e : Ending} (h : WdPost o w e w') : ∃ v, e = .returned (.tuple #[wrV (oWr o) v, .string (bs (oBy o)), .bool o.isSome]) ∧ ownPr w' w.heap.size v (oWr o).k.ps ∧ Up w w' := by
  cases o with
  | none => exact ⟨.slice none 0 0, h.1, ownPr_nil _ _, h.2⟩
  | some x => obtain ⟨v, he, ho, hu⟩ := h; exact ⟨v, he, ho, hu⟩
end Go.Proofs.Ytgbakgaegldomaa

