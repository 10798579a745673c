/- A row of bytes of the call's own that came of a string (its block bears a mark behind its cells): append onto it, reading it; the conversion of a string into such a row. Conditions: as each says. -/
import Derived.Test.YtiiahjnfbhcgmaaGreatDoorWb
import Derived.Test.YtiiahjnfbhcgmaaGreatDoorTree4
import Derived.Lib.ConvBytes
namespace Go.Proofs.YtiiahjnfbhcgmaaGreatDoor
set_option linter.unusedVariables false
set_option linter.unusedSimpArgs false
open Go Go.RowKit

/-- A row of bytes of the call's own; its block may bear a mark behind the cells. -/
def ownM (w : World) (base : Nat) (v : Value) (d : List UInt8) : Prop := ∃ (g cap : Nat) (cur : Array Value) (fz : Nat × Nat), v = .slice (some ⟨g, 0, none⟩) d.length cap ∧ base ≤ g ∧ w.heap[g]? = some (.cells cur 5 fz) ∧ (fz = (0, 0) ∨ cur.size ≤ fz.1) ∧ d.length ≤ cap ∧ cap ≤ maxLen ∧ cur.size = cap ∧ cur.toList.take d.length = cellsU d
theorem ownM.shape {w : World} {base : Nat} {v : Value} {d : List UInt8} (h : ownM w base v d) : ∃ g c, v = .slice (some ⟨g, 0, none⟩) d.length c := by
  obtain ⟨g, cap, cur, fz, rfl, -⟩ := h
  exact ⟨g, cap, rfl⟩
theorem ownM.lt {w : World} {base : Nat} {v : Value} {d : List UInt8} (h : ownM w base v d) : ∀ k, v.ownBlock = some k → base ≤ k ∧ k < w.heap.size := by
  intro k hk
  obtain ⟨g, cap, cur, fz, rfl, h1, h2, -⟩ := h
  simp [Value.ownBlock] at hk
  subst hk
  exact ⟨h1, (Array.getElem?_eq_some_iff.1 h2).1⟩
theorem ownM.kept {w w' : World} {base : Nat} {v : Value} {d : List UInt8} {row : Option Nat} (h : ownM w base v d) (hg : w.grownBy w' row) (hne : v.ownBlock = none ∨ v.ownBlock ≠ row) : ownM w' base v d := by
  obtain ⟨g, cap, cur, fz, rfl, h1, h2, h3⟩ := h
  refine ⟨g, cap, cur, fz, rfl, h1, ?_, h3⟩
  rw [hg.block g (Array.getElem?_eq_some_iff.1 h2).1 (by simpa [Value.ownBlock] using hne)]
  exact h2
theorem ownM.up {w w' : World} {base : Nat} {v : Value} {d : List UInt8} (h : ownM w base v d) (hu : Up w w') : ownM w' base v d := h.kept (up_grownBy hu none) (by obtain ⟨g, c, e⟩ := h.shape; rw [e]; right; simp [Value.ownBlock])
theorem ownM.fr {O : Nat → Prop} {w w' : World} {base : Nat} {v : Value} {d : List UInt8} (h : ownM w base v d) (hf : Fr O w w') (hn : ∀ b, v.ownBlock = some b → ¬ O b) : ownM w' base v d := by
  obtain ⟨g, cap, cur, fz, rfl, h1, h2, h3⟩ := h
  refine ⟨g, cap, cur, fz, rfl, h1, ?_, h3⟩
  exact (hf.block g (Array.getElem?_eq_some_iff.1 h2).1 (hn g rfl)).trans h2
theorem ownM.base {w : World} {base base' : Nat} {v : Value} {d : List UInt8} (h : ownM w base v d) (hb : base' ≤ base) : ownM w base' v d := by
  obtain ⟨g, cap, cur, fz, rfl, h1, h2⟩ := h
  exact ⟨g, cap, cur, fz, rfl, Nat.le_trans hb h1, h2⟩
theorem ownM.cells {w : World} {base : Nat} {v : Value} {d : List UInt8} (h : ownM w base v d) : ∃ g cap, v = .slice (some ⟨g, 0, none⟩) d.length cap ∧ base ≤ g ∧ g < w.heap.size ∧ d.length ≤ cap ∧ cap ≤ maxLen ∧ ∀ i x, d[i]? = some x → w.cell? ⟨g, i, none⟩ = some (.int .u8 x.toNat) := by
  obtain ⟨g, cap, cur, fz, rfl, h1, h2, h3, h4, h5, h6, h7⟩ := h
  refine ⟨g, cap, rfl, h1, (Array.getElem?_eq_some_iff.1 h2).1, h4, h5, fun i x hi => ?_⟩
  have hu : (cellsU d)[i]? = some (.int .u8 x.toNat) := by simp [cellsU, hi]
  rw [← h7, List.getElem?_take] at hu
  split at hu
  · rw [cell_of_row w g i cur 5 fz h2]
    simpa using hu
  · cases hu
/-- Writing cells of a block that bears a mark behind them. -/
theorem run_storeCells_atM (P : Program) (g o : Nat) (t : TypeId) (fz : Nat × Nat) : ∀ (vs : List Value) (i : Nat) (cur : Array Value) (w : World), w.heap[g]? = some (.cells cur t fz) → (fz = (0, 0) ∨ cur.size ≤ fz.1) → o + i + vs.length ≤ cur.size → (∀ v ∈ vs, v.oneCell' = true) →
    (storeCells ⟨g, o, none⟩ vs i).run P w = .ok () (w.setRow g (cur.toList.take (o + i) ++ vs ++ cur.toList.drop (o + i + vs.length)).toArray)
  | [], i, cur, w, hg, _, _, _ => by
    simp only [storeCells, List.append_nil, List.length_nil, Nat.add_zero, List.take_append_drop, Array.toArray_toList]
    rw [setRow_self w g cur t fz hg]
    rfl
  | v :: rest, i, cur, w, hg, hfz, hl, h1 => by
    have hi : o + i < cur.size := by simp at hl; omega
    have hadd : (⟨g, o, none⟩ : Addr).add i = ⟨g, o + i, none⟩ := by unfold Addr.add; split <;> simp_all
    have hcell : w.cell? ⟨g, o + i, none⟩ = some cur[o + i] := by simp [World.cell?, hg, hi]
    have hfro : w.frozen? ⟨g, o + i, none⟩ = false := by
      obtain ⟨lo, hi'⟩ := fz
      simp only [World.frozen?, hg, Bool.and_eq_false_iff, decide_eq_false_iff_not]
      rcases hfz with hfz | hfz
      · simp only [Prod.mk.injEq] at hfz
        right
        omega
      · left
        simp only at hfz
        omega
    have hst : (store ((⟨g, o, none⟩ : Addr).add i) v).run P w = .ok () (w.setRow g (cur.setIfInBounds (o + i) v)) := by
      rw [hadd, run_store P w _ v _ (h1 v (by simp)), hcell]
      simp [hfro, setCell_eq_setRow w g (o + i) cur t fz v hg]
    have ih := run_storeCells_atM P g o t fz rest (i + 1) (cur.setIfInBounds (o + i) v) (w.setRow g (cur.setIfInBounds (o + i) v)) (setRow_heap w g cur _ t _ hg) (by simpa using hfz) (by simp at hl ⊢; omega) (fun x hx => h1 x (by simp [hx]))
    simp only [storeCells, Sem.run_bind, hst, Result.andThen_ok, ih, setRow_setRow]
    congr 3
    have e := list_seg_step cur.toList (o + i) v rest (by simp at hl ⊢; omega)
    simpa [Array.toList_setIfInBounds, Nat.add_assoc] using e
/-- The law of append: one byte. -/
theorem run_appendM (w : World) (base : Nat) (ty : TypeId) (v : Value) (d : List UInt8) (hown : ownM w base v d) (ad : Addr) (c : Nat) (b : UInt8) (hnew : w.cell? ad = some (.int .u8 b.toNat)) (had : ad.spot = none) (hl : d.length ≤ 1048576) (hbase : base ≤ w.heap.size) :
    ∃ v' w', (Builtin.append_ #[22, 22] ty #[v, .slice (some ad) 1 c]).run Tryz.prog w = .ok v' w' ∧ ownM w' base v' (d ++ [b]) ∧ w.grownBy w' v.ownBlock ∧ NewOr w.heap.size v v' := by
  obtain ⟨j0, hj, hy0, hy1, hy2⟩ := info_parts infoByte
  obtain ⟨g, cap, cur, fz, rfl, hbg, hg, hfz, hnc, hcm, hcs, htake⟩ := hown
  have hdl : (d ++ [b]).length = d.length + 1 := by simp
  have hcu : cellsU (d ++ [b]) = cellsU d ++ [.int .u8 b.toNat] := by simp [cellsU]
  have hcul : (cellsU d).length = d.length := by simp [cellsU]
  have hadd0 : ad.add 0 = ad := by
    obtain ⟨x, y, z⟩ := ad
    simp at had
    subst had
    simp [Addr.add]
  have hnews : ∀ j u, [Value.int .u8 b.toNat][j]? = some u → w.cell? (ad.add j) = some u := by
    intro j u hu
    cases j with
    | zero => simp at hu; subst hu; rw [hadd0]; exact hnew
    | succ j => simp at hu
  by_cases hroom : d.length + 1 ≤ cap
  · have hf := run_firstCells_some (P := Tryz.prog) w j0.size 1 ad 1 c [.int .u8 b.toNat] (by rw [hy1]; rfl) hnews
    have hst := run_storeCells_atM Tryz.prog g (d.length * j0.size) 5 fz [.int .u8 b.toNat] 0 cur w hg hfz (by rw [hy1]; simp; omega) (by intro u hu; simp at hu; subst hu; rfl)
    simp only [Nat.add_zero] at hst
    have hr : (Builtin.append_ #[22, 22] ty #[.slice (some ⟨g, 0, none⟩) d.length cap, .slice (some ad) 1 c]).run Tryz.prog w = .ok (.slice (some ⟨g, 0, none⟩) (d.length + 1) cap) (w.setRow g (cur.toList.take (d.length * j0.size) ++ [Value.int .u8 b.toNat] ++ cur.toList.drop (d.length * j0.size + [Value.int .u8 b.toNat].length)).toArray) := by
      simp [Builtin.append_, run_underlying Tryz.underlying22, sizeOf, typeInfo, hj, Builtin.lenOf, hroom, hf, Addr.add_lit, hst]
    refine ⟨_, _, hr, ⟨g, cap, _, fz, by rw [hdl], hbg, setRow_heap w g cur _ 5 _ hg, ?_, by omega, hcm, ?_, ?_⟩, ⟨rfl, rfl, rfl, by simp, fun k _ hk => setRow_other w g k _ (fun e => hk (by simp [Value.ownBlock, e]))⟩, fun k hk => .inl hk⟩
    · rw [hy1]
      simp only [List.size_toArray, List.length_append, List.length_take, List.length_drop, Array.length_toList, Nat.mul_one, List.length_cons, List.length_nil]
      rcases hfz with hfz | hfz
      · exact .inl hfz
      · right; omega
    · rw [hy1]
      simp only [List.size_toArray, List.length_append, List.length_take, List.length_drop, Array.length_toList, Nat.mul_one, List.length_cons, List.length_nil]
      omega
    · rw [hy1, Nat.mul_one, htake, hcu]
      have : (d ++ [b]).length = (cellsU d ++ [Value.int .u8 b.toNat]).length := by rw [hdl, List.length_append, hcul]; rfl
      rw [this]
      exact List.take_left
  · have hcu1 : ∀ j u, (cellsU d)[j]? = some u → w.cell? ((⟨g, 0, none⟩ : Addr).add j) = some u := by
      intro j u hu
      have hadd : (⟨g, 0, none⟩ : Addr).add j = ⟨g, j, none⟩ := by unfold Addr.add; split <;> simp_all
      rw [hadd, cell_of_row w g j cur 5 fz hg]
      rw [← htake, List.getElem?_take] at hu
      split at hu
      · simpa using hu
      · cases hu
    have hr := run_append_grow (P := Tryz.prog) w 22 ty 5 j0 (.int .u8 0) Tryz.underlying22 hj hy0 ⟨g, 0, none⟩ d.length cap (cellsU d) (by rw [hy1, hcul, Nat.mul_one]) hcu1 ad 1 c [.int .u8 b.toNat] (by rw [hy1]; rfl) hnews (by omega) (by omega) (by rw [hy2]; exact growslice_fits (by omega) (by omega))
    have hge := grownCap_ge w (d.length + 1) cap 5
    have hcm2 : grownCap w (d.length + 1) cap 5 ≤ maxLen := grownCap_le_maxLen w (d.length + 1) cap 5 (by unfold maxLen; omega)
    refine ⟨_, _, hr, ⟨w.heap.size, _, _, (0, 0), by rw [hdl], hbase, heap_alloc_new w.drew _, .inl rfl, by omega, hcm2, ?_, ?_⟩, ⟨rfl, rfl, rfl, by simp, fun k hk _ => heap_alloc_old w.drew _ hk⟩, fun k hk => ?_⟩
    · have hz1 : (Value.int IntKind.u8 0).cells.size = 1 := rfl
      simp only [Array.size_append, List.size_toArray, size_zeroCells, hz1, hcul, List.length_cons, List.length_nil]
      omega
    · simp only [Array.toList_append, List.append_assoc]
      rw [hcu]
      have : (d ++ [b]).length = (cellsU d ++ [Value.int .u8 b.toNat]).length := by rw [hdl, List.length_append, hcul]; rfl
      rw [this, ← List.append_assoc]
      exact List.take_left
    · right
      simp [Value.ownBlock] at hk
      omega
theorem wpList_appendM {ops : Array Oper} {rest : List Oper} {o : Oper} {a : Act} {w : World} {Q : Exit → Act → World → Prop} (hgd : o.guard = none) (s x : Operand) (ho : o.op = .call { callee := .builtin .append, args := #[s, x], argTypes := #[22, 22] })
    (base : Nat) (v : Value) (d : List UInt8) (hs : a.eval s = v) (hown : ownM w base v d) (ad : Addr) (c : Nat) (b : UInt8) (hx : a.eval x = .slice (some ad) 1 c) (hnew : w.cell? ad = some (.int .u8 b.toNat)) (had : ad.spot = none) (hl : d.length ≤ 1048576) (hbase : base ≤ w.heap.size)
    (h : ∀ v' w', ownM w' base v' (d ++ [b]) → w.grownBy w' v.ownBlock → NewOr w.heap.size v v' → wpList Tryz.prog ops Q rest (a.put o.dst v') w') : wpList Tryz.prog ops Q (o :: rest) a w :=
  wpList_plain hgd fun _ hK => by
    obtain ⟨v', w', hr, h2, h3, h4⟩ := run_appendM w base o.type v d hown ad c b hnew had hl hbase
    unfold Oper.wp execOp
    simp only [ho, resolve, invoke, builtin, Sem.run_bind, Sem.run_pure, Result.andThen_ok, List.map_toArray, List.map_cons, List.map_nil, hs, hx, hr]
    exact hK _ _ (h v' w' h2 h3 h4)

/-- A string's bytes in a row of their own. -/
theorem run_strBytes (w : World) (d : List UInt8) : (convert 9 22 (.string (bs d))).run Tryz.prog w = .ok (.slice (some ⟨w.heap.size, 0, none⟩) d.length (grownCap w d.length 0 5)) (Lib.bytesWorld w 5 (bs d)) := by
  have h := Lib.run_convert_string_bytes (P := Tryz.prog) w 9 22 5 (bs d) Tryz.underlying9 Tryz.underlying22 Tryz.underlying5
  rw [bs_size] at h
  exact h
theorem up_bytes (w : World) (d : List UInt8) : Up w (Lib.bytesWorld w 5 (bs d)) :=
  ⟨by simp [Lib.bytesWorld, World.freeze, World.alloc, World.drew, -World.alloc_eq, -World.drew_eq], by simp [Lib.bytesWorld, World.freeze, World.alloc, World.drew, -World.alloc_eq, -World.drew_eq], by simp [Lib.bytesWorld, World.freeze, World.alloc, World.drew, -World.alloc_eq, -World.drew_eq], by rw [Lib.bytesWorld_size]; omega, fun b hb => Lib.bytesWorld_at_old w _ _ b hb⟩
theorem own_bytes (w : World) (d : List UInt8) (hd : d.length ≤ maxLen) {base : Nat} (hb : base ≤ w.heap.size) : ownM (Lib.bytesWorld w 5 (bs d)) base (.slice (some ⟨w.heap.size, 0, none⟩) d.length (grownCap w d.length 0 5)) d := by
  have hge := grownCap_ge w d.length 0 5
  have hcm := grownCap_le_maxLen w d.length 0 5 hd
  have hsz : (Lib.bytesCells w 5 (bs d)).size = grownCap w d.length 0 5 := by
    unfold Lib.bytesCells
    rw [Array.size_append, Array.size_map, Array.size_replicate, bs_size]
    have : (bs d).data.size = d.length := bs_size d
    omega
  refine ⟨w.heap.size, _, _, _, rfl, hb, Lib.bytesWorld_at_new w 5 (bs d), .inr (Nat.le_refl _), hge, hcm, hsz, ?_⟩
  unfold Lib.bytesCells
  rw [Array.toList_append, Array.toList_map]
  have e : (List.map (fun b : UInt8 => Value.int .u8 b.toNat) (bs d).data.toList) = cellsU d := by rw [bs_data]; rfl
  have e2 : (List.map (fun b : UInt8 => Value.int .u8 b.toNat) (bs d).data.toList).length = d.length := by rw [e]; simp [cellsU]
  rw [← e2, List.take_left, e]

end Go.Proofs.YtiiahjnfbhcgmaaGreatDoor
