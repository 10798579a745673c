/- Texts joined into one: the walks and laws that the last text leans on. Conditions: as each says. -/
import Derived.Test.YtgbakgaegldomaaGreatMFnWriterKnownLawY
import Derived.Test.YtgbakgaegldomaaGreatMFnWriterKnownLawQ
import Derived.Lib.ConvBytes
import Derived.Test.YtgbakgaegldomaaGreatMFnWriterKnownLawN

set_option linter.unusedVariables false
set_option linter.unusedSimpArgs false
/- A row of bytes of the call's own that came of a string (its block bears a mark behind its cells): append onto it, reading it; the conversion of a string into such a row. Conditions: as each says. -/
namespace Go.Proofs.YtgbakgaegldomaaGreat
open Go Go.RowKit
def ownM (w : World) (base : Nat) (v : Value) (d : List UInt8) : Prop := ∃ (g cap : Nat) (cur : Array Value) (fz : Nat × Nat), v = .slice (some ⟨g, 0, none⟩) d.length cap ∧ base ≤ g ∧ w.heap[g]? = some (.cells cur 5 fz) ∧ (fz = (0, 0) ∨ cur.size ≤ fz.1) ∧ d.length ≤ cap ∧ cap ≤ maxLen ∧ cur.size = cap ∧ cur.toList.take d.length = cellsU d
theorem ownM.shape {w : World} {base : Nat} {v : Value} {d : List UInt8} (h : ownM w base v d) : ∃ g c, v = .slice (some ⟨g, 0, none⟩) d.length c := by
  obtain ⟨g, cap, cur, fz, rfl, -⟩ := h
  exact ⟨g, cap, rfl⟩
theorem ownM.lt {w : World} {base : Nat} {v : Value} {d : List UInt8} (h : ownM w base v d) : ∀ k, v.ownBlock = some k → base ≤ k ∧ k < w.heap.size := by
  intro k hk
  obtain ⟨g, cap, cur, fz, rfl, h1, h2, -⟩ := h
  simp [Value.ownBlock] at hk
  subst hk
  exact ⟨h1, (Array.getElem?_eq_some_iff.1 h2).1⟩
theorem ownM.kept {w w' : World} {base : Nat} {v : Value} {d : List UInt8} {row : Option Nat} (h : ownM w base v d) (hg : w.grownBy w' row) (hne : v.ownBlock = none ∨ v.ownBlock ≠ row) : ownM w' base v d := by
  obtain ⟨g, cap, cur, fz, rfl, h1, h2, h3⟩ := h
  refine ⟨g, cap, cur, fz, rfl, h1, ?_, h3⟩
  rw [hg.block g (Array.getElem?_eq_some_iff.1 h2).1 (by simpa [Value.ownBlock] using hne)]
  exact h2
theorem ownM.up {w w' : World} {base : Nat} {v : Value} {d : List UInt8} (h : ownM w base v d) (hu : Up w w') : ownM w' base v d := h.kept (up_grownBy hu none) (by obtain ⟨g, c, e⟩ := h.shape; rw [e]; right; simp [Value.ownBlock])
theorem ownM.fr {O : Nat → Prop} {w w' : World} {base : Nat} {v : Value} {d : List UInt8} (h : ownM w base v d) (hf : Fr O w w') (hn : ∀ b, v.ownBlock = some b → ¬ O b) : ownM w' base v d := by
  obtain ⟨g, cap, cur, fz, rfl, h1, h2, h3⟩ := h
  refine ⟨g, cap, cur, fz, rfl, h1, ?_, h3⟩
  exact (hf.block g (Array.getElem?_eq_some_iff.1 h2).1 (hn g rfl)).trans h2
theorem ownM.base {w : World} {base base' : Nat} {v : Value} {d : List UInt8} (h : ownM w base v d) (hb : base' ≤ base) : ownM w base' v d := by
  obtain ⟨g, cap, cur, fz, rfl, h1, h2⟩ := h
  exact ⟨g, cap, cur, fz, rfl, Nat.le_trans hb h1, h2⟩
theorem ownM.cells {w : World} {base : Nat} {v : Value} {d : List UInt8} (h : ownM w base v d) : ∃ g cap, v = .slice (some ⟨g, 0, none⟩) d.length cap ∧ base ≤ g ∧ g < w.heap.size ∧ d.length ≤ cap ∧ cap ≤ maxLen ∧ ∀ i x, d[i]? = some x → w.cell? ⟨g, i, none⟩ = some (.int .u8 x.toNat) := by
  obtain ⟨g, cap, cur, fz, rfl, h1, h2, h3, h4, h5, h6, h7⟩ := h
  refine ⟨g, cap, rfl, h1, (Array.getElem?_eq_some_iff.1 h2).1, h4, h5, fun i x hi => ?_⟩
  have hu : (cellsU d)[i]? = some (.int .u8 x.toNat) := by simp [cellsU, hi]
  rw [← h7, List.getElem?_take] at hu
  split at hu
  · rw [cell_of_row w g i cur 5 fz h2]
    simpa using hu
  · cases hu
theorem run_storeCells_atM (P : Program) (g o : Nat) (t : TypeId) (fz : Nat × Nat) : ∀ (vs : List Value) (i : Nat) (cur : Array Value) (w : World), w.heap[g]? = some (.cells cur t fz) → (fz = (0, 0) ∨ cur.size ≤ fz.1) → o + i + vs.length ≤ cur.size → (∀ v ∈ vs, v.oneCell' = true) →
    (storeCells ⟨g, o, none⟩ vs i).run P w = .ok () (w.setRow g (cur.toList.take (o + i) ++ vs ++ cur.toList.drop (o + i + vs.length)).toArray)
  | [], i, cur, w, hg, _, _, _ => by
    simp only [storeCells, List.append_nil, List.length_nil, Nat.add_zero, List.take_append_drop, Array.toArray_toList]
    rw [setRow_self w g cur t fz hg]
    rfl
  | v :: rest, i, cur, w, hg, hfz, hl, h1 => by
    have hi : o + i < cur.size := by simp at hl; omega
    have hadd : (⟨g, o, none⟩ : Addr).add i = ⟨g, o + i, none⟩ := by unfold Addr.add; split <;> simp_all
    have hcell : w.cell? ⟨g, o + i, none⟩ = some cur[o + i] := by simp [World.cell?, hg, hi]
    have hfro : w.frozen? ⟨g, o + i, none⟩ = false := by
      obtain ⟨lo, hi'⟩ := fz
      simp only [World.frozen?, hg, Bool.and_eq_false_iff, decide_eq_false_iff_not]
      rcases hfz with hfz | hfz
      · simp only [Prod.mk.injEq] at hfz
        right
        omega
      · left
        simp only at hfz
        omega
    have hst : (store ((⟨g, o, none⟩ : Addr).add i) v).run P w = .ok () (w.setRow g (cur.setIfInBounds (o + i) v)) := by
      rw [hadd, run_store P w _ v _ (h1 v (by simp)), hcell]
      simp [hfro, setCell_eq_setRow w g (o + i) cur t fz v hg]
    have ih := run_storeCells_atM P g o t fz rest (i + 1) (cur.setIfInBounds (o + i) v) (w.setRow g (cur.setIfInBounds (o + i) v)) (setRow_heap w g cur _ t _ hg) (by simpa using hfz) (by simp at hl ⊢; omega) (fun x hx => h1 x (by simp [hx]))
    simp only [storeCells, Sem.run_bind, hst, Result.andThen_ok, ih, setRow_setRow]
    congr 3
    have e := list_seg_step cur.toList (o + i) v rest (by simp at hl ⊢; omega)
    simpa [Array.toList_setIfInBounds, Nat.add_assoc] using e
theorem run_appendM (w : World) (base : Nat) (ty : TypeId) (v : Value) (d : List UInt8) (hown : ownM w base v d) (ad : Addr) (c : Nat) (b : UInt8) (hnew : w.cell? ad = some (.int .u8 b.toNat)) (had : ad.spot = none) (hl : d.length ≤ 1048576) (hbase : base ≤ w.heap.size) :
    ∃ v' w', (Builtin.append_ #[22, 22] ty #[v, .slice (some ad) 1 c]).run Tryz.prog w = .ok v' w' ∧ ownM w' base v' (d ++ [b]) ∧ w.grownBy w' v.ownBlock ∧ NewOr w.heap.size v v' := by
  obtain ⟨j0, hj, hy0, hy1, hy2⟩ := info_parts infoByte
  obtain ⟨g, cap, cur, fz, rfl, hbg, hg, hfz, hnc, hcm, hcs, htake⟩ := hown
  have hdl : (d ++ [b]).length = d.length + 1 := by simp
  have hcu : cellsU (d ++ [b]) = cellsU d ++ [.int .u8 b.toNat] := by simp [cellsU]
  have hcul : (cellsU d).length = d.length := by simp [cellsU]
  have hadd0 : ad.add 0 = ad := by
    obtain ⟨x, y, z⟩ := ad
    simp at had
    subst had
    simp [Addr.add]
  have hnews : ∀ j u, [Value.int .u8 b.toNat][j]? = some u → w.cell? (ad.add j) = some u := by
    intro j u hu
    cases j with
    | zero => simp at hu; subst hu; rw [hadd0]; exact hnew
    | succ j => simp at hu
  by_cases hroom : d.length + 1 ≤ cap
  · have hf := run_firstCells_some (P := Tryz.prog) w j0.size 1 ad 1 c [.int .u8 b.toNat] (by rw [hy1]; rfl) hnews
    have hst := run_storeCells_atM Tryz.prog g (d.length * j0.size) 5 fz [.int .u8 b.toNat] 0 cur w hg hfz (by rw [hy1]; simp; omega) (by intro u hu; simp at hu; subst hu; rfl)
    simp only [Nat.add_zero] at hst
    have hr : (Builtin.append_ #[22, 22] ty #[.slice (some ⟨g, 0, none⟩) d.length cap, .slice (some ad) 1 c]).run Tryz.prog w = .ok (.slice (some ⟨g, 0, none⟩) (d.length + 1) cap) (w.setRow g (cur.toList.take (d.length * j0.size) ++ [Value.int .u8 b.toNat] ++ cur.toList.drop (d.length * j0.size + [Value.int .u8 b.toNat].length)).toArray) := by
      simp [Builtin.append_, run_underlying Tryz.underlying22, sizeOf, typeInfo, hj, Builtin.lenOf, hroom, hf, Addr.add_lit, hst]
    refine ⟨_, _, hr, ⟨g, cap, _, fz, by rw [hdl], hbg, setRow_heap w g cur _ 5 _ hg, ?_, by omega, hcm, ?_, ?_⟩, ⟨rfl, rfl, rfl, by simp, fun k _ hk => setRow_other w g k _ (fun e => hk (by simp [Value.ownBlock, e]))⟩, fun k hk => .inl hk⟩
    · rw [hy1]
      simp only [List.size_toArray, List.length_append, List.length_take, List.length_drop, Array.length_toList, Nat.mul_one, List.length_cons, List.length_nil]
      rcases hfz with hfz | hfz
      · exact .inl hfz
      · right; omega
    · rw [hy1]
      simp only [List.size_toArray, List.length_append, List.length_take, List.length_drop, Array.length_toList, Nat.mul_one, List.length_cons, List.length_nil]
      omega
    · rw [hy1, Nat.mul_one, htake, hcu]
      have : (d ++ [b]).length = (cellsU d ++ [Value.int .u8 b.toNat]).length := by rw [hdl, List.length_append, hcul]; rfl
      rw [this]
      exact List.take_left
  · have hcu1 : ∀ j u, (cellsU d)[j]? = some u → w.cell? ((⟨g, 0, none⟩ : Addr).add j) = some u := by
      intro j u hu
      have hadd : (⟨g, 0, none⟩ : Addr).add j = ⟨g, j, none⟩ := by unfold Addr.add; split <;> simp_all
      rw [hadd, cell_of_row w g j cur 5 fz hg]
      rw [← htake, List.getElem?_take] at hu
      split at hu
      · simpa using hu
      · cases hu
    have hr := run_append_grow (P := Tryz.prog) w 22 ty 5 j0 (.int .u8 0) Tryz.underlying22 hj hy0 ⟨g, 0, none⟩ d.length cap (cellsU d) (by rw [hy1, hcul, Nat.mul_one]) hcu1 ad 1 c [.int .u8 b.toNat] (by rw [hy1]; rfl) hnews (by omega) (by omega) (by rw [hy2]; exact growslice_fits (by omega) (by omega))
    have hge := grownCap_ge w (d.length + 1) cap 5
    have hcm2 : grownCap w (d.length + 1) cap 5 ≤ maxLen := grownCap_le_maxLen w (d.length + 1) cap 5 (by unfold maxLen; omega)
    refine ⟨_, _, hr, ⟨w.heap.size, _, _, (0, 0), by rw [hdl], hbase, heap_alloc_new w.drew _, .inl rfl, by omega, hcm2, ?_, ?_⟩, ⟨rfl, rfl, rfl, by simp, fun k hk _ => heap_alloc_old w.drew _ hk⟩, fun k hk => ?_⟩
    · have hz1 : (Value.int IntKind.u8 0).cells.size = 1 := rfl
      simp only [Array.size_append, List.size_toArray, size_zeroCells, hz1, hcul, List.length_cons, List.length_nil]
      omega
    · simp only [Array.toList_append, List.append_assoc]
      rw [hcu]
      have : (d ++ [b]).length = (cellsU d ++ [Value.int .u8 b.toNat]).length := by rw [hdl, List.length_append, hcul]; rfl
      rw [this, ← List.append_assoc]
      exact List.take_left
    · right
      simp [Value.ownBlock] at hk
      omega
theorem wpList_appendM {ops : Array Oper} {rest : List Oper} {o : Oper} {a : Act} {w : World} {Q : Exit → Act → World → Prop} (hgd : o.guard = none) (s x : Operand) (ho : o.op = .call { callee := .builtin .append, args := #[s, x], argTypes := #[22, 22] })
    (base : Nat) (v : Value) (d : List UInt8) (hs : a.eval s = v) (hown : ownM w base v d) (ad : Addr) (c : Nat) (b : UInt8) (hx : a.eval x = .slice (some ad) 1 c) (hnew : w.cell? ad = some (.int .u8 b.toNat)) (had : ad.spot = none) (hl : d.length ≤ 1048576) (hbase : base ≤ w.heap.size)
    (h : ∀ v' w', ownM w' base v' (d ++ [b]) → w.grownBy w' v.ownBlock → NewOr w.heap.size v v' → wpList Tryz.prog ops Q rest (a.put o.dst v') w') : wpList Tryz.prog ops Q (o :: rest) a w :=
  wpList_plain hgd fun _ hK => by
    obtain ⟨v', w', hr, h2, h3, h4⟩ := run_appendM w base o.type v d hown ad c b hnew had hl hbase
    unfold Oper.wp execOp
    simp only [ho, resolve, invoke, builtin, Sem.run_bind, Sem.run_pure, Result.andThen_ok, List.map_toArray, List.map_cons, List.map_nil, hs, hx, hr]
    exact hK _ _ (h v' w' h2 h3 h4)
theorem run_strBytes (w : World) (d : List UInt8) : (convert 9 22 (.string (bs d))).run Tryz.prog w = .ok (.slice (some ⟨w.heap.size, 0, none⟩) d.length (grownCap w d.length 0 5)) (Lib.bytesWorld w 5 (bs d)) := by
  have h := Lib.run_convert_string_bytes (P := Tryz.prog) w 9 22 5 (bs d) Tryz.underlying9 Tryz.underlying22 Tryz.underlying5
  rw [bs_size] at h
  exact h
theorem up_bytes (w : World) (d : List UInt8) : Up w (Lib.bytesWorld w 5 (bs d)) :=
  ⟨by simp [Lib.bytesWorld, World.freeze, World.alloc, World.drew, -World.alloc_eq, -World.drew_eq], by simp [Lib.bytesWorld, World.freeze, World.alloc, World.drew, -World.alloc_eq, -World.drew_eq], by simp [Lib.bytesWorld, World.freeze, World.alloc, World.drew, -World.alloc_eq, -World.drew_eq], by rw [Lib.bytesWorld_size]; omega, fun b hb => Lib.bytesWorld_at_old w _ _ b hb⟩
theorem own_bytes (w : World) (d : List UInt8) (hd : d.length ≤ maxLen) {base : Nat} (hb : base ≤ w.heap.size) : ownM (Lib.bytesWorld w 5 (bs d)) base (.slice (some ⟨w.heap.size, 0, none⟩) d.length (grownCap w d.length 0 5)) d := by
  have hge := grownCap_ge w d.length 0 5
  have hcm := grownCap_le_maxLen w d.length 0 5 hd
  have hsz : (Lib.bytesCells w 5 (bs d)).size = grownCap w d.length 0 5 := by
    unfold Lib.bytesCells
    rw [Array.size_append, Array.size_map, Array.size_replicate, bs_size]
    have : (bs d).data.size = d.length := bs_size d
    omega
  refine ⟨w.heap.size, _, _, _, rfl, hb, Lib.bytesWorld_at_new w 5 (bs d), .inr (Nat.le_refl _), hge, hcm, hsz, ?_⟩
  unfold Lib.bytesCells
  rw [Array.toList_append, Array.toList_map]
  have e : (List.map (fun b : UInt8 => Value.int .u8 b.toNat) (bs d).data.toList) = cellsU d := by rw [bs_data]; rfl
  have e2 : (List.map (fun b : UInt8 => Value.int .u8 b.toNat) (bs d).data.toList).length = d.length := by rw [e]; simp [cellsU]
  rw [← e2, List.take_left, e]
end Go.Proofs.YtgbakgaegldomaaGreat

/- Plain: all data written in parts and closed is the stream of Compress, and fails exactly if that does (for FnWriteAll). Conditions: what is known is valid, the data is no longer than 2000 bytes. -/
namespace Go.Proofs.YtgbakgaegldomaaGreat
open Go Go.RowKit
def wrdO (w : WrD) (d : List UInt8) : Option (WrD × List UInt8) := if fitsB w.k.set (w.pend ++ d) then some (w.write d) else none
def waO : WrD → List (List UInt8) → List UInt8 → Option (List UInt8)
  | w, [], out => some (out ++ w.close)
  | w, p :: ps, out => match wrdO w p with
    | none => none
    | some r => waO r.1 ps (out ++ r.2)
theorem fitsB_iff {s : SetD} {d : List UInt8} (h : setOk s = true) (hd : d.length ≤ 2000) : fitsB s d = litsL (clr s) d := by
  unfold fitsB
  rw [h, decide_eq_true hd]
  rfl
theorem waO_comp {k0 : KnD} (hk0 : k0.Ok) : ∀ (ps : List (List UInt8)) (w : WrD) (d out : List UInt8), WaInv k0 d w out → w.pend.length ≤ d.length → (∀ b ∈ d, b.toNat < k0.c) → (d ++ ps.flatten).length ≤ 2000 →
    waO w ps out = if litsL (clr k0.set) ps.flatten then some (compL k0 (d ++ ps.flatten)) else none := by
  intro ps
  induction ps with
  | nil =>
    intro w d out h _ hl hd
    rw [List.flatten_nil, List.append_nil] at *
    have : litsL (clr k0.set) [] = true := by first | rfl | simp [litsL]
    rw [this, if_pos rfl, waO, WaInv.fin hk0 hl hd h]
  | cons p ps ih =>
    intro w d out h hp hl hd
    rw [List.flatten_cons] at hd ⊢
    have hd1 : (w.pend ++ p).length ≤ 2000 := by
      rw [List.length_append]
      rw [List.length_append, List.length_append] at hd
      omega
    have hset := h.set
    have hso : setOk w.k.set = true := h.ok.set
    have hfit := fitsB_iff hso hd1
    have hsplit : litsL (clr k0.set) (p ++ ps.flatten) = (litsL (clr k0.set) p && litsL (clr k0.set) ps.flatten) := by simp [litsL]
    have hpl : litsL (clr k0.set) (w.pend ++ p) = litsL (clr k0.set) p := by
      have h1 : litsL (clr k0.set) (w.pend ++ p) = (litsL (clr k0.set) w.pend && litsL (clr k0.set) p) := by simp [litsL]
      have h2 : litsL (clr k0.set) w.pend = true := by
        have := h.lits
        simp only [litsL, List.all_eq_true, decide_eq_true_eq]
        exact this
      rw [h1, h2, Bool.true_and]
    rw [waO]
    unfold wrdO
    rw [hfit, hset, hpl, hsplit]
    cases hlp : litsL (clr k0.set) p
    · rfl
    · have hx : ∀ b ∈ p, b.toNat < k0.c := by
        simp only [litsL, List.all_eq_true, decide_eq_true_eq] at hlp
        exact hlp
      have hN := h.next hk0 hx
      rw [if_pos rfl, Bool.true_and]
      show waO (w.write p).1 ps (out ++ (w.write p).2) = _
      rw [← List.append_assoc]
      refine ih (w.write p).1 (d ++ p) (out ++ (w.write p).2) hN ?_ (fun b hb => (List.mem_append.1 hb).elim (hl b) (hx b)) (by rw [List.append_assoc]; exact hd)
      by_cases hp0 : p = []
      · subst hp0
        have : w.write [] = (w, []) := by unfold WrD.write; rw [if_pos rfl]
        rw [this, List.append_nil]
        exact hp
      · obtain ⟨hok, hos⟩ := WrD.open_ok h.ok
        have hoc : w.open.2.c = k0.c := by unfold KnD.c; rw [hos, hset]
        obtain ⟨-, -, -, -, q, q5⟩ := wrC_end (w.pend ++ p).length w.open.2 (w.pend ++ p) (Nat.le_refl _) hok (fun b hb => by
          rw [hoc]
          exact (List.mem_append.1 hb).elim (h.lits b) (hx b))
        have q5' : w.pend ++ p = q ++ (w.codes p).2.2 := q5
        have hq := congrArg List.length q5'
        have h9 : (q ++ (w.codes p).2.2).length = q.length + (w.codes p).2.2.length := List.length_append
        rw [h9, List.length_append] at hq
        rw [List.length_append]
        have : (w.write p).1.pend = (w.codes p).2.2 := by unfold WrD.write; rw [if_neg hp0]
        rw [this]
        omega
theorem waO_all {k : KnD} (hk : k.Ok) (ps : List (List UInt8)) (hd : ps.flatten.length ≤ 2000) : waO ⟨k, [], [], false⟩ ps [] = compO k ps.flatten := by
  have := waO_comp hk ps ⟨k, [], [], false⟩ [] [] (WaInv.start hk) (Nat.le_refl _) (fun b hb => absurd hb (List.not_mem_nil)) (by simpa using hd)
  rw [this, List.nil_append]
  unfold compO
  rw [fitsB_iff hk.set hd]
end Go.Proofs.YtgbakgaegldomaaGreat

/- Plain: whether a writer is valid, what WriteData makes of a writer of any kind, and the rounds of its loop (for the writers' laws). Conditions: as each says. -/
namespace Go.Proofs.YtgbakgaegldomaaGreat
open Go Go.RowKit
def bitsB (l : List UInt8) : Bool := l.all fun b => decide (b.toNat = 48 ∨ b.toNat = 49)
theorem bitsB_iff {l : List UInt8} : bitsB l = true ↔ isBits l := by
  unfold bitsB isBits
  simp only [List.all_eq_true, decide_eq_true_eq]
def wrsB (w : WrD) : Bool := (w.beg || (decide (w.pend = []) && decide (w.bits = []))) && (decide (w.pend = []) || decide (w.k.longest w.pend = w.pend))
def wrvB (w : WrD) : Bool := validK w.k && (fitsB w.k.set w.pend && ((bitsB w.bits && decide (w.bits.length ≤ 7)) && wrsB w))
theorem wrvB_ok {w : WrD} (h : wrvB w = true) : wrOk w := by
  unfold wrvB wrsB at h
  simp only [Bool.and_eq_true, Bool.or_eq_true, decide_eq_true_eq] at h
  obtain ⟨h1, h2, ⟨h3, h4⟩, h5, h6⟩ := h
  obtain ⟨g1, g2⟩ := ok_of_valid h1
  obtain ⟨f1, f2, f3⟩ := fitsB_lits h2
  refine ⟨g1, g2, f3, f2, bitsB_iff.1 h3, h4, h6, fun hb => ?_⟩
  rcases h5 with h5 | h5
  · rw [hb] at h5; cases h5
  · exact h5
theorem wrvB_of {w : WrD} (h : wrOk w) : wrvB w = true := by
  obtain ⟨h1, h2, h3, h4, h5, h6, h7, h8⟩ := h
  unfold wrvB wrsB
  rw [valid_of_ok h1 h2, fitsB_iff h1.set h4, bitsB_iff.2 h5, decide_eq_true h6]
  have hl : litsL (clr w.k.set) w.pend = true := by
    simp only [litsL, List.all_eq_true, decide_eq_true_eq]
    exact h3
  rw [hl]
  simp only [Bool.and_eq_true, Bool.or_eq_true, decide_eq_true_eq, true_and]
  refine ⟨?_, h7⟩
  cases hb : w.beg
  · exact .inr (h8 hb)
  · exact .inl rfl
def wdO (w : WrD) (d : List UInt8) : Option (WrD × List UInt8) := if wrvB w && fitsB w.k.set (w.pend ++ d) then some (w.write d) else none
def wcO (w : WrD) : Option (List UInt8) := if wrvB w then some w.close else none
theorem wdO_none {w : WrD} {d : List UInt8} (h : (wrvB w && fitsB w.k.set (w.pend ++ d)) = false) : wdO w d = none := by unfold wdO; rw [h]; rfl
theorem wdO_some {w : WrD} {d : List UInt8} (h : (wrvB w && fitsB w.k.set (w.pend ++ d)) = true) : wdO w d = some (w.write d) := by unfold wdO; rw [h]; rfl
structure WlD (T : List UInt8 × KnD × List UInt8) (s : SetD) (m : Nat) (k : KnD) (d b : List UInt8) : Prop where
  len : d.length ≤ m
  le : d.length ≤ 2000
  ne : d ≠ []
  sum : b.length + 20 * d.length ≤ 41000
  bit : isBits b
  tot : (b ++ bitsS s.ord k (wrC m k d).1, (wrC m k d).2) = T
  ok : k.Ok
  set : k.set = s
  lit : ∀ x ∈ d, x.toNat < clr s
theorem WlD.stop {T : List UInt8 × KnD × List UInt8} {s : SetD} {m : Nat} {k : KnD} {d b : List UInt8} (h : WlD T s m k d b) (hl : k.longest d = d) : T = (b, k, d) := by
  rw [← h.tot, wrC_stop (.inr hl)]
  show (b ++ [], k, d) = _
  rw [List.append_nil]
theorem WlD.lits {T : List UInt8 × KnD × List UInt8} {s : SetD} {m : Nat} {k : KnD} {d b : List UInt8} (h : WlD T s m k d b) : ∀ x ∈ d, x.toNat < k.c := by
  unfold KnD.c
  rw [h.set]
  exact h.lit
theorem WlD.step {T : List UInt8 × KnD × List UInt8} {s : SetD} {m : Nat} {k : KnD} {d b : List UInt8} (h : WlD T s m k d b) (hl : k.longest d ≠ d) :
    (k.follows (k.find (k.longest d)) = true ∧ k.find (k.longest d) ≠ (k.c : Int) ∧ k.find (k.longest d) ≠ (k.c : Int) + 1 ∧ 1 ≤ (k.longest d).length ∧ (k.longest d).length < d.length) ∧
    ((k.after (k.find (k.longest d))).full = true → WlD T s (m - 1) (k.after (k.find (k.longest d))).cleared (d.drop (k.longest d).length) ((b ++ codeL s.ord (k.find (k.longest d)).toNat k.width) ++ codeL s.ord (clr s) (k.after (k.find (k.longest d))).width)) ∧
    ((k.after (k.find (k.longest d))).full = false → WlD T s (m - 1) (k.after (k.find (k.longest d))) (d.drop (k.longest d).length) (b ++ codeL s.ord (k.find (k.longest d)).toNat k.width)) := by
  have hp := KnD.longest_pos (k := k) h.ne
  have hlt := KnD.longest_lt (k := k) (d := d) hl
  obtain ⟨hf, -⟩ := KnD.find_any h.ok h.ne h.lits
  have hak := KnD.after_ok h.ok hf
  have hc : k.c = clr s := by unfold KnD.c; rw [h.set]
  have hne : k.find (k.longest d) ≠ (k.c : Int) ∧ k.find (k.longest d) ≠ (k.c : Int) + 1 := by
    rcases KnD.follows_cases h.ok hf with hc | ⟨hg, e, hl⟩
    · rw [codeOk_iff] at hc; omega
    · rw [e]; unfold KnD.next; omega
  have h1 := h.len; have h2 := h.le; have h3 := h.sum; have h4 := h.tot
  obtain ⟨n, rfl⟩ : ∃ n, m = n + 1 := ⟨m - 1, by omega⟩
  have hs : ¬ (d = [] ∨ k.longest d = d) := fun e => e.elim h.ne hl
  have hr : d.drop (k.longest d).length ≠ [] := fun e => by
    have := congrArg List.length e
    rw [List.length_drop] at this
    simp at this
    omega
  have hth := KnD.thru_fol h.ok hf
  have hw := KnD.width_bd h.ok
  have hwa := KnD.width_bd hak
  refine ⟨⟨hf, hne.1, hne.2, hp, hlt⟩, fun hfu => ?_, fun hfu => ?_⟩
  · rw [wrC, if_neg hs, if_pos hfu] at h4
    refine ⟨by rw [List.length_drop]; omega, by rw [List.length_drop]; omega, hr, ?_, (h.bit.app (isBits_code _ _ _)).app (isBits_code _ _ _), ?_, KnD.cleared_ok hak, h.set, fun x hx => h.lit x (List.mem_of_mem_drop hx)⟩
    · rw [List.length_append, List.length_append, codeL_length, codeL_length, List.length_drop]; omega
    · rw [← h4]
      show _ = (b ++ (codeL s.ord _ k.width ++ (codeL s.ord (k.c : Int).toNat (k.thru _).width ++ bitsS s.ord ((k.thru _).thru (k.c : Int)) _)), _)
      rw [hth]
      have hcc : (k.after (k.find (k.longest d))).thru (k.c : Int) = (k.after (k.find (k.longest d))).cleared := thru_clear _
      rw [hcc, List.append_assoc, List.append_assoc, Int.toNat_natCast, hc]
      rfl
  · rw [wrC, if_neg hs, if_neg (by rw [hfu]; simp)] at h4
    refine ⟨by rw [List.length_drop]; omega, by rw [List.length_drop]; omega, hr, ?_, h.bit.app (isBits_code _ _ _), ?_, hak, h.set, fun x hx => h.lit x (List.mem_of_mem_drop hx)⟩
    · rw [List.length_append, codeL_length, List.length_drop]; omega
    · rw [← h4]
      show _ = (b ++ (codeL s.ord _ k.width ++ bitsS s.ord (k.thru _) _), _)
      rw [hth, List.append_assoc]
      rfl
theorem open_len {w : WrD} (h : wrOk w) : w.open.1.length ≤ 17 ∧ isBits w.open.1 := by
  have hw := KnD.width_bd h.1
  have h7 := h.2.2.2.2.2.1
  have hb := h.2.2.2.2.1
  unfold WrD.open
  split
  · exact ⟨by show w.bits.length ≤ 17; omega, hb⟩
  · refine ⟨?_, hb.app (isBits_code _ _ _)⟩
    show (w.bits ++ codeL _ _ _).length ≤ 17
    rw [List.length_append, codeL_length]; omega
theorem WlD.start {w : WrD} {d : List UInt8} (h : wrOk w) (hd : d ≠ []) (hl : ∀ x ∈ d, x.toNat < clr w.k.set) (hn : (w.pend ++ d).length ≤ 2000) :
    WlD (w.all d, (w.codes d).2) w.k.set (w.pend ++ d).length w.open.2 (w.pend ++ d) w.open.1 := by
  obtain ⟨hok, hos⟩ := WrD.open_ok h.1
  obtain ⟨o1, o2⟩ := open_len h
  exact ⟨Nat.le_refl _, hn, by simp [hd], by omega, o2, rfl, hok, hos, fun x hx => (List.mem_append.1 hx).elim (h.2.2.1 x) (hl x)⟩
def wrV (w : WrD) (v : Value) : Value := .agg #[.int .i64 w.k.set.ord, .int .i64 w.k.set.lit, .int .i64 w.k.set.most, v, .int .i64 w.k.base, .int .i64 w.k.last, .string (bs w.pend), .string (bs w.bits), .bool w.beg]
def noWr : Value := .agg #[.int .i64 0, .int .i64 0, .int .i64 0, .slice none 0 0, .int .i64 0, .int .i64 0, .string ⟨#[]⟩, .string ⟨#[]⟩, .bool false]
def WdPost (o : Option (WrD × List UInt8)) (w : World) (e : Ending) (w' : World) : Prop := match o with
  | some (x, by') => ∃ v, e = .returned (.tuple #[wrV x v, .string (bs by'), .bool true]) ∧ ownPr w' w.heap.size v x.k.ps ∧ Up w w'
  | none => e = .returned (.tuple #[noWr, .string ⟨#[]⟩, .bool false]) ∧ Up w w'
end Go.Proofs.YtgbakgaegldomaaGreat

