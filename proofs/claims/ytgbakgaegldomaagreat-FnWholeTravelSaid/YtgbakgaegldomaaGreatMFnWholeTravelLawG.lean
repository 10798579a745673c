/- Texts joined into one: the walks and laws that the last text leans on. Conditions: as each says. -/
import Derived.Test.YtgbakgaegldomaaGreatWb
import Derived.Test.YtgbakgaegldomaaGreatTree4
import Derived.Lib.ConvBytes
import Derived.Test.YtgbakgaegldomaaGreatGw
import Derived.Test.YtgbakgaegldomaaGreatGw2
import Derived.Test.YtgbakgaegldomaaGreatPk2
import Derived.Test.YtgbakgaegldomaaGreatComp
import Derived.Test.YtgbakgaegldomaaGreatWa
import Derived.Test.YtgbakgaegldomaaGreatKV
import Derived.Test.YtgbakgaegldomaaGreatMFnWholeTravelLawA
import Derived.Test.YtgbakgaegldomaaGreatCleared

set_option linter.unusedVariables false
set_option linter.unusedSimpArgs false
/- A row of bytes of the call's own that came of a string (its block bears a mark behind its cells): append onto it, reading it; the conversion of a string into such a row. Conditions: as each says. -/
namespace Go.Proofs.YtgbakgaegldomaaGreat
open Go Go.RowKit
def ownM (w : World) (base : Nat) (v : Value) (d : List UInt8) : Prop := ∃ (g cap : Nat) (cur : Array Value) (fz : Nat × Nat), v = .slice (some ⟨g, 0, none⟩) d.length cap ∧ base ≤ g ∧ w.heap[g]? = some (.cells cur 5 fz) ∧ (fz = (0, 0) ∨ cur.size ≤ fz.1) ∧ d.length ≤ cap ∧ cap ≤ maxLen ∧ cur.size = cap ∧ cur.toList.take d.length = cellsU d
theorem ownM.shape {w : World} {base : Nat} {v : Value} {d : List UInt8} (h : ownM w base v d) : ∃ g c, v = .slice (some ⟨g, 0, none⟩) d.length c := by
  obtain ⟨g, cap, cur, fz, rfl, -⟩ := h
  exact ⟨g, cap, rfl⟩
theorem ownM.lt {w : World} {base : Nat} {v : Value} {d : List UInt8} (h : ownM w base v d) : ∀ k, v.ownBlock = some k → base ≤ k ∧ k < w.heap.size := by
  intro k hk
  obtain ⟨g, cap, cur, fz, rfl, h1, h2, -⟩ := h
  simp [Value.ownBlock] at hk
  subst hk
  exact ⟨h1, (Array.getElem?_eq_some_iff.1 h2).1⟩
theorem ownM.kept {w w' : World} {base : Nat} {v : Value} {d : List UInt8} {row : Option Nat} (h : ownM w base v d) (hg : w.grownBy w' row) (hne : v.ownBlock = none ∨ v.ownBlock ≠ row) : ownM w' base v d := by
  obtain ⟨g, cap, cur, fz, rfl, h1, h2, h3⟩ := h
  refine ⟨g, cap, cur, fz, rfl, h1, ?_, h3⟩
  rw [hg.block g (Array.getElem?_eq_some_iff.1 h2).1 (by simpa [Value.ownBlock] using hne)]
  exact h2
theorem ownM.up {w w' : World} {base : Nat} {v : Value} {d : List UInt8} (h : ownM w base v d) (hu : Up w w') : ownM w' base v d := h.kept (up_grownBy hu none) (by obtain ⟨g, c, e⟩ := h.shape; rw [e]; right; simp [Value.ownBlock])
theorem ownM.fr {O : Nat → Prop} {w w' : World} {base : Nat} {v : Value} {d : List UInt8} (h : ownM w base v d) (hf : Fr O w w') (hn : ∀ b, v.ownBlock = some b → ¬ O b) : ownM w' base v d := by
  obtain ⟨g, cap, cur, fz, rfl, h1, h2, h3⟩ := h
  refine ⟨g, cap, cur, fz, rfl, h1, ?_, h3⟩
  exact (hf.block g (Array.getElem?_eq_some_iff.1 h2).1 (hn g rfl)).trans h2
theorem ownM.base {w : World} {base base' : Nat} {v : Value} {d : List UInt8} (h : ownM w base v d) (hb : base' ≤ base) : ownM w base' v d := by
  obtain ⟨g, cap, cur, fz, rfl, h1, h2⟩ := h
  exact ⟨g, cap, cur, fz, rfl, Nat.le_trans hb h1, h2⟩
theorem ownM.cells {w : World} {base : Nat} {v : Value} {d : List UInt8} (h : ownM w base v d) : ∃ g cap, v = .slice (some ⟨g, 0, none⟩) d.length cap ∧ base ≤ g ∧ g < w.heap.size ∧ d.length ≤ cap ∧ cap ≤ maxLen ∧ ∀ i x, d[i]? = some x → w.cell? ⟨g, i, none⟩ = some (.int .u8 x.toNat) := by
  obtain ⟨g, cap, cur, fz, rfl, h1, h2, h3, h4, h5, h6, h7⟩ := h
  refine ⟨g, cap, rfl, h1, (Array.getElem?_eq_some_iff.1 h2).1, h4, h5, fun i x hi => ?_⟩
  have hu : (cellsU d)[i]? = some (.int .u8 x.toNat) := by simp [cellsU, hi]
  rw [← h7, List.getElem?_take] at hu
  split at hu
  · rw [cell_of_row w g i cur 5 fz h2]
    simpa using hu
  · cases hu
theorem run_storeCells_atM (P : Program) (g o : Nat) (t : TypeId) (fz : Nat × Nat) : ∀ (vs : List Value) (i : Nat) (cur : Array Value) (w : World), w.heap[g]? = some (.cells cur t fz) → (fz = (0, 0) ∨ cur.size ≤ fz.1) → o + i + vs.length ≤ cur.size → (∀ v ∈ vs, v.oneCell' = true) →
    (storeCells ⟨g, o, none⟩ vs i).run P w = .ok () (w.setRow g (cur.toList.take (o + i) ++ vs ++ cur.toList.drop (o + i + vs.length)).toArray)
  | [], i, cur, w, hg, _, _, _ => by
    simp only [storeCells, List.append_nil, List.length_nil, Nat.add_zero, List.take_append_drop, Array.toArray_toList]
    rw [setRow_self w g cur t fz hg]
    rfl
  | v :: rest, i, cur, w, hg, hfz, hl, h1 => by
    have hi : o + i < cur.size := by simp at hl; omega
    have hadd : (⟨g, o, none⟩ : Addr).add i = ⟨g, o + i, none⟩ := by unfold Addr.add; split <;> simp_all
    have hcell : w.cell? ⟨g, o + i, none⟩ = some cur[o + i] := by simp [World.cell?, hg, hi]
    have hfro : w.frozen? ⟨g, o + i, none⟩ = false := by
      obtain ⟨lo, hi'⟩ := fz
      simp only [World.frozen?, hg, Bool.and_eq_false_iff, decide_eq_false_iff_not]
      rcases hfz with hfz | hfz
      · simp only [Prod.mk.injEq] at hfz
        right
        omega
      · left
        simp only at hfz
        omega
    have hst : (store ((⟨g, o, none⟩ : Addr).add i) v).run P w = .ok () (w.setRow g (cur.setIfInBounds (o + i) v)) := by
      rw [hadd, run_store P w _ v _ (h1 v (by simp)), hcell]
      simp [hfro, setCell_eq_setRow w g (o + i) cur t fz v hg]
    have ih := run_storeCells_atM P g o t fz rest (i + 1) (cur.setIfInBounds (o + i) v) (w.setRow g (cur.setIfInBounds (o + i) v)) (setRow_heap w g cur _ t _ hg) (by simpa using hfz) (by simp at hl ⊢; omega) (fun x hx => h1 x (by simp [hx]))
    simp only [storeCells, Sem.run_bind, hst, Result.andThen_ok, ih, setRow_setRow]
    congr 3
    have e := list_seg_step cur.toList (o + i) v rest (by simp at hl ⊢; omega)
    simpa [Array.toList_setIfInBounds, Nat.add_assoc] using e
theorem run_appendM (w : World) (base : Nat) (ty : TypeId) (v : Value) (d : List UInt8) (hown : ownM w base v d) (ad : Addr) (c : Nat) (b : UInt8) (hnew : w.cell? ad = some (.int .u8 b.toNat)) (had : ad.spot = none) (hl : d.length ≤ 1048576) (hbase : base ≤ w.heap.size) :
    ∃ v' w', (Builtin.append_ #[22, 22] ty #[v, .slice (some ad) 1 c]).run Tryz.prog w = .ok v' w' ∧ ownM w' base v' (d ++ [b]) ∧ w.grownBy w' v.ownBlock ∧ NewOr w.heap.size v v' := by
  obtain ⟨j0, hj, hy0, hy1, hy2⟩ := info_parts infoByte
  obtain ⟨g, cap, cur, fz, rfl, hbg, hg, hfz, hnc, hcm, hcs, htake⟩ := hown
  have hdl : (d ++ [b]).length = d.length + 1 := by simp
  have hcu : cellsU (d ++ [b]) = cellsU d ++ [.int .u8 b.toNat] := by simp [cellsU]
  have hcul : (cellsU d).length = d.length := by simp [cellsU]
  have hadd0 : ad.add 0 = ad := by
    obtain ⟨x, y, z⟩ := ad
    simp at had
    subst had
    simp [Addr.add]
  have hnews : ∀ j u, [Value.int .u8 b.toNat][j]? = some u → w.cell? (ad.add j) = some u := by
    intro j u hu
    cases j with
    | zero => simp at hu; subst hu; rw [hadd0]; exact hnew
    | succ j => simp at hu
  by_cases hroom : d.length + 1 ≤ cap
  · have hf := run_firstCells_some (P := Tryz.prog) w j0.size 1 ad 1 c [.int .u8 b.toNat] (by rw [hy1]; rfl) hnews
    have hst := run_storeCells_atM Tryz.prog g (d.length * j0.size) 5 fz [.int .u8 b.toNat] 0 cur w hg hfz (by rw [hy1]; simp; omega) (by intro u hu; simp at hu; subst hu; rfl)
    simp only [Nat.add_zero] at hst
    have hr : (Builtin.append_ #[22, 22] ty #[.slice (some ⟨g, 0, none⟩) d.length cap, .slice (some ad) 1 c]).run Tryz.prog w = .ok (.slice (some ⟨g, 0, none⟩) (d.length + 1) cap) (w.setRow g (cur.toList.take (d.length * j0.size) ++ [Value.int .u8 b.toNat] ++ cur.toList.drop (d.length * j0.size + [Value.int .u8 b.toNat].length)).toArray) := by
      simp [Builtin.append_, run_underlying Tryz.underlying22, sizeOf, typeInfo, hj, Builtin.lenOf, hroom, hf, Addr.add_lit, hst]
    refine ⟨_, _, hr, ⟨g, cap, _, fz, by rw [hdl], hbg, setRow_heap w g cur _ 5 _ hg, ?_, by omega, hcm, ?_, ?_⟩, ⟨rfl, rfl, rfl, by simp, fun k _ hk => setRow_other w g k _ (fun e => hk (by simp [Value.ownBlock, e]))⟩, fun k hk => .inl hk⟩
    · rw [hy1]
      simp only [List.size_toArray, List.length_append, List.length_take, List.length_drop, Array.length_toList, Nat.mul_one, List.length_cons, List.length_nil]
      rcases hfz with hfz | hfz
      · exact .inl hfz
      · right; omega
    · rw [hy1]
      simp only [List.size_toArray, List.length_append, List.length_take, List.length_drop, Array.length_toList, Nat.mul_one, List.length_cons, List.length_nil]
      omega
    · rw [hy1, Nat.mul_one, htake, hcu]
      have : (d ++ [b]).length = (cellsU d ++ [Value.int .u8 b.toNat]).length := by rw [hdl, List.length_append, hcul]; rfl
      rw [this]
      exact List.take_left
  · have hcu1 : ∀ j u, (cellsU d)[j]? = some u → w.cell? ((⟨g, 0, none⟩ : Addr).add j) = some u := by
      intro j u hu
      have hadd : (⟨g, 0, none⟩ : Addr).add j = ⟨g, j, none⟩ := by unfold Addr.add; split <;> simp_all
      rw [hadd, cell_of_row w g j cur 5 fz hg]
      rw [← htake, List.getElem?_take] at hu
      split at hu
      · simpa using hu
      · cases hu
    have hr := run_append_grow (P := Tryz.prog) w 22 ty 5 j0 (.int .u8 0) Tryz.underlying22 hj hy0 ⟨g, 0, none⟩ d.length cap (cellsU d) (by rw [hy1, hcul, Nat.mul_one]) hcu1 ad 1 c [.int .u8 b.toNat] (by rw [hy1]; rfl) hnews (by omega) (by omega) (by rw [hy2]; exact growslice_fits (by omega) (by omega))
    have hge := grownCap_ge w (d.length + 1) cap 5
    have hcm2 : grownCap w (d.length + 1) cap 5 ≤ maxLen := grownCap_le_maxLen w (d.length + 1) cap 5 (by unfold maxLen; omega)
    refine ⟨_, _, hr, ⟨w.heap.size, _, _, (0, 0), by rw [hdl], hbase, heap_alloc_new w.drew _, .inl rfl, by omega, hcm2, ?_, ?_⟩, ⟨rfl, rfl, rfl, by simp, fun k hk _ => heap_alloc_old w.drew _ hk⟩, fun k hk => ?_⟩
    · have hz1 : (Value.int IntKind.u8 0).cells.size = 1 := rfl
      simp only [Array.size_append, List.size_toArray, size_zeroCells, hz1, hcul, List.length_cons, List.length_nil]
      omega
    · simp only [Array.toList_append, List.append_assoc]
      rw [hcu]
      have : (d ++ [b]).length = (cellsU d ++ [Value.int .u8 b.toNat]).length := by rw [hdl, List.length_append, hcul]; rfl
      rw [this, ← List.append_assoc]
      exact List.take_left
    · right
      simp [Value.ownBlock] at hk
      omega
theorem wpList_appendM {ops : Array Oper} {rest : List Oper} {o : Oper} {a : Act} {w : World} {Q : Exit → Act → World → Prop} (hgd : o.guard = none) (s x : Operand) (ho : o.op = .call { callee := .builtin .append, args := #[s, x], argTypes := #[22, 22] })
    (base : Nat) (v : Value) (d : List UInt8) (hs : a.eval s = v) (hown : ownM w base v d) (ad : Addr) (c : Nat) (b : UInt8) (hx : a.eval x = .slice (some ad) 1 c) (hnew : w.cell? ad = some (.int .u8 b.toNat)) (had : ad.spot = none) (hl : d.length ≤ 1048576) (hbase : base ≤ w.heap.size)
    (h : ∀ v' w', ownM w' base v' (d ++ [b]) → w.grownBy w' v.ownBlock → NewOr w.heap.size v v' → wpList Tryz.prog ops Q rest (a.put o.dst v') w') : wpList Tryz.prog ops Q (o :: rest) a w :=
  wpList_plain hgd fun _ hK => by
    obtain ⟨v', w', hr, h2, h3, h4⟩ := run_appendM w base o.type v d hown ad c b hnew had hl hbase
    unfold Oper.wp execOp
    simp only [ho, resolve, invoke, builtin, Sem.run_bind, Sem.run_pure, Result.andThen_ok, List.map_toArray, List.map_cons, List.map_nil, hs, hx, hr]
    exact hK _ _ (h v' w' h2 h3 h4)
theorem run_strBytes (w : World) (d : List UInt8) : (convert 9 22 (.string (bs d))).run Tryz.prog w = .ok (.slice (some ⟨w.heap.size, 0, none⟩) d.length (grownCap w d.length 0 5)) (Lib.bytesWorld w 5 (bs d)) := by
  have h := Lib.run_convert_string_bytes (P := Tryz.prog) w 9 22 5 (bs d) Tryz.underlying9 Tryz.underlying22 Tryz.underlying5
  rw [bs_size] at h
  exact h
theorem up_bytes (w : World) (d : List UInt8) : Up w (Lib.bytesWorld w 5 (bs d)) :=
  ⟨by simp [Lib.bytesWorld, World.freeze, World.alloc, World.drew, -World.alloc_eq, -World.drew_eq], by simp [Lib.bytesWorld, World.freeze, World.alloc, World.drew, -World.alloc_eq, -World.drew_eq], by simp [Lib.bytesWorld, World.freeze, World.alloc, World.drew, -World.alloc_eq, -World.drew_eq], by rw [Lib.bytesWorld_size]; omega, fun b hb => Lib.bytesWorld_at_old w _ _ b hb⟩
theorem own_bytes (w : World) (d : List UInt8) (hd : d.length ≤ maxLen) {base : Nat} (hb : base ≤ w.heap.size) : ownM (Lib.bytesWorld w 5 (bs d)) base (.slice (some ⟨w.heap.size, 0, none⟩) d.length (grownCap w d.length 0 5)) d := by
  have hge := grownCap_ge w d.length 0 5
  have hcm := grownCap_le_maxLen w d.length 0 5 hd
  have hsz : (Lib.bytesCells w 5 (bs d)).size = grownCap w d.length 0 5 := by
    unfold Lib.bytesCells
    rw [Array.size_append, Array.size_map, Array.size_replicate, bs_size]
    have : (bs d).data.size = d.length := bs_size d
    omega
  refine ⟨w.heap.size, _, _, _, rfl, hb, Lib.bytesWorld_at_new w 5 (bs d), .inr (Nat.le_refl _), hge, hcm, hsz, ?_⟩
  unfold Lib.bytesCells
  rw [Array.toList_append, Array.toList_map]
  have e : (List.map (fun b : UInt8 => Value.int .u8 b.toNat) (bs d).data.toList) = cellsU d := by rw [bs_data]; rfl
  have e2 : (List.map (fun b : UInt8 => Value.int .u8 b.toNat) (bs d).data.toList).length = d.length := by rw [e]; simp [cellsU]
  rw [← e2, List.take_left, e]
end Go.Proofs.YtgbakgaegldomaaGreat

/- Plain: the words that are known are closed under prefixes, and so the longest word of a text that goes on is that of the text, if that one ends within it (for the writers). Conditions: as each says. -/
namespace Go.Proofs.YtgbakgaegldomaaGreat
open Go.RowKit
def KnD.isW (k : KnD) (w : List UInt8) : Prop := w.length = 1 ∨ ∃ j, j < k.cnt ∧ k.any ((k.c : Int) + 2 + j) = w
theorem KnD.any_pair {k : KnD} (h : k.Ok) {j : Nat} (hj : j < k.ps.length) : k.any ((k.c : Int) + 2 + j) = k.word k.ps[j].pre ++ [ub k.ps[j].byt] := by
  rw [KnD.any_word (by rw [codeOk_iff]; omega)]
  exact wordP_pair h.ps hj
theorem KnD.pre_pair {k : KnD} (h : k.Ok) : ∀ (j : Nat), j < k.ps.length → ∀ m, 1 ≤ m → m ≤ (k.any ((k.c : Int) + 2 + j)).length → k.isW ((k.any ((k.c : Int) + 2 + j)).take m) := by
  intro j
  induction j using Nat.strongRecOn with
  | ind j ih =>
    intro hj m h1 hm
    have hcnt : j < k.cnt := by rw [KnD.cnt_eq]; omega
    by_cases hme : m = (k.any ((k.c : Int) + 2 + j)).length
    · exact .inr ⟨j, hcnt, by rw [hme, List.take_length]⟩
    · have ha := KnD.any_pair h hj
      obtain ⟨hp, -, -⟩ := h.ps.get hj
      rw [ha] at hm hme ⊢
      rw [List.length_append] at hm hme
      simp only [List.length_cons, List.length_nil] at hm hme
      rw [List.take_append_of_le_length (by omega)]
      rcases (codeOk_iff.1 hp) with ⟨p0, p1⟩ | ⟨p0, p1⟩
      · have hw : k.word k.ps[j].pre = [ub k.ps[j].pre] := wordP_lit p1
        rw [hw] at hm ⊢
        left
        simp at hm ⊢
        omega
      · obtain ⟨i, hi⟩ : ∃ i : Nat, k.ps[j].pre = (k.c : Int) + 2 + i := ⟨(k.ps[j].pre - ((k.c : Int) + 2)).toNat, by omega⟩
        have hij : i < j := by omega
        have hai : k.any ((k.c : Int) + 2 + i) = k.word ((k.c : Int) + 2 + i) := KnD.any_word (by rw [codeOk_iff]; omega)
        have := ih i hij (by omega) m h1 (by rw [hai, ← hi]; omega)
        rw [hai, ← hi] at this
        exact this
theorem KnD.pre_any {k : KnD} (h : k.Ok) {j : Nat} (hj : j < k.cnt) {m : Nat} (h1 : 1 ≤ m) (hm : m ≤ (k.any ((k.c : Int) + 2 + j)).length) : k.isW ((k.any ((k.c : Int) + 2 + j)).take m) := by
  by_cases hp : j < k.ps.length
  · exact KnD.pre_pair h j hp m h1 hm
  · rw [KnD.cnt_eq] at hj
    have hg : k.grow = true := by
      cases hg : k.grow
      · rw [hg] at hj; simp at hj; omega
      · rfl
    rw [hg] at hj
    simp at hj
    have hjl : j = k.ps.length := by omega
    by_cases hme : m = (k.any ((k.c : Int) + 2 + j)).length
    · exact .inr ⟨j, by rw [KnD.cnt_eq, hg]; simp; omega, by rw [hme, List.take_length]⟩
    · have hn : (k.c : Int) + 2 + j = (k.next : Int) := by unfold KnD.next; omega
      have ha : k.any ((k.c : Int) + 2 + j) = k.word k.last ++ (k.word k.last).take 1 := by
        rw [hn]; unfold KnD.any; rw [if_pos rfl]
      have hlo := h.lastOk hg
      rw [ha] at hm hme ⊢
      rw [List.length_append, List.length_take] at hm hme
      rw [List.take_append_of_le_length (by omega)]
      rcases (codeOk_iff.1 hlo) with ⟨p0, p1⟩ | ⟨p0, p1⟩
      · have hw : k.word k.last = [ub k.last] := wordP_lit p1
        rw [hw] at hm hme ⊢
        left
        simp at hm hme ⊢
        omega
      · obtain ⟨i, hi⟩ : ∃ i : Nat, k.last = (k.c : Int) + 2 + i := ⟨(k.last - ((k.c : Int) + 2)).toNat, by omega⟩
        have hai : k.any ((k.c : Int) + 2 + i) = k.word ((k.c : Int) + 2 + i) := KnD.any_word (by rw [codeOk_iff]; omega)
        have := KnD.pre_pair h i (by omega) m h1 (by rw [hai, ← hi]; omega)
        rw [hai, ← hi] at this
        exact this
theorem KnD.longN_most {k : KnD} {d : List UInt8} : ∀ (n j : Nat), j < n → (k.any ((k.c : Int) + 2 + j)).length ≤ d.length → d.take (k.any ((k.c : Int) + 2 + j)).length = k.any ((k.c : Int) + 2 + j) → (k.any ((k.c : Int) + 2 + j)).length ≤ (k.longN d n).length := by
  intro n
  induction n with
  | zero => intro j hj; exact absurd hj (Nat.not_lt_zero _)
  | succ n ih =>
    intro j hj h1 h2
    rw [KnD.longN]
    by_cases hjn : j = n
    · subst hjn
      split
      · exact Nat.le_refl _
      · next h => exact Nat.le_of_not_lt fun hlt => h ⟨hlt, h1, h2⟩
    · have := ih j (by omega) h1 h2
      split
      · next h => omega
      · exact this
theorem KnD.longest_isW {k : KnD} {d : List UInt8} (hd : d ≠ []) : k.isW (k.longest d) := by
  unfold KnD.longest
  rcases KnD.longN_cases (k := k) (d := d) k.cnt with h | ⟨j, h1, h2, -, -⟩
  · left
    rw [h, List.length_take]
    cases d with
    | nil => exact absurd rfl hd
    | cons b l => simp
  · exact .inr ⟨j, h1, h2.symm⟩
theorem KnD.isW_le {k : KnD} {d w : List UInt8} (hd : d ≠ []) (hw : k.isW w) (hl : w.length ≤ d.length) (ht : d.take w.length = w) : w.length ≤ (k.longest d).length := by
  rcases hw with h | ⟨j, hj, rfl⟩
  · have := KnD.longest_pos (k := k) hd
    omega
  · exact KnD.longN_most k.cnt j hj hl ht
theorem KnD.longest_more {k : KnD} (h : k.Ok) {d : List UInt8} (e : List UInt8) (hd : d ≠ []) (hn : k.longest d ≠ d) : k.longest (d ++ e) = k.longest d := by
  have hde : d ++ e ≠ [] := by simp [hd]
  have hL := KnD.longest_take (k := k) (d ++ e)
  have hl := KnD.longest_take (k := k) d
  have hle := KnD.longest_le (k := k) d
  have hLe := KnD.longest_le (k := k) (d ++ e)
  have hLp := KnD.longest_pos (k := k) hde
  have h1 : (k.longest d).length ≤ (k.longest (d ++ e)).length := KnD.isW_le hde (KnD.longest_isW hd) (by rw [List.length_append]; omega) (by rw [List.take_append_of_le_length hle]; exact hl)
  by_cases hlt : (k.longest (d ++ e)).length ≤ d.length
  · have hL' : d.take (k.longest (d ++ e)).length = k.longest (d ++ e) := by rw [List.take_append_of_le_length hlt] at hL; exact hL
    have h2 := KnD.isW_le hd (KnD.longest_isW hde) hlt hL'
    have : (k.longest (d ++ e)).length = (k.longest d).length := by omega
    rw [← hL', this, hl]
  · exfalso
    apply hn
    have hdl : d.length ≤ (k.longest (d ++ e)).length := by omega
    have hdt : (k.longest (d ++ e)).take d.length = d := by
      rw [← hL, List.take_take, Nat.min_eq_left hdl, List.take_append_of_le_length (Nat.le_refl _), List.take_length]
    have hW : k.isW d := by
      rcases KnD.longest_isW (k := k) hde with h1 | ⟨j, hj, hje⟩
      · left
        have := List.length_pos_iff.2 hd
        omega
      · have := KnD.pre_any h hj (m := d.length) (List.length_pos_iff.2 hd) (by rw [hje]; exact hdl)
        rw [hje, hdt] at this
        exact this
    have h2 := KnD.isW_le hd hW (Nat.le_refl _) List.take_length
    have : (k.longest d).length = d.length := by omega
    rw [← hl, this, List.take_length]
end Go.Proofs.YtgbakgaegldomaaGreat

/- Plain: the codes that a writer writes, part by part, are those of the whole text (for the writers). Conditions: what is known is valid, the data has only literals. -/
namespace Go.Proofs.YtgbakgaegldomaaGreat
open Go.RowKit
def wrC : Nat → KnD → List UInt8 → List Int × KnD × List UInt8
  | 0, k, d => ([], k, d)
  | n + 1, k, d =>
    if d = [] ∨ k.longest d = d then ([], k, d)
    else if (k.after (k.find (k.longest d))).full = true then
      (k.find (k.longest d) :: (k.c : Int) :: (wrC n (k.after (k.find (k.longest d))).cleared (d.drop (k.longest d).length)).1, (wrC n (k.after (k.find (k.longest d))).cleared (d.drop (k.longest d).length)).2)
    else (k.find (k.longest d) :: (wrC n (k.after (k.find (k.longest d))) (d.drop (k.longest d).length)).1, (wrC n (k.after (k.find (k.longest d))) (d.drop (k.longest d).length)).2)
theorem wrC_stop {n : Nat} {k : KnD} {d : List UInt8} (h : d = [] ∨ k.longest d = d) : wrC n k d = ([], k, d) := by
  cases n with
  | zero => rfl
  | succ n => rw [wrC, if_pos h]
theorem wrC_end : ∀ (n : Nat) (k : KnD) (d : List UInt8), d.length ≤ n → k.Ok → (∀ b ∈ d, b.toNat < k.c) →
    (wrC n k d).2.1.Ok ∧ (wrC n k d).2.1.set = k.set ∧ ((wrC n k d).2.2 = [] ∨ (wrC n k d).2.1.longest (wrC n k d).2.2 = (wrC n k d).2.2) ∧ (d ≠ [] → (wrC n k d).2.2 ≠ []) ∧ (∃ p, d = p ++ (wrC n k d).2.2) := by
  intro n
  induction n with
  | zero =>
    intro k d hd hk _
    have : d = [] := List.eq_nil_of_length_eq_zero (by omega)
    subst this
    exact ⟨hk, rfl, .inl rfl, fun h => absurd rfl h, [], rfl⟩
  | succ n ih =>
    intro k d hd hk hl
    by_cases hs : d = [] ∨ k.longest d = d
    · rw [wrC_stop hs]
      exact ⟨hk, rfl, hs, fun h => h, [], rfl⟩
    · have hd0 : d ≠ [] := fun e => hs (.inl e)
      have hp := KnD.longest_pos (k := k) hd0
      have hle := KnD.longest_le (k := k) d
      have hlt : (k.longest d).length < d.length := by
        rcases Nat.lt_or_ge (k.longest d).length d.length with h | h
        · exact h
        · exfalso
          apply hs
          right
          have ht := KnD.longest_take (k := k) d
          rw [show (k.longest d).length = d.length by omega, List.take_length] at ht
          exact ht.symm
      obtain ⟨hf, -⟩ := KnD.find_any hk hd0 hl
      have hak := KnD.after_ok hk hf
      have hr : d.drop (k.longest d).length ≠ [] := fun e => by
        have := congrArg List.length e
        rw [List.length_drop] at this
        simp at this
        omega
      have hl' : ∀ b ∈ d.drop (k.longest d).length, b.toNat < k.c := fun b hb => hl b (List.mem_of_mem_drop hb)
      have hlen : (d.drop (k.longest d).length).length ≤ n := by rw [List.length_drop]; omega
      rw [wrC, if_neg hs]
      by_cases hfu : (k.after (k.find (k.longest d))).full = true
      · rw [if_pos hfu]
        obtain ⟨h1, h2, h3, h4, p, h5⟩ := ih (k.after (k.find (k.longest d))).cleared _ hlen (KnD.cleared_ok hak) hl'
        exact ⟨h1, h2, h3, fun _ => h4 hr, d.take (k.longest d).length ++ p, by
          rw [List.append_assoc, ← h5, List.take_append_drop]⟩
      · rw [if_neg hfu]
        obtain ⟨h1, h2, h3, h4, p, h5⟩ := ih (k.after (k.find (k.longest d))) _ hlen hak hl'
        exact ⟨h1, h2, h3, fun _ => h4 hr, d.take (k.longest d).length ++ p, by
          rw [List.append_assoc, ← h5, List.take_append_drop]⟩
theorem wrC_greedy : ∀ (n : Nat) (k : KnD) (d e : List UInt8) (m : Nat), d.length ≤ n → (d ++ e).length ≤ m → k.Ok → (∀ b ∈ d, b.toNat < k.c) →
    ∃ m', ((wrC n k d).2.2 ++ e).length ≤ m' ∧ greedyN m k (d ++ e) = (wrC n k d).1 ++ greedyN m' (wrC n k d).2.1 ((wrC n k d).2.2 ++ e) := by
  intro n
  induction n with
  | zero =>
    intro k d e m hd hm hk _
    have : d = [] := List.eq_nil_of_length_eq_zero (by omega)
    subst this
    exact ⟨m, hm, rfl⟩
  | succ n ih =>
    intro k d e m hd hm hk hl
    by_cases hs : d = [] ∨ k.longest d = d
    · rw [wrC_stop hs]
      exact ⟨m, hm, rfl⟩
    · have hd0 : d ≠ [] := fun e => hs (.inl e)
      have hp := KnD.longest_pos (k := k) hd0
      have hle := KnD.longest_le (k := k) d
      have hlo := KnD.longest_more hk e hd0 (fun h => hs (.inr h))
      have hlt : (k.longest d).length < d.length := by
        rcases Nat.lt_or_ge (k.longest d).length d.length with h | h
        · exact h
        · exfalso
          apply hs
          right
          have ht := KnD.longest_take (k := k) d
          rw [show (k.longest d).length = d.length by omega, List.take_length] at ht
          exact ht.symm
      obtain ⟨hf, -⟩ := KnD.find_any hk hd0 hl
      have hak := KnD.after_ok hk hf
      have hl' : ∀ b ∈ d.drop (k.longest d).length, b.toNat < k.c := fun b hb => hl b (List.mem_of_mem_drop hb)
      have hlen : (d.drop (k.longest d).length).length ≤ n := by rw [List.length_drop]; omega
      have hdrop : (d ++ e).drop (k.longest d).length = d.drop (k.longest d).length ++ e := by rw [List.drop_append_of_le_length hle]
      have hde : d ++ e ≠ [] := by simp [hd0]
      have hne : d.drop (k.longest d).length ++ e ≠ [] := fun h => by
        have := congrArg List.length h
        rw [List.length_append, List.length_drop] at this
        simp at this
        omega
      obtain ⟨m, rfl⟩ : ∃ q, m = q + 1 := ⟨m - 1, by rw [List.length_append] at hm; omega⟩
      have hm' : (d.drop (k.longest d).length ++ e).length ≤ m := by rw [List.length_append, List.length_drop]; rw [List.length_append] at hm; omega
      rw [wrC, if_neg hs]
      by_cases hfu : (k.after (k.find (k.longest d))).full = true
      · rw [if_pos hfu]
        obtain ⟨m', h1, h2⟩ := ih (k.after (k.find (k.longest d))).cleared _ e m hlen hm' (KnD.cleared_ok hak) hl'
        refine ⟨m', h1, ?_⟩
        rw [greedyN, if_neg hde, hlo, hdrop, if_pos ⟨hfu, hne⟩, h2]
        rfl
      · rw [if_neg hfu]
        obtain ⟨m', h1, h2⟩ := ih (k.after (k.find (k.longest d))) _ e m hlen hm' hak hl'
        refine ⟨m', h1, ?_⟩
        rw [greedyN, if_neg hde, hlo, hdrop, if_neg (fun h => hfu h.1), h2]
        rfl
theorem wrC_close {m : Nat} {k : KnD} {d : List UInt8} (h : d = [] ∨ k.longest d = d) (hm : d.length ≤ m) : greedyN m k d = (if d = [] then [] else [k.find d]) ++ [(k.c : Int) + 1] := by
  by_cases hd : d = []
  · subst hd
    rw [greedyN_nil, if_pos rfl]
    rfl
  · rcases h with h | h
    · exact absurd h hd
    · obtain ⟨m, rfl⟩ : ∃ q, m = q + 1 := ⟨m - 1, by have := List.length_pos_iff.2 hd; omega⟩
      rw [greedyN, if_neg hd, h, List.drop_length, if_neg (fun h => h.2 rfl), greedyN_nil, if_neg hd]
      rfl
end Go.Proofs.YtgbakgaegldomaaGreat

/- Plain: the bits of codes from a state, and their bytes when they are put into bytes part by part (for the writers). Conditions: as each says. -/
namespace Go.Proofs.YtgbakgaegldomaaGreat
open Go Go.RowKit
theorem packL_append (o : Int) {a b : List UInt8} (h : a.length % 8 = 0) : packL o (a ++ b) = packL o a ++ packL o b := by
  obtain ⟨n, hn⟩ : ∃ n, a.length = 8 * n := ⟨a.length / 8, by omega⟩
  have hpa : padL a = a := by unfold padL; rw [h]; simp
  have hpab : padL (a ++ b) = a ++ padL b := by
    unfold padL
    rw [List.append_assoc, List.length_append]
    congr 3
    omega
  have hlb := padL_length b
  refine List.ext_getElem? fun i => ?_
  unfold packL
  rw [hpa, hpab, List.length_append, hn, hlb, show (8 * n + 8 * ((b.length + 7) / 8)) / 8 = n + (b.length + 7) / 8 by omega, show 8 * n / 8 = n by omega, show 8 * ((b.length + 7) / 8) / 8 = (b.length + 7) / 8 by omega]
  rcases Nat.lt_or_ge i n with hi | hi
  · rw [List.getElem?_append_left (by simp; omega)]
    simp only [List.getElem?_map]
    rw [List.getElem?_range (by omega), List.getElem?_range (by omega)]
    simp only [Option.map_some]
    congr 1
    unfold byteN
    congr 2
    rw [List.drop_append_of_le_length (by omega), List.take_append_of_le_length (by rw [List.length_drop]; omega)]
  · rw [List.getElem?_append_right (by simp; omega)]
    simp only [List.getElem?_map, List.length_map, List.length_range]
    by_cases hb : i < n + (b.length + 7) / 8
    · rw [List.getElem?_range (by omega), List.getElem?_range (by omega)]
      simp only [Option.map_some]
      congr 1
      unfold byteN
      congr 3
      rw [List.drop_append, List.drop_of_length_le (by omega), List.nil_append]
      congr 1
      omega
    · rw [List.getElem?_eq_none (by simp; omega), List.getElem?_eq_none (by simp; omega)]
      rfl
def KnD.thru (k : KnD) (x : Int) : KnD := if x = (k.c : Int) + 1 then k else if x = (k.c : Int) then k.cleared else k.after x
def KnD.thruN (k : KnD) : List Int → KnD
  | [] => k
  | x :: xs => (k.thru x).thruN xs
def bitsS (o : Int) : KnD → List Int → List UInt8
  | _, [] => []
  | k, x :: xs => codeL o x.toNat k.width ++ bitsS o (k.thru x) xs
theorem thruN_app (k : KnD) : ∀ (xs ys : List Int), k.thruN (xs ++ ys) = (k.thruN xs).thruN ys := by
  intro xs
  induction xs generalizing k with
  | nil => intro ys; rfl
  | cons x xs ih => intro ys; exact ih (k.thru x) ys
theorem bitsS_app (o : Int) : ∀ (xs ys : List Int) (k : KnD), bitsS o k (xs ++ ys) = bitsS o k xs ++ bitsS o (k.thruN xs) ys := by
  intro xs
  induction xs with
  | nil => intro ys k; rfl
  | cons x xs ih =>
    intro ys k
    show codeL o x.toNat k.width ++ bitsS o (k.thru x) (xs ++ ys) = _
    rw [ih ys (k.thru x)]
    show _ = (codeL o x.toNat k.width ++ bitsS o (k.thru x) xs) ++ bitsS o ((k.thru x).thruN xs) ys
    rw [List.append_assoc]
theorem bitsS_walk (o : Int) : ∀ (xs : List Int) (k : KnD) (ws : List Int) (d : List UInt8) (W : List Int) (D : List UInt8), walkN k xs ws d = ⟨ws ++ W, D, true⟩ → bitsS o k xs = packC o xs W := by
  intro xs
  induction xs with
  | nil =>
    intro k ws d W D h
    rfl
  | cons x xs ih =>
    intro k ws d W D h
    rcases walkN_ok h rfl with ⟨h1, h2, h3⟩ | ⟨h1, h2⟩ | ⟨h1, h2, h3, h4, -⟩
    · subst h2
      have hW : W = [(k.width : Int)] := by
        have := congrArg WkR.ws h3
        simpa using this
      subst hW
      simp [bitsS, packC]
    · have hpre : ∀ (zs : List Int) (kk : KnD) (vs : List Int) (dd : List UInt8), ∃ V, (walkN kk zs vs dd).ws = vs ++ V := by
        intro zs
        induction zs with
        | nil => intro kk vs dd; exact ⟨[], by simp [walkN]⟩
        | cons z zs ihz =>
          intro kk vs dd
          rw [walkN]
          split
          · exact ⟨_, rfl⟩
          · split
            · obtain ⟨V, hV⟩ := ihz kk.cleared (vs ++ [(kk.width : Int)]) dd
              exact ⟨(kk.width : Int) :: V, by rw [hV]; simp⟩
            · split
              · exact ⟨_, rfl⟩
              · obtain ⟨V, hV⟩ := ihz (kk.after z) (vs ++ [(kk.width : Int)]) (dd ++ kk.any z)
                exact ⟨(kk.width : Int) :: V, by rw [hV]; simp⟩
      obtain ⟨V, hV⟩ := hpre xs k.cleared (ws ++ [(k.width : Int)]) d
      rw [h2] at hV
      have hW : W = (k.width : Int) :: V := by
        have : ws ++ W = ws ++ (k.width : Int) :: V := by simpa using hV
        exact List.append_cancel_left this
      subst hW
      have := ih k.cleared (ws ++ [(k.width : Int)]) d V D (by rw [h2]; simp)
      show codeL o x.toNat k.width ++ bitsS o (k.thru x) xs = _
      rw [show k.thru x = k.cleared by unfold KnD.thru; rw [if_neg (by omega), if_pos h1], this]
      simp [packC]
    · have hpre : ∀ (zs : List Int) (kk : KnD) (vs : List Int) (dd : List UInt8), ∃ V, (walkN kk zs vs dd).ws = vs ++ V := by
        intro zs
        induction zs with
        | nil => intro kk vs dd; exact ⟨[], by simp [walkN]⟩
        | cons z zs ihz =>
          intro kk vs dd
          rw [walkN]
          split
          · exact ⟨_, rfl⟩
          · split
            · obtain ⟨V, hV⟩ := ihz kk.cleared (vs ++ [(kk.width : Int)]) dd
              exact ⟨(kk.width : Int) :: V, by rw [hV]; simp⟩
            · split
              · exact ⟨_, rfl⟩
              · obtain ⟨V, hV⟩ := ihz (kk.after z) (vs ++ [(kk.width : Int)]) (dd ++ kk.any z)
                exact ⟨(kk.width : Int) :: V, by rw [hV]; simp⟩
      obtain ⟨V, hV⟩ := hpre xs (k.after x) (ws ++ [(k.width : Int)]) (d ++ k.any x)
      rw [h4] at hV
      have hW : W = (k.width : Int) :: V := by
        have : ws ++ W = ws ++ (k.width : Int) :: V := by simpa using hV
        exact List.append_cancel_left this
      subst hW
      have := ih (k.after x) (ws ++ [(k.width : Int)]) (d ++ k.any x) V D (by rw [h4]; simp)
      show codeL o x.toNat k.width ++ bitsS o (k.thru x) xs = _
      rw [show k.thru x = k.after x by unfold KnD.thru; rw [if_neg h1, if_neg h2], this]
      simp [packC]
end Go.Proofs.YtgbakgaegldomaaGreat

/- Plain: a writer that gets data in parts writes the stream of all data (for FnWriteAll and the other writers' laws). Conditions: what is known is valid, the data has only literals. -/
namespace Go.Proofs.YtgbakgaegldomaaGreat
open Go Go.RowKit
theorem KnD.thru_fol {k : KnD} (h : k.Ok) {x : Int} (hf : k.follows x = true) : k.thru x = k.after x := by
  have : x ≠ (k.c : Int) + 1 ∧ x ≠ (k.c : Int) := by
    rcases KnD.follows_cases h hf with hc | ⟨hg, rfl, hl⟩
    · rw [codeOk_iff] at hc; omega
    · unfold KnD.next; omega
  unfold KnD.thru
  rw [if_neg this.1, if_neg this.2]
theorem wrC_thru : ∀ (n : Nat) (k : KnD) (d : List UInt8), k.Ok → (∀ b ∈ d, b.toNat < k.c) → (wrC n k d).2.1 = k.thruN (wrC n k d).1 := by
  intro n
  induction n with
  | zero => intro k d _ _; rfl
  | succ n ih =>
    intro k d hk hl
    by_cases hs : d = [] ∨ k.longest d = d
    · rw [wrC_stop hs]; rfl
    · have hd0 : d ≠ [] := fun e => hs (.inl e)
      obtain ⟨hf, -⟩ := KnD.find_any hk hd0 hl
      have hak := KnD.after_ok hk hf
      have hl' : ∀ b ∈ d.drop (k.longest d).length, b.toNat < k.c := fun b hb => hl b (List.mem_of_mem_drop hb)
      rw [wrC, if_neg hs]
      by_cases hfu : (k.after (k.find (k.longest d))).full = true
      · rw [if_pos hfu]
        show _ = ((k.thru _).thru _).thruN _
        rw [KnD.thru_fol hk hf]
        have hc : (k.after (k.find (k.longest d))).thru (k.c : Int) = (k.after (k.find (k.longest d))).cleared := by
          unfold KnD.thru
          rw [if_neg (by show ¬ ((k.c : Int) = (k.c : Int) + 1); omega)]
          exact if_pos rfl
        rw [hc]
        exact ih _ _ (KnD.cleared_ok hak) hl'
      · rw [if_neg hfu]
        show _ = (k.thru _).thruN _
        rw [KnD.thru_fol hk hf]
        exact ih _ _ hak hl'
structure WrD where
  k : KnD
  pend : List UInt8
  bits : List UInt8
  beg : Bool
def WrD.open (w : WrD) : List UInt8 × KnD := if w.beg then (w.bits, w.k) else (w.bits ++ codeL w.k.set.ord w.k.c w.k.width, w.k.cleared)
def WrD.codes (w : WrD) (d : List UInt8) : List Int × KnD × List UInt8 := wrC (w.pend ++ d).length w.open.2 (w.pend ++ d)
def WrD.all (w : WrD) (d : List UInt8) : List UInt8 := w.open.1 ++ bitsS w.k.set.ord w.open.2 (w.codes d).1
def WrD.write (w : WrD) (d : List UInt8) : WrD × List UInt8 :=
  if d = [] then (w, []) else (⟨(w.codes d).2.1, (w.codes d).2.2, (w.all d).drop ((w.all d).length / 8 * 8), true⟩, packL w.k.set.ord ((w.all d).take ((w.all d).length / 8 * 8)))
def WrD.close (w : WrD) : List UInt8 := packL w.k.set.ord (w.open.1 ++ bitsS w.k.set.ord w.open.2 ((if w.pend = [] then [] else [w.open.2.find w.pend]) ++ [(w.k.c : Int) + 1]))
structure WaInv (k0 : KnD) (d : List UInt8) (w : WrD) (out : List UInt8) : Prop where
  ok : w.k.Ok
  set : w.k.set = k0.set
  lits : ∀ b ∈ w.pend, b.toNat < k0.c
  word : w.pend = [] ∨ w.k.longest w.pend = w.pend
  st : (w.beg = false ∧ d = [] ∧ w.pend = [] ∧ w.bits = [] ∧ w.k = k0 ∧ out = []) ∨
    (w.beg = true ∧ ∃ C P, P.length % 8 = 0 ∧ out = packL k0.set.ord P ∧ P ++ w.bits = bitsS k0.set.ord k0 C ∧ w.k = k0.thruN C ∧
      ∀ e m, (d ++ e).length ≤ m → (∀ b ∈ e, b.toNat < k0.c) → ∃ m', (w.pend ++ e).length ≤ m' ∧ (k0.c : Int) :: greedyN m k0.cleared (d ++ e) = C ++ greedyN m' w.k (w.pend ++ e))
theorem WaInv.start {k : KnD} (h : k.Ok) : WaInv k [] ⟨k, [], [], false⟩ [] := ⟨h, rfl, (fun b hb => absurd hb (List.not_mem_nil)), .inl rfl, .inl ⟨rfl, rfl, rfl, rfl, rfl, rfl⟩⟩
theorem thru_clear (k : KnD) : k.thru (k.c : Int) = k.cleared := by
  unfold KnD.thru
  rw [if_neg (by omega), if_pos rfl]
theorem WaInv.next {k0 : KnD} {d x : List UInt8} {w : WrD} {out : List UInt8} (hk0 : k0.Ok) (h : WaInv k0 d w out) (hx : ∀ b ∈ x, b.toNat < k0.c) : WaInv k0 (d ++ x) (w.write x).1 (out ++ (w.write x).2) := by
  by_cases hx0 : x = []
  · subst hx0
    unfold WrD.write
    rw [if_pos rfl, List.append_nil, List.append_nil]
    exact h
  obtain ⟨hk, hset, hlp, hword, hst⟩ := h
  have hc : w.k.c = k0.c := by unfold KnD.c; rw [hset]
  have hlx : ∀ b ∈ w.pend ++ x, b.toNat < k0.c := fun b hb => (List.mem_append.1 hb).elim (hlp b) (hx b)
  have hB := List.take_append_drop ((w.all x).length / 8 * 8) (w.all x)
  have hT : ((w.all x).take ((w.all x).length / 8 * 8)).length % 8 = 0 := by rw [List.length_take]; omega
  unfold WrD.write
  rw [if_neg hx0]
  rcases hst with ⟨b1, rfl, b3, b4, b5, rfl⟩ | ⟨b1, C, P, p1, p2, p3, p4, p5⟩
  · have ho : w.open = (codeL k0.set.ord k0.c k0.width, k0.cleared) := by unfold WrD.open; rw [b1, b4, b5]; simp
    have hcd : w.codes x = wrC x.length k0.cleared x := by unfold WrD.codes; rw [ho, b3]; rfl
    obtain ⟨q1, q2, q3, q4, q, q5⟩ := wrC_end x.length k0.cleared x (Nat.le_refl _) (KnD.cleared_ok hk0) hx
    have hth := wrC_thru x.length k0.cleared x (KnD.cleared_ok hk0) hx
    have hall : w.all x = bitsS k0.set.ord k0 ((k0.c : Int) :: (wrC x.length k0.cleared x).1) := by
      unfold WrD.all
      rw [hcd, ho, hset]
      show codeL k0.set.ord k0.c k0.width ++ _ = codeL k0.set.ord (k0.c : Int).toNat k0.width ++ bitsS k0.set.ord (k0.thru (k0.c : Int)) _
      rw [thru_clear]
      rfl
    refine ⟨by rw [hcd]; exact q1, by rw [hcd]; exact q2, fun b hb => hx b ?_, by rw [hcd]; exact q3, .inr ⟨rfl, (k0.c : Int) :: (wrC x.length k0.cleared x).1, _, hT, by rw [hset]; rfl, by rw [hB, hall], ?_, fun e m hm he => ?_⟩⟩
    · rw [hcd] at hb
      rw [q5]
      exact List.mem_append_right _ hb
    · rw [hcd, hth]
      show _ = (k0.thru (k0.c : Int)).thruN _
      rw [thru_clear]
    · rw [hcd]
      obtain ⟨m', r1, r2⟩ := wrC_greedy x.length k0.cleared x e m (Nat.le_refl _) hm (KnD.cleared_ok hk0) hx
      exact ⟨m', r1, by
        show (k0.c : Int) :: greedyN m k0.cleared (x ++ e) = _
        rw [r2]; rfl⟩
  · have ho : w.open = (w.bits, w.k) := by unfold WrD.open; rw [b1]; rfl
    have hcd : w.codes x = wrC (w.pend ++ x).length w.k (w.pend ++ x) := by unfold WrD.codes; rw [ho]
    have hlw : ∀ b ∈ w.pend ++ x, b.toNat < w.k.c := fun b hb => by rw [hc]; exact hlx b hb
    obtain ⟨q1, q2, q3, q4, q, q5⟩ := wrC_end (w.pend ++ x).length w.k (w.pend ++ x) (Nat.le_refl _) hk hlw
    have hth := wrC_thru (w.pend ++ x).length w.k (w.pend ++ x) hk hlw
    have hall : P ++ w.all x = bitsS k0.set.ord k0 (C ++ (wrC (w.pend ++ x).length w.k (w.pend ++ x)).1) := by
      unfold WrD.all
      rw [hcd, ho, hset, bitsS_app, ← p3, ← p4, List.append_assoc]
    refine ⟨by rw [hcd]; exact q1, by rw [hcd]; exact q2.trans hset, fun b hb => hlx b ?_, by rw [hcd]; exact q3, .inr ⟨rfl, C ++ (wrC (w.pend ++ x).length w.k (w.pend ++ x)).1, P ++ (w.all x).take ((w.all x).length / 8 * 8), ?_, ?_, ?_, ?_, fun e m hm he => ?_⟩⟩
    · rw [hcd] at hb
      rw [q5]
      exact List.mem_append_right _ hb
    · rw [List.length_append]; omega
    · rw [p2, hset, packL_append _ p1]
    · rw [List.append_assoc, hB, hall]
    · rw [hcd, hth, thruN_app, ← p4]
    · rw [hcd]
      have hxe : ∀ b ∈ x ++ e, b.toNat < k0.c := fun b hb => (List.mem_append.1 hb).elim (hx b) (he b)
      obtain ⟨m1, r1, r2⟩ := p5 (x ++ e) m (by rw [← List.append_assoc]; exact hm) hxe
      rw [show w.pend ++ (x ++ e) = (w.pend ++ x) ++ e from (List.append_assoc ..).symm] at r1 r2
      obtain ⟨m', s1, s2⟩ := wrC_greedy (w.pend ++ x).length w.k (w.pend ++ x) e m1 (Nat.le_refl _) r1 hk hlw
      exact ⟨m', s1, by rw [List.append_assoc d x e, r2, s2]; exact (List.append_assoc ..).symm⟩
theorem WaInv.fin {k0 : KnD} {d : List UInt8} {w : WrD} {out : List UInt8} (hk0 : k0.Ok) (hl : ∀ b ∈ d, b.toNat < k0.c) (hd : d.length ≤ 2000) (h : WaInv k0 d w out) : out ++ w.close = compL k0 d := by
  obtain ⟨g1, g2, g3, g4, g5⟩ := walk_greedy hk0 hl hd
  have hT : walkN k0 (greedy k0 d) [] [] = ⟨[] ++ (walkN k0 (greedy k0 d) [] []).ws, d, true⟩ := by
    generalize walkN k0 (greedy k0 d) [] [] = T at *
    obtain ⟨a, b, c⟩ := T
    simp only at g2 g3
    rw [g2, g3]; rfl
  have hb := bitsS_walk k0.set.ord _ _ _ _ _ _ hT
  have hcomp : compL k0 d = packL k0.set.ord (bitsS k0.set.ord k0 (greedy k0 d)) := by unfold compL; rw [hb]
  obtain ⟨hk, hset, hlp, hword, hst⟩ := h
  have hc : w.k.c = k0.c := by unfold KnD.c; rw [hset]
  rw [hcomp]
  unfold WrD.close
  rcases hst with ⟨b1, rfl, b3, b4, b5, rfl⟩ | ⟨b1, C, P, p1, p2, p3, p4, p5⟩
  · have ho : w.open = (codeL k0.set.ord k0.c k0.width, k0.cleared) := by unfold WrD.open; rw [b1, b4, b5]; simp
    rw [ho, b3, if_pos rfl, hset, hc, List.nil_append, List.nil_append]
    unfold greedy
    rw [greedyN_nil]
    show packL _ (codeL k0.set.ord k0.c k0.width ++ _) = packL _ (codeL k0.set.ord (k0.c : Int).toNat k0.width ++ bitsS k0.set.ord (k0.thru (k0.c : Int)) _)
    rw [thru_clear]
    rfl
  · have ho : w.open = (w.bits, w.k) := by unfold WrD.open; rw [b1]; rfl
    obtain ⟨m', r1, r2⟩ := p5 [] d.length (by simp) (fun b hb => absurd hb (List.not_mem_nil))
    rw [List.append_nil, List.append_nil] at r2
    rw [List.append_nil] at r1
    have hg : greedy k0 d = C ++ greedyN m' w.k w.pend := r2
    rw [wrC_close hword r1, hc] at hg
    rw [ho, hg, bitsS_app k0.set.ord C, ← p3, ← p4, p2, hset, hc, ← packL_append _ p1, List.append_assoc]
end Go.Proofs.YtgbakgaegldomaaGreat

/- Plain: writing in parts is writing at once (for FnWriteParts and FnWriteBits). Conditions: the writer is valid, the data has only literals. -/
namespace Go.Proofs.YtgbakgaegldomaaGreat
open Go Go.RowKit
theorem KnD.longest_lt {k : KnD} {d : List UInt8} (hs : k.longest d ≠ d) : (k.longest d).length < d.length := by
  have hle := KnD.longest_le (k := k) d
  rcases Nat.lt_or_ge (k.longest d).length d.length with h | h
  · exact h
  · exfalso
    apply hs
    have ht := KnD.longest_take (k := k) d
    rw [show (k.longest d).length = d.length by omega, List.take_length] at ht
    exact ht.symm
theorem WrD.open_ok {w : WrD} (h : w.k.Ok) : w.open.2.Ok ∧ w.open.2.set = w.k.set := by
  unfold WrD.open
  split
  · exact ⟨h, rfl⟩
  · exact ⟨KnD.cleared_ok h, rfl⟩
end Go.Proofs.YtgbakgaegldomaaGreat

/- Walks of the program's and of the reference's KnownValid, for what is known of any kind. Conditions: the pairs can be read. -/
namespace Go.Proofs.YtgbakgaegldomaaGreat
open Go Go.RowKit
def pairOk (s : SetD) (i : Nat) (p : PairD) : Bool := codeOk (clr s) i p.pre && (decide (0 ≤ p.byt) && decide (p.byt < (clr s : Int)))
def roomOk (k : KnD) : Bool := decide ((k.ps.length : Int) ≤ (lastC k.set : Int) - ((clr k.set : Int) + 1))
def pairsOk (k : KnD) : Bool := (List.range k.ps.length).all fun i => pairOk k.set i (k.ps.getD i ⟨0, 0⟩)
def lastOk (k : KnD) : Bool := if k.last = -1 then decide (k.base = k.ps.length) else codeOk (clr k.set) k.ps.length k.last
def validK (k : KnD) : Bool := setOk k.set && (roomOk k && (pairsOk k && (inB k.base 0 k.ps.length && lastOk k)))
theorem pairsOk_no {k : KnD} {j : Nat} (h : j < k.ps.length) (hp : pairOk k.set j k.ps[j] = false) : pairsOk k = false := by
  cases e : pairsOk k
  · rfl
  · unfold pairsOk at e
    rw [List.all_eq_true] at e
    have := e j (List.mem_range.2 h)
    rw [List.getD_eq_getElem?_getD, List.getElem?_eq_getElem h, Option.getD_some, hp] at this
    cases this
theorem pairsOk_yes {k : KnD} (h : ∀ j (hj : j < k.ps.length), pairOk k.set j k.ps[j] = true) : pairsOk k = true := by
  unfold pairsOk
  rw [List.all_eq_true]
  intro j hj
  have hj := List.mem_range.1 hj
  rw [List.getD_eq_getElem?_getD, List.getElem?_eq_getElem hj]
  exact h j hj
theorem validK_pairs {k : KnD} (h : pairsOk k = false) : validK k = false := by unfold validK; rw [h]; simp
theorem validK_base {k : KnD} (h : inB k.base 0 k.ps.length = false) : validK k = false := by unfold validK; rw [h]; simp
theorem validK_last {k : KnD} (h1 : setOk k.set = true) (h2 : roomOk k = true) (h3 : pairsOk k = true) (h4 : inB k.base 0 k.ps.length = true) : validK k = lastOk k := by unfold validK; rw [h1, h2, h3, h4]; rfl
theorem pairOk_of {s : SetD} {i : Nat} {p : PairD} (h : codeOk (clr s) i p.pre = true) (h0 : 0 ≤ p.byt) (h1 : p.byt < (clr s : Int)) : pairOk s i p = true := by unfold pairOk; rw [h, decide_eq_true h0, decide_eq_true h1]; rfl
theorem pairOk_not {s : SetD} {i : Nat} {p : PairD} (h : codeOk (clr s) i p.pre = false ∨ p.byt < 0 ∨ (clr s : Int) ≤ p.byt) : pairOk s i p = false := by
  unfold pairOk
  rcases h with h | h | h
  · rw [h]; rfl
  · rw [show decide (0 ≤ p.byt) = false by simp; omega]; simp
  · rw [show decide (p.byt < (clr s : Int)) = false by simp; omega]; simp
def RelKg (k : KnD) (v : Value) (w : World) (i : Value) (wr : World) : Prop := ∃ j : Nat, j ≤ k.ps.length ∧ i = .int .i64 j ∧ (∀ q (h : q < k.ps.length), q < j → pairOk k.set q k.ps[q] = true) ∧ Up w wr ∧ KnAt w.heap.size k v wr ∧ SetAt (w.heap.size + 1) k.set.ord k.set.lit k.set.most wr
set_option maxRecDepth 100000 in
set_option maxHeartbeats 8000000 in
theorem kvI_gen (k : KnD) (v : Value) (lo : Nat) (w : World) (hl : -9223372036854775808 ≤ k.set.lit ∧ k.set.lit ≤ 9223372036854775807) (hr : RdP lo w v k.ps) (hps : k.ps.length ≤ 1073741824) :
    Calls Tryz.prog 39  #[kV k v] w (Same (.bool (validK k)) w) := by
  have cS := fun w => setI_any k.set.ord k.set.lit k.set.most w hl
  rw [setD_eta] at cS
  have hrt := fun (wq : World) (hu : Up w wq) => hr.up hu
  obtain ⟨a, cap, rfl, hc1, hc2, hc3, hsome⟩ := hr
  unfold maxLen at hc2
  cases h1 : setOk k.set
  · have HV : Hid (validK k = false) := by unfold Hid validK; rw [h1]; rfl
    rw [h1] at cS
    rw [HV.out]
    clear h1 hsome hc3
    simp only [kV, setV] at *
    go_enter Tryz.func39, Tryz.ntmps39
    go_wp2
    refine wp_region_up 14 (by kernel_rfl) (by kernel_rfl) ?_
    simp only [List.take, List.drop]
    repeat (refine wpUp_step (fun K hK => ?_); go_simp; (try simp only [↓IntWalk.iteOmega]); first
      | (refine hK _ _ ?_; clear hK K)
      | (apply stepU_c
         · intro wq hwq; (have hbq := bcell hwq; (repeat (first | refine fills_no (by rfl) ?_ | refine fills_yes (by rfl) (fun vq hvq => ?_))); simp only [List.filter_nil, fills]; unfold upAt; go_simp; (try go_bits); (try simp only [↓IntWalk.iteOmega]); (try (rw [dif_pos (by omega)]; go_simp; try go_bits)); first | exact upOut_value | (apply upOut_call; (go_at_call 91; exact cS _)) | (apply upOut_eq; (go_at_call 91; exact cS _)))
         go_simp; refine hK _ _ ?_; clear hK K))
    refine wpUp_nil (fun wq hwq => ?_)
    simp only [fills]
    go_wp2
    go_ret
    refine ⟨rfl, ?_⟩
    (repeat (first | exact Up.refl _ | refine Up.alloc ?_ _ | refine Up.drew ?_ | refine Up.set ?_ (by first | exact Nat.le_refl _ | (simp; done) | (simp; omega)) _ | refine Up.trans ?_ (by with_reducible assumption)))
  have cL := fun w => lastI_any k.set w h1
  have cE := fun w => endI_any k.set w h1
  have cC := fun w => clearI_any k.set w h1
  have cK := fun x n w hn => hasI_any k.set n x w h1 hn
  obtain ⟨n1, n2, n3, n4⟩ := setOk_bd h1
  have hcb := clr_bd h1
  have H1 := Lib.hid h1
  rw [h1] at cS
  by_cases h2 : (k.ps.length : Int) > (lastC k.set : Int) - ((clr k.set : Int) + 1)
  · have HV : Hid (validK k = false) := by unfold Hid validK roomOk; rw [h1, decide_eq_false (by omega)]; rfl
    rw [HV.out]
    clear h1 hsome hc3
    simp only [kV, setV] at *
    go_enter Tryz.func39, Tryz.ntmps39
    go_wp2
    refine wp_region_up 14 (by kernel_rfl) (by kernel_rfl) ?_
    simp only [List.take, List.drop]
    repeat (refine wpUp_step (fun K hK => ?_); go_simp; (try simp only [↓IntWalk.iteOmega]); first
      | (refine hK _ _ ?_; clear hK K)
      | (apply stepU_c
         · intro wq hwq; (have hbq := bcell hwq; (repeat (first | refine fills_no (by rfl) ?_ | refine fills_yes (by rfl) (fun vq hvq => ?_))); simp only [List.filter_nil, fills]; unfold upAt; go_simp; (try go_bits); (try simp only [↓IntWalk.iteOmega]); (try (rw [dif_pos (by omega)]; go_simp; try go_bits)); first | exact upOut_value | (apply upOut_call; (go_at_call 91; exact cS _)) | (apply upOut_eq; (go_at_call 91; exact cS _)) | (apply upOut_call; (go_at_call 92; exact cL _)) | (apply upOut_eq; (go_at_call 92; exact cL _)) | (apply upOut_call; (go_at_call 76; exact cE _)) | (apply upOut_eq; (go_at_call 76; exact cE _)))
         go_simp; refine hK _ _ ?_; clear hK K))
    refine wpUp_nil (fun wq hwq => ?_)
    simp only [fills]
    go_wp2
    go_ret
    refine ⟨rfl, ?_⟩
    (repeat (first | exact Up.refl _ | refine Up.alloc ?_ _ | refine Up.drew ?_ | refine Up.set ?_ (by first | exact Nat.le_refl _ | (simp; done) | (simp; omega)) _ | refine Up.trans ?_ (by with_reducible assumption)))
  have HR : Hid (roomOk k = true) := by unfold Hid roomOk; exact decide_eq_true (by omega)
  clear h1
  simp only [kV, setV] at *
  go_enter Tryz.func39, Tryz.ntmps39
  go_wp2
  refine wp_region_up 14 (by kernel_rfl) (by kernel_rfl) ?_
  simp only [List.take, List.drop]
  repeat (refine wpUp_step (fun K hK => ?_); go_simp; (try simp only [↓IntWalk.iteOmega]); first
    | (refine hK _ _ ?_; clear hK K)
    | (apply stepU_c
       · intro wq hwq; (have hbq := bcell hwq; (repeat (first | refine fills_no (by rfl) ?_ | refine fills_yes (by rfl) (fun vq hvq => ?_))); simp only [List.filter_nil, fills]; unfold upAt; go_simp; (try go_bits); (try simp only [↓IntWalk.iteOmega]); (try (rw [dif_pos (by omega)]; go_simp; try go_bits)); first | exact upOut_value | (apply upOut_call; (go_at_call 91; exact cS _)) | (apply upOut_eq; (go_at_call 91; exact cS _)) | (apply upOut_call; (go_at_call 92; exact cL _)) | (apply upOut_eq; (go_at_call 92; exact cL _)) | (apply upOut_call; (go_at_call 76; exact cE _)) | (apply upOut_eq; (go_at_call 76; exact cE _)))
       go_simp; refine hK _ _ ?_; clear hK K))
  refine wpUp_nil (fun wq hwq => ?_)
  simp only [fills]
  have BQ := bcell hwq
  have hU1 : Up w wq := by (repeat (first | exact Up.refl _ | refine Up.alloc ?_ _ | refine Up.drew ?_ | refine Up.set ?_ (by first | exact Nat.le_refl _ | (simp; done) | (simp; omega)) _ | refine Up.trans ?_ (by with_reducible assumption)))
  have hKA : KnAt w.heap.size k (.slice a k.ps.length cap) wq := box_up hwq (box_up ((Up.refl _).alloc _) (MapKept.heap_alloc w _).1)
  have hSA : SetAt (w.heap.size + 1) k.set.ord k.set.lit k.set.most wq := box_up hwq (alloc2 w _ _)
  go_wp2
  go_loopw [25] (fun i wr => RelKg k (.slice a k.ps.length cap) w i wr) (fun i _ => k.ps.length - (intOf i).toNat)
  case atStart => exact ⟨0, Nat.zero_le _, rfl, fun q h hq => absurd hq (Nat.not_lt_zero _), hU1, hKA, hSA⟩
  case round =>
    clear hKA hSA hU1 hwq BQ h2
    obtain ⟨j, hj, rfl, hall, hup, hkn, hst⟩ := hrel
    have HALL := Lib.hid hall
    obtain ⟨b0, r0, r1, r2, r3, r4, r5⟩ := hkn.cells
    obtain ⟨b1, s0, s1, s2⟩ := hst.cells
    have HKN := Lib.hid hkn
    have HST := Lib.hid hst
    clear hkn hst hall
    by_cases hlt : j < k.ps.length
    · obtain ⟨b, off, rfl, hlo, hbl, hcells⟩ := hsome (by omega)
      obtain ⟨q0, q1⟩ := hcells j k.ps[j] (List.getElem?_eq_getElem hlt)
      clear hcells
      have cKj := fun w => cK k.ps[j].pre j w (by omega)
      have p0 := (hup.cell (p := ⟨b, off + j * 2, none⟩) hbl).trans q0
      have p1 := (hup.cell (p := ⟨b, off + j * 2 + 1, none⟩) hbl).trans q1
      have HNO : Hid ((codeOk (clr k.set) j (k.ps[j]).pre = false ∨ (k.ps[j]).byt < 0 ∨ (clr k.set : Int) ≤ (k.ps[j]).byt) → validK k = false) := fun h => validK_pairs (pairsOk_no hlt (pairOk_not h))
      have HYES : Hid (codeOk (clr k.set) j (k.ps[j]).pre = true → 0 ≤ (k.ps[j]).byt → (k.ps[j]).byt < (clr k.set : Int) → ∀ q (h : q < k.ps.length), q < j + 1 → pairOk k.set q k.ps[q] = true) := fun e1 e2 e3 q h hq => by
        rcases Nat.lt_or_ge q j with h' | h'
        · exact HALL.out q h h'
        · have : q = j := by omega
          subst this
          exact pairOk_of e1 e2 e3
      have hbl2 := Nat.lt_of_lt_of_le hbl hup.size
      generalize k.ps[j].pre = xp at *
      generalize k.ps[j].byt = xb at *
      clear cK
      cases hco : codeOk (clr k.set) j xp
      · have HV : Hid (validK k = false) := HNO.out (.inl hco)
        rw [hco] at cKj
        clear hco HNO HYES
        go_wp2
        refine wp_region_up 18 (by kernel_rfl) (by kernel_rfl) ?_
        simp only [List.take, List.drop]
        repeat (refine wpUp_step (fun K hK => ?_); go_simp; (try simp only [↓IntWalk.iteOmega]); first
          | (refine hK _ _ ?_; clear hK K)
          | (apply stepU_c
             · intro wq hwq; (have hbq := bcell hwq; (repeat (first | refine fills_no (by rfl) ?_ | refine fills_yes (by rfl) (fun vq hvq => ?_))); simp only [List.filter_nil, fills]; unfold upAt; go_simp; (try go_bits); (try simp only [↓IntWalk.iteOmega]); (try (rw [dif_pos (by omega)]; go_simp; try go_bits)); first | exact upOut_value | (apply upOut_call; (go_at_call 93; exact cKj _)) | (apply upOut_eq; (go_at_call 93; exact cKj _)) | (apply upOut_call; (go_at_call 47; exact cC _)) | (apply upOut_eq; (go_at_call 47; exact cC _)))
             go_simp; refine hK _ _ ?_; clear hK K))
        refine wpUp_nil (fun wq hwq => ?_)
        simp only [fills]
        go_wp2
        go_ret
        refine ⟨by rw [HV.out]; rfl, ?_⟩
        (repeat (first | exact Up.refl _ | refine Up.alloc ?_ _ | refine Up.drew ?_ | refine Up.set ?_ (by first | exact Nat.le_refl _ | (simp; done) | (simp; omega)) _ | refine Up.trans ?_ (by with_reducible assumption)))
      · rw [hco] at cKj
        by_cases hx0 : xb < 0
        · have HV : Hid (validK k = false) := HNO.out (.inr (.inl hx0))
          clear hco HNO HYES
          go_wp2
          refine wp_region_up 18 (by kernel_rfl) (by kernel_rfl) ?_
          simp only [List.take, List.drop]
          repeat (refine wpUp_step (fun K hK => ?_); go_simp; (try simp only [↓IntWalk.iteOmega]); first
            | (refine hK _ _ ?_; clear hK K)
            | (apply stepU_c
               · intro wq hwq; (have hbq := bcell hwq; (repeat (first | refine fills_no (by rfl) ?_ | refine fills_yes (by rfl) (fun vq hvq => ?_))); simp only [List.filter_nil, fills]; unfold upAt; go_simp; (try go_bits); (try simp only [↓IntWalk.iteOmega]); (try (rw [dif_pos (by omega)]; go_simp; try go_bits)); first | exact upOut_value | (apply upOut_call; (go_at_call 93; exact cKj _)) | (apply upOut_eq; (go_at_call 93; exact cKj _)) | (apply upOut_call; (go_at_call 47; exact cC _)) | (apply upOut_eq; (go_at_call 47; exact cC _)))
               go_simp; refine hK _ _ ?_; clear hK K))
          refine wpUp_nil (fun wq hwq => ?_)
          simp only [fills]
          go_wp2
          go_ret
          refine ⟨by rw [HV.out]; rfl, ?_⟩
          (repeat (first | exact Up.refl _ | refine Up.alloc ?_ _ | refine Up.drew ?_ | refine Up.set ?_ (by first | exact Nat.le_refl _ | (simp; done) | (simp; omega)) _ | refine Up.trans ?_ (by with_reducible assumption)))
        · by_cases hxc : xb ≥ (clr k.set : Int)
          · have HV : Hid (validK k = false) := HNO.out (.inr (.inr hxc))
            clear hco HNO HYES
            go_wp2
            refine wp_region_up 18 (by kernel_rfl) (by kernel_rfl) ?_
            simp only [List.take, List.drop]
            repeat (refine wpUp_step (fun K hK => ?_); go_simp; (try simp only [↓IntWalk.iteOmega]); first
              | (refine hK _ _ ?_; clear hK K)
              | (apply stepU_c
                 · intro wq hwq; (have hbq := bcell hwq; (repeat (first | refine fills_no (by rfl) ?_ | refine fills_yes (by rfl) (fun vq hvq => ?_))); simp only [List.filter_nil, fills]; unfold upAt; go_simp; (try go_bits); (try simp only [↓IntWalk.iteOmega]); (try (rw [dif_pos (by omega)]; go_simp; try go_bits)); first | exact upOut_value | (apply upOut_call; (go_at_call 93; exact cKj _)) | (apply upOut_eq; (go_at_call 93; exact cKj _)) | (apply upOut_call; (go_at_call 47; exact cC _)) | (apply upOut_eq; (go_at_call 47; exact cC _)))
                 go_simp; refine hK _ _ ?_; clear hK K))
            refine wpUp_nil (fun wq hwq => ?_)
            simp only [fills]
            go_wp2
            go_ret
            refine ⟨by rw [HV.out]; rfl, ?_⟩
            (repeat (first | exact Up.refl _ | refine Up.alloc ?_ _ | refine Up.drew ?_ | refine Up.set ?_ (by first | exact Nat.le_refl _ | (simp; done) | (simp; omega)) _ | refine Up.trans ?_ (by with_reducible assumption)))
          · have HY : Hid (∀ q (h : q < k.ps.length), q < j + 1 → pairOk k.set q k.ps[q] = true) := HYES.out hco (by omega) (by omega)
            clear hco HNO HYES
            go_wp2
            refine wp_region_up 18 (by kernel_rfl) (by kernel_rfl) ?_
            simp only [List.take, List.drop]
            repeat (refine wpUp_step (fun K hK => ?_); go_simp; (try simp only [↓IntWalk.iteOmega]); first
              | (refine hK _ _ ?_; clear hK K)
              | (apply stepU_c
                 · intro wq hwq; (have hbq := bcell hwq; (repeat (first | refine fills_no (by rfl) ?_ | refine fills_yes (by rfl) (fun vq hvq => ?_))); simp only [List.filter_nil, fills]; unfold upAt; go_simp; (try go_bits); (try simp only [↓IntWalk.iteOmega]); (try (rw [dif_pos (by omega)]; go_simp; try go_bits)); first | exact upOut_value | (apply upOut_call; (go_at_call 93; exact cKj _)) | (apply upOut_eq; (go_at_call 93; exact cKj _)) | (apply upOut_call; (go_at_call 47; exact cC _)) | (apply upOut_eq; (go_at_call 47; exact cC _)))
                 go_simp; refine hK _ _ ?_; clear hK K))
            refine wpUp_nil (fun wq hwq => ?_)
            simp only [fills]
            go_wp2
            go_roundw
            case rel => exact ⟨j + 1, by omega, by go_num, HY.out, by (repeat (first | exact Up.refl _ | refine Up.alloc ?_ _ | refine Up.drew ?_ | refine Up.set ?_ (by first | exact Nat.le_refl _ | (simp; done) | (simp; omega)) _ | refine Up.trans ?_ (by with_reducible assumption))), box_up hwq (box_up ((Up.refl _).alloc _) HKN.out), box_up hwq (box_up ((Up.refl _).alloc _) HST.out)⟩
            case measure => simp [intOf]; omega
    · have HP : Hid (pairsOk k = true) := pairsOk_yes fun q h => HALL.out q h (by omega)
      by_cases hb1 : k.base < 0
      · have HV : Hid (validK k = false) := validK_base (inB_not.2 (.inl hb1))
        go_wp2
        go_ret
        refine ⟨by rw [HV.out]; rfl, ?_⟩
        (repeat (first | exact Up.refl _ | refine Up.alloc ?_ _ | refine Up.drew ?_ | refine Up.set ?_ (by first | exact Nat.le_refl _ | (simp; done) | (simp; omega)) _ | refine Up.trans ?_ (by with_reducible assumption)))
      by_cases hb2 : k.base > (k.ps.length : Int)
      · have HV : Hid (validK k = false) := validK_base (inB_not.2 (.inr hb2))
        go_wp2
        go_ret
        refine ⟨by rw [HV.out]; rfl, ?_⟩
        (repeat (first | exact Up.refl _ | refine Up.alloc ?_ _ | refine Up.drew ?_ | refine Up.set ?_ (by first | exact Nat.le_refl _ | (simp; done) | (simp; omega)) _ | refine Up.trans ?_ (by with_reducible assumption)))
      have HV : Hid (validK k = lastOk k) := validK_last H1.out HR.out HP.out (inB_iff.2 ⟨by omega, by omega⟩)
      by_cases hla : k.last = -1
      · have HL : Hid (lastOk k = decide (k.base = k.ps.length)) := by unfold Hid lastOk; rw [if_pos hla]
        rw [hla] at r5
        clear hla
        go_wp2
        go_ret
        refine ⟨by rw [HV.out, HL.out]; rfl, ?_⟩
        (repeat (first | exact Up.refl _ | refine Up.alloc ?_ _ | refine Up.drew ?_ | refine Up.set ?_ (by first | exact Nat.le_refl _ | (simp; done) | (simp; omega)) _ | refine Up.trans ?_ (by with_reducible assumption)))
      · have HL : Hid (lastOk k = codeOk (clr k.set) k.ps.length k.last) := by unfold Hid lastOk; rw [if_neg hla]
        have cKj := fun w => cK k.last k.ps.length w (by omega)
        go_wp2_with (first | (go_at_call 93; (with_reducible refine (cKj _).mono ?_); rintro e w1 ⟨rfl, U1⟩; have B1 := bcell U1; have Z1 := U1.size; (try simp at Z1); (try rw [Nat.add_one_le_iff] at Z1)))
        go_ret
        refine ⟨by rw [HV.out, HL.out]; rfl, ?_⟩
        (repeat (first | exact Up.refl _ | refine Up.alloc ?_ _ | refine Up.drew ?_ | refine Up.set ?_ (by first | exact Nat.le_refl _ | (simp; done) | (simp; omega)) _ | refine Up.trans ?_ (by with_reducible assumption)))
end Go.Proofs.YtgbakgaegldomaaGreat

/- Plain facts: what is valid is what the walks ask; pairs are read on after draws. Conditions: none. -/
namespace Go.Proofs.YtgbakgaegldomaaGreat
open Go Go.RowKit
theorem ok_of_valid {k : KnD} (h : validK k = true) : k.Ok ∧ (k.last = -1 → k.base = k.ps.length) := by
  unfold validK at h
  simp only [Bool.and_eq_true] at h
  obtain ⟨h1, h2, h3, h4, h5⟩ := h
  have hc := clr_bd h1
  unfold roomOk at h2
  rw [decide_eq_true_eq] at h2
  rw [inB_iff] at h4
  refine ⟨⟨h1, fun i hi => ?_, ?_, h4.1, h4.2, ?_⟩, fun hl => ?_⟩
  · rw [prOk_get hi]
    unfold pairsOk at h3
    rw [List.all_eq_true] at h3
    have := h3 i (List.mem_range.2 hi)
    rw [List.getD_eq_getElem?_getD, List.getElem?_eq_getElem hi, Option.getD_some] at this
    exact this
  · show k.ps.length + clr k.set + 1 ≤ lastC k.set
    omega
  · unfold lastOk at h5
    split at h5
    · exact .inl ‹_›
    · exact .inr h5
  · unfold lastOk at h5
    rw [if_pos hl] at h5
    simpa using h5
theorem RdP.gr {lo rb : Nat} {w w' : World} {v : Value} {ps : List PairD} (h : RdP lo w v ps) (hg : w.grownBy w' (some rb)) (hl : rb < lo) : RdP lo w' v ps := by
  obtain ⟨a, cap, h1, h2, h2', h2'', h3⟩ := h
  refine ⟨a, cap, h1, h2, h2', h2'', fun hp => ?_⟩
  obtain ⟨b, off, e1, e2, e4, e5⟩ := h3 hp
  have hne : some b ≠ some rb := fun e => by cases e; omega
  exact ⟨b, off, e1, e2, Nat.lt_of_lt_of_le e4 hg.size, fun i p hi => ⟨((gcell hg).1 b _ e4 hne).trans (e5 i p hi).1, ((gcell hg).1 b _ e4 hne).trans (e5 i p hi).2⟩⟩
theorem RdP.set {lo : Nat} {w : World} {v : Value} {ps : List PairD} (h : RdP lo w v ps) {b : Nat} (hl : b < lo) (i : Nat) (u : Value) : RdP lo (w.setCell ⟨b, i, none⟩ u) v ps :=
  h.gr (grownBy_set (grownBy_refl w (some b)) i u) hl
end Go.Proofs.YtgbakgaegldomaaGreat

