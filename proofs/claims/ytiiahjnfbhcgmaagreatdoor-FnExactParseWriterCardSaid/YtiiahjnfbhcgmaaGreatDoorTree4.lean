/- What the functions that write the tree of words leave; the nodes' row behind a new node; an append's block. Conditions: as each says. -/
import Derived.Test.YtiiahjnfbhcgmaaGreatDoorTree3
import Derived.Test.YtiiahjnfbhcgmaaGreatDoorAfter
import Derived.Test.YtiiahjnfbhcgmaaGreatDoorBa
namespace Go.Proofs.YtiiahjnfbhcgmaaGreatDoor
set_option linter.unusedVariables false
set_option linter.unusedSimpArgs false
open Go Go.RowKit

/-- Nothing that was there has turned but the blocks of O. -/
structure Fr (O : Nat → Prop) (w w' : World) : Prop where
  os : w'.os = w.os
  tape : w'.tape = w.tape
  output : w'.output = w.output
  size : w.heap.size ≤ w'.heap.size
  block : ∀ b, b < w.heap.size → ¬ O b → w'.heap[b]? = w.heap[b]?
theorem Fr.refl (O : Nat → Prop) (w : World) : Fr O w w := ⟨rfl, rfl, rfl, Nat.le_refl _, fun _ _ _ => rfl⟩
theorem Fr.trans {O O' : Nat → Prop} {a b c : World} (h : Fr O a b) (k : Fr O' b c) (hO : ∀ x, O' x → O x ∨ a.heap.size ≤ x) : Fr O a c :=
  ⟨k.os.trans h.os, k.tape.trans h.tape, k.output.trans h.output, Nat.le_trans h.size k.size, fun x hx hn => (k.block x (Nat.lt_of_lt_of_le hx h.size) (fun e => by
    rcases hO x e with h1 | h1
    · exact hn h1
    · omega)).trans (h.block x hx hn)⟩
theorem Fr.of {w w' : World} (O : Nat → Prop) (h : Up w w') : Fr O w w' := ⟨h.os, h.tape, h.output, h.size, fun b hb _ => h.block b hb⟩
theorem Fr.up {O : Nat → Prop} {a w w' : World} (h : Fr O a w) (hu : Up w w') : Fr O a w' := h.trans (Fr.of (fun _ => False) hu) (fun _ h => h.elim)
theorem Fr.gr {O : Nat → Prop} {a w w' : World} {row : Option Nat} (h : Fr O a w) (hg : w.grownBy w' row) (hr : ∀ b, row = some b → O b ∨ a.heap.size ≤ b) : Fr O a w' :=
  h.trans (O' := fun b => row = some b) ⟨hg.os, hg.tape, hg.output, hg.size, fun b hb hn => hg.block b hb (fun e => hn e.symm)⟩ hr
theorem Fr.set {O : Nat → Prop} {a w : World} (h : Fr O a w) {p : Addr} (hp : O p.block ∨ a.heap.size ≤ p.block) (u : Value) : Fr O a (w.setCell p u) :=
  h.trans (O' := fun b => p.block = b) ⟨rfl, rfl, rfl, by simp [World.setCell], fun b hb hn => Below.heap_setCell _ _ _ _ (Ne.symm hn)⟩ (fun b e => by subst e; exact hp)
theorem Fr.alloc {O : Nat → Prop} {a w : World} (h : Fr O a w) (o : Obj) : Fr O a (w.alloc o) := h.up ((Up.refl w).alloc o)
theorem Fr.drew {O : Nat → Prop} {a w : World} (h : Fr O a w) : Fr O a w.drew := h.up ((Up.refl w).drew)
theorem Fr.upto {O : Nat → Prop} {a w w' : World} (h : Up a w) (k : Fr O w w') (hO : ∀ b, O b → a.heap.size ≤ b) : Up a w' :=
  ⟨k.os.trans h.os, k.tape.trans h.tape, k.output.trans h.output, Nat.le_trans h.size k.size, fun b hb => (k.block b (Nat.lt_of_lt_of_le hb h.size) (fun e => by have := hO b e; omega)).trans (h.block b hb)⟩
theorem Fr.box {O : Nat → Prop} {w w' : World} (h : Fr O w w') {b : Nat} {o : Obj} (hb : w.heap[b]? = some o) (hn : ¬ O b) : w'.heap[b]? = some o := (h.block b (Array.getElem?_eq_some_iff.1 hb).1 hn).trans hb
theorem Fr.row {O : Nat → Prop} {w w' : World} (h : Fr O w w') {base : Nat} {e : TypeId} {size n : Nat} {v : Value} {xs : List Value} (hr : w.ownsRow base e size v n xs) (hn : ∀ b, v.ownBlock = some b → ¬ O b) : w'.ownsRow base e size v n xs := by
  refine ⟨hr.1, ?_⟩
  rcases hr.2 with h1 | ⟨g, cap, cur, rfl, hb, hg, rest⟩
  · exact .inl h1
  · exact .inr ⟨g, cap, cur, rfl, hb, h.box hg (hn g rfl), rest⟩

/-- Where an append's row lies: where it lay, or in a new block. -/
def NewOr (N : Nat) (v v' : Value) : Prop := ∀ b, v'.ownBlock = some b → v.ownBlock = some b ∨ N ≤ b
section
variable {P : Program}
theorem run_append_fresh (base : Nat) (t ty e : TypeId) (i : TypeInfo) (z : Value) (size bytes : Nat) (ht : P.underlying t = some (.slice e)) (hi : P.info? e = some i) (hz : i.zero = some z)
    (hsize : i.size = size) (hby : i.bytes = bytes) (hzs : z.cells.size = size) (hsz : 0 < size)
    (w : World) (v : Value) (n : Nat) (xs : List Value) (hown : w.ownsRow base e size v n xs)
    (ad : Addr) (m c : Nat) (news : List Value) (hl : news.length = m * size) (hnews : ∀ j u, news[j]? = some u → w.cell? (ad.add j) = some u) (h1 : ∀ u ∈ news, u.oneCell' = true)
    (h63 : n + m ≤ maxLen) (hbytes : (n + m) * bytes ≤ 140737488355328) {v' : Value} {w' : World} (hr : (Builtin.append_ #[t, t] ty #[v, .slice (some ad) m c]).run P w = .ok v' w') : NewOr w.heap.size v v' := by
  subst hsize hby
  rcases hown.2 with ⟨rfl, rfl⟩ | ⟨g, cap, cur, rfl, hbg, hg, hnc, hcm, hcs, htake⟩
  · have hx : xs = [] := List.eq_nil_of_length_eq_zero (by simpa using hown.1)
    subst hx
    obtain ⟨v2, w2, hr2, h2, -, -⟩ := run_append_own (P := P) w w.heap.size t ty e i z i.size i.bytes ht hi hz rfl rfl hzs hsz (.slice none 0 0) 0 [] (World.ownsRow_nil _ _ _ _) ad m c news hl hnews h1 h63 hbytes (Nat.le_refl _)
    rw [hr] at hr2
    simp only [Result.ok.injEq] at hr2
    obtain ⟨rfl, rfl⟩ := hr2
    exact fun b hb => .inr (h2.lt b hb).1
  · by_cases hroom : n + m ≤ cap
    · have hfit : n * i.size + news.length ≤ cur.size := by rw [hl, hcs, ← Nat.add_mul]; exact Nat.mul_le_mul_right _ hroom
      have hr2 := run_append_room (P := P) w t ty e i ht hi g n cap cur hg ad m c news hl hnews h1 hroom hfit
      rw [hr] at hr2
      simp only [Result.ok.injEq] at hr2
      obtain ⟨rfl, -⟩ := hr2
      exact fun b hb => .inl hb
    · have hr2 := run_append_grow (P := P) w t ty e i z ht hi hz ⟨g, 0, none⟩ n cap xs hown.1 (hown.cells (g := g) rfl) ad m c news hl hnews (by omega) (by unfold maxLen at h63; omega) (growslice_fits (by omega) hbytes)
      rw [hr] at hr2
      simp only [Result.ok.injEq] at hr2
      obtain ⟨rfl, -⟩ := hr2
      intro b hb
      simp only [Value.ownBlock, Option.some.injEq] at hb
      exact .inr (by omega)
theorem gAt_append2 {o : Oper} {a : Act} {w : World} (s x : Operand) (t : TypeId)
    (ho : o.op = .call { callee := .builtin .append, args := #[s, x], argTypes := #[t, t] })
    (base : Nat) (e : TypeId) (i : TypeInfo) (z : Value) (size bytes : Nat) (ht : P.underlying t = some (.slice e)) (hi : P.info? e = some i) (hz : i.zero = some z)
    (hsize : i.size = size) (hby : i.bytes = bytes) (hzs : z.cells.size = size) (hsz : 0 < size)
    (v : Value) (n : Nat) (xs : List Value) (hs : a.eval s = v) (hown : w.ownsRow base e size v n xs)
    (ad : Addr) (m c : Nat) (news : List Value) (hx : a.eval x = .slice (some ad) m c) (hl : news.length = m * size) (hnews : ∀ j u, news[j]? = some u → w.cell? (ad.add j) = some u) (h1 : ∀ u ∈ news, u.oneCell' = true)
    (h63 : n + m ≤ maxLen) (hbytes : (n + m) * bytes ≤ 140737488355328) (hbase : base ≤ w.heap.size) (N : Nat) (hN : N ≤ w.heap.size)
    (row : Option Nat) (hrow : v.ownBlock = row) : gAt P (fun w w' => w.grownBy w' row) o a w (fun v' w' => w'.ownsRow base e size v' (n + m) (xs ++ news) ∧ NewOr N v v') := by
  obtain ⟨v', w', hr, h2, h3, h4⟩ := run_append_own (P := P) w base t o.type e i z size bytes ht hi hz hsize hby hzs hsz v n xs hown ad m c news hl hnews h1 h63 hbytes hbase
  have h5 := run_append_fresh (P := P) base t o.type e i z size bytes ht hi hz hsize hby hzs hsz w v n xs hown ad m c news hl hnews h1 h63 hbytes hr
  unfold gAt execOp
  simp only [ho, resolve, invoke, builtin, Sem.run_bind, Sem.run_pure, Result.andThen_ok, List.map_toArray, List.map_cons, List.map_nil, hs, hx, hr]
  exact ⟨hrow ▸ h3, h2, fun b hb => (h5 b hb).imp id (fun h => Nat.le_trans hN h)⟩
theorem wpList_append2 {ops : Array Oper} {rest : List Oper} {o : Oper} {a : Act} {w : World} {Q : Exit → Act → World → Prop} (hgd : o.guard = none) (s x : Operand) (t : TypeId)
    (ho : o.op = .call { callee := .builtin .append, args := #[s, x], argTypes := #[t, t] })
    (base : Nat) (e : TypeId) (i : TypeInfo) (z : Value) (size bytes : Nat) (ht : P.underlying t = some (.slice e)) (hi : P.info? e = some i) (hz : i.zero = some z)
    (hsize : i.size = size) (hby : i.bytes = bytes) (hzs : z.cells.size = size) (hsz : 0 < size)
    (v : Value) (n : Nat) (xs : List Value) (hs : a.eval s = v) (hown : w.ownsRow base e size v n xs)
    (ad : Addr) (m c : Nat) (news : List Value) (hx : a.eval x = .slice (some ad) m c) (hl : news.length = m * size) (hnews : ∀ j u, news[j]? = some u → w.cell? (ad.add j) = some u) (h1 : ∀ u ∈ news, u.oneCell' = true)
    (h63 : n + m ≤ maxLen) (hbytes : (n + m) * bytes ≤ 140737488355328) (hbase : base ≤ w.heap.size)
    (h : ∀ v' w', w'.ownsRow base e size v' (n + m) (xs ++ news) → w.grownBy w' v.ownBlock → NewOr w.heap.size v v' → wpList P ops Q rest (a.put o.dst v') w') : wpList P ops Q (o :: rest) a w :=
  wpList_plain hgd fun _ hK => by
    obtain ⟨v', w', hr, h2, h3, h4⟩ := run_append_own (P := P) w base t o.type e i z size bytes ht hi hz hsize hby hzs hsz v n xs hown ad m c news hl hnews h1 h63 hbytes hbase
    have h5 := run_append_fresh (P := P) base t o.type e i z size bytes ht hi hz hsize hby hzs hsz w v n xs hown ad m c news hl hnews h1 h63 hbytes hr
    unfold Oper.wp execOp
    simp only [ho, resolve, invoke, builtin, Sem.run_bind, Sem.run_pure, Result.andThen_ok, List.map_toArray, List.map_cons, List.map_nil, hs, hx, hr]
    exact hK _ _ (h v' w' h2 h3 h5)
end

theorem cellsN_at (ns : List NodD) {q : Nat} (h : q < ns.length * 6) : (cellsN ns)[q]? = (nodC ns ns.length (q / 6))[q % 6]? := by
  have := cellsN_get ns (i := q / 6) (j := q % 6) (by omega) (by omega)
  rwa [show q / 6 * 6 + q % 6 = q by omega] at this
/-- A new node's cells. -/
def newC (ns : List NodD) (X : NodD) (p : Nat) : List Value := [.int .i64 X.par, .int .i64 (-1), .int .i64 (lastCh ns p ns.length), .int .u8 X.las, .int .u8 X.fir, .int .i64 X.cod]
/-- The nodes' row behind a new node. -/
theorem cellsN_snoc {ns : List NodD} {X : NodD} {p : Nat} (hp : X.par = p) (hlt : p < ns.length) (hpar : ∀ i, i < ns.length → (nodAt ns i).par < (ns.length : Int)) :
    (cellsN ns ++ newC ns X p).set (p * 6 + 1) (.int .i64 ns.length) = cellsN (ns ++ [X]) := by
  have hl : (ns ++ [X]).length = ns.length + 1 := by simp
  have hL1 := cellsN_length ns
  have hL2 := cellsN_length (ns ++ [X])
  rw [hl] at hL2
  apply List.ext_getElem?
  intro q
  rw [List.getElem?_set]
  by_cases hq : q < ns.length * 6
  · have hi : q / 6 < ns.length := by omega
    rw [cellsN_at (ns ++ [X]) (by rw [hl]; omega), hl]
    have hn : nodAt (ns ++ [X]) (q / 6) = nodAt ns (q / 6) := nodAt_app ns X hi
    have hA : lastCh (ns ++ [X]) (nodAt ns (q / 6)).par (q / 6) = lastCh ns (nodAt ns (q / 6)).par (q / 6) := lastCh_app ns X _ _ (by omega)
    have hB : lastCh (ns ++ [X]) ((q / 6 : Nat) : Int) (ns.length + 1) = if p = q / 6 then (ns.length : Int) else lastCh ns ((q / 6 : Nat) : Int) ns.length := by
      rw [lastCh_new, hp]
      by_cases h : p = q / 6
      · rw [if_pos h, if_pos (by rw [h])]
      · rw [if_neg h, if_neg (by omega)]
    by_cases hc : p * 6 + 1 = q
    · rw [if_pos hc, if_pos (by rw [List.length_append, hL1]; simp [newC]; omega)]
      have e1 : q / 6 = p := by omega
      have e2 : q % 6 = 1 := by omega
      rw [e1] at hB
      simp only [e2, e1, nodC, hB, if_true, List.getElem?_cons_succ, List.getElem?_cons_zero]
    · rw [if_neg hc, List.getElem?_append_left (by rw [hL1]; exact hq), cellsN_at ns hq]
      unfold nodC
      rw [hn, hA, hB]
      rcases (by omega : q % 6 = 0 ∨ q % 6 = 1 ∨ q % 6 = 2 ∨ q % 6 = 3 ∨ q % 6 = 4 ∨ q % 6 = 5) with e | e | e | e | e | e
      · rw [e]; rfl
      · have : ¬ p = q / 6 := by omega
        rw [e, if_neg this]
      · rw [e]; rfl
      · rw [e]; rfl
      · rw [e]; rfl
      · rw [e]; rfl
  · rw [if_neg (by omega)]
    by_cases hq2 : q < (ns.length + 1) * 6
    · rw [List.getElem?_append_right (by rw [hL1]; omega), hL1, cellsN_at (ns ++ [X]) (by rw [hl]; exact hq2), hl]
      have e1 : q / 6 = ns.length := by omega
      have hB : lastCh (ns ++ [X]) (ns.length : Int) (ns.length + 1) = -1 := by
        rw [lastCh_new, if_neg (by omega)]
        rcases lastCh_cases ns (ns.length : Int) ns.length with ⟨h, _⟩ | ⟨j, h1, _, h3, _⟩
        · exact h
        · have := hpar j h1; omega
      have hA : lastCh (ns ++ [X]) X.par ns.length = lastCh ns p ns.length := by rw [hp]; exact lastCh_app ns X _ _ (Nat.le_refl _)
      unfold nodC
      rw [e1, nodAt_new, hA, hB, if_neg (by omega)]
      rw [show q % 6 = q - ns.length * 6 by omega]
      rfl
    · rw [List.getElem?_eq_none (by rw [List.length_append, hL1]; simp [newC]; omega), List.getElem?_eq_none (by rw [hL2]; omega)]

theorem newC_one (ns : List NodD) (X : NodD) (p : Nat) : ∀ u ∈ newC ns X p, u.oneCell' = true := by
  intro u hu
  simp only [newC, List.mem_cons, List.not_mem_nil, or_false] at hu
  rcases hu with rfl | rfl | rfl | rfl | rfl | rfl <;> rfl
theorem TrBox.cells {tb : Nat} {k : KnD} {vp vn vi : Value} {w : World} (h : TrBox tb k vp vn vi w) :
    w.cell? ⟨tb, 0, none⟩ = some (.int .i64 k.set.ord) ∧ w.cell? ⟨tb, 1, none⟩ = some (.int .i64 k.set.lit) ∧ w.cell? ⟨tb, 2, none⟩ = some (.int .i64 k.set.most) ∧ w.cell? ⟨tb, 3, none⟩ = some vp ∧ w.cell? ⟨tb, 4, none⟩ = some (.int .i64 k.base) ∧ w.cell? ⟨tb, 5, none⟩ = some (.int .i64 k.last) ∧ w.cell? ⟨tb, 6, none⟩ = some vn ∧ w.cell? ⟨tb, 7, none⟩ = some vi :=
  ⟨box_cell h 0, box_cell h 1, box_cell h 2, box_cell h 3, box_cell h 4, box_cell h 5, box_cell h 6, box_cell h 7⟩
theorem row_ne {w : World} {b1 b2 : Nat} {e1 e2 : TypeId} {s1 s2 n1 n2 n g cap : Nat} {v1 : Value} {x1 x2 : List Value} (h1 : w.ownsRow b1 e1 s1 v1 n1 x1) (h2 : w.ownsRow b2 e2 s2 (.slice (some ⟨g, 0, none⟩) n cap) n2 x2) (hne : e1 ≠ e2) : some g ≠ v1.ownBlock := by
  rcases ownsRow_ne h1 h2 hne with h | h
  · rw [h]; exact fun e => by cases e
  · exact fun e => h e.symm
theorem TreeAt.node1 {lo tb : Nat} {k : KnD} {vp vn vi : Value} {w : World} (h : TreeAt lo tb k vp vn vi w) (hk : k.Tr) {i : Nat} (hi : i < k.tree.ns.length) : ∃ g cap nx, vn = .slice (some ⟨g, 0, none⟩) k.tree.ns.length cap ∧ k.tree.ns.length ≤ cap ∧ cap ≤ maxLen ∧ lo ≤ g ∧ g < w.heap.size ∧ g ≠ tb ∧
    w.cell? ⟨g, i * 6, none⟩ = some (.int .i64 (nodAt k.tree.ns i).par) ∧ w.cell? ⟨g, i * 6 + 1, none⟩ = some (.int .i64 (lastCh k.tree.ns i k.tree.ns.length)) ∧ w.cell? ⟨g, i * 6 + 2, none⟩ = some (.int .i64 nx) ∧
      w.cell? ⟨g, i * 6 + 3, none⟩ = some (.int .u8 (nodAt k.tree.ns i).las) ∧ w.cell? ⟨g, i * 6 + 4, none⟩ = some (.int .u8 (nodAt k.tree.ns i).fir) ∧ w.cell? ⟨g, i * 6 + 5, none⟩ = some (.int .i64 (nodAt k.tree.ns i).cod) := by
  obtain ⟨g, cap, e, h1, h2, h3, h4, h5, h6⟩ := h.nodes hk
  exact ⟨g, cap, _, e, h1, h2, h3, h4, h5, h6 i hi⟩
/-- The blocks of a tree. -/
def Own (tb : Nat) (vp vn vi : Value) (b : Nat) : Prop := b = tb ∨ vp.ownBlock = some b ∨ vn.ownBlock = some b ∨ vi.ownBlock = some b
theorem TreeAt.own_lo {lo tb : Nat} {k : KnD} {vp vn vi : Value} {w : World} (h : TreeAt lo tb k vp vn vi w) : ∀ b, Own tb vp vn vi b → lo ≤ b ∧ b < w.heap.size := by
  intro b hb
  rcases hb with rfl | hb | hb | hb
  · exact ⟨h.low, h.lt⟩
  · exact h.prs.lt b hb
  · exact h.nod.lt b hb
  · exact h.idx.lt b hb
/-- The tree elsewhere: nothing of it has turned. -/
theorem TreeAt.fr {O : Nat → Prop} {lo tb : Nat} {k : KnD} {vp vn vi : Value} {w w' : World} (h : TreeAt lo tb k vp vn vi w) (hf : Fr O w w') (hn : ∀ b, Own tb vp vn vi b → ¬ O b) : TreeAt lo tb k vp vn vi w' :=
  ⟨hf.box h.box (hn tb (.inl rfl)), h.low, hf.row h.prs (fun b hb => hn b (.inr (.inl hb))), hf.row h.nod (fun b hb => hn b (.inr (.inr (.inl hb)))), hf.row h.idx (fun b hb => hn b (.inr (.inr (.inr hb))))⟩
/-- What a function that writes the tree leaves. -/
def TrPost (lo tb : Nat) (k : KnD) (vp vn vi : Value) (w w' : World) : Prop := ∃ vp' vn' vi', TreeAt lo tb k vp' vn' vi' w' ∧ Fr (Own tb vp vn vi) w w' ∧ ∀ b, Own tb vp' vn' vi' b → Own tb vp vn vi b ∨ w.heap.size ≤ b

end Go.Proofs.YtiiahjnfbhcgmaaGreatDoor
