/- Texts joined into one: the walks and laws that the last text leans on. Conditions: as each says. -/
import Derived.Test.YtgbakgaegldomaaGreatMFnWriterKnownLawO
import Derived.Test.YtgbakgaegldomaaGreatMFnWriterKnownLawP
import Derived.Test.YtgbakgaegldomaaGreatMFnWriterKnownLawI
import Derived.Test.YtgbakgaegldomaaGreatMFnWriterKnownLawA
import Derived.Test.YtgbakgaegldomaaGreatMFnWriterKnownLawK

set_option linter.unusedVariables false
set_option linter.unusedSimpArgs false
/- The program's tree of words in memory; walks of the functions that only read it. Conditions: the tree lies in memory (TreeAt). -/
namespace Go.Proofs.YtgbakgaegldomaaGreat
open Go Go.RowKit
def nodC (ns : List NodD) (m i : Nat) : List Value :=
  [.int .i64 (nodAt ns i).par, .int .i64 (lastCh ns i m), .int .i64 (if (nodAt ns i).par < 0 then -1 else lastCh ns (nodAt ns i).par i), .int .u8 (nodAt ns i).las, .int .u8 (nodAt ns i).fir, .int .i64 (nodAt ns i).cod]
def cellsN (ns : List NodD) : List Value := (List.range ns.length).flatMap (nodC ns ns.length)
theorem flat_len {α : Type} (f : α → List Value) (k : Nat) (h : ∀ a, (f a).length = k) (l : List α) : (l.flatMap f).length = l.length * k := by
  induction l with
  | nil => simp
  | cons a l ih => rw [List.flatMap_cons, List.length_append, ih, h, List.length_cons, Nat.add_mul]; omega
theorem flat_get {α : Type} (f : α → List Value) (k : Nat) (h : ∀ a, (f a).length = k) (l : List α) (i j : Nat) (a : α) (ha : l[i]? = some a) (hj : j < k) : (l.flatMap f)[i * k + j]? = (f a)[j]? := by
  induction l generalizing i with
  | nil => simp at ha
  | cons b l ih =>
    rw [List.flatMap_cons]
    cases i with
    | zero =>
      simp at ha; subst ha
      rw [List.getElem?_append_left (by rw [h]; omega)]
      simp
    | succ i =>
      rw [List.getElem?_append_right (by rw [h, Nat.add_mul]; omega), h, ← ih i (by simpa using ha)]
      congr 1
      rw [Nat.add_mul]; omega
theorem nodC_length (ns : List NodD) (m i : Nat) : (nodC ns m i).length = 6 := rfl
theorem cellsN_length (ns : List NodD) : (cellsN ns).length = ns.length * 6 := by
  unfold cellsN; rw [flat_len _ 6 (nodC_length ns ns.length)]; simp
theorem cellsN_get (ns : List NodD) {i j : Nat} (hi : i < ns.length) (hj : j < 6) : (cellsN ns)[i * 6 + j]? = (nodC ns ns.length i)[j]? :=
  flat_get _ 6 (nodC_length ns ns.length) _ i j i (by simp [hi]) hj
def TrBox (tb : Nat) (k : KnD) (vp vn vi : Value) (w : World) : Prop := w.heap[tb]? = some (.cells #[.int .i64 k.set.ord, .int .i64 k.set.lit, .int .i64 k.set.most, vp, .int .i64 k.base, .int .i64 k.last, vn, vi] 93)
structure TreeAt (lo tb : Nat) (k : KnD) (vp vn vi : Value) (w : World) : Prop where
  box : TrBox tb k vp vn vi w
  low : lo ≤ tb
  prs : w.ownsRow lo 118 2 vp k.ps.length (cellsPr k.ps)
  nod : w.ownsRow lo 137 6 vn k.tree.ns.length (cellsN k.tree.ns)
  idx : w.ownsRow lo 3 1 vi k.tree.ix.length (cellsI (k.tree.ix.map Int.ofNat))
structure KnD.Tr (k : KnD) : Prop where
  set : setOk k.set = true
  ps : PrsOk k.c k.ps
  len : k.ps.length + k.c + 1 ≤ lastC k.set
theorem KnD.Ok.tr {k : KnD} (h : k.Ok) : k.Tr := ⟨h.set, h.ps, h.len⟩
theorem KnD.Tr.c_bd {k : KnD} (h : k.Tr) : 2 ≤ k.c ∧ k.c ≤ 256 ∧ 4 * k.c ≤ lastC k.set + 1 ∧ lastC k.set ≤ 1023 := clr_bd h.set
theorem KnD.Tr.tree {k : KnD} (h : k.Tr) : TrOk k.c k.ps k.tree := treeF_ok h.c_bd.2.1 h.ps
theorem TreeAt.up {lo tb : Nat} {k : KnD} {vp vn vi : Value} {w w' : World} (h : TreeAt lo tb k vp vn vi w) (hu : Up w w') : TreeAt lo tb k vp vn vi w' :=
  ⟨box_up hu h.box, h.low, ownsRow_up h.prs hu, ownsRow_up h.nod hu, ownsRow_up h.idx hu⟩
theorem TreeAt.lt {lo tb : Nat} {k : KnD} {vp vn vi : Value} {w : World} (h : TreeAt lo tb k vp vn vi w) : tb < w.heap.size := (Array.getElem?_eq_some_iff.1 h.box).1
theorem TreeAt.shape {lo tb : Nat} {k : KnD} {vp vn vi : Value} {w : World} (h : TreeAt lo tb k vp vn vi w) : ∃ a c, vp = .slice a k.ps.length c := by
  rcases h.prs.2 with ⟨rfl, e⟩ | ⟨g, cap, cur, rfl, _⟩
  · exact ⟨_, _, by rw [e]⟩
  · exact ⟨_, _, rfl⟩
theorem TreeAt.cells {lo tb : Nat} {k : KnD} {vp vn vi : Value} {w : World} (h : TreeAt lo tb k vp vn vi w) :
    w.cell? ⟨tb, 0, none⟩ = some (.int .i64 k.set.ord) ∧ w.cell? ⟨tb, 1, none⟩ = some (.int .i64 k.set.lit) ∧ w.cell? ⟨tb, 2, none⟩ = some (.int .i64 k.set.most) ∧ w.cell? ⟨tb, 3, none⟩ = some vp ∧ w.cell? ⟨tb, 4, none⟩ = some (.int .i64 k.base) ∧ w.cell? ⟨tb, 5, none⟩ = some (.int .i64 k.last) ∧ w.cell? ⟨tb, 6, none⟩ = some vn ∧ w.cell? ⟨tb, 7, none⟩ = some vi :=
  ⟨box_cell h.box 0, box_cell h.box 1, box_cell h.box 2, box_cell h.box 3, box_cell h.box 4, box_cell h.box 5, box_cell h.box 6, box_cell h.box 7⟩
theorem TreeAt.nodes {lo tb : Nat} {k : KnD} {vp vn vi : Value} {w : World} (h : TreeAt lo tb k vp vn vi w) (hk : k.Tr) : ∃ g cap, vn = .slice (some ⟨g, 0, none⟩) k.tree.ns.length cap ∧ k.tree.ns.length ≤ cap ∧ cap ≤ maxLen ∧ lo ≤ g ∧ g < w.heap.size ∧ g ≠ tb ∧
    ∀ i, i < k.tree.ns.length → w.cell? ⟨g, i * 6, none⟩ = some (.int .i64 (nodAt k.tree.ns i).par) ∧ w.cell? ⟨g, i * 6 + 1, none⟩ = some (.int .i64 (lastCh k.tree.ns i k.tree.ns.length)) ∧ w.cell? ⟨g, i * 6 + 2, none⟩ = some (.int .i64 (if (nodAt k.tree.ns i).par < 0 then -1 else lastCh k.tree.ns (nodAt k.tree.ns i).par i)) ∧
      w.cell? ⟨g, i * 6 + 3, none⟩ = some (.int .u8 (nodAt k.tree.ns i).las) ∧ w.cell? ⟨g, i * 6 + 4, none⟩ = some (.int .u8 (nodAt k.tree.ns i).fir) ∧ w.cell? ⟨g, i * 6 + 5, none⟩ = some (.int .i64 (nodAt k.tree.ns i).cod) := by
  have hlo := hk.tree.lo
  have hc := hk.c_bd
  rcases ownsRow_read h.nod with ⟨_, h2⟩ | ⟨g, cap, rfl, h1, h2, h3, h4, h5⟩
  · omega
  · refine ⟨g, cap, rfl, h1, h2, h3, h4, fun e => box_ne h.box h.nod (by decide) (by rw [e]; rfl), fun i hi => ?_⟩
    have c0 := cellsN_get k.tree.ns hi (j := 0) (by omega)
    exact ⟨h5 _ _ (by have := cellsN_get k.tree.ns hi (j := 0) (by omega); rw [Nat.add_zero] at this; exact this), h5 _ _ (cellsN_get _ hi (j := 1) (by omega)), h5 _ _ (cellsN_get _ hi (j := 2) (by omega)), h5 _ _ (cellsN_get _ hi (j := 3) (by omega)), h5 _ _ (cellsN_get _ hi (j := 4) (by omega)), h5 _ _ (cellsN_get _ hi (j := 5) (by omega))⟩
theorem TreeAt.index {lo tb : Nat} {k : KnD} {vp vn vi : Value} {w : World} (h : TreeAt lo tb k vp vn vi w) : ∃ a cap, vi = .slice a k.ps.length cap ∧ k.ps.length ≤ maxLen ∧ (0 < k.ps.length → ∃ g, a = some ⟨g, 0, none⟩ ∧ k.ps.length ≤ cap ∧ cap ≤ maxLen ∧ lo ≤ g ∧ g < w.heap.size ∧ g ≠ tb ∧
    ∀ i, i < k.ps.length → w.cell? ⟨g, i, none⟩ = some (.int .i64 (k.tree.ix.getD i 0 : Nat))) := by
  have hl : k.tree.ix.length = k.ps.length := treeF_ixl _ _
  obtain ⟨a, cap, e, h1, h2⟩ := ownsRow_any h.idx
  rw [hl] at e h1 h2
  refine ⟨a, cap, e, h1, fun hp => ?_⟩
  obtain ⟨g, rfl, h3, h4, h5, h6, h7⟩ := h2 hp
  refine ⟨g, rfl, h3, h4, h5, h6, fun eg => box_ne h.box h.idx (by decide) (by rw [e, eg]; rfl), fun i hi => ?_⟩
  refine h7 i _ ?_
  have : i < k.tree.ix.length := by omega
  simp [cellsI, this]
set_option maxRecDepth 100000 in
set_option maxHeartbeats 1000000 in
theorem nodeOf_any (lo tb : Nat) (k : KnD) (vp vn vi : Value) (x : Int) (w : World) (h : TreeAt lo tb k vp vn vi w) (hk : k.Tr) (hx : codeOk k.c k.ps.length x = true) :
    Calls Tryz.prog 98  #[.pointer (some ⟨tb, 0, none⟩), .int .i64 x] w (Same (.int .i64 (nodeOf k.c k.tree x : Nat)) w) := by
  have cE := fun w => endI_any k.set w hk.set
  obtain ⟨c0, c1, c2, c3, c4, c5, c6, c7⟩ := h.cells
  have hfr := box_free h.box
  have htb := h.lt
  obtain ⟨a, cap, rfl, hm, hsome⟩ := h.index
  obtain ⟨hb1, hb2, hb3⟩ := clr_le hk.set
  have ec : k.c = clr k.set := rfl
  have hlen := hk.len
  have hcx := codeOk_iff.1 hx
  unfold nodeOf
  rw [ec] at *
  by_cases hxc : x < clr k.set
  · rw [if_pos hxc]
    have h0 : 0 ≤ x := by omega
    have e : ((x.toNat : Nat) : Int) = x := by omega
    rw [e]
    clear hsome
    go_enter Tryz.func98, Tryz.ntmps98
    go_wp2_with ((go_at_call 76; (with_reducible refine (cE _).mono ?_); rintro e w1 ⟨rfl, U1⟩; have B1 := bcell U1; have Z1 := U1.size; (try simp at Z1); (try rw [Nat.add_one_le_iff] at Z1)))
    go_ret
    exact ⟨rfl, by (repeat (first | with_reducible exact Up.refl _ | with_reducible assumption | with_reducible refine Up.set ?_ (by first | exact Nat.le_refl _ | (simp only []; omega) | (simp; omega)) _ | with_reducible refine Up.alloc ?_ _ | with_reducible refine Up.drew ?_ | refine Up.trans ?_ (by with_reducible assumption)))⟩
  · rw [if_neg hxc]
    obtain ⟨i, rfl⟩ : ∃ i : Nat, x = (clr k.set : Int) + 2 + i := ⟨(x - clr k.set - 2).toNat, by omega⟩
    have hi : i < k.ps.length := by omega
    obtain ⟨g, rfl, h1, h2, h3, h4, h5, h6⟩ := hsome (by omega)
    have d0 := h6 i hi
    have e : ((clr k.set : Int) + 2 + i).toNat - (clr k.set + 2) = i := by omega
    rw [e]
    clear hsome h6 hcx hx
    generalize k.tree.ix.getD i 0 = r at *
    generalize clr k.set = c at *
    unfold maxLen at h2
    have e1 : ((c : Int) + 2 + i - (c + 1) - 1) = i := by omega
    go_enter Tryz.func98, Tryz.ntmps98
    go_wp2_with ((go_at_call 76; (with_reducible refine (cE _).mono ?_); rintro e w1 ⟨rfl, U1⟩; have B1 := bcell U1; have Z1 := U1.size; (try simp at Z1); (try rw [Nat.add_one_le_iff] at Z1)); have d1 := (U1.cell (p := ⟨g, i, none⟩) h4).trans d0)
    go_ret
    exact ⟨rfl, by (repeat (first | with_reducible exact Up.refl _ | with_reducible assumption | with_reducible refine Up.set ?_ (by first | exact Nat.le_refl _ | (simp only []; omega) | (simp; omega)) _ | with_reducible refine Up.alloc ?_ _ | with_reducible refine Up.drew ?_ | refine Up.trans ?_ (by with_reducible assumption)))⟩
def RelCh (ns : List NodD) (p : Nat) (b : Int) (w : World) (n : Value) (wr : World) : Prop := ∃ m : Nat, m ≤ ns.length ∧ n = .int .i64 (lastCh ns p m) ∧ findCh ns p b m = findCh ns p b ns.length ∧ w = wr
set_option maxRecDepth 100000 in
set_option maxHeartbeats 1000000 in
theorem child_any (lo tb : Nat) (k : KnD) (vp vn vi : Value) (p : Nat) (b : Int) (w : World) (h : TreeAt lo tb k vp vn vi w) (hk : k.Tr) (hp : p < k.tree.ns.length) :
    Calls Tryz.prog 96  #[.pointer (some ⟨tb, 0, none⟩), .int .i64 p, .int .u8 b] w (fun e w' => e = .returned (.int .i64 (findCh k.tree.ns p b k.tree.ns.length)) ∧ w = w') := by
  obtain ⟨c0, c1, c2, c3, c4, c5, c6, c7⟩ := h.cells
  have hfr := box_free h.box
  have htb := h.lt
  obtain ⟨g, cap, rfl, h1, h2, h3, h4, h5, h6⟩ := h.nodes hk
  obtain ⟨hb1, hb2, hb3⟩ := clr_le hk.set
  have hhi := hk.tree.hi
  have hlen := hk.len
  have hns : k.tree.ns.length ≤ 2000 := by unfold KnD.c at *; omega
  clear hhi hlen hk h
  unfold maxLen at h2
  generalize k.tree.ns = ns at *
  have hp0 := (h6 p hp).2.1
  go_enter Tryz.func96, Tryz.ntmps96
  go_wp2
  go_loopw [7] (fun n wr => RelCh ns p b w n wr) (fun n _ => (intOf n + 1).toNat)
  case atStart => exact ⟨ns.length, Nat.le_refl _, rfl, rfl, rfl⟩
  case round =>
    obtain ⟨m, hm, rfl, hf, rfl⟩ := hrel
    have HF := Lib.hid hf
    clear hf
    rcases lastCh_cases ns p m with ⟨hl, -⟩ | ⟨j, hj, hl, hpj, -⟩
    · have HE := Lib.hid (find_none_last hl b)
      rw [hl]
      go_wp2
      go_ret
      exact ⟨ret_int (by rw [← HF.out, HE.out]), rfl⟩
    · have HL := Lib.hid (find_last hl b)
      obtain ⟨d0, d1, d2, d3, d4, d5⟩ := h6 j (by omega)
      have hjn : j < ns.length := by omega
      have hpn : ¬ (nodAt ns j).par < 0 := by omega
      rw [if_neg hpn, hpj] at d2
      rw [hl]
      by_cases hb : (nodAt ns j).las = b
      · rw [hb] at d3
        go_wp2
        go_ret
        exact ⟨ret_int (by rw [← HF.out, HL.out, if_pos hb]), rfl⟩
      · have hbd := lastCh_bd ns p j
        have HB := Lib.hid hb
        go_wp2
        go_roundw
        case rel => exact ⟨j, by omega, rfl, by rw [← HF.out, HL.out, if_neg hb], rfl⟩
        case measure => simp [intOf]; omega
end Go.Proofs.YtgbakgaegldomaaGreat

/- What the functions that write the tree of words leave; the nodes' row behind a new node; an append's block. Conditions: as each says. -/
namespace Go.Proofs.YtgbakgaegldomaaGreat
open Go Go.RowKit
structure Fr (O : Nat → Prop) (w w' : World) : Prop where
  os : w'.os = w.os
  tape : w'.tape = w.tape
  output : w'.output = w.output
  size : w.heap.size ≤ w'.heap.size
  block : ∀ b, b < w.heap.size → ¬ O b → w'.heap[b]? = w.heap[b]?
theorem Fr.refl (O : Nat → Prop) (w : World) : Fr O w w := ⟨rfl, rfl, rfl, Nat.le_refl _, fun _ _ _ => rfl⟩
theorem Fr.trans {O O' : Nat → Prop} {a b c : World} (h : Fr O a b) (k : Fr O' b c) (hO : ∀ x, O' x → O x ∨ a.heap.size ≤ x) : Fr O a c :=
  ⟨k.os.trans h.os, k.tape.trans h.tape, k.output.trans h.output, Nat.le_trans h.size k.size, fun x hx hn => (k.block x (Nat.lt_of_lt_of_le hx h.size) (fun e => by
    rcases hO x e with h1 | h1
    · exact hn h1
    · omega)).trans (h.block x hx hn)⟩
theorem Fr.of {w w' : World} (O : Nat → Prop) (h : Up w w') : Fr O w w' := ⟨h.os, h.tape, h.output, h.size, fun b hb _ => h.block b hb⟩
theorem Fr.up {O : Nat → Prop} {a w w' : World} (h : Fr O a w) (hu : Up w w') : Fr O a w' := h.trans (Fr.of (fun _ => False) hu) (fun _ h => h.elim)
theorem Fr.gr {O : Nat → Prop} {a w w' : World} {row : Option Nat} (h : Fr O a w) (hg : w.grownBy w' row) (hr : ∀ b, row = some b → O b ∨ a.heap.size ≤ b) : Fr O a w' :=
  h.trans (O' := fun b => row = some b) ⟨hg.os, hg.tape, hg.output, hg.size, fun b hb hn => hg.block b hb (fun e => hn e.symm)⟩ hr
theorem Fr.set {O : Nat → Prop} {a w : World} (h : Fr O a w) {p : Addr} (hp : O p.block ∨ a.heap.size ≤ p.block) (u : Value) : Fr O a (w.setCell p u) :=
  h.trans (O' := fun b => p.block = b) ⟨rfl, rfl, rfl, by simp [World.setCell], fun b hb hn => Below.heap_setCell _ _ _ _ (Ne.symm hn)⟩ (fun b e => by subst e; exact hp)
theorem Fr.alloc {O : Nat → Prop} {a w : World} (h : Fr O a w) (o : Obj) : Fr O a (w.alloc o) := h.up ((Up.refl w).alloc o)
theorem Fr.drew {O : Nat → Prop} {a w : World} (h : Fr O a w) : Fr O a w.drew := h.up ((Up.refl w).drew)
theorem Fr.upto {O : Nat → Prop} {a w w' : World} (h : Up a w) (k : Fr O w w') (hO : ∀ b, O b → a.heap.size ≤ b) : Up a w' :=
  ⟨k.os.trans h.os, k.tape.trans h.tape, k.output.trans h.output, Nat.le_trans h.size k.size, fun b hb => (k.block b (Nat.lt_of_lt_of_le hb h.size) (fun e => by have := hO b e; omega)).trans (h.block b hb)⟩
theorem Fr.box {O : Nat → Prop} {w w' : World} (h : Fr O w w') {b : Nat} {o : Obj} (hb : w.heap[b]? = some o) (hn : ¬ O b) : w'.heap[b]? = some o := (h.block b (Array.getElem?_eq_some_iff.1 hb).1 hn).trans hb
theorem Fr.row {O : Nat → Prop} {w w' : World} (h : Fr O w w') {base : Nat} {e : TypeId} {size n : Nat} {v : Value} {xs : List Value} (hr : w.ownsRow base e size v n xs) (hn : ∀ b, v.ownBlock = some b → ¬ O b) : w'.ownsRow base e size v n xs := by
  refine ⟨hr.1, ?_⟩
  rcases hr.2 with h1 | ⟨g, cap, cur, rfl, hb, hg, rest⟩
  · exact .inl h1
  · exact .inr ⟨g, cap, cur, rfl, hb, h.box hg (hn g rfl), rest⟩
def NewOr (N : Nat) (v v' : Value) : Prop := ∀ b, v'.ownBlock = some b → v.ownBlock = some b ∨ N ≤ b
section
variable {P : Program}
theorem run_append_fresh (base : Nat) (t ty e : TypeId) (i : TypeInfo) (z : Value) (size bytes : Nat) (ht : P.underlying t = some (.slice e)) (hi : P.info? e = some i) (hz : i.zero = some z)
    (hsize : i.size = size) (hby : i.bytes = bytes) (hzs : z.cells.size = size) (hsz : 0 < size)
    (w : World) (v : Value) (n : Nat) (xs : List Value) (hown : w.ownsRow base e size v n xs)
    (ad : Addr) (m c : Nat) (news : List Value) (hl : news.length = m * size) (hnews : ∀ j u, news[j]? = some u → w.cell? (ad.add j) = some u) (h1 : ∀ u ∈ news, u.oneCell' = true)
    (h63 : n + m ≤ maxLen) (hbytes : (n + m) * bytes ≤ 140737488355328) {v' : Value} {w' : World} (hr : (Builtin.append_ #[t, t] ty #[v, .slice (some ad) m c]).run P w = .ok v' w') : NewOr w.heap.size v v' := by
  subst hsize hby
  rcases hown.2 with ⟨rfl, rfl⟩ | ⟨g, cap, cur, rfl, hbg, hg, hnc, hcm, hcs, htake⟩
  · have hx : xs = [] := List.eq_nil_of_length_eq_zero (by simpa using hown.1)
    subst hx
    obtain ⟨v2, w2, hr2, h2, -, -⟩ := run_append_own (P := P) w w.heap.size t ty e i z i.size i.bytes ht hi hz rfl rfl hzs hsz (.slice none 0 0) 0 [] (World.ownsRow_nil _ _ _ _) ad m c news hl hnews h1 h63 hbytes (Nat.le_refl _)
    rw [hr] at hr2
    simp only [Result.ok.injEq] at hr2
    obtain ⟨rfl, rfl⟩ := hr2
    exact fun b hb => .inr (h2.lt b hb).1
  · by_cases hroom : n + m ≤ cap
    · have hfit : n * i.size + news.length ≤ cur.size := by rw [hl, hcs, ← Nat.add_mul]; exact Nat.mul_le_mul_right _ hroom
      have hr2 := run_append_room (P := P) w t ty e i ht hi g n cap cur hg ad m c news hl hnews h1 hroom hfit
      rw [hr] at hr2
      simp only [Result.ok.injEq] at hr2
      obtain ⟨rfl, -⟩ := hr2
      exact fun b hb => .inl hb
    · have hr2 := run_append_grow (P := P) w t ty e i z ht hi hz ⟨g, 0, none⟩ n cap xs hown.1 (hown.cells (g := g) rfl) ad m c news hl hnews (by omega) (by unfold maxLen at h63; omega) (growslice_fits (by omega) hbytes)
      rw [hr] at hr2
      simp only [Result.ok.injEq] at hr2
      obtain ⟨rfl, -⟩ := hr2
      intro b hb
      simp only [Value.ownBlock, Option.some.injEq] at hb
      exact .inr (by omega)
theorem gAt_append2 {o : Oper} {a : Act} {w : World} (s x : Operand) (t : TypeId)
    (ho : o.op = .call { callee := .builtin .append, args := #[s, x], argTypes := #[t, t] })
    (base : Nat) (e : TypeId) (i : TypeInfo) (z : Value) (size bytes : Nat) (ht : P.underlying t = some (.slice e)) (hi : P.info? e = some i) (hz : i.zero = some z)
    (hsize : i.size = size) (hby : i.bytes = bytes) (hzs : z.cells.size = size) (hsz : 0 < size)
    (v : Value) (n : Nat) (xs : List Value) (hs : a.eval s = v) (hown : w.ownsRow base e size v n xs)
    (ad : Addr) (m c : Nat) (news : List Value) (hx : a.eval x = .slice (some ad) m c) (hl : news.length = m * size) (hnews : ∀ j u, news[j]? = some u → w.cell? (ad.add j) = some u) (h1 : ∀ u ∈ news, u.oneCell' = true)
    (h63 : n + m ≤ maxLen) (hbytes : (n + m) * bytes ≤ 140737488355328) (hbase : base ≤ w.heap.size) (N : Nat) (hN : N ≤ w.heap.size)
    (row : Option Nat) (hrow : v.ownBlock = row) : gAt P (fun w w' => w.grownBy w' row) o a w (fun v' w' => w'.ownsRow base e size v' (n + m) (xs ++ news) ∧ NewOr N v v') := by
  obtain ⟨v', w', hr, h2, h3, h4⟩ := run_append_own (P := P) w base t o.type e i z size bytes ht hi hz hsize hby hzs hsz v n xs hown ad m c news hl hnews h1 h63 hbytes hbase
  have h5 := run_append_fresh (P := P) base t o.type e i z size bytes ht hi hz hsize hby hzs hsz w v n xs hown ad m c news hl hnews h1 h63 hbytes hr
  unfold gAt execOp
  simp only [ho, resolve, invoke, builtin, Sem.run_bind, Sem.run_pure, Result.andThen_ok, List.map_toArray, List.map_cons, List.map_nil, hs, hx, hr]
  exact ⟨hrow ▸ h3, h2, fun b hb => (h5 b hb).imp id (fun h => Nat.le_trans hN h)⟩
theorem wpList_append2 {ops : Array Oper} {rest : List Oper} {o : Oper} {a : Act} {w : World} {Q : Exit → Act → World → Prop} (hgd : o.guard = none) (s x : Operand) (t : TypeId)
    (ho : o.op = .call { callee := .builtin .append, args := #[s, x], argTypes := #[t, t] })
    (base : Nat) (e : TypeId) (i : TypeInfo) (z : Value) (size bytes : Nat) (ht : P.underlying t = some (.slice e)) (hi : P.info? e = some i) (hz : i.zero = some z)
    (hsize : i.size = size) (hby : i.bytes = bytes) (hzs : z.cells.size = size) (hsz : 0 < size)
    (v : Value) (n : Nat) (xs : List Value) (hs : a.eval s = v) (hown : w.ownsRow base e size v n xs)
    (ad : Addr) (m c : Nat) (news : List Value) (hx : a.eval x = .slice (some ad) m c) (hl : news.length = m * size) (hnews : ∀ j u, news[j]? = some u → w.cell? (ad.add j) = some u) (h1 : ∀ u ∈ news, u.oneCell' = true)
    (h63 : n + m ≤ maxLen) (hbytes : (n + m) * bytes ≤ 140737488355328) (hbase : base ≤ w.heap.size)
    (h : ∀ v' w', w'.ownsRow base e size v' (n + m) (xs ++ news) → w.grownBy w' v.ownBlock → NewOr w.heap.size v v' → wpList P ops Q rest (a.put o.dst v') w') : wpList P ops Q (o :: rest) a w :=
  wpList_plain hgd fun _ hK => by
    obtain ⟨v', w', hr, h2, h3, h4⟩ := run_append_own (P := P) w base t o.type e i z size bytes ht hi hz hsize hby hzs hsz v n xs hown ad m c news hl hnews h1 h63 hbytes hbase
    have h5 := run_append_fresh (P := P) base t o.type e i z size bytes ht hi hz hsize hby hzs hsz w v n xs hown ad m c news hl hnews h1 h63 hbytes hr
    unfold Oper.wp execOp
    simp only [ho, resolve, invoke, builtin, Sem.run_bind, Sem.run_pure, Result.andThen_ok, List.map_toArray, List.map_cons, List.map_nil, hs, hx, hr]
    exact hK _ _ (h v' w' h2 h3 h5)
end
theorem cellsN_at (ns : List NodD) {q : Nat} (h : q < ns.length * 6) : (cellsN ns)[q]? = (nodC ns ns.length (q / 6))[q % 6]? := by
  have := cellsN_get ns (i := q / 6) (j := q % 6) (by omega) (by omega)
  rwa [show q / 6 * 6 + q % 6 = q by omega] at this
def newC (ns : List NodD) (X : NodD) (p : Nat) : List Value := [.int .i64 X.par, .int .i64 (-1), .int .i64 (lastCh ns p ns.length), .int .u8 X.las, .int .u8 X.fir, .int .i64 X.cod]
theorem cellsN_snoc {ns : List NodD} {X : NodD} {p : Nat} (hp : X.par = p) (hlt : p < ns.length) (hpar : ∀ i, i < ns.length → (nodAt ns i).par < (ns.length : Int)) :
    (cellsN ns ++ newC ns X p).set (p * 6 + 1) (.int .i64 ns.length) = cellsN (ns ++ [X]) := by
  have hl : (ns ++ [X]).length = ns.length + 1 := by simp
  have hL1 := cellsN_length ns
  have hL2 := cellsN_length (ns ++ [X])
  rw [hl] at hL2
  apply List.ext_getElem?
  intro q
  rw [List.getElem?_set]
  by_cases hq : q < ns.length * 6
  · have hi : q / 6 < ns.length := by omega
    rw [cellsN_at (ns ++ [X]) (by rw [hl]; omega), hl]
    have hn : nodAt (ns ++ [X]) (q / 6) = nodAt ns (q / 6) := nodAt_app ns X hi
    have hA : lastCh (ns ++ [X]) (nodAt ns (q / 6)).par (q / 6) = lastCh ns (nodAt ns (q / 6)).par (q / 6) := lastCh_app ns X _ _ (by omega)
    have hB : lastCh (ns ++ [X]) ((q / 6 : Nat) : Int) (ns.length + 1) = if p = q / 6 then (ns.length : Int) else lastCh ns ((q / 6 : Nat) : Int) ns.length := by
      rw [lastCh_new, hp]
      by_cases h : p = q / 6
      · rw [if_pos h, if_pos (by rw [h])]
      · rw [if_neg h, if_neg (by omega)]
    by_cases hc : p * 6 + 1 = q
    · rw [if_pos hc, if_pos (by rw [List.length_append, hL1]; simp [newC]; omega)]
      have e1 : q / 6 = p := by omega
      have e2 : q % 6 = 1 := by omega
      rw [e1] at hB
      simp only [e2, e1, nodC, hB, if_true, List.getElem?_cons_succ, List.getElem?_cons_zero]
    · rw [if_neg hc, List.getElem?_append_left (by rw [hL1]; exact hq), cellsN_at ns hq]
      unfold nodC
      rw [hn, hA, hB]
      rcases (by omega : q % 6 = 0 ∨ q % 6 = 1 ∨ q % 6 = 2 ∨ q % 6 = 3 ∨ q % 6 = 4 ∨ q % 6 = 5) with e | e | e | e | e | e
      · rw [e]; rfl
      · have : ¬ p = q / 6 := by omega
        rw [e, if_neg this]
      · rw [e]; rfl
      · rw [e]; rfl
      · rw [e]; rfl
      · rw [e]; rfl
  · rw [if_neg (by omega)]
    by_cases hq2 : q < (ns.length + 1) * 6
    · rw [List.getElem?_append_right (by rw [hL1]; omega), hL1, cellsN_at (ns ++ [X]) (by rw [hl]; exact hq2), hl]
      have e1 : q / 6 = ns.length := by omega
      have hB : lastCh (ns ++ [X]) (ns.length : Int) (ns.length + 1) = -1 := by
        rw [lastCh_new, if_neg (by omega)]
        rcases lastCh_cases ns (ns.length : Int) ns.length with ⟨h, _⟩ | ⟨j, h1, _, h3, _⟩
        · exact h
        · have := hpar j h1; omega
      have hA : lastCh (ns ++ [X]) X.par ns.length = lastCh ns p ns.length := by rw [hp]; exact lastCh_app ns X _ _ (Nat.le_refl _)
      unfold nodC
      rw [e1, nodAt_new, hA, hB, if_neg (by omega)]
      rw [show q % 6 = q - ns.length * 6 by omega]
      rfl
    · rw [List.getElem?_eq_none (by rw [List.length_append, hL1]; simp [newC]; omega), List.getElem?_eq_none (by rw [hL2]; omega)]
theorem newC_one (ns : List NodD) (X : NodD) (p : Nat) : ∀ u ∈ newC ns X p, u.oneCell' = true := by
  intro u hu
  simp only [newC, List.mem_cons, List.not_mem_nil, or_false] at hu
  rcases hu with rfl | rfl | rfl | rfl | rfl | rfl <;> rfl
theorem TrBox.cells {tb : Nat} {k : KnD} {vp vn vi : Value} {w : World} (h : TrBox tb k vp vn vi w) :
    w.cell? ⟨tb, 0, none⟩ = some (.int .i64 k.set.ord) ∧ w.cell? ⟨tb, 1, none⟩ = some (.int .i64 k.set.lit) ∧ w.cell? ⟨tb, 2, none⟩ = some (.int .i64 k.set.most) ∧ w.cell? ⟨tb, 3, none⟩ = some vp ∧ w.cell? ⟨tb, 4, none⟩ = some (.int .i64 k.base) ∧ w.cell? ⟨tb, 5, none⟩ = some (.int .i64 k.last) ∧ w.cell? ⟨tb, 6, none⟩ = some vn ∧ w.cell? ⟨tb, 7, none⟩ = some vi :=
  ⟨box_cell h 0, box_cell h 1, box_cell h 2, box_cell h 3, box_cell h 4, box_cell h 5, box_cell h 6, box_cell h 7⟩
theorem row_ne {w : World} {b1 b2 : Nat} {e1 e2 : TypeId} {s1 s2 n1 n2 n g cap : Nat} {v1 : Value} {x1 x2 : List Value} (h1 : w.ownsRow b1 e1 s1 v1 n1 x1) (h2 : w.ownsRow b2 e2 s2 (.slice (some ⟨g, 0, none⟩) n cap) n2 x2) (hne : e1 ≠ e2) : some g ≠ v1.ownBlock := by
  rcases ownsRow_ne h1 h2 hne with h | h
  · rw [h]; exact fun e => by cases e
  · exact fun e => h e.symm
theorem TreeAt.node1 {lo tb : Nat} {k : KnD} {vp vn vi : Value} {w : World} (h : TreeAt lo tb k vp vn vi w) (hk : k.Tr) {i : Nat} (hi : i < k.tree.ns.length) : ∃ g cap nx, vn = .slice (some ⟨g, 0, none⟩) k.tree.ns.length cap ∧ k.tree.ns.length ≤ cap ∧ cap ≤ maxLen ∧ lo ≤ g ∧ g < w.heap.size ∧ g ≠ tb ∧
    w.cell? ⟨g, i * 6, none⟩ = some (.int .i64 (nodAt k.tree.ns i).par) ∧ w.cell? ⟨g, i * 6 + 1, none⟩ = some (.int .i64 (lastCh k.tree.ns i k.tree.ns.length)) ∧ w.cell? ⟨g, i * 6 + 2, none⟩ = some (.int .i64 nx) ∧
      w.cell? ⟨g, i * 6 + 3, none⟩ = some (.int .u8 (nodAt k.tree.ns i).las) ∧ w.cell? ⟨g, i * 6 + 4, none⟩ = some (.int .u8 (nodAt k.tree.ns i).fir) ∧ w.cell? ⟨g, i * 6 + 5, none⟩ = some (.int .i64 (nodAt k.tree.ns i).cod) := by
  obtain ⟨g, cap, e, h1, h2, h3, h4, h5, h6⟩ := h.nodes hk
  exact ⟨g, cap, _, e, h1, h2, h3, h4, h5, h6 i hi⟩
def Own (tb : Nat) (vp vn vi : Value) (b : Nat) : Prop := b = tb ∨ vp.ownBlock = some b ∨ vn.ownBlock = some b ∨ vi.ownBlock = some b
theorem TreeAt.own_lo {lo tb : Nat} {k : KnD} {vp vn vi : Value} {w : World} (h : TreeAt lo tb k vp vn vi w) : ∀ b, Own tb vp vn vi b → lo ≤ b ∧ b < w.heap.size := by
  intro b hb
  rcases hb with rfl | hb | hb | hb
  · exact ⟨h.low, h.lt⟩
  · exact h.prs.lt b hb
  · exact h.nod.lt b hb
  · exact h.idx.lt b hb
theorem TreeAt.fr {O : Nat → Prop} {lo tb : Nat} {k : KnD} {vp vn vi : Value} {w w' : World} (h : TreeAt lo tb k vp vn vi w) (hf : Fr O w w') (hn : ∀ b, Own tb vp vn vi b → ¬ O b) : TreeAt lo tb k vp vn vi w' :=
  ⟨hf.box h.box (hn tb (.inl rfl)), h.low, hf.row h.prs (fun b hb => hn b (.inr (.inl hb))), hf.row h.nod (fun b hb => hn b (.inr (.inr (.inl hb)))), hf.row h.idx (fun b hb => hn b (.inr (.inr (.inr hb))))⟩
def TrPost (lo tb : Nat) (k : KnD) (vp vn vi : Value) (w w' : World) : Prop := ∃ vp' vn' vi', TreeAt lo tb k vp' vn' vi' w' ∧ Fr (Own tb vp vn vi) w w' ∧ ∀ b, Own tb vp' vn' vi' b → Own tb vp vn vi b ∨ w.heap.size ≤ b
end Go.Proofs.YtgbakgaegldomaaGreat

/- Appends outside a region: pairs onto nil, a string onto a row of bytes. Conditions: as each says. -/
namespace Go.Proofs.YtgbakgaegldomaaGreat
open Go Go.RowKit
theorem run_copy_nil {lo : Nat} {w : World} {vx : Value} {ps : List PairD} (ty : TypeId) (hr : RdP lo w vx ps) (hl : ps.length ≤ 1048576) :
    ∃ v' w', (Builtin.append_ #[25, 25] ty #[.slice none 0 0, vx]).run Tryz.prog w = .ok v' w' ∧ ownPr w' w.heap.size v' ps ∧ Up w w' := by
  obtain ⟨i0, hi, hz0, hz1, hz2⟩ := info_parts infoPair
  obtain ⟨ad, cap, rfl, hc1, hc2, hc3, hsome⟩ := hr
  have hn : w.ownsRow w.heap.size 118 2 (.slice none 0 0) 0 [] := World.ownsRow_nil _ _ _ _
  cases ad with
  | none =>
    obtain ⟨h1, h2⟩ := hc3 rfl
    have hps : ps = [] := List.length_eq_zero_iff.1 h1
    subst hps
    have hrun := run_append_owned_none (P := Tryz.prog) (w := w) w.heap.size 25 ty 118 i0 2 Tryz.underlying25 hi _ 0 [] hn
    rw [h2]
    exact ⟨_, _, hrun, hn, Up.refl _⟩
  | some ad =>
    have hnews : ∀ j u, (cellsPr ps)[j]? = some u → w.cell? (ad.add j) = some u := by
      intro j u hj
      by_cases hp : 0 < ps.length
      · obtain ⟨b, off, e1, e2, e3, e4⟩ := hsome hp
        cases e1
        exact RdP.news (lo := lo) (n := 0) (cap := 0) e4 j u hj
      · have hps : ps = [] := List.length_eq_zero_iff.1 (by omega)
        subst hps
        simp [cellsPr] at hj
    obtain ⟨v', w', hr, h2, h3, h4⟩ := run_append_own (P := Tryz.prog) w w.heap.size 25 ty 118 i0 (.agg #[.int .i64 0, .int .i64 0]) 2 16 Tryz.underlying25 hi hz0 hz1 hz2 rfl (by decide) _ 0 [] hn ad ps.length cap (cellsPr ps) (cellsPr_length ps) hnews (cellsPr_one ps) (by unfold maxLen; omega) (by omega) (Nat.le_refl _)
    rw [Nat.zero_add, List.nil_append] at h2
    exact ⟨v', w', hr, h2, Up.grown (Up.refl _) h3 (fun y hy => by cases hy)⟩
theorem wpList_copy {ops : Array Oper} {rest : List Oper} {o : Oper} {a : Act} {w : World} {Q : Exit → Act → World → Prop} (hgd : o.guard = none) (s x : Operand)
    (ho : o.op = .call { callee := .builtin .append, args := #[s, x], argTypes := #[25, 25] }) (hs : a.eval s = .slice none 0 0) {lo : Nat} {vx : Value} {ps : List PairD} (hx : a.eval x = vx) (hr : RdP lo w vx ps) (hl : ps.length ≤ 1048576)
    (h : ∀ v' w', ownPr w' w.heap.size v' ps → Up w w' → wpList Tryz.prog ops Q rest (a.put o.dst v') w') : wpList Tryz.prog ops Q (o :: rest) a w :=
  wpList_plain hgd fun _ hK => by
    obtain ⟨v', w', hr, h2, h3⟩ := run_copy_nil o.type hr hl
    unfold Oper.wp execOp
    simp only [ho, resolve, invoke, builtin, Sem.run_bind, Sem.run_pure, Result.andThen_ok, List.map_toArray, List.map_cons, List.map_nil, hs, hx, hr]
    exact hK _ _ (h v' w' h2 h3)
theorem wpList_append_str {ops : Array Oper} {rest : List Oper} {o : Oper} {a : Act} {w : World} {Q : Exit → Act → World → Prop} (hgd : o.guard = none) (sl x : Operand) (ho : o.op = .call { callee := .builtin .append, args := #[sl, x], argTypes := #[22, 9] })
    (base : Nat) (v : Value) (d l : List UInt8) (hs : a.eval sl = v) (hown : ownU w base v d) (hx : a.eval x = .string (bs l)) (h1 : d.length ≤ 1048576) (h2 : l.length ≤ 1048576) (hbase : base ≤ w.heap.size)
    (h : ∀ v' w', ownU w' base v' (d ++ l) → w.grownBy w' v.ownBlock → wpList Tryz.prog ops Q rest (a.put o.dst v') w') : wpList Tryz.prog ops Q (o :: rest) a w :=
  wpList_plain hgd fun _ hK => (gAt_append_str sl x ho base v d l hs hown hx h1 h2 hbase _ rfl).wp (fun v' w' hg hD => hK _ _ (h v' w' hD hg))
end Go.Proofs.YtgbakgaegldomaaGreat

