/- Texts joined into one: the walks and laws that the last text leans on. Conditions: as each says. -/
import Derived.Test.YtekogcjdaolcbaaGreatDoorMFnWriterTextLawC
import Derived.Test.YtekogcjdaolcbaaGreatDoorMFnWriterTextLawD
import Derived.Test.YtekogcjdaolcbaaGreatDoorKns
import Derived.Lib.BitFns
import Derived.Lib.ConvBytes
import Derived.Test.YtekogcjdaolcbaaGreatDoorMFnWriterTextLawA
import Derived.Test.YtekogcjdaolcbaaGreatDoorMFnWriterTextLawF
import Derived.Test.YtekogcjdaolcbaaGreatDoorLearn
import Derived.Test.YtekogcjdaolcbaaGreatDoorMFnWriterTextLawB

set_option linter.unusedVariables false
set_option linter.unusedSimpArgs false
/- A row of bytes of the call's own that came of a string (its block bears a mark behind its cells): append onto it, reading it; the conversion of a string into such a row. Conditions: as each says. -/
namespace Go.Proofs.YtekogcjdaolcbaaGreatDoor
open Go Go.RowKit
def ownM (w : World) (base : Nat) (v : Value) (d : List UInt8) : Prop := ∃ (g cap : Nat) (cur : Array Value) (fz : Nat × Nat), v = .slice (some ⟨g, 0, none⟩) d.length cap ∧ base ≤ g ∧ w.heap[g]? = some (.cells cur 5 fz) ∧ (fz = (0, 0) ∨ cur.size ≤ fz.1) ∧ d.length ≤ cap ∧ cap ≤ maxLen ∧ cur.size = cap ∧ cur.toList.take d.length = cellsU d
theorem ownM.shape {w : World} {base : Nat} {v : Value} {d : List UInt8} (h : ownM w base v d) : ∃ g c, v = .slice (some ⟨g, 0, none⟩) d.length c := by
  obtain ⟨g, cap, cur, fz, rfl, -⟩ := h
  exact ⟨g, cap, rfl⟩
theorem ownM.lt {w : World} {base : Nat} {v : Value} {d : List UInt8} (h : ownM w base v d) : ∀ k, v.ownBlock = some k → base ≤ k ∧ k < w.heap.size := by
  intro k hk
  obtain ⟨g, cap, cur, fz, rfl, h1, h2, -⟩ := h
  simp [Value.ownBlock] at hk
  subst hk
  exact ⟨h1, (Array.getElem?_eq_some_iff.1 h2).1⟩
theorem ownM.kept {w w' : World} {base : Nat} {v : Value} {d : List UInt8} {row : Option Nat} (h : ownM w base v d) (hg : w.grownBy w' row) (hne : v.ownBlock = none ∨ v.ownBlock ≠ row) : ownM w' base v d := by
  obtain ⟨g, cap, cur, fz, rfl, h1, h2, h3⟩ := h
  refine ⟨g, cap, cur, fz, rfl, h1, ?_, h3⟩
  rw [hg.block g (Array.getElem?_eq_some_iff.1 h2).1 (by simpa [Value.ownBlock] using hne)]
  exact h2
theorem ownM.up {w w' : World} {base : Nat} {v : Value} {d : List UInt8} (h : ownM w base v d) (hu : Up w w') : ownM w' base v d := h.kept (up_grownBy hu none) (by obtain ⟨g, c, e⟩ := h.shape; rw [e]; right; simp [Value.ownBlock])
theorem ownM.fr {O : Nat → Prop} {w w' : World} {base : Nat} {v : Value} {d : List UInt8} (h : ownM w base v d) (hf : Fr O w w') (hn : ∀ b, v.ownBlock = some b → ¬ O b) : ownM w' base v d := by
  obtain ⟨g, cap, cur, fz, rfl, h1, h2, h3⟩ := h
  refine ⟨g, cap, cur, fz, rfl, h1, ?_, h3⟩
  exact (hf.block g (Array.getElem?_eq_some_iff.1 h2).1 (hn g rfl)).trans h2
theorem ownM.base {w : World} {base base' : Nat} {v : Value} {d : List UInt8} (h : ownM w base v d) (hb : base' ≤ base) : ownM w base' v d := by
  obtain ⟨g, cap, cur, fz, rfl, h1, h2⟩ := h
  exact ⟨g, cap, cur, fz, rfl, Nat.le_trans hb h1, h2⟩
theorem ownM.cells {w : World} {base : Nat} {v : Value} {d : List UInt8} (h : ownM w base v d) : ∃ g cap, v = .slice (some ⟨g, 0, none⟩) d.length cap ∧ base ≤ g ∧ g < w.heap.size ∧ d.length ≤ cap ∧ cap ≤ maxLen ∧ ∀ i x, d[i]? = some x → w.cell? ⟨g, i, none⟩ = some (.int .u8 x.toNat) := by
  obtain ⟨g, cap, cur, fz, rfl, h1, h2, h3, h4, h5, h6, h7⟩ := h
  refine ⟨g, cap, rfl, h1, (Array.getElem?_eq_some_iff.1 h2).1, h4, h5, fun i x hi => ?_⟩
  have hu : (cellsU d)[i]? = some (.int .u8 x.toNat) := by simp [cellsU, hi]
  rw [← h7, List.getElem?_take] at hu
  split at hu
  · rw [cell_of_row w g i cur 5 fz h2]
    simpa using hu
  · cases hu
end Go.Proofs.YtekogcjdaolcbaaGreatDoor

/- As wp_region_own, but stores, moves, extracts and assignments may stand at the end, each behind all that it needs. Conditions: those of the theorem wp_region_ownf. -/
namespace Go.Proofs.YtekogcjdaolcbaaGreatDoor
open Go Go.RowKit
section
variable {P : Program}
theorem wp_region_ownf (n0 j0 : Nat) (row : Option Nat) {id : Nat} {Q : Exit → Act → World → Prop} {a : Act} {w : World} {l : List Oper} (hm : P.follows .mixedOrders = true) (hB : flB l.toArray n0 = true)
    (h : WG P l.toArray w row j0 (fun a' w' => wpList P l.toArray (onlyN Q) (l.drop n0) a' w') (l.take n0) 0 [] a) : (Code.region id l.toArray true).wp P Q a w := by
  have T := flB_text hB
  have hle : n0 ≤ l.length := by simpa using T.le
  obtain ⟨D, hU, hT, hZ⟩ := wpF_text (R := gR row j0) (Kc := gK row j0) (C := gC w row j0) (Z := fun a' w' => wpList P l.toArray (onlyN Q) (l.drop n0) a' w') (a0 := a) (n0 := n0) T (l.take n0) 0 [] a (fun _ => False) (fun _ => undef) (fun _ _ _ => False) (by simp [hle]) (fun j hj => by
    simp only [List.length_take] at hj
    simp [show j < n0 by omega]) ⟨(Desc.refl a (fun _ => undef)).congr (fun i => by simp) (fun _ h => h.elim), fun i hi => absurd hi (Nat.not_lt_zero _), fun m hm => (by cases hm), fun i hi => absurd hi (Nat.not_lt_zero _)⟩
    (fun i hi => absurd hi (Nat.not_lt_zero _)) (fun j o hj => absurd hj (Nat.not_lt_zero _)) h.out
  refine wp_region_any hm (wpAny_gf (R := gR row j0) (Kc := gK row j0) (C := gC w row j0) (I := fun S w' => w.grownBy w' row ∧ (¬ S j0 → Up w w')) (fun S w' j hI hS => ?_) (fun S w1 w2 j hI hS hR => ?_) (fun j w' => ?_) (fun k j w1 w2 hne hR => ?_) (a0 := a) (Q := Q) (Q' := onlyN Q) T (fun _ _ h => h) (fun _ _ _ h => h) onlyN_out hU hT (by simpa using hZ) _ (List.range n0) _ a _ (fun _ => undef) (by simp; omega) (fun i hi _ => List.mem_range.2 hi) (fun i hi => ?_) (by simp) (fun i hi his => by
    have : i < l.length := by simpa using his
    simp [this]) (fun j o ho hj => ?_) ?_ ?_ ?_)
  · unfold gC
    split
    · next e => subst e; exact hI.2 hS
    · exact hI.1
  · unfold gR at hR
    split at hR
    · next e => subst e; exact ⟨grownBy_trans hI.1 hR, fun h => absurd (.inr rfl) h⟩
    · next e => exact ⟨grownBy_up hI.1 hR, fun h => (hI.2 fun h' => h (.inl h')).trans hR⟩
  · unfold gR
    split
    · exact grownBy_refl _ _
    · exact Up.refl _
  · unfold gR at hR
    unfold gK
    split at hR
    · next e => subst e; rw [if_neg (fun e => hne e.symm)]; exact hR
    · split
      · exact hR
      · exact up_grownBy hR _
  · have hin := List.mem_range.1 hi
    have : i < l.length := by omega
    exact ⟨hin, by simp [this]⟩
  · rw [getD_replicate_false] at hj; cases hj
  · exact ⟨up_grownBy (Up.drew (Up.refl w)) _, fun _ => Up.drew (Up.refl w)⟩
  · exact (Desc.refl a (fun _ => undef)).congr (fun i => by rw [getD_replicate_false]; simp) (fun _ h => h.elim)
  · intro i hi; rw [getD_replicate_false] at hi; cases hi
end
end Go.Proofs.YtekogcjdaolcbaaGreatDoor

/- Walk of the program's learn, which adds a pair to the tree of words. Conditions: the tree lies in memory, the pair may stand behind its pairs. -/
namespace Go.Proofs.YtekogcjdaolcbaaGreatDoor
open Go Go.RowKit
theorem infoNode : (Tryz.prog.info? 125).map (fun i => (i.zero, i.size, i.bytes)) = some (some (.agg #[.int .i64 0, .int .i64 0, .int .i64 0, .int .u8 0, .int .u8 0, .int .i64 0]), 6, 40) := by kernel_rfl
theorem box_oth {w : World} {b : Nat} {o : Obj} (h : w.heap[b]? = some o) {p : Addr} (hp : b ≠ p.block) (u : Value) : (w.setCell p u).heap[b]? = some o := by
  rw [Below.heap_setCell _ _ _ _ hp]; exact h
theorem ownsRow_n {w : World} {base : Nat} {e : TypeId} {size n n' : Nat} {v : Value} {xs : List Value} (h : w.ownsRow base e size v n xs) (hn : n = n') : w.ownsRow base e size v n' xs := hn ▸ h
def NewL (row : Option Nat) (T : TypeId) (cs : List Value) (v : Value) (w : World) : Prop := ∃ b, v = .slice (some ⟨b, 0, none⟩) 1 1 ∧ some b ≠ row ∧ w.heap[b]? = some (.cells cs.toArray T)
theorem newL_closed {row : Option Nat} {T : TypeId} {cs : List Value} : ∀ (v : Value) (w w' : World), NewL row T cs v w → w.grownBy w' row → NewL row T cs v w' := fun v w w' ⟨b, h1, h2, h3⟩ hg => ⟨b, h1, h2, gbox hg h3 h2⟩
theorem newL_cells {w : World} {b : Nat} {T : TypeId} {cs : List Value} (h : w.heap[b]? = some (.cells cs.toArray T)) : ∀ j u, cs[j]? = some u → w.cell? ((⟨b, 0, none⟩ : Addr).add j) = some u := by
  intro j u hu
  have hadd : (⟨b, 0, none⟩ : Addr).add j = ⟨b, j, none⟩ := by unfold Addr.add; split <;> simp_all
  rw [hadd, box_cell h]
  simpa using hu
def KnD.add (k : KnD) (p : PairD) : KnD := ⟨k.set, k.ps ++ [p], k.base, k.last⟩
set_option maxRecDepth 100000 in
set_option maxHeartbeats 8000000 in
theorem learnT_any (lo tb : Nat) (k : KnD) (vp vn vi : Value) (p : PairD) (w : World) (h : TreeAt lo tb k vp vn vi w) (hk : k.Tr) (hp : codeOk k.c k.ps.length p.pre = true) (hb0 : 0 ≤ p.byt) (hb1 : p.byt < k.c) (hn : k.next ≤ lastC k.set) :
    Calls Tryz.prog 143  #[.pointer (some ⟨tb, 0, none⟩), .agg #[.int .i64 p.pre, .int .i64 p.byt]] w (fun e w' => (∃ v, e = .returned v) ∧ TrPost lo tb (k.add p) vp vn vi w w') := by
  obtain ⟨iN, hiN, hzN0, hzN1, hzN2⟩ := info_parts infoNode
  obtain ⟨iP, hiP, hzP0, hzP1, hzP2⟩ := info_parts infoPair
  obtain ⟨iI, hiI, hzI0, hzI1, hzI2⟩ := info_parts infoIntG
  have cN := fun wx hT => nodeOf_any lo tb k vp vn vi p.pre wx hT hk hp
  have cC := fun wx hT P hP => child_any lo tb k vp vn vi P p.byt wx hT hk hP
  obtain ⟨hP1, -, -⟩ := hk.tree.node p.pre hp
  have hcb := hk.c_bd
  have hpw : p.byt % 256 = p.byt := by omega
  have hhi := hk.tree.hi
  have hlen := hk.len
  have htb := h.lt
  generalize hP : nodeOf k.c k.tree p.pre = P at *
  have cCP := fun wx hT => cC wx hT P hP1
  have hlo := h.low
  have HLT : Hid (∀ b, vp.ownBlock = some b → b < w.heap.size) := fun b hb => (h.prs.lt b hb).2
  clear cC
  obtain ⟨hb2, hb3, hb4⟩ := clr_le hk.set
  have hns2 : k.tree.ns.length ≤ 2000 := by unfold KnD.c at *; omega
  by_cases hf : findCh k.tree.ns P p.byt k.tree.ns.length < 0
  · go_enter Tryz.func143, Tryz.ntmps143
    go_wp2_with (first | ((go_at_call 93; (with_reducible refine (cN _ (h.up (by (repeat (first | with_reducible exact Up.refl _ | with_reducible assumption | with_reducible refine Up.set ?_ (by first | exact Nat.le_refl _ | (simp only []; omega) | (simp; omega)) _ | with_reducible refine Up.alloc ?_ _ | with_reducible refine Up.drew ?_ | refine Up.trans ?_ (by with_reducible assumption)))))).mono ?_); rintro e w1 ⟨rfl, U1⟩; have B1 := bcell U1; have Z1 := U1.size; (try simp at Z1); (try rw [Nat.add_one_le_iff] at Z1)); clear B1; have hT1 := (h.up (Up.alloc (Up.refl w) (.cells #[.int .i64 p.pre, .int .i64 p.byt] 133))).up U1; have hpb : w1.heap[w.heap.size]? = some (.cells #[.int .i64 p.pre, .int .i64 p.byt] 133) := box_up U1 (MapKept.heap_alloc w _).1; obtain ⟨c0, c1, c2, c3, c4, c5, c6, c7⟩ := hT1.cells; obtain ⟨g, cap, nx, rfl, hg1, hg2, hg3, hg4, hg5, d0, d1, d2, d3, d4, d5⟩ := hT1.node1 hk hP1; obtain ⟨ap, cp, rfl⟩ := hT1.shape; have htb1 := hT1.lt; have hpl := (Array.getElem?_eq_some_iff.1 hpb).1; have hpb0 := box_cell hpb 0; have hpb1 := box_cell hpb 1; have hfp := box_free hpb; have hft := box_free hT1.box; (simp at hpb0 hpb1)) | (go_at_call 91; (with_reducible refine (cCP _ hT1).mono ?_); rintro e w' ⟨rfl, rfl⟩))
    obtain ⟨X, hX⟩ : ∃ X : NodD, X = ⟨(P : Int), p.byt, (nodAt k.tree.ns P).fir, (k.c : Int) + 2 + k.ps.length⟩ := ⟨_, rfl⟩
    have hX2 : Hid (newC k.tree.ns X P = [.int .i64 (P : Int), .int .i64 (-1), .int .i64 (lastCh k.tree.ns P k.tree.ns.length), .int .u8 p.byt, .int .u8 (nodAt k.tree.ns P).fir, .int .i64 ((clr k.set : Int) + 2 + k.ps.length)]) := by unfold Hid; rw [hX]; rfl
    have HX := Lib.hid hX
    clear hX
    obtain ⟨W6, hW6⟩ : ∃ W, W = w1.alloc (.cells #[.int .i64 (nodAt k.tree.ns P).par, .int .i64 (lastCh k.tree.ns P k.tree.ns.length), .int .i64 nx, .int .u8 (nodAt k.tree.ns P).las, .int .u8 (nodAt k.tree.ns P).fir, .int .i64 (nodAt k.tree.ns P).cod] 125) := ⟨_, rfl⟩
    rw [← hW6]
    have hT6 := hT1.up (Up.alloc (Up.refl w1) (.cells #[.int .i64 (nodAt k.tree.ns P).par, .int .i64 (lastCh k.tree.ns P k.tree.ns.length), .int .i64 nx, .int .u8 (nodAt k.tree.ns P).las, .int .u8 (nodAt k.tree.ns P).fir, .int .i64 (nodAt k.tree.ns P).cod] 125))
    rw [← hW6] at hT6
    have hub6 : W6.heap[w1.heap.size]? = some (.cells #[.int .i64 (nodAt k.tree.ns P).par, .int .i64 (lastCh k.tree.ns P k.tree.ns.length), .int .i64 nx, .int .u8 (nodAt k.tree.ns P).las, .int .u8 (nodAt k.tree.ns P).fir, .int .i64 (nodAt k.tree.ns P).cod] 125) := by rw [hW6]; exact (MapKept.heap_alloc w1 _).1
    have hU16 : Up w1 W6 := by rw [hW6]; exact Up.alloc (Up.refl w1) _
    have hpb6 := box_up hU16 hpb
    have hU6 : Up w W6 := ((Up.alloc (Up.refl w) _).trans U1).trans hU16
    have hne1 : some tb ≠ some g := box_ne hT6.box hT6.nod (by decide)
    have hne2 : some w.heap.size ≠ some g := box_ne hpb6 hT6.nod (by decide)
    have hne3 : some w1.heap.size ≠ some g := fun e => by have := Option.some.inj e; omega
    have hz6 := hU6.size
    have hz16 := hU16.size
    have cX := fun wx => nextI_any k.set k.base k.last ap k.ps.length cp wx hk.set (by omega)
    have HT := Lib.hid (And.intro hT6 (And.intro hub6 hpb6))
    have HW := Lib.hid hW6
    have HU6 := Lib.hid hU6
    simp only [knV] at cX
    clear hT1 hpb c0 c1 c2 c3 c4 c5 c6 c7 d0 d1 d2 d3 d4 d5 hpb0 hpb1 hfp hft hT6 hub6 hpb6 U1 hW6 hU16 hU6
    refine wp_region_ownf 23 20 (some g) (by kernel_rfl) (by kernel_rfl) ?_
    simp only [List.take, List.drop]
    repeat (refine wpG_step (fun K hK => ?_); go_simp; (try simp only [↓IntWalk.iteOmega]); first
      | (refine hK _ _ ?_; clear hK K)
      | (refine stepG_own (by rfl) (by kernel_rfl) ((fun v w' => w'.ownsRow lo 125 6 v (k.tree.ns.length + 1) (cellsN k.tree.ns ++ newC k.tree.ns X P) ∧ NewOr w.heap.size (.slice (some ⟨g, 0, none⟩) k.tree.ns.length cap) v)) ((fun v w w' h hu => ⟨ownsRow_up h.1 hu, h.2⟩)) (fun wq hwq => ?_) ?_
         · ((repeat (first | refine fills_no (by rfl) ?_ | refine fills_yes (by rfl) (fun vq hvq => ?_))); simp only [List.filter_nil, fills]; (obtain ⟨bq, eqb, nb, hcb⟩ := hvq; exact gAt_append2 (.tmp 35) (.tmp 50) 78 (by rfl) lo 125 iN (.agg #[.int .i64 0, .int .i64 0, .int .i64 0, .int .u8 0, .int .u8 0, .int .i64 0]) 6 40 Tryz.underlying78 hiN hzN0 hzN1 hzN2 rfl (by decide) (.slice (some ⟨g, 0, none⟩) k.tree.ns.length cap) k.tree.ns.length (cellsN k.tree.ns) (by rfl) (ownsRow_up HT.out.1.nod hwq) ⟨bq, 0, none⟩ 1 1 (newC k.tree.ns X P) (by exact eqb) rfl (newL_cells hcb) (newC_one _ _ _) (by unfold maxLen; omega) (by omega) (by have := hwq.size; omega) w.heap.size (by have := hwq.size; omega) _ rfl))
         refine hK _ _ ?_; clear hK K)
      | (refine stepG_c (by rfl) ?_ ?_ ?_
         rotate_left
         · intro wq hwq; (have hbq := gcell hwq; (repeat (first | refine fills_no (by rfl) ?_ | refine fills_yes (by rfl) (fun vq hvq => ?_))); simp only [List.filter_nil, fills]; unfold upAt; (try ((obtain ⟨c0, c1, c2, c3, c4, c5, c6, c7⟩ := TrBox.cells (gbox hwq HT.out.1.box hne1); have e1 := box_cell (gbox hwq HT.out.2.1 hne3) 1; have e4 := box_cell (gbox hwq HT.out.2.1 hne3) 4; have p1 := box_cell (gbox hwq HT.out.2.2 hne2) 1; simp at e1 e4 p1))); go_simp; (try go_bits); (try simp only [↓IntWalk.iteOmega]); (try (rw [dif_pos (by omega)]; go_simp; try go_bits)); first | exact upOut_value | (apply upOut_call; (go_at_call 94; exact cX _)) | (apply upOut_eq; (go_at_call 94; exact cX _)))
         go_simp; refine hK _ _ ?_; clear hK K)
      | (refine stepG_m (by rfl) (by kernel_rfl) (NewL (some g) 125 (newC k.tree.ns X P)) (newL_closed) (fun wq hwq => ?_) ?_
         · (have hbq := gcell hwq; (repeat (first | refine fills_no (by rfl) ?_ | refine fills_yes (by rfl) (fun vq hvq => ?_))); simp only [List.filter_nil, fills]; unfold upAt; (try ((obtain ⟨c0, c1, c2, c3, c4, c5, c6, c7⟩ := TrBox.cells (gbox hwq HT.out.1.box hne1); have e1 := box_cell (gbox hwq HT.out.2.1 hne3) 1; have e4 := box_cell (gbox hwq HT.out.2.1 hne3) 4; have p1 := box_cell (gbox hwq HT.out.2.2 hne2) 1; simp at e1 e4 p1))); go_simp; (try go_bits); (try simp only [↓IntWalk.iteOmega]); (try (rw [dif_pos (by omega)]; go_simp; try go_bits)); (rw [hX2.out]; exact upOut_make ((Up.refl _).alloc _) ⟨_, rfl, own_ne HT.out.1.nod hwq.size, (MapKept.heap_alloc _ _).1⟩))
         refine hK _ _ ?_; clear hK K))
    refine wpG_nil (by rfl) (fun wq hwq => ?_)
    simp only [fills]
    rintro v20 ⟨hv20, hnew⟩ v19 -
    rcases ownsRow_read hv20 with ⟨_, e20⟩ | ⟨g2, cap2, rfl, h21, h22, h23, h24, -⟩
    · omega
    have hbox : TrBox tb k (.slice ap k.ps.length cp) (.slice (some ⟨g, 0, none⟩) k.tree.ns.length cap) vi wq := gbox hwq HT.out.1.box hne1
    have hprs := HT.out.1.prs.kept hwq (ownsRow_ne HT.out.1.prs HT.out.1.nod (by decide))
    have hidx := HT.out.1.idx.kept hwq (ownsRow_ne HT.out.1.idx HT.out.1.nod (by decide))
    have hpb := gbox hwq HT.out.2.2 hne2
    have hFr : Fr (Own tb (.slice ap k.ps.length cp) (.slice (some ⟨g, 0, none⟩) k.tree.ns.length cap) vi) w wq := (Fr.of _ HU6.out).gr hwq (fun b hb => .inl (.inr (.inr (.inl hb))))
    have hne20 : ¬ g2 = tb := fun e => box_ne hbox hv20 (by decide) (by rw [e]; rfl)
    have hne21 : ¬ tb = g2 := fun e => hne20 e.symm
    have hne22 : ¬ w.heap.size = g2 := fun e => box_ne hpb hv20 (by decide) (by rw [e]; rfl)
    obtain ⟨c0, c1, c2, c3, c4, c5, c6, c7⟩ := hbox.cells
    have hfb := box_free hbox
    have f2 := ownsRow_free hv20 (P * 6 + 1)
    have f3 : wq.cell? ⟨g2, P * 6 + 1, none⟩ = some (.int .i64 (lastCh k.tree.ns P k.tree.ns.length)) := ownsRow_cell hv20 (by rw [List.getElem?_append_left (by rw [cellsN_length]; omega)]; exact cellsN_get _ hP1 (j := 1) (by omega))
    have htb2 := (Array.getElem?_eq_some_iff.1 hbox).1
    have hpl2 := (Array.getElem?_eq_some_iff.1 hpb).1
    have hwz := hwq.size
    have hpar : ∀ i, i < k.tree.ns.length → (nodAt k.tree.ns i).par < (k.tree.ns.length : Int) := fun i hi => by
      rcases Nat.lt_or_ge i k.c with h1 | h1
      · rw [hk.tree.lit i h1]; simp only []; omega
      · obtain ⟨q, e1, e2⟩ := hk.tree.par i h1 hi
        omega
    obtain ⟨W7, hW7⟩ : ∃ W, W = (wq.setCell ⟨tb, 6, none⟩ (.slice (some ⟨g2, 0, none⟩) (k.tree.ns.length + 1) cap2)).setCell ⟨g2, P * 6 + 1, none⟩ (.int .i64 k.tree.ns.length) := ⟨_, rfl⟩
    have hbox7 : TrBox tb k (.slice ap k.ps.length cp) (.slice (some ⟨g2, 0, none⟩) (k.tree.ns.length + 1) cap2) vi W7 := by rw [hW7]; exact box_oth (box_set hbox 6 (.slice (some ⟨g2, 0, none⟩) (k.tree.ns.length + 1) cap2)) (p := ⟨g2, P * 6 + 1, none⟩) hne21 _
    have hprs7 := ownsRow_setb (ownsRow_setb hprs (box_ne hbox hprs (by decide)) 6 (.slice (some ⟨g2, 0, none⟩) (k.tree.ns.length + 1) cap2)) (b := g2) (row_ne hprs hv20 (by decide)) (P * 6 + 1) (.int .i64 k.tree.ns.length)
    have hidx7 := ownsRow_setb (ownsRow_setb hidx (box_ne hbox hidx (by decide)) 6 (.slice (some ⟨g2, 0, none⟩) (k.tree.ns.length + 1) cap2)) (b := g2) (row_ne hidx hv20 (by decide)) (P * 6 + 1) (.int .i64 k.tree.ns.length)
    have hnod7 := ownsRow_set (ownsRow_setb hv20 (box_ne hbox hv20 (by decide)) 6 (.slice (some ⟨g2, 0, none⟩) (k.tree.ns.length + 1) cap2)) (P * 6 + 1) (.int .i64 k.tree.ns.length)
    rw [cellsN_snoc (by rw [HX.out]) hP1 hpar] at hnod7
    have hnod7 := ownsRow_n hnod7 (show k.tree.ns.length + 1 = (k.tree.ns ++ [X]).length from by rw [List.length_append]; rfl)
    have hpb7 := box_oth (box_oth hpb (p := ⟨tb, 6, none⟩) (Nat.ne_of_gt htb) (.slice (some ⟨g2, 0, none⟩) (k.tree.ns.length + 1) cap2)) (p := ⟨g2, P * 6 + 1, none⟩) hne22 (.int .i64 k.tree.ns.length)
    have hfr7 := (hFr.set (p := ⟨tb, 6, none⟩) (.inl (.inl rfl)) (.slice (some ⟨g2, 0, none⟩) (k.tree.ns.length + 1) cap2)).set (p := ⟨g2, P * 6 + 1, none⟩) ((hnew g2 rfl).imp (fun h => .inr (.inr (.inl h))) id) (.int .i64 k.tree.ns.length)
    rw [← hW7] at hprs7 hidx7 hnod7 hpb7 hfr7
    have HNE : Hid (¬ some w.heap.size = Value.ownBlock (.slice ap k.ps.length cp)) := fun e => by have := HLT.out _ e.symm; omega
    have HS7 := Lib.hid (And.intro hbox7 (And.intro hprs7 (And.intro hidx7 (And.intro hnod7 (And.intro hpb7 (And.intro hfr7 hnew))))))
    have HW7 := Lib.hid hW7
    have hz76 : wq.heap.size = W7.heap.size := by rw [hW7]; simp [World.setCell]
    have HTR : Hid ((k.add p).tree = ⟨k.tree.ns ++ [X], k.tree.ix ++ [k.tree.ns.length]⟩) := by
      unfold Hid
      show treeF k.c (k.ps ++ [p]) = _
      rw [treeF_snoc]
      have h1 := learnT_new (c := k.c) (t := k.tree) (p := p) (by rw [hP]; exact hf)
      have h2 : k.tree.ix.length = k.ps.length := treeF_ixl _ _
      rw [hP, h2, ← HX.out] at h1
      exact h1
    clear hbox hprs hidx hpb hFr hv20 hwq HT HU6 HW hW7 hbox7 hprs7 hidx7 hnod7 hpb7 hfr7
    unfold maxLen at h22
    go_wp2
    rw [onlyN_normal]
    obtain ⟨ai, ci, rfl⟩ := ownsRow_shape HS7.out.2.2.1
    obtain ⟨c0, c1, c2, c3, c4, c5, c6, c7⟩ := HS7.out.1.cells
    have hfb := box_free HS7.out.1
    have htb7 := (Array.getElem?_eq_some_iff.1 HS7.out.1).1
    have hz7 := HS7.out.2.2.2.2.2.1.size
    have hne71 : Hid (some tb ≠ Value.ownBlock (.slice ai k.tree.ix.length ci)) := box_ne HS7.out.1 HS7.out.2.2.1 (by decide)
    have hne72 : Hid (some w.heap.size ≠ Value.ownBlock (.slice ai k.tree.ix.length ci)) := box_ne HS7.out.2.2.2.2.1 HS7.out.2.2.1 (by decide)
    have hixl : Hid (k.tree.ix.length = k.ps.length) := treeF_ixl _ _
    have hixl2 : k.tree.ix.length ≤ 2000 := by rw [hixl.out]; omega
    go_wp2_with (at_builtin; rw [← HW7.out]; refine wpList_append2 rfl _ _ 79 rfl lo 3 iI (.int .i64 0) 1 8 Tryz.underlying79 hiI hzI0 hzI1 hzI2 rfl (by decide) _ _ _ rfl (HS7.out.2.2.1.alloc _) ⟨W7.heap.size, 0, none⟩ 1 1 [.int .i64 ((k.tree.ns.length : Int))] rfl rfl (new_cells [.int .i64 ((k.tree.ns.length : Int))] _ rfl) (by intro u hu; simp at hu; subst hu; rfl) (by unfold maxLen; omega) (by omega) (by simp; omega) ?_; rintro v8 W8 hv8 hg8 hn8; obtain ⟨a8, c8, rfl⟩ := ownsRow_shape hv8; obtain ⟨c0, c1, c2, c3, c4, c5, c6, c7⟩ := TrBox.cells (gbox hg8 (box_up ((Up.refl _).alloc _) HS7.out.1) hne71.out); have hfb := box_free (gbox hg8 (box_up ((Up.refl _).alloc _) HS7.out.1) hne71.out); have HV8 := Lib.hid (And.intro hv8 (And.intro hg8 hn8)); clear hv8 hg8 hn8)
    have hU78 := Up.alloc (Up.refl W7) (.cells #[.int .i64 ((k.tree.ns.length : Int))] 3)
    have hbox8 : TrBox tb k (.slice ap k.ps.length cp) (.slice (some ⟨g2, 0, none⟩) (k.tree.ns.length + 1) cap2) (.slice ai k.tree.ix.length ci) W8 := gbox HV8.out.2.1 (box_up hU78 HS7.out.1) hne71.out
    have hprs8 := (ownsRow_up HS7.out.2.1 hU78).kept HV8.out.2.1 (ownsRow_ne HS7.out.2.1 HS7.out.2.2.1 (by decide))
    have hnod8 := (ownsRow_up HS7.out.2.2.2.1 hU78).kept HV8.out.2.1 (ownsRow_ne HS7.out.2.2.2.1 HS7.out.2.2.1 (by decide))
    have hpb8 := gbox HV8.out.2.1 (box_up hU78 HS7.out.2.2.2.2.1) hne72.out
    have hfr8 := (HS7.out.2.2.2.2.2.1.up hU78).gr HV8.out.2.1 (fun b hb => .inl (.inr (.inr (.inr hb))))
    obtain ⟨W9, hW9⟩ : ∃ W, W = W8.setCell ⟨tb, 7, none⟩ (.slice a8 (k.tree.ix.length + 1) c8) := ⟨_, rfl⟩
    rw [← hW9]
    have hbox9 : TrBox tb k (.slice ap k.ps.length cp) (.slice (some ⟨g2, 0, none⟩) (k.tree.ns.length + 1) cap2) (.slice a8 (k.tree.ix.length + 1) c8) W9 := by rw [hW9]; exact box_set hbox8 7 (.slice a8 (k.tree.ix.length + 1) c8)
    have hprs9 := ownsRow_setb hprs8 (box_ne hbox8 hprs8 (by decide)) 7 (.slice a8 (k.tree.ix.length + 1) c8)
    have hnod9 := ownsRow_setb hnod8 (box_ne hbox8 hnod8 (by decide)) 7 (.slice a8 (k.tree.ix.length + 1) c8)
    have hidx9 := ownsRow_setb HV8.out.1 (box_ne hbox8 HV8.out.1 (by decide)) 7 (.slice a8 (k.tree.ix.length + 1) c8)
    have hpb9 := box_oth hpb8 (p := ⟨tb, 7, none⟩) (Nat.ne_of_gt htb) (.slice a8 (k.tree.ix.length + 1) c8)
    have hfr9 := hfr8.set (p := ⟨tb, 7, none⟩) (.inl (.inl rfl)) (.slice a8 (k.tree.ix.length + 1) c8)
    rw [← hW9] at hprs9 hnod9 hidx9 hpb9 hfr9
    have hnw9 : NewOr w.heap.size (.slice ai k.tree.ix.length ci) (.slice a8 (k.tree.ix.length + 1) c8) := fun b hb => (HV8.out.2.2 b hb).imp id (fun h => by have := hU78.size; omega)
    have HS9 := Lib.hid (And.intro hbox9 (And.intro hprs9 (And.intro hidx9 (And.intro hnod9 (And.intro hpb9 (And.intro hfr9 hnw9))))))
    have hne91 : Hid (some tb ≠ Value.ownBlock (.slice ap k.ps.length cp)) := box_ne hbox9 hprs9 (by decide)
    have hne92 : Hid (some w.heap.size ≠ Value.ownBlock (.slice ap k.ps.length cp)) := fun e => HNE.out e
    have hz9 := hfr9.size
    clear hbox8 hprs8 hnod8 hpb8 hfr8 hbox9 hprs9 hnod9 hidx9 hpb9 hfr9 hnw9 hW9 c0 c1 c2 c3 c4 c5 c6 c7 hfb hU78 HV8
    refine wp_region_ownf 12 8 (Value.ownBlock (.slice ap k.ps.length cp)) (by kernel_rfl) (by kernel_rfl) ?_
    simp only [List.take, List.drop]
    repeat (refine wpG_step (fun K hK => ?_); go_simp; (try simp only [↓IntWalk.iteOmega]); first
      | (refine hK _ _ ?_; clear hK K)
      | (refine stepG_own (by rfl) (by kernel_rfl) ((fun v w' => w'.ownsRow lo 133 2 v (k.ps.length + 1) (cellsPr k.ps ++ prC p) ∧ NewOr w.heap.size (.slice ap k.ps.length cp) v)) ((fun v w w' h hu => ⟨ownsRow_up h.1 hu, h.2⟩)) (fun wq hwq => ?_) ?_
         · ((repeat (first | refine fills_no (by rfl) ?_ | refine fills_yes (by rfl) (fun vq hvq => ?_))); simp only [List.filter_nil, fills]; (obtain ⟨bq, eqb, nb, hcb⟩ := hvq; exact gAt_append2 (.tmp 77) (.tmp 79) 25 (by rfl) lo 133 iP (.agg #[.int .i64 0, .int .i64 0]) 2 16 Tryz.underlying25 hiP hzP0 hzP1 hzP2 rfl (by decide) (.slice ap k.ps.length cp) k.ps.length (cellsPr k.ps) (by rfl) (ownsRow_up HS9.out.2.1 hwq) ⟨bq, 0, none⟩ 1 1 (prC p) (by exact eqb) rfl (newL_cells hcb) (prC_one _) (by unfold maxLen; omega) (by omega) (by have := hwq.size; omega) w.heap.size (by have := hwq.size; omega) _ rfl))
         refine hK _ _ ?_; clear hK K)
      | (refine stepG_c (by rfl) ?_ ?_ ?_
         rotate_left
         · intro wq hwq; (have hbq := gcell hwq; (repeat (first | refine fills_no (by rfl) ?_ | refine fills_yes (by rfl) (fun vq hvq => ?_))); simp only [List.filter_nil, fills]; unfold upAt; (try ((obtain ⟨c0, c1, c2, c3, c4, c5, c6, c7⟩ := TrBox.cells (gbox hwq HS9.out.1 hne91.out); have p0 := box_cell (gbox hwq HS9.out.2.2.2.2.1 hne92.out) 0; have p1 := box_cell (gbox hwq HS9.out.2.2.2.2.1 hne92.out) 1; simp at p0 p1))); go_simp; (try go_bits); (try simp only [↓IntWalk.iteOmega]); (try (rw [dif_pos (by omega)]; go_simp; try go_bits)); first | exact upOut_value)
         go_simp; refine hK _ _ ?_; clear hK K)
      | (refine stepG_m (by rfl) (by kernel_rfl) (NewL (Value.ownBlock (.slice ap k.ps.length cp)) 133 (prC p)) (newL_closed) (fun wq hwq => ?_) ?_
         · (have hbq := gcell hwq; (repeat (first | refine fills_no (by rfl) ?_ | refine fills_yes (by rfl) (fun vq hvq => ?_))); simp only [List.filter_nil, fills]; unfold upAt; (try ((obtain ⟨c0, c1, c2, c3, c4, c5, c6, c7⟩ := TrBox.cells (gbox hwq HS9.out.1 hne91.out); have p0 := box_cell (gbox hwq HS9.out.2.2.2.2.1 hne92.out) 0; have p1 := box_cell (gbox hwq HS9.out.2.2.2.2.1 hne92.out) 1; simp at p0 p1))); go_simp; (try go_bits); (try simp only [↓IntWalk.iteOmega]); (try (rw [dif_pos (by omega)]; go_simp; try go_bits)); (exact upOut_make ((Up.refl _).alloc _) ⟨_, rfl, own_ne HS9.out.2.1 hwq.size, (MapKept.heap_alloc _ _).1⟩))
         refine hK _ _ ?_; clear hK K))
    refine wpG_nil (by rfl) (fun wq hwq => ?_)
    simp only [fills]
    rintro v80 ⟨hv80, hn80⟩ v79 -
    obtain ⟨a80, c80, rfl⟩ := ownsRow_shape hv80
    have hbox10 : TrBox tb k (.slice ap k.ps.length cp) (.slice (some ⟨g2, 0, none⟩) (k.tree.ns.length + 1) cap2) (.slice a8 (k.tree.ix.length + 1) c8) wq := gbox hwq HS9.out.1 hne91.out
    have hnod10 := HS9.out.2.2.2.1.kept hwq (ownsRow_ne HS9.out.2.2.2.1 HS9.out.2.1 (by decide))
    have hidx10 := HS9.out.2.2.1.kept hwq (ownsRow_ne HS9.out.2.2.1 HS9.out.2.1 (by decide))
    have hfr10 := HS9.out.2.2.2.2.2.1.gr hwq (fun b hb => .inl (.inr (.inl hb)))
    obtain ⟨c0, c1, c2, c3, c4, c5, c6, c7⟩ := hbox10.cells
    have hfb := box_free hbox10
    have HF := Lib.hid (And.intro hbox10 (And.intro hnod10 (And.intro hidx10 (And.intro hfr10 (And.intro hv80 hn80)))))
    clear hbox10 hnod10 hidx10 hfr10 hv80 hn80 hwq
    go_wp2
    rw [onlyN_normal]
    go_wp2
    go_end0
    refine ⟨⟨_, rfl⟩, (.slice a80 (k.ps.length + 1) c80), .slice (some ⟨g2, 0, none⟩) (k.tree.ns.length + 1) cap2, (.slice a8 (k.tree.ix.length + 1) c8), ⟨?_, hlo, ?_, ?_, ?_⟩, ?_, ?_⟩
    · exact box_set HF.out.1 3 (.slice a80 (k.ps.length + 1) c80)
    · have := ownsRow_setb HF.out.2.2.2.2.1 (box_ne HF.out.1 HF.out.2.2.2.2.1 (by decide)) 3 (.slice a80 (k.ps.length + 1) c80)
      rw [← cellsPr_snoc] at this
      exact ownsRow_n this (by show k.ps.length + 1 = (k.ps ++ [p]).length; simp)
    · have := ownsRow_setb HF.out.2.1 (box_ne HF.out.1 HF.out.2.1 (by decide)) 3 (.slice a80 (k.ps.length + 1) c80)
      rw [HTR.out]
      exact this
    · have := ownsRow_setb HF.out.2.2.1 (box_ne HF.out.1 HF.out.2.2.1 (by decide)) 3 (.slice a80 (k.ps.length + 1) c80)
      rw [HTR.out]
      simpa [cellsI] using this
    · exact HF.out.2.2.2.1.set (p := ⟨tb, 3, none⟩) (.inl (.inl rfl)) (.slice a80 (k.ps.length + 1) c80)
    · rintro b (rfl | hb | hb | hb)
      · exact .inl (.inl rfl)
      · rcases HF.out.2.2.2.2.2 b hb with h | h
        · exact .inl (.inr (.inl h))
        · exact .inr h
      · rcases HS7.out.2.2.2.2.2.2 b hb with h | h
        · exact .inl (.inr (.inr (.inl h)))
        · exact .inr h
      · rcases HS9.out.2.2.2.2.2.2 b hb with h | h
        · exact .inl (.inr (.inr (.inr h)))
        · exact .inr h
    
  · obtain ⟨j, hj, hje⟩ : ∃ j : Nat, j < k.tree.ns.length ∧ findCh k.tree.ns P p.byt k.tree.ns.length = j := by
      rcases findCh_cases k.tree.ns P p.byt k.tree.ns.length with ⟨h1, _⟩ | ⟨j, h1, h2, _⟩
      · omega
      · exact ⟨j, h1, h2⟩
    have HTR : Hid ((k.add p).tree = ⟨k.tree.ns, k.tree.ix ++ [j]⟩) := by
      unfold Hid
      show treeF k.c (k.ps ++ [p]) = _
      rw [treeF_snoc]
      have h1 := learnT_old (c := k.c) (t := k.tree) (p := p) (by rw [hP]; exact hf)
      rw [hP, hje] at h1
      exact h1
    simp only [hje] at cCP
    clear hf hje
    go_enter Tryz.func143, Tryz.ntmps143
    go_wp2_with (first | ((go_at_call 93; (with_reducible refine (cN _ (h.up (by (repeat (first | with_reducible exact Up.refl _ | with_reducible assumption | with_reducible refine Up.set ?_ (by first | exact Nat.le_refl _ | (simp only []; omega) | (simp; omega)) _ | with_reducible refine Up.alloc ?_ _ | with_reducible refine Up.drew ?_ | refine Up.trans ?_ (by with_reducible assumption)))))).mono ?_); rintro e w1 ⟨rfl, U1⟩; have B1 := bcell U1; have Z1 := U1.size; (try simp at Z1); (try rw [Nat.add_one_le_iff] at Z1)); clear B1; have hT1 := (h.up (Up.alloc (Up.refl w) (.cells #[.int .i64 p.pre, .int .i64 p.byt] 133))).up U1; have hpb : w1.heap[w.heap.size]? = some (.cells #[.int .i64 p.pre, .int .i64 p.byt] 133) := box_up U1 (MapKept.heap_alloc w _).1; obtain ⟨ap, cp, rfl⟩ := hT1.shape; have hpb0 := box_cell hpb 0; have hpb1 := box_cell hpb 1; have hfp := box_free hpb; have hpl := (Array.getElem?_eq_some_iff.1 hpb).1; (simp at hpb0 hpb1)) | fail)
    (with_reducible refine (cCP _ hT1).mono ?_); rintro e w' ⟨rfl, rfl⟩
    have hfr7 : Fr (Own tb (.slice ap k.ps.length cp) vn vi) w w1 := (Fr.of _ ((Up.alloc (Up.refl w) _).trans U1))
    have hnew : NewOr w.heap.size vn vn := fun b hb => .inl hb
    have HNE : Hid (¬ some w.heap.size = Value.ownBlock (.slice ap k.ps.length cp)) := fun e => by have := HLT.out _ e.symm; omega
    have HS7 := Lib.hid (And.intro hT1.box (And.intro hT1.prs (And.intro hT1.idx (And.intro hT1.nod (And.intro hpb (And.intro hfr7 hnew))))))
    clear hT1 hpb U1 hpb0 hpb1 hfp hfr7 hnew
    obtain ⟨ai, ci, rfl⟩ := ownsRow_shape HS7.out.2.2.1
    obtain ⟨c0, c1, c2, c3, c4, c5, c6, c7⟩ := HS7.out.1.cells
    have hfb := box_free HS7.out.1
    have htb7 := (Array.getElem?_eq_some_iff.1 HS7.out.1).1
    have hz7 := HS7.out.2.2.2.2.2.1.size
    have hne71 : Hid (some tb ≠ Value.ownBlock (.slice ai k.tree.ix.length ci)) := box_ne HS7.out.1 HS7.out.2.2.1 (by decide)
    have hne72 : Hid (some w.heap.size ≠ Value.ownBlock (.slice ai k.tree.ix.length ci)) := box_ne HS7.out.2.2.2.2.1 HS7.out.2.2.1 (by decide)
    have hixl : Hid (k.tree.ix.length = k.ps.length) := treeF_ixl _ _
    have hixl2 : k.tree.ix.length ≤ 2000 := by rw [hixl.out]; omega
    go_wp2_with (at_builtin; skip; refine wpList_append2 rfl _ _ 79 rfl lo 3 iI (.int .i64 0) 1 8 Tryz.underlying79 hiI hzI0 hzI1 hzI2 rfl (by decide) _ _ _ rfl (HS7.out.2.2.1.alloc _) ⟨w1.heap.size, 0, none⟩ 1 1 [.int .i64 ((j : Int))] rfl rfl (new_cells [.int .i64 ((j : Int))] _ rfl) (by intro u hu; simp at hu; subst hu; rfl) (by unfold maxLen; omega) (by omega) (by simp; omega) ?_; rintro v8 W8 hv8 hg8 hn8; obtain ⟨a8, c8, rfl⟩ := ownsRow_shape hv8; obtain ⟨c0, c1, c2, c3, c4, c5, c6, c7⟩ := TrBox.cells (gbox hg8 (box_up ((Up.refl _).alloc _) HS7.out.1) hne71.out); have hfb := box_free (gbox hg8 (box_up ((Up.refl _).alloc _) HS7.out.1) hne71.out); have HV8 := Lib.hid (And.intro hv8 (And.intro hg8 hn8)); clear hv8 hg8 hn8)
    have hU78 := Up.alloc (Up.refl w1) (.cells #[.int .i64 ((j : Int))] 3)
    have hbox8 : TrBox tb k (.slice ap k.ps.length cp) (vn) (.slice ai k.tree.ix.length ci) W8 := gbox HV8.out.2.1 (box_up hU78 HS7.out.1) hne71.out
    have hprs8 := (ownsRow_up HS7.out.2.1 hU78).kept HV8.out.2.1 (ownsRow_ne HS7.out.2.1 HS7.out.2.2.1 (by decide))
    have hnod8 := (ownsRow_up HS7.out.2.2.2.1 hU78).kept HV8.out.2.1 (ownsRow_ne HS7.out.2.2.2.1 HS7.out.2.2.1 (by decide))
    have hpb8 := gbox HV8.out.2.1 (box_up hU78 HS7.out.2.2.2.2.1) hne72.out
    have hfr8 := (HS7.out.2.2.2.2.2.1.up hU78).gr HV8.out.2.1 (fun b hb => .inl (.inr (.inr (.inr hb))))
    obtain ⟨W9, hW9⟩ : ∃ W, W = W8.setCell ⟨tb, 7, none⟩ (.slice a8 (k.tree.ix.length + 1) c8) := ⟨_, rfl⟩
    rw [← hW9]
    have hbox9 : TrBox tb k (.slice ap k.ps.length cp) (vn) (.slice a8 (k.tree.ix.length + 1) c8) W9 := by rw [hW9]; exact box_set hbox8 7 (.slice a8 (k.tree.ix.length + 1) c8)
    have hprs9 := ownsRow_setb hprs8 (box_ne hbox8 hprs8 (by decide)) 7 (.slice a8 (k.tree.ix.length + 1) c8)
    have hnod9 := ownsRow_setb hnod8 (box_ne hbox8 hnod8 (by decide)) 7 (.slice a8 (k.tree.ix.length + 1) c8)
    have hidx9 := ownsRow_setb HV8.out.1 (box_ne hbox8 HV8.out.1 (by decide)) 7 (.slice a8 (k.tree.ix.length + 1) c8)
    have hpb9 := box_oth hpb8 (p := ⟨tb, 7, none⟩) (Nat.ne_of_gt htb) (.slice a8 (k.tree.ix.length + 1) c8)
    have hfr9 := hfr8.set (p := ⟨tb, 7, none⟩) (.inl (.inl rfl)) (.slice a8 (k.tree.ix.length + 1) c8)
    rw [← hW9] at hprs9 hnod9 hidx9 hpb9 hfr9
    have hnw9 : NewOr w.heap.size (.slice ai k.tree.ix.length ci) (.slice a8 (k.tree.ix.length + 1) c8) := fun b hb => (HV8.out.2.2 b hb).imp id (fun h => by have := hU78.size; omega)
    have HS9 := Lib.hid (And.intro hbox9 (And.intro hprs9 (And.intro hidx9 (And.intro hnod9 (And.intro hpb9 (And.intro hfr9 hnw9))))))
    have hne91 : Hid (some tb ≠ Value.ownBlock (.slice ap k.ps.length cp)) := box_ne hbox9 hprs9 (by decide)
    have hne92 : Hid (some w.heap.size ≠ Value.ownBlock (.slice ap k.ps.length cp)) := fun e => HNE.out e
    have hz9 := hfr9.size
    clear hbox8 hprs8 hnod8 hpb8 hfr8 hbox9 hprs9 hnod9 hidx9 hpb9 hfr9 hnw9 hW9 c0 c1 c2 c3 c4 c5 c6 c7 hfb hU78 HV8
    refine wp_region_ownf 12 8 (Value.ownBlock (.slice ap k.ps.length cp)) (by kernel_rfl) (by kernel_rfl) ?_
    simp only [List.take, List.drop]
    repeat (refine wpG_step (fun K hK => ?_); go_simp; (try simp only [↓IntWalk.iteOmega]); first
      | (refine hK _ _ ?_; clear hK K)
      | (refine stepG_own (by rfl) (by kernel_rfl) ((fun v w' => w'.ownsRow lo 133 2 v (k.ps.length + 1) (cellsPr k.ps ++ prC p) ∧ NewOr w.heap.size (.slice ap k.ps.length cp) v)) ((fun v w w' h hu => ⟨ownsRow_up h.1 hu, h.2⟩)) (fun wq hwq => ?_) ?_
         · ((repeat (first | refine fills_no (by rfl) ?_ | refine fills_yes (by rfl) (fun vq hvq => ?_))); simp only [List.filter_nil, fills]; (obtain ⟨bq, eqb, nb, hcb⟩ := hvq; exact gAt_append2 (.tmp 77) (.tmp 79) 25 (by rfl) lo 133 iP (.agg #[.int .i64 0, .int .i64 0]) 2 16 Tryz.underlying25 hiP hzP0 hzP1 hzP2 rfl (by decide) (.slice ap k.ps.length cp) k.ps.length (cellsPr k.ps) (by rfl) (ownsRow_up HS9.out.2.1 hwq) ⟨bq, 0, none⟩ 1 1 (prC p) (by exact eqb) rfl (newL_cells hcb) (prC_one _) (by unfold maxLen; omega) (by omega) (by have := hwq.size; omega) w.heap.size (by have := hwq.size; omega) _ rfl))
         refine hK _ _ ?_; clear hK K)
      | (refine stepG_c (by rfl) ?_ ?_ ?_
         rotate_left
         · intro wq hwq; (have hbq := gcell hwq; (repeat (first | refine fills_no (by rfl) ?_ | refine fills_yes (by rfl) (fun vq hvq => ?_))); simp only [List.filter_nil, fills]; unfold upAt; (try ((obtain ⟨c0, c1, c2, c3, c4, c5, c6, c7⟩ := TrBox.cells (gbox hwq HS9.out.1 hne91.out); have p0 := box_cell (gbox hwq HS9.out.2.2.2.2.1 hne92.out) 0; have p1 := box_cell (gbox hwq HS9.out.2.2.2.2.1 hne92.out) 1; simp at p0 p1))); go_simp; (try go_bits); (try simp only [↓IntWalk.iteOmega]); (try (rw [dif_pos (by omega)]; go_simp; try go_bits)); first | exact upOut_value)
         go_simp; refine hK _ _ ?_; clear hK K)
      | (refine stepG_m (by rfl) (by kernel_rfl) (NewL (Value.ownBlock (.slice ap k.ps.length cp)) 133 (prC p)) (newL_closed) (fun wq hwq => ?_) ?_
         · (have hbq := gcell hwq; (repeat (first | refine fills_no (by rfl) ?_ | refine fills_yes (by rfl) (fun vq hvq => ?_))); simp only [List.filter_nil, fills]; unfold upAt; (try ((obtain ⟨c0, c1, c2, c3, c4, c5, c6, c7⟩ := TrBox.cells (gbox hwq HS9.out.1 hne91.out); have p0 := box_cell (gbox hwq HS9.out.2.2.2.2.1 hne92.out) 0; have p1 := box_cell (gbox hwq HS9.out.2.2.2.2.1 hne92.out) 1; simp at p0 p1))); go_simp; (try go_bits); (try simp only [↓IntWalk.iteOmega]); (try (rw [dif_pos (by omega)]; go_simp; try go_bits)); (exact upOut_make ((Up.refl _).alloc _) ⟨_, rfl, own_ne HS9.out.2.1 hwq.size, (MapKept.heap_alloc _ _).1⟩))
         refine hK _ _ ?_; clear hK K))
    refine wpG_nil (by rfl) (fun wq hwq => ?_)
    simp only [fills]
    rintro v80 ⟨hv80, hn80⟩ v79 -
    obtain ⟨a80, c80, rfl⟩ := ownsRow_shape hv80
    have hbox10 : TrBox tb k (.slice ap k.ps.length cp) (vn) (.slice a8 (k.tree.ix.length + 1) c8) wq := gbox hwq HS9.out.1 hne91.out
    have hnod10 := HS9.out.2.2.2.1.kept hwq (ownsRow_ne HS9.out.2.2.2.1 HS9.out.2.1 (by decide))
    have hidx10 := HS9.out.2.2.1.kept hwq (ownsRow_ne HS9.out.2.2.1 HS9.out.2.1 (by decide))
    have hfr10 := HS9.out.2.2.2.2.2.1.gr hwq (fun b hb => .inl (.inr (.inl hb)))
    obtain ⟨c0, c1, c2, c3, c4, c5, c6, c7⟩ := hbox10.cells
    have hfb := box_free hbox10
    have HF := Lib.hid (And.intro hbox10 (And.intro hnod10 (And.intro hidx10 (And.intro hfr10 (And.intro hv80 hn80)))))
    clear hbox10 hnod10 hidx10 hfr10 hv80 hn80 hwq
    go_wp2
    rw [onlyN_normal]
    go_wp2
    go_end0
    refine ⟨⟨_, rfl⟩, (.slice a80 (k.ps.length + 1) c80), vn, (.slice a8 (k.tree.ix.length + 1) c8), ⟨?_, hlo, ?_, ?_, ?_⟩, ?_, ?_⟩
    · exact box_set HF.out.1 3 (.slice a80 (k.ps.length + 1) c80)
    · have := ownsRow_setb HF.out.2.2.2.2.1 (box_ne HF.out.1 HF.out.2.2.2.2.1 (by decide)) 3 (.slice a80 (k.ps.length + 1) c80)
      rw [← cellsPr_snoc] at this
      exact ownsRow_n this (by show k.ps.length + 1 = (k.ps ++ [p]).length; simp)
    · have := ownsRow_setb HF.out.2.1 (box_ne HF.out.1 HF.out.2.1 (by decide)) 3 (.slice a80 (k.ps.length + 1) c80)
      rw [HTR.out]
      exact this
    · have := ownsRow_setb HF.out.2.2.1 (box_ne HF.out.1 HF.out.2.2.1 (by decide)) 3 (.slice a80 (k.ps.length + 1) c80)
      rw [HTR.out]
      simpa [cellsI] using this
    · exact HF.out.2.2.2.1.set (p := ⟨tb, 3, none⟩) (.inl (.inl rfl)) (.slice a80 (k.ps.length + 1) c80)
    · rintro b (rfl | hb | hb | hb)
      · exact .inl (.inl rfl)
      · rcases HF.out.2.2.2.2.2 b hb with h | h
        · exact .inl (.inr (.inl h))
        · exact .inr h
      · rcases HS7.out.2.2.2.2.2.2 b hb with h | h
        · exact .inl (.inr (.inr (.inl h)))
        · exact .inr h
      · rcases HS9.out.2.2.2.2.2.2 b hb with h | h
        · exact .inl (.inr (.inr (.inr h)))
        · exact .inr h
    
end Go.Proofs.YtekogcjdaolcbaaGreatDoor

/- Walk of the program's forget, which takes the pairs behind the base out of the tree of words. Conditions: the tree lies in memory, what is known is valid. -/
namespace Go.Proofs.YtekogcjdaolcbaaGreatDoor
open Go Go.RowKit
def HoldsN (ns : List NodD) (m : Nat) (xs : List Value) : Prop := ∀ i, i < ns.length → xs[i * 6]? = some (.int .i64 (nodAt ns i).par) ∧ (i < m → xs[i * 6 + 1]? = some (.int .i64 (lastCh ns i m))) ∧ xs[i * 6 + 2]? = some (.int .i64 (if (nodAt ns i).par < 0 then -1 else lastCh ns (nodAt ns i).par i)) ∧
      xs[i * 6 + 3]? = some (.int .u8 (nodAt ns i).las) ∧ xs[i * 6 + 4]? = some (.int .u8 (nodAt ns i).fir) ∧ xs[i * 6 + 5]? = some (.int .i64 (nodAt ns i).cod)
theorem HoldsN.take {ns : List NodD} {m : Nat} {xs : List Value} (h : HoldsN ns m xs) (hm : m ≤ ns.length) (hx : xs.length = ns.length * 6) : xs.take (m * 6) = cellsN (ns.take m) := by
  have hl : (ns.take m).length = m := by rw [List.length_take]; omega
  have hL := cellsN_length (ns.take m)
  rw [hl] at hL
  apply List.ext_getElem?
  intro q
  by_cases hq : q < m * 6
  · rw [List.getElem?_take, if_pos hq, cellsN_at (ns.take m) (by rw [hl]; exact hq), hl]
    obtain ⟨h0, h1, h2, h3, h4, h5⟩ := h (q / 6) (by omega)
    have h1 := h1 (by omega)
    unfold nodC
    rw [nodAt_take ns (by omega : q / 6 < m), lastCh_take ns _ m m (Nat.le_refl _), lastCh_take ns _ m (q / 6) (by omega)]
    have e : q = q / 6 * 6 + q % 6 := by omega
    rcases (by omega : q % 6 = 0 ∨ q % 6 = 1 ∨ q % 6 = 2 ∨ q % 6 = 3 ∨ q % 6 = 4 ∨ q % 6 = 5) with r | r | r | r | r | r
    all_goals rw [r] at e ⊢; conv => lhs; rw [e]
    · exact h0
    · exact h1
    · exact h2
    · exact h3
    · exact h4
    · exact h5
  · rw [List.getElem?_eq_none (by rw [List.length_take]; omega), List.getElem?_eq_none (by omega)]
theorem HoldsN.cells {ns : List NodD} {m g cap n base : Nat} {xs : List Value} {w : World} (h : HoldsN ns m xs) (hr : w.ownsRow base 125 6 (.slice (some ⟨g, 0, none⟩) n cap) n xs) {i : Nat} (hi : i < ns.length) : w.cell? ⟨g, i * 6, none⟩ = some (.int .i64 (nodAt ns i).par) ∧ w.cell? ⟨g, i * 6 + 2, none⟩ = some (.int .i64 (if (nodAt ns i).par < 0 then -1 else lastCh ns (nodAt ns i).par i)) ∧ w.cell? ⟨g, i * 6 + 5, none⟩ = some (.int .i64 (nodAt ns i).cod) := by
  obtain ⟨h0, h1, h2, h3, h4, h5⟩ := h i hi
  exact ⟨ownsRow_cell hr h0, ownsRow_cell hr h2, ownsRow_cell hr h5⟩
def KnD.cut (k : KnD) : KnD := ⟨k.set, k.ps.take k.base.toNat, k.base, k.last⟩
structure FgAt (lo tb : Nat) (k : KnD) (vp vi : Value) (O : Nat → Prop) (g cap M : Nat) (w : World) (m : Nat) (xs : List Value) (wr : World) : Prop where
  ge : M ≤ m
  le : m ≤ k.tree.ns.length
  box : TrBox tb k vp (.slice (some ⟨g, 0, none⟩) k.tree.ns.length cap) vi wr
  prs : wr.ownsRow lo 133 2 vp k.ps.length (cellsPr k.ps)
  idx : wr.ownsRow lo 3 1 vi k.tree.ix.length (cellsI (k.tree.ix.map Int.ofNat))
  row : wr.ownsRow lo 125 6 (.slice (some ⟨g, 0, none⟩) k.tree.ns.length cap) k.tree.ns.length xs
  hold : HoldsN k.tree.ns m xs
  fr : Fr O w wr
end Go.Proofs.YtekogcjdaolcbaaGreatDoor

/- As wp_region_up, but the tail's operations may wait for those before them by way of others. Conditions: those of the theorem wp_region_upR. -/
namespace Go.Proofs.YtekogcjdaolcbaaGreatDoor
open Go Go.RowKit
section
variable {P : Program} {ops : Array Oper}
def upBR (ops : Array Oper) (n0 : Nat) : Bool :=
  Region.noSelect ops && decide (n0 ≤ ops.size) &&
  ((List.range ops.size).all fun j => match ops[j]? with
    | none => true
    | some o => (o.after.all fun e => !Region.binds .any e || decide (e.on < j)) &&
      ((List.range j).all fun i => match ops[i]? with
        | none => true
        | some x => if j < n0 then (waitsB o i || x.apart ops o) && (match x.dst with | some d => o.dst != some d | none => true) else reachB ops 12 j i))
structure UpTextR (ops : Array Oper) (n0 : Nat) : Prop where
  sel : ∀ (j : Nat) (o : Oper) cs b, ops[j]? = some o → o.op ≠ .select cs b
  le : n0 ≤ ops.size
  lex : ∀ (j : Nat) (o : Oper), ops[j]? = some o → ∀ e ∈ o.after, Region.binds .any e = true → e.on < j
  pair : ∀ (i j : Nat) (x o : Oper), i < j → j < n0 → ops[i]? = some x → ops[j]? = some o → waitsB o i = true ∨ x.apart ops o = true
  dist : ∀ (i j : Nat) (x o : Oper) (d : Tmp), i < j → j < n0 → ops[i]? = some x → ops[j]? = some o → x.dst = some d → o.dst ≠ some d
  tail : ∀ (i j : Nat) (o : Oper), i < j → n0 ≤ j → ops[j]? = some o → reachB ops 12 j i = true
theorem upB_textR {n0 : Nat} (h : upBR ops n0 = true) : UpTextR ops n0 := by
  unfold upBR at h
  simp only [Bool.and_eq_true, decide_eq_true_eq] at h
  obtain ⟨⟨h1, h2⟩, h3⟩ := h
  have h3 := List.all_eq_true.1 h3
  have hj : ∀ (j : Nat) (o : Oper), ops[j]? = some o → (∀ e ∈ o.after, Region.binds .any e = true → e.on < j) ∧ ∀ (i : Nat) (x : Oper), i < j → ops[i]? = some x → (if j < n0 then (waitsB o i || x.apart ops o) && (match x.dst with | some d => o.dst != some d | none => true) else reachB ops 12 j i) = true := by
    intro j o ho
    have hlt : j < ops.size := (Array.getElem?_eq_some_iff.1 ho).1
    have := h3 j (List.mem_range.2 hlt)
    simp only [ho, Bool.and_eq_true] at this
    obtain ⟨ha, hb⟩ := this
    refine ⟨fun e he hb => ?_, fun i x hi hx => ?_⟩
    · have := Array.all_eq_true_iff_forall_mem.1 ha e he
      simpa [hb] using this
    · have := List.all_eq_true.1 hb i (List.mem_range.2 hi)
      simpa only [hx] using this
  refine ⟨fun j o cs b ho => Region.noSelect_spec h1 j o cs b ho, h2, fun j o ho => (hj j o ho).1, fun i j x o hi hn hx ho => ?_, fun i j x o d hi hn hx ho hd => ?_, fun i j o hi hn ho => ?_⟩
  · have := (hj j o ho).2 i x hi hx
    simp only [hn, if_true, Bool.and_eq_true, Bool.or_eq_true] at this
    exact this.1
  · have := (hj j o ho).2 i x hi hx
    simp only [hn, if_true, Bool.and_eq_true, hd] at this
    simpa using this.2
  · have hlt : j < ops.size := (Array.getElem?_eq_some_iff.1 ho).1
    have hx : ops[i]? = some ops[i] := by simp [show i < ops.size by omega]
    have := (hj j o ho).2 i _ hi hx
    simpa only [show ¬ j < n0 by omega, if_false] using this
theorem Desc.fillR {a0 : Act} {n0 : Nat} (T : UpTextR ops n0) {vals : Nat → Value} : ∀ (E : List Mk) (S : Nat → Prop) (a : Act), (∀ i, S i → i < n0) → Desc ops a0 S vals a →
    (∀ m ∈ E, m.1 < n0 ∧ m.2.1 = (ops[m.1]?).bind (·.dst)) → Desc ops a0 (fun i => S i ∨ ∃ m ∈ E, m.1 = i) vals (fillWith vals E a)
  | [], S, a, _, h, _ => h.congr (fun i => by simp) (fun _ _ => rfl)
  | (i, d, D) :: E, S, a, hS, h, hE => by
    obtain ⟨hi, hd⟩ := hE _ (List.mem_cons_self ..)
    have hlt : i < ops.size := Nat.lt_of_lt_of_le hi T.le
    have ho : ops[i]? = some ops[i] := by simp [hlt]
    simp only at hd hi
    rw [ho, Option.bind_some] at hd
    have h1 := h.put (j := i) ho fun i' x d' hi' hne hx hd' => by
      rcases Nat.lt_or_ge i' i with hl | hl
      · exact T.dist i' i x _ d' hl hi hx ho hd'
      · intro e
        exact T.dist i i' _ x d' (by omega) (hS _ hi') ho hx e hd'
    have h2 := Desc.fillR T E _ _ (fun i' hi' => hi'.elim (hS i') (fun e => e ▸ hi)) h1 (fun m hm => hE m (List.mem_cons_of_mem _ hm))
    show Desc ops a0 _ vals (fillWith vals E (a.put d (vals i)))
    rw [hd]
    refine h2.congr (fun i' => ?_) (fun _ _ => rfl)
    simp only [List.mem_cons, exists_eq_or_imp]
    constructor
    · rintro ((h | h) | h)
      · exact .inl h
      · exact .inr (.inl h.symm)
      · exact .inr (.inr h)
    · rintro (h | h | h)
      · exact .inl (.inl h)
      · exact .inl (.inr h.symm)
      · exact .inr h
theorem wpUp_textR {C : World → Prop} {Z : Act → World → Prop} {a0 : Act} {n0 : Nat} (T : UpTextR ops n0) : ∀ (l : List Oper) (k : Nat) (E : List Mk) (a : Act) (Cc : Nat → Prop) (cv : Nat → Value) (D : Nat → Value → World → Prop),
    k + l.length = n0 → (∀ j, j < l.length → l[j]? = ops[k + j]?) → Lex ops a0 k E a Cc cv D → (∀ i, i < k → ∀ v, UpClosed (D i v)) → (∀ j o, j < k → ops[j]? = some o → Turn P ops n0 C a0 D j o) → wpUp P ops C Z l k E a →
    ∃ D' : Nat → Value → World → Prop, (∀ i, i < n0 → ∀ v, UpClosed (D' i v)) ∧ (∀ j o, j < n0 → ops[j]? = some o → Turn P ops n0 C a0 D' j o) ∧
      (∀ (b : Act) (w : World) (vals : Nat → Value), C w → Desc ops a0 (fun i => i < n0) vals b → (∀ i, i < n0 → D' i (vals i) w) → Z b w)
  | [], k, E, a, Cc, cv, D, hk, _, L, hU, hT, h => by
    simp only [List.length_nil, Nat.add_zero] at hk
    subst hk
    refine ⟨D, hU, hT, fun b w vals hC hb hD => ?_⟩
    classical
    have hf := (h w hC).inst (vals := vals) fun m hm => by
      obtain ⟨h1, _, _, h4, _⟩ := L.mem m hm
      rw [h4]; exact hD _ h1
    have hd := L.desc.congr (S' := fun i => i < k ∧ Cc i) (vals' := vals) (fun _ => Iff.rfl) (fun i hi => (L.const i hi.1 hi.2 _ _ (hD i hi.1)).symm)
    have hd := Desc.fillR T E _ a (fun i hi => hi.1) hd (fun m hm => ⟨(L.mem m hm).1, (L.mem m hm).2.2.1⟩)
    have : fillWith vals E a = b := by
      have hag : ∀ t, (fillWith vals E a).tmps[t]? = b.tmps[t]? := fun t => hd.agree hb t fun i o ho hdst => ⟨⟨fun hi => ?_, fun hi => ?_⟩, fun _ => rfl⟩
      · have h1 : (fillWith vals E a).tmps = b.tmps := Array.ext_getElem? hag
        have h2 : (fillWith vals E a).defers = b.defers := hd.defers.trans hb.defers.symm
        cases hx : fillWith vals E a; cases hy : b
        rw [hx, hy] at h1 h2
        simp only at h1 h2
        rw [h1, h2]
      · rcases hi with hi | ⟨m, hm, rfl⟩
        · exact hi.1
        · exact (L.mem m hm).1
      · by_cases hc : Cc i
        · exact .inl ⟨hi, hc⟩
        · exact .inr (L.all i hi hc)
    rw [this] at hf
    exact hf
  | o :: rest, k, E, a, Cc, cv, D, hk, hl, L, hU, hT, h => by
    classical
    simp only [List.length_cons] at hk
    have ho : ops[k]? = some o := by have := hl 0 (by simp); simpa using this.symm
    have hkn : k < n0 := by omega
    have hmemo : o ∈ ops := Array.mem_of_getElem? ho
    -- what the guard sees
    have hwant : ∀ (b : Act) (w : World) (vals : Nat → Value) (S : Nat → Prop), Desc ops a0 S vals b → (∀ i, S i → i < k → D i (vals i) w) → (∀ i, waitsB o i = true → S i) →
        (∀ i x, S i → ops[i]? = some x → i ≠ k ∧ waitsB x k = false) → (∀ i, S i → i < n0) → Region.wanted o (yielded ops b.tmps) = Region.wanted o (yielded ops a.tmps) := by
      intro b w vals S hb hD hw hS hSn
      refine wanted_agree fun g bb t hg hd => hb.agree L.desc t fun i x hx hxd => ?_
      have hlook := guard_looks hg hd
      rcases Nat.lt_trichotomy i k with hik | rfl | hik
      · have hwi : waitsB o i = true := by
          rcases T.pair i k x o hik hkn hx ho with h | h
          · exact h
          · rw [not_apart hxd hlook] at h; cases h
        have hSi := hw i hwi
        have hCc : Cc i := by
          by_cases hc : Cc i
          · exact hc
          · obtain ⟨m, hm, rfl⟩ := L.all i hik hc
            obtain ⟨_, _, _, _, hgf⟩ := L.mem m hm
            exact absurd hd (guardFree_spec hgf (by rw [hx, Option.bind_some, hxd]) hmemo hg)
        exact ⟨⟨fun _ => ⟨hik, hCc⟩, fun _ => hSi⟩, fun _ => L.const i hik hCc _ _ (hD i hSi hik)⟩
      · exact ⟨⟨fun hi => absurd rfl (hS i x hi hx).1, fun hi => absurd hi.1 (Nat.lt_irrefl _)⟩, fun hi => absurd rfl (hS i x hi hx).1⟩
      · have hno : ¬ S i := fun hi => by
          rcases T.pair k i o x hik (hSn i hi) ho hx with h | h
          · rw [(hS i x hi hx).2] at h; cases h
          · rw [not_apart' hxd hlook] at h; cases h
        exact ⟨⟨fun hi => absurd hi hno, fun hi => absurd hi.1 (by omega)⟩, fun hi => absurd hi hno⟩
    have hexec : ∀ (b : Act) (w : World) (vals : Nat → Value) (S : Nat → Prop) (D1 : Value → World → Prop), Desc ops a0 S vals b → (∀ i, S i → i < k → D i (vals i) w) → (∀ i, waitsB o i = true → S i) →
        (∀ i x, S i → ops[i]? = some x → i ≠ k ∧ waitsB x k = false) → (∀ i, S i → i < n0) → fills (E.filter fun m => waitsB o m.1) a w (fun a' => upAt P o a' w D1) → upAt P o b w D1 := by
      intro b w vals S D1 hb hD hw hS hSn hf
      have hf := hf.inst (vals := fun i => if Cc i then cv i else vals i) fun m hm => by
        obtain ⟨hm1, hm2⟩ := List.mem_filter.1 hm
        obtain ⟨h1, h2, _, h4, _⟩ := L.mem m hm1
        rw [h4, if_neg h2]
        exact hD _ (hw _ hm2) h1
      have hd := L.desc.congr (S' := fun i => i < k ∧ Cc i) (vals' := fun i => if Cc i then cv i else vals i) (fun _ => Iff.rfl) (fun i hi => by simp only [hi.2, if_true])
      have hd := Desc.fillR T (E.filter fun m => waitsB o m.1) _ a (fun i hi => Nat.lt_trans hi.1 hkn) hd (fun m hm => by
        obtain ⟨h1, _, h3, _⟩ := L.mem m (List.mem_filter.1 hm).1
        exact ⟨Nat.lt_trans h1 hkn, h3⟩)
      have he : execOp b.eval o = execOp (fillWith (fun i => if Cc i then cv i else vals i) (E.filter fun m => waitsB o m.1) a).eval o := by
        refine exec_agree (ops := ops) (T.sel k o · · ho) fun t hlook => hb.agree hd t fun i x hx hxd => ?_
        rcases Nat.lt_trichotomy i k with hik | rfl | hik
        · have hwi : waitsB o i = true := by
            rcases T.pair i k x o hik hkn hx ho with h | h
            · exact h
            · rw [not_apart hxd hlook] at h; cases h
          have hSi := hw i hwi
          by_cases hc : Cc i
          · exact ⟨⟨fun _ => .inl ⟨hik, hc⟩, fun _ => hSi⟩, fun _ => by simp only [hc, if_true]; exact L.const i hik hc _ _ (hD i hSi hik)⟩
          · obtain ⟨m, hm, rfl⟩ := L.all i hik hc
            exact ⟨⟨fun _ => .inr ⟨m, List.mem_filter.2 ⟨hm, hwi⟩, rfl⟩, fun _ => hSi⟩, fun _ => by simp only [hc, if_false]⟩
        · refine ⟨⟨fun hi => absurd rfl (hS i x hi hx).1, fun hi => ?_⟩, fun hi => absurd rfl (hS i x hi hx).1⟩
          rcases hi with hi | ⟨m, hm, hmi⟩
          · exact absurd hi.1 (Nat.lt_irrefl _)
          · exact absurd (hmi ▸ (L.mem m (List.mem_filter.1 hm).1).1) (Nat.lt_irrefl _)
        · have hno : ¬ S i := fun hi => by
            rcases T.pair k i o x hik (hSn i hi) ho hx with h | h
            · rw [(hS i x hi hx).2] at h; cases h
            · rw [not_apart' hxd hlook] at h; cases h
          refine ⟨⟨fun hi => absurd hi hno, fun hi => ?_⟩, fun hi => absurd hi hno⟩
          rcases hi with hi | ⟨m, hm, rfl⟩
          · exact absurd hi.1 (by omega)
          · exact absurd (L.mem m (List.mem_filter.1 hm).1).1 (by omega)
      unfold upAt at hf ⊢
      rw [he]
      exact hf
    have hrest : k + 1 + rest.length = n0 := by omega
    have hlrest : ∀ j, j < rest.length → rest[j]? = ops[k + 1 + j]? := fun j hj => by
      have := hl (j + 1) (by simp only [List.length_cons]; omega)
      rw [List.getElem?_cons_succ] at this
      rw [this, Nat.add_assoc, Nat.add_comm 1 j]
    have hdst : ∀ (i : Nat) (x : Oper) (d : Tmp), i < k → ops[i]? = some x → x.dst = some d → o.dst ≠ some d := fun i x d hi hx hd => T.dist i k x o d hi hkn hx ho hd
    have hotk : ∀ (Dk : Value → World → Prop) (i : Nat), i < k → (fun i => if i = k then Dk else D i) i = D i := fun Dk i hi => by simp only [show ¬ i = k by omega, if_false]
    have hTurn : ∀ (Dk : Value → World → Prop), Turn P ops n0 C a0 (fun i => if i = k then Dk else D i) k o → ∀ j x, j < k + 1 → ops[j]? = some x → Turn P ops n0 C a0 (fun i => if i = k then Dk else D i) j x := fun Dk h0 j x hj hx => by
      by_cases hjk : j = k
      · subst hjk
        rw [ho] at hx; cases hx
        exact h0
      · intro b w vals S hC hb hSn hD hw hS
        have := hT j x (by omega) hx b w vals S hC hb hSn (fun i hi hij => by have := hD i hi hij; rwa [hotk Dk i (by omega)] at this) hw hS
        rw [hotk Dk j (by omega)]
        exact this
    have hUp : ∀ (Dk : Value → World → Prop), (∀ v, UpClosed (Dk v)) → ∀ i, i < k + 1 → ∀ v, UpClosed ((fun i => if i = k then Dk else D i) i v) := fun Dk h0 i hi v => by
      by_cases hik : i = k
      · simp only [hik, if_true]; exact h0 v
      · rw [hotk Dk i (by omega)]; exact hU i (by omega) v
    have hLexC : ∀ (u : Value), Lex ops a0 (k + 1) E (a.put o.dst u) (fun i => Cc i ∨ i = k) (fun i => if i = k then u else cv i) (fun i => if i = k then (fun v' _ => v' = u) else D i) := fun u => by
      refine ⟨?_, ?_, ?_, ?_⟩
      · have h1 := L.desc.congr (S' := fun i => i < k ∧ Cc i) (vals' := fun i => if i = k then u else cv i) (fun _ => Iff.rfl) (fun i hi => by simp only [show ¬ i = k by omega, if_false])
        have h2 := h1.put (j := k) ho fun i x d hi _ hx hd => hdst i x d hi.1 hx hd
        simp only [if_true] at h2
        refine h2.congr (fun i => ?_) (fun _ _ => rfl)
        constructor
        · rintro (⟨h, h'⟩ | rfl)
          · exact ⟨by omega, .inl h'⟩
          · exact ⟨by omega, .inr rfl⟩
        · rintro ⟨h, h' | rfl⟩
          · by_cases hik : i = k
            · exact .inr hik
            · exact .inl ⟨by omega, h'⟩
          · exact .inr rfl
      · intro i hi hc v w hD
        by_cases hik : i = k
        · simp only [hik, if_true] at hD ⊢; exact hD
        · simp only [hik, if_false] at hD ⊢
          exact L.const i (by omega) (hc.resolve_right hik) v w hD
      · intro m hm
        obtain ⟨h1, h2, h3, h4, h5⟩ := L.mem m hm
        exact ⟨by omega, fun h => h.elim h2 (by omega), h3, by rw [h4]; simp only [show ¬ m.1 = k by omega, if_false], h5⟩
      · intro i hi hc
        exact L.all i (by have : i ≠ k := fun h => hc (.inr h); omega) (fun h => hc (.inl h))
    have hLexM : ∀ (Dk : Value → World → Prop), guardFree ops k = true → Lex ops a0 (k + 1) ((k, o.dst, Dk) :: E) a (fun i => Cc i ∧ i ≠ k) cv (fun i => if i = k then Dk else D i) := fun Dk hg => by
      refine ⟨?_, ?_, ?_, ?_⟩
      · refine L.desc.congr (fun i => ?_) (fun _ _ => rfl)
        constructor
        · rintro ⟨h, h'⟩; exact ⟨by omega, h', by omega⟩
        · rintro ⟨h, h', h''⟩; exact ⟨by omega, h'⟩
      · intro i hi hc v w hD
        simp only [hc.2, if_false] at hD
        exact L.const i (by have := hc.2; omega) hc.1 v w hD
      · intro m hm
        rcases List.mem_cons.1 hm with rfl | hm
        · exact ⟨by simp, fun h => h.2 rfl, by simp only [ho, Option.bind_some], by simp only [if_true], hg⟩
        · obtain ⟨h1, h2, h3, h4, h5⟩ := L.mem m hm
          exact ⟨by omega, fun h => h2 h.1, h3, by rw [h4]; simp only [show ¬ m.1 = k by omega, if_false], h5⟩
      · intro i hi hc
        by_cases hik : i = k
        · exact ⟨_, List.mem_cons_self .., hik.symm⟩
        · obtain ⟨m, hm, hmi⟩ := L.all i (by omega) (fun h => hc ⟨h, hik⟩)
          exact ⟨m, List.mem_cons_of_mem _ hm, hmi⟩
    unfold wpUp at h
    by_cases hwt : Region.wanted o (yielded ops a.tmps) = true
    · simp only [hwt, if_true] at h
      rcases h with ⟨v, h1, h2⟩ | ⟨Dk, hg, hcl, h1, h2⟩
      · refine wpUp_textR T rest (k + 1) E _ _ _ _ hrest hlrest (hLexC v) (hUp _ fun _ _ _ h _ => h) (hTurn _ ?_) h2
        intro b w vals S hC hb hSn hD hw hS
        have hD' : ∀ i, S i → i < k → D i (vals i) w := fun i hi hik => by have := hD i hi hik; rwa [hotk _ i hik] at this
        refine .inl ⟨(hwant b w vals S hb hD' hw hS hSn).trans hwt, ?_⟩
        simp only [if_true]
        exact hexec b w vals S _ hb hD' hw hS hSn (h1 w hC)
      · refine wpUp_textR T rest (k + 1) _ _ _ _ _ hrest hlrest (hLexM Dk hg) (hUp _ hcl) (hTurn _ ?_) h2
        intro b w vals S hC hb hSn hD hw hS
        have hD' : ∀ i, S i → i < k → D i (vals i) w := fun i hi hik => by have := hD i hi hik; rwa [hotk _ i hik] at this
        refine .inl ⟨(hwant b w vals S hb hD' hw hS hSn).trans hwt, ?_⟩
        simp only [if_true]
        exact hexec b w vals S _ hb hD' hw hS hSn (h1 w hC)
    · simp only [hwt] at h
      refine wpUp_textR T rest (k + 1) E _ _ _ _ hrest hlrest (hLexC undef) (hUp _ fun _ _ _ h _ => h) (hTurn _ ?_) h
      intro b w vals S hC hb hSn hD hw hS
      have hD' : ∀ i, S i → i < k → D i (vals i) w := fun i hi hik => by have := hD i hi hik; rwa [hotk _ i hik] at this
      refine .inr ⟨(hwant b w vals S hb hD' hw hS hSn).trans (by simpa using hwt), ?_⟩
      simp only [if_true]
theorem ready_oneR {n0 k : Nat} (T : UpTextR ops n0) {listed : Array Bool} (hk : k < ops.size) (h1 : ∀ i, i < k → listed.getD i false = true) (h2 : ∀ i, k ≤ i → i < ops.size → listed.getD i true = false) (hn : n0 ≤ k) :
    ∀ i, i ∈ Region.ready .any ops listed → i = k := by
  intro i hi
  obtain ⟨hun, o, ho, hall⟩ := mem_ready.1 hi
  have hlt : i < ops.size := (Array.getElem?_eq_some_iff.1 ho).1
  rcases Nat.lt_trichotomy i k with h | h | h
  · have := h1 i h
    have := getD_both hun
    simp_all
  · exact h
  · have hcl : ∀ (j : Nat) (o : Oper), ops[j]? = some o → listed.getD j false = true → ∀ e ∈ o.after, Region.binds .any e = true → listed.getD e.on false = true := fun j x hj hl e he hb => by
      have hjs : j < ops.size := (Array.getElem?_eq_some_iff.1 hj).1
      rcases Nat.lt_or_ge j k with hjk | hjk
      · exact h1 _ (by have := T.lex j x hj e he hb; omega)
      · have := getD_both (h2 j hjk hjs); simp_all
    have hr := reach_listed hcl 12 i k (T.tail k i o h (by omega) ho) (fun o' ho' => by rw [ho] at ho'; cases ho'; exact hall)
    have := getD_both (h2 k (Nat.le_refl _) hk)
    simp_all
theorem wpAny_tailR {n0 : Nat} (T : UpTextR ops n0) {Q : Exit → Act → World → Prop} : ∀ (l : List Oper) (k fuel : Nat) (listed : Array Bool) (a : Act) (w : World), n0 ≤ k → k + l.length = ops.size → l.length ≤ fuel → (∀ j, j < l.length → l[j]? = ops[k + j]?) →
    listed.size = ops.size → (∀ i, i < k → listed.getD i false = true) → (∀ i, k ≤ i → i < ops.size → listed.getD i true = false) → wpList P ops Q l a w → wpAny P .any ops Q fuel listed a w
  | [], k, fuel, listed, a, w, _, hk, _, _, hsz, h1, _, h => by
    simp only [List.length_nil, Nat.add_zero] at hk
    have hr : Region.ready .any ops listed = [] := by
      rcases hx : Region.ready .any ops listed with _ | ⟨i, xs⟩
      · rfl
      · have hi : i ∈ Region.ready .any ops listed := by rw [hx]; exact List.mem_cons_self ..
        obtain ⟨hun, o, ho, _⟩ := mem_ready.1 hi
        have hlt : i < ops.size := (Array.getElem?_eq_some_iff.1 ho).1
        have := h1 i (by omega)
        have := getD_both hun
        simp_all
    cases fuel with
    | zero => exact ⟨hr, h⟩
    | succ f => exact ⟨fun _ => h, fun i hi => by rw [hr] at hi; cases hi⟩
  | o :: l, k, fuel, listed, a, w, hn, hk, hf, hl, hsz, h1, h2, h => by
    simp only [List.length_cons] at hk hf
    obtain ⟨f, rfl⟩ : ∃ f, fuel = f + 1 := ⟨fuel - 1, by omega⟩
    have ho : ops[k]? = some o := by have := hl 0 (by simp); simpa using this.symm
    have hlt : k < ops.size := (Array.getElem?_eq_some_iff.1 ho).1
    have hkr : k ∈ Region.ready .any ops listed := mem_ready.2 ⟨h2 k (Nat.le_refl _) hlt, o, ho, fun e he hb => h1 _ (T.lex k o ho e he hb)⟩
    refine ⟨fun hr => (by rw [hr] at hkr; cases hkr), fun i hi => ?_⟩
    obtain rfl := ready_oneR T hlt h1 h2 hn i hi
    unfold wpList at h
    unfold wpOp
    have hnext : ∀ a w, wpList P ops Q l a w → wpAny P .any ops Q f (listed.setIfInBounds i true) a w := fun a w h => by
      refine wpAny_tailR T l (i + 1) f _ a w (by omega) (by omega) (by omega) (fun j hj => ?_) (by simp [hsz]) (fun j hj => ?_) (fun j hj hjs => ?_) h
      · have := hl (j + 1) (by simp only [List.length_cons]; omega)
        rw [List.getElem?_cons_succ] at this
        rw [this, Nat.add_assoc, Nat.add_comm 1 j]
      · by_cases hji : i = j
        · subst hji; simp [hsz, hlt]
        · exact getD_set_true (h1 j (by omega))
      · rw [getD_set_ne true (by omega)]; exact h2 j (by omega) hjs
    simp only [ho]
    split
    · rename_i hw
      simp only [hw, if_true] at h
      exact h.imp (Oper.wp_mono hnext) id
    · rename_i hw
      simp only [hw] at h
      exact hnext _ _ h
theorem wpAny_upR {C : World → Prop} (hCU : UpClosed C) {a0 : Act} {n0 : Nat} (T : UpTextR ops n0) {D : Nat → Value → World → Prop} {Q : Exit → Act → World → Prop} (hU : ∀ i, i < n0 → ∀ v, UpClosed (D i v)) (hT : ∀ j o, j < n0 → ops[j]? = some o → Turn P ops n0 C a0 D j o)
    (hZ : ∀ (b : Act) (w : World) (vals : Nat → Value), C w → Desc ops a0 (fun i => i < n0) vals b → (∀ i, i < n0 → D i (vals i) w) → wpList P ops Q (ops.toList.drop n0) b w) :
    ∀ (fuel : Nat) (L : List Nat) (listed : Array Bool) (a : Act) (w : World) (vals : Nat → Value), L.length + (ops.size - n0) ≤ fuel → (∀ i, i < n0 → listed.getD i true = false → i ∈ L) → listed.size = ops.size →
      (∀ i, n0 ≤ i → i < ops.size → listed.getD i true = false) → (∀ j o, ops[j]? = some o → listed.getD j false = true → ∀ e ∈ o.after, Region.binds .any e = true → listed.getD e.on false = true) →
      C w → Desc ops a0 (fun i => listed.getD i false = true) vals a → (∀ i, listed.getD i false = true → D i (vals i) w) → wpAny P .any ops Q fuel listed a w := by
  intro fuel
  induction fuel with
  | zero =>
    intro L listed a w vals hL hun hsz htl hcl hC hd hD
    have hL0 : L = [] := List.length_eq_zero_iff.1 (by omega)
    subst hL0
    have hn : n0 = ops.size := by have := T.le; omega
    have hall : ∀ i, i < n0 → listed.getD i false = true := fun i hi => by
      cases h : listed.getD i false with
      | true => rfl
      | false => exact absurd (hun i hi (getD_in (by omega) h)) List.not_mem_nil
    refine wpAny_tailR T (ops.toList.drop n0) n0 0 listed a w (Nat.le_refl _) (by simp; omega) (by simp; omega) (fun j hj => by simp) hsz hall (fun i h1 h2 => by omega) (hZ a w vals hC (hd.congr (fun i => ⟨fun h => ?_, hall i⟩) fun _ _ => rfl) (fun i hi => hD i (hall i hi)))
    rcases Nat.lt_or_ge i n0 with hi | hi
    · exact hi
    · rw [Array.getD_eq_getD_getElem?, Array.getElem?_eq_none (by omega)] at h; cases h
  | succ fuel ih =>
    intro L listed a w vals hL hun hsz htl hcl hC hd hD
    by_cases hall : ∀ i, i < n0 → listed.getD i false = true
    · refine wpAny_tailR T (ops.toList.drop n0) n0 (fuel + 1) listed a w (Nat.le_refl _) (by simp; have := T.le; omega) (by simp; omega) (fun j hj => by simp) hsz hall htl (hZ a w vals hC (hd.congr (fun i => ⟨fun h => ?_, hall i⟩) fun _ _ => rfl) (fun i hi => hD i (hall i hi)))
      rcases Nat.lt_or_ge i n0 with hi | hi
      · exact hi
      · rcases Nat.lt_or_ge i ops.size with his | his
        · have := getD_both (htl i hi his); simp_all
        · rw [Array.getD_eq_getD_getElem?, Array.getElem?_eq_none (by omega)] at h; cases h
    · -- the least one that is not listed is ready
      have hready : Region.ready .any ops listed ≠ [] ∧ ∀ i ∈ Region.ready .any ops listed, i < n0 := by
        obtain ⟨m, hm, hmn, hmin⟩ : ∃ m, m < n0 ∧ listed.getD m false = false ∧ ∀ i, i < m → listed.getD i false = true := by
          have : ∀ d, (∀ i, i < d → listed.getD i false = true) ∨ ∃ m, m < d ∧ listed.getD m false = false ∧ ∀ i, i < m → listed.getD i false = true := by
            intro d
            induction d with
            | zero => exact .inl fun i hi => absurd hi (Nat.not_lt_zero _)
            | succ d ihd =>
              rcases ihd with h | ⟨m, h1, h2⟩
              · cases hx : listed.getD d false with
                | false => exact .inr ⟨d, by omega, hx, h⟩
                | true =>
                  refine .inl fun i hi => ?_
                  rcases Nat.lt_or_ge i d with h' | h'
                  · exact h i h'
                  · have hid : i = d := by omega
                    rw [hid]; exact hx
              · exact .inr ⟨m, by omega, h2⟩
          rcases this n0 with h | h
          · exact absurd h hall
          · exact h
        have hms : m < ops.size := Nat.lt_of_lt_of_le hm T.le
        have hmt : listed.getD m true = false := getD_in (by omega) hmn
        refine ⟨fun hr => ?_, fun i hi => ?_⟩
        · have : m ∈ Region.ready .any ops listed := mem_ready.2 ⟨hmt, ops[m], by simp [hms], fun e he hb => hmin _ (T.lex m _ (by simp [hms]) e he hb)⟩
          rw [hr] at this; cases this
        · obtain ⟨_, o, ho, hal⟩ := mem_ready.1 hi
          rcases Nat.lt_or_ge i n0 with h | h
          · exact h
          · have hr := reach_listed hcl 12 i m (T.tail m i o (by omega) h ho) (fun o' ho' => by rw [ho] at ho'; cases ho'; exact hal)
            rw [hmn] at hr
            cases hr
      refine ⟨fun hr => absurd hr hready.1, fun i hi => ?_⟩
      have hin := hready.2 i hi
      obtain ⟨hunl, o, ho, hal⟩ := mem_ready.1 hi
      have his : i < ops.size := (Array.getElem?_eq_some_iff.1 ho).1
      have hilf : listed.getD i false = false := getD_both hunl
      have hSn : ∀ j, listed.getD j false = true → j < n0 := fun j hj => by
        rcases Nat.lt_or_ge j n0 with h | h
        · exact h
        · rcases Nat.lt_or_ge j ops.size with his | his
          · have := getD_both (htl j h his); simp_all
          · rw [Array.getD_eq_getD_getElem?, Array.getElem?_eq_none (by omega)] at hj; cases hj
      have hturn := hT i o hin ho a w vals (fun j => listed.getD j false = true) hC hd hSn (fun j hj _ => hD j hj) (fun j hj => by
        obtain ⟨e, he, hb⟩ := waitsB_spec hj
        rw [← hb.2]; exact hal e he hb.1) (fun j x hj hx => ⟨fun hji => (by subst hji; rw [hilf] at hj; cases hj), by
        cases hxw : waitsB x i with
        | false => rfl
        | true =>
          obtain ⟨e, he, hb⟩ := waitsB_spec hxw
          have := hcl j x hx hj e he hb.1
          rw [hb.2, hilf] at this
          cases this⟩)
      -- what follows, the value being v, the world w'
      have hnext : ∀ v w', Up w w' → D i v w' → wpAny P .any ops Q fuel (listed.setIfInBounds i true) (a.put o.dst v) w' := by
        intro v w' hu hv
        refine ih (L.erase i) (listed.setIfInBounds i true) _ w' (fun j => if j = i then v else vals j) ?_ ?_ (by simp [hsz]) ?_ ?_ (hCU w w' hC hu) ?_ ?_
        · have hmem := hun i hin hunl
          have := List.length_erase_of_mem hmem
          have hpos : 0 < L.length := List.length_pos_of_mem hmem
          omega
        · intro j hj hjl
          by_cases hji : j = i
          · subst hji; simp [hsz, his] at hjl
          · rw [getD_set_ne true (Ne.symm hji)] at hjl
            exact (List.mem_erase_of_ne hji).2 (hun j hj hjl)
        · intro j hj hjs
          rw [getD_set_ne true (by omega)]; exact htl j hj hjs
        · intro j x hx hjl e he hb
          by_cases hji : j = i
          · subst hji
            rw [ho] at hx; cases hx
            exact getD_set_true (hal e he hb)
          · rw [getD_set_ne false (Ne.symm hji)] at hjl
            exact getD_set_true (hcl j x hx hjl e he hb)
        · have h1 := hd.congr (S' := fun j => listed.getD j false = true) (vals' := fun j => if j = i then v else vals j) (fun _ => Iff.rfl) (fun j hj => by
            have : ¬ j = i := fun h => by subst h; rw [hilf] at hj; cases hj
            simp only [this, if_false])
          have h2 := h1.put (j := i) ho fun j x d hj hne hx hd' => by
            rcases Nat.lt_or_ge j i with hl | hl
            · exact T.dist j i x o d hl hin hx ho hd'
            · intro e
              exact T.dist i j o x d (by omega) (hSn j hj) ho hx e hd'
          simp only [if_true] at h2
          refine h2.congr (fun j => ?_) (fun _ _ => rfl)
          by_cases hji : j = i
          · subst hji; simp [hsz, his]
          · rw [getD_set_ne false (Ne.symm hji)]; simp [hji]
        · intro j hj
          by_cases hji : j = i
          · subst hji; simp only [if_true]; exact hv
          · rw [getD_set_ne false (Ne.symm hji)] at hj
            simp only [hji, if_false]
            exact hU j (hSn j hj) _ _ _ (hD j hj) hu
      unfold wpOp
      simp only [ho]
      rcases hturn with ⟨hw, hat⟩ | ⟨hw, hdu⟩
      · simp only [hw, if_true]
        exact .inl (hat.wp hnext)
      · simp only [hw, Bool.false_eq_true, if_false]
        exact hnext undef w (Up.refl w) hdu
theorem wp_region_upR (n0 : Nat) {id : Nat} {Q : Exit → Act → World → Prop} {a : Act} {w : World} {l : List Oper} (hm : P.follows .mixedOrders = true) (hB : upBR l.toArray n0 = true)
    (h : WUp P l.toArray (fun w' => Up w w') (fun a' w' => wpList P l.toArray Q (l.drop n0) a' w') (l.take n0) 0 [] a) : (Code.region id l.toArray true).wp P Q a w := by
  have T := upB_textR hB
  have hle : n0 ≤ l.length := by simpa using T.le
  obtain ⟨D, hU, hT, hZ⟩ := wpUp_textR (C := fun w' => Up w w') (Z := fun a' w' => wpList P l.toArray Q (l.drop n0) a' w') (a0 := a) (n0 := n0) T (l.take n0) 0 [] a (fun _ => False) (fun _ => undef) (fun _ _ _ => False) (by simp [hle]) (fun j hj => by
    simp only [List.length_take] at hj
    simp [show j < n0 by omega]) ⟨(Desc.refl a (fun _ => undef)).congr (fun i => by simp) (fun _ h => h.elim), fun i hi => absurd hi (Nat.not_lt_zero _), fun m hm => (by cases hm), fun i hi => absurd hi (Nat.not_lt_zero _)⟩
    (fun i hi => absurd hi (Nat.not_lt_zero _)) (fun j o hj => absurd hj (Nat.not_lt_zero _)) h.out
  refine wp_region_any hm (wpAny_upR (C := fun w' => Up w w') (fun _ _ h k => Up.trans h k) (a0 := a) T hU hT (by simpa using hZ) _ (List.range n0) _ a _ (fun _ => undef) (by simp; omega) (fun i hi _ => List.mem_range.2 hi) (by simp) (fun i hi his => by
    have : i < l.length := by simpa using his
    simp [this]) (fun j o ho hj => ?_) ?_ ?_ ?_)
  · rw [getD_replicate_false] at hj; cases hj
  · exact ⟨rfl, rfl, rfl, Nat.le_refl _, fun _ _ => rfl⟩
  · exact (Desc.refl a (fun _ => undef)).congr (fun i => by rw [getD_replicate_false]; simp) (fun _ h => h.elim)
  · intro i hi; rw [getD_replicate_false] at hi; cases hi
end
end Go.Proofs.YtekogcjdaolcbaaGreatDoor

/- Walk of the program's follow, which goes on behind a code. Conditions: the tree lies in memory, what is known is valid, the code can follow or is the clear code. -/
namespace Go.Proofs.YtekogcjdaolcbaaGreatDoor
open Go Go.RowKit
theorem TreeAt.last {lo tb : Nat} {k k' : KnD} {vp vn vi : Value} {w : World} (h : TreeAt lo tb k vp vn vi w) (x : Int) (hs : k'.set = k.set) (hp : k'.ps = k.ps) (hb : k'.base = k.base) (hl : k'.last = x) : TreeAt lo tb k' vp vn vi (w.setCell ⟨tb, 5, none⟩ (.int .i64 x)) := by
  have ht : k'.tree = k.tree := by unfold KnD.tree KnD.c; rw [hs, hp]
  refine ⟨?_, h.low, ?_, ?_, ?_⟩
  · unfold TrBox
    rw [hs, hb, hl]
    exact box_set h.box 5 (.int .i64 x)
  · rw [hp]; exact ownsRow_setb h.prs (box_ne h.box h.prs (by decide)) 5 _
  · rw [ht]; exact ownsRow_setb h.nod (box_ne h.box h.nod (by decide)) 5 _
  · rw [ht]; exact ownsRow_setb h.idx (box_ne h.box h.idx (by decide)) 5 _
theorem TrPost.last {lo tb : Nat} {k k' : KnD} {vp vn vi : Value} {w w' : World} (h : TrPost lo tb k vp vn vi w w') (x : Int) (hs : k'.set = k.set) (hp : k'.ps = k.ps) (hb : k'.base = k.base) (hl : k'.last = x) : TrPost lo tb k' vp vn vi w (w'.setCell ⟨tb, 5, none⟩ (.int .i64 x)) := by
  obtain ⟨vp', vn', vi', h1, h2, h3⟩ := h
  exact ⟨vp', vn', vi', h1.last x hs hp hb hl, h2.set (p := ⟨tb, 5, none⟩) (.inl (.inl rfl)) _, h3⟩
theorem TrPost.pre {lo tb : Nat} {k : KnD} {vp vn vi : Value} {w w1 w' : World} (hu : Up w w1) (h : TrPost lo tb k vp vn vi w1 w') : TrPost lo tb k vp vn vi w w' := by
  obtain ⟨vp', vn', vi', h1, h2, h3⟩ := h
  exact ⟨vp', vn', vi', h1, (Fr.of _ hu).trans h2 (fun _ h => .inl h), fun b hb => (h3 b hb).imp id (fun h => Nat.le_trans hu.size h)⟩
theorem TrPost.refl {lo tb : Nat} {k : KnD} {vp vn vi : Value} {w : World} (h : TreeAt lo tb k vp vn vi w) : TrPost lo tb k vp vn vi w w := ⟨vp, vn, vi, h, Fr.refl _ _, fun _ h => .inl h⟩
def KnD.from (k : KnD) (x : Int) : Int := if x = k.next then k.last else x
end Go.Proofs.YtekogcjdaolcbaaGreatDoor

/- Walk of the program's newTree. Conditions: what is known is valid and can be read. -/
namespace Go.Proofs.YtekogcjdaolcbaaGreatDoor
open Go Go.RowKit
def litC1 (i : Nat) : List Value := [.int .i64 (-1), .int .i64 (-1), .int .i64 (-1), .int .u8 i, .int .u8 i, .int .i64 i]
def litC (b : Nat) : List Value := (List.range b).flatMap litC1
theorem litC_succ (b : Nat) : litC (b + 1) = litC b ++ litC1 b := by simp [litC, List.range_succ]
theorem litC_one (b : Nat) : ∀ u ∈ litC1 b, u.oneCell' = true := by
  intro u hu
  simp only [litC1, List.mem_cons, List.not_mem_nil, or_false] at hu
  rcases hu with rfl | rfl | rfl | rfl | rfl | rfl <;> rfl
theorem litC_all (c : Nat) : litC c = cellsN (litsN c) := by
  unfold litC cellsN
  rw [litsN_length]
  rw [List.flatMap_def, List.flatMap_def]
  congr 1
  apply List.map_congr_left
  intro i hi
  have hi := List.mem_range.1 hi
  have h1 : lastCh (litsN c) i c = -1 := by
    rcases lastCh_cases (litsN c) i c with ⟨h, _⟩ | ⟨j, hj, _, h3, _⟩
    · exact h
    · rw [litsN_at hj] at h3; simp only [] at h3; omega
  unfold nodC
  rw [litsN_at hi, h1]
  rfl
theorem TreeAt.not_own {lo tb : Nat} {k : KnD} {vp vn vi : Value} {w : World} (h : TreeAt lo tb k vp vn vi w) {b : Nat} {cs : Array Value} {T : TypeId} (hb : w.heap[b]? = some (.cells cs T)) (h1 : T ≠ 81) (h2 : T ≠ 133) (h3 : T ≠ 125) (h4 : T ≠ 3) : ¬ Own tb vp vn vi b := by
  rintro (rfl | e | e | e)
  · have := h.box
    unfold TrBox at this
    rw [hb] at this
    cases this
    exact h1 rfl
  · exact box_ne hb h.prs h2 e.symm
  · exact box_ne hb h.nod h3 e.symm
  · exact box_ne hb h.idx h4 e.symm
def KnD.upto (k : KnD) (j : Nat) : KnD := ⟨k.set, k.ps.take j, k.base, k.last⟩
theorem KnD.upto_tr {k : KnD} (h : k.Tr) (j : Nat) : (k.upto j).Tr := by
  refine ⟨h.set, h.ps.take _, ?_⟩
  have := h.len
  show (k.ps.take j).length + k.c + 1 ≤ lastC k.set
  rw [List.length_take]; omega
theorem KnD.upto_add {k : KnD} {j : Nat} (h : j < k.ps.length) : (k.upto j).add k.ps[j] = k.upto (j + 1) := by
  unfold KnD.upto KnD.add
  rw [List.take_succ_eq_append_getElem h]
theorem KnD.upto_all (k : KnD) : k.upto k.ps.length = k := by unfold KnD.upto; rw [List.take_length]
structure Nt1 (k : KnD) (v : Value) (w : World) (b : Nat) (vn : Value) (wr : World) : Prop where
  le : b ≤ clr k.set
  kn : KnAt w.heap.size k v wr
  box : TrBox (w.heap.size + 1) k (.slice none 0 0) vn (.slice none 0 0) wr
  row : wr.ownsRow w.heap.size 125 6 vn b (litC b)
  up : Up w wr
def RelNt1 (k : KnD) (v : Value) (w : World) (i : Value) (wr : World) : Prop := ∃ (b : Nat) (vn : Value), i = .int .i64 b ∧ Nt1 k v w b vn wr
structure Nt2 (k : KnD) (v : Value) (w : World) (j : Nat) (vp vn vi : Value) (wr : World) : Prop where
  le : j ≤ k.ps.length
  kn : KnAt w.heap.size k v wr
  tree : TreeAt w.heap.size (w.heap.size + 1) (k.upto j) vp vn vi wr
  up : Up w wr
def RelNt2 (k : KnD) (v : Value) (w : World) (i : Value) (wr : World) : Prop := ∃ (j : Nat) (vp vn vi : Value), i = .int .i64 j ∧ Nt2 k v w j vp vn vi wr
def NewTree (k : KnD) (w : World) (e : Ending) (w' : World) : Prop := ∃ tb vp vn vi, e = .returned (.pointer (some ⟨tb, 0, none⟩)) ∧ TreeAt w.heap.size tb k vp vn vi w' ∧ Up w w'
set_option maxRecDepth 100000 in
set_option maxHeartbeats 8000000 in
theorem newTree_any (k : KnD) (v : Value) (lo : Nat) (w : World) (hk : k.Ok) (hr : RdP lo w v k.ps) :
    Calls Tryz.prog 90  #[kV k v] w (NewTree k w) := by
  obtain ⟨iN, hiN, hzN0, hzN1, hzN2⟩ := info_parts infoNode
  have hkt := hk.tr
  have cK := fun w => clearI_any k.set w hk.set
  obtain ⟨hb2, hb3, hb4⟩ := clr_le hk.set
  have ec : k.c = clr k.set := rfl
  have hpl := hk.len
  have hrt := fun (wq : World) (hu : Up w wq) => hr.up hu
  obtain ⟨a, cap, rfl, hc1, hc2, hc3, hsome⟩ := hr
  unfold maxLen at hc2
  simp only [kV]
  go_enter Tryz.func90, Tryz.ntmps90
  go_wp2_with (first | (go_at_call 40; (with_reducible refine (cK _).mono ?_); rintro e w1 ⟨rfl, U1⟩; have B1 := bcell U1; have Z1 := U1.size; (try simp at Z1); (try rw [Nat.add_one_le_iff] at Z1)) | fail)
  have hkn : KnAt w.heap.size k (.slice a k.ps.length cap) w1 := box_up U1 (box_up ((Up.refl _).alloc _) (MapKept.heap_alloc w _).1)
  have hbx : TrBox (w.heap.size + 1) k (.slice none 0 0) (.slice none 0 0) (.slice none 0 0) w1 := box_up U1 (alloc2 w _ _)
  have hU1 : Up w w1 := by (repeat (first | with_reducible exact Up.refl _ | with_reducible assumption | with_reducible refine Up.set ?_ (by first | exact Nat.le_refl _ | (simp only []; omega) | (simp; omega)) _ | with_reducible refine Up.alloc ?_ _ | with_reducible refine Up.drew ?_ | refine Up.trans ?_ (by with_reducible assumption)))
  clear U1 B1
  go_loopw [17] (fun i wr => RelNt1 k (.slice a k.ps.length cap) w i wr) (fun i _ => clr k.set - (intOf i).toNat)
  case atStart => exact ⟨0, .slice none 0 0, rfl, Nat.zero_le _, hkn, hbx, World.ownsRow_nil _ _ _ _, hU1⟩
  case round =>
    clear hkn hbx hU1
    obtain ⟨b, vn, rfl, hN⟩ := hrel
    obtain ⟨hble, hkn, hbx, hrow, hup⟩ := hN
    obtain ⟨an, cn, rfl⟩ := ownsRow_shape hrow
    have hfr := box_free hbx
    have hfk := box_free hkn
    have htb := (Array.getElem?_eq_some_iff.1 hbx).1
    obtain ⟨k0, q0, q1, q2, q3, q4, q5⟩ := hkn.cells
    have hne1 : ¬ w.heap.size = w.heap.size + 1 := by omega
    have hsz := hup.size
    by_cases hlt : b < clr k.set
    · have hbm : (b : Int) % 256 = b := by omega
      have hb255 : (b : Int) ≤ 255 := by omega
      obtain ⟨c0, c1, c2, c3, c4, c5, c6, c7⟩ := TrBox.cells hbx
      have hneB : some (w.heap.size + 1) ≠ Value.ownBlock (.slice an b cn) := box_ne hbx hrow (by decide)
      have hneK : some w.heap.size ≠ Value.ownBlock (.slice an b cn) := box_ne hkn hrow (by decide)
      have HN := Lib.hid (And.intro hbx (And.intro hkn (And.intro hrow (And.intro hneB hneK))))
      clear hbx hkn hneB hneK
      go_wp2_with (at_builtin; refine wpList_append_own _ rfl _ _ 78 rfl w.heap.size 125 iN (.agg #[.int .i64 0, .int .i64 0, .int .i64 0, .int .u8 0, .int .u8 0, .int .i64 0]) 6 40 Tryz.underlying78 hiN hzN0 hzN1 hzN2 rfl (by decide) _ _ _ rfl (hrow.alloc _) ⟨wr.heap.size, 0, none⟩ 1 1 (litC1 b) rfl rfl (new_cells (litC1 b) _ rfl) (litC_one b) (by unfold maxLen; omega) (by omega) (by simp; omega) ?_; rintro v2 w2 hown2 hgr2 -; obtain ⟨a2, cc2, rfl⟩ := ownsRow_shape hown2; obtain ⟨c0, c1, c2, c3, c4, c5, c6, c7⟩ := TrBox.cells (gbox hgr2 (box_up ((Up.refl _).alloc _) HN.out.1) HN.out.2.2.2.1); have hfr := box_free (gbox hgr2 (box_up ((Up.refl _).alloc _) HN.out.1) HN.out.2.2.2.1); have HO := Lib.hid (And.intro hown2 hgr2); clear hown2 hgr2)
      go_roundw
      case rel =>
        obtain ⟨hown2, hgr2⟩ := HO.out
        have hb2' : TrBox (w.heap.size + 1) k (.slice none 0 0) (.slice an b cn) (.slice none 0 0) w2 := gbox hgr2 (box_up ((Up.refl _).alloc _) HN.out.1) HN.out.2.2.2.1
        refine ⟨b + 1, .slice a2 (b + 1) cc2, by go_num, by omega, ?_, box_set hb2' 6 _, ?_, ?_⟩
        · exact box_oth (gbox hgr2 (box_up ((Up.refl _).alloc _) HN.out.2.1) HN.out.2.2.2.2) (p := ⟨w.heap.size + 1, 6, none⟩) hne1 _
        · rw [litC_succ]; exact ownsRow_setb hown2 (box_ne hb2' hown2 (by decide)) 6 _
        · exact ((hup.alloc _).grown hgr2 (fun x hx => (HN.out.2.2.1.lt x hx).1)).set (p := ⟨w.heap.size + 1, 6, none⟩) (Nat.le_succ _) _
      case measure => simp [intOf]; omega
    · have e : b = clr k.set := by omega
      have hrow' : wr.ownsRow w.heap.size 125 6 (.slice an b cn) (k.upto 0).tree.ns.length (cellsN (k.upto 0).tree.ns) := by
        have e2 : (k.upto 0).tree = ⟨litsN (clr k.set), []⟩ := rfl
        rw [e2]
        show wr.ownsRow _ _ _ _ (litsN (clr k.set)).length _
        rw [litsN_length, ← litC_all, ← e]
        exact hrow
      have hT0 : TreeAt w.heap.size (w.heap.size + 1) (k.upto 0) (.slice none 0 0) (.slice an b cn) (.slice none 0 0) wr := ⟨hbx, Nat.le_succ _, World.ownsRow_nil _ _ _ _, hrow', World.ownsRow_nil _ _ _ _⟩
      have HK := Lib.hid (And.intro hkn (And.intro hT0 hup))
      clear e hrow hrow' hbx hT0 hkn
      go_wp2
      go_loopw [39] (fun i wr => RelNt2 k (.slice a k.ps.length cap) w i wr) (fun i _ => k.ps.length - (intOf i).toNat)
      case atStart => exact ⟨0, _, _, _, rfl, Nat.zero_le _, HK.out.1, HK.out.2.1, HK.out.2.2⟩
      case round =>
        clear HK hup hfr hfk htb k0 q0 q1 q2 q3 q4 q5 hne1 hsz
        obtain ⟨j, vp, vn, vi, rfl, hN⟩ := hrel
        obtain ⟨hjl, hkn, hT, hup⟩ := hN
        by_cases hlt : j < k.ps.length
        · obtain ⟨hpo, hpb0, hpb1⟩ := hk.ps.get hlt
          obtain ⟨bb, off, rfl, hlo, hbl, hcells⟩ := hsome (by omega)
          obtain ⟨q0, q1⟩ := hcells j k.ps[j] (List.getElem?_eq_getElem hlt)
          have r0 := (hup.cell (p := ⟨bb, off + j * 2, none⟩) hbl).trans q0
          have r1 := (hup.cell (p := ⟨bb, off + j * 2 + 1, none⟩) hbl).trans q1
          have hut : (k.upto j).ps.length = j := by unfold KnD.upto; simp only [List.length_take]; omega
          have cL := fun wq hT => learnT_any w.heap.size (w.heap.size + 1) (k.upto j) vp vn vi k.ps[j] wq hT (KnD.upto_tr hkt j) (by rw [hut]; exact hpo) hpb0 hpb1 (by unfold KnD.next; rw [hut]; show k.c + 2 + j ≤ lastC k.set; omega)
          have hadd := KnD.upto_add hlt
          have HT := Lib.hid (And.intro hkn (And.intro hT hup))
          have HADD := Lib.hid hadd
          clear hcells q0 q1 hkn hT hut hadd
          have hbl2 := Nat.lt_of_lt_of_le hbl hup.size
          go_wp2_with fail
          with_reducible refine (cL _ (HT.out.2.1.up (Up.alloc (Up.refl _) _))).mono ?_
          rintro e w2 ⟨⟨vv, rfl⟩, hP⟩
          go_wp2
          go_roundw
          case rel =>
            obtain ⟨hkn, hT, hup⟩ := HT.out
            obtain ⟨vp', vn', vi', hT', hfr', hO'⟩ := hP
            rw [HADD.out] at hT'
            have hTa := hT.up (Up.alloc (Up.refl wr) (.cells #[.int .i64 k.ps[j].pre, .int .i64 k.ps[j].byt] 133))
            have hkna := box_up (Up.alloc (Up.refl wr) (.cells #[.int .i64 k.ps[j].pre, .int .i64 k.ps[j].byt] 133)) hkn
            exact ⟨j + 1, vp', vn', vi', by go_num, by omega, hfr'.box hkna (hTa.not_own hkna (by decide) (by decide) (by decide) (by decide)), hT', Fr.upto (hup.alloc _) hfr' (fun b hb => (hTa.own_lo b hb).1)⟩
          case measure => simp [intOf]; omega
        · have e : j = k.ps.length := by omega
          rw [e, KnD.upto_all] at hT
          have HT := Lib.hid (And.intro hT hup)
          clear hkn hT
          go_wp2
          go_ret
          exact ⟨_, vp, vn, vi, rfl, HT.out.1, HT.out.2⟩
end Go.Proofs.YtekogcjdaolcbaaGreatDoor

/- Walk of the program's longest, which finds the longest word with which data begins. Conditions: the tree lies in memory, what is known is valid, the data are literals. -/
namespace Go.Proofs.YtekogcjdaolcbaaGreatDoor
open Go Go.RowKit
structure LgAt (k : KnD) (d : List UInt8) (n size : Nat) : Prop where
  lt : n < k.tree.ns.length
  pos : 1 ≤ size
  le : size ≤ d.length
  word : k.word (nodAt k.tree.ns n).cod = d.take size
def RelLg (k : KnD) (d : List UInt8) (w : World) (x s c : Value) (wr : World) : Prop := ∃ n size : Nat, x = .int .i64 n ∧ s = .int .i64 size ∧ LgAt k d n size ∧ w = wr
theorem LgAt.start {k : KnD} (hk : k.Ok) {d : List UInt8} (hd : d ≠ []) (hl : ∀ b ∈ d, b.toNat < k.c) : LgAt k d (d.getD 0 0).toNat 1 := by
  cases d with
  | nil => exact absurd rfl hd
  | cons b l =>
    have hb := hl b (List.mem_cons_self ..)
    have hT := hk.tree
    have hlo := hT.lo
    simp only [List.getD_cons_zero]
    refine ⟨by omega, Nat.le_refl _, by simp, ?_⟩
    rw [hT.lit _ hb]
    show wordP k.c k.ps (b.toNat : Int) = _
    rw [wordP_lit (by omega), ub_self]
    simp
theorem LgAt.step {k : KnD} (hk : k.Ok) {d : List UInt8} {n size j : Nat} (h : LgAt k d n size) (hs : size < d.length) (hj : findCh k.tree.ns n ((d[size]'hs).toNat : Int) k.tree.ns.length = j) : LgAt k d j (size + 1) := by
  have hT := hk.tree
  rcases findCh_cases k.tree.ns n ((d[size]'hs).toNat : Int) k.tree.ns.length with ⟨h1, _⟩ | ⟨i, h1, h2, h3, h4⟩
  · omega
  · have e : i = j := by omega
    subst e
    have hc : k.c ≤ i := by
      rcases Nat.lt_or_ge i k.c with hl | hl
      · rw [hT.lit i hl] at h3; simp only [] at h3; omega
      · exact hl
    have hw := hT.word i hc h1
    rw [h3, Int.toNat_natCast, h4, ub_self] at hw
    refine ⟨h1, by omega, hs, ?_⟩
    show wordP k.c k.ps (nodAt k.tree.ns i).cod = _
    rw [hw, List.take_succ_eq_append_getElem hs]
    have := h.word
    unfold KnD.word at this
    rw [this]
set_option maxRecDepth 100000 in
set_option maxHeartbeats 8000000 in
theorem longest_any (lo tb : Nat) (k : KnD) (vp vn vi : Value) (s : ByteArray) (w : World) (h : TreeAt lo tb k vp vn vi w) (hk : k.Ok) (hs : 0 < s.size) (hs2 : s.size ≤ 1073741824) (hl : ∀ b ∈ s.data.toList, b.toNat < k.c) :
    Calls Tryz.prog 37  #[.pointer (some ⟨tb, 0, none⟩), .string s] w (Same (.tuple #[.int .i64 (k.find (k.longest s.data.toList)), .int .i64 (k.longest s.data.toList).length]) w) := by
  have hkt := hk.tr
  have cC := fun n b hn => child_any lo tb k vp vn vi n b w h hkt hn
  have hsl := ba_len s
  have hd : s.data.toList ≠ [] := fun e => by rw [e] at hsl; simp at hsl; omega
  have hst := LgAt.start hk hd hl
  have hu0 := u8_bd s[0]
  have e0 : s.data.toList.getD 0 0 = s[0] := by
    rw [List.getD_eq_getElem?_getD, List.getElem?_eq_getElem (by omega)]; rfl
  rw [e0] at hst
  have HL := Lib.hid hl
  have hns : k.tree.ns.length ≤ 2000 := by have := hkt.tree.hi; have := hkt.len; have := hkt.c_bd; omega
  obtain ⟨X, hX⟩ : ∃ X, X = k.find (k.longest s.data.toList) := ⟨_, rfl⟩
  obtain ⟨Y, hY⟩ : ∃ Y : Int, Y = (k.longest s.data.toList).length := ⟨_, rfl⟩
  rw [← hX, ← hY]
  have HX := Lib.hid hX
  have HY := Lib.hid hY
  have hps : k.ps.length ≤ 100000 := by have := hkt.len; have := hkt.c_bd; omega
  clear e0 hd hl hX hY
  go_enter Tryz.func37, Tryz.ntmps37
  go_wp2
  go_loopw [6, 7, 8] (fun x z c wr => RelLg k s.data.toList w x z c wr) (fun _ z _ _ => s.size - (intOf z).toNat)
  case atStart => exact ⟨s[0].toNat, 1, rfl, rfl, hst, rfl⟩
  case round =>
    obtain ⟨n, size, rfl, rfl, hA, rfl⟩ := hrel
    have HA := Lib.hid hA
    obtain ⟨h1, h2, h3, -⟩ := hA
    rw [hsl] at h3
    clear hst
    by_cases hlt : size < s.size
    · have hb := u8_bd s[size]
      have eb : s[size] = s.data.toList[size]'(by rw [hsl]; exact hlt) := rfl
      have cCb := cC n (s[size].toNat : Int) h1
      by_cases hf : findCh k.tree.ns n (s[size].toNat : Int) k.tree.ns.length < 0
      · skip
        obtain ⟨c0, c1, c2, c3, c4, c5, c6, c7⟩ := h.cells
        have hfr := box_free h.box
        have htb := h.lt
        obtain ⟨g, cap, nx, rfl, hg1, hg2, hg3, hg4, hg5, d0, d1, d2, d3, d4, d5⟩ := h.node1 hkt h1
        obtain ⟨ap, cp, rfl⟩ := h.shape
        unfold maxLen at hg2
        have cG := fun w => growI_any k.set k.base k.last ap k.ps.length cp w hk.set (by omega)
        have cX := fun w => nextI_any k.set k.base k.last ap k.ps.length cp w hk.set (by omega)
        rw [growN_eq] at cG
        have cN := fun w hT hl => nodeOf_any lo tb k (.slice ap k.ps.length cp) (.slice (some ⟨g, 0, none⟩) k.tree.ns.length cap) vi k.last w hT hkt hl
        have H := Lib.hid h
        have en : Hid (((clr k.set : Int) + 2 + k.ps.length) = (k.next : Nat)) := by unfold Hid KnD.next KnD.c; omega
        simp only [knV] at cG cX
        clear h
        have hm1 : findCh k.tree.ns n (s[size].toNat : Int) k.tree.ns.length = -1 := by have := findCh_bd k.tree.ns n (s[size].toNat : Int) k.tree.ns.length; omega
        have hgs : s.data.toList[size]? = some s[size] := by rw [List.getElem?_eq_getElem (by rw [hsl]; exact hlt)]; rfl
        have hres := KnD.deep_longest hk HL.out h1 h2 (by rw [hsl]; omega) HA.out.word (.inr ⟨s[size], hgs, hm1⟩)
        rw [hm1] at cCb
        clear hf hm1 eb cC
        have hcf := (hkt.tree.bytes n h1).2.2
        by_cases hg : k.grow = true
        · rw [hg] at cG
          by_cases hno : n = nodeOf k.c k.tree k.last
          · by_cases hfi : (s[size].toNat : Int) = (nodAt k.tree.ns n).fir
            · rw [if_pos ⟨_, hgs, hg, hno, hfi⟩] at hres
              have hx := HX.out.trans hres.1
              have hy := HY.out.trans (congrArg Int.ofNat hres.2)
              rw [← hno] at cN
              rw [← hfi] at d4
              clear hres hgs hfi hno HX HY
              go_wp2_with (first | (go_at_call 91; (with_reducible refine cCb.mono ?_); rintro e w' ⟨rfl, rfl⟩) | fail)
              refine wp_region_up 36 (by kernel_rfl) (by kernel_rfl) ?_
              simp only [List.take, List.drop]
              repeat (refine wpUp_step (fun K hK => ?_); go_simp; (try simp only [↓IntWalk.iteOmega]); first
                | (refine hK _ _ ?_; clear hK K)
                | (apply stepU_c
                   · intro wq hwq; (have hbq := bcell hwq; (repeat (first | refine fills_no (by rfl) ?_ | refine fills_yes (by rfl) (fun vq hvq => ?_))); simp only [List.filter_nil, fills]; unfold upAt; go_simp; (try go_bits); (try simp only [↓IntWalk.iteOmega]); (try (rw [dif_pos (by omega)]; go_simp; try go_bits)); first | exact upOut_value | (apply upOut_call; (go_at_call 92; exact cG _)) | (apply upOut_eq; (go_at_call 92; exact cG _)) | (apply upOut_call; (go_at_call 93; exact cN _ (H.out.up hwq) (hk.lastOk hg))) | (apply upOut_eq; (go_at_call 93; exact cN _ (H.out.up hwq) (hk.lastOk hg))))
                   go_simp; refine hK _ _ ?_; clear hK K))
              refine wpUp_nil (fun wq hwq => ?_)
              simp only [fills]
              have BQ := bcell hwq
              go_wp2_with (first | (go_at_call 94; (with_reducible refine (cX _).mono ?_); rintro e w9 ⟨rfl, U9⟩; have B9 := bcell U9; have Z9 := U9.size; (try simp at Z9); (try rw [Nat.add_one_le_iff] at Z9)) | fail)
              go_ret2
              refine ⟨?_, by (repeat (first | with_reducible exact Up.refl _ | with_reducible assumption | with_reducible refine Up.set ?_ (by first | exact Nat.le_refl _ | (simp only []; omega) | (simp; omega)) _ | with_reducible refine Up.alloc ?_ _ | with_reducible refine Up.drew ?_ | refine Up.trans ?_ (by with_reducible assumption)))⟩
              rw [hx, hy]
              rw [en.out]; rfl
            · rw [if_neg (fun ⟨b, hb1, _, _, hb2⟩ => hfi (by rw [hgs] at hb1; cases hb1; exact hb2))] at hres
              have hx := HX.out.trans hres.1
              have hy := HY.out.trans (congrArg Int.ofNat hres.2)
              rw [← hno] at cN
              clear hres hgs hno HX HY
              go_wp2_with (first | (go_at_call 91; (with_reducible refine cCb.mono ?_); rintro e w' ⟨rfl, rfl⟩) | fail)
              refine wp_region_up 36 (by kernel_rfl) (by kernel_rfl) ?_
              simp only [List.take, List.drop]
              repeat (refine wpUp_step (fun K hK => ?_); go_simp; (try simp only [↓IntWalk.iteOmega]); first
                | (refine hK _ _ ?_; clear hK K)
                | (apply stepU_c
                   · intro wq hwq; (have hbq := bcell hwq; (repeat (first | refine fills_no (by rfl) ?_ | refine fills_yes (by rfl) (fun vq hvq => ?_))); simp only [List.filter_nil, fills]; unfold upAt; go_simp; (try go_bits); (try simp only [↓IntWalk.iteOmega]); (try (rw [dif_pos (by omega)]; go_simp; try go_bits)); first | exact upOut_value | (apply upOut_call; (go_at_call 92; exact cG _)) | (apply upOut_eq; (go_at_call 92; exact cG _)) | (apply upOut_call; (go_at_call 93; exact cN _ (H.out.up hwq) (hk.lastOk hg))) | (apply upOut_eq; (go_at_call 93; exact cN _ (H.out.up hwq) (hk.lastOk hg))))
                   go_simp; refine hK _ _ ?_; clear hK K))
              refine wpUp_nil (fun wq hwq => ?_)
              simp only [fills]
              have BQ := bcell hwq
              go_wp2
              go_ret2
              refine ⟨?_, by (repeat (first | with_reducible exact Up.refl _ | with_reducible assumption | with_reducible refine Up.set ?_ (by first | exact Nat.le_refl _ | (simp only []; omega) | (simp; omega)) _ | with_reducible refine Up.alloc ?_ _ | with_reducible refine Up.drew ?_ | refine Up.trans ?_ (by with_reducible assumption)))⟩
              rw [hx, hy]
              rfl
          · rw [if_neg (fun ⟨b, _, _, hb1, _⟩ => hno hb1)] at hres
            have hx := HX.out.trans hres.1
            have hy := HY.out.trans (congrArg Int.ofNat hres.2)
            have hno2 : ¬ ((n : Nat) : Int) = ((nodeOf k.c k.tree k.last : Nat) : Int) := by omega
            clear hres hgs HX HY
            go_wp2_with (first | (go_at_call 91; (with_reducible refine cCb.mono ?_); rintro e w' ⟨rfl, rfl⟩) | fail)
            refine wp_region_up 36 (by kernel_rfl) (by kernel_rfl) ?_
            simp only [List.take, List.drop]
            repeat (refine wpUp_step (fun K hK => ?_); go_simp; (try simp only [↓IntWalk.iteOmega]); first
              | (refine hK _ _ ?_; clear hK K)
              | (apply stepU_c
                 · intro wq hwq; (have hbq := bcell hwq; (repeat (first | refine fills_no (by rfl) ?_ | refine fills_yes (by rfl) (fun vq hvq => ?_))); simp only [List.filter_nil, fills]; unfold upAt; go_simp; (try go_bits); (try simp only [↓IntWalk.iteOmega]); (try (rw [dif_pos (by omega)]; go_simp; try go_bits)); first | exact upOut_value | (apply upOut_call; (go_at_call 92; exact cG _)) | (apply upOut_eq; (go_at_call 92; exact cG _)) | (apply upOut_call; (go_at_call 93; exact cN _ (H.out.up hwq) (hk.lastOk hg))) | (apply upOut_eq; (go_at_call 93; exact cN _ (H.out.up hwq) (hk.lastOk hg))))
                 go_simp; refine hK _ _ ?_; clear hK K))
            refine wpUp_nil (fun wq hwq => ?_)
            simp only [fills]
            have BQ := bcell hwq
            go_wp2
            go_ret2
            refine ⟨?_, by (repeat (first | with_reducible exact Up.refl _ | with_reducible assumption | with_reducible refine Up.set ?_ (by first | exact Nat.le_refl _ | (simp only []; omega) | (simp; omega)) _ | with_reducible refine Up.alloc ?_ _ | with_reducible refine Up.drew ?_ | refine Up.trans ?_ (by with_reducible assumption)))⟩
            rw [hx, hy]
            rfl
        · rw [if_neg (fun ⟨b, _, hb1, _⟩ => hg hb1)] at hres
          have hx := HX.out.trans hres.1
          have hy := HY.out.trans (congrArg Int.ofNat hres.2)
          have hg2' : k.grow = false := by simpa using hg
          rw [hg2'] at cG
          clear hres hgs HX HY hg
          go_wp2_with (first | (go_at_call 91; (with_reducible refine cCb.mono ?_); rintro e w' ⟨rfl, rfl⟩) | fail)
          refine wp_region_up 36 (by kernel_rfl) (by kernel_rfl) ?_
          simp only [List.take, List.drop]
          repeat (refine wpUp_step (fun K hK => ?_); go_simp; (try simp only [↓IntWalk.iteOmega]); first
            | (refine hK _ _ ?_; clear hK K)
            | (apply stepU_c
               · intro wq hwq; (have hbq := bcell hwq; (repeat (first | refine fills_no (by rfl) ?_ | refine fills_yes (by rfl) (fun vq hvq => ?_))); simp only [List.filter_nil, fills]; unfold upAt; go_simp; (try go_bits); (try simp only [↓IntWalk.iteOmega]); (try (rw [dif_pos (by omega)]; go_simp; try go_bits)); first | exact upOut_value | (apply upOut_call; (go_at_call 92; exact cG _)) | (apply upOut_eq; (go_at_call 92; exact cG _)))
               go_simp; refine hK _ _ ?_; clear hK K))
          refine wpUp_nil (fun wq hwq => ?_)
          simp only [fills]
          have BQ := bcell hwq
          go_wp2
          go_ret2
          refine ⟨?_, by (repeat (first | with_reducible exact Up.refl _ | with_reducible assumption | with_reducible refine Up.set ?_ (by first | exact Nat.le_refl _ | (simp only []; omega) | (simp; omega)) _ | with_reducible refine Up.alloc ?_ _ | with_reducible refine Up.drew ?_ | refine Up.trans ?_ (by with_reducible assumption)))⟩
          rw [hx, hy]
          rfl
      · obtain ⟨j, hj⟩ : ∃ j : Nat, findCh k.tree.ns n (s[size].toNat : Int) k.tree.ns.length = j := ⟨(findCh k.tree.ns n (s[size].toNat : Int) k.tree.ns.length).toNat, by omega⟩
        have HS := Lib.hid (HA.out.step hk (by rw [hsl]; exact hlt) (by rw [← eb]; exact hj))
        rw [hj] at cCb
        clear hf hj eb
        go_wp2_with (go_at_call 91; (with_reducible refine cCb.mono ?_); rintro e w' ⟨rfl, rfl⟩)
        go_roundw
        case rel => exact ⟨j, size + 1, rfl, by go_num, HS.out, rfl⟩
        case measure => simp [intOf]; omega
    · skip
      obtain ⟨c0, c1, c2, c3, c4, c5, c6, c7⟩ := h.cells
      have hfr := box_free h.box
      have htb := h.lt
      obtain ⟨g, cap, nx, rfl, hg1, hg2, hg3, hg4, hg5, d0, d1, d2, d3, d4, d5⟩ := h.node1 hkt h1
      obtain ⟨ap, cp, rfl⟩ := h.shape
      unfold maxLen at hg2
      have cG := fun w => growI_any k.set k.base k.last ap k.ps.length cp w hk.set (by omega)
      have cX := fun w => nextI_any k.set k.base k.last ap k.ps.length cp w hk.set (by omega)
      rw [growN_eq] at cG
      have cN := fun w hT hl => nodeOf_any lo tb k (.slice ap k.ps.length cp) (.slice (some ⟨g, 0, none⟩) k.tree.ns.length cap) vi k.last w hT hkt hl
      have H := Lib.hid h
      have en : Hid (((clr k.set : Int) + 2 + k.ps.length) = (k.next : Nat)) := by unfold Hid KnD.next KnD.c; omega
      simp only [knV] at cG cX
      clear h
      have hse : size = s.size := by omega
      have hres := KnD.deep_longest hk HL.out h1 h2 (by rw [hsl]; omega) HA.out.word (.inl (by rw [hsl]; exact hse))
      rw [if_neg (fun ⟨b, hb1, _⟩ => by have := (List.getElem?_eq_some_iff.1 hb1).1; omega)] at hres
      have hx := HX.out.trans hres.1
      have hy := HY.out.trans (congrArg Int.ofNat hres.2)
      subst hse
      clear hres cC HX HY
      go_wp2
      refine wp_region_up 36 (by kernel_rfl) (by kernel_rfl) ?_
      simp only [List.take, List.drop]
      repeat (refine wpUp_step (fun K hK => ?_); go_simp; (try simp only [↓IntWalk.iteOmega]); first
        | (refine hK _ _ ?_; clear hK K)
        | (apply stepU_c
           · intro wq hwq; (have hbq := bcell hwq; (repeat (first | refine fills_no (by rfl) ?_ | refine fills_yes (by rfl) (fun vq hvq => ?_))); simp only [List.filter_nil, fills]; unfold upAt; go_simp; (try go_bits); (try simp only [↓IntWalk.iteOmega]); (try (rw [dif_pos (by omega)]; go_simp; try go_bits)); first | exact upOut_value)
           go_simp; refine hK _ _ ?_; clear hK K))
      refine wpUp_nil (fun wq hwq => ?_)
      simp only [fills]
      have BQ := bcell hwq
      go_wp2
      go_ret2
      refine ⟨?_, by (repeat (first | with_reducible exact Up.refl _ | with_reducible assumption | with_reducible refine Up.set ?_ (by first | exact Nat.le_refl _ | (simp only []; omega) | (simp; omega)) _ | with_reducible refine Up.alloc ?_ _ | with_reducible refine Up.drew ?_ | refine Up.trans ?_ (by with_reducible assumption)))⟩
      rw [hx, hy]
      rfl
end Go.Proofs.YtekogcjdaolcbaaGreatDoor

/- Walk of the program's greedy. Conditions: what is known is valid and can be read; the data fits. -/
namespace Go.Proofs.YtekogcjdaolcbaaGreatDoor
open Go Go.RowKit
theorem TreeAt.base {lo lo' tb : Nat} {k : KnD} {vp vn vi : Value} {w : World} (h : TreeAt lo tb k vp vn vi w) (hl : lo' ≤ lo) : TreeAt lo' tb k vp vn vi w := ⟨h.box, Nat.le_trans hl h.low, ownsRow_base h.prs hl, ownsRow_base h.nod hl, ownsRow_base h.idx hl⟩
structure GiW (w : World) (tb : Nat) (k : KnD) (vp vn vi vc : Value) (acc : List Int) (wr : World) : Prop where
  tree : TreeAt w.heap.size tb k vp vn vi wr
  own : ownI wr w.heap.size vc acc
  sep : ∀ b, vc.ownBlock = some b → ¬ Own tb vp vn vi b
  up : Up w wr
theorem GiW.upd {w : World} {tb : Nat} {k : KnD} {vp vn vi vc : Value} {acc : List Int} {wr w' : World} (h : GiW w tb k vp vn vi vc acc wr) (hu : Up wr w') : GiW w tb k vp vn vi vc acc w' := ⟨h.tree.up hu, ownsRow_up h.own hu, h.sep, h.up.trans hu⟩
theorem GiW.tr {w : World} {tb : Nat} {k k' : KnD} {vp vn vi vc : Value} {acc : List Int} {wr w' : World} (h : GiW w tb k vp vn vi vc acc wr) (hp : TrPost w.heap.size tb k' vp vn vi wr w') : ∃ vp' vn' vi', GiW w tb k' vp' vn' vi' vc acc w' := by
  obtain ⟨vp', vn', vi', hT, hF, hO⟩ := hp
  refine ⟨vp', vn', vi', hT, hF.row h.own h.sep, ?_, Fr.upto h.up hF (fun b hb => (h.tree.own_lo b hb).1)⟩
  intro b hb ho
  rcases hO b ho with h1 | h1
  · exact h.sep b hb h1
  · have := (h.own.lt b hb).2; omega
theorem GiW.app {w : World} {tb : Nat} {k : KnD} {vp vn vi vc : Value} {acc : List Int} {wr w' : World} (h : GiW w tb k vp vn vi vc acc wr) {o : Obj} {x : Int} {v' : Value} (hv : w'.ownsRow w.heap.size 3 1 v' (acc.length + 1) (cellsI acc ++ [.int .i64 x])) (hg : (wr.alloc o).grownBy w' vc.ownBlock) (hn : NewOr (wr.alloc o).heap.size vc v') : GiW w tb k vp vn vi v' (acc ++ [x]) w' := by
  have hA := h.upd (Up.alloc (Up.refl wr) o)
  have hFr : Fr (fun b => vc.ownBlock = some b) (wr.alloc o) w' := (Fr.refl _ _).gr hg (fun b hb => .inl hb)
  refine ⟨hA.tree.fr hFr (fun b hb e => hA.sep b e hb), ?_, ?_, hA.up.grown hg (fun b hb => (hA.own.lt b hb).1)⟩
  · rw [← cellsI_snoc] at hv
    exact ownsRow_n hv (by simp)
  · intro b hb ho
    rcases hn b hb with h1 | h1
    · exact hA.sep b h1 ho
    · have := (hA.tree.own_lo b ho).2; omega
structure GiD (T : List Int) (k0 : KnD) (m : Nat) (k : KnD) (d : List UInt8) (acc : List Int) : Prop where
  len : d.length ≤ m
  le : d.length ≤ 2000
  sum : acc.length + 2 * d.length ≤ 4001
  tot : acc ++ (if k.full = true ∧ d ≠ [] then (k.c : Int) :: greedyN m k.cleared d else greedyN m k d) = T
  ok : k.Ok
  set : k.set = k0.set
  lit : ∀ b ∈ d, b.toNat < k0.c
structure GiE (T : List Int) (k0 : KnD) (m : Nat) (k : KnD) (d : List UInt8) (acc : List Int) : Prop where
  len : d.length ≤ m
  le : d.length ≤ 2000
  sum : acc.length + 2 * d.length ≤ 4002
  tot : acc ++ greedyN m k d = T
  ok : k.Ok
  set : k.set = k0.set
  lit : ∀ b ∈ d, b.toNat < k0.c
theorem c_of {k k0 : KnD} (h : k.set = k0.set) : k.c = k0.c := by unfold KnD.c; rw [h]
theorem GiD.nil {T : List Int} {k0 : KnD} {m : Nat} {k : KnD} {acc : List Int} (h : GiD T k0 m k [] acc) : acc ++ [(clr k0.set : Int) + 1] = T := by
  have h1 := h.tot
  rw [if_neg (fun h => h.2 rfl), greedyN_nil, c_of h.set] at h1
  exact h1
theorem GiD.full {T : List Int} {k0 : KnD} {m : Nat} {k : KnD} {d : List UInt8} {acc : List Int} (h : GiD T k0 m k d acc) (hd : d ≠ []) (hf : k.full = true) : GiE T k0 m k.cleared d (acc ++ [(clr k0.set : Int)]) := by
  have h1 := h.tot
  rw [if_pos ⟨hf, hd⟩, c_of h.set] at h1
  exact ⟨h.len, h.le, by have := h.sum; simp; omega, by rw [List.append_assoc]; exact h1, KnD.cleared_ok h.ok, h.set, h.lit⟩
theorem GiE.step {T : List Int} {k0 : KnD} {m : Nat} {k : KnD} {d : List UInt8} {acc : List Int} (h : GiE T k0 m k d acc) (hd : d ≠ []) :
    k.follows (k.find (k.longest d)) = true ∧ ¬ k.find (k.longest d) = (k.c : Int) ∧ 1 ≤ (k.longest d).length ∧ (k.longest d).length ≤ d.length ∧ GiD T k0 (m - 1) (k.after (k.find (k.longest d))) (d.drop (k.longest d).length) (acc ++ [k.find (k.longest d)]) := by
  have hll := KnD.longest_le (k := k) d
  have hlp := KnD.longest_pos (k := k) hd
  have hl : ∀ b ∈ d, b.toNat < k.c := by rw [c_of h.set]; exact h.lit
  obtain ⟨hfw, -⟩ := KnD.find_any h.ok hd hl
  have hpos : 0 < d.length := List.length_pos_iff.2 hd
  have h1 := h.len; have h2 := h.le; have h3 := h.sum; have h4 := h.tot
  obtain ⟨n, rfl⟩ : ∃ n, m = n + 1 := ⟨m - 1, by omega⟩
  refine ⟨hfw, (KnD.fol_ne h.ok hfw).1, hlp, hll, by rw [List.length_drop]; omega, by rw [List.length_drop]; omega, by rw [List.length_drop, List.length_append]; simp; omega, ?_, KnD.after_ok h.ok hfw, h.set, fun b hb => h.lit b (List.mem_of_mem_drop hb)⟩
  rw [greedyN, if_neg hd] at h4
  rw [← h4, List.append_assoc]
  rfl
theorem GiD.start {k : KnD} {d : List UInt8} (hk : k.Ok) (hd : d.length ≤ 2000) (hl : ∀ b ∈ d, b.toNat < k.c) : GiD (greedy k d) k d.length k.cleared d [(clr k.set : Int)] := by
  have hf : k.cleared.full = false := by
    unfold KnD.full KnD.cleared
    have h0 := hk.base0
    have : ¬ k.base < ((k.ps.take k.base.toNat).length : Int) := by rw [List.length_take]; omega
    rw [Bool.and_eq_false_iff]; right
    exact decide_eq_false this
  refine ⟨Nat.le_refl _, hd, by simp; omega, ?_, KnD.cleared_ok hk, rfl, hl⟩
  rw [if_neg (fun h => by rw [hf] at h; cases h.1)]
  rfl
end Go.Proofs.YtekogcjdaolcbaaGreatDoor

/- Plain: the words that are known are closed under prefixes, and so the longest word of a text that goes on is that of the text, if that one ends within it (for the writers). Conditions: as each says. -/
namespace Go.Proofs.YtekogcjdaolcbaaGreatDoor
open Go.RowKit
def KnD.isW (k : KnD) (w : List UInt8) : Prop := w.length = 1 ∨ ∃ j, j < k.cnt ∧ k.any ((k.c : Int) + 2 + j) = w
theorem KnD.any_pair {k : KnD} (h : k.Ok) {j : Nat} (hj : j < k.ps.length) : k.any ((k.c : Int) + 2 + j) = k.word k.ps[j].pre ++ [ub k.ps[j].byt] := by
  rw [KnD.any_word (by rw [codeOk_iff]; omega)]
  exact wordP_pair h.ps hj
theorem KnD.pre_pair {k : KnD} (h : k.Ok) : ∀ (j : Nat), j < k.ps.length → ∀ m, 1 ≤ m → m ≤ (k.any ((k.c : Int) + 2 + j)).length → k.isW ((k.any ((k.c : Int) + 2 + j)).take m) := by
  intro j
  induction j using Nat.strongRecOn with
  | ind j ih =>
    intro hj m h1 hm
    have hcnt : j < k.cnt := by rw [KnD.cnt_eq]; omega
    by_cases hme : m = (k.any ((k.c : Int) + 2 + j)).length
    · exact .inr ⟨j, hcnt, by rw [hme, List.take_length]⟩
    · have ha := KnD.any_pair h hj
      obtain ⟨hp, -, -⟩ := h.ps.get hj
      rw [ha] at hm hme ⊢
      rw [List.length_append] at hm hme
      simp only [List.length_cons, List.length_nil] at hm hme
      rw [List.take_append_of_le_length (by omega)]
      rcases (codeOk_iff.1 hp) with ⟨p0, p1⟩ | ⟨p0, p1⟩
      · have hw : k.word k.ps[j].pre = [ub k.ps[j].pre] := wordP_lit p1
        rw [hw] at hm ⊢
        left
        simp at hm ⊢
        omega
      · obtain ⟨i, hi⟩ : ∃ i : Nat, k.ps[j].pre = (k.c : Int) + 2 + i := ⟨(k.ps[j].pre - ((k.c : Int) + 2)).toNat, by omega⟩
        have hij : i < j := by omega
        have hai : k.any ((k.c : Int) + 2 + i) = k.word ((k.c : Int) + 2 + i) := KnD.any_word (by rw [codeOk_iff]; omega)
        have := ih i hij (by omega) m h1 (by rw [hai, ← hi]; omega)
        rw [hai, ← hi] at this
        exact this
theorem KnD.pre_any {k : KnD} (h : k.Ok) {j : Nat} (hj : j < k.cnt) {m : Nat} (h1 : 1 ≤ m) (hm : m ≤ (k.any ((k.c : Int) + 2 + j)).length) : k.isW ((k.any ((k.c : Int) + 2 + j)).take m) := by
  by_cases hp : j < k.ps.length
  · exact KnD.pre_pair h j hp m h1 hm
  · rw [KnD.cnt_eq] at hj
    have hg : k.grow = true := by
      cases hg : k.grow
      · rw [hg] at hj; simp at hj; omega
      · rfl
    rw [hg] at hj
    simp at hj
    have hjl : j = k.ps.length := by omega
    by_cases hme : m = (k.any ((k.c : Int) + 2 + j)).length
    · exact .inr ⟨j, by rw [KnD.cnt_eq, hg]; simp; omega, by rw [hme, List.take_length]⟩
    · have hn : (k.c : Int) + 2 + j = (k.next : Int) := by unfold KnD.next; omega
      have ha : k.any ((k.c : Int) + 2 + j) = k.word k.last ++ (k.word k.last).take 1 := by
        rw [hn]; unfold KnD.any; rw [if_pos rfl]
      have hlo := h.lastOk hg
      rw [ha] at hm hme ⊢
      rw [List.length_append, List.length_take] at hm hme
      rw [List.take_append_of_le_length (by omega)]
      rcases (codeOk_iff.1 hlo) with ⟨p0, p1⟩ | ⟨p0, p1⟩
      · have hw : k.word k.last = [ub k.last] := wordP_lit p1
        rw [hw] at hm hme ⊢
        left
        simp at hm hme ⊢
        omega
      · obtain ⟨i, hi⟩ : ∃ i : Nat, k.last = (k.c : Int) + 2 + i := ⟨(k.last - ((k.c : Int) + 2)).toNat, by omega⟩
        have hai : k.any ((k.c : Int) + 2 + i) = k.word ((k.c : Int) + 2 + i) := KnD.any_word (by rw [codeOk_iff]; omega)
        have := KnD.pre_pair h i (by omega) m h1 (by rw [hai, ← hi]; omega)
        rw [hai, ← hi] at this
        exact this
theorem KnD.longN_most {k : KnD} {d : List UInt8} : ∀ (n j : Nat), j < n → (k.any ((k.c : Int) + 2 + j)).length ≤ d.length → d.take (k.any ((k.c : Int) + 2 + j)).length = k.any ((k.c : Int) + 2 + j) → (k.any ((k.c : Int) + 2 + j)).length ≤ (k.longN d n).length := by
  intro n
  induction n with
  | zero => intro j hj; exact absurd hj (Nat.not_lt_zero _)
  | succ n ih =>
    intro j hj h1 h2
    rw [KnD.longN]
    by_cases hjn : j = n
    · subst hjn
      split
      · exact Nat.le_refl _
      · next h => exact Nat.le_of_not_lt fun hlt => h ⟨hlt, h1, h2⟩
    · have := ih j (by omega) h1 h2
      split
      · next h => omega
      · exact this
theorem KnD.longest_isW {k : KnD} {d : List UInt8} (hd : d ≠ []) : k.isW (k.longest d) := by
  unfold KnD.longest
  rcases KnD.longN_cases (k := k) (d := d) k.cnt with h | ⟨j, h1, h2, -, -⟩
  · left
    rw [h, List.length_take]
    cases d with
    | nil => exact absurd rfl hd
    | cons b l => simp
  · exact .inr ⟨j, h1, h2.symm⟩
theorem KnD.isW_le {k : KnD} {d w : List UInt8} (hd : d ≠ []) (hw : k.isW w) (hl : w.length ≤ d.length) (ht : d.take w.length = w) : w.length ≤ (k.longest d).length := by
  rcases hw with h | ⟨j, hj, rfl⟩
  · have := KnD.longest_pos (k := k) hd
    omega
  · exact KnD.longN_most k.cnt j hj hl ht
theorem KnD.longest_more {k : KnD} (h : k.Ok) {d : List UInt8} (e : List UInt8) (hd : d ≠ []) (hn : k.longest d ≠ d) : k.longest (d ++ e) = k.longest d := by
  have hde : d ++ e ≠ [] := by simp [hd]
  have hL := KnD.longest_take (k := k) (d ++ e)
  have hl := KnD.longest_take (k := k) d
  have hle := KnD.longest_le (k := k) d
  have hLe := KnD.longest_le (k := k) (d ++ e)
  have hLp := KnD.longest_pos (k := k) hde
  have h1 : (k.longest d).length ≤ (k.longest (d ++ e)).length := KnD.isW_le hde (KnD.longest_isW hd) (by rw [List.length_append]; omega) (by rw [List.take_append_of_le_length hle]; exact hl)
  by_cases hlt : (k.longest (d ++ e)).length ≤ d.length
  · have hL' : d.take (k.longest (d ++ e)).length = k.longest (d ++ e) := by rw [List.take_append_of_le_length hlt] at hL; exact hL
    have h2 := KnD.isW_le hd (KnD.longest_isW hde) hlt hL'
    have : (k.longest (d ++ e)).length = (k.longest d).length := by omega
    rw [← hL', this, hl]
  · exfalso
    apply hn
    have hdl : d.length ≤ (k.longest (d ++ e)).length := by omega
    have hdt : (k.longest (d ++ e)).take d.length = d := by
      rw [← hL, List.take_take, Nat.min_eq_left hdl, List.take_append_of_le_length (Nat.le_refl _), List.take_length]
    have hW : k.isW d := by
      rcases KnD.longest_isW (k := k) hde with h1 | ⟨j, hj, hje⟩
      · left
        have := List.length_pos_iff.2 hd
        omega
      · have := KnD.pre_any h hj (m := d.length) (List.length_pos_iff.2 hd) (by rw [hje]; exact hdl)
        rw [hje, hdt] at this
        exact this
    have h2 := KnD.isW_le hd hW (Nat.le_refl _) List.take_length
    have : (k.longest d).length = d.length := by omega
    rw [← hl, this, List.take_length]
end Go.Proofs.YtekogcjdaolcbaaGreatDoor

/- Plain: the codes that a writer writes, part by part, are those of the whole text (for the writers). Conditions: what is known is valid, the data has only literals. -/
namespace Go.Proofs.YtekogcjdaolcbaaGreatDoor
open Go.RowKit
def wrC : Nat → KnD → List UInt8 → List Int × KnD × List UInt8
  | 0, k, d => ([], k, d)
  | n + 1, k, d =>
    if d = [] ∨ k.longest d = d then ([], k, d)
    else if (k.after (k.find (k.longest d))).full = true then
      (k.find (k.longest d) :: (k.c : Int) :: (wrC n (k.after (k.find (k.longest d))).cleared (d.drop (k.longest d).length)).1, (wrC n (k.after (k.find (k.longest d))).cleared (d.drop (k.longest d).length)).2)
    else (k.find (k.longest d) :: (wrC n (k.after (k.find (k.longest d))) (d.drop (k.longest d).length)).1, (wrC n (k.after (k.find (k.longest d))) (d.drop (k.longest d).length)).2)
theorem wrC_stop {n : Nat} {k : KnD} {d : List UInt8} (h : d = [] ∨ k.longest d = d) : wrC n k d = ([], k, d) := by
  cases n with
  | zero => rfl
  | succ n => rw [wrC, if_pos h]
theorem wrC_end : ∀ (n : Nat) (k : KnD) (d : List UInt8), d.length ≤ n → k.Ok → (∀ b ∈ d, b.toNat < k.c) →
    (wrC n k d).2.1.Ok ∧ (wrC n k d).2.1.set = k.set ∧ ((wrC n k d).2.2 = [] ∨ (wrC n k d).2.1.longest (wrC n k d).2.2 = (wrC n k d).2.2) ∧ (d ≠ [] → (wrC n k d).2.2 ≠ []) ∧ (∃ p, d = p ++ (wrC n k d).2.2) := by
  intro n
  induction n with
  | zero =>
    intro k d hd hk _
    have : d = [] := List.eq_nil_of_length_eq_zero (by omega)
    subst this
    exact ⟨hk, rfl, .inl rfl, fun h => absurd rfl h, [], rfl⟩
  | succ n ih =>
    intro k d hd hk hl
    by_cases hs : d = [] ∨ k.longest d = d
    · rw [wrC_stop hs]
      exact ⟨hk, rfl, hs, fun h => h, [], rfl⟩
    · have hd0 : d ≠ [] := fun e => hs (.inl e)
      have hp := KnD.longest_pos (k := k) hd0
      have hle := KnD.longest_le (k := k) d
      have hlt : (k.longest d).length < d.length := by
        rcases Nat.lt_or_ge (k.longest d).length d.length with h | h
        · exact h
        · exfalso
          apply hs
          right
          have ht := KnD.longest_take (k := k) d
          rw [show (k.longest d).length = d.length by omega, List.take_length] at ht
          exact ht.symm
      obtain ⟨hf, -⟩ := KnD.find_any hk hd0 hl
      have hak := KnD.after_ok hk hf
      have hr : d.drop (k.longest d).length ≠ [] := fun e => by
        have := congrArg List.length e
        rw [List.length_drop] at this
        simp at this
        omega
      have hl' : ∀ b ∈ d.drop (k.longest d).length, b.toNat < k.c := fun b hb => hl b (List.mem_of_mem_drop hb)
      have hlen : (d.drop (k.longest d).length).length ≤ n := by rw [List.length_drop]; omega
      rw [wrC, if_neg hs]
      by_cases hfu : (k.after (k.find (k.longest d))).full = true
      · rw [if_pos hfu]
        obtain ⟨h1, h2, h3, h4, p, h5⟩ := ih (k.after (k.find (k.longest d))).cleared _ hlen (KnD.cleared_ok hak) hl'
        exact ⟨h1, h2, h3, fun _ => h4 hr, d.take (k.longest d).length ++ p, by
          rw [List.append_assoc, ← h5, List.take_append_drop]⟩
      · rw [if_neg hfu]
        obtain ⟨h1, h2, h3, h4, p, h5⟩ := ih (k.after (k.find (k.longest d))) _ hlen hak hl'
        exact ⟨h1, h2, h3, fun _ => h4 hr, d.take (k.longest d).length ++ p, by
          rw [List.append_assoc, ← h5, List.take_append_drop]⟩
theorem wrC_greedy : ∀ (n : Nat) (k : KnD) (d e : List UInt8) (m : Nat), d.length ≤ n → (d ++ e).length ≤ m → k.Ok → (∀ b ∈ d, b.toNat < k.c) →
    ∃ m', ((wrC n k d).2.2 ++ e).length ≤ m' ∧ greedyN m k (d ++ e) = (wrC n k d).1 ++ greedyN m' (wrC n k d).2.1 ((wrC n k d).2.2 ++ e) := by
  intro n
  induction n with
  | zero =>
    intro k d e m hd hm hk _
    have : d = [] := List.eq_nil_of_length_eq_zero (by omega)
    subst this
    exact ⟨m, hm, rfl⟩
  | succ n ih =>
    intro k d e m hd hm hk hl
    by_cases hs : d = [] ∨ k.longest d = d
    · rw [wrC_stop hs]
      exact ⟨m, hm, rfl⟩
    · have hd0 : d ≠ [] := fun e => hs (.inl e)
      have hp := KnD.longest_pos (k := k) hd0
      have hle := KnD.longest_le (k := k) d
      have hlo := KnD.longest_more hk e hd0 (fun h => hs (.inr h))
      have hlt : (k.longest d).length < d.length := by
        rcases Nat.lt_or_ge (k.longest d).length d.length with h | h
        · exact h
        · exfalso
          apply hs
          right
          have ht := KnD.longest_take (k := k) d
          rw [show (k.longest d).length = d.length by omega, List.take_length] at ht
          exact ht.symm
      obtain ⟨hf, -⟩ := KnD.find_any hk hd0 hl
      have hak := KnD.after_ok hk hf
      have hl' : ∀ b ∈ d.drop (k.longest d).length, b.toNat < k.c := fun b hb => hl b (List.mem_of_mem_drop hb)
      have hlen : (d.drop (k.longest d).length).length ≤ n := by rw [List.length_drop]; omega
      have hdrop : (d ++ e).drop (k.longest d).length = d.drop (k.longest d).length ++ e := by rw [List.drop_append_of_le_length hle]
      have hde : d ++ e ≠ [] := by simp [hd0]
      have hne : d.drop (k.longest d).length ++ e ≠ [] := fun h => by
        have := congrArg List.length h
        rw [List.length_append, List.length_drop] at this
        simp at this
        omega
      obtain ⟨m, rfl⟩ : ∃ q, m = q + 1 := ⟨m - 1, by rw [List.length_append] at hm; omega⟩
      have hm' : (d.drop (k.longest d).length ++ e).length ≤ m := by rw [List.length_append, List.length_drop]; rw [List.length_append] at hm; omega
      rw [wrC, if_neg hs]
      by_cases hfu : (k.after (k.find (k.longest d))).full = true
      · rw [if_pos hfu]
        obtain ⟨m', h1, h2⟩ := ih (k.after (k.find (k.longest d))).cleared _ e m hlen hm' (KnD.cleared_ok hak) hl'
        refine ⟨m', h1, ?_⟩
        rw [greedyN, if_neg hde, hlo, hdrop, if_pos ⟨hfu, hne⟩, h2]
        rfl
      · rw [if_neg hfu]
        obtain ⟨m', h1, h2⟩ := ih (k.after (k.find (k.longest d))) _ e m hlen hm' hak hl'
        refine ⟨m', h1, ?_⟩
        rw [greedyN, if_neg hde, hlo, hdrop, if_neg (fun h => hfu h.1), h2]
        rfl
theorem wrC_close {m : Nat} {k : KnD} {d : List UInt8} (h : d = [] ∨ k.longest d = d) (hm : d.length ≤ m) : greedyN m k d = (if d = [] then [] else [k.find d]) ++ [(k.c : Int) + 1] := by
  by_cases hd : d = []
  · subst hd
    rw [greedyN_nil, if_pos rfl]
    rfl
  · rcases h with h | h
    · exact absurd h hd
    · obtain ⟨m, rfl⟩ : ∃ q, m = q + 1 := ⟨m - 1, by have := List.length_pos_iff.2 hd; omega⟩
      rw [greedyN, if_neg hd, h, List.drop_length, if_neg (fun h => h.2 rfl), greedyN_nil, if_neg hd]
      rfl
end Go.Proofs.YtekogcjdaolcbaaGreatDoor

/- Plain law: following codes that can follow only adds data. Conditions: as each says. -/
namespace Go.Proofs.YtekogcjdaolcbaaGreatDoor
open Go Go.RowKit
theorem walkN_pre : ∀ (xs : List Int) (k : KnD) (ws : List Int) (d : List UInt8), (walkN k xs ws d).ok = true → d.length ≤ (walkN k xs ws d).data.length := by
  intro xs
  induction xs with
  | nil => intro k ws d h; exact Nat.le_refl _
  | cons x xs ih =>
    intro k ws d h
    rw [walkN] at h ⊢
    split at h
    · next h1 => rw [if_pos h1]; exact Nat.le_refl _
    · next h1 =>
      rw [if_neg h1]
      split at h
      · next h2 => rw [if_pos h2]; exact ih _ _ _ h
      · next h2 =>
        rw [if_neg h2]
        split at h
        · cases h
        · next h3 =>
          rw [if_neg h3]
          have := ih _ _ _ h
          rw [List.length_append] at this; omega
theorem walkN_ok {k : KnD} {x : Int} {xs ws : List Int} {d : List UInt8} {T : WkR} (h : walkN k (x :: xs) ws d = T) (hT : T.ok = true) :
    (x = (k.c : Int) + 1 ∧ xs = [] ∧ T = ⟨ws ++ [(k.width : Int)], d, true⟩) ∨ (x = (k.c : Int) ∧ walkN k.cleared xs (ws ++ [(k.width : Int)]) d = T) ∨
    (x ≠ (k.c : Int) + 1 ∧ x ≠ (k.c : Int) ∧ k.follows x = true ∧ walkN (k.after x) xs (ws ++ [(k.width : Int)]) (d ++ k.any x) = T ∧ d.length + (k.any x).length ≤ T.data.length) := by
  by_cases h1 : x = (k.c : Int) + 1
  · rw [walkN_end h1] at h
    subst h
    have : xs = [] := by simpa using hT
    exact .inl ⟨h1, this, by subst this; rfl⟩
  · by_cases h2 : x = (k.c : Int)
    · rw [walkN_clear h2] at h
      exact .inr (.inl ⟨h2, h⟩)
    · by_cases h3 : k.follows x = false ∨ 2000 < d.length
      · rw [walkN_bad h1 h2 h3] at h
        subst h; cases hT
      · have h4 : k.follows x = true := by
          cases e : k.follows x
          · exact absurd (.inl e) h3
          · rfl
        rw [walkN_word h1 h2 h4 (by omega)] at h
        refine .inr (.inr ⟨h1, h2, h4, h, ?_⟩)
        have := walkN_pre xs (k.after x) (ws ++ [(k.width : Int)]) (d ++ k.any x) (by rw [h]; exact hT)
        rw [h, List.length_append] at this
        exact this
end Go.Proofs.YtekogcjdaolcbaaGreatDoor

/- Plain: the bits of codes from a state, and their bytes when they are put into bytes part by part (for the writers). Conditions: as each says. -/
namespace Go.Proofs.YtekogcjdaolcbaaGreatDoor
open Go Go.RowKit
theorem packL_append (o : Int) {a b : List UInt8} (h : a.length % 8 = 0) : packL o (a ++ b) = packL o a ++ packL o b := by
  obtain ⟨n, hn⟩ : ∃ n, a.length = 8 * n := ⟨a.length / 8, by omega⟩
  have hpa : padL a = a := by unfold padL; rw [h]; simp
  have hpab : padL (a ++ b) = a ++ padL b := by
    unfold padL
    rw [List.append_assoc, List.length_append]
    congr 3
    omega
  have hlb := padL_length b
  refine List.ext_getElem? fun i => ?_
  unfold packL
  rw [hpa, hpab, List.length_append, hn, hlb, show (8 * n + 8 * ((b.length + 7) / 8)) / 8 = n + (b.length + 7) / 8 by omega, show 8 * n / 8 = n by omega, show 8 * ((b.length + 7) / 8) / 8 = (b.length + 7) / 8 by omega]
  rcases Nat.lt_or_ge i n with hi | hi
  · rw [List.getElem?_append_left (by simp; omega)]
    simp only [List.getElem?_map]
    rw [List.getElem?_range (by omega), List.getElem?_range (by omega)]
    simp only [Option.map_some]
    congr 1
    unfold byteN
    congr 2
    rw [List.drop_append_of_le_length (by omega), List.take_append_of_le_length (by rw [List.length_drop]; omega)]
  · rw [List.getElem?_append_right (by simp; omega)]
    simp only [List.getElem?_map, List.length_map, List.length_range]
    by_cases hb : i < n + (b.length + 7) / 8
    · rw [List.getElem?_range (by omega), List.getElem?_range (by omega)]
      simp only [Option.map_some]
      congr 1
      unfold byteN
      congr 3
      rw [List.drop_append, List.drop_of_length_le (by omega), List.nil_append]
      congr 1
      omega
    · rw [List.getElem?_eq_none (by simp; omega), List.getElem?_eq_none (by simp; omega)]
      rfl
def KnD.thru (k : KnD) (x : Int) : KnD := if x = (k.c : Int) + 1 then k else if x = (k.c : Int) then k.cleared else k.after x
def KnD.thruN (k : KnD) : List Int → KnD
  | [] => k
  | x :: xs => (k.thru x).thruN xs
def bitsS (o : Int) : KnD → List Int → List UInt8
  | _, [] => []
  | k, x :: xs => codeL o x.toNat k.width ++ bitsS o (k.thru x) xs
theorem thruN_app (k : KnD) : ∀ (xs ys : List Int), k.thruN (xs ++ ys) = (k.thruN xs).thruN ys := by
  intro xs
  induction xs generalizing k with
  | nil => intro ys; rfl
  | cons x xs ih => intro ys; exact ih (k.thru x) ys
theorem bitsS_app (o : Int) : ∀ (xs ys : List Int) (k : KnD), bitsS o k (xs ++ ys) = bitsS o k xs ++ bitsS o (k.thruN xs) ys := by
  intro xs
  induction xs with
  | nil => intro ys k; rfl
  | cons x xs ih =>
    intro ys k
    show codeL o x.toNat k.width ++ bitsS o (k.thru x) (xs ++ ys) = _
    rw [ih ys (k.thru x)]
    show _ = (codeL o x.toNat k.width ++ bitsS o (k.thru x) xs) ++ bitsS o ((k.thru x).thruN xs) ys
    rw [List.append_assoc]
theorem bitsS_walk (o : Int) : ∀ (xs : List Int) (k : KnD) (ws : List Int) (d : List UInt8) (W : List Int) (D : List UInt8), walkN k xs ws d = ⟨ws ++ W, D, true⟩ → bitsS o k xs = packC o xs W := by
  intro xs
  induction xs with
  | nil =>
    intro k ws d W D h
    rfl
  | cons x xs ih =>
    intro k ws d W D h
    rcases walkN_ok h rfl with ⟨h1, h2, h3⟩ | ⟨h1, h2⟩ | ⟨h1, h2, h3, h4, -⟩
    · subst h2
      have hW : W = [(k.width : Int)] := by
        have := congrArg WkR.ws h3
        simpa using this
      subst hW
      simp [bitsS, packC]
    · have hpre : ∀ (zs : List Int) (kk : KnD) (vs : List Int) (dd : List UInt8), ∃ V, (walkN kk zs vs dd).ws = vs ++ V := by
        intro zs
        induction zs with
        | nil => intro kk vs dd; exact ⟨[], by simp [walkN]⟩
        | cons z zs ihz =>
          intro kk vs dd
          rw [walkN]
          split
          · exact ⟨_, rfl⟩
          · split
            · obtain ⟨V, hV⟩ := ihz kk.cleared (vs ++ [(kk.width : Int)]) dd
              exact ⟨(kk.width : Int) :: V, by rw [hV]; simp⟩
            · split
              · exact ⟨_, rfl⟩
              · obtain ⟨V, hV⟩ := ihz (kk.after z) (vs ++ [(kk.width : Int)]) (dd ++ kk.any z)
                exact ⟨(kk.width : Int) :: V, by rw [hV]; simp⟩
      obtain ⟨V, hV⟩ := hpre xs k.cleared (ws ++ [(k.width : Int)]) d
      rw [h2] at hV
      have hW : W = (k.width : Int) :: V := by
        have : ws ++ W = ws ++ (k.width : Int) :: V := by simpa using hV
        exact List.append_cancel_left this
      subst hW
      have := ih k.cleared (ws ++ [(k.width : Int)]) d V D (by rw [h2]; simp)
      show codeL o x.toNat k.width ++ bitsS o (k.thru x) xs = _
      rw [show k.thru x = k.cleared by unfold KnD.thru; rw [if_neg (by omega), if_pos h1], this]
      simp [packC]
    · have hpre : ∀ (zs : List Int) (kk : KnD) (vs : List Int) (dd : List UInt8), ∃ V, (walkN kk zs vs dd).ws = vs ++ V := by
        intro zs
        induction zs with
        | nil => intro kk vs dd; exact ⟨[], by simp [walkN]⟩
        | cons z zs ihz =>
          intro kk vs dd
          rw [walkN]
          split
          · exact ⟨_, rfl⟩
          · split
            · obtain ⟨V, hV⟩ := ihz kk.cleared (vs ++ [(kk.width : Int)]) dd
              exact ⟨(kk.width : Int) :: V, by rw [hV]; simp⟩
            · split
              · exact ⟨_, rfl⟩
              · obtain ⟨V, hV⟩ := ihz (kk.after z) (vs ++ [(kk.width : Int)]) (dd ++ kk.any z)
                exact ⟨(kk.width : Int) :: V, by rw [hV]; simp⟩
      obtain ⟨V, hV⟩ := hpre xs (k.after x) (ws ++ [(k.width : Int)]) (d ++ k.any x)
      rw [h4] at hV
      have hW : W = (k.width : Int) :: V := by
        have : ws ++ W = ws ++ (k.width : Int) :: V := by simpa using hV
        exact List.append_cancel_left this
      subst hW
      have := ih (k.after x) (ws ++ [(k.width : Int)]) (d ++ k.any x) V D (by rw [h4]; simp)
      show codeL o x.toNat k.width ++ bitsS o (k.thru x) xs = _
      rw [show k.thru x = k.after x by unfold KnD.thru; rw [if_neg h1, if_neg h2], this]
      simp [packC]
end Go.Proofs.YtekogcjdaolcbaaGreatDoor

/- Plain: a writer that gets data in parts writes the stream of all data (for FnWriteAll and the other writers' laws). Conditions: what is known is valid, the data has only literals. -/
namespace Go.Proofs.YtekogcjdaolcbaaGreatDoor
open Go Go.RowKit
theorem KnD.thru_fol {k : KnD} (h : k.Ok) {x : Int} (hf : k.follows x = true) : k.thru x = k.after x := by
  have : x ≠ (k.c : Int) + 1 ∧ x ≠ (k.c : Int) := by
    rcases KnD.follows_cases h hf with hc | ⟨hg, rfl, hl⟩
    · rw [codeOk_iff] at hc; omega
    · unfold KnD.next; omega
  unfold KnD.thru
  rw [if_neg this.1, if_neg this.2]
theorem wrC_thru : ∀ (n : Nat) (k : KnD) (d : List UInt8), k.Ok → (∀ b ∈ d, b.toNat < k.c) → (wrC n k d).2.1 = k.thruN (wrC n k d).1 := by
  intro n
  induction n with
  | zero => intro k d _ _; rfl
  | succ n ih =>
    intro k d hk hl
    by_cases hs : d = [] ∨ k.longest d = d
    · rw [wrC_stop hs]; rfl
    · have hd0 : d ≠ [] := fun e => hs (.inl e)
      obtain ⟨hf, -⟩ := KnD.find_any hk hd0 hl
      have hak := KnD.after_ok hk hf
      have hl' : ∀ b ∈ d.drop (k.longest d).length, b.toNat < k.c := fun b hb => hl b (List.mem_of_mem_drop hb)
      rw [wrC, if_neg hs]
      by_cases hfu : (k.after (k.find (k.longest d))).full = true
      · rw [if_pos hfu]
        show _ = ((k.thru _).thru _).thruN _
        rw [KnD.thru_fol hk hf]
        have hc : (k.after (k.find (k.longest d))).thru (k.c : Int) = (k.after (k.find (k.longest d))).cleared := by
          unfold KnD.thru
          rw [if_neg (by show ¬ ((k.c : Int) = (k.c : Int) + 1); omega)]
          exact if_pos rfl
        rw [hc]
        exact ih _ _ (KnD.cleared_ok hak) hl'
      · rw [if_neg hfu]
        show _ = (k.thru _).thruN _
        rw [KnD.thru_fol hk hf]
        exact ih _ _ hak hl'
structure WrD where
  k : KnD
  pend : List UInt8
  bits : List UInt8
  beg : Bool
def WrD.open (w : WrD) : List UInt8 × KnD := if w.beg then (w.bits, w.k) else (w.bits ++ codeL w.k.set.ord w.k.c w.k.width, w.k.cleared)
def WrD.codes (w : WrD) (d : List UInt8) : List Int × KnD × List UInt8 := wrC (w.pend ++ d).length w.open.2 (w.pend ++ d)
def WrD.all (w : WrD) (d : List UInt8) : List UInt8 := w.open.1 ++ bitsS w.k.set.ord w.open.2 (w.codes d).1
def WrD.write (w : WrD) (d : List UInt8) : WrD × List UInt8 :=
  if d = [] then (w, []) else (⟨(w.codes d).2.1, (w.codes d).2.2, (w.all d).drop ((w.all d).length / 8 * 8), true⟩, packL w.k.set.ord ((w.all d).take ((w.all d).length / 8 * 8)))
def WrD.close (w : WrD) : List UInt8 := packL w.k.set.ord (w.open.1 ++ bitsS w.k.set.ord w.open.2 ((if w.pend = [] then [] else [w.open.2.find w.pend]) ++ [(w.k.c : Int) + 1]))
structure WaInv (k0 : KnD) (d : List UInt8) (w : WrD) (out : List UInt8) : Prop where
  ok : w.k.Ok
  set : w.k.set = k0.set
  lits : ∀ b ∈ w.pend, b.toNat < k0.c
  word : w.pend = [] ∨ w.k.longest w.pend = w.pend
  st : (w.beg = false ∧ d = [] ∧ w.pend = [] ∧ w.bits = [] ∧ w.k = k0 ∧ out = []) ∨
    (w.beg = true ∧ ∃ C P, P.length % 8 = 0 ∧ out = packL k0.set.ord P ∧ P ++ w.bits = bitsS k0.set.ord k0 C ∧ w.k = k0.thruN C ∧
      ∀ e m, (d ++ e).length ≤ m → (∀ b ∈ e, b.toNat < k0.c) → ∃ m', (w.pend ++ e).length ≤ m' ∧ (k0.c : Int) :: greedyN m k0.cleared (d ++ e) = C ++ greedyN m' w.k (w.pend ++ e))
theorem WaInv.start {k : KnD} (h : k.Ok) : WaInv k [] ⟨k, [], [], false⟩ [] := ⟨h, rfl, (fun b hb => absurd hb (List.not_mem_nil)), .inl rfl, .inl ⟨rfl, rfl, rfl, rfl, rfl, rfl⟩⟩
theorem thru_clear (k : KnD) : k.thru (k.c : Int) = k.cleared := by
  unfold KnD.thru
  rw [if_neg (by omega), if_pos rfl]
theorem WaInv.next {k0 : KnD} {d x : List UInt8} {w : WrD} {out : List UInt8} (hk0 : k0.Ok) (h : WaInv k0 d w out) (hx : ∀ b ∈ x, b.toNat < k0.c) : WaInv k0 (d ++ x) (w.write x).1 (out ++ (w.write x).2) := by
  by_cases hx0 : x = []
  · subst hx0
    unfold WrD.write
    rw [if_pos rfl, List.append_nil, List.append_nil]
    exact h
  obtain ⟨hk, hset, hlp, hword, hst⟩ := h
  have hc : w.k.c = k0.c := by unfold KnD.c; rw [hset]
  have hlx : ∀ b ∈ w.pend ++ x, b.toNat < k0.c := fun b hb => (List.mem_append.1 hb).elim (hlp b) (hx b)
  have hB := List.take_append_drop ((w.all x).length / 8 * 8) (w.all x)
  have hT : ((w.all x).take ((w.all x).length / 8 * 8)).length % 8 = 0 := by rw [List.length_take]; omega
  unfold WrD.write
  rw [if_neg hx0]
  rcases hst with ⟨b1, rfl, b3, b4, b5, rfl⟩ | ⟨b1, C, P, p1, p2, p3, p4, p5⟩
  · have ho : w.open = (codeL k0.set.ord k0.c k0.width, k0.cleared) := by unfold WrD.open; rw [b1, b4, b5]; simp
    have hcd : w.codes x = wrC x.length k0.cleared x := by unfold WrD.codes; rw [ho, b3]; rfl
    obtain ⟨q1, q2, q3, q4, q, q5⟩ := wrC_end x.length k0.cleared x (Nat.le_refl _) (KnD.cleared_ok hk0) hx
    have hth := wrC_thru x.length k0.cleared x (KnD.cleared_ok hk0) hx
    have hall : w.all x = bitsS k0.set.ord k0 ((k0.c : Int) :: (wrC x.length k0.cleared x).1) := by
      unfold WrD.all
      rw [hcd, ho, hset]
      show codeL k0.set.ord k0.c k0.width ++ _ = codeL k0.set.ord (k0.c : Int).toNat k0.width ++ bitsS k0.set.ord (k0.thru (k0.c : Int)) _
      rw [thru_clear]
      rfl
    refine ⟨by rw [hcd]; exact q1, by rw [hcd]; exact q2, fun b hb => hx b ?_, by rw [hcd]; exact q3, .inr ⟨rfl, (k0.c : Int) :: (wrC x.length k0.cleared x).1, _, hT, by rw [hset]; rfl, by rw [hB, hall], ?_, fun e m hm he => ?_⟩⟩
    · rw [hcd] at hb
      rw [q5]
      exact List.mem_append_right _ hb
    · rw [hcd, hth]
      show _ = (k0.thru (k0.c : Int)).thruN _
      rw [thru_clear]
    · rw [hcd]
      obtain ⟨m', r1, r2⟩ := wrC_greedy x.length k0.cleared x e m (Nat.le_refl _) hm (KnD.cleared_ok hk0) hx
      exact ⟨m', r1, by
        show (k0.c : Int) :: greedyN m k0.cleared (x ++ e) = _
        rw [r2]; rfl⟩
  · have ho : w.open = (w.bits, w.k) := by unfold WrD.open; rw [b1]; rfl
    have hcd : w.codes x = wrC (w.pend ++ x).length w.k (w.pend ++ x) := by unfold WrD.codes; rw [ho]
    have hlw : ∀ b ∈ w.pend ++ x, b.toNat < w.k.c := fun b hb => by rw [hc]; exact hlx b hb
    obtain ⟨q1, q2, q3, q4, q, q5⟩ := wrC_end (w.pend ++ x).length w.k (w.pend ++ x) (Nat.le_refl _) hk hlw
    have hth := wrC_thru (w.pend ++ x).length w.k (w.pend ++ x) hk hlw
    have hall : P ++ w.all x = bitsS k0.set.ord k0 (C ++ (wrC (w.pend ++ x).length w.k (w.pend ++ x)).1) := by
      unfold WrD.all
      rw [hcd, ho, hset, bitsS_app, ← p3, ← p4, List.append_assoc]
    refine ⟨by rw [hcd]; exact q1, by rw [hcd]; exact q2.trans hset, fun b hb => hlx b ?_, by rw [hcd]; exact q3, .inr ⟨rfl, C ++ (wrC (w.pend ++ x).length w.k (w.pend ++ x)).1, P ++ (w.all x).take ((w.all x).length / 8 * 8), ?_, ?_, ?_, ?_, fun e m hm he => ?_⟩⟩
    · rw [hcd] at hb
      rw [q5]
      exact List.mem_append_right _ hb
    · rw [List.length_append]; omega
    · rw [p2, hset, packL_append _ p1]
    · rw [List.append_assoc, hB, hall]
    · rw [hcd, hth, thruN_app, ← p4]
    · rw [hcd]
      have hxe : ∀ b ∈ x ++ e, b.toNat < k0.c := fun b hb => (List.mem_append.1 hb).elim (hx b) (he b)
      obtain ⟨m1, r1, r2⟩ := p5 (x ++ e) m (by rw [← List.append_assoc]; exact hm) hxe
      rw [show w.pend ++ (x ++ e) = (w.pend ++ x) ++ e from (List.append_assoc ..).symm] at r1 r2
      obtain ⟨m', s1, s2⟩ := wrC_greedy (w.pend ++ x).length w.k (w.pend ++ x) e m1 (Nat.le_refl _) r1 hk hlw
      exact ⟨m', s1, by rw [List.append_assoc d x e, r2, s2]; exact (List.append_assoc ..).symm⟩
theorem WaInv.fin {k0 : KnD} {d : List UInt8} {w : WrD} {out : List UInt8} (hk0 : k0.Ok) (hl : ∀ b ∈ d, b.toNat < k0.c) (hd : d.length ≤ 2000) (h : WaInv k0 d w out) : out ++ w.close = compL k0 d := by
  obtain ⟨g1, g2, g3, g4, g5⟩ := walk_greedy hk0 hl hd
  have hT : walkN k0 (greedy k0 d) [] [] = ⟨[] ++ (walkN k0 (greedy k0 d) [] []).ws, d, true⟩ := by
    generalize walkN k0 (greedy k0 d) [] [] = T at *
    obtain ⟨a, b, c⟩ := T
    simp only at g2 g3
    rw [g2, g3]; rfl
  have hb := bitsS_walk k0.set.ord _ _ _ _ _ _ hT
  have hcomp : compL k0 d = packL k0.set.ord (bitsS k0.set.ord k0 (greedy k0 d)) := by unfold compL; rw [hb]
  obtain ⟨hk, hset, hlp, hword, hst⟩ := h
  have hc : w.k.c = k0.c := by unfold KnD.c; rw [hset]
  rw [hcomp]
  unfold WrD.close
  rcases hst with ⟨b1, rfl, b3, b4, b5, rfl⟩ | ⟨b1, C, P, p1, p2, p3, p4, p5⟩
  · have ho : w.open = (codeL k0.set.ord k0.c k0.width, k0.cleared) := by unfold WrD.open; rw [b1, b4, b5]; simp
    rw [ho, b3, if_pos rfl, hset, hc, List.nil_append, List.nil_append]
    unfold greedy
    rw [greedyN_nil]
    show packL _ (codeL k0.set.ord k0.c k0.width ++ _) = packL _ (codeL k0.set.ord (k0.c : Int).toNat k0.width ++ bitsS k0.set.ord (k0.thru (k0.c : Int)) _)
    rw [thru_clear]
    rfl
  · have ho : w.open = (w.bits, w.k) := by unfold WrD.open; rw [b1]; rfl
    obtain ⟨m', r1, r2⟩ := p5 [] d.length (by simp) (fun b hb => absurd hb (List.not_mem_nil))
    rw [List.append_nil, List.append_nil] at r2
    rw [List.append_nil] at r1
    have hg : greedy k0 d = C ++ greedyN m' w.k w.pend := r2
    rw [wrC_close hword r1, hc] at hg
    rw [ho, hg, bitsS_app k0.set.ord C, ← p3, ← p4, p2, hset, hc, ← packL_append _ p1, List.append_assoc]
end Go.Proofs.YtekogcjdaolcbaaGreatDoor

/- Plain: writing in parts is writing at once (for FnWriteParts and FnWriteBits). Conditions: the writer is valid, the data has only literals. -/
namespace Go.Proofs.YtekogcjdaolcbaaGreatDoor
open Go Go.RowKit
theorem KnD.longest_lt {k : KnD} {d : List UInt8} (hs : k.longest d ≠ d) : (k.longest d).length < d.length := by
  have hle := KnD.longest_le (k := k) d
  rcases Nat.lt_or_ge (k.longest d).length d.length with h | h
  · exact h
  · exfalso
    apply hs
    have ht := KnD.longest_take (k := k) d
    rw [show (k.longest d).length = d.length by omega, List.take_length] at ht
    exact ht.symm
theorem WrD.open_ok {w : WrD} (h : w.k.Ok) : w.open.2.Ok ∧ w.open.2.set = w.k.set := by
  unfold WrD.open
  split
  · exact ⟨h, rfl⟩
  · exact ⟨KnD.cleared_ok h, rfl⟩
end Go.Proofs.YtekogcjdaolcbaaGreatDoor

/- Plain: which writers are valid; what is written by a valid one is valid (for FnWriteParts, FnWriteBits). Conditions: as each says. -/
namespace Go.Proofs.YtekogcjdaolcbaaGreatDoor
open Go Go.RowKit
def KnD.vl (k : KnD) : Prop := k.last = -1 → k.base = k.ps.length
theorem valid_of_ok {k : KnD} (h : k.Ok) (hv : k.vl) : validK k = true := by
  have hb0 := h.base0
  have hb1 := h.base1
  have hln := h.len
  have hc : k.c = clr k.set := rfl
  unfold validK
  simp only [Bool.and_eq_true]
  refine ⟨h.set, ?_, ?_, ?_, ?_⟩
  · unfold roomOk
    rw [decide_eq_true_eq]
    omega
  · refine pairsOk_yes fun j hj => ?_
    have := h.ps j hj
    rw [prOk_get hj] at this
    exact this
  · rw [inB_iff]
    exact ⟨hb0, hb1⟩
  · unfold lastOk
    split
    · next hl => rw [hv hl]; simp
    · next hl =>
      rcases h.last with h | h
      · exact absurd h hl
      · exact h
theorem vl_cleared {k : KnD} (h : k.Ok) : k.cleared.vl := fun _ => by
  have hb0 := h.base0
  have hb1 := h.base1
  show k.base = ((k.ps.take k.base.toNat).length : Int)
  rw [List.length_take]; omega
theorem vl_after {k : KnD} (h : k.Ok) {x : Int} (hf : k.follows x = true) : (k.after x).vl := fun hl => by
  have hl : x = -1 := hl
  have := (KnD.find_bd h hf).1
  omega
theorem wrC_vl : ∀ (n : Nat) (k : KnD) (d : List UInt8), k.Ok → k.vl → (∀ b ∈ d, b.toNat < k.c) → (wrC n k d).2.1.vl := by
  intro n
  induction n with
  | zero => intro k d _ hv _; exact hv
  | succ n ih =>
    intro k d hk hv hl
    by_cases hs : d = [] ∨ k.longest d = d
    · rw [wrC_stop hs]; exact hv
    · have hd0 : d ≠ [] := fun e => hs (.inl e)
      obtain ⟨hf, -⟩ := KnD.find_any hk hd0 hl
      have hak := KnD.after_ok hk hf
      have hl' : ∀ b ∈ d.drop (k.longest d).length, b.toNat < k.c := fun b hb => hl b (List.mem_of_mem_drop hb)
      rw [wrC, if_neg hs]
      split
      · exact ih _ _ (KnD.cleared_ok hak) (vl_cleared hak) hl'
      · exact ih _ _ hak (vl_after hk hf) hl'
theorem KnD.find_word {k : KnD} {d : List UInt8} (hd : d ≠ []) (h : 0 ≤ k.find d) : k.longest d = d := by
  have hW : k.isW d := by
    by_cases hc : d.length = 1 ∧ (d.getD 0 0).toNat < k.c
    · exact .inl hc.1
    · unfold KnD.find at h
      rw [if_neg hc] at h
      split at h
      · next i hi =>
        right
        have h1 := List.find?_some hi
        have h2 := List.mem_of_find?_eq_some hi
        exact ⟨i, List.mem_range.1 h2, by simpa using h1⟩
      · omega
  have h2 := KnD.isW_le hd hW (Nat.le_refl _) List.take_length
  have h3 := KnD.longest_le (k := k) d
  have ht := KnD.longest_take (k := k) d
  rw [show (k.longest d).length = d.length by omega, List.take_length] at ht
  exact ht.symm
theorem KnD.word_find {k : KnD} (hk : k.Ok) {d : List UInt8} (hd : d ≠ []) (hl : ∀ b ∈ d, b.toNat < k.c) (h : k.longest d = d) : 0 ≤ k.find d := by
  obtain ⟨hf, -⟩ := KnD.find_any hk hd hl
  rw [h] at hf
  exact (KnD.find_bd hk hf).1
def wrOk (w : WrD) : Prop := w.k.Ok ∧ w.k.vl ∧ (∀ b ∈ w.pend, b.toNat < w.k.c) ∧ w.pend.length ≤ 2000 ∧ isBits w.bits ∧ w.bits.length ≤ 7 ∧ (w.pend = [] ∨ w.k.longest w.pend = w.pend) ∧ (w.beg = false → w.pend = [] ∧ w.bits = [])
theorem isBits_codes (o : Int) : ∀ (xs : List Int) (k : KnD), isBits (bitsS o k xs) := by
  intro xs
  induction xs with
  | nil => intro k b hb; cases hb
  | cons x xs ih =>
    intro k b hb
    rcases List.mem_append.1 hb with hb | hb
    · have := isBits_packC o [x] [(k.width : Int)]
      simp only [packC, List.append_nil, Int.toNat_natCast] at this
      exact this b hb
    · exact ih (k.thru x) b hb
theorem wrOk_write {w : WrD} {d : List UInt8} (h : wrOk w) (hl : ∀ b ∈ d, b.toNat < w.k.c) (hd : (w.pend ++ d).length ≤ 2000) : wrOk (w.write d).1 ∧ (w.write d).1.k.set = w.k.set ∧ (d ≠ [] → (w.write d).1.beg = true ∧ (w.write d).1.pend ≠ []) ∧ ∃ p, w.pend ++ d = p ++ (w.write d).1.pend := by
  obtain ⟨hk, hv, hp, h2, hb, h7, hw, hn⟩ := h
  by_cases hd0 : d = []
  · subst hd0
    unfold WrD.write
    rw [if_pos rfl]
    exact ⟨⟨hk, hv, hp, h2, hb, h7, hw, hn⟩, rfl, fun h => absurd rfl h, [], by simp⟩
  obtain ⟨hok, hos⟩ := WrD.open_ok hk
  have hoc : w.open.2.c = w.k.c := by unfold KnD.c; rw [hos]
  have hov : w.open.2.vl := by
    unfold WrD.open
    split
    · exact hv
    · exact vl_cleared hk
  have hlo : ∀ x ∈ w.pend ++ d, x.toNat < w.open.2.c := fun x hx => by
    rw [hoc]
    exact (List.mem_append.1 hx).elim (hp x) (hl x)
  obtain ⟨q1, q2, q3, q4, p, q5⟩ := wrC_end (w.pend ++ d).length w.open.2 (w.pend ++ d) (Nat.le_refl _) hok hlo
  have q6 := wrC_vl (w.pend ++ d).length w.open.2 (w.pend ++ d) hok hov hlo
  have hcc : (w.codes d).2.1.c = w.k.c := by unfold KnD.c; rw [show (w.codes d).2.1.set = w.open.2.set from q2, hos]
  have q5' : w.pend ++ d = p ++ (w.codes d).2.2 := q5
  have hob : isBits w.open.1 := by
    unfold WrD.open
    split
    · exact hb
    · intro b hb'
      rcases List.mem_append.1 hb' with h | h
      · exact hb b h
      · have := isBits_packC w.k.set.ord [(w.k.c : Int)] [(w.k.width : Int)]
        simp only [packC, List.append_nil, Int.toNat_natCast] at this
        exact this b h
  have hall : isBits (w.all d) := fun b hb' => by
    rcases List.mem_append.1 hb' with h | h
    · exact hob b h
    · exact isBits_codes _ _ _ b h
  unfold WrD.write
  rw [if_neg hd0]
  refine ⟨⟨q1, q6, fun b hb' => ?_, ?_, fun b hb' => hall b (List.mem_of_mem_drop hb'), ?_, q3, fun h => by cases h⟩, q2.trans hos, fun _ => ⟨rfl, q4 (by simp [hd0])⟩, p, q5'⟩
  · show b.toNat < (w.codes d).2.1.c
    rw [hcc, ← hoc]
    exact hlo b (by rw [q5']; exact List.mem_append_right _ hb')
  · have := congrArg List.length q5'
    have h9 : (p ++ (w.codes d).2.2).length = p.length + (w.codes d).2.2.length := List.length_append
    rw [h9] at this
    show (w.codes d).2.2.length ≤ 2000
    omega
  · show ((w.all d).drop ((w.all d).length / 8 * 8)).length ≤ 7
    rw [List.length_drop]; omega
end Go.Proofs.YtekogcjdaolcbaaGreatDoor

/- Plain: all data written in parts and closed is the stream of Compress, and fails exactly if that does (for FnWriteAll). Conditions: what is known is valid, the data is no longer than 2000 bytes. -/
namespace Go.Proofs.YtekogcjdaolcbaaGreatDoor
open Go Go.RowKit
theorem fitsB_iff {s : SetD} {d : List UInt8} (h : setOk s = true) (hd : d.length ≤ 2000) : fitsB s d = litsL (clr s) d := by
  unfold fitsB
  rw [h, decide_eq_true hd]
  rfl
end Go.Proofs.YtekogcjdaolcbaaGreatDoor

/- Plain: whether a writer is valid, what WriteData makes of a writer of any kind, and the rounds of its loop (for the writers' laws). Conditions: as each says. -/
namespace Go.Proofs.YtekogcjdaolcbaaGreatDoor
open Go Go.RowKit
def bitsB (l : List UInt8) : Bool := l.all fun b => decide (b.toNat = 48 ∨ b.toNat = 49)
theorem bitsB_iff {l : List UInt8} : bitsB l = true ↔ isBits l := by
  unfold bitsB isBits
  simp only [List.all_eq_true, decide_eq_true_eq]
def wrsB (w : WrD) : Bool := (w.beg || (decide (w.pend = []) && decide (w.bits = []))) && (decide (w.pend = []) || decide (w.k.longest w.pend = w.pend))
def wrvB (w : WrD) : Bool := validK w.k && (fitsB w.k.set w.pend && ((bitsB w.bits && decide (w.bits.length ≤ 7)) && wrsB w))
theorem wrvB_ok {w : WrD} (h : wrvB w = true) : wrOk w := by
  unfold wrvB wrsB at h
  simp only [Bool.and_eq_true, Bool.or_eq_true, decide_eq_true_eq] at h
  obtain ⟨h1, h2, ⟨h3, h4⟩, h5, h6⟩ := h
  obtain ⟨g1, g2⟩ := ok_of_valid h1
  obtain ⟨f1, f2, f3⟩ := fitsB_lits h2
  refine ⟨g1, g2, f3, f2, bitsB_iff.1 h3, h4, h6, fun hb => ?_⟩
  rcases h5 with h5 | h5
  · rw [hb] at h5; cases h5
  · exact h5
theorem wrvB_of {w : WrD} (h : wrOk w) : wrvB w = true := by
  obtain ⟨h1, h2, h3, h4, h5, h6, h7, h8⟩ := h
  unfold wrvB wrsB
  rw [valid_of_ok h1 h2, fitsB_iff h1.set h4, bitsB_iff.2 h5, decide_eq_true h6]
  have hl : litsL (clr w.k.set) w.pend = true := by
    simp only [litsL, List.all_eq_true, decide_eq_true_eq]
    exact h3
  rw [hl]
  simp only [Bool.and_eq_true, Bool.or_eq_true, decide_eq_true_eq, true_and]
  refine ⟨?_, h7⟩
  cases hb : w.beg
  · exact .inr (h8 hb)
  · exact .inl rfl
def wdO (w : WrD) (d : List UInt8) : Option (WrD × List UInt8) := if wrvB w && fitsB w.k.set (w.pend ++ d) then some (w.write d) else none
theorem wdO_none {w : WrD} {d : List UInt8} (h : (wrvB w && fitsB w.k.set (w.pend ++ d)) = false) : wdO w d = none := by unfold wdO; rw [h]; rfl
theorem wdO_some {w : WrD} {d : List UInt8} (h : (wrvB w && fitsB w.k.set (w.pend ++ d)) = true) : wdO w d = some (w.write d) := by unfold wdO; rw [h]; rfl
structure WlD (T : List UInt8 × KnD × List UInt8) (s : SetD) (m : Nat) (k : KnD) (d b : List UInt8) : Prop where
  len : d.length ≤ m
  le : d.length ≤ 2000
  ne : d ≠ []
  sum : b.length + 20 * d.length ≤ 41000
  bit : isBits b
  tot : (b ++ bitsS s.ord k (wrC m k d).1, (wrC m k d).2) = T
  ok : k.Ok
  set : k.set = s
  lit : ∀ x ∈ d, x.toNat < clr s
theorem WlD.stop {T : List UInt8 × KnD × List UInt8} {s : SetD} {m : Nat} {k : KnD} {d b : List UInt8} (h : WlD T s m k d b) (hl : k.longest d = d) : T = (b, k, d) := by
  rw [← h.tot, wrC_stop (.inr hl)]
  show (b ++ [], k, d) = _
  rw [List.append_nil]
theorem WlD.lits {T : List UInt8 × KnD × List UInt8} {s : SetD} {m : Nat} {k : KnD} {d b : List UInt8} (h : WlD T s m k d b) : ∀ x ∈ d, x.toNat < k.c := by
  unfold KnD.c
  rw [h.set]
  exact h.lit
theorem WlD.step {T : List UInt8 × KnD × List UInt8} {s : SetD} {m : Nat} {k : KnD} {d b : List UInt8} (h : WlD T s m k d b) (hl : k.longest d ≠ d) :
    (k.follows (k.find (k.longest d)) = true ∧ k.find (k.longest d) ≠ (k.c : Int) ∧ k.find (k.longest d) ≠ (k.c : Int) + 1 ∧ 1 ≤ (k.longest d).length ∧ (k.longest d).length < d.length) ∧
    ((k.after (k.find (k.longest d))).full = true → WlD T s (m - 1) (k.after (k.find (k.longest d))).cleared (d.drop (k.longest d).length) ((b ++ codeL s.ord (k.find (k.longest d)).toNat k.width) ++ codeL s.ord (clr s) (k.after (k.find (k.longest d))).width)) ∧
    ((k.after (k.find (k.longest d))).full = false → WlD T s (m - 1) (k.after (k.find (k.longest d))) (d.drop (k.longest d).length) (b ++ codeL s.ord (k.find (k.longest d)).toNat k.width)) := by
  have hp := KnD.longest_pos (k := k) h.ne
  have hlt := KnD.longest_lt (k := k) (d := d) hl
  obtain ⟨hf, -⟩ := KnD.find_any h.ok h.ne h.lits
  have hak := KnD.after_ok h.ok hf
  have hc : k.c = clr s := by unfold KnD.c; rw [h.set]
  have hne : k.find (k.longest d) ≠ (k.c : Int) ∧ k.find (k.longest d) ≠ (k.c : Int) + 1 := by
    rcases KnD.follows_cases h.ok hf with hc | ⟨hg, e, hl⟩
    · rw [codeOk_iff] at hc; omega
    · rw [e]; unfold KnD.next; omega
  have h1 := h.len; have h2 := h.le; have h3 := h.sum; have h4 := h.tot
  obtain ⟨n, rfl⟩ : ∃ n, m = n + 1 := ⟨m - 1, by omega⟩
  have hs : ¬ (d = [] ∨ k.longest d = d) := fun e => e.elim h.ne hl
  have hr : d.drop (k.longest d).length ≠ [] := fun e => by
    have := congrArg List.length e
    rw [List.length_drop] at this
    simp at this
    omega
  have hth := KnD.thru_fol h.ok hf
  have hw := KnD.width_bd h.ok
  have hwa := KnD.width_bd hak
  refine ⟨⟨hf, hne.1, hne.2, hp, hlt⟩, fun hfu => ?_, fun hfu => ?_⟩
  · rw [wrC, if_neg hs, if_pos hfu] at h4
    refine ⟨by rw [List.length_drop]; omega, by rw [List.length_drop]; omega, hr, ?_, (h.bit.app (isBits_code _ _ _)).app (isBits_code _ _ _), ?_, KnD.cleared_ok hak, h.set, fun x hx => h.lit x (List.mem_of_mem_drop hx)⟩
    · rw [List.length_append, List.length_append, codeL_length, codeL_length, List.length_drop]; omega
    · rw [← h4]
      show _ = (b ++ (codeL s.ord _ k.width ++ (codeL s.ord (k.c : Int).toNat (k.thru _).width ++ bitsS s.ord ((k.thru _).thru (k.c : Int)) _)), _)
      rw [hth]
      have hcc : (k.after (k.find (k.longest d))).thru (k.c : Int) = (k.after (k.find (k.longest d))).cleared := thru_clear _
      rw [hcc, List.append_assoc, List.append_assoc, Int.toNat_natCast, hc]
      rfl
  · rw [wrC, if_neg hs, if_neg (by rw [hfu]; simp)] at h4
    refine ⟨by rw [List.length_drop]; omega, by rw [List.length_drop]; omega, hr, ?_, h.bit.app (isBits_code _ _ _), ?_, hak, h.set, fun x hx => h.lit x (List.mem_of_mem_drop hx)⟩
    · rw [List.length_append, codeL_length, List.length_drop]; omega
    · rw [← h4]
      show _ = (b ++ (codeL s.ord _ k.width ++ bitsS s.ord (k.thru _) _), _)
      rw [hth, List.append_assoc]
      rfl
theorem open_len {w : WrD} (h : wrOk w) : w.open.1.length ≤ 17 ∧ isBits w.open.1 := by
  have hw := KnD.width_bd h.1
  have h7 := h.2.2.2.2.2.1
  have hb := h.2.2.2.2.1
  unfold WrD.open
  split
  · exact ⟨by show w.bits.length ≤ 17; omega, hb⟩
  · refine ⟨?_, hb.app (isBits_code _ _ _)⟩
    show (w.bits ++ codeL _ _ _).length ≤ 17
    rw [List.length_append, codeL_length]; omega
theorem WlD.start {w : WrD} {d : List UInt8} (h : wrOk w) (hd : d ≠ []) (hl : ∀ x ∈ d, x.toNat < clr w.k.set) (hn : (w.pend ++ d).length ≤ 2000) :
    WlD (w.all d, (w.codes d).2) w.k.set (w.pend ++ d).length w.open.2 (w.pend ++ d) w.open.1 := by
  obtain ⟨hok, hos⟩ := WrD.open_ok h.1
  obtain ⟨o1, o2⟩ := open_len h
  exact ⟨Nat.le_refl _, hn, by simp [hd], by omega, o2, rfl, hok, hos, fun x hx => (List.mem_append.1 hx).elim (h.2.2.1 x) (hl x)⟩
def wrV (w : WrD) (v : Value) : Value := .agg #[.int .i64 w.k.set.ord, .int .i64 w.k.set.lit, .int .i64 w.k.set.most, v, .int .i64 w.k.base, .int .i64 w.k.last, .string (bs w.pend), .string (bs w.bits), .bool w.beg]
def noWr : Value := .agg #[.int .i64 0, .int .i64 0, .int .i64 0, .slice none 0 0, .int .i64 0, .int .i64 0, .string ⟨#[]⟩, .string ⟨#[]⟩, .bool false]
def WdPost (o : Option (WrD × List UInt8)) (w : World) (e : Ending) (w' : World) : Prop := match o with
  | some (x, by') => ∃ v, e = .returned (.tuple #[wrV x v, .string (bs by'), .bool true]) ∧ ownPr w' w.heap.size v x.k.ps ∧ Up w w'
  | none => e = .returned (.tuple #[noWr, .string ⟨#[]⟩, .bool false]) ∧ Up w w'
end Go.Proofs.YtekogcjdaolcbaaGreatDoor

/- Walks of the program's appendBits onto a marked row and of the coder's write. Conditions: the coder lies in memory (CdEx), what is known is valid, the code can be written. -/
namespace Go.Proofs.YtekogcjdaolcbaaGreatDoor
open Go Go.RowKit
theorem ownM_ne {w : World} {b : Nat} {cs : Array Value} {T : TypeId} (hb : w.heap[b]? = some (.cells cs T)) {base : Nat} {v : Value} {d : List UInt8} (h : ownM w base v d) (hne : T ≠ 5) : some b ≠ v.ownBlock := by
  obtain ⟨g, cap, cur, fz, rfl, h1, h2, -⟩ := h
  intro e
  simp only [Value.ownBlock, Option.some.injEq] at e
  subst e
  rw [h2] at hb
  simp only [Option.some.injEq, Obj.cells.injEq] at hb
  exact hne hb.2.1.symm
theorem ownM_row {w : World} {e : TypeId} {base1 size n : Nat} {v1 : Value} {xs : List Value} (hr : w.ownsRow base1 e size v1 n xs) {base : Nat} {v : Value} {d : List UInt8} (h : ownM w base v d) (hne : e ≠ 5) : v1.ownBlock = none ∨ v1.ownBlock ≠ v.ownBlock := by
  rcases hr.2 with ⟨rfl, _⟩ | ⟨g, cap, cur, rfl, hb, hg, _⟩
  · exact .inl rfl
  · exact .inr (ownM_ne hg h hne)
theorem ownM.setb {w : World} {b : Nat} {base : Nat} {v : Value} {d : List UInt8} (h : ownM w base v d) (hne : some b ≠ v.ownBlock) (i : Nat) (u : Value) : ownM (w.setCell ⟨b, i, none⟩ u) base v d := by
  obtain ⟨g, cap, cur, fz, rfl, h1, h2, h3⟩ := h
  have hgb : g ≠ b := fun e => hne (by simp [Value.ownBlock, e])
  exact ⟨g, cap, cur, fz, rfl, h1, (Below.heap_setCell _ _ _ _ hgb).trans h2, h3⟩
structure CdAt (B cb tb : Nat) (k : KnD) (vp vn vi vb : Value) (bits : List UInt8) (w : World) : Prop where
  tree : TreeAt B tb k vp vn vi w
  box : w.heap[cb]? = some (.cells #[.pointer (some ⟨tb, 0, none⟩), vb] 74)
  low : B ≤ cb
  own : ownM w B vb bits
theorem CdAt.up {B cb tb : Nat} {k : KnD} {vp vn vi vb : Value} {bits : List UInt8} {w w' : World} (h : CdAt B cb tb k vp vn vi vb bits w) (hu : Up w w') : CdAt B cb tb k vp vn vi vb bits w' := ⟨h.tree.up hu, box_up hu h.box, h.low, h.own.up hu⟩
theorem CdAt.lt {B cb tb : Nat} {k : KnD} {vp vn vi vb : Value} {bits : List UInt8} {w : World} (h : CdAt B cb tb k vp vn vi vb bits w) : cb < w.heap.size := (Array.getElem?_eq_some_iff.1 h.box).1
theorem CdAt.gr {B cb tb : Nat} {k : KnD} {vp vn vi vb : Value} {bits : List UInt8} {w w' : World} (h : CdAt B cb tb k vp vn vi vb bits w) (hg : w.grownBy w' vb.ownBlock) : TreeAt B tb k vp vn vi w' ∧ w'.heap[cb]? = some (.cells #[.pointer (some ⟨tb, 0, none⟩), vb] 74) :=
  ⟨⟨gbox hg h.tree.box (ownM_ne h.tree.box h.own (by decide)), h.tree.low, h.tree.prs.kept hg (ownM_row h.tree.prs h.own (by decide)), h.tree.nod.kept hg (ownM_row h.tree.nod h.own (by decide)), h.tree.idx.kept hg (ownM_row h.tree.idx h.own (by decide))⟩, gbox hg h.box (ownM_ne h.box h.own (by decide))⟩
theorem TreeAt.setb {B tb : Nat} {k : KnD} {vp vn vi : Value} {w : World} (h : TreeAt B tb k vp vn vi w) {b : Nat} {cs : Array Value} {T : TypeId} (hb : w.heap[b]? = some (.cells cs T)) (h1 : T ≠ 81) (h2 : T ≠ 133) (h3 : T ≠ 125) (h4 : T ≠ 3) (i : Nat) (u : Value) : TreeAt B tb k vp vn vi (w.setCell ⟨b, i, none⟩ u) := by
  have hn : b ≠ tb := fun e => by
    subst e
    have := h.box
    unfold TrBox at this
    rw [hb] at this
    cases this
    exact h1 rfl
  exact ⟨(Below.heap_setCell _ _ _ _ (Ne.symm hn)).trans h.box, h.low, ownsRow_setb h.prs (box_ne hb h.prs h2) i u, ownsRow_setb h.nod (box_ne hb h.nod h3) i u, ownsRow_setb h.idx (box_ne hb h.idx h4) i u⟩
theorem CdAt.put {B cb tb : Nat} {k : KnD} {vp vn vi vb vb' : Value} {bits bits' : List UInt8} {w w' : World} (h : CdAt B cb tb k vp vn vi vb bits w) (hg : w.grownBy w' vb.ownBlock) (ho : ownM w' B vb' bits') : CdAt B cb tb k vp vn vi vb' bits' (w'.setCell ⟨cb, 1, none⟩ vb') := by
  obtain ⟨h1, h2⟩ := h.gr hg
  exact ⟨h1.setb h2 (by decide) (by decide) (by decide) (by decide) 1 vb', box_set h2 1 vb', h.low, ho.setb (ownM_ne h2 ho (by decide)) 1 vb'⟩
def CdEx (a0 : World) (cb : Nat) (k : KnD) (bits : List UInt8) (w : World) : Prop := Up a0 w ∧ ∃ tb vp vn vi vb, CdAt a0.heap.size cb tb k vp vn vi vb bits w
theorem CdEx.up {a0 : World} {cb : Nat} {k : KnD} {bits : List UInt8} {w w' : World} (h : CdEx a0 cb k bits w) (hu : Up w w') : CdEx a0 cb k bits w' := by
  obtain ⟨h1, tb, vp, vn, vi, vb, h2⟩ := h
  exact ⟨h1.trans hu, tb, vp, vn, vi, vb, h2.up hu⟩
theorem CdAt.tr {a0 : World} {cb tb : Nat} {k k' : KnD} {vp vn vi vb : Value} {bits : List UInt8} {w w' : World} (h : CdAt a0.heap.size cb tb k vp vn vi vb bits w) (hu : Up a0 w) (hp : TrPost a0.heap.size tb k' vp vn vi w w') : CdEx a0 cb k' bits w' := by
  obtain ⟨vp', vn', vi', hT, hF, hO⟩ := hp
  have hcb := h.tree.not_own h.box (by decide) (by decide) (by decide) (by decide)
  refine ⟨Fr.upto hu hF (fun b hb => (h.tree.own_lo b hb).1), tb, vp', vn', vi', vb, hT, hF.box h.box hcb, h.low, h.own.fr hF (fun b hb ho => ?_)⟩
  have hM := h.own
  rcases ho with rfl | e | e | e
  · exact ownM_ne h.tree.box hM (by decide) hb.symm
  · exact (ownM_row h.tree.prs hM (by decide)).elim (fun h => by rw [h] at e; cases e) (fun h => h (e.trans hb.symm))
  · exact (ownM_row h.tree.nod hM (by decide)).elim (fun h => by rw [h] at e; cases e) (fun h => h (e.trans hb.symm))
  · exact (ownM_row h.tree.idx hM (by decide)).elim (fun h => by rw [h] at e; cases e) (fun h => h (e.trans hb.symm))
end Go.Proofs.YtekogcjdaolcbaaGreatDoor

/- Walks of the program's coder: write, coderOf. Conditions: the coder lies in memory (CdEx), what is known is valid, the code can be written. -/
namespace Go.Proofs.YtekogcjdaolcbaaGreatDoor
open Go Go.RowKit
def KnD.puts (k : KnD) (x : Int) : Prop := x = (k.c : Int) + 1 ∨ x = (k.c : Int) ∨ (x ≠ (k.c : Int) ∧ x ≠ (k.c : Int) + 1 ∧ k.follows x = true)
end Go.Proofs.YtekogcjdaolcbaaGreatDoor

/- Walks of the program's coderOf, codeOf, CodeOfWord, BitsValid, WriterValid, NewWriter. Conditions: as each says. -/
namespace Go.Proofs.YtekogcjdaolcbaaGreatDoor
open Go Go.RowKit
def WrAt (b : Nat) (x : WrD) (v : Value) (w : World) : Prop := w.heap[b]? = some (.cells #[.int .i64 x.k.set.ord, .int .i64 x.k.set.lit, .int .i64 x.k.set.most, v, .int .i64 x.k.base, .int .i64 x.k.last, .string (bs x.pend), .string (bs x.bits), .bool x.beg] 29)
theorem WrAt.cells {b : Nat} {x : WrD} {v : Value} {w : World} (h : WrAt b x v w) : b < w.heap.size ∧ w.cell? ⟨b, 0, none⟩ = some (.int .i64 x.k.set.ord) ∧ w.cell? ⟨b, 1, none⟩ = some (.int .i64 x.k.set.lit) ∧ w.cell? ⟨b, 2, none⟩ = some (.int .i64 x.k.set.most) ∧ w.cell? ⟨b, 3, none⟩ = some v ∧ w.cell? ⟨b, 4, none⟩ = some (.int .i64 x.k.base) ∧ w.cell? ⟨b, 5, none⟩ = some (.int .i64 x.k.last) ∧ w.cell? ⟨b, 6, none⟩ = some (.string (bs x.pend)) ∧ w.cell? ⟨b, 7, none⟩ = some (.string (bs x.bits)) ∧ w.cell? ⟨b, 8, none⟩ = some (.bool x.beg) :=
  ⟨(Array.getElem?_eq_some_iff.1 h).1, box_cell h 0, box_cell h 1, box_cell h 2, box_cell h 3, box_cell h 4, box_cell h 5, box_cell h 6, box_cell h 7, box_cell h 8⟩
theorem WrAt.up {b : Nat} {x : WrD} {v : Value} {w w' : World} (h : WrAt b x v w) (hu : Up w w') : WrAt b x v w' := box_up hu h
set_option maxRecDepth 100000 in
set_option maxHeartbeats 4000000 in
theorem codeOf_any (B tb : Nat) (k : KnD) (vp vn vi : Value) (s : ByteArray) (w : World) (h : TreeAt B tb k vp vn vi w) (hk : k.Ok) (hs : 0 < s.size) (hs2 : s.size ≤ 1073741824) (hl : ∀ b ∈ s.data.toList, b.toNat < k.c) :
    Calls Tryz.prog 57  #[.pointer (some ⟨tb, 0, none⟩), .string s] w (Same (if k.longest s.data.toList = s.data.toList then .tuple #[.int .i64 (k.find s.data.toList), .bool true] else .tuple #[.int .i64 0, .bool false]) w) := by
  have cL := fun wq hT => longest_any B tb k vp vn vi s wq hT hk hs hs2 hl
  have cK := fun w => clearI_any k.set w hk.set
  have hsl := ba_len s
  have htb := h.lt
  have hu0 := u8_bd s[0]
  have hne : s.data.toList ≠ [] := fun e => by rw [e] at hsl; simp at hsl; omega
  have hl0 : (s[0]).toNat < clr k.set := hl _ (by
    have e : s[0] = s.data.toList[0]'(by omega) := rfl
    rw [e]; exact List.getElem_mem _)
  have hge : ¬ ((s[0].toNat : Int) ≥ ((clr k.set : Nat) : Int)) := by omega
  have HE : s.toList.isEmpty = false := by rw [Lib.toList_data]; cases hh : s.data.toList with | nil => exact absurd hh hne | cons _ _ => rfl
  obtain ⟨c0, c1, c2, c3, c4, c5, c6, c7⟩ := h.cells
  have hle := KnD.longest_le (k := k) s.data.toList
  have HT := Lib.hid h
  by_cases he : k.longest s.data.toList = s.data.toList
  · rw [if_pos he]
    rw [he, hsl] at cL
    have hlt : ¬ ((s.size : Nat) : Int) < (s.size : Int) := by omega
    clear he h hl hle hne
    generalize k.find s.data.toList = x at *
    go_enter Tryz.func57, Tryz.ntmps57
    go_wp2
    refine wp_region_up 14 (by kernel_rfl) (by kernel_rfl) ?_
    simp only [List.take, List.drop]
    repeat (refine wpUp_step (fun K hK => ?_); go_simp; (try simp only [↓IntWalk.iteOmega]); first
      | (refine hK _ _ ?_; clear hK K)
      | (apply stepU_c
         · intro wq hwq; (have hbq := bcell hwq; (repeat (first | refine fills_no (by rfl) ?_ | refine fills_yes (by rfl) (fun vq hvq => ?_))); simp only [List.filter_nil, fills]; unfold upAt; go_simp; (try go_bits); (try simp only [↓IntWalk.iteOmega]); (try (rw [dif_pos (by omega)]; go_simp; try go_bits)); first | exact upOut_value | (apply upOut_call; (go_at_call 40; exact cK _)) | (apply upOut_eq; (go_at_call 40; exact cK _)))
         go_simp; refine hK _ _ ?_; clear hK K))
    refine wpUp_nil (fun wq hwq => ?_)
    simp only [fills]
    go_wp2_with (first | (go_at_call 37; (with_reducible refine (cL _ (HT.out.up hwq)).mono ?_); rintro e w2 ⟨rfl, U2⟩; have B2 := bcell U2; have Z2 := U2.size; (try simp at Z2); (try rw [Nat.add_one_le_iff] at Z2)))
    go_ret2
    exact ⟨rfl, hwq.trans U2⟩
  · rw [if_neg he]
    have hlt := KnD.longest_lt (k := k) he
    rw [hsl] at hlt
    generalize k.find (k.longest s.data.toList) = x at *
    generalize (k.longest s.data.toList).length = ln at *
    clear he h hl hle hne
    go_enter Tryz.func57, Tryz.ntmps57
    go_wp2
    refine wp_region_up 14 (by kernel_rfl) (by kernel_rfl) ?_
    simp only [List.take, List.drop]
    repeat (refine wpUp_step (fun K hK => ?_); go_simp; (try simp only [↓IntWalk.iteOmega]); first
      | (refine hK _ _ ?_; clear hK K)
      | (apply stepU_c
         · intro wq hwq; (have hbq := bcell hwq; (repeat (first | refine fills_no (by rfl) ?_ | refine fills_yes (by rfl) (fun vq hvq => ?_))); simp only [List.filter_nil, fills]; unfold upAt; go_simp; (try go_bits); (try simp only [↓IntWalk.iteOmega]); (try (rw [dif_pos (by omega)]; go_simp; try go_bits)); first | exact upOut_value | (apply upOut_call; (go_at_call 40; exact cK _)) | (apply upOut_eq; (go_at_call 40; exact cK _)))
         go_simp; refine hK _ _ ?_; clear hK K))
    refine wpUp_nil (fun wq hwq => ?_)
    simp only [fills]
    go_wp2_with (first | (go_at_call 37; (with_reducible refine (cL _ (HT.out.up hwq)).mono ?_); rintro e w2 ⟨rfl, U2⟩; have B2 := bcell U2; have Z2 := U2.size; (try simp at Z2); (try rw [Nat.add_one_le_iff] at Z2)))
    go_ret2
    exact ⟨rfl, hwq.trans U2⟩
set_option maxRecDepth 100000 in
set_option maxHeartbeats 4000000 in
theorem codeWI_any (k : KnD) (v : Value) (lo : Nat) (s : ByteArray) (w : World) (hk : k.Ok) (hv : k.vl) (hr : RdP lo w v k.ps) (hs : 0 < s.size) (hs2 : s.size ≤ 1073741824) (hl : ∀ b ∈ s.data.toList, b.toNat < k.c) :
    Calls Tryz.prog 66  #[kV k v, .string s] w (Same (.tuple #[.int .i64 (if k.longest s.data.toList = s.data.toList then k.find s.data.toList else 0), .bool (decide (k.longest s.data.toList = s.data.toList))]) w) := by
  have cV := fun wq hr => kvI_any k v lo wq hk hv hr
  have cN := fun wq hr => newTree_any k v lo wq hk hr
  have cC := fun B tb vp vn vi wq hT => codeOf_any B tb k vp vn vi s wq hT hk hs hs2 hl
  have hrt := fun (wq : World) (hu : Up w wq) => hr.up hu
  obtain ⟨a, cap, rfl, -, -, -, -⟩ := hr
  by_cases he : k.longest s.data.toList = s.data.toList
  · simp only [he, if_true, decide_true] at cC ⊢
    generalize k.find s.data.toList = x at *
    clear hk hl hv he
    simp only [kV] at *
    go_enter Tryz.func66, Tryz.ntmps66
    go_wp2_with (first | (go_at_call 64; (with_reducible refine (cV _ (hrt _ (by (repeat (first | with_reducible exact Up.refl _ | with_reducible assumption | with_reducible refine Up.set ?_ (by first | exact Nat.le_refl _ | (simp only []; omega) | (simp; omega)) _ | with_reducible refine Up.alloc ?_ _ | with_reducible refine Up.drew ?_ | refine Up.trans ?_ (by with_reducible assumption)))))).mono ?_); rintro e w1 ⟨rfl, U1⟩; have B1 := bcell U1; have Z1 := U1.size; (try simp at Z1); (try rw [Nat.add_one_le_iff] at Z1)) | fail)
    with_reducible refine (cN _ (hrt _ (by (repeat (first | with_reducible exact Up.refl _ | with_reducible assumption | with_reducible refine Up.set ?_ (by first | exact Nat.le_refl _ | (simp only []; omega) | (simp; omega)) _ | with_reducible refine Up.alloc ?_ _ | with_reducible refine Up.drew ?_ | refine Up.trans ?_ (by with_reducible assumption)))))).mono ?_
    rintro e w2 ⟨tb, vp, vn, vi, rfl, hT, U2⟩
    have HT := Lib.hid hT
    clear hT
    go_wp2_with (first | (go_at_call 57; (with_reducible refine (cC _ _ _ _ _ _ HT.out).mono ?_); rintro e w3 ⟨rfl, U3⟩; have B3 := bcell U3; have Z3 := U3.size; (try simp at Z3); (try rw [Nat.add_one_le_iff] at Z3)))
    go_ret2
    refine ⟨rfl, ?_⟩
    (repeat (first | with_reducible exact Up.refl _ | with_reducible assumption | with_reducible refine Up.set ?_ (by first | exact Nat.le_refl _ | (simp only []; omega) | (simp; omega)) _ | with_reducible refine Up.alloc ?_ _ | with_reducible refine Up.drew ?_ | refine Up.trans ?_ (by with_reducible assumption)))
  · simp only [he, if_false, decide_false] at cC ⊢
    clear hk hl hv he
    simp only [kV] at *
    go_enter Tryz.func66, Tryz.ntmps66
    go_wp2_with (first | (go_at_call 64; (with_reducible refine (cV _ (hrt _ (by (repeat (first | with_reducible exact Up.refl _ | with_reducible assumption | with_reducible refine Up.set ?_ (by first | exact Nat.le_refl _ | (simp only []; omega) | (simp; omega)) _ | with_reducible refine Up.alloc ?_ _ | with_reducible refine Up.drew ?_ | refine Up.trans ?_ (by with_reducible assumption)))))).mono ?_); rintro e w1 ⟨rfl, U1⟩; have B1 := bcell U1; have Z1 := U1.size; (try simp at Z1); (try rw [Nat.add_one_le_iff] at Z1)) | fail)
    with_reducible refine (cN _ (hrt _ (by (repeat (first | with_reducible exact Up.refl _ | with_reducible assumption | with_reducible refine Up.set ?_ (by first | exact Nat.le_refl _ | (simp only []; omega) | (simp; omega)) _ | with_reducible refine Up.alloc ?_ _ | with_reducible refine Up.drew ?_ | refine Up.trans ?_ (by with_reducible assumption)))))).mono ?_
    rintro e w2 ⟨tb, vp, vn, vi, rfl, hT, U2⟩
    have HT := Lib.hid hT
    clear hT
    go_wp2_with (first | (go_at_call 57; (with_reducible refine (cC _ _ _ _ _ _ HT.out).mono ?_); rintro e w3 ⟨rfl, U3⟩; have B3 := bcell U3; have Z3 := U3.size; (try simp at Z3); (try rw [Nat.add_one_le_iff] at Z3)))
    go_ret2
    refine ⟨rfl, ?_⟩
    (repeat (first | with_reducible exact Up.refl _ | with_reducible assumption | with_reducible refine Up.set ?_ (by first | exact Nat.le_refl _ | (simp only []; omega) | (simp; omega)) _ | with_reducible refine Up.alloc ?_ _ | with_reducible refine Up.drew ?_ | refine Up.trans ?_ (by with_reducible assumption)))
def bvB (l : List UInt8) : Bool := decide (l.length ≤ 32000) && bitsB l
theorem bitsB_no {s : ByteArray} {j : Nat} (h : j < s.size) (hb : ¬ (s[j].toNat = 48 ∨ s[j].toNat = 49)) : bitsB s.data.toList = false := by
  cases e : bitsB s.data.toList
  · rfl
  · exact absurd (bitsB_iff.1 e s[j] (by
      have e2 : s[j] = s.data.toList[j]'(by rw [ba_len]; exact h) := rfl
      rw [e2]; exact List.getElem_mem _)) hb
theorem bitsB_yes {s : ByteArray} (h : ∀ j (hj : j < s.size), s[j].toNat = 48 ∨ s[j].toNat = 49) : bitsB s.data.toList = true := by
  rw [bitsB_iff]
  intro b hb
  obtain ⟨i, hi, rfl⟩ := List.mem_iff_getElem.1 hb
  exact h i (by rw [ba_len] at hi; exact hi)
def RelBg (s : ByteArray) (i : Value) (w wr : World) : Prop := ∃ j : Nat, i = .int .i64 j ∧ j ≤ s.size ∧ (∀ q (hq : q < s.size), q < j → s[q].toNat = 48 ∨ s[q].toNat = 49) ∧ w = wr
set_option maxRecDepth 100000 in
set_option maxHeartbeats 1000000 in
theorem bvI_any (s : ByteArray) (w : World) (hs : s.size ≤ 1073741824) :
    Calls Tryz.prog 65  #[.string s] w (fun e w' => e = .returned (.bool (bvB s.data.toList)) ∧ w = w') := by
  have hlen := ba_len s
  by_cases h4 : s.size ≤ 32000
  · have HV : Hid (bvB s.data.toList = bitsB s.data.toList) := by unfold Hid bvB; rw [hlen, decide_eq_true h4]; rfl
    rw [HV.out]
    go_enter Tryz.func65, Tryz.ntmps65
    go_wp2
    go_loopw [9] (fun i wr => RelBg s i w wr) (fun i _ => s.size - (intOf i).toNat)
    case atStart => exact ⟨0, rfl, Nat.zero_le _, fun q _ h => absurd h (Nat.not_lt_zero _), rfl⟩
    case round =>
      obtain ⟨j, rfl, hj, hall, rfl⟩ := hrel
      have HA := Lib.hid hall
      clear hall
      by_cases hlt : j < s.size
      · have HN : Hid ((s[j].toNat = 48 ∨ s[j].toNat = 49) → ∀ q (hq : q < s.size), q < j + 1 → s[q].toNat = 48 ∨ s[q].toNat = 49) := fun h q hq hqj => by
          rcases Nat.lt_or_ge q j with h' | h'
          · exact HA.out q hq h'
          · have : q = j := by omega
            subst this; exact h
        by_cases h1 : s[j].toNat = 48
        · have HN' := Lib.hid (HN.out (.inl h1))
          clear HN HA
          go_wp2
          go_roundw
          case rel => exact ⟨j + 1, by go_num, by omega, HN'.out, rfl⟩
          case measure => simp [intOf]; omega
        · by_cases h2 : s[j].toNat = 49
          · have HN' := Lib.hid (HN.out (.inr h2))
            clear HN HA
            go_wp2
            go_roundw
            case rel => exact ⟨j + 1, by go_num, by omega, HN'.out, rfl⟩
            case measure => simp [intOf]; omega
          · have HB : Hid (bitsB s.data.toList = false) := bitsB_no hlt (fun h => h.elim h1 h2)
            have hb1 : ((s[j].toNat : Int) != 48) = true := by simp; omega
            have hb2 : ((s[j].toNat : Int) != 49) = true := by simp; omega
            clear HN HA
            go_wp2
            go_ret
            exact ⟨ret_bool HB.out.symm, rfl⟩
      · have HB : Hid (bitsB s.data.toList = true) := bitsB_yes fun q hq => HA.out q hq (by omega)
        go_wp2
        go_ret
        exact ⟨ret_bool HB.out.symm, rfl⟩
  · have HV : Hid (bvB s.data.toList = false) := by unfold Hid bvB; rw [hlen, decide_eq_false h4]; rfl
    rw [HV.out]
    go_enter Tryz.func65, Tryz.ntmps65
    go_wp2
    go_ret
    exact ⟨rfl, rfl⟩
theorem isEmpty_bs {d : List UInt8} (h : d ≠ []) : (bs d).toList.isEmpty = false := by rw [Lib.toList_data, bs_data]; cases d with | nil => exact absurd rfl h | cons _ _ => rfl
theorem isEmpty_nil : (bs ([] : List UInt8)).toList.isEmpty = true := by rw [Lib.toList_data, bs_data]; rfl
theorem wrvB_k {x : WrD} (h : validK x.k = false) : wrvB x = false := by unfold wrvB; rw [h]; rfl
theorem wrvB_f {x : WrD} (h : fitsB x.k.set x.pend = false) : wrvB x = false := by unfold wrvB; rw [h]; simp
theorem wrvB_b {x : WrD} (h : bvB x.bits = false) : wrvB x = false := by
  unfold wrvB
  have : (bitsB x.bits && decide (x.bits.length ≤ 7)) = false := by
    unfold bvB at h
    cases h1 : bitsB x.bits
    · rfl
    · rw [h1, Bool.and_true] at h
      have : ¬ x.bits.length ≤ 32000 := by simpa using h
      rw [Bool.true_and]
      exact decide_eq_false (by omega)
  rw [this]; simp
theorem wrvB_7 {x : WrD} (h : ¬ x.bits.length ≤ 7) : wrvB x = false := by unfold wrvB; rw [decide_eq_false h]; simp
theorem wrvB_all {x : WrD} (h1 : validK x.k = true) (h2 : fitsB x.k.set x.pend = true) (h3 : bvB x.bits = true) (h4 : x.bits.length ≤ 7) : wrvB x = wrsB x := by
  unfold wrvB
  unfold bvB at h3
  rw [h1, h2, decide_eq_true h4, (Bool.and_eq_true_iff.1 h3).2]
  rfl
set_option maxRecDepth 100000 in
set_option maxHeartbeats 8000000 in
theorem wvI_any (x : WrD) (v : Value) (lo : Nat) (w : World) (hl : -9223372036854775808 ≤ x.k.set.lit ∧ x.k.set.lit ≤ 9223372036854775807) (hr : RdP lo w v x.k.ps) (hps : x.k.ps.length ≤ 1073741824) (hp : x.pend.length ≤ 1073741824) (hb : x.bits.length ≤ 1073741824) :
    Calls Tryz.prog 15  #[wrV x v] w (Same (.bool (wrvB x)) w) := by
  have cV := fun wq hr => kvI_gen x.k v lo wq hl hr hps
  have hrt := fun (wq : World) (hu : Up w wq) => hr.up hu
  have hsp := bs_size x.pend
  have hsb := bs_size x.bits
  have cF := fun wq => fitsI_any x.k.set (bs x.pend) wq hl (by omega)
  have cB := fun wq => bvI_any (bs x.bits) wq (by omega)
  rw [bs_data] at cF cB
  obtain ⟨a, cap, rfl, -, -, -, -⟩ := id hr
  unfold wrV
  cases h1 : validK x.k
  · rw [wrvB_k h1]
    rw [h1] at cV
    clear h1 hr
    simp only [kV] at *
    go_enter Tryz.func15, Tryz.ntmps15
    go_wp2_with (first | (go_at_call 64; (with_reducible refine (cV _ (hrt _ (by (repeat (first | with_reducible exact Up.refl _ | with_reducible assumption | with_reducible refine Up.set ?_ (by first | exact Nat.le_refl _ | (simp only []; omega) | (simp; omega)) _ | with_reducible refine Up.alloc ?_ _ | with_reducible refine Up.drew ?_ | refine Up.trans ?_ (by with_reducible assumption)))))).mono ?_); rintro e w1 ⟨rfl, U1⟩; have B1 := bcell U1; have Z1 := U1.size; (try simp at Z1); (try rw [Nat.add_one_le_iff] at Z1)) | fail)
    go_ret
    refine ⟨rfl, ?_⟩
    (repeat (first | with_reducible exact Up.refl _ | with_reducible assumption | with_reducible refine Up.set ?_ (by first | exact Nat.le_refl _ | (simp only []; omega) | (simp; omega)) _ | with_reducible refine Up.alloc ?_ _ | with_reducible refine Up.drew ?_ | refine Up.trans ?_ (by with_reducible assumption)))
  rw [h1] at cV
  cases h2 : fitsB x.k.set x.pend
  · rw [wrvB_f h2]
    rw [h2] at cF
    clear h1 h2 hr
    simp only [kV, setV] at *
    go_enter Tryz.func15, Tryz.ntmps15
    go_wp2_with (first | (go_at_call 64; (with_reducible refine (cV _ (hrt _ (by (repeat (first | with_reducible exact Up.refl _ | with_reducible assumption | with_reducible refine Up.set ?_ (by first | exact Nat.le_refl _ | (simp only []; omega) | (simp; omega)) _ | with_reducible refine Up.alloc ?_ _ | with_reducible refine Up.drew ?_ | refine Up.trans ?_ (by with_reducible assumption)))))).mono ?_); rintro e w1 ⟨rfl, U1⟩; have B1 := bcell U1; have Z1 := U1.size; (try simp at Z1); (try rw [Nat.add_one_le_iff] at Z1)) | (go_at_call 34; (with_reducible refine (cF _).mono ?_); rintro e w2 ⟨rfl, U2⟩; have B2 := bcell U2; have Z2 := U2.size; (try simp at Z2); (try rw [Nat.add_one_le_iff] at Z2)) | fail)
    go_ret
    refine ⟨rfl, ?_⟩
    (repeat (first | with_reducible exact Up.refl _ | with_reducible assumption | with_reducible refine Up.set ?_ (by first | exact Nat.le_refl _ | (simp only []; omega) | (simp; omega)) _ | with_reducible refine Up.alloc ?_ _ | with_reducible refine Up.drew ?_ | refine Up.trans ?_ (by with_reducible assumption)))
  rw [h2] at cF
  cases h3 : bvB x.bits
  · rw [wrvB_b h3]
    rw [h3] at cB
    clear h1 h2 h3 hr
    simp only [kV, setV] at *
    go_enter Tryz.func15, Tryz.ntmps15
    go_wp2_with (first | (go_at_call 64; (with_reducible refine (cV _ (hrt _ (by (repeat (first | with_reducible exact Up.refl _ | with_reducible assumption | with_reducible refine Up.set ?_ (by first | exact Nat.le_refl _ | (simp only []; omega) | (simp; omega)) _ | with_reducible refine Up.alloc ?_ _ | with_reducible refine Up.drew ?_ | refine Up.trans ?_ (by with_reducible assumption)))))).mono ?_); rintro e w1 ⟨rfl, U1⟩; have B1 := bcell U1; have Z1 := U1.size; (try simp at Z1); (try rw [Nat.add_one_le_iff] at Z1)) | (go_at_call 34; (with_reducible refine (cF _).mono ?_); rintro e w2 ⟨rfl, U2⟩; have B2 := bcell U2; have Z2 := U2.size; (try simp at Z2); (try rw [Nat.add_one_le_iff] at Z2)) | (go_at_call 65; (with_reducible refine (cB _).mono ?_); rintro e w' ⟨rfl, rfl⟩) | fail)
    go_ret
    refine ⟨rfl, ?_⟩
    (repeat (first | with_reducible exact Up.refl _ | with_reducible assumption | with_reducible refine Up.set ?_ (by first | exact Nat.le_refl _ | (simp only []; omega) | (simp; omega)) _ | with_reducible refine Up.alloc ?_ _ | with_reducible refine Up.drew ?_ | refine Up.trans ?_ (by with_reducible assumption)))
  rw [h3] at cB
  by_cases h4 : x.bits.length ≤ 7
  case neg =>
    rw [wrvB_7 h4]
    clear h1 h2 h3 hr
    have h4' : ((x.bits.length : Nat) : Int) ≥ 8 := by omega
    simp only [kV, setV] at *
    go_enter Tryz.func15, Tryz.ntmps15
    go_wp2_with (first | (go_at_call 64; (with_reducible refine (cV _ (hrt _ (by (repeat (first | with_reducible exact Up.refl _ | with_reducible assumption | with_reducible refine Up.set ?_ (by first | exact Nat.le_refl _ | (simp only []; omega) | (simp; omega)) _ | with_reducible refine Up.alloc ?_ _ | with_reducible refine Up.drew ?_ | refine Up.trans ?_ (by with_reducible assumption)))))).mono ?_); rintro e w1 ⟨rfl, U1⟩; have B1 := bcell U1; have Z1 := U1.size; (try simp at Z1); (try rw [Nat.add_one_le_iff] at Z1)) | (go_at_call 34; (with_reducible refine (cF _).mono ?_); rintro e w2 ⟨rfl, U2⟩; have B2 := bcell U2; have Z2 := U2.size; (try simp at Z2); (try rw [Nat.add_one_le_iff] at Z2)) | (go_at_call 65; (with_reducible refine (cB _).mono ?_); rintro e w' ⟨rfl, rfl⟩) | fail)
    go_ret
    refine ⟨rfl, ?_⟩
    (repeat (first | with_reducible exact Up.refl _ | with_reducible assumption | with_reducible refine Up.set ?_ (by first | exact Nat.le_refl _ | (simp only []; omega) | (simp; omega)) _ | with_reducible refine Up.alloc ?_ _ | with_reducible refine Up.drew ?_ | refine Up.trans ?_ (by with_reducible assumption)))
  case pos =>
    have h4' : ¬ ((x.bits.length : Nat) : Int) ≥ 8 := by omega
    rw [wrvB_all h1 h2 h3 h4]
    obtain ⟨hk, hv⟩ := ok_of_valid h1
    obtain ⟨f1, f2, f3⟩ := fitsB_lits h2
    obtain ⟨k, pend, bits, beg⟩ := x
    dsimp only at *
    by_cases hpe : pend = []
    · subst hpe
      simp only [show bs ([] : List UInt8) = (⟨#[]⟩ : ByteArray) from rfl] at *
      by_cases hbe : bits = []
      · subst hbe
        simp only [show bs ([] : List UInt8) = (⟨#[]⟩ : ByteArray) from rfl] at *
        cases beg
        all_goals
          rw [show wrsB (⟨k, [], [], _⟩ : WrD) = true from rfl]
          clear h1 h2 h3 hr hk hv f3
          simp only [kV, setV] at *
          go_enter Tryz.func15, Tryz.ntmps15
          go_wp2_with (first | (go_at_call 64; (with_reducible refine (cV _ (hrt _ (by (repeat (first | with_reducible exact Up.refl _ | with_reducible assumption | with_reducible refine Up.set ?_ (by first | exact Nat.le_refl _ | (simp only []; omega) | (simp; omega)) _ | with_reducible refine Up.alloc ?_ _ | with_reducible refine Up.drew ?_ | refine Up.trans ?_ (by with_reducible assumption)))))).mono ?_); rintro e w1 ⟨rfl, U1⟩; have B1 := bcell U1; have Z1 := U1.size; (try simp at Z1); (try rw [Nat.add_one_le_iff] at Z1)) | (go_at_call 34; (with_reducible refine (cF _).mono ?_); rintro e w2 ⟨rfl, U2⟩; have B2 := bcell U2; have Z2 := U2.size; (try simp at Z2); (try rw [Nat.add_one_le_iff] at Z2)) | (go_at_call 65; (with_reducible refine (cB _).mono ?_); rintro e w' ⟨rfl, rfl⟩) | fail)
          go_ret
          refine ⟨rfl, ?_⟩
          (repeat (first | with_reducible exact Up.refl _ | with_reducible assumption | with_reducible refine Up.set ?_ (by first | exact Nat.le_refl _ | (simp only []; omega) | (simp; omega)) _ | with_reducible refine Up.alloc ?_ _ | with_reducible refine Up.drew ?_ | refine Up.trans ?_ (by with_reducible assumption)))
      · have HBE := isEmpty_bs hbe
        cases beg
        · have HW : Hid (wrsB (⟨k, [], bits, false⟩ : WrD) = false) := by unfold Hid wrsB; simp [hbe]
          rw [HW.out]
          clear h1 h2 h3 hr hk hv f3 hbe
          simp only [kV, setV] at *
          go_enter Tryz.func15, Tryz.ntmps15
          go_wp2_with (first | (go_at_call 64; (with_reducible refine (cV _ (hrt _ (by (repeat (first | with_reducible exact Up.refl _ | with_reducible assumption | with_reducible refine Up.set ?_ (by first | exact Nat.le_refl _ | (simp only []; omega) | (simp; omega)) _ | with_reducible refine Up.alloc ?_ _ | with_reducible refine Up.drew ?_ | refine Up.trans ?_ (by with_reducible assumption)))))).mono ?_); rintro e w1 ⟨rfl, U1⟩; have B1 := bcell U1; have Z1 := U1.size; (try simp at Z1); (try rw [Nat.add_one_le_iff] at Z1)) | (go_at_call 34; (with_reducible refine (cF _).mono ?_); rintro e w2 ⟨rfl, U2⟩; have B2 := bcell U2; have Z2 := U2.size; (try simp at Z2); (try rw [Nat.add_one_le_iff] at Z2)) | (go_at_call 65; (with_reducible refine (cB _).mono ?_); rintro e w' ⟨rfl, rfl⟩) | fail)
          go_ret
          refine ⟨rfl, ?_⟩
          (repeat (first | with_reducible exact Up.refl _ | with_reducible assumption | with_reducible refine Up.set ?_ (by first | exact Nat.le_refl _ | (simp only []; omega) | (simp; omega)) _ | with_reducible refine Up.alloc ?_ _ | with_reducible refine Up.drew ?_ | refine Up.trans ?_ (by with_reducible assumption)))
        · have HW : Hid (wrsB (⟨k, [], bits, true⟩ : WrD) = true) := by unfold Hid wrsB; simp
          rw [HW.out]
          clear h1 h2 h3 hr hk hv f3 hbe
          simp only [kV, setV] at *
          go_enter Tryz.func15, Tryz.ntmps15
          go_wp2_with (first | (go_at_call 64; (with_reducible refine (cV _ (hrt _ (by (repeat (first | with_reducible exact Up.refl _ | with_reducible assumption | with_reducible refine Up.set ?_ (by first | exact Nat.le_refl _ | (simp only []; omega) | (simp; omega)) _ | with_reducible refine Up.alloc ?_ _ | with_reducible refine Up.drew ?_ | refine Up.trans ?_ (by with_reducible assumption)))))).mono ?_); rintro e w1 ⟨rfl, U1⟩; have B1 := bcell U1; have Z1 := U1.size; (try simp at Z1); (try rw [Nat.add_one_le_iff] at Z1)) | (go_at_call 34; (with_reducible refine (cF _).mono ?_); rintro e w2 ⟨rfl, U2⟩; have B2 := bcell U2; have Z2 := U2.size; (try simp at Z2); (try rw [Nat.add_one_le_iff] at Z2)) | (go_at_call 65; (with_reducible refine (cB _).mono ?_); rintro e w' ⟨rfl, rfl⟩) | fail)
          go_ret
          refine ⟨rfl, ?_⟩
          (repeat (first | with_reducible exact Up.refl _ | with_reducible assumption | with_reducible refine Up.set ?_ (by first | exact Nat.le_refl _ | (simp only []; omega) | (simp; omega)) _ | with_reducible refine Up.alloc ?_ _ | with_reducible refine Up.drew ?_ | refine Up.trans ?_ (by with_reducible assumption)))
    · have HPE := isEmpty_bs hpe
      have hpos := List.length_pos_iff.2 hpe
      cases beg
      · have HW : Hid (wrsB (⟨k, pend, bits, false⟩ : WrD) = false) := by unfold Hid wrsB; simp [hpe]
        rw [HW.out]
        clear h1 h2 h3 hr hk hv f3 hpe
        simp only [kV, setV] at *
        go_enter Tryz.func15, Tryz.ntmps15
        go_wp2_with (first | (go_at_call 64; (with_reducible refine (cV _ (hrt _ (by (repeat (first | with_reducible exact Up.refl _ | with_reducible assumption | with_reducible refine Up.set ?_ (by first | exact Nat.le_refl _ | (simp only []; omega) | (simp; omega)) _ | with_reducible refine Up.alloc ?_ _ | with_reducible refine Up.drew ?_ | refine Up.trans ?_ (by with_reducible assumption)))))).mono ?_); rintro e w1 ⟨rfl, U1⟩; have B1 := bcell U1; have Z1 := U1.size; (try simp at Z1); (try rw [Nat.add_one_le_iff] at Z1)) | (go_at_call 34; (with_reducible refine (cF _).mono ?_); rintro e w2 ⟨rfl, U2⟩; have B2 := bcell U2; have Z2 := U2.size; (try simp at Z2); (try rw [Nat.add_one_le_iff] at Z2)) | (go_at_call 65; (with_reducible refine (cB _).mono ?_); rintro e w' ⟨rfl, rfl⟩) | fail)
        go_ret
        refine ⟨rfl, ?_⟩
        (repeat (first | with_reducible exact Up.refl _ | with_reducible assumption | with_reducible refine Up.set ?_ (by first | exact Nat.le_refl _ | (simp only []; omega) | (simp; omega)) _ | with_reducible refine Up.alloc ?_ _ | with_reducible refine Up.drew ?_ | refine Up.trans ?_ (by with_reducible assumption)))
      · have cC := fun wq hr => codeWI_any k (.slice a k.ps.length cap) lo (bs pend) wq hk hv hr (by omega) (by omega) (by rw [bs_data]; exact f3)
        rw [bs_data] at cC
        have HW : Hid (wrsB (⟨k, pend, bits, true⟩ : WrD) = decide (k.longest pend = pend)) := by unfold Hid wrsB; simp [hpe]
        rw [HW.out]
        generalize decide (k.longest pend = pend) = ok at *
        generalize (if k.longest pend = pend then k.find pend else 0) = cd at *
        clear h1 h2 h3 hr hk hv f3 hpe HW
        simp only [kV, setV] at *
        go_enter Tryz.func15, Tryz.ntmps15
        go_wp2_with (first | (go_at_call 64; (with_reducible refine (cV _ (hrt _ (by (repeat (first | with_reducible exact Up.refl _ | with_reducible assumption | with_reducible refine Up.set ?_ (by first | exact Nat.le_refl _ | (simp only []; omega) | (simp; omega)) _ | with_reducible refine Up.alloc ?_ _ | with_reducible refine Up.drew ?_ | refine Up.trans ?_ (by with_reducible assumption)))))).mono ?_); rintro e w1 ⟨rfl, U1⟩; have B1 := bcell U1; have Z1 := U1.size; (try simp at Z1); (try rw [Nat.add_one_le_iff] at Z1)) | (go_at_call 34; (with_reducible refine (cF _).mono ?_); rintro e w2 ⟨rfl, U2⟩; have B2 := bcell U2; have Z2 := U2.size; (try simp at Z2); (try rw [Nat.add_one_le_iff] at Z2)) | (go_at_call 65; (with_reducible refine (cB _).mono ?_); rintro e w' ⟨rfl, rfl⟩) | (go_at_call 66; (with_reducible refine (cC _ (hrt _ (by (repeat (first | with_reducible exact Up.refl _ | with_reducible assumption | with_reducible refine Up.set ?_ (by first | exact Nat.le_refl _ | (simp only []; omega) | (simp; omega)) _ | with_reducible refine Up.alloc ?_ _ | with_reducible refine Up.drew ?_ | refine Up.trans ?_ (by with_reducible assumption)))))).mono ?_); rintro e w4 ⟨rfl, U4⟩; have B4 := bcell U4; have Z4 := U4.size; (try simp at Z4); (try rw [Nat.add_one_le_iff] at Z4)) | fail)
        go_ret
        refine ⟨rfl, ?_⟩
        (repeat (first | with_reducible exact Up.refl _ | with_reducible assumption | with_reducible refine Up.set ?_ (by first | exact Nat.le_refl _ | (simp only []; omega) | (simp; omega)) _ | with_reducible refine Up.alloc ?_ _ | with_reducible refine Up.drew ?_ | refine Up.trans ?_ (by with_reducible assumption)))
end Go.Proofs.YtekogcjdaolcbaaGreatDoor

/- Walks of the program's NewWriter, WriteData, CloseWriter, LongestWord. Conditions: the writer's pairs can be read; its texts are no longer than 2^20 bytes. -/
namespace Go.Proofs.YtekogcjdaolcbaaGreatDoor
open Go Go.RowKit
def WrW (w : World) (b : Nat) (x : WrD) (v : Value) : World := (((KnW w b x.k v).setCell ⟨b, 6, none⟩ (.string (bs x.pend))).setCell ⟨b, 7, none⟩ (.string (bs x.bits))).setCell ⟨b, 8, none⟩ (.bool x.beg)
theorem WrAt.store {b : Nat} {x0 : WrD} {v0 : Value} {w : World} (h : WrAt b x0 v0 w) (x : WrD) (v : Value) : WrAt b x v (WrW w b x v) := by
  unfold WrAt at *
  unfold WrW KnW
  have := box_set (box_set (box_set (box_set (box_set (box_set (box_set (box_set (box_set h 0 (.int .i64 x.k.set.ord)) 1 (.int .i64 x.k.set.lit)) 2 (.int .i64 x.k.set.most)) 3 v) 4 (.int .i64 x.k.base)) 5 (.int .i64 x.k.last)) 6 (.string (bs x.pend))) 7 (.string (bs x.bits))) 8 (.bool x.beg)
  simpa using this
theorem WrW.up {a w : World} (h : Up a w) {b : Nat} (hb : a.heap.size ≤ b) (x : WrD) (v : Value) : Up a (WrW w b x v) := by
  unfold WrW
  exact (((KnW.up h hb x.k v).set (p := ⟨b, 6, none⟩) hb _).set (p := ⟨b, 7, none⟩) hb _).set (p := ⟨b, 8, none⟩) hb _
theorem WrW.own {w : World} {base : Nat} {e : TypeId} {size n : Nat} {v : Value} {xs : List Value} (h : w.ownsRow base e size v n xs) {b : Nat} (hb : some b ≠ v.ownBlock) (x : WrD) (u : Value) : (WrW w b x u).ownsRow base e size v n xs := by
  unfold WrW
  exact ownsRow_setb (ownsRow_setb (ownsRow_setb (KnW.own h hb x.k u) hb 6 _) hb 7 _) hb 8 _
theorem WrW.other {w : World} {b b' : Nat} (hb : b' ≠ b) (x : WrD) (v : Value) : (WrW w b x v).heap[b']? = w.heap[b']? := by
  unfold WrW
  exact (Below.heap_setCell _ _ _ _ hb).trans ((Below.heap_setCell _ _ _ _ hb).trans ((Below.heap_setCell _ _ _ _ hb).trans (KnW.other hb x.k v)))
def wr0 : WrD := ⟨⟨⟨0, 0, 0⟩, [], 0, 0⟩, [], [], false⟩
theorem WrAt.zero {w : World} {b : Nat} (h : w.heap[b]? = some (.cells #[.int .i64 0, .int .i64 0, .int .i64 0, .slice none 0 0, .int .i64 0, .int .i64 0, .string ⟨#[]⟩, .string ⟨#[]⟩, .bool false] 29)) : WrAt b wr0 (.slice none 0 0) w := h
def NwPost (k : KnD) (w : World) (e : Ending) (w' : World) : Prop :=
  if validK k then ∃ v, e = .returned (.tuple #[wrV ⟨k, [], [], false⟩ v, .bool true]) ∧ ownPr w' w.heap.size v k.ps ∧ Up w w' else e = .returned (.tuple #[noWr, .bool false]) ∧ Up w w'
theorem alloc3 (w : World) (A B C : Obj) : (((w.alloc A).alloc B).alloc C).heap[w.heap.size + 1]? = some B := box_up ((Up.refl _).alloc _) (alloc2 w A B)
theorem wdP_none {w w' : World} {e : Ending} (he : e = .returned (.tuple #[noWr, .string ⟨#[]⟩, .bool false])) (hu : Up w w') : WdPost none w e w' := ⟨he, hu⟩
theorem wr_first (x : WrD) (v : Value) (w : World) (B C : Obj) : WrAt w.heap.size x v (((w.alloc (.cells #[.int .i64 x.k.set.ord, .int .i64 x.k.set.lit, .int .i64 x.k.set.most, v, .int .i64 x.k.base, .int .i64 x.k.last, .string (bs x.pend), .string (bs x.bits), .bool x.beg] 29)).alloc B).alloc C) := box_up (((Up.refl _).alloc _).alloc _) (MapKept.heap_alloc w _).1
end Go.Proofs.YtekogcjdaolcbaaGreatDoor

/- Walks of the reference's l9OwnKnown, l3Copy, l9OwnWriter, BitsValid, WriterValid, NewWriter. Conditions: the pairs can be read. -/
namespace Go.Proofs.YtekogcjdaolcbaaGreatDoor
open Go Go.RowKit
theorem wpList_copyE {ops : Array Oper} {rest : List Oper} {o : Oper} {a : Act} {w : World} {Q : Exit → Act → World → Prop} (hgd : o.guard = none) (s x : Operand)
    (ho : o.op = .call { callee := .builtin .append, args := #[s, x], argTypes := #[25, 25] }) (base lo : Nat) {vs vx : Value} (hs : a.eval s = vs) (hx : a.eval x = vx) {g : Nat} (hvs : vs = .slice (some ⟨g, 0, none⟩) 0 0) (hown : w.ownsRow base 133 2 vs 0 []) (ps : List PairD) (hr : RdP lo w vx ps) (hl : ps.length ≤ 1048576) (hbase : base ≤ w.heap.size)
    (h : ∀ v' w', ownPr w' base v' ps → Up w w' → wpList Tryz.prog ops Q rest (a.put o.dst v') w') : wpList Tryz.prog ops Q (o :: rest) a w :=
  wpList_plain hgd fun _ hK => (gAt_up (upAt_copy s x ho base lo hs hx hvs hown ps hr hl hbase)).wp (fun v' w' hu hD => hK _ _ (h v' w' hD hu))
theorem own_empty2 (w : World) (A B : Obj) : (((w.alloc A).alloc B).alloc (.cells #[] 133)).ownsRow (w.heap.size + 2) 133 2 (.slice (some ⟨w.heap.size + 1 + 1, 0, none⟩) 0 0) 0 [] := by
  have h := World.ownsRow_made (base := w.heap.size + 2) (e := 133) (size := 2) ((w.alloc A).alloc B) #[] 0 (by simp) (by unfold maxLen; omega) (by simp)
  simpa using h
theorem own_empty3 (w : World) (A B C : Obj) : ((((w.alloc A).alloc B).alloc C).alloc (.cells #[] 133)).ownsRow (w.heap.size + 3) 133 2 (.slice (some ⟨w.heap.size + 1 + 1 + 1, 0, none⟩) 0 0) 0 [] := by
  have h := World.ownsRow_made (base := w.heap.size + 3) (e := 133) (size := 2) (((w.alloc A).alloc B).alloc C) #[] 0 (by simp) (by unfold maxLen; omega) (by simp)
  simpa using h
set_option maxRecDepth 100000 in
set_option maxHeartbeats 4000000 in
theorem ownKS_any (k : KnD) (v : Value) (lo : Nat) (w : World) (hr : RdP lo w v k.ps) (hl : k.ps.length ≤ 1048576) :
    Calls Tryz.prog 99  #[kV k v] w (KnPost k w) := by
  have hrt := fun (wq : World) (hu : Up w wq) => hr.up hu
  obtain ⟨a, cap, rfl, -, -, -, -⟩ := hr
  simp only [kV]
  have hn2 : w.heap.size + 2 ≤ ((w.alloc (.cells #[.int .i64 k.set.ord, .int .i64 k.set.lit, .int .i64 k.set.most, .slice a k.ps.length cap, .int .i64 k.base, .int .i64 k.last] 27)).alloc (.cells #[.int .i64 0, .int .i64 0, .int .i64 0, .slice none 0 0, .int .i64 0, .int .i64 0] 27)).heap.size := by simp
  go_enter Tryz.func99, Tryz.ntmps99
  go_wp2_with (at_builtin; refine wpList_copyE rfl _ _ rfl (w.heap.size + 2) lo rfl rfl rfl (own_empty2 w _ _) k.ps (hrt _ (by (repeat (first | with_reducible exact Up.refl _ | with_reducible assumption | with_reducible refine Up.set ?_ (by first | exact Nat.le_refl _ | (simp only []; omega) | (simp; omega)) _ | with_reducible refine Up.alloc ?_ _ | with_reducible refine Up.drew ?_ | refine Up.trans ?_ (by with_reducible assumption))))) hl (by simp) ?_; rintro v2 w2 hv2 hU2; obtain ⟨a2, c2, rfl⟩ := ownsRow_shape hv2; obtain ⟨hb0, r0, r1, r2, r3, r4, r5⟩ := KnAt.cells (b := w.heap.size) (k := k) (v := .slice a k.ps.length cap) (box_up hU2 (box_up (((Up.refl _).alloc _).alloc _) (MapKept.heap_alloc w _).1)); have hf0 := box_free (box_up hU2 (box_up (((Up.refl _).alloc _).alloc _) (MapKept.heap_alloc w _).1)); obtain ⟨hb1, q0, q1, q2, q3, q4, q5⟩ := KnAt.cells (b := w.heap.size + 1) (k := ⟨⟨0, 0, 0⟩, [], 0, 0⟩) (v := .slice none 0 0) (box_up hU2 (alloc3 w _ _ _)); have hf1 := box_free (box_up hU2 (alloc3 w _ _ _)); have HV := Lib.hid hv2; clear hv2)
  refine bodyPost_ret (v := kV k (.slice a2 k.ps.length c2)) (by simp [results, Tryz.results99, go_sem, q0, q1, q2, q3, q4, q5]) rfl ⟨_, rfl, ?_, ?_⟩
  · refine ownsRow_base (base := w.heap.size + 2) ?_ (by omega)
    repeat (with_reducible refine ownsRow_setne ?_ (by omega) _ _)
    exact HV.out
  · (repeat (first | with_reducible exact Up.refl _ | with_reducible assumption | with_reducible refine Up.set ?_ (by first | exact Nat.le_refl _ | (simp only []; omega) | (simp; omega)) _ | with_reducible refine Up.alloc ?_ _ | with_reducible refine Up.drew ?_ | refine Up.trans ?_ (by with_reducible assumption)))
theorem alloc3c (w : World) (A B C : Obj) : (((w.alloc A).alloc B).alloc C).heap[w.heap.size + 1 + 1]? = some C := by
  have h := (MapKept.heap_alloc ((w.alloc A).alloc B) C).1
  rw [size_alloc, size_alloc] at h
  exact h
set_option maxRecDepth 100000 in
set_option maxHeartbeats 4000000 in
theorem copyS_any (k : KnD) (v : Value) (lo : Nat) (w : World) (hr : RdP lo w v k.ps) (hl : k.ps.length ≤ 1048576) :
    Calls Tryz.prog 45  #[kV k v] w (KnPost k w) := by
  have hrt := fun (wq : World) (hu : Up w wq) => hr.up hu
  obtain ⟨a, cap, rfl, -, -, -, -⟩ := hr
  simp only [kV]
  have hn2 : w.heap.size + 2 ≤ ((w.alloc (.cells #[.int .i64 k.set.ord, .int .i64 k.set.lit, .int .i64 k.set.most, .slice a k.ps.length cap, .int .i64 k.base, .int .i64 k.last] 27)).alloc (.cells #[.int .i64 0, .int .i64 0, .int .i64 0, .slice none 0 0, .int .i64 0, .int .i64 0] 27)).heap.size := by simp
  go_enter Tryz.func45, Tryz.ntmps45
  go_wp2_with (at_builtin; refine wpList_copyE rfl _ _ rfl (w.heap.size + 3) lo rfl rfl rfl (own_empty3 w _ _ _) k.ps (hrt _ (by (repeat (first | with_reducible exact Up.refl _ | with_reducible assumption | with_reducible refine Up.set ?_ (by first | exact Nat.le_refl _ | (simp only []; omega) | (simp; omega)) _ | with_reducible refine Up.alloc ?_ _ | with_reducible refine Up.drew ?_ | refine Up.trans ?_ (by with_reducible assumption))))) hl (by simp) ?_; rintro v2 w2 hv2 hU2; obtain ⟨a2, c2, rfl⟩ := ownsRow_shape hv2; obtain ⟨hb1, q0, q1, q2, q3, q4, q5⟩ := KnAt.cells (b := w.heap.size + 1) (k := ⟨⟨0, 0, 0⟩, [], 0, 0⟩) (v := .slice none 0 0) (box_up hU2 (box_up ((Up.refl _).alloc _) (alloc3 w _ _ _))); have hf1 := box_free (box_up hU2 (box_up ((Up.refl _).alloc _) (alloc3 w _ _ _))); obtain ⟨hb2, s0, s1, s2, s3, s4, s5⟩ := KnAt.cells (b := w.heap.size + 1 + 1) (k := k) (v := .slice a k.ps.length cap) (box_up hU2 (box_up ((Up.refl _).alloc _) (alloc3c w _ _ _))); have hf2 := box_free (box_up hU2 (box_up ((Up.refl _).alloc _) (alloc3c w _ _ _))); have HV := Lib.hid hv2; clear hv2)
  refine bodyPost_ret (v := kV k (.slice a2 k.ps.length c2)) (by simp [results, Tryz.results45, go_sem, q0, q1, q2, q3, q4, q5]) rfl ⟨_, rfl, ?_, ?_⟩
  · refine ownsRow_base (base := w.heap.size + 3) ?_ (by omega)
    repeat (with_reducible refine ownsRow_setne ?_ (by omega) _ _)
    exact HV.out
  · (repeat (first | with_reducible exact Up.refl _ | with_reducible assumption | with_reducible refine Up.set ?_ (by first | exact Nat.le_refl _ | (simp only []; omega) | (simp; omega)) _ | with_reducible refine Up.alloc ?_ _ | with_reducible refine Up.drew ?_ | refine Up.trans ?_ (by with_reducible assumption)))
def WoPost (x : WrD) (w : World) (e : Ending) (w' : World) : Prop := ∃ v, e = .returned (wrV x v) ∧ ownPr w' w.heap.size v x.k.ps ∧ Up w w'
set_option maxRecDepth 100000 in
set_option maxHeartbeats 4000000 in
theorem ownWS_any (x : WrD) (v : Value) (lo : Nat) (w : World) (hr : RdP lo w v x.k.ps) (hl : x.k.ps.length ≤ 1048576) :
    Calls Tryz.prog 42  #[wrV x v] w (WoPost x w) := by
  have hrt := fun (wq : World) (hu : Up w wq) => hr.up hu
  have cO := fun wq hr => ownKS_any x.k v lo wq hr hl
  obtain ⟨a, cap, rfl, -, -, -, -⟩ := hr
  unfold wrV
  simp only [kV] at *
  go_enter Tryz.func42, Tryz.ntmps42
  go_wp2_with (first | (go_at_call 99; (with_reducible refine (cO _ (hrt _ (by (repeat (first | with_reducible exact Up.refl _ | with_reducible assumption | with_reducible refine Up.set ?_ (by first | exact Nat.le_refl _ | (simp only []; omega) | (simp; omega)) _ | with_reducible refine Up.alloc ?_ _ | with_reducible refine Up.drew ?_ | refine Up.trans ?_ (by with_reducible assumption)))))).mono ?_); rintro e w2 ⟨v2, rfl, ho2, U2⟩; obtain ⟨a2, c2, rfl⟩ := ownsRow_shape ho2; simp only [kV]; obtain ⟨hbz, q0, q1, q2, q3, q4, q5, q6, q7, q8⟩ := WrAt.cells (WrAt.zero (box_up U2 (alloc2 w _ _))); simp only [wr0] at q0 q1 q2 q3 q4 q5 q6 q7 q8; have hfz := box_free (box_up U2 (alloc2 w _ _)); have hx2 : WrAt w.heap.size x (.slice a x.k.ps.length cap) w2 := box_up U2 (box_up ((Up.refl _).alloc _) (MapKept.heap_alloc w _).1); obtain ⟨hbx, r0, r1, r2, r3, r4, r5, r6, r7, r8⟩ := WrAt.cells hx2; have hfx := box_free hx2; have HO := Lib.hid ho2; have HU := Lib.hid (show Up w w2 by (repeat (first | with_reducible exact Up.refl _ | with_reducible assumption | with_reducible refine Up.set ?_ (by first | exact Nat.le_refl _ | (simp only []; omega) | (simp; omega)) _ | with_reducible refine Up.alloc ?_ _ | with_reducible refine Up.drew ?_ | refine Up.trans ?_ (by with_reducible assumption)))); clear ho2 hx2) | fail)
  refine bodyPost_ret (v := wrV x (.slice a2 x.k.ps.length c2)) (by simp [results, Tryz.results42, go_sem, q0, q1, q2, q3, q4, q5, q6, q7, q8]; rfl) rfl ⟨_, rfl, ?_, ?_⟩
  · have ho := ownsRow_base (base' := w.heap.size + 2) HO.out (by simp)
    refine ownsRow_base (base := w.heap.size + 2) ?_ (by omega)
    repeat (with_reducible refine ownsRow_setne ?_ (by omega) _ _)
    exact ho
  · exact WrW.up (KnW.up HU.out (Nat.le_refl _) x.k _) (Nat.le_succ _) x _
set_option maxRecDepth 100000 in
set_option maxHeartbeats 1000000 in
theorem bvS_any (s : ByteArray) (w : World) (hs : s.size ≤ 1073741824) :
    Calls Tryz.prog 101  #[.string s] w (fun e w' => e = .returned (.bool (bvB s.data.toList)) ∧ w = w') := by
  have hlen := ba_len s
  go_enter Tryz.func101, Tryz.ntmps101
  go_wp2
  go_loopw [3] (fun i wr => RelBg s i w wr) (fun i _ => s.size - (intOf i).toNat)
  case atStart => exact ⟨0, rfl, Nat.zero_le _, fun q _ h => absurd h (Nat.not_lt_zero _), rfl⟩
  case round =>
    obtain ⟨j, rfl, hj, hall, rfl⟩ := hrel
    have HA := Lib.hid hall
    clear hall
    by_cases hlt : j < s.size
    · have HN : Hid ((s[j].toNat = 48 ∨ s[j].toNat = 49) → ∀ q (hq : q < s.size), q < j + 1 → s[q].toNat = 48 ∨ s[q].toNat = 49) := fun h q hq hqj => by
        rcases Nat.lt_or_ge q j with h' | h'
        · exact HA.out q hq h'
        · have : q = j := by omega
          subst this; exact h
      by_cases h1 : s[j].toNat = 48
      · have HN' := Lib.hid (HN.out (.inl h1))
        clear HN HA
        go_wp2
        go_roundw
        case rel => exact ⟨j + 1, by go_num, by omega, HN'.out, rfl⟩
        case measure => simp [intOf]; omega
      · by_cases h2 : s[j].toNat = 49
        · have HN' := Lib.hid (HN.out (.inr h2))
          clear HN HA
          go_wp2
          go_roundw
          case rel => exact ⟨j + 1, by go_num, by omega, HN'.out, rfl⟩
          case measure => simp [intOf]; omega
        · have HB : Hid (bitsB s.data.toList = false) := bitsB_no hlt (fun h => h.elim h1 h2)
          have HV : Hid (bvB s.data.toList = false) := by unfold Hid bvB; rw [HB.out, Bool.and_false]
          have hb1 : ((s[j].toNat : Int) != 48) = true := by simp; omega
          have hb2 : ((s[j].toNat : Int) != 49) = true := by simp; omega
          clear HN HA
          go_wp2
          go_ret
          exact ⟨ret_bool HV.out.symm, rfl⟩
    · have HB : Hid (bitsB s.data.toList = true) := bitsB_yes fun q hq => HA.out q hq (by omega)
      have HV : Hid (bvB s.data.toList = decide ((s.size : Int) ≤ 32000)) := by
        unfold Hid bvB
        rw [HB.out, hlen, Bool.and_true]
        by_cases h4 : s.size ≤ 32000
        · rw [decide_eq_true h4, decide_eq_true (by omega)]
        · rw [decide_eq_false h4, decide_eq_false (by omega)]
      go_wp2
      go_ret
      exact ⟨ret_bool HV.out.symm, rfl⟩
set_option maxRecDepth 100000 in
set_option maxHeartbeats 8000000 in
theorem wvS_any (x : WrD) (v : Value) (lo : Nat) (w : World) (hr : RdP lo w v x.k.ps) (hps : x.k.ps.length ≤ 1073741824) (hp : x.pend.length ≤ 1073741824) (hb : x.bits.length ≤ 1073741824) :
    Calls Tryz.prog 43  #[wrV x v] w (Same (.bool (wrvB x)) w) := by
  have cV := fun wq hr => kvS_gen x.k v lo wq hr hps
  have hrt := fun (wq : World) (hu : Up w wq) => hr.up hu
  have hsp := bs_size x.pend
  have hsb := bs_size x.bits
  have cF := fun wq => fitsS_any x.k.set (bs x.pend) wq (by omega)
  have cB := fun wq => bvS_any (bs x.bits) wq (by omega)
  rw [bs_data] at cF cB
  obtain ⟨a, cap, rfl, -, -, -, -⟩ := id hr
  unfold wrV
  cases h1 : validK x.k
  · rw [wrvB_k h1]
    rw [h1] at cV
    clear h1 hr
    simp only [kV] at *
    go_enter Tryz.func43, Tryz.ntmps43
    go_wp2_with (first | (go_at_call 100; (with_reducible refine (cV _ (hrt _ (by (repeat (first | with_reducible exact Up.refl _ | with_reducible assumption | with_reducible refine Up.set ?_ (by first | exact Nat.le_refl _ | (simp only []; omega) | (simp; omega)) _ | with_reducible refine Up.alloc ?_ _ | with_reducible refine Up.drew ?_ | refine Up.trans ?_ (by with_reducible assumption)))))).mono ?_); rintro e w1 ⟨rfl, U1⟩; have B1 := bcell U1; have Z1 := U1.size; (try simp at Z1); (try rw [Nat.add_one_le_iff] at Z1)) | (go_at_call 44; (with_reducible refine (cF _).mono ?_); rintro e w2 ⟨rfl, U2⟩; have B2 := bcell U2; have Z2 := U2.size; (try simp at Z2); (try rw [Nat.add_one_le_iff] at Z2)) | (go_at_call 101; (with_reducible refine (cB _).mono ?_); rintro e w' ⟨rfl, rfl⟩) | fail)
    go_ret
    refine ⟨rfl, ?_⟩
    (repeat (first | with_reducible exact Up.refl _ | with_reducible assumption | with_reducible refine Up.set ?_ (by first | exact Nat.le_refl _ | (simp only []; omega) | (simp; omega)) _ | with_reducible refine Up.alloc ?_ _ | with_reducible refine Up.drew ?_ | refine Up.trans ?_ (by with_reducible assumption)))
  rw [h1] at cV
  cases h2 : fitsB x.k.set x.pend
  · rw [wrvB_f h2]
    rw [h2] at cF
    clear h1 h2 hr
    simp only [kV, setV] at *
    go_enter Tryz.func43, Tryz.ntmps43
    go_wp2_with (first | (go_at_call 100; (with_reducible refine (cV _ (hrt _ (by (repeat (first | with_reducible exact Up.refl _ | with_reducible assumption | with_reducible refine Up.set ?_ (by first | exact Nat.le_refl _ | (simp only []; omega) | (simp; omega)) _ | with_reducible refine Up.alloc ?_ _ | with_reducible refine Up.drew ?_ | refine Up.trans ?_ (by with_reducible assumption)))))).mono ?_); rintro e w1 ⟨rfl, U1⟩; have B1 := bcell U1; have Z1 := U1.size; (try simp at Z1); (try rw [Nat.add_one_le_iff] at Z1)) | (go_at_call 44; (with_reducible refine (cF _).mono ?_); rintro e w2 ⟨rfl, U2⟩; have B2 := bcell U2; have Z2 := U2.size; (try simp at Z2); (try rw [Nat.add_one_le_iff] at Z2)) | (go_at_call 101; (with_reducible refine (cB _).mono ?_); rintro e w' ⟨rfl, rfl⟩) | fail)
    go_ret
    refine ⟨rfl, ?_⟩
    (repeat (first | with_reducible exact Up.refl _ | with_reducible assumption | with_reducible refine Up.set ?_ (by first | exact Nat.le_refl _ | (simp only []; omega) | (simp; omega)) _ | with_reducible refine Up.alloc ?_ _ | with_reducible refine Up.drew ?_ | refine Up.trans ?_ (by with_reducible assumption)))
  rw [h2] at cF
  cases h3 : bvB x.bits
  · rw [wrvB_b h3]
    rw [h3] at cB
    clear h1 h2 h3 hr
    simp only [kV, setV] at *
    go_enter Tryz.func43, Tryz.ntmps43
    go_wp2_with (first | (go_at_call 100; (with_reducible refine (cV _ (hrt _ (by (repeat (first | with_reducible exact Up.refl _ | with_reducible assumption | with_reducible refine Up.set ?_ (by first | exact Nat.le_refl _ | (simp only []; omega) | (simp; omega)) _ | with_reducible refine Up.alloc ?_ _ | with_reducible refine Up.drew ?_ | refine Up.trans ?_ (by with_reducible assumption)))))).mono ?_); rintro e w1 ⟨rfl, U1⟩; have B1 := bcell U1; have Z1 := U1.size; (try simp at Z1); (try rw [Nat.add_one_le_iff] at Z1)) | (go_at_call 44; (with_reducible refine (cF _).mono ?_); rintro e w2 ⟨rfl, U2⟩; have B2 := bcell U2; have Z2 := U2.size; (try simp at Z2); (try rw [Nat.add_one_le_iff] at Z2)) | (go_at_call 101; (with_reducible refine (cB _).mono ?_); rintro e w' ⟨rfl, rfl⟩) | fail)
    go_ret
    refine ⟨rfl, ?_⟩
    (repeat (first | with_reducible exact Up.refl _ | with_reducible assumption | with_reducible refine Up.set ?_ (by first | exact Nat.le_refl _ | (simp only []; omega) | (simp; omega)) _ | with_reducible refine Up.alloc ?_ _ | with_reducible refine Up.drew ?_ | refine Up.trans ?_ (by with_reducible assumption)))
  rw [h3] at cB
  by_cases h4 : x.bits.length ≤ 7
  case neg =>
    rw [wrvB_7 h4]
    clear h1 h2 h3 hr
    have h4' : ((x.bits.length : Nat) : Int) > 7 := by omega
    simp only [kV, setV] at *
    go_enter Tryz.func43, Tryz.ntmps43
    go_wp2_with (first | (go_at_call 100; (with_reducible refine (cV _ (hrt _ (by (repeat (first | with_reducible exact Up.refl _ | with_reducible assumption | with_reducible refine Up.set ?_ (by first | exact Nat.le_refl _ | (simp only []; omega) | (simp; omega)) _ | with_reducible refine Up.alloc ?_ _ | with_reducible refine Up.drew ?_ | refine Up.trans ?_ (by with_reducible assumption)))))).mono ?_); rintro e w1 ⟨rfl, U1⟩; have B1 := bcell U1; have Z1 := U1.size; (try simp at Z1); (try rw [Nat.add_one_le_iff] at Z1)) | (go_at_call 44; (with_reducible refine (cF _).mono ?_); rintro e w2 ⟨rfl, U2⟩; have B2 := bcell U2; have Z2 := U2.size; (try simp at Z2); (try rw [Nat.add_one_le_iff] at Z2)) | (go_at_call 101; (with_reducible refine (cB _).mono ?_); rintro e w' ⟨rfl, rfl⟩) | fail)
    go_ret
    refine ⟨rfl, ?_⟩
    (repeat (first | with_reducible exact Up.refl _ | with_reducible assumption | with_reducible refine Up.set ?_ (by first | exact Nat.le_refl _ | (simp only []; omega) | (simp; omega)) _ | with_reducible refine Up.alloc ?_ _ | with_reducible refine Up.drew ?_ | refine Up.trans ?_ (by with_reducible assumption)))
  case pos =>
    have h4' : ¬ ((x.bits.length : Nat) : Int) > 7 := by omega
    rw [wrvB_all h1 h2 h3 h4]
    obtain ⟨hk, hv⟩ := ok_of_valid h1
    obtain ⟨f1, f2, f3⟩ := fitsB_lits h2
    obtain ⟨k, pend, bits, beg⟩ := x
    dsimp only at *
    by_cases hpe : pend = []
    · subst hpe
      simp only [show bs ([] : List UInt8) = (⟨#[]⟩ : ByteArray) from rfl] at *
      by_cases hbe : bits = []
      · subst hbe
        simp only [show bs ([] : List UInt8) = (⟨#[]⟩ : ByteArray) from rfl] at *
        cases beg
        all_goals
          rw [show wrsB (⟨k, [], [], _⟩ : WrD) = true from rfl]
          clear h1 h2 h3 hr hk hv f3
          simp only [kV, setV] at *
          go_enter Tryz.func43, Tryz.ntmps43
          go_wp2_with (first | (go_at_call 100; (with_reducible refine (cV _ (hrt _ (by (repeat (first | with_reducible exact Up.refl _ | with_reducible assumption | with_reducible refine Up.set ?_ (by first | exact Nat.le_refl _ | (simp only []; omega) | (simp; omega)) _ | with_reducible refine Up.alloc ?_ _ | with_reducible refine Up.drew ?_ | refine Up.trans ?_ (by with_reducible assumption)))))).mono ?_); rintro e w1 ⟨rfl, U1⟩; have B1 := bcell U1; have Z1 := U1.size; (try simp at Z1); (try rw [Nat.add_one_le_iff] at Z1)) | (go_at_call 44; (with_reducible refine (cF _).mono ?_); rintro e w2 ⟨rfl, U2⟩; have B2 := bcell U2; have Z2 := U2.size; (try simp at Z2); (try rw [Nat.add_one_le_iff] at Z2)) | (go_at_call 101; (with_reducible refine (cB _).mono ?_); rintro e w' ⟨rfl, rfl⟩) | fail)
          go_ret
          refine ⟨rfl, ?_⟩
          (repeat (first | with_reducible exact Up.refl _ | with_reducible assumption | with_reducible refine Up.set ?_ (by first | exact Nat.le_refl _ | (simp only []; omega) | (simp; omega)) _ | with_reducible refine Up.alloc ?_ _ | with_reducible refine Up.drew ?_ | refine Up.trans ?_ (by with_reducible assumption)))
      · have HBE := isEmpty_bs hbe
        cases beg
        · have HW : Hid (wrsB (⟨k, [], bits, false⟩ : WrD) = false) := by unfold Hid wrsB; simp [hbe]
          rw [HW.out]
          clear h1 h2 h3 hr hk hv f3 hbe
          simp only [kV, setV] at *
          go_enter Tryz.func43, Tryz.ntmps43
          go_wp2_with (first | (go_at_call 100; (with_reducible refine (cV _ (hrt _ (by (repeat (first | with_reducible exact Up.refl _ | with_reducible assumption | with_reducible refine Up.set ?_ (by first | exact Nat.le_refl _ | (simp only []; omega) | (simp; omega)) _ | with_reducible refine Up.alloc ?_ _ | with_reducible refine Up.drew ?_ | refine Up.trans ?_ (by with_reducible assumption)))))).mono ?_); rintro e w1 ⟨rfl, U1⟩; have B1 := bcell U1; have Z1 := U1.size; (try simp at Z1); (try rw [Nat.add_one_le_iff] at Z1)) | (go_at_call 44; (with_reducible refine (cF _).mono ?_); rintro e w2 ⟨rfl, U2⟩; have B2 := bcell U2; have Z2 := U2.size; (try simp at Z2); (try rw [Nat.add_one_le_iff] at Z2)) | (go_at_call 101; (with_reducible refine (cB _).mono ?_); rintro e w' ⟨rfl, rfl⟩) | fail)
          go_ret
          refine ⟨rfl, ?_⟩
          (repeat (first | with_reducible exact Up.refl _ | with_reducible assumption | with_reducible refine Up.set ?_ (by first | exact Nat.le_refl _ | (simp only []; omega) | (simp; omega)) _ | with_reducible refine Up.alloc ?_ _ | with_reducible refine Up.drew ?_ | refine Up.trans ?_ (by with_reducible assumption)))
        · have HW : Hid (wrsB (⟨k, [], bits, true⟩ : WrD) = true) := by unfold Hid wrsB; simp
          rw [HW.out]
          clear h1 h2 h3 hr hk hv f3 hbe
          simp only [kV, setV] at *
          go_enter Tryz.func43, Tryz.ntmps43
          go_wp2_with (first | (go_at_call 100; (with_reducible refine (cV _ (hrt _ (by (repeat (first | with_reducible exact Up.refl _ | with_reducible assumption | with_reducible refine Up.set ?_ (by first | exact Nat.le_refl _ | (simp only []; omega) | (simp; omega)) _ | with_reducible refine Up.alloc ?_ _ | with_reducible refine Up.drew ?_ | refine Up.trans ?_ (by with_reducible assumption)))))).mono ?_); rintro e w1 ⟨rfl, U1⟩; have B1 := bcell U1; have Z1 := U1.size; (try simp at Z1); (try rw [Nat.add_one_le_iff] at Z1)) | (go_at_call 44; (with_reducible refine (cF _).mono ?_); rintro e w2 ⟨rfl, U2⟩; have B2 := bcell U2; have Z2 := U2.size; (try simp at Z2); (try rw [Nat.add_one_le_iff] at Z2)) | (go_at_call 101; (with_reducible refine (cB _).mono ?_); rintro e w' ⟨rfl, rfl⟩) | fail)
          go_ret
          refine ⟨rfl, ?_⟩
          (repeat (first | with_reducible exact Up.refl _ | with_reducible assumption | with_reducible refine Up.set ?_ (by first | exact Nat.le_refl _ | (simp only []; omega) | (simp; omega)) _ | with_reducible refine Up.alloc ?_ _ | with_reducible refine Up.drew ?_ | refine Up.trans ?_ (by with_reducible assumption)))
    · have HPE := isEmpty_bs hpe
      have hpos := List.length_pos_iff.2 hpe
      cases beg
      · have HW : Hid (wrsB (⟨k, pend, bits, false⟩ : WrD) = false) := by unfold Hid wrsB; simp [hpe]
        rw [HW.out]
        clear h1 h2 h3 hr hk hv f3 hpe
        simp only [kV, setV] at *
        go_enter Tryz.func43, Tryz.ntmps43
        go_wp2_with (first | (go_at_call 100; (with_reducible refine (cV _ (hrt _ (by (repeat (first | with_reducible exact Up.refl _ | with_reducible assumption | with_reducible refine Up.set ?_ (by first | exact Nat.le_refl _ | (simp only []; omega) | (simp; omega)) _ | with_reducible refine Up.alloc ?_ _ | with_reducible refine Up.drew ?_ | refine Up.trans ?_ (by with_reducible assumption)))))).mono ?_); rintro e w1 ⟨rfl, U1⟩; have B1 := bcell U1; have Z1 := U1.size; (try simp at Z1); (try rw [Nat.add_one_le_iff] at Z1)) | (go_at_call 44; (with_reducible refine (cF _).mono ?_); rintro e w2 ⟨rfl, U2⟩; have B2 := bcell U2; have Z2 := U2.size; (try simp at Z2); (try rw [Nat.add_one_le_iff] at Z2)) | (go_at_call 101; (with_reducible refine (cB _).mono ?_); rintro e w' ⟨rfl, rfl⟩) | fail)
        go_ret
        refine ⟨rfl, ?_⟩
        (repeat (first | with_reducible exact Up.refl _ | with_reducible assumption | with_reducible refine Up.set ?_ (by first | exact Nat.le_refl _ | (simp only []; omega) | (simp; omega)) _ | with_reducible refine Up.alloc ?_ _ | with_reducible refine Up.drew ?_ | refine Up.trans ?_ (by with_reducible assumption)))
      · have cC := fun wq hr => l2Find_any k (.slice a k.ps.length cap) lo (bs pend) wq hk hr (by omega)
        rw [bs_data] at cC
        have HW : Hid (wrsB (⟨k, pend, bits, true⟩ : WrD) = decide (k.find pend ≥ 0)) := by
          unfold Hid wrsB
          have : (k.longest pend = pend) ↔ k.find pend ≥ 0 := ⟨KnD.word_find hk hpe f3, KnD.find_word hpe⟩
          simp [hpe, this]
        rw [HW.out]
        generalize k.find pend = cd at *
        clear h1 h2 h3 hr hk hv f3 hpe HW
        simp only [kV, setV] at *
        go_enter Tryz.func43, Tryz.ntmps43
        go_wp2_with (first | (go_at_call 100; (with_reducible refine (cV _ (hrt _ (by (repeat (first | with_reducible exact Up.refl _ | with_reducible assumption | with_reducible refine Up.set ?_ (by first | exact Nat.le_refl _ | (simp only []; omega) | (simp; omega)) _ | with_reducible refine Up.alloc ?_ _ | with_reducible refine Up.drew ?_ | refine Up.trans ?_ (by with_reducible assumption)))))).mono ?_); rintro e w1 ⟨rfl, U1⟩; have B1 := bcell U1; have Z1 := U1.size; (try simp at Z1); (try rw [Nat.add_one_le_iff] at Z1)) | (go_at_call 44; (with_reducible refine (cF _).mono ?_); rintro e w2 ⟨rfl, U2⟩; have B2 := bcell U2; have Z2 := U2.size; (try simp at Z2); (try rw [Nat.add_one_le_iff] at Z2)) | (go_at_call 101; (with_reducible refine (cB _).mono ?_); rintro e w' ⟨rfl, rfl⟩) | (go_at_call 102; (with_reducible refine (cC _ (hrt _ (by (repeat (first | with_reducible exact Up.refl _ | with_reducible assumption | with_reducible refine Up.set ?_ (by first | exact Nat.le_refl _ | (simp only []; omega) | (simp; omega)) _ | with_reducible refine Up.alloc ?_ _ | with_reducible refine Up.drew ?_ | refine Up.trans ?_ (by with_reducible assumption)))))).mono ?_); rintro e w4 ⟨rfl, U4⟩; have B4 := bcell U4; have Z4 := U4.size; (try simp at Z4); (try rw [Nat.add_one_le_iff] at Z4)) | fail)
        go_ret
        refine ⟨rfl, ?_⟩
        (repeat (first | with_reducible exact Up.refl _ | with_reducible assumption | with_reducible refine Up.set ?_ (by first | exact Nat.le_refl _ | (simp only []; omega) | (simp; omega)) _ | with_reducible refine Up.alloc ?_ _ | with_reducible refine Up.drew ?_ | refine Up.trans ?_ (by with_reducible assumption)))
set_option maxRecDepth 100000 in
set_option maxHeartbeats 8000000 in
theorem nwS_any (k : KnD) (v : Value) (lo : Nat) (w : World) (hr : RdP lo w v k.ps) (hps : k.ps.length ≤ 1048576) :
    Calls Tryz.prog 77  #[kV k v] w (NwPost k w) := by
  have cV := fun wq hr => kvS_gen k v lo wq hr (by omega)
  have cY := fun wx hr => copyS_any k v lo wx hr (by omega)
  have hrt := fun (wq : World) (hu : Up w wq) => hr.up hu
  obtain ⟨a, cap, rfl, -, -, -, -⟩ := id hr
  unfold NwPost
  cases h1 : validK k
  · simp only [Bool.false_eq_true, if_false]
    rw [h1] at cV
    clear h1 hr
    simp only [kV] at *
    go_enter Tryz.func77, Tryz.ntmps77
    go_wp2_with (first | ((go_at_call 100; (with_reducible refine (cV _ (hrt _ (by (repeat (first | with_reducible exact Up.refl _ | with_reducible assumption | with_reducible refine Up.set ?_ (by first | exact Nat.le_refl _ | (simp only []; omega) | (simp; omega)) _ | with_reducible refine Up.alloc ?_ _ | with_reducible refine Up.drew ?_ | refine Up.trans ?_ (by with_reducible assumption)))))).mono ?_); rintro e w1 ⟨rfl, U1⟩; have B1 := bcell U1; have Z1 := U1.size; (try simp at Z1); (try rw [Nat.add_one_le_iff] at Z1)); obtain ⟨hbz, q0, q1, q2, q3, q4, q5, q6, q7, q8⟩ := WrAt.cells (WrAt.zero (box_up U1 (alloc2 w _ _))); simp only [wr0] at q0 q1 q2 q3 q4 q5 q6 q7 q8; have hfz := box_free (box_up U1 (alloc2 w _ _))) | fail)
    obtain ⟨hbz, q0, q1, q2, q3, q4, q5, q6, q7, q8⟩ := WrAt.cells (WrAt.zero (box_up U1 (alloc2 w _ _)))
    simp only [wr0] at q0 q1 q2 q3 q4 q5 q6 q7 q8
    refine bodyPost_ret (v := .tuple #[noWr, .bool false]) (by simp [results, Tryz.results77, go_sem, q0, q1, q2, q3, q4, q5, q6, q7, q8]; rfl) rfl ⟨rfl, ?_⟩
    (repeat (first | with_reducible exact Up.refl _ | with_reducible assumption | with_reducible refine Up.set ?_ (by first | exact Nat.le_refl _ | (simp only []; omega) | (simp; omega)) _ | with_reducible refine Up.alloc ?_ _ | with_reducible refine Up.drew ?_ | refine Up.trans ?_ (by with_reducible assumption)))
  · simp only [if_true]
    rw [h1] at cV
    clear h1 hr
    simp only [kV] at *
    go_enter Tryz.func77, Tryz.ntmps77
    go_wp2_with (first | ((go_at_call 100; (with_reducible refine (cV _ (hrt _ (by (repeat (first | with_reducible exact Up.refl _ | with_reducible assumption | with_reducible refine Up.set ?_ (by first | exact Nat.le_refl _ | (simp only []; omega) | (simp; omega)) _ | with_reducible refine Up.alloc ?_ _ | with_reducible refine Up.drew ?_ | refine Up.trans ?_ (by with_reducible assumption)))))).mono ?_); rintro e w1 ⟨rfl, U1⟩; have B1 := bcell U1; have Z1 := U1.size; (try simp at Z1); (try rw [Nat.add_one_le_iff] at Z1))) | (go_at_call 45; (with_reducible refine (cY _ (hrt _ (by (repeat (first | with_reducible exact Up.refl _ | with_reducible assumption | with_reducible refine Up.set ?_ (by first | exact Nat.le_refl _ | (simp only []; omega) | (simp; omega)) _ | with_reducible refine Up.alloc ?_ _ | with_reducible refine Up.drew ?_ | refine Up.trans ?_ (by with_reducible assumption)))))).mono ?_); rintro e w2 ⟨v2, rfl, ho2, U2⟩; obtain ⟨a2, c2, rfl⟩ := ownsRow_shape ho2; simp only [kV]; have HZ := Lib.hid (WrAt.zero (box_up (U1.trans U2) (alloc2 w _ _))); obtain ⟨hbz, q0, q1, q2, q3, q4, q5, q6, q7, q8⟩ := WrAt.cells HZ.out; simp only [wr0] at q0 q1 q2 q3 q4 q5 q6 q7 q8; have hfz := box_free HZ.out; have HO := Lib.hid ho2; have hs1 := U1.size; simp at hs1; have HU := Lib.hid (show Up w w2 by (repeat (first | with_reducible exact Up.refl _ | with_reducible assumption | with_reducible refine Up.set ?_ (by first | exact Nat.le_refl _ | (simp only []; omega) | (simp; omega)) _ | with_reducible refine Up.alloc ?_ _ | with_reducible refine Up.drew ?_ | refine Up.trans ?_ (by with_reducible assumption)))); clear ho2) | fail)
    refine bodyPost_ret (v := .tuple #[wrV ⟨k, [], [], false⟩ (.slice a2 k.ps.length c2), .bool true]) (by simp [results, Tryz.results77, go_sem, q0, q1, q2, q3, q4, q5, q6, q7, q8]; rfl) rfl ⟨_, rfl, ?_, ?_⟩
    · exact WrW.own (b := w.heap.size + 1) (x := ⟨k, [], [], false⟩) (ownsRow_base HO.out (by omega)) (fun e => by have := (HO.out.lt _ e.symm).1; omega) _
    · exact WrW.up HU.out (Nat.le_succ _) ⟨k, [], [], false⟩ (.slice a2 k.ps.length c2)
end Go.Proofs.YtekogcjdaolcbaaGreatDoor

/- Walks of the reference's l3Put, l3Begin, l3Write. Conditions: what is known is valid, the pairs can be read, the code can be written. -/
namespace Go.Proofs.YtekogcjdaolcbaaGreatDoor
open Go Go.RowKit
def PutPost (y : WrD) (ps : List PairD) (v : Value) (w : World) (e : Ending) (w' : World) : Prop := ∃ v', e = .returned (wrV y v') ∧ ((v' = v ∧ y.k.ps = ps) ∨ ownPr w' w.heap.size v' y.k.ps) ∧ Up w w'
def putW (x : WrD) (n : Nat) : WrD := ⟨x.k.thru n, x.pend, x.bits ++ codeL x.k.set.ord n x.k.width, x.beg⟩
theorem wr_second (x : WrD) (v : Value) (w : World) (A B : Obj) : WrAt (w.heap.size + 1 + 1) x v (((w.alloc A).alloc B).alloc (.cells #[.int .i64 x.k.set.ord, .int .i64 x.k.set.lit, .int .i64 x.k.set.most, v, .int .i64 x.k.base, .int .i64 x.k.last, .string (bs x.pend), .string (bs x.bits), .bool x.beg] 29)) := alloc3c w _ _ _
set_option maxRecDepth 100000 in
set_option maxHeartbeats 8000000 in
theorem put_any (x : WrD) (v : Value) (lo : Nat) (n : Nat) (w : World) (hk : x.k.Ok) (hr : RdP lo w v x.k.ps) (hn : n ≤ 1048576) (hb : x.bits.length ≤ 900000) (hf : x.k.puts n) :
    Calls Tryz.prog 107  #[wrV x v, .int .i64 n] w (PutPost (putW x n) x.k.ps v w) := by
  have hrt := fun (wq : World) (hu : Up w wq) => hr.up hu
  have hwd := KnD.width_bd hk
  have cW := fun wq hr => l2Width_any x.k v lo wq hk hr
  have cC := fun wq => l1Code_any x.k.set.ord n x.k.width wq hn (by omega)
  have cE := fun wq => l1End_any x.k.set wq hk.set
  have hcat : bs x.bits ++ bs (codeL x.k.set.ord n x.k.width) = bs (x.bits ++ codeL x.k.set.ord n x.k.width) := bs_app _ _
  have HR := Lib.hid hr
  obtain ⟨a, cap, rfl, -, -, -, -⟩ := id hr
  have HF := Lib.hid hf
  have HK := Lib.hid hk
  have ec : x.k.c = clr x.k.set := rfl
  have hs1 := bs_size x.bits
  have hs2 := bs_size (codeL x.k.set.ord n x.k.width)
  rw [codeL_length] at hs2
  unfold wrV
  simp only [kV] at *
  clear hr hf hk
  go_enter Tryz.func107, Tryz.ntmps107
  go_wp2
  have hX0 := wr_first x (.slice a x.k.ps.length cap) w (.cells #[.int .i64 0, .int .i64 0, .int .i64 0, .slice none 0 0, .int .i64 0, .int .i64 0, .string ⟨#[]⟩, .string ⟨#[]⟩, .bool false] 29) (.cells #[.int .i64 x.k.set.ord, .int .i64 x.k.set.lit, .int .i64 x.k.set.most, .slice a x.k.ps.length cap, .int .i64 x.k.base, .int .i64 x.k.last, .string (bs x.pend), .string (bs x.bits), .bool x.beg] 29)
  have hX1 := WrAt.zero (alloc3 w (.cells #[.int .i64 x.k.set.ord, .int .i64 x.k.set.lit, .int .i64 x.k.set.most, .slice a x.k.ps.length cap, .int .i64 x.k.base, .int .i64 x.k.last, .string (bs x.pend), .string (bs x.bits), .bool x.beg] 29) (.cells #[.int .i64 0, .int .i64 0, .int .i64 0, .slice none 0 0, .int .i64 0, .int .i64 0, .string ⟨#[]⟩, .string ⟨#[]⟩, .bool false] 29) (.cells #[.int .i64 x.k.set.ord, .int .i64 x.k.set.lit, .int .i64 x.k.set.most, .slice a x.k.ps.length cap, .int .i64 x.k.base, .int .i64 x.k.last, .string (bs x.pend), .string (bs x.bits), .bool x.beg] 29))
  have hX2 := wr_second x (.slice a x.k.ps.length cap) w (.cells #[.int .i64 x.k.set.ord, .int .i64 x.k.set.lit, .int .i64 x.k.set.most, .slice a x.k.ps.length cap, .int .i64 x.k.base, .int .i64 x.k.last, .string (bs x.pend), .string (bs x.bits), .bool x.beg] 29) (.cells #[.int .i64 0, .int .i64 0, .int .i64 0, .slice none 0 0, .int .i64 0, .int .i64 0, .string ⟨#[]⟩, .string ⟨#[]⟩, .bool false] 29)
  have hU1 : Up w (((w.alloc (.cells #[.int .i64 x.k.set.ord, .int .i64 x.k.set.lit, .int .i64 x.k.set.most, .slice a x.k.ps.length cap, .int .i64 x.k.base, .int .i64 x.k.last, .string (bs x.pend), .string (bs x.bits), .bool x.beg] 29)).alloc (.cells #[.int .i64 0, .int .i64 0, .int .i64 0, .slice none 0 0, .int .i64 0, .int .i64 0, .string ⟨#[]⟩, .string ⟨#[]⟩, .bool false] 29)).alloc (.cells #[.int .i64 x.k.set.ord, .int .i64 x.k.set.lit, .int .i64 x.k.set.most, .slice a x.k.ps.length cap, .int .i64 x.k.base, .int .i64 x.k.last, .string (bs x.pend), .string (bs x.bits), .bool x.beg] 29)) := by (repeat (first | with_reducible exact Up.refl _ | with_reducible assumption | with_reducible refine Up.set ?_ (by first | exact Nat.le_refl _ | (simp only []; omega) | (simp; omega)) _ | with_reducible refine Up.alloc ?_ _ | with_reducible refine Up.drew ?_ | refine Up.trans ?_ (by with_reducible assumption)))
  have hW3 : w.heap.size + 3 ≤ (((w.alloc (.cells #[.int .i64 x.k.set.ord, .int .i64 x.k.set.lit, .int .i64 x.k.set.most, .slice a x.k.ps.length cap, .int .i64 x.k.base, .int .i64 x.k.last, .string (bs x.pend), .string (bs x.bits), .bool x.beg] 29)).alloc (.cells #[.int .i64 0, .int .i64 0, .int .i64 0, .slice none 0 0, .int .i64 0, .int .i64 0, .string ⟨#[]⟩, .string ⟨#[]⟩, .bool false] 29)).alloc (.cells #[.int .i64 x.k.set.ord, .int .i64 x.k.set.lit, .int .i64 x.k.set.most, .slice a x.k.ps.length cap, .int .i64 x.k.base, .int .i64 x.k.last, .string (bs x.pend), .string (bs x.bits), .bool x.beg] 29)).heap.size := by simp
  generalize (((w.alloc (.cells #[.int .i64 x.k.set.ord, .int .i64 x.k.set.lit, .int .i64 x.k.set.most, .slice a x.k.ps.length cap, .int .i64 x.k.base, .int .i64 x.k.last, .string (bs x.pend), .string (bs x.bits), .bool x.beg] 29)).alloc (.cells #[.int .i64 0, .int .i64 0, .int .i64 0, .slice none 0 0, .int .i64 0, .int .i64 0, .string ⟨#[]⟩, .string ⟨#[]⟩, .bool false] 29)).alloc (.cells #[.int .i64 x.k.set.ord, .int .i64 x.k.set.lit, .int .i64 x.k.set.most, .slice a x.k.ps.length cap, .int .i64 x.k.base, .int .i64 x.k.last, .string (bs x.pend), .string (bs x.bits), .bool x.beg] 29)) = W1 at *
  have HX := Lib.hid (And.intro hX0 (And.intro hX1 (And.intro hX2 hU1)))
  clear hX0 hX1 hX2 hU1
  refine wp_region_up 12 (by kernel_rfl) (by kernel_rfl) ?_
  simp only [List.take, List.drop]
  repeat (refine wpUp_step (fun K hK => ?_); go_simp; (try simp only [↓IntWalk.iteOmega]); first
    | (refine hK _ _ ?_; clear hK K)
    | (apply stepU_c
       · intro wq hwq; (have hbq := bcell hwq; (repeat (first | refine fills_no (by rfl) ?_ | refine fills_yes (by rfl) (fun vq hvq => ?_))); simp only [List.filter_nil, fills]; unfold upAt; (try ((obtain ⟨-, r0, r1, r2, r3, r4, r5, r6, r7, r8⟩ := (HX.out.1.up hwq).cells))); go_simp; (try go_bits); (try simp only [↓IntWalk.iteOmega]); (try (rw [dif_pos (by omega)]; go_simp; try go_bits)); first | exact upOut_value | (apply upOut_call; (go_at_call 151; exact cW _ (hrt _ (HX.out.2.2.2.trans hwq)))) | (apply upOut_eq; (go_at_call 151; exact cW _ (hrt _ (HX.out.2.2.2.trans hwq)))) | (apply upOut_call; (go_at_call 150; exact cC _)) | (apply upOut_eq; (go_at_call 150; exact cC _)))
       go_simp; refine hK _ _ ?_; clear hK K))
  refine wpUp_nil (fun wq hwq => ?_)
  simp only [fills]
  have HQ := Lib.hid (And.intro (HX.out.1.up hwq) (And.intro (HX.out.2.1.up hwq) (And.intro (HX.out.2.2.1.up hwq) (HX.out.2.2.2.trans hwq))))
  have hzq := hwq.size
  clear hwq HX
  obtain ⟨hbx, r0, r1, r2, r3, r4, r5, r6, r7, r8⟩ := HQ.out.1.cells
  obtain ⟨hby, s0, s1, s2, s3, s4, s5, s6, s7, s8⟩ := HQ.out.2.2.1.cells
  have hfy := box_free HQ.out.2.2.1
  obtain ⟨hbz, q0, q1, q2, q3, q4, q5, q6, q7, q8⟩ := HQ.out.2.1.cells
  simp only [wr0] at q0 q1 q2 q3 q4 q5 q6 q7 q8
  have hfz := box_free HQ.out.2.1
  go_wp2_with fail
  have hyput : ∀ y, WrAt (w.heap.size + 1 + 1) ⟨x.k, x.pend, x.bits ++ y, x.beg⟩ (.slice a x.k.ps.length cap) (wq.setCell ⟨w.heap.size + 1 + 1, 7, none⟩ (.string (bs (x.bits ++ y)))) := fun y => by
    have := box_set HQ.out.2.2.1 7 (.string (bs (x.bits ++ y)))
    unfold WrAt
    simpa using this
  have HY := Lib.hid (hyput (codeL x.k.set.ord n x.k.width))
  have HZ : Hid (WrAt (w.heap.size + 1) wr0 (.slice none 0 0) (wq.setCell ⟨w.heap.size + 1 + 1, 7, none⟩ (.string (bs (x.bits ++ codeL x.k.set.ord n x.k.width))))) := (Below.heap_setCell _ _ _ _ (show w.heap.size + 1 ≠ w.heap.size + 1 + 1 by omega)).trans HQ.out.2.1
  have HX : Hid (WrAt w.heap.size x (.slice a x.k.ps.length cap) (wq.setCell ⟨w.heap.size + 1 + 1, 7, none⟩ (.string (bs (x.bits ++ codeL x.k.set.ord n x.k.width))))) := (Below.heap_setCell _ _ _ _ (show w.heap.size ≠ w.heap.size + 1 + 1 by omega)).trans HQ.out.1
  have HUW : Hid (Up w (wq.setCell ⟨w.heap.size + 1 + 1, 7, none⟩ (.string (bs (x.bits ++ codeL x.k.set.ord n x.k.width))))) := HQ.out.2.2.2.set (p := ⟨w.heap.size + 1 + 1, 7, none⟩) (by show w.heap.size ≤ w.heap.size + 1 + 1; omega) _
  have hz9 : wq.heap.size ≤ (wq.setCell ⟨w.heap.size + 1 + 1, 7, none⟩ (.string (bs (x.bits ++ codeL x.k.set.ord n x.k.width)))).heap.size := by simp [World.setCell]
  have hfin : ∀ kk, kk = x.k.thru n → putW x n = ⟨kk, x.pend, x.bits ++ codeL x.k.set.ord n x.k.width, x.beg⟩ := fun kk e => by unfold putW; rw [e]
  have HFIN := Lib.hid hfin
  clear hyput hcat hfin cC cW
  generalize x.bits ++ codeL x.k.set.ord n x.k.width = b9 at *
  clear r0 r1 r2 r3 r4 r5 r6 r7 r8 q0 q1 q2 q3 q4 q5 q6 q7 q8 s0 s1 s2 s3 s4 s5 s6 s7 s8 hfy hfz HQ
  generalize wq.setCell ⟨w.heap.size + 1 + 1, 7, none⟩ (.string (bs b9)) = W2 at *
  have hl2 : w.heap.size + 3 ≤ W2.heap.size := by omega
  obtain ⟨hbx, r0, r1, r2, r3, r4, r5, r6, r7, r8⟩ := HX.out.cells
  obtain ⟨hby, s0, s1, s2, s3, s4, s5, s6, s7, s8⟩ := HY.out.cells
  obtain ⟨hbz, q0, q1, q2, q3, q4, q5, q6, q7, q8⟩ := HZ.out.cells
  simp only [wr0] at q0 q1 q2 q3 q4 q5 q6 q7 q8
  have hfy := box_free HY.out
  have hfz := box_free HZ.out
  rcases HF.out with hx | hx
  · have hth : Hid (x.k = x.k.thru n) := by unfold Hid KnD.thru; rw [if_pos hx]
    have hxe : ((n : Int) != ((clr x.k.set : Nat) : Int) + 1) = false := by rw [← ec]; simpa using hx
    have HFI := Lib.hid (HFIN.out x.k hth.out)
    clear hx HF hth HFIN
    with_reducible refine (cE _).mono ?_
    rintro e w3 ⟨rfl, U3⟩
    have B3 := bcell U3
    have hl3 := U3.size
    go_wp2_with fail
    have HU3 := Lib.hid (HUW.out.trans U3)
    obtain ⟨-, q0, q1, q2, q3, q4, q5, q6, q7, q8⟩ := (HZ.out.up U3).cells
    simp only [wr0] at q0 q1 q2 q3 q4 q5 q6 q7 q8
    refine bodyPost_ret (v := wrV ⟨x.k, x.pend, b9, x.beg⟩ (.slice a x.k.ps.length cap)) (by simp [results, Tryz.results107, go_sem, q0, q1, q2, q3, q4, q5, q6, q7, q8]; rfl) rfl ?_
    rw [HFI.out]
    exact ⟨_, rfl, .inl ⟨rfl, rfl⟩, WrW.up HU3.out (Nat.le_succ _) ⟨x.k, x.pend, b9, x.beg⟩ (.slice a x.k.ps.length cap)⟩
  · have hnc : (n : Int) ≠ (x.k.c : Int) + 1 := by rcases hx with hx | ⟨_, hx, _⟩ <;> omega
    have hsf : (n : Int) ≠ (x.k.c : Int) → x.k.follows n = true := fun h => by rcases hx with hx | ⟨_, _, hx⟩; exact absurd hx h; exact hx
    have hth : Hid (x.k.step n = x.k.thru n) := by
      unfold Hid KnD.step KnD.thru
      rw [if_neg hnc]
    have cS := fun wq hr => l2Step_any x.k (.slice a x.k.ps.length cap) lo n wq HK.out hr hsf
    have hst : (x.k.step n).set = x.k.set := by unfold KnD.step; split <;> rfl
    have HST := Lib.hid hst
    have HFI := Lib.hid (HFIN.out (x.k.step n) hth.out)
    have hxe : ((n : Int) != ((clr x.k.set : Nat) : Int) + 1) = true := by rw [← ec]; simpa using hnc
    clear hx HF hth HFIN hnc hsf hst
    generalize x.k.step n = kk at *
    simp only [kV] at cS
    with_reducible refine (cE _).mono ?_
    rintro e w3 ⟨rfl, U3⟩
    have B3 := bcell U3
    have hl3 := U3.size
    go_wp2_with (first | (go_at_call 152; (with_reducible refine (cS _ (hrt _ (HUW.out.trans U3))).mono ?_); rintro e w4 ⟨v4, rfl, ho4, U4⟩; obtain ⟨a4, c4, rfl⟩ := ownsRow_shape ho4; simp only [kV]; obtain ⟨hbz, q0, q1, q2, q3, q4, q5, q6, q7, q8⟩ := ((HZ.out.up U3).up U4).cells; simp only [wr0] at q0 q1 q2 q3 q4 q5 q6 q7 q8; have hfz := box_free ((HZ.out.up U3).up U4); obtain ⟨hby, s0, s1, s2, s3, s4, s5, s6, s7, s8⟩ := ((HY.out.up U3).up U4).cells; have hfy := box_free ((HY.out.up U3).up U4); have HO := Lib.hid ho4; have HU4 := Lib.hid ((HUW.out.trans U3).trans U4); clear ho4) | fail)
    refine bodyPost_ret (v := wrV ⟨kk, x.pend, b9, x.beg⟩ (.slice a4 kk.ps.length c4)) (by simp [results, Tryz.results107, go_sem, q0, q1, q2, q3, q4, q5, q6, q7, q8]; rfl) rfl ?_
    rw [HFI.out]
    have hlo := fun b e => (HO.out.lt b e).1
    refine ⟨_, rfl, .inr ?_, ?_⟩
    · exact WrW.own (b := w.heap.size + 1) (KnW.own (ownsRow_base HO.out (by omega)) (b := w.heap.size + 1 + 1) (fun e => by have := hlo _ e.symm; omega) kk _) (fun e => by have := hlo _ e.symm; omega) ⟨kk, x.pend, b9, x.beg⟩ _
    · exact WrW.up (KnW.up HU4.out (show w.heap.size ≤ w.heap.size + 1 + 1 by omega) kk _) (Nat.le_succ _) ⟨kk, x.pend, b9, x.beg⟩ _
def PutO (base : Nat) (y : WrD) (ps : List PairD) (v : Value) (u : Value) (w : World) : Prop := ∃ v', u = wrV y v' ∧ ((v' = v ∧ y.k.ps = ps) ∨ ownPr w base v' y.k.ps)
theorem putO_closed (base : Nat) (y : WrD) (ps : List PairD) (v : Value) : ∀ u, UpClosed (PutO base y ps v u) := fun u w w' ⟨v', h1, h2⟩ hu => ⟨v', h1, h2.imp id (fun h => ownsRow_up h hu)⟩
theorem upOut_put {f : FuncId} {args : Array Value} {w : World} {y : WrD} {ps : List PairD} {v : Value} {base : Nat} (h : Calls Tryz.prog f args w (PutPost y ps v w)) (hb : base ≤ w.heap.size) : upOut Tryz.prog (PutO base y ps v) w (.ok (.enter f args) w) :=
  ⟨rfl, h.mono fun e w' ⟨v', he, h2, hu⟩ => ⟨_, he, hu, v', rfl, h2.imp id (fun h => ownsRow_base h hb)⟩⟩
theorem put_shape {w : World} {base : Nat} {ps qs : List PairD} {a : Option Addr} {cap : Nat} {v' : Value} (h : (v' = .slice a ps.length cap ∧ qs = ps) ∨ ownPr w base v' qs) : ∃ a' c', v' = .slice a' qs.length c' := by
  rcases h with ⟨rfl, e⟩ | h
  · rw [e]; exact ⟨_, _, rfl⟩
  · exact ownsRow_shape h
def begW (x : WrD) : WrD := ⟨x.open.2, x.pend, x.open.1, true⟩
set_option maxRecDepth 100000 in
set_option maxHeartbeats 8000000 in
theorem begin_any (x : WrD) (v : Value) (lo : Nat) (w : World) (hk : x.k.Ok) (hr : RdP lo w v x.k.ps) (hb : x.bits.length ≤ 900000) :
    Calls Tryz.prog 105  #[wrV x v] w (PutPost (begW x) x.k.ps v w) := by
  have hrt := fun (wq : World) (hu : Up w wq) => hr.up hu
  have cK := fun wq => l1Clear_any x.k.set wq hk.set
  have hc := (hk.nums)
  have cP := fun wq hr => put_any x v lo (clr x.k.set) wq hk hr (by omega) hb (.inr (.inl rfl))
  obtain ⟨a, cap, rfl, -, -, -, -⟩ := id hr
  have hpw : putW x (clr x.k.set) = ⟨x.k.cleared, x.pend, x.bits ++ codeL x.k.set.ord x.k.c x.k.width, x.beg⟩ := by
    unfold putW
    rw [show ((clr x.k.set : Nat) : Int) = (x.k.c : Int) from rfl, thru_clear]
    rfl
  rw [hpw] at cP
  have HK := Lib.hid hk
  clear hpw hr hk
  obtain ⟨k, pend, bits, beg⟩ := x
  dsimp only at *
  cases beg
  · have HO : Hid (begW ⟨k, pend, bits, false⟩ = ⟨k.cleared, pend, bits ++ codeL k.set.ord k.c k.width, true⟩) := rfl
    unfold wrV at *
    simp only [kV, setV] at *
    go_enter Tryz.func105, Tryz.ntmps105
    go_wp2_with fail
    have hX0 : WrAt w.heap.size ⟨k, pend, bits, false⟩ (.slice a k.ps.length cap) ((w.alloc (.cells #[.int .i64 k.set.ord, .int .i64 k.set.lit, .int .i64 k.set.most, .slice a k.ps.length cap, .int .i64 k.base, .int .i64 k.last, .string (bs pend), .string (bs bits), .bool false] 29)).alloc (.cells #[.int .i64 0, .int .i64 0, .int .i64 0, .slice none 0 0, .int .i64 0, .int .i64 0, .string ⟨#[]⟩, .string ⟨#[]⟩, .bool false] 29)) := box_up ((Up.refl _).alloc _) (MapKept.heap_alloc w _).1
    have hX1 := WrAt.zero (alloc2 w (.cells #[.int .i64 k.set.ord, .int .i64 k.set.lit, .int .i64 k.set.most, .slice a k.ps.length cap, .int .i64 k.base, .int .i64 k.last, .string (bs pend), .string (bs bits), .bool false] 29) (.cells #[.int .i64 0, .int .i64 0, .int .i64 0, .slice none 0 0, .int .i64 0, .int .i64 0, .string ⟨#[]⟩, .string ⟨#[]⟩, .bool false] 29))
    have hU1 : Up w ((w.alloc (.cells #[.int .i64 k.set.ord, .int .i64 k.set.lit, .int .i64 k.set.most, .slice a k.ps.length cap, .int .i64 k.base, .int .i64 k.last, .string (bs pend), .string (bs bits), .bool false] 29)).alloc (.cells #[.int .i64 0, .int .i64 0, .int .i64 0, .slice none 0 0, .int .i64 0, .int .i64 0, .string ⟨#[]⟩, .string ⟨#[]⟩, .bool false] 29)) := by (repeat (first | with_reducible exact Up.refl _ | with_reducible assumption | with_reducible refine Up.set ?_ (by first | exact Nat.le_refl _ | (simp only []; omega) | (simp; omega)) _ | with_reducible refine Up.alloc ?_ _ | with_reducible refine Up.drew ?_ | refine Up.trans ?_ (by with_reducible assumption)))
    have hW2 : w.heap.size + 2 ≤ ((w.alloc (.cells #[.int .i64 k.set.ord, .int .i64 k.set.lit, .int .i64 k.set.most, .slice a k.ps.length cap, .int .i64 k.base, .int .i64 k.last, .string (bs pend), .string (bs bits), .bool false] 29)).alloc (.cells #[.int .i64 0, .int .i64 0, .int .i64 0, .slice none 0 0, .int .i64 0, .int .i64 0, .string ⟨#[]⟩, .string ⟨#[]⟩, .bool false] 29)).heap.size := by simp
    generalize ((w.alloc (.cells #[.int .i64 k.set.ord, .int .i64 k.set.lit, .int .i64 k.set.most, .slice a k.ps.length cap, .int .i64 k.base, .int .i64 k.last, .string (bs pend), .string (bs bits), .bool false] 29)).alloc (.cells #[.int .i64 0, .int .i64 0, .int .i64 0, .slice none 0 0, .int .i64 0, .int .i64 0, .string ⟨#[]⟩, .string ⟨#[]⟩, .bool false] 29)) = W1 at *
    have HX := Lib.hid (And.intro hX0 (And.intro hX1 hU1))
    clear hX0 hX1 hU1
    refine wp_region_up 7 (by kernel_rfl) (by kernel_rfl) ?_
    simp only [List.take, List.drop]
    repeat (refine wpUp_step (fun K hK => ?_); go_simp; (try simp only [↓IntWalk.iteOmega]); first
      | (refine hK _ _ ?_; clear hK K)
      | (apply stepU_c
         · intro wq hwq; (have hbq := bcell hwq; (repeat (first | refine fills_no (by rfl) ?_ | refine fills_yes (by rfl) (fun vq hvq => ?_))); simp only [List.filter_nil, fills]; unfold upAt; (try ((obtain ⟨-, r0, r1, r2, r3, r4, r5, r6, r7, r8⟩ := (HX.out.1.up hwq).cells))); go_simp; (try go_bits); (try simp only [↓IntWalk.iteOmega]); (try (rw [dif_pos (by omega)]; go_simp; try go_bits)); first | exact upOut_value | (apply upOut_call; (go_at_call 86; exact cK _)) | (apply upOut_eq; (go_at_call 86; exact cK _)))
         go_simp; refine hK _ _ ?_; clear hK K)
      | (refine stepU_m (by kernel_rfl) (PutO W1.heap.size ⟨k.cleared, pend, bits ++ codeL k.set.ord k.c k.width, false⟩ k.ps (.slice a k.ps.length cap)) (putO_closed _ _ _ _) (fun wq hwq => ?_) ?_
         · (have hbq := bcell hwq; (repeat (first | refine fills_no (by rfl) ?_ | refine fills_yes (by rfl) (fun vq hvq => ?_))); simp only [List.filter_nil, fills]; unfold upAt; (try ((obtain ⟨-, r0, r1, r2, r3, r4, r5, r6, r7, r8⟩ := (HX.out.1.up hwq).cells))); go_simp; (try go_bits); (try simp only [↓IntWalk.iteOmega]); (try (rw [dif_pos (by omega)]; go_simp; try go_bits)); ((with_reducible refine upOut_put ?_ hwq.size); go_at_call 107; exact cP _ (hrt _ (HX.out.2.2.trans hwq))))
         refine hK _ _ ?_; clear hK K)
      | (refine stepU_m (by kernel_rfl) (Boxed W1.heap.size #[.int .i64 0, .int .i64 0, .int .i64 0, .slice none 0 0, .int .i64 0, .int .i64 0, .string ⟨#[]⟩, .string ⟨#[]⟩, .bool false] 29) (boxed_closed _ _ _) (fun wq hwq => ?_) ?_
         · (have hbq := bcell hwq; (repeat (first | refine fills_no (by rfl) ?_ | refine fills_yes (by rfl) (fun vq hvq => ?_))); simp only [List.filter_nil, fills]; unfold upAt; (try ((obtain ⟨-, r0, r1, r2, r3, r4, r5, r6, r7, r8⟩ := (HX.out.1.up hwq).cells))); go_simp; (try go_bits); (try simp only [↓IntWalk.iteOmega]); (try (rw [dif_pos (by omega)]; go_simp; try go_bits)); exact upOut_make ((Up.refl _).alloc _) (boxed_new hwq.size))
         refine hK _ _ ?_; clear hK K))
    refine wpUp_nil (fun wq hwq => ?_)
    simp only [fills]
    rintro v3 ⟨pb, rfl, hpb, hbox⟩ u ⟨v9, rfl, h9⟩
    generalize bits ++ codeL k.set.ord k.c k.width = b9 at *
    obtain ⟨a9, c9, rfl⟩ := put_shape h9
    dsimp only at h9
    have H9 := Lib.hid h9
    have HB := Lib.hid hbox
    obtain ⟨hbz, q0, q1, q2, q3, q4, q5, q6, q7, q8⟩ := WrAt.cells (HX.out.2.1.up hwq)
    simp only [wr0] at q0 q1 q2 q3 q4 q5 q6 q7 q8
    have hfz := box_free (HX.out.2.1.up hwq)
    obtain ⟨hby, s0, s1, s2, s3, s4, s5, s6, s7, s8⟩ := WrAt.cells (WrAt.zero hbox)
    simp only [wr0] at s0 s1 s2 s3 s4 s5 s6 s7 s8
    have hfy := box_free hbox
    have HU := Lib.hid (HX.out.2.2.trans hwq)
    have hn1 : ¬ w.heap.size + 1 = pb := by omega
    have hn2 : ¬ pb = w.heap.size + 1 := by omega
    have hkc : k.cleared.set = k.set := rfl
    generalize k.cleared = kk at *
    clear h9 hbox hkc cP cK hrt
    have hY : WrAt pb ⟨kk, pend, b9, true⟩ (.slice a9 kk.ps.length c9) ((((((((((wq.setCell ⟨pb, 0, none⟩ (.int .i64 kk.set.ord)).setCell ⟨pb, 1, none⟩ (.int .i64 kk.set.lit)).setCell ⟨pb, 2, none⟩ (.int .i64 kk.set.most)).setCell ⟨pb, 3, none⟩ (.slice a9 kk.ps.length c9)).setCell ⟨pb, 4, none⟩ (.int .i64 kk.base)).setCell ⟨pb, 5, none⟩ (.int .i64 kk.last)).setCell ⟨pb, 6, none⟩ (.string (bs pend))).setCell ⟨pb, 7, none⟩ (.string (bs b9))).setCell ⟨pb, 8, none⟩ (.bool false)).setCell ⟨pb, 8, none⟩ (.bool true)) := by
      have h0 := WrAt.store (WrAt.zero HB.out) ⟨kk, pend, b9, false⟩ (.slice a9 kk.ps.length c9)
      unfold WrAt at h0
      have h1 := box_set h0 8 (.bool true)
      unfold WrAt
      simpa [WrW, KnW] using h1
    have hZ : WrAt (w.heap.size + 1) wr0 (.slice none 0 0) ((((((((((wq.setCell ⟨pb, 0, none⟩ (.int .i64 kk.set.ord)).setCell ⟨pb, 1, none⟩ (.int .i64 kk.set.lit)).setCell ⟨pb, 2, none⟩ (.int .i64 kk.set.most)).setCell ⟨pb, 3, none⟩ (.slice a9 kk.ps.length c9)).setCell ⟨pb, 4, none⟩ (.int .i64 kk.base)).setCell ⟨pb, 5, none⟩ (.int .i64 kk.last)).setCell ⟨pb, 6, none⟩ (.string (bs pend))).setCell ⟨pb, 7, none⟩ (.string (bs b9))).setCell ⟨pb, 8, none⟩ (.bool false)).setCell ⟨pb, 8, none⟩ (.bool true)) := (Below.heap_setCell _ _ _ _ hn1).trans ((WrW.other hn1 ⟨kk, pend, b9, false⟩ (.slice a9 kk.ps.length c9)).trans (HX.out.2.1.up hwq))
    have hU5 : Up w ((((((((((wq.setCell ⟨pb, 0, none⟩ (.int .i64 kk.set.ord)).setCell ⟨pb, 1, none⟩ (.int .i64 kk.set.lit)).setCell ⟨pb, 2, none⟩ (.int .i64 kk.set.most)).setCell ⟨pb, 3, none⟩ (.slice a9 kk.ps.length c9)).setCell ⟨pb, 4, none⟩ (.int .i64 kk.base)).setCell ⟨pb, 5, none⟩ (.int .i64 kk.last)).setCell ⟨pb, 6, none⟩ (.string (bs pend))).setCell ⟨pb, 7, none⟩ (.string (bs b9))).setCell ⟨pb, 8, none⟩ (.bool false)).setCell ⟨pb, 8, none⟩ (.bool true)) := by
      have hU := HU.out
      (repeat (first | with_reducible exact Up.refl _ | with_reducible assumption | with_reducible refine Up.set ?_ (by first | exact Nat.le_refl _ | (simp only []; omega) | (simp; omega)) _ | with_reducible refine Up.alloc ?_ _ | with_reducible refine Up.drew ?_ | refine Up.trans ?_ (by with_reducible assumption)))
    have hO5 : (.slice a9 kk.ps.length c9 = Value.slice a k.ps.length cap ∧ kk.ps = k.ps) ∨ ownPr ((((((((((wq.setCell ⟨pb, 0, none⟩ (.int .i64 kk.set.ord)).setCell ⟨pb, 1, none⟩ (.int .i64 kk.set.lit)).setCell ⟨pb, 2, none⟩ (.int .i64 kk.set.most)).setCell ⟨pb, 3, none⟩ (.slice a9 kk.ps.length c9)).setCell ⟨pb, 4, none⟩ (.int .i64 kk.base)).setCell ⟨pb, 5, none⟩ (.int .i64 kk.last)).setCell ⟨pb, 6, none⟩ (.string (bs pend))).setCell ⟨pb, 7, none⟩ (.string (bs b9))).setCell ⟨pb, 8, none⟩ (.bool false)).setCell ⟨pb, 8, none⟩ (.bool true)) W1.heap.size (.slice a9 kk.ps.length c9) kk.ps := by
      refine H9.out.imp id (fun h => ?_)
      have hne1 : some pb ≠ Value.ownBlock (.slice a9 kk.ps.length c9) := box_ne HB.out h (by decide)
      repeat (with_reducible refine ownsRow_setb ?_ hne1 _ _)
      exact h
    have HALL := Lib.hid (And.intro hY (And.intro hZ (And.intro hU5 hO5)))
    clear hY hZ hU5 hO5 hwq HX
    unfold wrV
    go_simp
    iterate 17 go_step
    clear q0 q1 q2 q3 q4 q5 q6 q7 q8 s0 s1 s2 s3 s4 s5 s6 s7 s8 hfy hfz HU HB H9
    generalize ((((((((((wq.setCell ⟨pb, 0, none⟩ (.int .i64 kk.set.ord)).setCell ⟨pb, 1, none⟩ (.int .i64 kk.set.lit)).setCell ⟨pb, 2, none⟩ (.int .i64 kk.set.most)).setCell ⟨pb, 3, none⟩ (.slice a9 kk.ps.length c9)).setCell ⟨pb, 4, none⟩ (.int .i64 kk.base)).setCell ⟨pb, 5, none⟩ (.int .i64 kk.last)).setCell ⟨pb, 6, none⟩ (.string (bs pend))).setCell ⟨pb, 7, none⟩ (.string (bs b9))).setCell ⟨pb, 8, none⟩ (.bool false)).setCell ⟨pb, 8, none⟩ (.bool true)) = W5 at HALL ⊢
    obtain ⟨hY, hZ, hU5, hO5⟩ := HALL.out
    obtain ⟨hby, s0, s1, s2, s3, s4, s5, s6, s7, s8⟩ := hY.cells
    obtain ⟨hbz, q0, q1, q2, q3, q4, q5, q6, q7, q8⟩ := hZ.cells
    simp only [wr0] at q0 q1 q2 q3 q4 q5 q6 q7 q8
    have hfz := box_free hZ
    clear hY hZ hO5
    go_wp2_with fail
    refine bodyPost_ret (v := wrV ⟨kk, pend, b9, true⟩ (.slice a9 kk.ps.length c9)) (by simp [results, Tryz.results105, go_sem, q0, q1, q2, q3, q4, q5, q6, q7, q8]; rfl) rfl ?_
    rw [HO.out]
    refine ⟨.slice a9 kk.ps.length c9, rfl, ?_, ?_⟩
    · refine HALL.out.2.2.2.imp id (fun h => ?_)
      have hne2 : some (w.heap.size + 1) ≠ Value.ownBlock (.slice a9 kk.ps.length c9) := fun e => by have := (h.lt _ e.symm).1; omega
      have h' := ownsRow_base (base' := w.heap.size) h (by omega)
      repeat (with_reducible refine ownsRow_setb ?_ hne2 _ _)
      exact h'
    · (repeat (first | with_reducible exact Up.refl _ | with_reducible assumption | with_reducible refine Up.set ?_ (by first | exact Nat.le_refl _ | (simp only []; omega) | (simp; omega)) _ | with_reducible refine Up.alloc ?_ _ | with_reducible refine Up.drew ?_ | refine Up.trans ?_ (by with_reducible assumption)))
  · have HO : Hid (begW ⟨k, pend, bits, true⟩ = ⟨k, pend, bits, true⟩) := rfl
    unfold wrV at *
    clear cP cK
    simp only [kV, setV] at *
    go_enter Tryz.func105, Tryz.ntmps105
    go_wp2_with fail
    obtain ⟨-, q0, q1, q2, q3, q4, q5, q6, q7, q8⟩ := WrAt.cells (WrAt.zero (alloc2 w (.cells #[.int .i64 k.set.ord, .int .i64 k.set.lit, .int .i64 k.set.most, .slice a k.ps.length cap, .int .i64 k.base, .int .i64 k.last, .string (bs pend), .string (bs bits), .bool true] 29) (.cells #[.int .i64 0, .int .i64 0, .int .i64 0, .slice none 0 0, .int .i64 0, .int .i64 0, .string ⟨#[]⟩, .string ⟨#[]⟩, .bool false] 29)))
    simp only [wr0] at q0 q1 q2 q3 q4 q5 q6 q7 q8
    refine bodyPost_ret (v := wrV ⟨k, pend, bits, true⟩ (.slice a k.ps.length cap)) (by simp [results, Tryz.results105, go_sem, q0, q1, q2, q3, q4, q5, q6, q7, q8]; rfl) rfl ?_
    rw [HO.out]
    refine ⟨.slice a k.ps.length cap, rfl, .inl ⟨rfl, rfl⟩, ?_⟩
    (repeat (first | with_reducible exact Up.refl _ | with_reducible assumption | with_reducible refine Up.set ?_ (by first | exact Nat.le_refl _ | (simp only []; omega) | (simp; omega)) _ | with_reducible refine Up.alloc ?_ _ | with_reducible refine Up.drew ?_ | refine Up.trans ?_ (by with_reducible assumption)))
def plenC (b : Nat) (w : World) : Nat := match w.cell? ⟨b, 6, none⟩ with
  | some (.string s) => s.size
  | _ => 0
theorem plenC_at {b : Nat} {x : WrD} {v : Value} {w : World} (h : WrAt b x v w) : plenC b w = x.pend.length := by
  obtain ⟨-, -, -, -, -, -, -, h6, -⟩ := h.cells
  unfold plenC
  rw [h6]
  exact bs_size _
theorem bs_ne {a b : List UInt8} (h : a ≠ b) : ((bs a).toList == (bs b).toList) = false := by
  rw [Lib.toList_data, Lib.toList_data, bs_data, bs_data]
  simpa using h
structure LwAt (T : List UInt8 × KnD × List UInt8) (s : SetD) (v0 : Value) (ps0 : List PairD) (w : World) (ob m : Nat) (k : KnD) (d b : List UInt8) (v : Value) (wr : World) : Prop where
  dat : WlD T s m k d b
  box : WrAt ob ⟨k, d, b, true⟩ v wr
  res : WrAt (w.heap.size + 1) wr0 (.slice none 0 0) wr
  up : Up w wr
  pr : (v = v0 ∧ k.ps = ps0) ∨ ownPr wr w.heap.size v k.ps
def RelLw (T : List UInt8 × KnD × List UInt8) (s : SetD) (v0 : Value) (ps0 : List PairD) (w : World) (ob : Nat) (wr : World) : Prop := ∃ m k d b v, LwAt T s v0 ps0 w ob m k d b v wr
theorem LwAt.rd {T : List UInt8 × KnD × List UInt8} {s : SetD} {v0 v : Value} {ps0 : List PairD} {w wr : World} {ob m lo : Nat} {k : KnD} {d b : List UInt8} (h : LwAt T s v0 ps0 w ob m k d b v wr) (hr : RdP lo w v0 ps0) : RdP 0 wr v k.ps := by
  rcases h.pr with ⟨rfl, e⟩ | h1
  · rw [e]; exact (hr.up h.up).low (Nat.zero_le _)
  · exact (RdP.of_own h1).low (Nat.zero_le _)
set_option maxRecDepth 100000 in
set_option maxHeartbeats 16000000 in
theorem l3Write_any (x : WrD) (v : Value) (lo : Nat) (d : List UInt8) (w : World) (hx : wrOk x) (hd0 : d ≠ []) (hl : ∀ b ∈ d, b.toNat < clr x.k.set) (hn : (x.pend ++ d).length ≤ 2000) (hr : RdP lo w v x.k.ps) :
    Calls Tryz.prog 46  #[wrV x v, .string (bs d)] w (PutPost ⟨(x.codes d).2.1, (x.codes d).2.2, x.all d, true⟩ x.k.ps v w) := by
  have HST := Lib.hid (WlD.start hx hd0 hl hn)
  have hb7 := hx.2.2.2.2.2.1
  have cB := fun wq hr => begin_any x v lo wq hx.1 hr (by omega)
  have hrt := fun (wq : World) (hu : Up w wq) => hr.up hu
  have HR := Lib.hid hr
  obtain ⟨T1, hT1⟩ : ∃ T1, Hid (T1 = x.all d) := ⟨_, rfl⟩
  obtain ⟨T2, hT2⟩ : ∃ T2, Hid (T2 = x.codes d) := ⟨_, rfl⟩
  rw [← hT1.out, ← hT2.out] at HST ⊢
  have hcat : bs x.pend ++ bs d = bs (x.pend ++ d) := bs_app _ _
  have hsp := bs_size x.pend
  have hsd := bs_size d
  have hdl : d.length ≤ 2000 := by rw [List.length_append] at hn; omega
  have hn2 : x.pend.length + d.length ≤ 2000 := by rw [List.length_append] at hn; omega
  have hbw : begW x = ⟨x.open.2, x.pend, x.open.1, true⟩ := rfl
  rw [hbw] at cB
  obtain ⟨a, cap, rfl, -, -, -, -⟩ := id hr
  have hos := Lib.hid (WrD.open_ok hx.1).2
  clear hx hr hT1 hT2 hl hbw
  generalize x.open.2 = ko at *
  generalize x.open.1 = bo at *
  unfold wrV at *
  go_enter Tryz.func46, Tryz.ntmps46
  go_wp2_with fail
  with_reducible refine (cB _ (hrt _ (by (repeat (first | with_reducible exact Up.refl _ | with_reducible assumption | with_reducible refine Up.set ?_ (by first | exact Nat.le_refl _ | (simp only []; omega) | (simp; omega)) _ | with_reducible refine Up.alloc ?_ _ | with_reducible refine Up.drew ?_ | refine Up.trans ?_ (by with_reducible assumption)))))).mono ?_
  rintro e w2 ⟨v2, rfl, hp2, U2⟩
  obtain ⟨a2, c2, rfl⟩ := put_shape hp2
  dsimp only at hp2
  have hX2 : WrAt w.heap.size x (.slice a x.k.ps.length cap) w2 := box_up U2 (box_up ((Up.refl _).alloc _) (MapKept.heap_alloc w _).1)
  have hZ2 := WrAt.zero (box_up U2 (alloc2 w _ _))
  have hU2 : Up w w2 := by (repeat (first | with_reducible exact Up.refl _ | with_reducible assumption | with_reducible refine Up.set ?_ (by first | exact Nat.le_refl _ | (simp only []; omega) | (simp; omega)) _ | with_reducible refine Up.alloc ?_ _ | with_reducible refine Up.drew ?_ | refine Up.trans ?_ (by with_reducible assumption)))
  have hl2 : w.heap.size + 2 ≤ w2.heap.size := by have := U2.size; simp at this; exact this
  obtain ⟨hbx, r0, r1, r2, r3, r4, r5, r6, r7, r8⟩ := hX2.cells
  have HH := Lib.hid (And.intro hX2 (And.intro hZ2 (And.intro hU2 hp2)))
  clear hX2 hZ2 hU2 hp2 U2 cB
  unfold wrV
  go_wp2_with fail
  have hA : WrAt w2.heap.size ⟨ko, x.pend ++ d, bo, true⟩ (.slice a2 ko.ps.length c2) (w2.alloc (.cells #[.int .i64 ko.set.ord, .int .i64 ko.set.lit, .int .i64 ko.set.most, .slice a2 ko.ps.length c2, .int .i64 ko.base, .int .i64 ko.last, .string (bs (x.pend ++ d)), .string (bs bo), .bool true] 29)) := (MapKept.heap_alloc w2 _).1
  have hL0 : RelLw (T1, T2.2) x.k.set (.slice a x.k.ps.length cap) x.k.ps w w2.heap.size (w2.alloc (.cells #[.int .i64 ko.set.ord, .int .i64 ko.set.lit, .int .i64 ko.set.most, .slice a2 ko.ps.length c2, .int .i64 ko.base, .int .i64 ko.last, .string (bs (x.pend ++ d)), .string (bs bo), .bool true] 29)) :=
    ⟨_, ko, x.pend ++ d, bo, .slice a2 ko.ps.length c2, HST.out, hA, HH.out.2.1.up ((Up.refl _).alloc _), HH.out.2.2.1.alloc _, HH.out.2.2.2.imp id (fun h => ownsRow_base (ownsRow_up h ((Up.refl _).alloc _)) (by simp; omega))⟩
  have HL0 := Lib.hid hL0
  clear hA hL0 HST HH r0 r1 r2 r3 r4 r5 r6 r7 r8
  go_loopw [6] (fun _ wr => RelLw (T1, T2.2) x.k.set (.slice a x.k.ps.length cap) x.k.ps w w2.heap.size wr) (fun _ wr => plenC w2.heap.size wr)
  case atStart => exact HL0.out
  case round =>
    clear HL0 hcat hsp hsd hn hn2 hb7 hd0 hos
    obtain ⟨m, k, e, b, v1, hL⟩ := hrel
    have hok := hL.dat.ok
    have HSET := Lib.hid hL.dat.set
    have hne := hL.dat.ne
    have hle2 := hL.dat.le
    have hsum := hL.dat.sum
    have hpos := List.length_pos_iff.2 hne
    have hse := bs_size e
    have hpl := hok.nums.2.2.2.1
    obtain ⟨a1, c1, rfl⟩ := put_shape hL.pr
    have hrd := fun (wq : World) (hu : Up wr wq) => (hL.rd HR.out).up hu
    have cL := fun wq hr => l2Longest_any k (.slice a1 k.ps.length c1) 0 (bs e) wq hok hr (by rw [bs_size]; exact hpos) (by rw [bs_size]; omega)
    rw [bs_data] at cL
    obtain ⟨hbx, r0, r1, r2, r3, r4, r5, r6, r7, r8⟩ := hL.box.cells
    obtain ⟨hbz, q0, q1, q2, q3, q4, q5, q6, q7, q8⟩ := hL.res.cells
    simp only [wr0] at q0 q1 q2 q3 q4 q5 q6 q7 q8
    have hszr := hL.up.size
    have hfz := box_free hL.res
    have hfx := box_free hL.box
    simp only [kV] at cL
    have HM := Lib.hid (plenC_at hL.box)
    by_cases hle : k.longest e = e
    · have hT := hL.dat.stop hle
      simp only [Prod.mk.injEq] at hT
      obtain ⟨hT1, hT2⟩ := hT
      have HT2 := Lib.hid (And.intro (show T2.2.1 = k by rw [hT2]) (show T2.2.2 = e by rw [hT2]))
      subst hT1
      rw [hle] at cL
      have HL := Lib.hid hL
      clear hL hT2 hle hne hok HM
      go_wp2_with (first | ((go_at_call 106; (with_reducible refine (cL _ (hrd _ (Up.refl _))).mono ?_); rintro e w4 ⟨rfl, U4⟩; have B4 := bcell U4; have Z4 := U4.size; (try simp at Z4); (try rw [Nat.add_one_le_iff] at Z4))) | fail)
      have HU4 := Lib.hid U4
      obtain ⟨-, q0, q1, q2, q3, q4, q5, q6, q7, q8⟩ := (HL.out.res.up U4).cells
      simp only [wr0] at q0 q1 q2 q3 q4 q5 q6 q7 q8
      refine bodyPost_ret (v := wrV ⟨k, e, T1, true⟩ (.slice a1 k.ps.length c1)) (by simp [results, Tryz.results46, go_sem, q0, q1, q2, q3, q4, q5, q6, q7, q8]; rfl) rfl ?_
      rw [HT2.out.1, HT2.out.2]
      refine ⟨.slice a1 k.ps.length c1, rfl, ?_, ?_⟩
      · refine HL.out.pr.imp id (fun h => ?_)
        have hne2 : some (w.heap.size + 1) ≠ Value.ownBlock (.slice a1 k.ps.length c1) := box_ne HL.out.res h (by decide)
        have h' := ownsRow_up h HU4.out
        repeat (with_reducible refine ownsRow_setb ?_ hne2 _ _)
        exact h'
      · have hU := HL.out.up.trans HU4.out
        (repeat (first | with_reducible exact Up.refl _ | with_reducible assumption | with_reducible refine Up.set ?_ (by first | exact Nat.le_refl _ | (simp only []; omega) | (simp; omega)) _ | with_reducible refine Up.alloc ?_ _ | with_reducible refine Up.drew ?_ | refine Up.trans ?_ (by with_reducible assumption)))
    · have hne1 := bs_ne hle
      obtain ⟨⟨hfw, hxc, hxe, hlp, hlt⟩, hfull, hmore⟩ := hL.dat.step hle
      have hfb := KnD.find_bd hok hfw
      have hc := c_of HSET.out
      obtain ⟨n, hn⟩ := Int.eq_ofNat_of_zero_le hfb.1
      have hka := KnD.after_ok hok hfw
      have hth := KnD.thru_fol hok hfw
      have hwd := KnD.width_bd hok
      obtain ⟨k9, hk9⟩ : ∃ k9, Hid (k9 = k.after (k.find (k.longest e))) := ⟨_, rfl⟩
      rw [← hk9.out] at hfull hmore hka hth
      have cF := fun wq hr => l2Find_any k (.slice a1 k.ps.length c1) 0 (bs (k.longest e)) wq hok hr (by rw [bs_size]; omega)
      rw [bs_data] at cF
      rw [hn] at hfull hmore hth hxc hxe hfw cF
      rw [Int.toNat_natCast] at hfull hmore
      have hs9 : k9.set = x.k.set := by rw [hk9.out]; exact HSET.out
      have cP := fun wq hr => put_any ⟨k, e, b, true⟩ (.slice a1 k.ps.length c1) 0 n wq hok hr (by omega) (by show b.length ≤ 900000; omega) (.inr (.inr ⟨hxc, hxe, hfw⟩))
      have hpw : putW ⟨k, e, b, true⟩ n = ⟨k9, e, b ++ codeL x.k.set.ord n k.width, true⟩ := by
        unfold putW
        dsimp only
        rw [hth, HSET.out]
      rw [hpw] at cP
      have hbd : (bs e).extract (k.longest e).length e.length = bs (e.drop (k.longest e).length) := by rw [bs_ext]; congr 1; exact List.take_of_length_le (by rw [List.length_drop]; omega)
      have HBD := Lib.hid hbd
      have hlen9 : (b ++ codeL x.k.set.ord n k.width).length ≤ 800000 := by rw [List.length_append, codeL_length]; omega
      have HX9 := Lib.hid (And.intro hfull hmore)
      have HK9 := Lib.hid hka
      have HS9 := Lib.hid hs9
      have hdl9 : (e.drop (k.longest e).length).length < e.length := by rw [List.length_drop]; omega
      have hlw := bs_size (k.longest e)
      have HL := Lib.hid hL
      clear hfull hmore hth hxc hxe hfw hn hk9 hbd hle hL hok hs9 hc hka hpw
      generalize b ++ codeL x.k.set.ord n k.width = b9 at *
      generalize e.drop (k.longest e).length = e9 at *
      generalize hwl : k.longest e = wl at *
      have HWL := Lib.hid hwl
      clear hwl
      unfold wrV at cP
      go_wp2_with (first | ((go_at_call 106; (with_reducible refine (cL _ (hrd _ (Up.refl _))).mono ?_); rintro e w4 ⟨rfl, U4⟩; have B4 := bcell U4; have Z4 := U4.size; (try simp at Z4); (try rw [Nat.add_one_le_iff] at Z4))) | fail)
      have HL4 := Lib.hid (And.intro (HL.out.box.up U4) (And.intro (HL.out.res.up U4) (HL.out.up.trans U4)))
      have HU4 := Lib.hid U4
      have hz4 := U4.size
      clear U4 B4 cL r0 r1 r2 r3 r4 r5 r6 r7 r8 q0 q1 q2 q3 q4 q5 q6 q7 q8 hfz hfx
      refine wp_region_up 6 (by kernel_rfl) (by kernel_rfl) ?_
      simp only [List.take, List.drop]
      repeat (refine wpUp_step (fun K hK => ?_); go_simp; (try simp only [↓IntWalk.iteOmega]); first
        | (refine hK _ _ ?_; clear hK K)
        | (apply stepU_c
           · intro wq hwq; (have hbq := bcell hwq; (repeat (first | refine fills_no (by rfl) ?_ | refine fills_yes (by rfl) (fun vq hvq => ?_))); simp only [List.filter_nil, fills]; unfold upAt; (try ((obtain ⟨-, r0, r1, r2, r3, r4, r5, r6, r7, r8⟩ := (HL4.out.1.up hwq).cells))); go_simp; (try go_bits); (try simp only [↓IntWalk.iteOmega]); (try (rw [dif_pos (by omega)]; go_simp; try go_bits)); first | exact upOut_value | (apply upOut_call; (go_at_call 102; exact cF _ (hrd _ (HU4.out.trans hwq)))) | (apply upOut_eq; (go_at_call 102; exact cF _ (hrd _ (HU4.out.trans hwq)))))
           go_simp; refine hK _ _ ?_; clear hK K)
        | (refine stepU_m (by kernel_rfl) (PutO w4.heap.size ⟨k9, e, b9, true⟩ k.ps (.slice a1 k.ps.length c1)) (putO_closed _ _ _ _) (fun wq hwq => ?_) ?_
           · (have hbq := bcell hwq; (repeat (first | refine fills_no (by rfl) ?_ | refine fills_yes (by rfl) (fun vq hvq => ?_))); simp only [List.filter_nil, fills]; unfold upAt; (try ((obtain ⟨-, r0, r1, r2, r3, r4, r5, r6, r7, r8⟩ := (HL4.out.1.up hwq).cells))); go_simp; (try go_bits); (try simp only [↓IntWalk.iteOmega]); (try (rw [dif_pos (by omega)]; go_simp; try go_bits)); ((with_reducible refine upOut_put ?_ hwq.size); go_at_call 107; exact cP _ (hrd _ (HU4.out.trans hwq))))
           refine hK _ _ ?_; clear hK K))
      refine wpUp_nil (fun wq hwq => ?_)
      simp only [fills]
      rintro u ⟨v9, rfl, h9⟩
      obtain ⟨a9, c9, rfl⟩ := put_shape h9
      dsimp only at h9
      have H9 := Lib.hid h9
      have HQ := Lib.hid (And.intro (HL4.out.1.up hwq) (And.intro (HL4.out.2.1.up hwq) (HL4.out.2.2.trans hwq)))
      have HUQ := Lib.hid (HU4.out.trans hwq)
      obtain ⟨hbx, r0, r1, r2, r3, r4, r5, r6, r7, r8⟩ := HQ.out.1.cells
      have hfx := box_free HQ.out.1
      have hzq := hwq.size
      clear hwq h9 HL4 HU4 cF cP
      unfold wrV
      go_wp2_with fail
      rw [HBD.out]
      have hne3 : w.heap.size + 1 ≠ w2.heap.size := by omega
      have hY : WrAt w2.heap.size ⟨k9, e9, b9, true⟩ (.slice a9 k9.ps.length c9) ((((((((((wq.setCell ⟨w2.heap.size, 0, none⟩ (.int .i64 k9.set.ord)).setCell ⟨w2.heap.size, 1, none⟩ (.int .i64 k9.set.lit)).setCell ⟨w2.heap.size, 2, none⟩ (.int .i64 k9.set.most)).setCell ⟨w2.heap.size, 3, none⟩ (.slice a9 k9.ps.length c9)).setCell ⟨w2.heap.size, 4, none⟩ (.int .i64 k9.base)).setCell ⟨w2.heap.size, 5, none⟩ (.int .i64 k9.last)).setCell ⟨w2.heap.size, 6, none⟩ (.string (bs e))).setCell ⟨w2.heap.size, 7, none⟩ (.string (bs b9))).setCell ⟨w2.heap.size, 8, none⟩ (.bool true)).setCell ⟨w2.heap.size, 6, none⟩ (.string (bs e9))) := by
        have h0 := WrAt.store HQ.out.1 ⟨k9, e, b9, true⟩ (.slice a9 k9.ps.length c9)
        unfold WrAt at h0
        have h1 := box_set h0 6 (.string (bs e9))
        unfold WrAt
        simpa [WrW, KnW] using h1
      have hZ : WrAt (w.heap.size + 1) wr0 (.slice none 0 0) ((((((((((wq.setCell ⟨w2.heap.size, 0, none⟩ (.int .i64 k9.set.ord)).setCell ⟨w2.heap.size, 1, none⟩ (.int .i64 k9.set.lit)).setCell ⟨w2.heap.size, 2, none⟩ (.int .i64 k9.set.most)).setCell ⟨w2.heap.size, 3, none⟩ (.slice a9 k9.ps.length c9)).setCell ⟨w2.heap.size, 4, none⟩ (.int .i64 k9.base)).setCell ⟨w2.heap.size, 5, none⟩ (.int .i64 k9.last)).setCell ⟨w2.heap.size, 6, none⟩ (.string (bs e))).setCell ⟨w2.heap.size, 7, none⟩ (.string (bs b9))).setCell ⟨w2.heap.size, 8, none⟩ (.bool true)).setCell ⟨w2.heap.size, 6, none⟩ (.string (bs e9))) := (Below.heap_setCell _ _ _ _ hne3).trans ((WrW.other hne3 ⟨k9, e, b9, true⟩ (.slice a9 k9.ps.length c9)).trans HQ.out.2.1)
      have hU5 : Up w ((((((((((wq.setCell ⟨w2.heap.size, 0, none⟩ (.int .i64 k9.set.ord)).setCell ⟨w2.heap.size, 1, none⟩ (.int .i64 k9.set.lit)).setCell ⟨w2.heap.size, 2, none⟩ (.int .i64 k9.set.most)).setCell ⟨w2.heap.size, 3, none⟩ (.slice a9 k9.ps.length c9)).setCell ⟨w2.heap.size, 4, none⟩ (.int .i64 k9.base)).setCell ⟨w2.heap.size, 5, none⟩ (.int .i64 k9.last)).setCell ⟨w2.heap.size, 6, none⟩ (.string (bs e))).setCell ⟨w2.heap.size, 7, none⟩ (.string (bs b9))).setCell ⟨w2.heap.size, 8, none⟩ (.bool true)).setCell ⟨w2.heap.size, 6, none⟩ (.string (bs e9))) := by
        have hU := HQ.out.2.2
        (repeat (first | with_reducible exact Up.refl _ | with_reducible assumption | with_reducible refine Up.set ?_ (by first | exact Nat.le_refl _ | (simp only []; omega) | (simp; omega)) _ | with_reducible refine Up.alloc ?_ _ | with_reducible refine Up.drew ?_ | refine Up.trans ?_ (by with_reducible assumption)))
      have hown : ∀ (vv : Value) (ps : List PairD), ownPr wq w.heap.size vv ps → ownPr ((((((((((wq.setCell ⟨w2.heap.size, 0, none⟩ (.int .i64 k9.set.ord)).setCell ⟨w2.heap.size, 1, none⟩ (.int .i64 k9.set.lit)).setCell ⟨w2.heap.size, 2, none⟩ (.int .i64 k9.set.most)).setCell ⟨w2.heap.size, 3, none⟩ (.slice a9 k9.ps.length c9)).setCell ⟨w2.heap.size, 4, none⟩ (.int .i64 k9.base)).setCell ⟨w2.heap.size, 5, none⟩ (.int .i64 k9.last)).setCell ⟨w2.heap.size, 6, none⟩ (.string (bs e))).setCell ⟨w2.heap.size, 7, none⟩ (.string (bs b9))).setCell ⟨w2.heap.size, 8, none⟩ (.bool true)).setCell ⟨w2.heap.size, 6, none⟩ (.string (bs e9))) w.heap.size vv ps := fun vv ps h => by
        have hne1 : some w2.heap.size ≠ Value.ownBlock vv := box_ne HQ.out.1 h (by decide)
        repeat (with_reducible refine ownsRow_setb ?_ hne1 _ _)
        exact h
      have HALL0 := Lib.hid (And.intro hY (And.intro hZ (And.intro hU5 hown)))
      clear hY hZ hU5 hown hne3 HBD HWL r0 r1 r2 r3 r4 r5 r6 r7 r8 hfx
      generalize ((((((((((wq.setCell ⟨w2.heap.size, 0, none⟩ (.int .i64 k9.set.ord)).setCell ⟨w2.heap.size, 1, none⟩ (.int .i64 k9.set.lit)).setCell ⟨w2.heap.size, 2, none⟩ (.int .i64 k9.set.most)).setCell ⟨w2.heap.size, 3, none⟩ (.slice a9 k9.ps.length c9)).setCell ⟨w2.heap.size, 4, none⟩ (.int .i64 k9.base)).setCell ⟨w2.heap.size, 5, none⟩ (.int .i64 k9.last)).setCell ⟨w2.heap.size, 6, none⟩ (.string (bs e))).setCell ⟨w2.heap.size, 7, none⟩ (.string (bs b9))).setCell ⟨w2.heap.size, 8, none⟩ (.bool true)).setCell ⟨w2.heap.size, 6, none⟩ (.string (bs e9))) = W5 at HALL0 ⊢
      have hO5 : (.slice a9 k9.ps.length c9 = Value.slice a x.k.ps.length cap ∧ k9.ps = x.k.ps) ∨ ownPr W5 w.heap.size (.slice a9 k9.ps.length c9) k9.ps := by
        rcases H9.out with ⟨h1, h2⟩ | h
        · rw [h1, h2]
          exact HL.out.pr.imp id (fun h => HALL0.out.2.2.2 _ _ (ownsRow_up h HUQ.out))
        · exact .inr (HALL0.out.2.2.2 _ _ (ownsRow_base h (by have := HL.out.up.size; omega)))
      have HALL := Lib.hid (And.intro HALL0.out.1 (And.intro HALL0.out.2.1 (And.intro HALL0.out.2.2.1 hO5)))
      clear hO5 HALL0 H9 HQ HUQ HL
      clear hzq hbx
      obtain ⟨hbx, r0, r1, r2, r3, r4, r5, r6, r7, r8⟩ := HALL.out.1.cells
      have hok9 := HK9.out
      have hpl9 := hok9.nums.2.2.2.1
      have hrd9 := fun (wq : World) (hu : Up W5 wq) => (show RdP 0 W5 (.slice a9 k9.ps.length c9) k9.ps by
        rcases HALL.out.2.2.2 with ⟨h1, h2⟩ | h
        · rw [h1, h2]; exact (HR.out.up HALL.out.2.2.1).low (Nat.zero_le _)
        · exact (RdP.of_own h).low (Nat.zero_le _)).up hu
      have cN := fun wx hr => l2Next_any k9 (.slice a9 k9.ps.length c9) 0 wx hok9 hr
      have cLa := fun wx => l1Last_any k9.set wx hok9.set
      have hnx := KnD.next_bd hok9
      have hlb := hok9.nums.2.2.1
      simp only [kV, setV] at cN cLa
      have hlw2 : Up w W5 := HALL.out.2.2.1
      have hlz := hlw2.size
      by_cases e1 : lastC k9.set < k9.next
      · by_cases e2 : k9.base < k9.ps.length
        · have hf : k9.full = true := by unfold KnD.full; rw [decide_eq_true e1, decide_eq_true e2]; rfl
          have HN := Lib.hid (HX9.out.1 hf)
          clear hf
          generalize k9.next = nx9 at *
          generalize lastC k9.set = lc9 at *
          refine wp_region_up 18 (by kernel_rfl) (by kernel_rfl) ?_
          simp only [List.take, List.drop]
          repeat (refine wpUp_step (fun K hK => ?_); go_simp; (try simp only [↓IntWalk.iteOmega]); first
            | (refine hK _ _ ?_; clear hK K)
            | (apply stepU_c
               · intro wq hwq; (have hbq := bcell hwq; (repeat (first | refine fills_no (by rfl) ?_ | refine fills_yes (by rfl) (fun vq hvq => ?_))); simp only [List.filter_nil, fills]; unfold upAt; (try ((obtain ⟨-, r0, r1, r2, r3, r4, r5, r6, r7, r8⟩ := (HALL.out.1.up hwq).cells))); go_simp; (try go_bits); (try simp only [↓IntWalk.iteOmega]); (try (rw [dif_pos (by omega)]; go_simp; try go_bits)); first | exact upOut_value | (apply upOut_call; (go_at_call 108; exact cN _ (hrd9 _ hwq))) | (apply upOut_eq; (go_at_call 108; exact cN _ (hrd9 _ hwq))) | (apply upOut_call; (go_at_call 109; exact cLa _)) | (apply upOut_eq; (go_at_call 109; exact cLa _)))
               go_simp; refine hK _ _ ?_; clear hK K))
          refine wpUp_nil (fun wq hwq => ?_)
          simp only [fills]
          go_wp2_with fail
          have HA := Lib.hid (And.intro (HALL.out.1.up hwq) (And.intro (HALL.out.2.1.up hwq) (And.intro (HALL.out.2.2.1.trans hwq) (HALL.out.2.2.2.imp id (fun h => ownsRow_up h hwq)))))
          have hrd8 := fun (wx : World) (hu : Up wq wx) => hrd9 wx (hwq.trans hu)
          clear hwq HALL hrd9 r0 r1 r2 r3 r4 r5 r6 r7 r8 cN cLa hbx
          generalize wq = W6 at *
          have hclr := (clr_bd hok9.set).2.1
          have cK := fun wx => l1Clear_any k9.set wx hok9.set
          have cP9 := fun wq hr => put_any ⟨k9, e9, b9, true⟩ (.slice a9 k9.ps.length c9) 0 (clr k9.set) wq hok9 hr (by omega) (by show b9.length ≤ 900000; omega) (.inr (.inl rfl))
          have hpw9 : putW ⟨k9, e9, b9, true⟩ (clr k9.set) = ⟨k9.cleared, e9, b9 ++ codeL x.k.set.ord (clr x.k.set) k9.width, true⟩ := by
            unfold putW
            dsimp only
            rw [show ((clr k9.set : Nat) : Int) = (k9.c : Int) from rfl, thru_clear, HS9.out]
          rw [hpw9] at cP9
          clear hpw9
          generalize b9 ++ codeL x.k.set.ord (clr x.k.set) k9.width = b10 at *
          unfold wrV at cP9
          simp only [setV] at cK
          refine wp_region_up 6 (by kernel_rfl) (by kernel_rfl) ?_
          simp only [List.take, List.drop]
          repeat (refine wpUp_step (fun K hK => ?_); go_simp; (try simp only [↓IntWalk.iteOmega]); first
            | (refine hK _ _ ?_; clear hK K)
            | (apply stepU_c
               · intro wq hwq; (have hbq := bcell hwq; (repeat (first | refine fills_no (by rfl) ?_ | refine fills_yes (by rfl) (fun vq hvq => ?_))); simp only [List.filter_nil, fills]; unfold upAt; (try ((obtain ⟨-, r0, r1, r2, r3, r4, r5, r6, r7, r8⟩ := (HA.out.1.up hwq).cells))); go_simp; (try go_bits); (try simp only [↓IntWalk.iteOmega]); (try (rw [dif_pos (by omega)]; go_simp; try go_bits)); first | exact upOut_value | (apply upOut_call; (go_at_call 86; exact cK _)) | (apply upOut_eq; (go_at_call 86; exact cK _)))
               go_simp; refine hK _ _ ?_; clear hK K)
            | (refine stepU_m (by kernel_rfl) (PutO W6.heap.size ⟨k9.cleared, e9, b10, true⟩ k9.ps (.slice a9 k9.ps.length c9)) (putO_closed _ _ _ _) (fun wq hwq => ?_) ?_
               · (have hbq := bcell hwq; (repeat (first | refine fills_no (by rfl) ?_ | refine fills_yes (by rfl) (fun vq hvq => ?_))); simp only [List.filter_nil, fills]; unfold upAt; (try ((obtain ⟨-, r0, r1, r2, r3, r4, r5, r6, r7, r8⟩ := (HA.out.1.up hwq).cells))); go_simp; (try go_bits); (try simp only [↓IntWalk.iteOmega]); (try (rw [dif_pos (by omega)]; go_simp; try go_bits)); ((with_reducible refine upOut_put ?_ hwq.size); go_at_call 107; exact cP9 _ (hrd8 _ hwq)))
               refine hK _ _ ?_; clear hK K))
          refine wpUp_nil (fun wq hwq => ?_)
          simp only [fills]
          rintro u ⟨v10, rfl, h10⟩
          obtain ⟨a10, c10, rfl⟩ := put_shape h10
          dsimp only at h10
          have H10 := Lib.hid h10
          have HQ := Lib.hid (And.intro (HA.out.1.up hwq) (And.intro (HA.out.2.1.up hwq) (HA.out.2.2.1.trans hwq)))
          have HUQ := Lib.hid hwq
          obtain ⟨hbx, r0, r1, r2, r3, r4, r5, r6, r7, r8⟩ := HQ.out.1.cells
          have hfx := box_free HQ.out.1
          have hzq := hwq.size
          have hz6 := HA.out.2.2.1.size
          clear hwq h10 cP9 cK
          generalize k9.cleared = kc at *
          have hne3 : w.heap.size + 1 ≠ w2.heap.size := by omega
          have hY : WrAt w2.heap.size ⟨kc, e9, b10, true⟩ (.slice a10 kc.ps.length c10) (((((((((wq.setCell ⟨w2.heap.size, 0, none⟩ (.int .i64 kc.set.ord)).setCell ⟨w2.heap.size, 1, none⟩ (.int .i64 kc.set.lit)).setCell ⟨w2.heap.size, 2, none⟩ (.int .i64 kc.set.most)).setCell ⟨w2.heap.size, 3, none⟩ (.slice a10 kc.ps.length c10)).setCell ⟨w2.heap.size, 4, none⟩ (.int .i64 kc.base)).setCell ⟨w2.heap.size, 5, none⟩ (.int .i64 kc.last)).setCell ⟨w2.heap.size, 6, none⟩ (.string (bs e9))).setCell ⟨w2.heap.size, 7, none⟩ (.string (bs b10))).setCell ⟨w2.heap.size, 8, none⟩ (.bool true)) := by
            have h0 := WrAt.store HQ.out.1 ⟨kc, e9, b10, true⟩ (.slice a10 kc.ps.length c10)
            simpa [WrW, KnW] using h0
          have hZ : WrAt (w.heap.size + 1) wr0 (.slice none 0 0) (((((((((wq.setCell ⟨w2.heap.size, 0, none⟩ (.int .i64 kc.set.ord)).setCell ⟨w2.heap.size, 1, none⟩ (.int .i64 kc.set.lit)).setCell ⟨w2.heap.size, 2, none⟩ (.int .i64 kc.set.most)).setCell ⟨w2.heap.size, 3, none⟩ (.slice a10 kc.ps.length c10)).setCell ⟨w2.heap.size, 4, none⟩ (.int .i64 kc.base)).setCell ⟨w2.heap.size, 5, none⟩ (.int .i64 kc.last)).setCell ⟨w2.heap.size, 6, none⟩ (.string (bs e9))).setCell ⟨w2.heap.size, 7, none⟩ (.string (bs b10))).setCell ⟨w2.heap.size, 8, none⟩ (.bool true)) := (WrW.other hne3 ⟨kc, e9, b10, true⟩ (.slice a10 kc.ps.length c10)).trans HQ.out.2.1
          have hU5 : Up w (((((((((wq.setCell ⟨w2.heap.size, 0, none⟩ (.int .i64 kc.set.ord)).setCell ⟨w2.heap.size, 1, none⟩ (.int .i64 kc.set.lit)).setCell ⟨w2.heap.size, 2, none⟩ (.int .i64 kc.set.most)).setCell ⟨w2.heap.size, 3, none⟩ (.slice a10 kc.ps.length c10)).setCell ⟨w2.heap.size, 4, none⟩ (.int .i64 kc.base)).setCell ⟨w2.heap.size, 5, none⟩ (.int .i64 kc.last)).setCell ⟨w2.heap.size, 6, none⟩ (.string (bs e9))).setCell ⟨w2.heap.size, 7, none⟩ (.string (bs b10))).setCell ⟨w2.heap.size, 8, none⟩ (.bool true)) := by
            have hU := HQ.out.2.2
            (repeat (first | with_reducible exact Up.refl _ | with_reducible assumption | with_reducible refine Up.set ?_ (by first | exact Nat.le_refl _ | (simp only []; omega) | (simp; omega)) _ | with_reducible refine Up.alloc ?_ _ | with_reducible refine Up.drew ?_ | refine Up.trans ?_ (by with_reducible assumption)))
          have hown : ∀ (vv : Value) (ps : List PairD), ownPr wq w.heap.size vv ps → ownPr (((((((((wq.setCell ⟨w2.heap.size, 0, none⟩ (.int .i64 kc.set.ord)).setCell ⟨w2.heap.size, 1, none⟩ (.int .i64 kc.set.lit)).setCell ⟨w2.heap.size, 2, none⟩ (.int .i64 kc.set.most)).setCell ⟨w2.heap.size, 3, none⟩ (.slice a10 kc.ps.length c10)).setCell ⟨w2.heap.size, 4, none⟩ (.int .i64 kc.base)).setCell ⟨w2.heap.size, 5, none⟩ (.int .i64 kc.last)).setCell ⟨w2.heap.size, 6, none⟩ (.string (bs e9))).setCell ⟨w2.heap.size, 7, none⟩ (.string (bs b10))).setCell ⟨w2.heap.size, 8, none⟩ (.bool true)) w.heap.size vv ps := fun vv ps h => by
            have hne1 : some w2.heap.size ≠ Value.ownBlock vv := box_ne HQ.out.1 h (by decide)
            repeat (with_reducible refine ownsRow_setb ?_ hne1 _ _)
            exact h
          have HALL0 := Lib.hid (And.intro hY (And.intro hZ (And.intro hU5 hown)))
          clear hY hZ hU5 hown hne3
          unfold wrV
          go_wp2_with fail
          clear r0 r1 r2 r3 r4 r5 r6 r7 r8 hfx
          generalize (((((((((wq.setCell ⟨w2.heap.size, 0, none⟩ (.int .i64 kc.set.ord)).setCell ⟨w2.heap.size, 1, none⟩ (.int .i64 kc.set.lit)).setCell ⟨w2.heap.size, 2, none⟩ (.int .i64 kc.set.most)).setCell ⟨w2.heap.size, 3, none⟩ (.slice a10 kc.ps.length c10)).setCell ⟨w2.heap.size, 4, none⟩ (.int .i64 kc.base)).setCell ⟨w2.heap.size, 5, none⟩ (.int .i64 kc.last)).setCell ⟨w2.heap.size, 6, none⟩ (.string (bs e9))).setCell ⟨w2.heap.size, 7, none⟩ (.string (bs b10))).setCell ⟨w2.heap.size, 8, none⟩ (.bool true)) = W9 at HALL0 ⊢
          have hO9 : (.slice a10 kc.ps.length c10 = Value.slice a x.k.ps.length cap ∧ kc.ps = x.k.ps) ∨ ownPr W9 w.heap.size (.slice a10 kc.ps.length c10) kc.ps := by
            rcases H10.out with ⟨h1, h2⟩ | h
            · rw [h1, h2]
              exact HA.out.2.2.2.imp id (fun h => HALL0.out.2.2.2 _ _ (ownsRow_up h HUQ.out))
            · exact .inr (HALL0.out.2.2.2 _ _ (ownsRow_base h (by omega)))
          have HO9 := Lib.hid hO9
          clear hO9
          go_roundw
          case rel => exact ⟨m - 1, kc, e9, b10, _, HN.out, HALL0.out.1, HALL0.out.2.1, HALL0.out.2.2.1, HO9.out⟩
          case measure => rw [HM.out, plenC_at HALL0.out.1]; exact hdl9
        · have hf : k9.full = false := by unfold KnD.full; rw [decide_eq_false e2, Bool.and_false]
          have HN := Lib.hid (HX9.out.2 hf)
          clear hf
          generalize k9.next = nx9 at *
          generalize lastC k9.set = lc9 at *
          refine wp_region_up 18 (by kernel_rfl) (by kernel_rfl) ?_
          simp only [List.take, List.drop]
          repeat (refine wpUp_step (fun K hK => ?_); go_simp; (try simp only [↓IntWalk.iteOmega]); first
            | (refine hK _ _ ?_; clear hK K)
            | (apply stepU_c
               · intro wq hwq; (have hbq := bcell hwq; (repeat (first | refine fills_no (by rfl) ?_ | refine fills_yes (by rfl) (fun vq hvq => ?_))); simp only [List.filter_nil, fills]; unfold upAt; (try ((obtain ⟨-, r0, r1, r2, r3, r4, r5, r6, r7, r8⟩ := (HALL.out.1.up hwq).cells))); go_simp; (try go_bits); (try simp only [↓IntWalk.iteOmega]); (try (rw [dif_pos (by omega)]; go_simp; try go_bits)); first | exact upOut_value | (apply upOut_call; (go_at_call 108; exact cN _ (hrd9 _ hwq))) | (apply upOut_eq; (go_at_call 108; exact cN _ (hrd9 _ hwq))) | (apply upOut_call; (go_at_call 109; exact cLa _)) | (apply upOut_eq; (go_at_call 109; exact cLa _)))
               go_simp; refine hK _ _ ?_; clear hK K))
          refine wpUp_nil (fun wq hwq => ?_)
          simp only [fills]
          go_wp2_with fail
          go_roundw
          case rel => exact ⟨m - 1, k9, e9, b9, _, HN.out, HALL.out.1.up hwq, HALL.out.2.1.up hwq, HALL.out.2.2.1.trans hwq, HALL.out.2.2.2.imp id (fun h => ownsRow_up h hwq)⟩
          case measure => rw [HM.out, plenC_at (HALL.out.1.up hwq)]; exact hdl9
      · have hf : k9.full = false := by unfold KnD.full; rw [decide_eq_false e1, Bool.false_and]
        have HN := Lib.hid (HX9.out.2 hf)
        clear hf
        generalize k9.next = nx9 at *
        generalize lastC k9.set = lc9 at *
        refine wp_region_up 18 (by kernel_rfl) (by kernel_rfl) ?_
        simp only [List.take, List.drop]
        repeat (refine wpUp_step (fun K hK => ?_); go_simp; (try simp only [↓IntWalk.iteOmega]); first
          | (refine hK _ _ ?_; clear hK K)
          | (apply stepU_c
             · intro wq hwq; (have hbq := bcell hwq; (repeat (first | refine fills_no (by rfl) ?_ | refine fills_yes (by rfl) (fun vq hvq => ?_))); simp only [List.filter_nil, fills]; unfold upAt; (try ((obtain ⟨-, r0, r1, r2, r3, r4, r5, r6, r7, r8⟩ := (HALL.out.1.up hwq).cells))); go_simp; (try go_bits); (try simp only [↓IntWalk.iteOmega]); (try (rw [dif_pos (by omega)]; go_simp; try go_bits)); first | exact upOut_value | (apply upOut_call; (go_at_call 108; exact cN _ (hrd9 _ hwq))) | (apply upOut_eq; (go_at_call 108; exact cN _ (hrd9 _ hwq))) | (apply upOut_call; (go_at_call 109; exact cLa _)) | (apply upOut_eq; (go_at_call 109; exact cLa _)))
             go_simp; refine hK _ _ ?_; clear hK K))
        refine wpUp_nil (fun wq hwq => ?_)
        simp only [fills]
        go_wp2_with fail
        go_roundw
        case rel => exact ⟨m - 1, k9, e9, b9, _, HN.out, HALL.out.1.up hwq, HALL.out.2.1.up hwq, HALL.out.2.2.1.trans hwq, HALL.out.2.2.2.imp id (fun h => ownsRow_up h hwq)⟩
        case measure => rw [HM.out, plenC_at (HALL.out.1.up hwq)]; exact hdl9
end Go.Proofs.YtekogcjdaolcbaaGreatDoor

