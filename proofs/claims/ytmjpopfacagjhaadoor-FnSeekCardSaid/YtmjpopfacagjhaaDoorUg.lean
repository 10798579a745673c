/- A region whose order is open, all but one of whose operations only make new memory, and one of which writes into a row of the call's own (an append, a store): walked once in the order of the text. Conditions: those of the theorem wp_region_own. -/
import Derived.Test.YtmjpopfacagjhaaDoorBa
namespace Go.Proofs.YtmjpopfacagjhaaDoor
set_option linter.unusedVariables false
set_option linter.unusedSimpArgs false
open Go Go.RowKit

section
variable {P : Program} {ops : Array Oper}

def gC (wr : World) (row : Option Nat) (j0 j : Nat) (w : World) : Prop := if j = j0 then Up wr w else wr.grownBy w row
def gR (row : Option Nat) (j0 j : Nat) (w w' : World) : Prop := if j = j0 then w.grownBy w' row else Up w w'
def gK (row : Option Nat) (j0 j : Nat) (w w' : World) : Prop := if j = j0 then Up w w' else w.grownBy w' row

/-- The lexical walk, behind a name that nothing unfolds. -/
structure WG (P : Program) (ops : Array Oper) (wr : World) (row : Option Nat) (j0 : Nat) (Z : Act → World → Prop) (l : List Oper) (k : Nat) (E : List Mk) (a : Act) : Prop where
  out : wpG P ops (gR row j0) (gK row j0) (gC wr row j0) Z l k E a

/-- THE THEOREM: operation j0 writes into the row of the call's own; the first n0 operations are walked in the order of the text; then the tail. -/
theorem wp_region_own (n0 j0 : Nat) (row : Option Nat) {id : Nat} {Q : Exit → Act → World → Prop} {a : Act} {w : World} {l : List Oper} (hm : P.follows .mixedOrders = true) (hB : upB l.toArray n0 = true)
    (h : WG P l.toArray w row j0 (fun a' w' => wpList P l.toArray Q (l.drop n0) a' w') (l.take n0) 0 [] a) : (Code.region id l.toArray true).wp P Q a w := by
  have T := upB_text hB
  have hle : n0 ≤ l.length := by simpa using T.le
  obtain ⟨D, hU, hT, hZ⟩ := wpG_text (R := gR row j0) (Kc := gK row j0) (C := gC w row j0) (Z := fun a' w' => wpList P l.toArray Q (l.drop n0) a' w') (a0 := a) (n0 := n0) T.c (l.take n0) 0 [] a (fun _ => False) (fun _ => undef) (fun _ _ _ => False) (by simp [hle]) (fun j hj => by
    simp only [List.length_take] at hj
    simp [show j < n0 by omega]) ⟨(Desc.refl a (fun _ => undef)).congr (fun i => by simp) (fun _ h => h.elim), fun i hi => absurd hi (Nat.not_lt_zero _), fun m hm => (by cases hm), fun i hi => absurd hi (Nat.not_lt_zero _)⟩
    (fun i hi => absurd hi (Nat.not_lt_zero _)) (fun j o hj => absurd hj (Nat.not_lt_zero _)) h.out
  refine wp_region_any hm (wpAny_g (R := gR row j0) (Kc := gK row j0) (C := gC w row j0) (I := fun S w' => w.grownBy w' row ∧ (¬ S j0 → Up w w')) (fun S w' j hI hS => ?_) (fun S w1 w2 j hI hS hR => ?_) (fun j w' => ?_) (fun k j w1 w2 hne hR => ?_) (a0 := a) T hU hT (by simpa using hZ) _ (List.range n0) _ a _ (fun _ => undef) (by simp; omega) (fun i hi _ => List.mem_range.2 hi) (by simp) (fun i hi his => by
    have : i < l.length := by simpa using his
    simp [this]) (fun j o ho hj => ?_) ?_ ?_ ?_)
  · unfold gC
    split
    · next e => subst e; exact hI.2 hS
    · exact hI.1
  · unfold gR at hR
    split at hR
    · next e => subst e; exact ⟨grownBy_trans hI.1 hR, fun h => absurd (.inr rfl) h⟩
    · next e => exact ⟨grownBy_up hI.1 hR, fun h => (hI.2 fun h' => h (.inl h')).trans hR⟩
  · unfold gR
    split
    · exact grownBy_refl _ _
    · exact Up.refl _
  · unfold gR at hR
    unfold gK
    split at hR
    · next e => subst e; rw [if_neg (fun e => hne e.symm)]; exact hR
    · split
      · exact hR
      · exact up_grownBy hR _
  · rw [getD_replicate_false] at hj; cases hj
  · exact ⟨up_grownBy (Up.drew (Up.refl w)) _, fun _ => Up.drew (Up.refl w)⟩
  · exact (Desc.refl a (fun _ => undef)).congr (fun i => by rw [getD_replicate_false]; simp) (fun _ h => h.elim)
  · intro i hi; rw [getD_replicate_false] at hi; cases hi

section
variable {wr : World} {row : Option Nat} {j0 : Nat} {Z : Act → World → Prop} {o : Oper} {rest : List Oper} {k : Nat} {E : List Mk} {a : Act}
/-- One operation's step, behind a name. -/
def stepG (P : Program) (ops : Array Oper) (wr : World) (row : Option Nat) (j0 : Nat) (E : List Mk) (k : Nat) (o : Oper) (a : Act) (K : List Mk → Act → Prop) : Prop :=
  (∃ v, (∀ w, gC wr row j0 k w → fills (E.filter fun m => waitsB o m.1) a w (fun a' => gAt P (gR row j0 k) o a' w (fun v' _ => v' = v))) ∧ K E (a.put o.dst v)) ∨
  (∃ D, guardFree ops k = true ∧ (∀ v w w', D v w → gK row j0 k w w' → D v w') ∧ (∀ w, gC wr row j0 k w → fills (E.filter fun m => waitsB o m.1) a w (fun a' => gAt P (gR row j0 k) o a' w D)) ∧ K ((k, o.dst, D) :: E) a)
theorem wpG_step (h : ∀ K : List Mk → Act → Prop, (∀ E a, WG P ops wr row j0 Z rest (k + 1) E a → K E a) → if Region.wanted o (yielded ops a.tmps) then stepG P ops wr row j0 E k o a K else K E (a.put o.dst undef)) : WG P ops wr row j0 Z (o :: rest) k E a := by
  have := h (fun E a => wpG P ops (gR row j0) (gK row j0) (gC wr row j0) Z rest (k + 1) E a) fun _ _ h => h.out
  refine ⟨?_⟩
  unfold wpG
  exact this
theorem stepG_c {K : List Mk → Act → Prop} (hk : (k == j0) = false) (v : Value) (h1 : ∀ w, wr.grownBy w row → fills (E.filter fun m => waitsB o m.1) a w (fun a' => upAt P o a' w (fun v' _ => v' = v))) (h2 : K E (a.put o.dst v)) : stepG P ops wr row j0 E k o a K := by
  have hk' : ¬ k = j0 := by simpa using hk
  refine .inl ⟨v, fun w hC => ?_, h2⟩
  unfold gC at hC
  rw [if_neg hk'] at hC
  refine fills_mono (fun a' h => ?_) (h1 w hC)
  have : gR row j0 k = Up := by funext w w'; unfold gR; rw [if_neg hk']
  rw [this]; exact gAt_up h
theorem stepG_m {K : List Mk → Act → Prop} (hk : (k == j0) = false) (hg : guardFree ops k = true) (D : Value → World → Prop) (hD : ∀ v w w', D v w → w.grownBy w' row → D v w')
    (h1 : ∀ w, wr.grownBy w row → fills (E.filter fun m => waitsB o m.1) a w (fun a' => upAt P o a' w D)) (h2 : K ((k, o.dst, D) :: E) a) : stepG P ops wr row j0 E k o a K := by
  have hk' : ¬ k = j0 := by simpa using hk
  refine .inr ⟨D, hg, fun v w w' h hK => hD v w w' h (by unfold gK at hK; rwa [if_neg hk'] at hK), fun w hC => ?_, h2⟩
  unfold gC at hC
  rw [if_neg hk'] at hC
  refine fills_mono (fun a' h => ?_) (h1 w hC)
  have : gR row j0 k = Up := by funext w w'; unfold gR; rw [if_neg hk']
  rw [this]; exact gAt_up h
theorem stepG_own {K : List Mk → Act → Prop} (hk : (k == j0) = true) (hg : guardFree ops k = true) (D : Value → World → Prop) (hD : ∀ v, UpClosed (D v))
    (h1 : ∀ w, Up wr w → fills (E.filter fun m => waitsB o m.1) a w (fun a' => gAt P (fun w w' => w.grownBy w' row) o a' w D)) (h2 : K ((k, o.dst, D) :: E) a) : stepG P ops wr row j0 E k o a K := by
  have hk' : k = j0 := by simpa using hk
  refine .inr ⟨D, hg, fun v w w' h hK => hD v w w' h (by unfold gK at hK; rwa [if_pos hk'] at hK), fun w hC => ?_, h2⟩
  unfold gC at hC
  rw [if_pos hk'] at hC
  refine fills_mono (fun a' h => ?_) (h1 w hC)
  have : gR row j0 k = (fun w w' => w.grownBy w' row) := by funext w w'; unfold gR; rw [if_pos hk']
  rw [this]; exact h
theorem wpG_nil (hk : (k == j0) = false) (h : ∀ w, wr.grownBy w row → fills E a w (fun a' => Z a' w)) : WG P ops wr row j0 Z [] k E a := by
  refine ⟨fun w hC => h w ?_⟩
  unfold gC at hC
  rwa [if_neg (by simpa using hk)] at hC
end

/-- An append onto a row of the call's own. -/
theorem gAt_append {o : Oper} {a : Act} {w : World} (s x : Operand) (t : TypeId)
    (ho : o.op = .call { callee := .builtin .append, args := #[s, x], argTypes := #[t, t] })
    (base : Nat) (e : TypeId) (i : TypeInfo) (z : Value) (size bytes : Nat) (ht : P.underlying t = some (.slice e)) (hi : P.info? e = some i) (hz : i.zero = some z)
    (hsize : i.size = size) (hby : i.bytes = bytes) (hzs : z.cells.size = size) (hsz : 0 < size)
    (v : Value) (n : Nat) (xs : List Value) (hs : a.eval s = v) (hown : w.ownsRow base e size v n xs)
    (ad : Addr) (m c : Nat) (news : List Value) (hx : a.eval x = .slice (some ad) m c) (hl : news.length = m * size) (hnews : ∀ j u, news[j]? = some u → w.cell? (ad.add j) = some u) (h1 : ∀ u ∈ news, u.oneCell' = true)
    (h63 : n + m ≤ maxLen) (hbytes : (n + m) * bytes ≤ 140737488355328) (hbase : base ≤ w.heap.size)
    (row : Option Nat) (hrow : v.ownBlock = row) : gAt P (fun w w' => w.grownBy w' row) o a w (fun v' w' => w'.ownsRow base e size v' (n + m) (xs ++ news)) := by
  obtain ⟨v', w', hr, h2, h3, h4⟩ := run_append_own (P := P) w base t o.type e i z size bytes ht hi hz hsize hby hzs hsz v n xs hown ad m c news hl hnews h1 h63 hbytes hbase
  unfold gAt execOp
  simp only [ho, resolve, invoke, builtin, Sem.run_bind, Sem.run_pure, Result.andThen_ok, List.map_toArray, List.map_cons, List.map_nil, hs, hx, hr]
  exact ⟨hrow ▸ h3, h2⟩

/-- An append that must grow only makes memory. -/
theorem run_append_new (base : Nat) (t ty e : TypeId) (i : TypeInfo) (z : Value) (size bytes : Nat) (ht : P.underlying t = some (.slice e)) (hi : P.info? e = some i) (hz : i.zero = some z)
    (hsize : i.size = size) (hby : i.bytes = bytes) (hzs : z.cells.size = size) (hsz : 0 < size)
    (w : World) (g n cap : Nat) (xs : List Value) (hown : w.ownsRow base e size (.slice (some ⟨g, 0, none⟩) n cap) n xs)
    (ad : Addr) (m c : Nat) (news : List Value) (hl : news.length = m * size) (hnews : ∀ j u, news[j]? = some u → w.cell? (ad.add j) = some u) (h1 : ∀ u ∈ news, u.oneCell' = true)
    (h63 : n + m ≤ maxLen) (hbytes : (n + m) * bytes ≤ 140737488355328) (hbase : base ≤ w.heap.size) (hg : cap < n + m) :
    ∃ v' w', (Builtin.append_ #[t, t] ty #[.slice (some ⟨g, 0, none⟩) n cap, .slice (some ad) m c]).run P w = .ok v' w' ∧ w'.ownsRow base e size v' (n + m) (xs ++ news) ∧ Up w w' := by
  obtain ⟨v', w', hr, h2, h3, h4⟩ := run_append_own (P := P) w base t ty e i z size bytes ht hi hz hsize hby hzs hsz _ n xs hown ad m c news hl hnews h1 h63 hbytes hbase
  subst hsize hby
  have hr2 := run_append_grow (P := P) w t ty e i z ht hi hz ⟨g, 0, none⟩ n cap xs hown.1 (hown.cells (g := g) rfl) ad m c news hl hnews hg (by unfold maxLen at h63; omega) (growslice_fits (by omega) hbytes)
  rw [hr] at hr2
  simp only [Result.ok.injEq] at hr2
  refine ⟨v', w', hr, h2, ?_⟩
  have hu : Up w (w.drew.alloc (.cells (xs.toArray ++ news.toArray ++ Builtin.zeroCells z.cells (grownCap w (n + m) cap e - (n + m))) e)) := by
    have h0 : Up w w := Up.refl w
    have h1 : Up w w.drew := Up.drew h0
    exact Up.alloc h1 _
  rw [hr2.2]
  exact hu

theorem gcell {W w1 : World} {row : Option Nat} (hb : W.grownBy w1 row) : (∀ b o, b < W.heap.size → some b ≠ row → w1.cell? ⟨b, o, none⟩ = W.cell? ⟨b, o, none⟩) ∧ (∀ b o, b < W.heap.size → some b ≠ row → w1.frozen? ⟨b, o, none⟩ = W.frozen? ⟨b, o, none⟩) :=
  ⟨fun b o h hne => by unfold World.cell?; rw [hb.block b h hne], fun b o h hne => by unfold World.frozen?; rw [hb.block b h hne]⟩
theorem gbox {W w1 : World} {row : Option Nat} (hb : W.grownBy w1 row) {b : Nat} {o : Obj} (h : W.heap[b]? = some o) (hne : some b ≠ row) : w1.heap[b]? = some o :=
  (hb.block b (Array.getElem?_eq_some_iff.1 h).1 hne).trans h

end
end Go.Proofs.YtmjpopfacagjhaaDoor
