/- Rows of pairs: copies of them, and the reference's l2Cleared. Conditions: what is known is valid (KnD.Ok) and can be read. -/
import Derived.Test.YtnbmkoapohjnmaaKn2
namespace Go.Proofs.Ytnbmkoapohjnmaa
set_option linter.unusedVariables false
set_option linter.unusedSimpArgs false
open Go Go.RowKit

theorem infoPair : (Try.prog.info? 96).map (fun i => (i.zero, i.size, i.bytes)) = some (some (.agg #[.int .i64 0, .int .i64 0]), 2, 16) := by kernel_rfl
def prC (p : PairD) : List Value := [.int .i64 p.pre, .int .i64 p.byt]
def cellsPr (l : List PairD) : List Value := l.flatMap prC
theorem cellsPr_length (l : List PairD) : (cellsPr l).length = l.length * 2 := by
  induction l with
  | nil => rfl
  | cons b l ih => simp only [cellsPr, List.flatMap_cons, List.length_append, List.length_cons] at ih ⊢; simp only [prC, List.length_cons, List.length_nil]; omega
theorem cellsPr_snoc (l : List PairD) (b : PairD) : cellsPr (l ++ [b]) = cellsPr l ++ prC b := by simp [cellsPr]
theorem cellsPr_get (l : List PairD) (i j : Nat) (b : PairD) (hb : l[i]? = some b) (hj : j < 2) : (cellsPr l)[i * 2 + j]? = (prC b)[j]? := by
  induction l generalizing i with
  | nil => simp at hb
  | cons a l ih =>
    have e : cellsPr (a :: l) = prC a ++ cellsPr l := rfl
    rw [e]
    cases i with
    | zero =>
      simp at hb; subst hb
      rw [List.getElem?_append_left (by simp [prC]; omega)]
      simp
    | succ i =>
      rw [List.getElem?_append_right (by simp [prC]; omega)]
      rw [← ih i (by simpa using hb)]
      congr 1
      simp [prC]; omega
theorem prC_one (b : PairD) : ∀ u ∈ prC b, u.oneCell' = true := by
  intro u hu
  simp only [prC, List.mem_cons, List.not_mem_nil, or_false] at hu
  rcases hu with rfl | rfl <;> rfl
theorem cellsPr_one (l : List PairD) : ∀ u ∈ cellsPr l, u.oneCell' = true := by
  intro u hu
  obtain ⟨p, -, hp⟩ := List.mem_flatMap.1 hu
  exact prC_one p u hp
/-- A row of pairs of the call's own. -/
abbrev ownPr (w : World) (base : Nat) (v : Value) (ps : List PairD) : Prop := w.ownsRow base 96 2 v ps.length (cellsPr ps)
theorem RdP.of_own {w : World} {base : Nat} {v : Value} {ps : List PairD} (h : ownPr w base v ps) : RdP base w v ps := by
  rcases ownsRow_read h with ⟨rfl, h2⟩ | ⟨g, cap, rfl, h1, h2, h3, h4, h5⟩
  · exact ⟨none, 0, by rw [h2], by omega, by unfold maxLen; omega, fun _ => ⟨h2, rfl⟩, fun h => by omega⟩
  · refine ⟨some ⟨g, 0, none⟩, cap, rfl, h1, h2, (fun e => by cases e), fun _ => ⟨g, 0, rfl, h3, h4, fun i p hi => ⟨?_, ?_⟩⟩⟩
    · rw [Nat.zero_add]; exact h5 _ _ (cellsPr_get ps i 0 p hi (by omega))
    · rw [Nat.zero_add]; exact h5 _ _ (cellsPr_get ps i 1 p hi (by omega))
theorem RdP.news {lo : Nat} {w : World} {b off n cap : Nat} {ps : List PairD} (h : ∀ i p, ps[i]? = some p → w.cell? ⟨b, off + i * 2, none⟩ = some (.int .i64 p.pre) ∧ w.cell? ⟨b, off + i * 2 + 1, none⟩ = some (.int .i64 p.byt)) :
    ∀ j u, (cellsPr ps)[j]? = some u → w.cell? ((⟨b, off, none⟩ : Addr).add j) = some u := by
  intro j u hu
  have hadd : (⟨b, off, none⟩ : Addr).add j = ⟨b, off + j, none⟩ := by unfold Addr.add; split <;> simp_all
  rw [hadd]
  have hj : j < ps.length * 2 := by rw [← cellsPr_length]; exact (List.getElem?_eq_some_iff.1 hu).1
  obtain ⟨i, r, rfl, hr⟩ : ∃ i r, j = i * 2 + r ∧ r < 2 := ⟨j / 2, j % 2, by omega, by omega⟩
  have hi : i < ps.length := by omega
  rw [cellsPr_get ps i r ps[i] (List.getElem?_eq_getElem hi) hr] at hu
  obtain ⟨h1, h2⟩ := h i _ (List.getElem?_eq_getElem hi)
  rcases (by omega : r = 0 ∨ r = 1) with rfl | rfl
  · simp only [prC, List.getElem?_cons_zero, Option.some.injEq] at hu
    subst hu; exact h1
  · simp only [prC, List.getElem?_cons_succ, List.getElem?_cons_zero, Option.some.injEq] at hu
    subst hu; exact h2

section
variable {P : Program}
theorem upAt_run {o : Oper} {a : Act} {w : World} {D : Value → World → Prop} (s x : Operand) (t : TypeId) (ho : o.op = .call { callee := .builtin .append, args := #[s, x], argTypes := #[t, t] }) {vs vx : Value} (hs : a.eval s = vs) (hx : a.eval x = vx) {v' : Value} {w' : World}
    (hr : (Builtin.append_ #[t, t] o.type #[vs, vx]).run P w = .ok v' w') (hu : Up w w') (hD : D v' w') : upAt P o a w D := by
  unfold upAt execOp
  simp only [ho, resolve, invoke, builtin, Sem.run_bind, Sem.run_pure, Result.andThen_ok, List.map_toArray, List.map_cons, List.map_nil, hs, hx, hr]
  exact ⟨hu, hD⟩
theorem run_append_zero (w : World) (t ty e : TypeId) (i : TypeInfo) (ht : P.underlying t = some (.slice e)) (hi : P.info? e = some i) (g n cap : Nat) (hn : n ≤ cap) (ad : Addr) (c : Nat) :
    (Builtin.append_ #[t, t] ty #[.slice (some ⟨g, 0, none⟩) n cap, .slice (some ad) 0 c]).run P w = .ok (.slice (some ⟨g, 0, none⟩) n cap) w := by
  simp [Builtin.append_, run_underlying ht, sizeOf, typeInfo, hi, Builtin.lenOf, Builtin.firstCells, loadCells, loadCellsFrom, hn, storeCells]
end

/-- An append of pairs that can be read onto an empty row of the call's own. -/
theorem upAt_copy {o : Oper} {a : Act} {w : World} (s x : Operand) (ho : o.op = .call { callee := .builtin .append, args := #[s, x], argTypes := #[52, 52] })
    (base lo : Nat) {vs vx : Value} (hs : a.eval s = vs) (hx : a.eval x = vx) {g : Nat} (hvs : vs = .slice (some ⟨g, 0, none⟩) 0 0) (hown : w.ownsRow base 96 2 vs 0 []) (ps : List PairD) (hr : RdP lo w vx ps) (hl : ps.length ≤ 1048576) (hbase : base ≤ w.heap.size) :
    upAt Try.prog o a w (fun v' w' => ownPr w' base v' ps) := by
  obtain ⟨i0, hi, hz0, hz1, hz2⟩ := info_parts infoPair
  subst hvs
  obtain ⟨ad, cap, rfl, hc1, hc2, hc3, hsome⟩ := hr
  cases ad with
  | none =>
    obtain ⟨h1, h2⟩ := hc3 rfl
    have hps : ps = [] := List.length_eq_zero_iff.1 h1
    subst hps
    have hrun := run_append_owned_none (P := Try.prog) (w := w) base 52 o.type 96 i0 2 Try.underlying52 hi _ 0 [] hown
    rw [h2] at hx
    exact upAt_run s x _ ho hs hx hrun (Up.refl _) hown
  | some ad =>
    by_cases hp : 0 < ps.length
    · obtain ⟨b, off, e1, e2, e3, e4⟩ := hsome hp
      cases e1
      obtain ⟨v', w', hrun, h1, h2⟩ := run_append_new (P := Try.prog) base 52 o.type 96 i0 (.agg #[.int .i64 0, .int .i64 0]) 2 16 Try.underlying52 hi hz0 hz1 hz2 rfl (by decide) w g 0 0 [] hown ⟨b, off, none⟩ ps.length cap (cellsPr ps) (cellsPr_length ps)
        (RdP.news (lo := lo) (n := 0) (cap := 0) e4) (cellsPr_one ps) (by unfold maxLen; omega) (by omega) hbase (by omega)
      rw [Nat.zero_add, List.nil_append] at h1
      exact upAt_run s x _ ho hs hx hrun h2 h1
    · have hps : ps = [] := List.length_eq_zero_iff.1 (by omega)
      subst hps
      have hrun := run_append_zero (P := Try.prog) w 52 o.type 96 i0 Try.underlying52 hi g 0 0 (Nat.le_refl _) ad cap
      exact upAt_run s x _ ho hs hx hrun (Up.refl _) hown

/-- An empty slice of pairs, made. -/
def MtP (base : Nat) (v : Value) (w : World) : Prop := ∃ g, v = .slice (some ⟨g, 0, none⟩) 0 0 ∧ w.ownsRow base 96 2 v 0 []
theorem mtP_closed (base : Nat) (v : Value) : UpClosed (MtP base v) := fun w w' ⟨g, h1, h2⟩ hu => ⟨g, h1, ownsRow_up h2 hu⟩
theorem mtP_new {base : Nat} {w : World} (h : base ≤ w.heap.size) : MtP base (.slice (some ⟨w.heap.size, 0, none⟩) 0 0) (w.alloc (.cells #[] 96)) := ⟨_, rfl, World.ownsRow_made _ _ _ h (by unfold maxLen; omega) (by simp)⟩
theorem ownPr_closed (base : Nat) (ps : List PairD) (v : Value) : UpClosed (fun w => ownPr w base v ps) := fun w w' h hu => ownsRow_up h hu
/-- What is known, its pairs a row of the call's own. -/
def KnO (base : Nat) (k : KnD) (u : Value) (w : World) : Prop := ∃ v, u = kV k v ∧ ownPr w base v k.ps
theorem knO_closed (base : Nat) (k : KnD) (u : Value) : UpClosed (KnO base k u) := fun w w' ⟨v, h1, h2⟩ hu => ⟨v, h1, ownsRow_up h2 hu⟩

end Go.Proofs.Ytnbmkoapohjnmaa
