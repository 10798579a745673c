/- Appends outside a region: pairs onto nil, a string onto a row of bytes. Conditions: as each says. -/
import Derived.Test.YtiiahjnfbhcgmaaGreatDoorTree4
import Derived.Test.YtiiahjnfbhcgmaaGreatDoorWk
namespace Go.Proofs.YtiiahjnfbhcgmaaGreatDoor
set_option linter.unusedVariables false
set_option linter.unusedSimpArgs false
open Go Go.RowKit

/-- Pairs that can be read, appended to nil: a row of the call's own. -/
theorem run_copy_nil {lo : Nat} {w : World} {vx : Value} {ps : List PairD} (ty : TypeId) (hr : RdP lo w vx ps) (hl : ps.length ≤ 1048576) :
    ∃ v' w', (Builtin.append_ #[25, 25] ty #[.slice none 0 0, vx]).run Tryz.prog w = .ok v' w' ∧ ownPr w' w.heap.size v' ps ∧ Up w w' := by
  obtain ⟨i0, hi, hz0, hz1, hz2⟩ := info_parts infoPair
  obtain ⟨ad, cap, rfl, hc1, hc2, hc3, hsome⟩ := hr
  have hn : w.ownsRow w.heap.size 149 2 (.slice none 0 0) 0 [] := World.ownsRow_nil _ _ _ _
  cases ad with
  | none =>
    obtain ⟨h1, h2⟩ := hc3 rfl
    have hps : ps = [] := List.length_eq_zero_iff.1 h1
    subst hps
    have hrun := run_append_owned_none (P := Tryz.prog) (w := w) w.heap.size 25 ty 149 i0 2 Tryz.underlying25 hi _ 0 [] hn
    rw [h2]
    exact ⟨_, _, hrun, hn, Up.refl _⟩
  | some ad =>
    have hnews : ∀ j u, (cellsPr ps)[j]? = some u → w.cell? (ad.add j) = some u := by
      intro j u hj
      by_cases hp : 0 < ps.length
      · obtain ⟨b, off, e1, e2, e3, e4⟩ := hsome hp
        cases e1
        exact RdP.news (lo := lo) (n := 0) (cap := 0) e4 j u hj
      · have hps : ps = [] := List.length_eq_zero_iff.1 (by omega)
        subst hps
        simp [cellsPr] at hj
    obtain ⟨v', w', hr, h2, h3, h4⟩ := run_append_own (P := Tryz.prog) w w.heap.size 25 ty 149 i0 (.agg #[.int .i64 0, .int .i64 0]) 2 16 Tryz.underlying25 hi hz0 hz1 hz2 rfl (by decide) _ 0 [] hn ad ps.length cap (cellsPr ps) (cellsPr_length ps) hnews (cellsPr_one ps) (by unfold maxLen; omega) (by omega) (Nat.le_refl _)
    rw [Nat.zero_add, List.nil_append] at h2
    exact ⟨v', w', hr, h2, Up.grown (Up.refl _) h3 (fun y hy => by cases hy)⟩
theorem wpList_copy {ops : Array Oper} {rest : List Oper} {o : Oper} {a : Act} {w : World} {Q : Exit → Act → World → Prop} (hgd : o.guard = none) (s x : Operand)
    (ho : o.op = .call { callee := .builtin .append, args := #[s, x], argTypes := #[25, 25] }) (hs : a.eval s = .slice none 0 0) {lo : Nat} {vx : Value} {ps : List PairD} (hx : a.eval x = vx) (hr : RdP lo w vx ps) (hl : ps.length ≤ 1048576)
    (h : ∀ v' w', ownPr w' w.heap.size v' ps → Up w w' → wpList Tryz.prog ops Q rest (a.put o.dst v') w') : wpList Tryz.prog ops Q (o :: rest) a w :=
  wpList_plain hgd fun _ hK => by
    obtain ⟨v', w', hr, h2, h3⟩ := run_copy_nil o.type hr hl
    unfold Oper.wp execOp
    simp only [ho, resolve, invoke, builtin, Sem.run_bind, Sem.run_pure, Result.andThen_ok, List.map_toArray, List.map_cons, List.map_nil, hs, hx, hr]
    exact hK _ _ (h v' w' h2 h3)
theorem upAt_copyN {o : Oper} {a : Act} {w : World} (s x : Operand) (ho : o.op = .call { callee := .builtin .append, args := #[s, x], argTypes := #[25, 25] })
    (base lo : Nat) {vx : Value} (hs : a.eval s = .slice none 0 0) (hx : a.eval x = vx) (ps : List PairD) (hr : RdP lo w vx ps) (hl : ps.length ≤ 1048576) (hbase : base ≤ w.heap.size) :
    upAt Tryz.prog o a w (fun v' w' => ownPr w' base v' ps) := by
  obtain ⟨v', w', hrun, h2, h3⟩ := run_copy_nil o.type hr hl
  exact upAt_run s x _ ho hs hx hrun h3 (ownsRow_base h2 hbase)
theorem wpList_append_str {ops : Array Oper} {rest : List Oper} {o : Oper} {a : Act} {w : World} {Q : Exit → Act → World → Prop} (hgd : o.guard = none) (sl x : Operand) (ho : o.op = .call { callee := .builtin .append, args := #[sl, x], argTypes := #[22, 9] })
    (base : Nat) (v : Value) (d l : List UInt8) (hs : a.eval sl = v) (hown : ownU w base v d) (hx : a.eval x = .string (bs l)) (h1 : d.length ≤ 1048576) (h2 : l.length ≤ 1048576) (hbase : base ≤ w.heap.size)
    (h : ∀ v' w', ownU w' base v' (d ++ l) → w.grownBy w' v.ownBlock → wpList Tryz.prog ops Q rest (a.put o.dst v') w') : wpList Tryz.prog ops Q (o :: rest) a w :=
  wpList_plain hgd fun _ hK => (gAt_append_str sl x ho base v d l hs hown hx h1 h2 hbase _ rfl).wp (fun v' w' hg hD => hK _ _ (h v' w' hD hg))

end Go.Proofs.YtiiahjnfbhcgmaaGreatDoor
