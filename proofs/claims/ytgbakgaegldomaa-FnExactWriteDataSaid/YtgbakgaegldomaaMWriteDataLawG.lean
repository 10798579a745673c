/- Texts joined into one: the walks and laws that the last text leans on. Conditions: as each says. -/
import Derived.Test.YtgbakgaegldomaaMWriteDataLawC
import Derived.Test.YtgbakgaegldomaaMWriteDataLawD
import Derived.Test.YtgbakgaegldomaaMWriteDataLawF
import Derived.Deep.SlicePairs

/- Arguments of the laws: what is known, and a writer, handed in as data. Conditions: none. -/
namespace Go.Proofs.Ytgbakgaegldomaa
set_option linter.unusedVariables false
set_option linter.unusedSimpArgs false
open Go Go.RowKit Go.ChangeShapes Go.WideShapes Go.ChangeAt Go.Joins Go.Deep

theorem array9 {cs : Array Value} (h : cs.size = 9) : ∃ c0 c1 c2 c3 c4 c5 c6 c7 c8, cs = #[c0, c1, c2, c3, c4, c5, c6, c7, c8] := by
  obtain ⟨l⟩ := cs
  have h : l.length = 9 := h
  match l, h with
  | [c0, c1, c2, c3, c4, c5, c6, c7, c8], _ => exact ⟨_, _, _, _, _, _, _, _, _, rfl⟩
theorem open_argPr {H : Type} {enc : TypeId × Value → H} {W : World} {fuel : Nat} {a0 : Option Addr} {len cap : Nat} {d : DataW H} {p : List MemPlace}
    (h : DataW.trod enc Try.prog W 0 (fun _ => true) true fuel 24 [.slice a0 len cap] = some (d, p)) (hlt : ∀ x ∈ p, x.block < W.heap.size) : ∃ ps, RdP 0 W (.slice a0 len cap) ps := by
  rcases open_slice_pairs Try.underlying24 Try.underlying132 (by kernel_rfl) rfl rfl (by kernel_rfl) (by kernel_rfl) h with ⟨hc, hx⟩ | ⟨a, len', cap', m, k, V0, V1, D0, D1, P0, P1, hc, _, hl, hm, hmm, hx, hall⟩
  · simp only [List.cons.injEq, and_true] at hc
    cases hc
    exact ⟨[], none, 0, rfl, Nat.le_refl _, Nat.zero_le _, fun _ => ⟨rfl, rfl⟩, fun h => absurd h (Nat.lt_irrefl _)⟩
  · simp only [List.cons.injEq, and_true] at hc
    cases hc
    simp only [if_true] at hmm
    subst hmm
    simp only [Prod.mk.injEq] at hx
    obtain ⟨rfl, rfl⟩ := hx
    have hint : ∀ i, i < m → V0 i = .int .i64 (intOf (V0 i)) ∧ V1 i = .int .i64 (intOf (V1 i)) := fun i hi => by
      obtain ⟨-, -, t0, t1⟩ := hall i hi
      obtain ⟨n0, e0, -, -⟩ := DataW.trod_int Try.underlying3 t0
      obtain ⟨n1, e1, -, -⟩ := DataW.trod_int Try.underlying3 t1
      simp only [List.cons.injEq, and_true] at e0 e1
      rw [e0, e1]; exact ⟨rfl, rfl⟩
    have hlen : ((List.range len).map fun i => (⟨intOf (V0 i), intOf (V1 i)⟩ : PairD)).length = len := by simp
    refine ⟨(List.range len).map fun i => ⟨intOf (V0 i), intOf (V1 i)⟩, some a, m, by rw [hlen], by rw [hlen]; exact hl, hm, (fun e => by cases e), fun hp => ?_⟩
    rw [hlen] at hp
    obtain ⟨b, off, spot⟩ := a
    have hspot : spot = none := by simpa [Addr.add] using World.cell?_spot (hall 0 (by omega)).1
    subst hspot
    refine ⟨b, off, rfl, Nat.zero_le _, hlt (.cell b off) (List.mem_append_left _ (MemPlace.mem_row.2 ⟨0, by omega, by simp⟩)), fun i q hi => ?_⟩
    have hil : i < len := by
      have := (List.getElem?_eq_some_iff.1 hi).1
      rw [hlen] at this; exact this
    have hq : q = ⟨intOf (V0 i), intOf (V1 i)⟩ := by
      simp [hil] at hi; exact hi.symm
    subst hq
    obtain ⟨x0, x1, -, -⟩ := hall i (by omega)
    obtain ⟨y0, y1⟩ := hint i (by omega)
    rw [Addr.add_lit] at x0 x1
    exact ⟨x0.trans (congrArg some y0), (by rw [← Nat.add_assoc] at x1; exact x1.trans (congrArg some y1))⟩

set_option maxRecDepth 100000 in
/-- The cells of what is known. -/
theorem open_kn {H : Type} {enc : TypeId × Value → H} {W : World} {fuel : Nat} {c0 c1 c2 c3 c4 c5 : Value} {y : DataW H × List MemPlace}
    (h : DataW.trod enc Try.prog W 0 (fun _ => true) true fuel 26 [c0, c1, c2, c3, c4, c5] = some y) (hlt : ∀ x ∈ y.2, x.block < W.heap.size) :
    ∃ (k : KnD), c0 = .int .i64 k.set.ord ∧ c1 = .int .i64 k.set.lit ∧ c2 = .int .i64 k.set.most ∧ c4 = .int .i64 k.base ∧ c5 = .int .i64 k.last ∧ RdP 0 W c3 k.ps ∧ (-9223372036854775808 ≤ k.set.lit ∧ k.set.lit ≤ 9223372036854775807) := by
  obtain ⟨y0, y1, y2, y3, m, rfl, -, t0, t1, t2, t3⟩ := trod_struct4 Try.underlying26 h
  have q1 : Try.prog.cellsOf 23 = 3 := by kernel_rfl
  have q2 : Try.prog.cellsOf 24 = 1 := by kernel_rfl
  have q3 : Try.prog.cellsOf 3 = 1 := by kernel_rfl
  simp only [q1, q2, q3, List.drop, List.take] at t0 t1 t2 t3
  obtain ⟨z0, z1, z2, m', rfl, -, s0, s1, s2⟩ := trod_struct3 Try.underlying23 t0
  simp only [q3, List.drop, List.take] at s0 s1 s2
  have hsl : ∃ a n c, c3 = .slice a n c := by
    rcases DataW.trod_slice Try.underlying24 t1 with ⟨e, -⟩ | ⟨a, n, c, -, -, -, -, e, -⟩
    · exact ⟨_, _, _, by simpa using e⟩
    · exact ⟨_, _, _, by simpa using e⟩
  obtain ⟨a, n, c, rfl⟩ := hsl
  obtain ⟨o, eo, -, -⟩ := DataW.trod_int Try.underlying3 s0
  obtain ⟨l, el, -, gl⟩ := DataW.trod_int Try.underlying3 s1
  obtain ⟨q, eq, -, -⟩ := DataW.trod_int Try.underlying3 s2
  obtain ⟨b, eb, -, -⟩ := DataW.trod_int Try.underlying3 t2
  obtain ⟨la, ela, -, -⟩ := DataW.trod_int Try.underlying3 t3
  simp only [List.cons.injEq, and_true] at eo el eq eb ela
  obtain ⟨ps, hps⟩ := open_argPr (p := y1.2) (d := y1.1) t1 (fun x hx => hlt x (List.mem_append_right _ (List.mem_append_left _ hx)))
  refine ⟨⟨⟨o, l, q⟩, ps, b, la⟩, eo, el, eq, eb, ela, hps, ?_⟩
  simpa [Lit.wf, IntKind.min, IntKind.max, IntKind.signed, IntKind.bits] using gl

set_option maxRecDepth 100000 in
/-- A writer that comes in. -/
theorem open_writer {H : Type} {enc : TypeId × Value → H} {W : World} {b0 : Nat} {v : Value} {d : DataW H} {p : List MemPlace}
    (hv : Value.okWide Try.prog W .any b0 28 v) (h : DataW.Trod enc Try.prog W 0 (fun _ => true) true 28 v d p) (hlt : ∀ x ∈ p, x.block < W.heap.size) :
    ∃ (x : WrD) (u : Value), v = wrV x u ∧ RdP 0 W u x.k.ps ∧ (-9223372036854775808 ≤ x.k.set.lit ∧ x.k.set.lit ≤ 9223372036854775807) ∧ x.pend.length ≤ maxLen ∧ x.bits.length ≤ maxLen ∧ x.k.ps.length ≤ maxLen := by
  have q0 : Try.prog.cellsOf 28 = 9 := by kernel_rfl
  have q1 : Try.prog.cellsOf 26 = 6 := by kernel_rfl
  have q2 : Try.prog.cellsOf 9 = 1 := by kernel_rfl
  have q3 : Try.prog.cellsOf 4 = 1 := by kernel_rfl
  obtain ⟨cs, rfl, hsz⟩ := okWide_struct Try.underlying28 hv
  obtain ⟨c0, c1, c2, c3, c4, c5, c6, c7, c8, rfl⟩ := array9 (hsz.trans q0)
  obtain ⟨fuel, hf⟩ := h
  obtain ⟨y0, y1, y2, y3, m, hy, -, t0, t1, t2, t3⟩ := trod_struct4 Try.underlying28 hf
  simp only [Value.cells, q1, q2, q3, List.drop, List.take] at t0 t1 t2 t3
  obtain ⟨pe, e6, -, h6⟩ := DataW.trod_string Try.underlying9 t1
  obtain ⟨bi, e7, -, h7⟩ := DataW.trod_string Try.underlying9 t2
  obtain ⟨be, e8, -⟩ := DataW.trod_bool Try.underlying4 t3
  simp only [List.cons.injEq, and_true] at e6 e7 e8
  simp only [Prod.mk.injEq] at hy
  obtain ⟨rfl, rfl⟩ := hy
  obtain ⟨k, e0, e1, e2, e4, e5, hr, hl⟩ := open_kn t0 (fun x hx => hlt x (List.mem_append_left _ hx))
  refine ⟨⟨k, pe.data.toList, bi.data.toList, be⟩, c3, ?_, hr, hl, h6, h7, ?_⟩
  · subst e0 e1 e2 e4 e5 e6 e7 e8
    rfl
  · obtain ⟨a, cap, -, g1, g2, -⟩ := hr
    exact Nat.le_trans g1 g2

end Go.Proofs.Ytgbakgaegldomaa

