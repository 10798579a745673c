/- Texts joined into one: Base, Up, Blk1, Blk2, Blk3, Parse1, Bytes, Parse2, Parse3, Cont0, Cont2, Cont1, Cont3, Cont4, Ints, Rws. Conditions: as each says. -/
import Derived.Test.YtmjpopfacagjhaaDoorRows
import Derived.WalkKit
import Derived.WalkSpells
import Derived.WalkLawsBesides
import Derived.Lib.Hide
import Derived.Lib.SmallJoins
import Derived.BigQuiet
import Derived.ProofKit
import Derived.StillTail

/- Small lemmas on worlds and on the form of contracts: for every walk of this seat. Conditions: none. -/
namespace Go.Proofs.YtmjpopfacagjhaaDoor
set_option linter.unusedVariables false
set_option linter.unusedSimpArgs false
open Go.RowKit

theorem bcell {W w1 : World} (hb : Below W.heap.size W w1) : (∀ b o, b < W.heap.size → w1.cell? ⟨b, o, none⟩ = W.cell? ⟨b, o, none⟩) ∧ (∀ b o, b < W.heap.size → w1.frozen? ⟨b, o, none⟩ = W.frozen? ⟨b, o, none⟩) :=
  ⟨fun b o h => hb.cell (p := ⟨b, o, none⟩) h, fun b o h => hb.frozen (p := ⟨b, o, none⟩) h⟩

end Go.Proofs.YtmjpopfacagjhaaDoor

/- A region whose order is open, whose operations and callees only make new memory, is walked once in the order of the text. Conditions: those of the theorem wp_region_up. -/
namespace Go.Proofs.YtmjpopfacagjhaaDoor
set_option linter.unusedVariables false
set_option linter.unusedSimpArgs false
open Go Go.RowKit

/-- Nothing that was there has turned. -/
abbrev Up (w w' : World) : Prop := Below w.heap.size w w'
theorem Up.refl (w : World) : Up w w := Below.refl _ _
theorem Up.trans {a b c : World} (h : Up a b) (k : Up b c) : Up a c := Below.trans h (k.mono h.size)
def UpClosed (p : World → Prop) : Prop := ∀ w w', p w → Up w w' → p w'

section
variable {P : Program} {ops : Array Oper}

def upOut (P : Program) (D : Value → World → Prop) (w : World) : Result Next → Prop
  | .ok (.value v) w' => Up w w' ∧ D v w'
  | .ok .skip w' => Up w w' ∧ D undef w'
  | .ok (.enter f args) w' => w' = w ∧ Calls P f args w (fun e w'' => ∃ v, e = .returned v ∧ Up w w'' ∧ D v w'')
  | _ => False
def upAt (P : Program) (o : Oper) (a : Act) (w : World) (D : Value → World → Prop) : Prop := upOut P D w ((execOp a.eval o).run P w)

theorem upAt.wp {o : Oper} {a : Act} {w : World} {D : Value → World → Prop} {K : Act → World → Prop} {Q : Exit → Act → World → Prop} (h : upAt P o a w D) (hK : ∀ v w', Up w w' → D v w' → K (a.put o.dst v) w') : o.wp P a w K Q := by
  unfold upAt at h
  unfold Oper.wp
  generalize (execOp a.eval o).run P w = r at *
  cases r with
  | ok n w' =>
    cases n <;> simp only [upOut] at h <;> simp only [Oper.upon]
    case value v => exact hK _ _ h.1 h.2
    case skip => exact hK _ _ h.1 h.2
    case enter f args =>
      obtain ⟨rfl, hc⟩ := h
      exact hc.mono fun e w'' ⟨v, he, hu, hd⟩ => by subst he; exact hK _ _ hu hd
  | halt x w' => simp only [upOut] at h

def waitsB (o : Oper) (i : Nat) : Bool := o.after.toList.any fun e => Region.binds .any e && e.on == i
theorem waitsB_spec {o : Oper} {i : Nat} (h : waitsB o i = true) : ∃ e ∈ o.after, Region.binds .any e = true ∧ e.on = i := by
  obtain ⟨e, he, hb⟩ := List.any_eq_true.1 h
  simp only [Bool.and_eq_true, beq_iff_eq] at hb
  exact ⟨e, by simpa using he, hb⟩

/-- What the region's text must show, by reckoning. -/
def upB (ops : Array Oper) (n0 : Nat) : Bool :=
  Region.noSelect ops && decide (n0 ≤ ops.size) &&
  ((List.range ops.size).all fun j => match ops[j]? with
    | none => true
    | some o => (o.after.all fun e => !Region.binds .any e || decide (e.on < j)) &&
      ((List.range j).all fun i => match ops[i]? with
        | none => true
        | some x => if j < n0 then (waitsB o i || x.apart ops o) && (match x.dst with | some d => o.dst != some d | none => true) else waitsB o i))

def reachB (ops : Array Oper) : Nat → Nat → Nat → Bool
  | 0, _, _ => false
  | f + 1, j, i => match ops[j]? with
    | none => false
    | some o => (o.after.any fun e => Region.binds .any e && e.on == i) || (o.after.any fun e => Region.binds .any e && reachB ops f e.on i)
theorem reach_listed {listed : Array Bool} (hcl : ∀ (j : Nat) (o : Oper), ops[j]? = some o → listed.getD j false = true → ∀ e ∈ o.after, Region.binds .any e = true → listed.getD e.on false = true) :
    ∀ (f j i : Nat), reachB ops f j i = true → (∀ o, ops[j]? = some o → ∀ e ∈ o.after, Region.binds .any e = true → listed.getD e.on false = true) → listed.getD i false = true := by
  intro f
  induction f with
  | zero => intro j i h; cases h
  | succ f ih =>
    intro j i h hj
    unfold reachB at h
    split at h
    · cases h
    · next o ho =>
      rw [Bool.or_eq_true] at h
      rcases h with h | h
      · obtain ⟨e, he, hb⟩ := Array.any_eq_true'.1 h
        simp only [Bool.and_eq_true, beq_iff_eq] at hb
        rw [← hb.2]
        exact hj o ho e he hb.1
      · obtain ⟨e, he, hb⟩ := Array.any_eq_true'.1 h
        simp only [Bool.and_eq_true] at hb
        exact ih e.on i hb.2 fun x hx => hcl e.on x hx (hj o ho e he hb.1)

theorem waits_reach {j i f : Nat} {o : Oper} (ho : ops[j]? = some o) (h : waitsB o i = true) : reachB ops (f + 1) j i = true := by
  obtain ⟨e, he, hb⟩ := waitsB_spec h
  unfold reachB
  rw [ho]
  simp only [Bool.or_eq_true]
  exact .inl (Array.any_eq_true'.2 ⟨e, he, by simp [hb.1, hb.2]⟩)
structure UpText (ops : Array Oper) (n0 : Nat) : Prop where
  sel : ∀ (j : Nat) (o : Oper) cs b, ops[j]? = some o → o.op ≠ .select cs b
  le : n0 ≤ ops.size
  lex : ∀ (j : Nat) (o : Oper), ops[j]? = some o → ∀ e ∈ o.after, Region.binds .any e = true → e.on < j
  pair : ∀ (i j : Nat) (x o : Oper), i < j → j < n0 → ops[i]? = some x → ops[j]? = some o → waitsB o i = true ∨ x.apart ops o = true
  dist : ∀ (i j : Nat) (x o : Oper) (d : Tmp), i < j → j < n0 → ops[i]? = some x → ops[j]? = some o → x.dst = some d → o.dst ≠ some d
  tail : ∀ (i j : Nat) (o : Oper), i < j → n0 ≤ j → ops[j]? = some o → reachB ops 12 j i = true

structure TxC (ops : Array Oper) (n0 : Nat) : Prop where
  sel : ∀ (j : Nat) (o : Oper) cs b, ops[j]? = some o → o.op ≠ .select cs b
  le : n0 ≤ ops.size
  lex : ∀ (j : Nat) (o : Oper), ops[j]? = some o → ∀ e ∈ o.after, Region.binds .any e = true → e.on < j
  pair : ∀ (i j : Nat) (x o : Oper), i < j → j < n0 → ops[i]? = some x → ops[j]? = some o → waitsB o i = true ∨ x.apart ops o = true
  dist : ∀ (i j : Nat) (x o : Oper) (d : Tmp), i < j → j < n0 → ops[i]? = some x → ops[j]? = some o → x.dst = some d → o.dst ≠ some d

theorem UpText.c {n0 : Nat} (T : UpText ops n0) : TxC ops n0 := ⟨T.sel, T.le, T.lex, T.pair, T.dist⟩
theorem upB_text {n0 : Nat} (h : upB ops n0 = true) : UpText ops n0 := by
  unfold upB at h
  simp only [Bool.and_eq_true, decide_eq_true_eq] at h
  obtain ⟨⟨h1, h2⟩, h3⟩ := h
  have h3 := List.all_eq_true.1 h3
  have hj : ∀ (j : Nat) (o : Oper), ops[j]? = some o → (∀ e ∈ o.after, Region.binds .any e = true → e.on < j) ∧ ∀ (i : Nat) (x : Oper), i < j → ops[i]? = some x → (if j < n0 then (waitsB o i || x.apart ops o) && (match x.dst with | some d => o.dst != some d | none => true) else waitsB o i) = true := by
    intro j o ho
    have hlt : j < ops.size := (Array.getElem?_eq_some_iff.1 ho).1
    have := h3 j (List.mem_range.2 hlt)
    simp only [ho, Bool.and_eq_true] at this
    obtain ⟨ha, hb⟩ := this
    refine ⟨fun e he hb => ?_, fun i x hi hx => ?_⟩
    · have := Array.all_eq_true_iff_forall_mem.1 ha e he
      simpa [hb] using this
    · have := List.all_eq_true.1 hb i (List.mem_range.2 hi)
      simpa only [hx] using this
  refine ⟨fun j o cs b ho => Region.noSelect_spec h1 j o cs b ho, h2, fun j o ho => (hj j o ho).1, fun i j x o hi hn hx ho => ?_, fun i j x o d hi hn hx ho hd => ?_, fun i j o hi hn ho => ?_⟩
  · have := (hj j o ho).2 i x hi hx
    simp only [hn, if_true, Bool.and_eq_true, Bool.or_eq_true] at this
    exact this.1
  · have := (hj j o ho).2 i x hi hx
    simp only [hn, if_true, Bool.and_eq_true, hd] at this
    simpa using this.2
  · have hlt : j < ops.size := (Array.getElem?_eq_some_iff.1 ho).1
    have hx : ops[i]? = some ops[i] := by simp [show i < ops.size by omega]
    have := (hj j o ho).2 i _ hi hx
    exact waits_reach ho (by simpa only [show ¬ j < n0 by omega, if_false] using this)

/-- What stands in the slots, the operations of S having been carried out. -/
structure Desc (ops : Array Oper) (a : Act) (S : Nat → Prop) (vals : Nat → Value) (b : Act) : Prop where
  defers : b.defers = a.defers
  size : b.tmps.size = a.tmps.size
  old : ∀ t, (∀ i o, S i → ops[i]? = some o → o.dst ≠ some t) → b.tmps[t]? = a.tmps[t]?
  new : ∀ t i o, S i → ops[i]? = some o → o.dst = some t → t < a.tmps.size → b.tmps[t]? = some (vals i)

theorem Desc.refl (a : Act) (vals : Nat → Value) : Desc ops a (fun _ => False) vals a := ⟨rfl, rfl, fun _ _ => rfl, fun _ _ _ h => h.elim⟩

theorem Desc.congr {a b : Act} {S S' : Nat → Prop} {vals vals' : Nat → Value} (h : Desc ops a S vals b) (hS : ∀ i, S i ↔ S' i) (hv : ∀ i, S i → vals i = vals' i) : Desc ops a S' vals' b :=
  ⟨h.defers, h.size, fun t ht => h.old t fun i o hi => ht i o ((hS i).1 hi), fun t i o hi ho hd hl => (h.new t i o ((hS i).2 hi) ho hd hl).trans (by rw [hv i ((hS i).2 hi)])⟩

theorem Desc.put {a b : Act} {S : Nat → Prop} {vals : Nat → Value} {j : Nat} {o : Oper} (h : Desc ops a S vals b) (hj : ops[j]? = some o)
    (hd : ∀ i x d, S i → i ≠ j → ops[i]? = some x → x.dst = some d → o.dst ≠ some d) : Desc ops a (fun i => S i ∨ i = j) vals (b.put o.dst (vals j)) := by
  cases hdst : o.dst with
  | none =>
    refine ⟨h.defers, h.size, fun t ht => h.old t fun i o hi => ht i o (.inl hi), fun t i x hi ho hd' hl => ?_⟩
    rcases hi with hi | rfl
    · exact h.new t i x hi ho hd' hl
    · rw [hj] at ho; cases ho; rw [hdst] at hd'; cases hd'
  | some d =>
    refine ⟨h.defers, by simp [Act.put, h.size], fun t ht => ?_, fun t i x hi ho hd' hl => ?_⟩
    · have hne : d ≠ t := fun e => ht j o (.inr rfl) hj (by rw [hdst, e])
      simp only [Act.put, Array.getElem?_setIfInBounds_ne hne]
      exact h.old t fun i o hi => ht i o (.inl hi)
    · by_cases hdt : d = t
      · subst hdt
        have : i = j := by
          rcases hi with hi | rfl
          · by_cases hij : i = j
            · exact hij
            · exact absurd hdst (hd i x d hi hij ho hd')
          · rfl
        subst this
        simp [Act.put, h.size, hl]
      · simp only [Act.put, Array.getElem?_setIfInBounds_ne hdt]
        rcases hi with hi | rfl
        · exact h.new t i x hi ho hd' hl
        · rw [hj] at ho; cases ho; rw [hdst] at hd'; cases hd'; exact absurd rfl hdt

theorem Desc.agree {a b b' : Act} {S S' : Nat → Prop} {vals vals' : Nat → Value} (h : Desc ops a S vals b) (h' : Desc ops a S' vals' b') (t : Tmp)
    (hs : ∀ i o, ops[i]? = some o → o.dst = some t → (S i ↔ S' i) ∧ (S i → vals i = vals' i)) : b.tmps[t]? = b'.tmps[t]? := by
  by_cases hex : ∃ i o, S i ∧ ops[i]? = some o ∧ o.dst = some t
  · obtain ⟨i, o, hi, ho, hd⟩ := hex
    obtain ⟨h1, h2⟩ := hs i o ho hd
    by_cases hl : t < a.tmps.size
    · rw [h.new t i o hi ho hd hl, h'.new t i o (h1.1 hi) ho hd hl, h2 hi]
    · have hl' : a.tmps.size ≤ t := Nat.le_of_not_lt hl
      rw [Array.getElem?_eq_none (by rw [h.size]; exact hl'), Array.getElem?_eq_none (by rw [h'.size]; exact hl')]
  · rw [h.old t fun i o hi ho hd => hex ⟨i, o, hi, ho, hd⟩, h'.old t fun i o hi ho hd => hex ⟨i, o, (hs i o ho hd).1.2 hi, ho, hd⟩]

theorem exec_agree {o : Oper} (hs : ∀ cs b, o.op ≠ .select cs b) {b b' : Act} (h : ∀ t ∈ o.looksAt ops, b.tmps[t]? = b'.tmps[t]?) : execOp b.eval o = execOp b'.eval o :=
  execOp_congr o hs fun x hx => by
    cases x with
    | tmp t =>
      have := h t (List.mem_append_left _ (List.mem_filterMap.2 ⟨.tmp t, by simpa using hx, rfl⟩))
      simp only [Act.eval, Array.getD_eq_getD_getElem?, this]
    | _ => rfl

theorem wanted_agree {o : Oper} {b b' : Act} (h : ∀ g w t, o.guard = some (g, w) → (ops[g]?).bind (·.dst) = some t → b.tmps[t]? = b'.tmps[t]?) : Region.wanted o (yielded ops b.tmps) = Region.wanted o (yielded ops b'.tmps) := by
  unfold Region.wanted
  cases hg : o.guard with
  | none => rfl
  | some gw =>
    obtain ⟨g, w⟩ := gw
    have : yielded ops b.tmps g = yielded ops b'.tmps g := by
      unfold yielded
      cases hd : (ops[g]?).bind (·.dst) with
      | none => rfl
      | some t => simp only [Option.bind_some, h g w t hg hd]
    simp only [this]

abbrev Mk := Nat × Option Tmp × (Value → World → Prop)
def fills : List Mk → Act → World → (Act → Prop) → Prop
  | [], a, _, K => K a
  | (_, d, D) :: E, a, w, K => ∀ v, D v w → fills E (a.put d v) w K
def fillWith (vals : Nat → Value) : List Mk → Act → Act
  | [], a => a
  | (i, d, _) :: E, a => fillWith vals E (a.put d (vals i))
theorem fills.inst {vals : Nat → Value} {w : World} {K : Act → Prop} : ∀ {E : List Mk} {a : Act}, fills E a w K → (∀ m ∈ E, m.2.2 (vals m.1) w) → K (fillWith vals E a)
  | [], _, h, _ => h
  | (i, _, _) :: E, _, h, hE => fills.inst (E := E) (h (vals i) (hE _ (List.mem_cons_self ..))) fun m hm => hE m (List.mem_cons_of_mem _ hm)

def guardFree (ops : Array Oper) (k : Nat) : Bool :=
  match (ops[k]?).bind (·.dst) with
  | none => true
  | some d => ops.all fun o => match o.guard with
    | some (g, _) => (ops[g]?).bind (·.dst) != some d
    | none => true
theorem guardFree_spec {k : Nat} {d : Tmp} (h : guardFree ops k = true) (hd : (ops[k]?).bind (·.dst) = some d) {o : Oper} (ho : o ∈ ops) {g : Nat} {b : Bool} (hg : o.guard = some (g, b)) : (ops[g]?).bind (·.dst) ≠ some d := by
  unfold guardFree at h
  simp only [hd] at h
  have := Array.all_eq_true_iff_forall_mem.1 h o ho
  simpa [hg] using this

def wpUp (P : Program) (ops : Array Oper) (C : World → Prop) (Z : Act → World → Prop) : List Oper → Nat → List Mk → Act → Prop
  | [], _, E, a => ∀ w, C w → fills E a w (fun a' => Z a' w)
  | o :: rest, k, E, a =>
    if Region.wanted o (yielded ops a.tmps) then
      (∃ v, (∀ w, C w → fills (E.filter fun m => waitsB o m.1) a w (fun a' => upAt P o a' w (fun v' _ => v' = v))) ∧ wpUp P ops C Z rest (k + 1) E (a.put o.dst v)) ∨
      (∃ D, guardFree ops k = true ∧ (∀ v, UpClosed (D v)) ∧ (∀ w, C w → fills (E.filter fun m => waitsB o m.1) a w (fun a' => upAt P o a' w D)) ∧ wpUp P ops C Z rest (k + 1) ((k, o.dst, D) :: E) a)
    else wpUp P ops C Z rest (k + 1) E (a.put o.dst undef)

/-- What the lexical walk has laid till operation k: Cc: which values are known, cv: them. -/
structure Lex (ops : Array Oper) (a0 : Act) (k : Nat) (E : List Mk) (a : Act) (Cc : Nat → Prop) (cv : Nat → Value) (D : Nat → Value → World → Prop) : Prop where
  desc : Desc ops a0 (fun i => i < k ∧ Cc i) cv a
  const : ∀ i, i < k → Cc i → ∀ v w, D i v w → v = cv i
  mem : ∀ m ∈ E, m.1 < k ∧ ¬ Cc m.1 ∧ m.2.1 = (ops[m.1]?).bind (·.dst) ∧ m.2.2 = D m.1 ∧ guardFree ops m.1 = true
  all : ∀ i, i < k → ¬ Cc i → ∃ m ∈ E, m.1 = i

theorem Desc.fill {a0 : Act} {n0 : Nat} (T : TxC ops n0) {vals : Nat → Value} : ∀ (E : List Mk) (S : Nat → Prop) (a : Act), (∀ i, S i → i < n0) → Desc ops a0 S vals a →
    (∀ m ∈ E, m.1 < n0 ∧ m.2.1 = (ops[m.1]?).bind (·.dst)) → Desc ops a0 (fun i => S i ∨ ∃ m ∈ E, m.1 = i) vals (fillWith vals E a)
  | [], S, a, _, h, _ => h.congr (fun i => by simp) (fun _ _ => rfl)
  | (i, d, D) :: E, S, a, hS, h, hE => by
    obtain ⟨hi, hd⟩ := hE _ (List.mem_cons_self ..)
    have hlt : i < ops.size := Nat.lt_of_lt_of_le hi T.le
    have ho : ops[i]? = some ops[i] := by simp [hlt]
    simp only at hd hi
    rw [ho, Option.bind_some] at hd
    have h1 := h.put (j := i) ho fun i' x d' hi' hne hx hd' => by
      rcases Nat.lt_or_ge i' i with hl | hl
      · exact T.dist i' i x _ d' hl hi hx ho hd'
      · intro e
        exact T.dist i i' _ x d' (by omega) (hS _ hi') ho hx e hd'
    have h2 := Desc.fill T E _ _ (fun i' hi' => hi'.elim (hS i') (fun e => e ▸ hi)) h1 (fun m hm => hE m (List.mem_cons_of_mem _ hm))
    show Desc ops a0 _ vals (fillWith vals E (a.put d (vals i)))
    rw [hd]
    refine h2.congr (fun i' => ?_) (fun _ _ => rfl)
    simp only [List.mem_cons, exists_eq_or_imp]
    constructor
    · rintro ((h | h) | h)
      · exact .inl h
      · exact .inr (.inl h.symm)
      · exact .inr (.inr h)
    · rintro (h | h | h)
      · exact .inl (.inl h)
      · exact .inl (.inr h.symm)
      · exact .inr h

theorem not_apart {x y : Oper} {t : Tmp} (hx : x.dst = some t) (ht : t ∈ y.looksAt ops) : x.apart ops y = false := by
  cases h : x.apart ops y with
  | false => rfl
  | true => exact absurd ht ((Oper.apart_spec h).1 t hx)
theorem not_apart' {x y : Oper} {t : Tmp} (hx : y.dst = some t) (ht : t ∈ x.looksAt ops) : x.apart ops y = false := by
  cases h : x.apart ops y with
  | false => rfl
  | true => exact absurd ht ((Oper.apart_spec h).2.2 t hx)

theorem guard_looks {o : Oper} {g : Nat} {b : Bool} {t : Tmp} (hg : o.guard = some (g, b)) (hd : (ops[g]?).bind (·.dst) = some t) : t ∈ o.looksAt ops := by
  refine List.mem_append_right _ ?_
  simp only [hg, hd, Option.toList_some, List.mem_singleton]

def gOut (P : Program) (R : World → World → Prop) (D : Value → World → Prop) (w : World) : Result Next → Prop
  | .ok (.value v) w' => R w w' ∧ D v w'
  | .ok .skip w' => R w w' ∧ D undef w'
  | .ok (.enter f args) w' => w' = w ∧ Calls P f args w (fun e w'' => ∃ v, e = .returned v ∧ R w w'' ∧ D v w'')
  | _ => False
def gAt (P : Program) (R : World → World → Prop) (o : Oper) (a : Act) (w : World) (D : Value → World → Prop) : Prop := gOut P R D w ((execOp a.eval o).run P w)

theorem gAt.wp {o : Oper} {a : Act} {w : World} {D : Value → World → Prop} {K : Act → World → Prop} {Q : Exit → Act → World → Prop} {R : World → World → Prop} (h : gAt P R o a w D) (hK : ∀ v w', R w w' → D v w' → K (a.put o.dst v) w') : o.wp P a w K Q := by
  unfold gAt at h
  unfold Oper.wp
  generalize (execOp a.eval o).run P w = r at *
  cases r with
  | ok n w' =>
    cases n <;> simp only [gOut] at h <;> simp only [Oper.upon]
    case value v => exact hK _ _ h.1 h.2
    case skip => exact hK _ _ h.1 h.2
    case enter f args =>
      obtain ⟨rfl, hc⟩ := h
      exact hc.mono fun e w'' ⟨v, he, hu, hd⟩ => by subst he; exact hK _ _ hu hd
  | halt x w' => simp only [gOut] at h

def wpG (P : Program) (ops : Array Oper) (R : Nat → World → World → Prop) (Kc : Nat → World → World → Prop) (C : Nat → World → Prop) (Z : Act → World → Prop) : List Oper → Nat → List Mk → Act → Prop
  | [], k, E, a => ∀ w, C k w → fills E a w (fun a' => Z a' w)
  | o :: rest, k, E, a =>
    if Region.wanted o (yielded ops a.tmps) then
      (∃ v, (∀ w, C k w → fills (E.filter fun m => waitsB o m.1) a w (fun a' => gAt P (R k) o a' w (fun v' _ => v' = v))) ∧ wpG P ops R Kc C Z rest (k + 1) E (a.put o.dst v)) ∨
      (∃ D, guardFree ops k = true ∧ (∀ v w w', D v w → Kc k w w' → D v w') ∧ (∀ w, C k w → fills (E.filter fun m => waitsB o m.1) a w (fun a' => gAt P (R k) o a' w D)) ∧ wpG P ops R Kc C Z rest (k + 1) ((k, o.dst, D) :: E) a)
    else wpG P ops R Kc C Z rest (k + 1) E (a.put o.dst undef)

/-- An operation's turn, in whatever order. -/
def TurnG (P : Program) (ops : Array Oper) (n0 : Nat) (R : Nat → World → World → Prop) (C : Nat → World → Prop) (a0 : Act) (D : Nat → Value → World → Prop) (j : Nat) (o : Oper) : Prop :=
  ∀ (b : Act) (w : World) (vals : Nat → Value) (S : Nat → Prop), C j w → Desc ops a0 S vals b → (∀ i, S i → i < n0) → (∀ i, S i → i < j → D i (vals i) w) → (∀ i, waitsB o i = true → S i) →
    (∀ i x, S i → ops[i]? = some x → i ≠ j ∧ waitsB x j = false) →
    (Region.wanted o (yielded ops b.tmps) = true ∧ gAt P (R j) o b w (D j)) ∨ (Region.wanted o (yielded ops b.tmps) = false ∧ D j undef w)

theorem wpG_text {R Kc : Nat → World → World → Prop} {C : Nat → World → Prop} {Z : Act → World → Prop} {a0 : Act} {n0 : Nat} (T : TxC ops n0) : ∀ (l : List Oper) (k : Nat) (E : List Mk) (a : Act) (Cc : Nat → Prop) (cv : Nat → Value) (D : Nat → Value → World → Prop),
    k + l.length = n0 → (∀ j, j < l.length → l[j]? = ops[k + j]?) → Lex ops a0 k E a Cc cv D → (∀ i, i < k → ∀ v w w', D i v w → Kc i w w' → D i v w') → (∀ j o, j < k → ops[j]? = some o → TurnG P ops n0 R C a0 D j o) → wpG P ops R Kc C Z l k E a →
    ∃ D' : Nat → Value → World → Prop, (∀ i, i < n0 → ∀ v w w', D' i v w → Kc i w w' → D' i v w') ∧ (∀ j o, j < n0 → ops[j]? = some o → TurnG P ops n0 R C a0 D' j o) ∧
      (∀ (b : Act) (w : World) (vals : Nat → Value), C n0 w → Desc ops a0 (fun i => i < n0) vals b → (∀ i, i < n0 → D' i (vals i) w) → Z b w)
  | [], k, E, a, Cc, cv, D, hk, _, L, hU, hT, h => by
    simp only [List.length_nil, Nat.add_zero] at hk
    subst hk
    refine ⟨D, hU, hT, fun b w vals hC hb hD => ?_⟩
    classical
    have hf := (h w hC).inst (vals := vals) fun m hm => by
      obtain ⟨h1, _, _, h4, _⟩ := L.mem m hm
      rw [h4]; exact hD _ h1
    have hd := L.desc.congr (S' := fun i => i < k ∧ Cc i) (vals' := vals) (fun _ => Iff.rfl) (fun i hi => (L.const i hi.1 hi.2 _ _ (hD i hi.1)).symm)
    have hd := Desc.fill T E _ a (fun i hi => hi.1) hd (fun m hm => ⟨(L.mem m hm).1, (L.mem m hm).2.2.1⟩)
    have : fillWith vals E a = b := by
      have hag : ∀ t, (fillWith vals E a).tmps[t]? = b.tmps[t]? := fun t => hd.agree hb t fun i o ho hdst => ⟨⟨fun hi => ?_, fun hi => ?_⟩, fun _ => rfl⟩
      · have h1 : (fillWith vals E a).tmps = b.tmps := Array.ext_getElem? hag
        have h2 : (fillWith vals E a).defers = b.defers := hd.defers.trans hb.defers.symm
        cases hx : fillWith vals E a; cases hy : b
        rw [hx, hy] at h1 h2
        simp only at h1 h2
        rw [h1, h2]
      · rcases hi with hi | ⟨m, hm, rfl⟩
        · exact hi.1
        · exact (L.mem m hm).1
      · by_cases hc : Cc i
        · exact .inl ⟨hi, hc⟩
        · exact .inr (L.all i hi hc)
    rw [this] at hf
    exact hf
  | o :: rest, k, E, a, Cc, cv, D, hk, hl, L, hU, hT, h => by
    classical
    simp only [List.length_cons] at hk
    have ho : ops[k]? = some o := by have := hl 0 (by simp); simpa using this.symm
    have hkn : k < n0 := by omega
    have hmemo : o ∈ ops := Array.mem_of_getElem? ho
    -- what the guard sees
    have hwant : ∀ (b : Act) (w : World) (vals : Nat → Value) (S : Nat → Prop), Desc ops a0 S vals b → (∀ i, S i → i < k → D i (vals i) w) → (∀ i, waitsB o i = true → S i) →
        (∀ i x, S i → ops[i]? = some x → i ≠ k ∧ waitsB x k = false) → (∀ i, S i → i < n0) → Region.wanted o (yielded ops b.tmps) = Region.wanted o (yielded ops a.tmps) := by
      intro b w vals S hb hD hw hS hSn
      refine wanted_agree fun g bb t hg hd => hb.agree L.desc t fun i x hx hxd => ?_
      have hlook := guard_looks hg hd
      rcases Nat.lt_trichotomy i k with hik | rfl | hik
      · have hwi : waitsB o i = true := by
          rcases T.pair i k x o hik hkn hx ho with h | h
          · exact h
          · rw [not_apart hxd hlook] at h; cases h
        have hSi := hw i hwi
        have hCc : Cc i := by
          by_cases hc : Cc i
          · exact hc
          · obtain ⟨m, hm, rfl⟩ := L.all i hik hc
            obtain ⟨_, _, _, _, hgf⟩ := L.mem m hm
            exact absurd hd (guardFree_spec hgf (by rw [hx, Option.bind_some, hxd]) hmemo hg)
        exact ⟨⟨fun _ => ⟨hik, hCc⟩, fun _ => hSi⟩, fun _ => L.const i hik hCc _ _ (hD i hSi hik)⟩
      · exact ⟨⟨fun hi => absurd rfl (hS i x hi hx).1, fun hi => absurd hi.1 (Nat.lt_irrefl _)⟩, fun hi => absurd rfl (hS i x hi hx).1⟩
      · have hno : ¬ S i := fun hi => by
          rcases T.pair k i o x hik (hSn i hi) ho hx with h | h
          · rw [(hS i x hi hx).2] at h; cases h
          · rw [not_apart' hxd hlook] at h; cases h
        exact ⟨⟨fun hi => absurd hi hno, fun hi => absurd hi.1 (by omega)⟩, fun hi => absurd hi hno⟩
    have hexec : ∀ (b : Act) (w : World) (vals : Nat → Value) (S : Nat → Prop) (D1 : Value → World → Prop), Desc ops a0 S vals b → (∀ i, S i → i < k → D i (vals i) w) → (∀ i, waitsB o i = true → S i) →
        (∀ i x, S i → ops[i]? = some x → i ≠ k ∧ waitsB x k = false) → (∀ i, S i → i < n0) → fills (E.filter fun m => waitsB o m.1) a w (fun a' => gAt P (R k) o a' w D1) → gAt P (R k) o b w D1 := by
      intro b w vals S D1 hb hD hw hS hSn hf
      have hf := hf.inst (vals := fun i => if Cc i then cv i else vals i) fun m hm => by
        obtain ⟨hm1, hm2⟩ := List.mem_filter.1 hm
        obtain ⟨h1, h2, _, h4, _⟩ := L.mem m hm1
        rw [h4, if_neg h2]
        exact hD _ (hw _ hm2) h1
      have hd := L.desc.congr (S' := fun i => i < k ∧ Cc i) (vals' := fun i => if Cc i then cv i else vals i) (fun _ => Iff.rfl) (fun i hi => by simp only [hi.2, if_true])
      have hd := Desc.fill T (E.filter fun m => waitsB o m.1) _ a (fun i hi => Nat.lt_trans hi.1 hkn) hd (fun m hm => by
        obtain ⟨h1, _, h3, _⟩ := L.mem m (List.mem_filter.1 hm).1
        exact ⟨Nat.lt_trans h1 hkn, h3⟩)
      have he : execOp b.eval o = execOp (fillWith (fun i => if Cc i then cv i else vals i) (E.filter fun m => waitsB o m.1) a).eval o := by
        refine exec_agree (ops := ops) (T.sel k o · · ho) fun t hlook => hb.agree hd t fun i x hx hxd => ?_
        rcases Nat.lt_trichotomy i k with hik | rfl | hik
        · have hwi : waitsB o i = true := by
            rcases T.pair i k x o hik hkn hx ho with h | h
            · exact h
            · rw [not_apart hxd hlook] at h; cases h
          have hSi := hw i hwi
          by_cases hc : Cc i
          · exact ⟨⟨fun _ => .inl ⟨hik, hc⟩, fun _ => hSi⟩, fun _ => by simp only [hc, if_true]; exact L.const i hik hc _ _ (hD i hSi hik)⟩
          · obtain ⟨m, hm, rfl⟩ := L.all i hik hc
            exact ⟨⟨fun _ => .inr ⟨m, List.mem_filter.2 ⟨hm, hwi⟩, rfl⟩, fun _ => hSi⟩, fun _ => by simp only [hc, if_false]⟩
        · refine ⟨⟨fun hi => absurd rfl (hS i x hi hx).1, fun hi => ?_⟩, fun hi => absurd rfl (hS i x hi hx).1⟩
          rcases hi with hi | ⟨m, hm, hmi⟩
          · exact absurd hi.1 (Nat.lt_irrefl _)
          · exact absurd (hmi ▸ (L.mem m (List.mem_filter.1 hm).1).1) (Nat.lt_irrefl _)
        · have hno : ¬ S i := fun hi => by
            rcases T.pair k i o x hik (hSn i hi) ho hx with h | h
            · rw [(hS i x hi hx).2] at h; cases h
            · rw [not_apart' hxd hlook] at h; cases h
          refine ⟨⟨fun hi => absurd hi hno, fun hi => ?_⟩, fun hi => absurd hi hno⟩
          rcases hi with hi | ⟨m, hm, rfl⟩
          · exact absurd hi.1 (by omega)
          · exact absurd (L.mem m (List.mem_filter.1 hm).1).1 (by omega)
      unfold gAt at hf ⊢
      rw [he]
      exact hf
    have hrest : k + 1 + rest.length = n0 := by omega
    have hlrest : ∀ j, j < rest.length → rest[j]? = ops[k + 1 + j]? := fun j hj => by
      have := hl (j + 1) (by simp only [List.length_cons]; omega)
      rw [List.getElem?_cons_succ] at this
      rw [this, Nat.add_assoc, Nat.add_comm 1 j]
    have hdst : ∀ (i : Nat) (x : Oper) (d : Tmp), i < k → ops[i]? = some x → x.dst = some d → o.dst ≠ some d := fun i x d hi hx hd => T.dist i k x o d hi hkn hx ho hd
    have hotk : ∀ (Dk : Value → World → Prop) (i : Nat), i < k → (fun i => if i = k then Dk else D i) i = D i := fun Dk i hi => by simp only [show ¬ i = k by omega, if_false]
    have hTurn : ∀ (Dk : Value → World → Prop), TurnG P ops n0 R C a0 (fun i => if i = k then Dk else D i) k o → ∀ j x, j < k + 1 → ops[j]? = some x → TurnG P ops n0 R C a0 (fun i => if i = k then Dk else D i) j x := fun Dk h0 j x hj hx => by
      by_cases hjk : j = k
      · subst hjk
        rw [ho] at hx; cases hx
        exact h0
      · intro b w vals S hC hb hSn hD hw hS
        have := hT j x (by omega) hx b w vals S hC hb hSn (fun i hi hij => by have := hD i hi hij; rwa [hotk Dk i (by omega)] at this) hw hS
        rw [hotk Dk j (by omega)]
        exact this
    have hUp : ∀ (Dk : Value → World → Prop), (∀ v w w', Dk v w → Kc k w w' → Dk v w') → ∀ i, i < k + 1 → ∀ v w w', (fun i => if i = k then Dk else D i) i v w → Kc i w w' → (fun i => if i = k then Dk else D i) i v w' := fun Dk h0 i hi v => by
      by_cases hik : i = k
      · subst hik; simp only [if_true]; exact h0 v
      · rw [hotk Dk i (by omega)]; exact hU i (by omega) v
    have hLexC : ∀ (u : Value), Lex ops a0 (k + 1) E (a.put o.dst u) (fun i => Cc i ∨ i = k) (fun i => if i = k then u else cv i) (fun i => if i = k then (fun v' _ => v' = u) else D i) := fun u => by
      refine ⟨?_, ?_, ?_, ?_⟩
      · have h1 := L.desc.congr (S' := fun i => i < k ∧ Cc i) (vals' := fun i => if i = k then u else cv i) (fun _ => Iff.rfl) (fun i hi => by simp only [show ¬ i = k by omega, if_false])
        have h2 := h1.put (j := k) ho fun i x d hi _ hx hd => hdst i x d hi.1 hx hd
        simp only [if_true] at h2
        refine h2.congr (fun i => ?_) (fun _ _ => rfl)
        constructor
        · rintro (⟨h, h'⟩ | rfl)
          · exact ⟨by omega, .inl h'⟩
          · exact ⟨by omega, .inr rfl⟩
        · rintro ⟨h, h' | rfl⟩
          · by_cases hik : i = k
            · exact .inr hik
            · exact .inl ⟨by omega, h'⟩
          · exact .inr rfl
      · intro i hi hc v w hD
        by_cases hik : i = k
        · simp only [hik, if_true] at hD ⊢; exact hD
        · simp only [hik, if_false] at hD ⊢
          exact L.const i (by omega) (hc.resolve_right hik) v w hD
      · intro m hm
        obtain ⟨h1, h2, h3, h4, h5⟩ := L.mem m hm
        exact ⟨by omega, fun h => h.elim h2 (by omega), h3, by rw [h4]; simp only [show ¬ m.1 = k by omega, if_false], h5⟩
      · intro i hi hc
        exact L.all i (by have : i ≠ k := fun h => hc (.inr h); omega) (fun h => hc (.inl h))
    have hLexM : ∀ (Dk : Value → World → Prop), guardFree ops k = true → Lex ops a0 (k + 1) ((k, o.dst, Dk) :: E) a (fun i => Cc i ∧ i ≠ k) cv (fun i => if i = k then Dk else D i) := fun Dk hg => by
      refine ⟨?_, ?_, ?_, ?_⟩
      · refine L.desc.congr (fun i => ?_) (fun _ _ => rfl)
        constructor
        · rintro ⟨h, h'⟩; exact ⟨by omega, h', by omega⟩
        · rintro ⟨h, h', h''⟩; exact ⟨by omega, h'⟩
      · intro i hi hc v w hD
        simp only [hc.2, if_false] at hD
        exact L.const i (by have := hc.2; omega) hc.1 v w hD
      · intro m hm
        rcases List.mem_cons.1 hm with rfl | hm
        · exact ⟨by simp, fun h => h.2 rfl, by simp only [ho, Option.bind_some], by simp only [if_true], hg⟩
        · obtain ⟨h1, h2, h3, h4, h5⟩ := L.mem m hm
          exact ⟨by omega, fun h => h2 h.1, h3, by rw [h4]; simp only [show ¬ m.1 = k by omega, if_false], h5⟩
      · intro i hi hc
        by_cases hik : i = k
        · exact ⟨_, List.mem_cons_self .., hik.symm⟩
        · obtain ⟨m, hm, hmi⟩ := L.all i (by omega) (fun h => hc ⟨h, hik⟩)
          exact ⟨m, List.mem_cons_of_mem _ hm, hmi⟩
    unfold wpG at h
    by_cases hwt : Region.wanted o (yielded ops a.tmps) = true
    · simp only [hwt, if_true] at h
      rcases h with ⟨v, h1, h2⟩ | ⟨Dk, hg, hcl, h1, h2⟩
      · refine wpG_text T rest (k + 1) E _ _ _ _ hrest hlrest (hLexC v) (hUp _ fun _ _ _ h _ => h) (hTurn _ ?_) h2
        intro b w vals S hC hb hSn hD hw hS
        have hD' : ∀ i, S i → i < k → D i (vals i) w := fun i hi hik => by have := hD i hi hik; rwa [hotk _ i hik] at this
        refine .inl ⟨(hwant b w vals S hb hD' hw hS hSn).trans hwt, ?_⟩
        simp only [if_true]
        exact hexec b w vals S _ hb hD' hw hS hSn (h1 w hC)
      · refine wpG_text T rest (k + 1) _ _ _ _ _ hrest hlrest (hLexM Dk hg) (hUp _ hcl) (hTurn _ ?_) h2
        intro b w vals S hC hb hSn hD hw hS
        have hD' : ∀ i, S i → i < k → D i (vals i) w := fun i hi hik => by have := hD i hi hik; rwa [hotk _ i hik] at this
        refine .inl ⟨(hwant b w vals S hb hD' hw hS hSn).trans hwt, ?_⟩
        simp only [if_true]
        exact hexec b w vals S _ hb hD' hw hS hSn (h1 w hC)
    · simp only [hwt] at h
      refine wpG_text T rest (k + 1) E _ _ _ _ hrest hlrest (hLexC undef) (hUp _ fun _ _ _ h _ => h) (hTurn _ ?_) h
      intro b w vals S hC hb hSn hD hw hS
      have hD' : ∀ i, S i → i < k → D i (vals i) w := fun i hi hik => by have := hD i hi hik; rwa [hotk _ i hik] at this
      refine .inr ⟨(hwant b w vals S hb hD' hw hS hSn).trans (by simpa using hwt), ?_⟩
      simp only [if_true]

theorem ready_one {n0 k : Nat} (T : UpText ops n0) {listed : Array Bool} (hk : k < ops.size) (h1 : ∀ i, i < k → listed.getD i false = true) (h2 : ∀ i, k ≤ i → i < ops.size → listed.getD i true = false) (hn : n0 ≤ k) :
    ∀ i, i ∈ Region.ready .any ops listed → i = k := by
  intro i hi
  obtain ⟨hun, o, ho, hall⟩ := mem_ready.1 hi
  have hlt : i < ops.size := (Array.getElem?_eq_some_iff.1 ho).1
  rcases Nat.lt_trichotomy i k with h | h | h
  · have := h1 i h
    have := getD_both hun
    simp_all
  · exact h
  · have hcl : ∀ (j : Nat) (o : Oper), ops[j]? = some o → listed.getD j false = true → ∀ e ∈ o.after, Region.binds .any e = true → listed.getD e.on false = true := fun j x hj hl e he hb => by
      have hjs : j < ops.size := (Array.getElem?_eq_some_iff.1 hj).1
      rcases Nat.lt_or_ge j k with hjk | hjk
      · exact h1 _ (by have := T.lex j x hj e he hb; omega)
      · have := getD_both (h2 j hjk hjs); simp_all
    have hr := reach_listed hcl 12 i k (T.tail k i o h (by omega) ho) (fun o' ho' => by rw [ho] at ho'; cases ho'; exact hall)
    have := getD_both (h2 k (Nat.le_refl _) hk)
    simp_all

theorem wpAny_tail {n0 : Nat} (T : UpText ops n0) {Q : Exit → Act → World → Prop} : ∀ (l : List Oper) (k fuel : Nat) (listed : Array Bool) (a : Act) (w : World), n0 ≤ k → k + l.length = ops.size → l.length ≤ fuel → (∀ j, j < l.length → l[j]? = ops[k + j]?) →
    listed.size = ops.size → (∀ i, i < k → listed.getD i false = true) → (∀ i, k ≤ i → i < ops.size → listed.getD i true = false) → wpList P ops Q l a w → wpAny P .any ops Q fuel listed a w
  | [], k, fuel, listed, a, w, _, hk, _, _, hsz, h1, _, h => by
    simp only [List.length_nil, Nat.add_zero] at hk
    have hr : Region.ready .any ops listed = [] := by
      rcases hx : Region.ready .any ops listed with _ | ⟨i, xs⟩
      · rfl
      · have hi : i ∈ Region.ready .any ops listed := by rw [hx]; exact List.mem_cons_self ..
        obtain ⟨hun, o, ho, _⟩ := mem_ready.1 hi
        have hlt : i < ops.size := (Array.getElem?_eq_some_iff.1 ho).1
        have := h1 i (by omega)
        have := getD_both hun
        simp_all
    cases fuel with
    | zero => exact ⟨hr, h⟩
    | succ f => exact ⟨fun _ => h, fun i hi => by rw [hr] at hi; cases hi⟩
  | o :: l, k, fuel, listed, a, w, hn, hk, hf, hl, hsz, h1, h2, h => by
    simp only [List.length_cons] at hk hf
    obtain ⟨f, rfl⟩ : ∃ f, fuel = f + 1 := ⟨fuel - 1, by omega⟩
    have ho : ops[k]? = some o := by have := hl 0 (by simp); simpa using this.symm
    have hlt : k < ops.size := (Array.getElem?_eq_some_iff.1 ho).1
    have hkr : k ∈ Region.ready .any ops listed := mem_ready.2 ⟨h2 k (Nat.le_refl _) hlt, o, ho, fun e he hb => h1 _ (T.lex k o ho e he hb)⟩
    refine ⟨fun hr => (by rw [hr] at hkr; cases hkr), fun i hi => ?_⟩
    obtain rfl := ready_one T hlt h1 h2 hn i hi
    unfold wpList at h
    unfold wpOp
    have hnext : ∀ a w, wpList P ops Q l a w → wpAny P .any ops Q f (listed.setIfInBounds i true) a w := fun a w h => by
      refine wpAny_tail T l (i + 1) f _ a w (by omega) (by omega) (by omega) (fun j hj => ?_) (by simp [hsz]) (fun j hj => ?_) (fun j hj hjs => ?_) h
      · have := hl (j + 1) (by simp only [List.length_cons]; omega)
        rw [List.getElem?_cons_succ] at this
        rw [this, Nat.add_assoc, Nat.add_comm 1 j]
      · by_cases hji : i = j
        · subst hji; simp [hsz, hlt]
        · exact getD_set_true (h1 j (by omega))
      · rw [getD_set_ne true (by omega)]; exact h2 j (by omega) hjs
    simp only [ho]
    split
    · rename_i hw
      simp only [hw, if_true] at h
      exact h.imp (Oper.wp_mono hnext) id
    · rename_i hw
      simp only [hw] at h
      exact hnext _ _ h

theorem wpAny_g {R Kc : Nat → World → World → Prop} {C : Nat → World → Prop} {I : (Nat → Prop) → World → Prop} (hIC : ∀ S w j, I S w → ¬ S j → C j w) (hIR : ∀ S w w' j, I S w → ¬ S j → R j w w' → I (fun i => S i ∨ i = j) w') (hRr : ∀ j w, R j w w) (hRK : ∀ k j w w', j ≠ k → R j w w' → Kc k w w') {a0 : Act} {n0 : Nat} (T : UpText ops n0) {D : Nat → Value → World → Prop} {Q : Exit → Act → World → Prop} (hU : ∀ i, i < n0 → ∀ v w w', D i v w → Kc i w w' → D i v w') (hT : ∀ j o, j < n0 → ops[j]? = some o → TurnG P ops n0 R C a0 D j o)
    (hZ : ∀ (b : Act) (w : World) (vals : Nat → Value), C n0 w → Desc ops a0 (fun i => i < n0) vals b → (∀ i, i < n0 → D i (vals i) w) → wpList P ops Q (ops.toList.drop n0) b w) :
    ∀ (fuel : Nat) (L : List Nat) (listed : Array Bool) (a : Act) (w : World) (vals : Nat → Value), L.length + (ops.size - n0) ≤ fuel → (∀ i, i < n0 → listed.getD i true = false → i ∈ L) → listed.size = ops.size →
      (∀ i, n0 ≤ i → i < ops.size → listed.getD i true = false) → (∀ j o, ops[j]? = some o → listed.getD j false = true → ∀ e ∈ o.after, Region.binds .any e = true → listed.getD e.on false = true) →
      I (fun i => listed.getD i false = true) w → Desc ops a0 (fun i => listed.getD i false = true) vals a → (∀ i, listed.getD i false = true → D i (vals i) w) → wpAny P .any ops Q fuel listed a w := by
  intro fuel
  induction fuel with
  | zero =>
    intro L listed a w vals hL hun hsz htl hcl hC hd hD
    have hnot : ¬ listed.getD n0 false = true := fun e => by
      rcases Nat.lt_or_ge n0 ops.size with h | h
      · have := getD_both (htl n0 (Nat.le_refl _) h); simp_all
      · rw [Array.getD_eq_getD_getElem?, Array.getElem?_eq_none (by omega)] at e; cases e
    have hL0 : L = [] := List.length_eq_zero_iff.1 (by omega)
    subst hL0
    have hn : n0 = ops.size := by have := T.le; omega
    have hall : ∀ i, i < n0 → listed.getD i false = true := fun i hi => by
      cases h : listed.getD i false with
      | true => rfl
      | false => exact absurd (hun i hi (getD_in (by omega) h)) List.not_mem_nil
    refine wpAny_tail T (ops.toList.drop n0) n0 0 listed a w (Nat.le_refl _) (by simp; omega) (by simp; omega) (fun j hj => by simp) hsz hall (fun i h1 h2 => by omega) (hZ a w vals (hIC _ w n0 hC hnot) (hd.congr (fun i => ⟨fun h => ?_, hall i⟩) fun _ _ => rfl) (fun i hi => hD i (hall i hi)))
    rcases Nat.lt_or_ge i n0 with hi | hi
    · exact hi
    · rw [Array.getD_eq_getD_getElem?, Array.getElem?_eq_none (by omega)] at h; cases h
  | succ fuel ih =>
    intro L listed a w vals hL hun hsz htl hcl hC hd hD
    have hnot : ¬ listed.getD n0 false = true := fun e => by
      rcases Nat.lt_or_ge n0 ops.size with h | h
      · have := getD_both (htl n0 (Nat.le_refl _) h); simp_all
      · rw [Array.getD_eq_getD_getElem?, Array.getElem?_eq_none (by omega)] at e; cases e
    by_cases hall : ∀ i, i < n0 → listed.getD i false = true
    · refine wpAny_tail T (ops.toList.drop n0) n0 (fuel + 1) listed a w (Nat.le_refl _) (by simp; have := T.le; omega) (by simp; omega) (fun j hj => by simp) hsz hall htl (hZ a w vals (hIC _ w n0 hC hnot) (hd.congr (fun i => ⟨fun h => ?_, hall i⟩) fun _ _ => rfl) (fun i hi => hD i (hall i hi)))
      rcases Nat.lt_or_ge i n0 with hi | hi
      · exact hi
      · rcases Nat.lt_or_ge i ops.size with his | his
        · have := getD_both (htl i hi his); simp_all
        · rw [Array.getD_eq_getD_getElem?, Array.getElem?_eq_none (by omega)] at h; cases h
    · -- the least one that is not listed is ready
      have hready : Region.ready .any ops listed ≠ [] ∧ ∀ i ∈ Region.ready .any ops listed, i < n0 := by
        obtain ⟨m, hm, hmn, hmin⟩ : ∃ m, m < n0 ∧ listed.getD m false = false ∧ ∀ i, i < m → listed.getD i false = true := by
          have : ∀ d, (∀ i, i < d → listed.getD i false = true) ∨ ∃ m, m < d ∧ listed.getD m false = false ∧ ∀ i, i < m → listed.getD i false = true := by
            intro d
            induction d with
            | zero => exact .inl fun i hi => absurd hi (Nat.not_lt_zero _)
            | succ d ihd =>
              rcases ihd with h | ⟨m, h1, h2⟩
              · cases hx : listed.getD d false with
                | false => exact .inr ⟨d, by omega, hx, h⟩
                | true =>
                  refine .inl fun i hi => ?_
                  rcases Nat.lt_or_ge i d with h' | h'
                  · exact h i h'
                  · have hid : i = d := by omega
                    rw [hid]; exact hx
              · exact .inr ⟨m, by omega, h2⟩
          rcases this n0 with h | h
          · exact absurd h hall
          · exact h
        have hms : m < ops.size := Nat.lt_of_lt_of_le hm T.le
        have hmt : listed.getD m true = false := getD_in (by omega) hmn
        refine ⟨fun hr => ?_, fun i hi => ?_⟩
        · have : m ∈ Region.ready .any ops listed := mem_ready.2 ⟨hmt, ops[m], by simp [hms], fun e he hb => hmin _ (T.lex m _ (by simp [hms]) e he hb)⟩
          rw [hr] at this; cases this
        · obtain ⟨_, o, ho, hal⟩ := mem_ready.1 hi
          rcases Nat.lt_or_ge i n0 with h | h
          · exact h
          · have hr := reach_listed hcl 12 i m (T.tail m i o (by omega) h ho) (fun o' ho' => by rw [ho] at ho'; cases ho'; exact hal)
            rw [hmn] at hr
            cases hr
      refine ⟨fun hr => absurd hr hready.1, fun i hi => ?_⟩
      have hin := hready.2 i hi
      obtain ⟨hunl, o, ho, hal⟩ := mem_ready.1 hi
      have his : i < ops.size := (Array.getElem?_eq_some_iff.1 ho).1
      have hilf : listed.getD i false = false := getD_both hunl
      have hSn : ∀ j, listed.getD j false = true → j < n0 := fun j hj => by
        rcases Nat.lt_or_ge j n0 with h | h
        · exact h
        · rcases Nat.lt_or_ge j ops.size with his | his
          · have := getD_both (htl j h his); simp_all
          · rw [Array.getD_eq_getD_getElem?, Array.getElem?_eq_none (by omega)] at hj; cases hj
      have hturn := hT i o hin ho a w vals (fun j => listed.getD j false = true) (hIC _ w i hC (by rw [hilf]; simp)) hd hSn (fun j hj _ => hD j hj) (fun j hj => by
        obtain ⟨e, he, hb⟩ := waitsB_spec hj
        rw [← hb.2]; exact hal e he hb.1) (fun j x hj hx => ⟨fun hji => (by subst hji; rw [hilf] at hj; cases hj), by
        cases hxw : waitsB x i with
        | false => rfl
        | true =>
          obtain ⟨e, he, hb⟩ := waitsB_spec hxw
          have := hcl j x hx hj e he hb.1
          rw [hb.2, hilf] at this
          cases this⟩)
      -- what follows, the value being v, the world w'
      have hnext : ∀ v w', R i w w' → D i v w' → wpAny P .any ops Q fuel (listed.setIfInBounds i true) (a.put o.dst v) w' := by
        intro v w' hu hv
        refine ih (L.erase i) (listed.setIfInBounds i true) _ w' (fun j => if j = i then v else vals j) ?_ ?_ (by simp [hsz]) ?_ ?_ (by have h1 := hIR _ w w' i hC (by rw [hilf]; simp) hu; have e : (fun j => listed.getD j false = true ∨ j = i) = (fun j => (listed.setIfInBounds i true).getD j false = true) := (by funext j; by_cases hji : j = i; (· subst hji; simp [hsz, his]); (· rw [getD_set_ne false (Ne.symm hji)]; simp [hji])); rw [e] at h1; exact h1) ?_ ?_
        · have hmem := hun i hin hunl
          have := List.length_erase_of_mem hmem
          have hpos : 0 < L.length := List.length_pos_of_mem hmem
          omega
        · intro j hj hjl
          by_cases hji : j = i
          · subst hji; simp [hsz, his] at hjl
          · rw [getD_set_ne true (Ne.symm hji)] at hjl
            exact (List.mem_erase_of_ne hji).2 (hun j hj hjl)
        · intro j hj hjs
          rw [getD_set_ne true (by omega)]; exact htl j hj hjs
        · intro j x hx hjl e he hb
          by_cases hji : j = i
          · subst hji
            rw [ho] at hx; cases hx
            exact getD_set_true (hal e he hb)
          · rw [getD_set_ne false (Ne.symm hji)] at hjl
            exact getD_set_true (hcl j x hx hjl e he hb)
        · have h1 := hd.congr (S' := fun j => listed.getD j false = true) (vals' := fun j => if j = i then v else vals j) (fun _ => Iff.rfl) (fun j hj => by
            have : ¬ j = i := fun h => by subst h; rw [hilf] at hj; cases hj
            simp only [this, if_false])
          have h2 := h1.put (j := i) ho fun j x d hj hne hx hd' => by
            rcases Nat.lt_or_ge j i with hl | hl
            · exact T.dist j i x o d hl hin hx ho hd'
            · intro e
              exact T.dist i j o x d (by omega) (hSn j hj) ho hx e hd'
          simp only [if_true] at h2
          refine h2.congr (fun j => ?_) (fun _ _ => rfl)
          by_cases hji : j = i
          · subst hji; simp [hsz, his]
          · rw [getD_set_ne false (Ne.symm hji)]; simp [hji]
        · intro j hj
          by_cases hji : j = i
          · subst hji; simp only [if_true]; exact hv
          · rw [getD_set_ne false (Ne.symm hji)] at hj
            simp only [hji, if_false]
            exact hU j (hSn j hj) _ _ _ (hD j hj) (hRK j i _ _ (fun e => hji e.symm) hu)
      unfold wpOp
      simp only [ho]
      rcases hturn with ⟨hw, hat⟩ | ⟨hw, hdu⟩
      · simp only [hw, if_true]
        exact .inl (hat.wp hnext)
      · simp only [hw, Bool.false_eq_true, if_false]
        exact hnext undef w (hRr i w) hdu


theorem gAt_up {o : Oper} {a : Act} {w : World} {D : Value → World → Prop} (h : upAt P o a w D) : gAt P Up o a w D := by
  unfold upAt at h
  unfold gAt
  generalize (execOp a.eval o).run P w = r at *
  cases r with
  | ok n w' => cases n <;> exact h
  | halt x w' => exact h

theorem fills_mono {w : World} {K K' : Act → Prop} (h : ∀ a, K a → K' a) : ∀ {E : List Mk} {a : Act}, fills E a w K → fills E a w K'
  | [], _, hf => h _ hf
  | (_, _, _) :: _, _, hf => fun v hv => fills_mono h (hf v hv)
theorem wpUp_wpG {C : World → Prop} {Z : Act → World → Prop} : ∀ (l : List Oper) (k : Nat) (E : List Mk) (a : Act), wpUp P ops C Z l k E a → wpG P ops (fun _ => Up) (fun _ => Up) (fun _ => C) Z l k E a
  | [], k, E, a, h => h
  | o :: rest, k, E, a, h => by
    unfold wpUp at h
    unfold wpG
    split
    · next hw =>
      simp only [hw, if_true] at h
      rcases h with ⟨v, h1, h2⟩ | ⟨D, hg, hc, h1, h2⟩
      · exact .inl ⟨v, fun w hC => fills_mono (fun a' h => gAt_up h) (h1 w hC), wpUp_wpG rest _ _ _ h2⟩
      · exact .inr ⟨D, hg, fun v w w' hd hu => hc v w w' hd hu, fun w hC => fills_mono (fun a' h => gAt_up h) (h1 w hC), wpUp_wpG rest _ _ _ h2⟩
    · next hw =>
      simp only [hw] at h
      exact wpUp_wpG rest _ _ _ h
/-- The lexical walk, behind a name that nothing unfolds. -/
structure WUp (P : Program) (ops : Array Oper) (C : World → Prop) (Z : Act → World → Prop) (l : List Oper) (k : Nat) (E : List Mk) (a : Act) : Prop where
  out : wpUp P ops C Z l k E a

/-- THE THEOREM: the first n0 operations in the order of the text, each in a world of which only 'Up w' is known; then the tail, each of whose operations waits for all before it. -/
theorem wp_region_up (n0 : Nat) {id : Nat} {Q : Exit → Act → World → Prop} {a : Act} {w : World} {l : List Oper} (hm : P.follows .mixedOrders = true) (hB : upB l.toArray n0 = true)
    (h : WUp P l.toArray (fun w' => Up w w') (fun a' w' => wpList P l.toArray Q (l.drop n0) a' w') (l.take n0) 0 [] a) : (Code.region id l.toArray true).wp P Q a w := by
  have T := upB_text hB
  have hle : n0 ≤ l.length := by simpa using T.le
  obtain ⟨D, hU, hT, hZ⟩ := wpG_text (R := fun _ => Up) (Kc := fun _ => Up) (C := fun _ w' => Up w w') (Z := fun a' w' => wpList P l.toArray Q (l.drop n0) a' w') (a0 := a) (n0 := n0) T.c (l.take n0) 0 [] a (fun _ => False) (fun _ => undef) (fun _ _ _ => False) (by simp [hle]) (fun j hj => by
    simp only [List.length_take] at hj
    simp [show j < n0 by omega]) ⟨(Desc.refl a (fun _ => undef)).congr (fun i => by simp) (fun _ h => h.elim), fun i hi => absurd hi (Nat.not_lt_zero _), fun m hm => (by cases hm), fun i hi => absurd hi (Nat.not_lt_zero _)⟩
    (fun i hi => absurd hi (Nat.not_lt_zero _)) (fun j o hj => absurd hj (Nat.not_lt_zero _)) (wpUp_wpG _ _ _ _ h.out)
  refine wp_region_any hm (wpAny_g (R := fun _ => Up) (Kc := fun _ => Up) (C := fun _ w' => Up w w') (I := fun _ w' => Up w w') (fun S w' j hI hS => hI) (fun S w1 w2 j hI hS hR => hI.trans hR) (fun j w' => Up.refl _) (fun k j w1 w2 hne hR => hR) (a0 := a) T hU hT (by simpa using hZ) _ (List.range n0) _ a _ (fun _ => undef) (by simp; omega) (fun i hi _ => List.mem_range.2 hi) (by simp) (fun i hi his => by
    have : i < l.length := by simpa using his
    simp [this]) (fun j o ho hj => ?_) ?_ ?_ ?_)
  · rw [getD_replicate_false] at hj; cases hj
  · exact ⟨rfl, rfl, rfl, Nat.le_refl _, fun _ _ => rfl⟩
  · exact (Desc.refl a (fun _ => undef)).congr (fun i => by rw [getD_replicate_false]; simp) (fun _ h => h.elim)
  · intro i hi; rw [getD_replicate_false] at hi; cases hi

section
variable {C : World → Prop} {Z : Act → World → Prop} {o : Oper} {rest : List Oper} {k : Nat} {E : List Mk} {a : Act}
/-- One operation's step, behind a name. -/
def stepU (P : Program) (ops : Array Oper) (C : World → Prop) (E : List Mk) (k : Nat) (o : Oper) (a : Act) (K : List Mk → Act → Prop) : Prop :=
  (∃ v, (∀ w, C w → fills (E.filter fun m => waitsB o m.1) a w (fun a' => upAt P o a' w (fun v' _ => v' = v))) ∧ K E (a.put o.dst v)) ∨
  (∃ D, guardFree ops k = true ∧ (∀ v, UpClosed (D v)) ∧ (∀ w, C w → fills (E.filter fun m => waitsB o m.1) a w (fun a' => upAt P o a' w D)) ∧ K ((k, o.dst, D) :: E) a)
theorem wpUp_step (h : ∀ K : List Mk → Act → Prop, (∀ E a, WUp P ops C Z rest (k + 1) E a → K E a) → if Region.wanted o (yielded ops a.tmps) then stepU P ops C E k o a K else K E (a.put o.dst undef)) : WUp P ops C Z (o :: rest) k E a := by
  have := h (fun E a => wpUp P ops C Z rest (k + 1) E a) fun _ _ h => h.out
  refine ⟨?_⟩
  unfold wpUp
  exact this
theorem stepU_c {K : List Mk → Act → Prop} (v : Value) (h1 : ∀ w, C w → fills (E.filter fun m => waitsB o m.1) a w (fun a' => upAt P o a' w (fun v' _ => v' = v))) (h2 : K E (a.put o.dst v)) : stepU P ops C E k o a K := .inl ⟨v, h1, h2⟩
theorem stepU_m {K : List Mk → Act → Prop} (hg : guardFree ops k = true) (D : Value → World → Prop) (hD : ∀ v, UpClosed (D v))
    (h1 : ∀ w, C w → fills (E.filter fun m => waitsB o m.1) a w (fun a' => upAt P o a' w D)) (h2 : K ((k, o.dst, D) :: E) a) : stepU P ops C E k o a K := .inr ⟨D, hg, hD, h1, h2⟩
theorem fills_no {x : Oper} {i : Nat} {d : Option Tmp} {D : Value → World → Prop} {w : World} {K : Act → Prop} (h : waitsB x i = false) (hf : fills (E.filter fun m => waitsB x m.1) a w K) : fills (((i, d, D) :: E).filter fun m => waitsB x m.1) a w K := by
  rw [List.filter_cons_of_neg (by simp [h])]; exact hf
theorem fills_yes {x : Oper} {i : Nat} {d : Option Tmp} {D : Value → World → Prop} {w : World} {K : Act → Prop} (h : waitsB x i = true) (hf : ∀ v, D v w → fills (E.filter fun m => waitsB x m.1) (a.put d v) w K) : fills (((i, d, D) :: E).filter fun m => waitsB x m.1) a w K := by
  rw [List.filter_cons_of_pos (by simp [h])]; exact hf
theorem wpUp_nil (h : ∀ w, C w → fills E a w (fun a' => Z a' w)) : WUp P ops C Z [] k E a := ⟨h⟩
end

/-- The usual contract: the value, and nothing that was there has turned. -/
abbrev Same (v : Value) (w : World) (e : Ending) (w' : World) : Prop := e = .returned v ∧ Up w w'
theorem upOut_value {w : World} {v : Value} : upOut P (fun v' _ => v' = v) w (.ok (.value v) w) := ⟨Up.refl _, rfl⟩
theorem upOut_call {f : FuncId} {args : Array Value} {w : World} {v : Value} (h : Calls P f args w (Same v w)) : upOut P (fun v' _ => v' = v) w (.ok (.enter f args) w) :=
  ⟨rfl, h.mono fun _ _ ⟨he, hu⟩ => ⟨v, he, hu, rfl⟩⟩
theorem upOut_eq {f : FuncId} {args : Array Value} {w : World} {v : Value} (h : Calls P f args w (fun e w' => e = .returned v ∧ w = w')) : upOut P (fun v' _ => v' = v) w (.ok (.enter f args) w) :=
  ⟨rfl, h.mono fun _ _ ⟨he, hu⟩ => ⟨v, he, hu ▸ Up.refl _, rfl⟩⟩
theorem upOut_make {w w' : World} {v : Value} {D : Value → World → Prop} (hu : Up w w') (h : D v w') : upOut P D w (.ok (.value v) w') := ⟨hu, h⟩
theorem Up.of {w w' : World} (h : w = w') : Up w w' := h ▸ Up.refl _
theorem Up.alloc {a w : World} (h : Up a w) (o : Obj) : Up a (w.alloc o) := Below.alloc h h.size o
theorem Up.set {a w : World} (h : Up a w) {p : Addr} (hp : a.heap.size ≤ p.block) (u : Value) : Up a (w.setCell p u) := Below.setCell h hp u
theorem Up.drew {a w : World} (h : Up a w) : Up a w.drew := Below.drew h

/-- A block that the region made: a pointer to it, and what it holds. -/
def Boxed (B0 : Nat) (cs : Array Value) (T : TypeId) (v : Value) (w : World) : Prop := ∃ b, v = .pointer (some ⟨b, 0, none⟩) ∧ B0 ≤ b ∧ w.heap[b]? = some (.cells cs T)
theorem boxed_closed (B0 : Nat) (cs : Array Value) (T : TypeId) (v : Value) : UpClosed (Boxed B0 cs T v) := fun w w' ⟨b, h1, h2, h3⟩ hu =>
  ⟨b, h1, h2, (hu.block b (Array.getElem?_eq_some_iff.1 h3).1).trans h3⟩
theorem boxed_new {B0 : Nat} {cs : Array Value} {T : TypeId} {w : World} (h : B0 ≤ w.heap.size) : Boxed B0 cs T (.pointer (some ⟨w.heap.size, 0, none⟩)) (w.alloc (.cells cs T)) :=
  ⟨_, rfl, h, (MapKept.heap_alloc w _).1⟩
theorem box_cell {w : World} {b : Nat} {cs : Array Value} {T : TypeId} (h : w.heap[b]? = some (.cells cs T)) (i : Nat) : w.cell? ⟨b, i, none⟩ = cs[i]? := by
  unfold World.cell?
  simp [h]
theorem box_free {w : World} {b : Nat} {cs : Array Value} {T : TypeId} (h : w.heap[b]? = some (.cells cs T)) (i : Nat) : w.frozen? ⟨b, i, none⟩ = false := by
  unfold World.frozen?
  simp [h]
theorem box_set {w : World} {b : Nat} {cs : Array Value} {T : TypeId} (h : w.heap[b]? = some (.cells cs T)) (i : Nat) (v : Value) : (w.setCell ⟨b, i, none⟩ v).heap[b]? = some (.cells (cs.setIfInBounds i v) T) := by
  simp [World.setCell, Array.getElem?_modify, h]

theorem box_up {w w' : World} {b : Nat} {o : Obj} (hu : Up w w') (h : w.heap[b]? = some o) : w'.heap[b]? = some o :=
  (hu.block b (Array.getElem?_eq_some_iff.1 h).1).trans h

end
end Go.Proofs.YtmjpopfacagjhaaDoor

/- Walks of the small functions of blocks. Conditions: as each says. -/
namespace Go.Proofs.YtmjpopfacagjhaaDoor
set_option linter.unusedVariables false
set_option linter.unusedSimpArgs false
open Go.RowKit

def inB (n lo hi : Int) : Bool := decide (lo ≤ n) && decide (n ≤ hi)
theorem inB_iff {n lo hi : Int} : inB n lo hi = true ↔ lo ≤ n ∧ n ≤ hi := by simp [inB]
theorem inB_not {n lo hi : Int} : inB n lo hi = false ↔ n < lo ∨ hi < n := by rw [← Bool.not_eq_true, inB_iff]; omega

set_option maxHeartbeats 400000 in
theorem l1In_any (n lo hi : Int) (w : World) :
    Calls Tryd.prog 27 #[.int .i64 n, .int .i64 lo, .int .i64 hi] w fun e w' => e = .returned (.bool (inB n lo hi)) ∧ w = w' := by
  by_cases h : lo ≤ n
  all_goals
    go_enter Tryd.func27, Tryd.ntmps27
    go_wp2
    go_ret
    exact ⟨by simp only [inB]; congr 2; simp; omega, rfl⟩

theorem ret_bool {a b : Bool} (h : a = b) : Ending.returned (.bool a) = .returned (.bool b) := by rw [h]
theorem ret_int {k : IntKind} {a b : Int} (h : a = b) : Ending.returned (.int k a) = .returned (.int k b) := by rw [h]
theorem ret_str {a b : ByteArray} (h : a = b) : Ending.returned (.string a) = .returned (.string b) := by rw [h]

set_option maxHeartbeats 400000 in
theorem l5Number_any (n : Int) (w : World) :
    Calls Tryd.prog 75 #[.int .i64 n] w fun e w' => e = .returned (.bool (inB n 0 39)) ∧ w = w' := by
  go_enter Tryd.func75, Tryd.ntmps75
  go_wp2_with (go_at_call 27; refine (l1In_any _ _ _ _).mono ?_; rintro e w' ⟨rfl, rfl⟩)
  go_ret
  exact ⟨rfl, rfl⟩

/-- 'string([]byte{..})' at one and at two bytes: the slice's cells are known. -/
theorem conv_one (w : World) (b : Nat) (x : Int) (h : w.cell? ⟨b, 0, none⟩ = some (.int .u8 x)) :
    (convert 29 9 (.slice (some ⟨b, 0, none⟩) 1 1)).run Tryd.prog w = .ok (.string (strOfNums [x])) w :=
  run_convert_bytes_arg (P := Tryd.prog) w 29 5 Tryd.underlying29 Tryd.underlying5 b 0 1 1 [x] rfl (fun i hi => by
    obtain rfl : i = 0 := by omega
    exact h) 9 Tryd.underlying9
theorem conv_two (w : World) (b : Nat) (x y : Int) (h : w.cell? ⟨b, 0, none⟩ = some (.int .u8 x)) (h' : w.cell? ⟨b, 1, none⟩ = some (.int .u8 y)) :
    (convert 29 9 (.slice (some ⟨b, 0, none⟩) 2 2)).run Tryd.prog w = .ok (.string (strOfNums [x, y])) w :=
  run_convert_bytes_arg (P := Tryd.prog) w 29 5 Tryd.underlying29 Tryd.underlying5 b 0 2 2 [x, y] rfl (fun i hi => by
    rcases (by omega : i = 0 ∨ i = 1) with rfl | rfl
    · exact h
    · exact h') 9 Tryd.underlying9

theorem conv_new1 (w : World) (b : Nat) (x : Int) (hb : b = w.heap.size) : (convert 29 9 (.slice (some ⟨b, 0, none⟩) 1 1)).run Tryd.prog (w.alloc (.cells #[.int .u8 x] 5)) = .ok (.string (strOfNums [x])) (w.alloc (.cells #[.int .u8 x] 5)) :=
  conv_one _ _ _ (by subst hb; simp)
theorem conv_new2 (w : World) (b : Nat) (x y : Int) (hb : b = w.heap.size) : (convert 29 9 (.slice (some ⟨b, 0, none⟩) 2 2)).run Tryd.prog (w.alloc (.cells #[.int .u8 x, .int .u8 y] 5)) = .ok (.string (strOfNums [x, y])) (w.alloc (.cells #[.int .u8 x, .int .u8 y] 5)) :=
  conv_two _ _ _ _ (by subst hb; simp) (by subst hb; simp)

/-- A made slice of one byte. -/
def Lit1 (x : Int) (v : Value) (w : World) : Prop := ∃ b, v = .slice (some ⟨b, 0, none⟩) 1 1 ∧ b < w.heap.size ∧ w.cell? ⟨b, 0, none⟩ = some (.int .u8 x)
theorem lit1_closed (x : Int) (v : Value) : UpClosed (Lit1 x v) := fun w w' ⟨b, h1, h2, h3⟩ hu =>
  ⟨b, h1, Nat.lt_of_lt_of_le h2 hu.size, (hu.cell (p := ⟨b, 0, none⟩) h2).trans h3⟩
theorem lit1_new (w : World) (x : Int) : Lit1 x (.slice (some ⟨w.heap.size, 0, none⟩) 1 1) (w.alloc (.cells #[.int .u8 x] 5)) := ⟨_, rfl, by simp, by simp⟩
theorem lit1_conv {w : World} {x : Int} {v : Value} (h : Lit1 x v w) : (convert 29 9 v).run Tryd.prog w = .ok (.string (strOfNums [x])) w := by
  obtain ⟨b, rfl, _, h3⟩ := h
  exact conv_one w b x h3
theorem strOfNums_size (l : List Int) : (strOfNums l).size = l.length := by
  simp [strOfNums, ByteArray.size]
/-- The two bytes of a number. -/
def two (n : Int) : ByteArray := strOfNums [n / 256, n % 256]
theorem two_size (n : Int) : (two n).size = 2 := strOfNums_size _

set_option maxRecDepth 100000 in
set_option maxHeartbeats 400000 in
theorem l4Two_any (n : Int) (w : World) (h0 : 0 ≤ n) (h1 : n ≤ 65535) :
    Calls Tryd.prog 72 #[.int .i64 n] w (Same (.string (two n)) w) := by
  have hc := conv_new2
  go_enter Tryd.func72, Tryd.ntmps72
  go_wp2
  go_ret
  exact ⟨rfl, (Up.refl _).alloc _⟩

end Go.Proofs.YtmjpopfacagjhaaDoor

/- Walks of the checksum. Conditions: the string's length is below the model's bound. -/
namespace Go.Proofs.YtmjpopfacagjhaaDoor
set_option linter.unusedVariables false
set_option linter.unusedSimpArgs false
open Go.RowKit

/-- The checksum's two sums. -/
def sumStep (p : Int × Int) (x : UInt8) : Int × Int := ((p.1 + x.toNat) % 255, (p.2 + (p.1 + x.toNat) % 255) % 255)
def sumAB (l : List UInt8) : Int × Int := l.foldl sumStep (0, 0)
def sumOf (s : ByteArray) : Int := 256 * (sumAB s.data.toList).2 + (sumAB s.data.toList).1
theorem sumAB_snoc (l : List UInt8) (x : UInt8) : sumAB (l ++ [x]) = sumStep (sumAB l) x := by simp [sumAB, List.foldl_append]
theorem sumAB_bd (l : List UInt8) : 0 ≤ (sumAB l).1 ∧ (sumAB l).1 ≤ 254 ∧ 0 ≤ (sumAB l).2 ∧ (sumAB l).2 ≤ 254 := by
  rcases List.eq_nil_or_concat l with rfl | ⟨l', x, rfl⟩
  · decide
  · rw [List.concat_eq_append, sumAB_snoc]; simp only [sumStep]; omega
theorem sumOf_bd (s : ByteArray) : 0 ≤ sumOf s ∧ sumOf s ≤ 65278 := by
  have := sumAB_bd s.data.toList
  unfold sumOf; omega
theorem take_snoc (s : ByteArray) (k : Nat) (h : k < s.size) : s.data.toList.take (k + 1) = s.data.toList.take k ++ [s[k]] := by
  rw [List.take_succ_eq_append_getElem (by simpa using h)]; rfl
theorem u8_bd (x : UInt8) : (x.toNat : Int) ≤ 255 := by have := x.toNat_lt; omega

set_option maxHeartbeats 400000 in
theorem sumS_any (s : ByteArray) (w : World) (hs : s.size ≤ 9223372036854775807) :
    Calls Tryd.prog 73 #[.string s] w fun e w' => e = .returned (.int .i64 (sumOf s)) ∧ w = w' := by
  go_enter Tryd.func73, Tryd.ntmps73
  go_wp2
  go_loop [3, 4, 5] (fun a b i => ∃ k : Nat, k ≤ s.size ∧ i = .int .i64 k ∧ a = .int .i64 (sumAB (s.data.toList.take k)).1 ∧ b = .int .i64 (sumAB (s.data.toList.take k)).2) (fun _ _ i => s.size - (intOf i).toNat)
  case atStart => exact ⟨0, Nat.zero_le _, rfl, rfl, rfl⟩
  case round =>
    obtain ⟨k, hk, rfl, rfl, rfl⟩ := hrel
    obtain ⟨h1, h2, h3, h4⟩ := sumAB_bd (s.data.toList.take k)
    by_cases hlt : k < s.size
    · have hu := u8_bd s[k]
      have HS : Hid (sumAB (s.data.toList.take (k + 1)) = sumStep (sumAB (s.data.toList.take k)) s[k]) := by rw [take_snoc s k hlt]; exact sumAB_snoc _ _
      go_wp2
      go_round
      case rel => exact ⟨k + 1, by omega, by go_num, by rw [HS.out]; rfl, by rw [HS.out]; rfl⟩
      case measure => simp [intOf]; omega
    · have e : Hid (s.data.toList.take k = s.data.toList) := List.take_of_length_le (by simp; omega)
      go_wp2
      go_ret
      exact ⟨ret_int (by rw [e.out]; rfl), rfl⟩

/-- The byte of a block's kind. -/
def kindB (r : Bool) : Int := if r then 0 else 1
set_option maxRecDepth 100000 in
set_option maxHeartbeats 400000 in
theorem l5Kind_any (n : Int) (r : Bool) (s : Int) (b : ByteArray) (w : World) :
    Calls Tryd.prog 71 #[.agg #[.int .i64 n, .bool r, .int .i64 s, .string b]] w (Same (.string (strOfNums [kindB r])) w) := by
  have hc := conv_new1
  cases r
  all_goals
    go_enter Tryd.func71, Tryd.ntmps71
    go_wp2
    go_ret
    exact ⟨rfl, ((Up.refl _).alloc _).alloc _⟩

/-- The parts of a block fit together. -/
def formB (n : Int) (r : Bool) (s : Int) (b : ByteArray) : Bool := inB n 0 39 && inB s 1 64 && (if r then ((b.size : Int) == s) else inB b.size 1 (s - 1))

set_option maxRecDepth 100000 in
set_option maxHeartbeats 1000000 in
theorem l5Form_any (n : Int) (r : Bool) (s : Int) (b : ByteArray) (w : World) (_hb : b.size ≤ 9223372036854775807) :
    Calls Tryd.prog 65 #[.agg #[.int .i64 n, .bool r, .int .i64 s, .string b]] w (Same (.bool (formB n r s b)) w) := by
  cases h1 : inB n 0 39 <;> cases h2 : inB s 1 64
  case true.true =>
    obtain ⟨g1, g2⟩ := inB_iff.1 h2
    cases r
    all_goals
      go_enter Tryd.func65, Tryd.ntmps65
      go_wp2_with (first | (go_at_call 75; refine (l5Number_any _ _).mono ?_; rintro e w' ⟨rfl, rfl⟩) | (go_at_call 27; refine (l1In_any _ _ _ _).mono ?_; rintro e w' ⟨rfl, rfl⟩))
      go_ret
      exact ⟨ret_bool (by simp only [formB, h1, h2]; rfl), (Up.refl _).alloc _⟩
  all_goals
    go_enter Tryd.func65, Tryd.ntmps65
    go_wp2_with (first | (go_at_call 75; refine (l5Number_any _ _).mono ?_; rintro e w' ⟨rfl, rfl⟩) | (go_at_call 27; refine (l1In_any _ _ _ _).mono ?_; rintro e w' ⟨rfl, rfl⟩))
    go_ret
    exact ⟨ret_bool (by simp only [formB, h1, h2]; rfl), (Up.refl _).alloc _⟩

end Go.Proofs.YtmjpopfacagjhaaDoor

/- Walks of the functions that write a block's bytes. Conditions: the parts of the block fit together. -/
namespace Go.Proofs.YtmjpopfacagjhaaDoor
set_option linter.unusedVariables false
set_option linter.unusedSimpArgs false
open Go.RowKit

def inner (n : Int) (r : Bool) (s : Int) (b : ByteArray) : ByteArray := strOfNums [kindB r] ++ two n ++ two s ++ two b.size ++ b
def textB (n : Int) (r : Bool) (s : Int) (b : ByteArray) : ByteArray := strOfNums [181] ++ inner n r s b ++ two (sumOf (inner n r s b))

set_option maxRecDepth 100000 in
set_option maxHeartbeats 1000000 in
theorem l5Text_any (n : Int) (r : Bool) (s : Int) (b : ByteArray) (w : World) (h1 : 0 ≤ n ∧ n ≤ 39) (h2 : 1 ≤ s ∧ s ≤ 64) (h3 : b.size ≤ 64) :
    Calls Tryd.prog 62 #[.agg #[.int .i64 n, .bool r, .int .i64 s, .string b]] w (Same (.string (textB n r s b)) w) := by
  go_enter Tryd.func62, Tryd.ntmps62
  go_wp2
  refine wp_region_up 19 (by kernel_rfl) (by kernel_rfl) ?_
  simp only [List.take, List.drop]
  have hn := h1.1
  have hn' := h1.2
  have hs := h2.1
  have hs' := h2.2
  have z1 := strOfNums_size
  have z2 := two_size
  repeat (refine wpUp_step (fun K hK => ?_); go_simp; (try simp only [↓IntWalk.iteOmega]); first
    | (refine hK _ _ ?_; clear hK K)
    | (apply stepU_c
       · intro wq hwq; (have hbq := bcell hwq; (repeat (first | refine fills_no (by rfl) ?_ | refine fills_yes (by rfl) (fun vq hvq => ?_))); simp only [List.filter_nil, fills]; unfold upAt; go_simp; (try go_bits); (try simp only [↓IntWalk.iteOmega]); (try (rw [dif_pos (by omega)]; go_simp; try go_bits)); first | exact upOut_value | (apply upOut_call; (go_at_call 71; exact l5Kind_any _ _ _ _ _)) | (apply upOut_eq; (go_at_call 71; exact l5Kind_any _ _ _ _ _)) | (apply upOut_call; (go_at_call 72; exact l4Two_any _ _ (by omega) (by omega))) | (apply upOut_eq; (go_at_call 72; exact l4Two_any _ _ (by omega) (by omega))))
       go_simp; refine hK _ _ ?_; clear hK K))
  refine wpUp_nil (fun wq hwq => ?_)
  simp only [fills]
  go_wp2
  have U1 := hwq
  have hbd := sumOf_bd (inner n r s b)
  obtain ⟨hbd1, hbd2⟩ := hbd
  have z3 : (inner n r s b).size ≤ 71 := by simp [inner, strOfNums_size, two_size]; omega
  have HI : Hid (strOfNums [kindB r] ++ two n ++ two s ++ two b.size ++ b = inner n r s b) := rfl
  rw [HI.out]
  refine wp_region_up 9 (by kernel_rfl) (by kernel_rfl) ?_
  simp only [List.take, List.drop]
  repeat (refine wpUp_step (fun K hK => ?_); go_simp; (try simp only [↓IntWalk.iteOmega]); first
    | (refine hK _ _ ?_; clear hK K)
    | (apply stepU_c
       · intro wq hwq; (have hbq := bcell hwq; (repeat (first | refine fills_no (by rfl) ?_ | refine fills_yes (by rfl) (fun vq hvq => ?_))); simp only [List.filter_nil, fills]; unfold upAt; (try (have hcq := lit1_conv hvq)); go_simp; (try go_bits); (try simp only [↓IntWalk.iteOmega]); (try (rw [dif_pos (by omega)]; go_simp; try go_bits)); first | exact upOut_value | (apply upOut_call; (go_at_call 73; exact sumS_any _ _ (by omega))) | (apply upOut_eq; (go_at_call 73; exact sumS_any _ _ (by omega))) | (apply upOut_call; (go_at_call 72; exact l4Two_any _ _ (by omega) (by omega))) | (apply upOut_eq; (go_at_call 72; exact l4Two_any _ _ (by omega) (by omega))))
       go_simp; refine hK _ _ ?_; clear hK K)
    | (refine stepU_m (by kernel_rfl) (Lit1 181) (lit1_closed 181) (fun wq hwq => ?_) ?_
       · (have hbq := bcell hwq; (repeat (first | refine fills_no (by rfl) ?_ | refine fills_yes (by rfl) (fun vq hvq => ?_))); simp only [List.filter_nil, fills]; unfold upAt; (try (have hcq := lit1_conv hvq)); go_simp; (try go_bits); (try simp only [↓IntWalk.iteOmega]); (try (rw [dif_pos (by omega)]; go_simp; try go_bits)); exact upOut_make ((Up.refl _).alloc _) (lit1_new _ _))
       refine hK _ _ ?_; clear hK K))
  refine wpUp_nil (fun wq hwq => ?_)
  simp only [fills]
  intro v _
  go_wp2
  go_ret
  exact ⟨rfl, ((Up.refl _).alloc _).trans (U1.trans hwq)⟩

theorem formB_bd {n : Int} {r : Bool} {s : Int} {b : ByteArray} (h : formB n r s b = true) : (0 ≤ n ∧ n ≤ 39) ∧ (1 ≤ s ∧ s ≤ 64) ∧ b.size ≤ 64 := by
  unfold formB at h
  simp only [Bool.and_eq_true, inB_iff] at h
  refine ⟨h.1.1, h.1.2, ?_⟩
  have h3 := h.2
  cases r
  · simp [inB] at h3; omega
  · simp at h3; omega

/-- What FormatBlock returns. -/
def fmtB (n : Int) (r : Bool) (s : Int) (b : ByteArray) : Value := if formB n r s b then .tuple #[.string (textB n r s b), .bool true] else .tuple #[.string ByteArray.empty, .bool false]

end Go.Proofs.YtmjpopfacagjhaaDoor

/- Walks of the functions that read numbers of two bytes. Conditions: the two bytes are there. -/
namespace Go.Proofs.YtmjpopfacagjhaaDoor
set_option linter.unusedVariables false
set_option linter.unusedSimpArgs false
open Go.RowKit

/-- A byte as a number (0 behind the end). -/
def byteAt (s : ByteArray) (k : Nat) : Int := (s.data.toList.getD k 0).toNat
def numAt (s : ByteArray) (k : Nat) : Int := 256 * byteAt s k + byteAt s (k + 1)
theorem byteAt_bd (s : ByteArray) (k : Nat) : 0 ≤ byteAt s k ∧ byteAt s k ≤ 255 := by
  have := (s.data.toList.getD k 0).toNat_lt
  unfold byteAt; omega
theorem numAt_bd (s : ByteArray) (k : Nat) : 0 ≤ numAt s k ∧ numAt s k ≤ 65535 := by
  have := byteAt_bd s k; have := byteAt_bd s (k + 1)
  unfold numAt; omega
theorem byteAt_get (s : ByteArray) (k : Nat) (h : k < s.size) : (s[k].toNat : Int) = byteAt s k := by
  unfold byteAt
  have h' : k < s.data.toList.length := by simpa using h
  rw [List.getD_eq_getElem?_getD, List.getElem?_eq_getElem h']
  rfl
theorem byteAt_extract (s : ByteArray) (i j k : Nat) (hj : j ≤ s.size) (h : i + k < j) : byteAt (s.extract i j) k = byteAt s (i + k) := by
  unfold byteAt
  rw [Lib.extract_data, List.getD_eq_getElem?_getD, List.getD_eq_getElem?_getD, List.getElem?_take, if_pos (by omega), List.getElem?_drop]
theorem numAt_extract (s : ByteArray) (i j k : Nat) (hj : j ≤ s.size) (h : i + k + 1 < j) : numAt (s.extract i j) k = numAt s (i + k) := by
  unfold numAt
  rw [byteAt_extract s i j k hj (by omega), byteAt_extract s i j (k + 1) hj (by omega), Nat.add_assoc]
theorem or_two (x y : Int) (hx : 0 ≤ x) (hx' : x ≤ 255) (hy : 0 ≤ y) (hy' : y ≤ 255) : bits .or .i64 (x * 256) y = 256 * x + y := by
  rw [bits_join .i64 16 (by decide) (fun n h0 h1 => IntWalk.i64_in n (by omega)) 8 (x * 256) y (by omega) (by omega) (by omega) hy (by omega) (by omega)]
  omega

set_option maxRecDepth 100000 in
set_option maxHeartbeats 400000 in
theorem l5Pair_any (s : ByteArray) (w : World) (hs : s.size ≤ 9223372036854775807) (hk : 1 < s.size) :
    Calls Tryd.prog 64 #[.string s] w (Same (.int .i64 (numAt s 0)) w) := by
  have hu := u8_bd s[0]
  have hk0 : 0 < s.size := by omega
  have hu1 := u8_bd s[1]
  go_enter Tryd.func64, Tryd.ntmps64
  go_wp2
  refine wp_region_up 9 (by kernel_rfl) (by kernel_rfl) ?_
  simp only [List.take, List.drop]
  repeat (refine wpUp_step (fun K hK => ?_); go_simp; (try simp only [↓IntWalk.iteOmega]); first
    | (refine hK _ _ ?_; clear hK K)
    | (apply stepU_c
       · intro wq hwq; (have hbq := bcell hwq; (repeat (first | refine fills_no (by rfl) ?_ | refine fills_yes (by rfl) (fun vq hvq => ?_))); simp only [List.filter_nil, fills]; unfold upAt; go_simp; (try go_bits); (try simp only [↓IntWalk.iteOmega]); (try (rw [dif_pos (by omega)]; go_simp; try go_bits)); first | exact upOut_value)
       go_simp; refine hK _ _ ?_; clear hK K))
  refine wpUp_nil (fun wq hwq => ?_)
  simp only [fills]
  go_wp2
  go_ret
  exact ⟨ret_int (by rw [byteAt_get, byteAt_get]; rfl), hwq⟩

/-- The parts that ParseBlock reads at a place. -/
def bodyAt (s : ByteArray) (k : Nat) : ByteArray := s.extract (k + 8) (k + 8 + (numAt s (k + 6)).toNat)
def endAt (s : ByteArray) (k : Nat) : Nat := k + 8 + (numAt s (k + 6)).toNat
def headOk (s : ByteArray) (k : Nat) : Bool := decide (k + 10 ≤ s.size) && (byteAt s k == 181) && decide (byteAt s (k + 1) ≤ 1)
def parseOk (s : ByteArray) (k : Nat) : Bool := headOk s k && decide (endAt s k + 2 ≤ s.size) && formB (numAt s (k + 2)) (byteAt s (k + 1) == 0) (numAt s (k + 4)) (bodyAt s k) && (sumOf (s.extract (k + 1) (endAt s k)) == numAt s (endAt s k))
def noBlock : Value := .tuple #[.agg #[.int .i64 0, .bool false, .int .i64 0, .string ByteArray.empty], .int .i64 0, .bool false]
def parsed (s : ByteArray) (k : Nat) : Value := .tuple #[.agg #[.int .i64 (numAt s (k + 2)), .bool (byteAt s (k + 1) == 0), .int .i64 (numAt s (k + 4)), .string (bodyAt s k)], .int .i64 (endAt s k + 2 : Nat), .bool true]
def parseV (s : ByteArray) (at' : Int) : Value := if at' < 0 then noBlock else if parseOk s at'.toNat then parsed s at'.toNat else noBlock

end Go.Proofs.YtmjpopfacagjhaaDoor

/- Plain facts on strings of bytes: parts of a string, two bytes of a number, and what a block's text is. Conditions: as each says. -/
namespace Go.Proofs.YtmjpopfacagjhaaDoor
set_option linter.unusedVariables false
set_option linter.unusedSimpArgs false
open Go.RowKit

theorem ba_ext {a b : ByteArray} (h : a.data.toList = b.data.toList) : a = b := ByteArray.ext (Array.toList_inj.1 h)
theorem ba_ne {a b : ByteArray} (h : a ≠ b) : (a.toList == b.toList) = false := by
  rw [beq_eq_false_iff_ne]
  intro e
  rw [Lib.toList_data, Lib.toList_data] at e
  exact h (ba_ext e)
theorem ba_append (a b : ByteArray) : (a ++ b).data.toList = a.data.toList ++ b.data.toList := by simp
theorem ba_nums (l : List Int) : (strOfNums l).data.toList = l.map fun n => UInt8.ofNat n.toNat := by simp [strOfNums]

theorem ext_split (s : ByteArray) (i l j : Nat) (h1 : i ≤ l) (h2 : l ≤ j) : s.extract i j = s.extract i l ++ s.extract l j := by
  apply ba_ext
  rw [ba_append, Lib.extract_data, Lib.extract_data, Lib.extract_data]
  generalize s.data.toList = L
  have e : j - i = (l - i) + (j - l) := by omega
  rw [e, List.take_add, List.drop_drop, show i + (l - i) = l by omega]

theorem ext_one (s : ByteArray) (i : Nat) (h : i < s.size) : s.extract i (i + 1) = strOfNums [byteAt s i] := by
  apply ba_ext
  rw [Lib.extract_data, ba_nums, show i + 1 - i = 1 by omega]
  have h' : i < s.data.toList.length := by simpa using h
  rw [List.drop_eq_getElem_cons h']
  simp [byteAt, List.getD_eq_getElem?_getD, List.getElem?_eq_getElem h']

theorem ext_two (s : ByteArray) (i : Nat) (h : i + 1 < s.size) : s.extract i (i + 2) = strOfNums [byteAt s i, byteAt s (i + 1)] := by
  rw [ext_split s i (i + 1) (i + 2) (by omega) (by omega), ext_one s i (by omega), ext_one s (i + 1) (by omega)]
  apply ba_ext
  rw [ba_append, ba_nums, ba_nums, ba_nums]; rfl

theorem two_num (s : ByteArray) (i : Nat) (h : i + 1 < s.size) : two (numAt s i) = s.extract i (i + 2) := by
  have h1 := byteAt_bd s i; have h2 := byteAt_bd s (i + 1)
  rw [ext_two s i h, two, numAt, show (256 * byteAt s i + byteAt s (i + 1)) / 256 = byteAt s i by omega, show (256 * byteAt s i + byteAt s (i + 1)) % 256 = byteAt s (i + 1) by omega]

theorem two_inj {x y : Int} (hx : 0 ≤ x ∧ x ≤ 65535) (hy : 0 ≤ y ∧ y ≤ 65535) (h : two x = two y) : x = y := by
  have h1 := congrArg (fun a => a.data.toList) h
  simp only [two, ba_nums, List.map_cons, List.map_nil, List.cons.injEq, and_true] at h1
  obtain ⟨a, b⟩ := h1
  have a' := congrArg UInt8.toNat a
  have b' := congrArg UInt8.toNat b
  simp only [UInt8.toNat_ofNat'] at a' b'
  omega

theorem inner_at (s : ByteArray) (k m : Nat) (hfit : k + 8 + m + 2 ≤ s.size) (hm : numAt s (k + 6) = m) (h1 : byteAt s (k + 1) ≤ 1) :
    inner (numAt s (k + 2)) (byteAt s (k + 1) == 0) (numAt s (k + 4)) (s.extract (k + 8) (k + 8 + m)) = s.extract (k + 1) (k + 8 + m) := by
  have hs : (s.extract (k + 8) (k + 8 + m)).size = m := by simp; omega
  have hk : strOfNums [kindB (byteAt s (k + 1) == 0)] = s.extract (k + 1) (k + 2) := by
    rw [ext_one s (k + 1) (by omega)]
    have := byteAt_bd s (k + 1)
    rcases (by omega : byteAt s (k + 1) = 0 ∨ byteAt s (k + 1) = 1) with e | e <;> rw [e] <;> rfl
  unfold inner
  rw [hs, ← hm, hk, two_num s (k + 2) (by omega), two_num s (k + 4) (by omega), two_num s (k + 6) (by omega), ← ext_split, ← ext_split, ← ext_split, ← ext_split] <;> omega

theorem text_at (s : ByteArray) (k m : Nat) (hfit : k + 8 + m + 2 ≤ s.size) (hm : numAt s (k + 6) = m) (h0 : byteAt s k = 181) (h1 : byteAt s (k + 1) ≤ 1) :
    textB (numAt s (k + 2)) (byteAt s (k + 1) == 0) (numAt s (k + 4)) (s.extract (k + 8) (k + 8 + m)) = s.extract k (k + 10 + m) ↔ sumOf (s.extract (k + 1) (k + 8 + m)) = numAt s (k + 8 + m) := by
  unfold textB
  rw [inner_at s k m hfit hm h1]
  have e0 : strOfNums [181] = s.extract k (k + 1) := by rw [ext_one s k (by omega), h0]
  rw [e0, ← ext_split s k (k + 1) (k + 8 + m) (by omega) (by omega), ext_split s k (k + 8 + m) (k + 10 + m) (by omega) (by omega), show k + 10 + m = k + 8 + m + 2 by omega, ← two_num s (k + 8 + m) (by omega)]
  constructor
  · intro h
    have h' := congrArg (fun a => a.data.toList) h
    simp only [ba_append] at h'
    have h'' := List.append_cancel_left h'
    exact two_inj (by have := sumOf_bd (s.extract (k + 1) (k + 8 + m)); omega) (numAt_bd _ _) (ba_ext h'')
  · intro h; rw [h]

end Go.Proofs.YtmjpopfacagjhaaDoor

/- Walk of the program's ParseBlock. Conditions: the string's length is below the model's bound. -/
namespace Go.Proofs.YtmjpopfacagjhaaDoor
set_option linter.unusedVariables false
set_option linter.unusedSimpArgs false
open Go.RowKit

theorem headOk_not {s : ByteArray} {k : Nat} (h : headOk s k = false) : parseV s (k : Int) = noBlock := by
  unfold parseV
  rw [if_neg (by omega), show ((k : Int)).toNat = k by omega, if_neg (by unfold parseOk; rw [h]; simp)]
theorem parseV_not {s : ByteArray} {k : Nat} (h : parseOk s k = false) : parseV s (k : Int) = noBlock := by
  unfold parseV
  rw [if_neg (by omega), show ((k : Int)).toNat = k by omega, if_neg (by rw [h]; simp)]
theorem parseV_yes {s : ByteArray} {k : Nat} (h : parseOk s k = true) : parseV s (k : Int) = parsed s k := by
  unfold parseV
  rw [if_neg (by omega), show ((k : Int)).toNat = k by omega, if_pos h]

theorem headOk_yes {s : ByteArray} {k : Nat} (h : headOk s k = true) : k + 10 ≤ s.size ∧ byteAt s k = 181 ∧ byteAt s (k + 1) ≤ 1 := by
  simp only [headOk, Bool.and_eq_true, decide_eq_true_eq, beq_iff_eq] at h
  exact ⟨h.1.1, h.1.2, h.2⟩

end Go.Proofs.YtmjpopfacagjhaaDoor

/- Walk of the reference's ParseBlock. Conditions: the string's length is below 2^30. -/
namespace Go.Proofs.YtmjpopfacagjhaaDoor
set_option linter.unusedVariables false
set_option linter.unusedSimpArgs false
open Go.RowKit

set_option maxRecDepth 100000 in
set_option maxHeartbeats 1000000 in
theorem parseS_head (s : ByteArray) (at' : Int) (w : World) (hs0 : s.size ≤ 1073741824) (h : at' < 0 ∨ ∃ k : Nat, at' = k ∧ headOk s k = false) :
    Calls Tryd.prog 54 #[.string s, .int .i64 at'] w (Same noBlock w) := by
  have hs : s.size ≤ 9223372036854775807 := by omega
  unfold noBlock
  rcases h with h | ⟨k, rfl, h⟩
  · go_enter Tryd.func54, Tryd.ntmps54
    go_wp2
    refine bodyPost_ret (v := .tuple #[.agg #[.int .i64 0, .bool false, .int .i64 0, .string ByteArray.empty], .int .i64 0, .bool false]) (by simp [results, Tryd.results54, go_sem]; rfl) rfl ⟨rfl, ?_⟩
    exact (Up.refl _).alloc _
  · by_cases h1 : (s.size : Int) < k
    · go_enter Tryd.func54, Tryd.ntmps54
      go_wp2
      refine bodyPost_ret (v := .tuple #[.agg #[.int .i64 0, .bool false, .int .i64 0, .string ByteArray.empty], .int .i64 0, .bool false]) (by simp [results, Tryd.results54, go_sem]; rfl) rfl ⟨rfl, ?_⟩
      exact (Up.refl _).alloc _
    by_cases h10 : (s.size : Int) - k < 10
    · go_enter Tryd.func54, Tryd.ntmps54
      go_wp2
      refine bodyPost_ret (v := .tuple #[.agg #[.int .i64 0, .bool false, .int .i64 0, .string ByteArray.empty], .int .i64 0, .bool false]) (by simp [results, Tryd.results54, go_sem]; rfl) rfl ⟨rfl, ?_⟩
      exact (Up.refl _).alloc _
    · have hk : k < s.size := by omega
      have hk1 : k + 1 < s.size := by omega
      have e1 := byteAt_get s k hk
      have e2 := byteAt_get s (k + 1) hk1
      simp only [headOk, Bool.and_eq_false_iff, decide_eq_false_iff_not, beq_eq_false_iff_ne] at h
      have b1 := byteAt_bd s k
      have b2 := byteAt_bd s (k + 1)
      by_cases h2 : s[k].toNat = 181
      · have h3 : 1 < s[k + 1].toNat := by omega
        clear h e1 e2
        go_enter Tryd.func54, Tryd.ntmps54
        go_wp2
        refine bodyPost_ret (v := .tuple #[.agg #[.int .i64 0, .bool false, .int .i64 0, .string ByteArray.empty], .int .i64 0, .bool false]) (by simp [results, Tryd.results54, go_sem]; rfl) rfl ⟨rfl, ?_⟩
        exact (Up.refl _).alloc _
      · clear h e1 e2
        go_enter Tryd.func54, Tryd.ntmps54
        go_wp2
        refine bodyPost_ret (v := .tuple #[.agg #[.int .i64 0, .bool false, .int .i64 0, .string ByteArray.empty], .int .i64 0, .bool false]) (by simp [results, Tryd.results54, go_sem]; rfl) rfl ⟨rfl, ?_⟩
        exact (Up.refl _).alloc _

set_option maxRecDepth 100000 in
set_option maxHeartbeats 2000000 in
theorem parseS_body (s : ByteArray) (k : Nat) (w : World) (hs0 : s.size ≤ 1073741824) (h : headOk s k = true) :
    Calls Tryd.prog 54 #[.string s, .int .i64 k] w (Same (if parseOk s k then parsed s k else noBlock) w) := by
  have hs : s.size ≤ 9223372036854775807 := by omega
  obtain ⟨hk10, g1, g2⟩ := headOk_yes h
  have hk : k < s.size := by omega
  have hk1 : k + 1 < s.size := by omega
  have e1 := byteAt_get s k hk
  have e2 := byteAt_get s (k + 1) hk1
  have h2 : s[k].toNat = 181 := by omega
  have h3 : s[k + 1].toNat ≤ 1 := by omega
  obtain ⟨nb1, nb2⟩ := numAt_bd s (k + 6)
  have pairAt : ∀ i : Nat, i + 2 ≤ s.size → ∀ v, numAt s i = v → ∀ w, Calls Tryd.prog 64 #[.string (s.extract i (i + 2))] w (Same (.int .i64 v) w) := by
    intro i hi v hv w
    subst hv
    have := l5Pair_any (s.extract i (i + 2)) w (by simp; omega) (by simp; omega)
    rwa [numAt_extract s i (i + 2) 0 hi (by omega)] at this
  by_cases hfit : endAt s k + 2 ≤ s.size
  · obtain ⟨m, hm⟩ : ∃ m : Nat, numAt s (k + 6) = m := ⟨(numAt s (k + 6)).toNat, by omega⟩
    have hE : endAt s k = k + 8 + m := by unfold endAt; rw [hm]; rfl
    have hB : bodyAt s k = s.extract (k + 8) (k + 8 + m) := by unfold bodyAt; rw [hm]; rfl
    have hfit2 : k + 8 + m + 2 ≤ s.size := by omega
    have hN := pairAt (k + 6) (by omega) m hm
    have hTX := text_at s k m hfit2 hm g1 g2
    rw [hm] at nb1 nb2
    obtain ⟨n2, hn2⟩ : ∃ n, n = numAt s (k + 2) := ⟨_, rfl⟩
    obtain ⟨n4, hn4⟩ : ∃ n, n = numAt s (k + 4) := ⟨_, rfl⟩
    have HP : Hid (parseOk s k = (formB n2 (byteAt s (k + 1) == 0) n4 (s.extract (k + 8) (k + 8 + m)) && (sumOf (s.extract (k + 1) (k + 8 + m)) == numAt s (k + 8 + m)))) := by
      unfold Hid parseOk
      rw [h, hE, hB, decide_eq_true hfit2, ← hn2, ← hn4]; rfl
    have HV : Hid (parsed s k = .tuple #[.agg #[.int .i64 n2, .bool (byteAt s (k + 1) == 0), .int .i64 n4, .string (s.extract (k + 8) (k + 8 + m))], .int .i64 ((k : Int) + 10 + m), .bool true]) := by
      unfold Hid parsed; rw [hE, hB, ← hn2, ← hn4, show ((k + 8 + m + 2 : Nat) : Int) = (k : Int) + 10 + m from by omega]
    have hN2 := pairAt (k + 2) (by omega) n2 hn2.symm
    have hN4 := pairAt (k + 4) (by omega) n4 hn4.symm
    rw [← hn2, ← hn4] at hTX
    have e2' : ((s[k + 1].toNat : Int) == 0) = (byteAt s (k + 1) == 0) := by rw [e2]
    generalize hr : (byteAt s (k + 1) == 0) = r at *
    have hbs : (s.extract (k + 8) (k + 8 + m)).size = m := by simp; omega
    generalize hb : s.extract (k + 8) (k + 8 + m) = b at *
    have hbs' : b.size ≤ 9223372036854775807 := by omega
    clear h g1 g2 e1 e2 hE hB hn2 hn4 hr hm hfit pairAt
    cases hf : formB n2 r n4 b
    · rw [HP.out, hf, Bool.false_and, if_neg Bool.false_ne_true]
      unfold noBlock
      clear hTX
      go_enter Tryd.func54, Tryd.ntmps54
      go_wp2_with (go_at_call 64; (with_reducible refine (hN _).mono ?_); rintro e w1 ⟨rfl, U1⟩; have B1 := bcell U1)
      refine wp_region_up 29 (by kernel_rfl) (by kernel_rfl) ?_
      simp only [List.take, List.drop]
      repeat (refine wpUp_step (fun K hK => ?_); go_simp; (try simp only [↓IntWalk.iteOmega]); first
        | (refine hK _ _ ?_; clear hK K)
        | (apply stepU_c
           · intro wq hwq; (have hbq := bcell hwq; (repeat (first | refine fills_no (by rfl) ?_ | refine fills_yes (by rfl) (fun vq hvq => ?_))); simp only [List.filter_nil, fills]; unfold upAt; (try (skip)); go_simp; (try go_bits); (try simp only [↓IntWalk.iteOmega]); (try (rw [dif_pos (by omega)]; go_simp; try go_bits)); first | exact upOut_value | (apply upOut_call; (go_at_call 64; with_reducible exact hN2 _)) | (apply upOut_eq; (go_at_call 64; with_reducible exact hN2 _)) | (apply upOut_call; (go_at_call 64; with_reducible exact hN4 _)) | (apply upOut_eq; (go_at_call 64; with_reducible exact hN4 _)))
           go_simp; refine hK _ _ ?_; clear hK K)
        | (refine stepU_m (by kernel_rfl) (Boxed w1.heap.size #[.int .i64 0, .bool false, .int .i64 0, .string ⟨#[]⟩] 94) (boxed_closed _ _ _) (fun wq hwq => ?_) ?_
           · (have hbq := bcell hwq; (repeat (first | refine fills_no (by rfl) ?_ | refine fills_yes (by rfl) (fun vq hvq => ?_))); simp only [List.filter_nil, fills]; unfold upAt; (try (skip)); go_simp; (try go_bits); (try simp only [↓IntWalk.iteOmega]); (try (rw [dif_pos (by omega)]; go_simp; try go_bits)); exact upOut_make ((Up.refl _).alloc _) (boxed_new hwq.size))
           refine hK _ _ ?_; clear hK K))
      refine wpUp_nil (fun wq hwq => ?_)
      simp only [fills]
      have U2 := hwq
      have B2 := bcell (U1.trans U2)
      rintro v ⟨q, rfl, hq, hblk⟩
      have Z1 := U1.size
      simp at Z1
      have c0 := box_cell hblk 0
      have c1 := box_cell hblk 1
      have c2 := box_cell hblk 2
      have c3 := box_cell hblk 3
      have f0 := box_free hblk 0
      have f1 := box_free hblk 1
      have f2 := box_free hblk 2
      have f3 := box_free hblk 3
      simp at c0 c1 c2 c3
      have hqn : w.heap.size ≠ q := by omega
      have hqa : (w.alloc (.cells #[.int .i64 0, .bool false, .int .i64 0, .string ⟨#[]⟩] 94)).heap.size ≤ q := by simp; omega
      have hst := box_set (box_set (box_set (box_set hblk 0 (.int .i64 n2)) 1 (.bool r)) 2 (.int .i64 n4)) 3 (.string b)
      simp at hst
      have U2' := ((((U1.trans U2).set hqa (.int .i64 n2) (p := ⟨q, 0, none⟩)).set hqa (.bool r) (p := ⟨q, 1, none⟩)).set hqa (.int .i64 n4) (p := ⟨q, 2, none⟩)).set hqa (.string b) (p := ⟨q, 3, none⟩)
      go_wp2
      have FF := hf
      refine wp_region_up 12 (by kernel_rfl) (by kernel_rfl) ?_
      simp only [List.take, List.drop]
      repeat (refine wpUp_step (fun K hK => ?_); go_simp; (try simp only [↓IntWalk.iteOmega]); first
        | (refine hK _ _ ?_; clear hK K)
        | (apply stepU_c
           · intro wq hwq; (have hbq := bcell hwq; (repeat (first | refine fills_no (by rfl) ?_ | refine fills_yes (by rfl) (fun vq hvq => ?_))); simp only [List.filter_nil, fills]; unfold upAt; (try ((have B3 := bcell (U2'.trans hwq); have C3 := box_cell (box_up hwq hst)))); go_simp; (try go_bits); (try simp only [↓IntWalk.iteOmega]); (try (rw [dif_pos (by omega)]; go_simp; try go_bits)); first | exact upOut_value | (apply upOut_call; (go_at_call 65; with_reducible exact l5Form_any _ _ _ _ _ hbs')) | (apply upOut_eq; (go_at_call 65; with_reducible exact l5Form_any _ _ _ _ _ hbs')))
           go_simp; refine hK _ _ ?_; clear hK K))
      refine wpUp_nil (fun wq hwq => ?_)
      simp only [fills]
      have B5 := bcell (U2'.trans hwq)
      have C5 := box_cell (box_up hwq hst)
      go_wp2
      refine bodyPost_ret (v := .tuple #[.agg #[.int .i64 0, .bool false, .int .i64 0, .string ByteArray.empty], .int .i64 0, .bool false]) (by simp [results, Tryd.results54, go_sem, B5]; rfl) rfl ⟨rfl, ?_⟩
      exact Up.set (Up.set (Up.set (Up.set (((Up.refl w).alloc _).trans (U2'.trans hwq)) (Nat.le_refl _) _) (Nat.le_refl _) _) (Nat.le_refl _) _) (Nat.le_refl _) _
    · obtain ⟨fb1, fb2, fb3⟩ := formB_bd hf
      have hT := fun w => l5Text_any n2 r n4 b w fb1 fb2 fb3
      generalize hS : textB n2 r n4 b = S at *
      generalize hM : s.extract k (k + 10 + m) = M at *
      by_cases hSM : S = M
      · have hsum := hTX.1 hSM
        subst hSM
        rw [HP.out, hf, hsum]
        simp only [beq_self_eq_true, Bool.and_self, if_true]
        rw [HV.out]
        clear hTX hsum fb1 fb2 fb3
        go_enter Tryd.func54, Tryd.ntmps54
        go_wp2_with (go_at_call 64; (with_reducible refine (hN _).mono ?_); rintro e w1 ⟨rfl, U1⟩; have B1 := bcell U1)
        refine wp_region_up 29 (by kernel_rfl) (by kernel_rfl) ?_
        simp only [List.take, List.drop]
        repeat (refine wpUp_step (fun K hK => ?_); go_simp; (try simp only [↓IntWalk.iteOmega]); first
          | (refine hK _ _ ?_; clear hK K)
          | (apply stepU_c
             · intro wq hwq; (have hbq := bcell hwq; (repeat (first | refine fills_no (by rfl) ?_ | refine fills_yes (by rfl) (fun vq hvq => ?_))); simp only [List.filter_nil, fills]; unfold upAt; (try (skip)); go_simp; (try go_bits); (try simp only [↓IntWalk.iteOmega]); (try (rw [dif_pos (by omega)]; go_simp; try go_bits)); first | exact upOut_value | (apply upOut_call; (go_at_call 64; with_reducible exact hN2 _)) | (apply upOut_eq; (go_at_call 64; with_reducible exact hN2 _)) | (apply upOut_call; (go_at_call 64; with_reducible exact hN4 _)) | (apply upOut_eq; (go_at_call 64; with_reducible exact hN4 _)))
             go_simp; refine hK _ _ ?_; clear hK K)
          | (refine stepU_m (by kernel_rfl) (Boxed w1.heap.size #[.int .i64 0, .bool false, .int .i64 0, .string ⟨#[]⟩] 94) (boxed_closed _ _ _) (fun wq hwq => ?_) ?_
             · (have hbq := bcell hwq; (repeat (first | refine fills_no (by rfl) ?_ | refine fills_yes (by rfl) (fun vq hvq => ?_))); simp only [List.filter_nil, fills]; unfold upAt; (try (skip)); go_simp; (try go_bits); (try simp only [↓IntWalk.iteOmega]); (try (rw [dif_pos (by omega)]; go_simp; try go_bits)); exact upOut_make ((Up.refl _).alloc _) (boxed_new hwq.size))
             refine hK _ _ ?_; clear hK K))
        refine wpUp_nil (fun wq hwq => ?_)
        simp only [fills]
        have U2 := hwq
        have B2 := bcell (U1.trans U2)
        rintro v ⟨q, rfl, hq, hblk⟩
        have Z1 := U1.size
        simp at Z1
        have c0 := box_cell hblk 0
        have c1 := box_cell hblk 1
        have c2 := box_cell hblk 2
        have c3 := box_cell hblk 3
        have f0 := box_free hblk 0
        have f1 := box_free hblk 1
        have f2 := box_free hblk 2
        have f3 := box_free hblk 3
        simp at c0 c1 c2 c3
        have hqn : w.heap.size ≠ q := by omega
        have hqa : (w.alloc (.cells #[.int .i64 0, .bool false, .int .i64 0, .string ⟨#[]⟩] 94)).heap.size ≤ q := by simp; omega
        have hst := box_set (box_set (box_set (box_set hblk 0 (.int .i64 n2)) 1 (.bool r)) 2 (.int .i64 n4)) 3 (.string b)
        simp at hst
        have U2' := ((((U1.trans U2).set hqa (.int .i64 n2) (p := ⟨q, 0, none⟩)).set hqa (.bool r) (p := ⟨q, 1, none⟩)).set hqa (.int .i64 n4) (p := ⟨q, 2, none⟩)).set hqa (.string b) (p := ⟨q, 3, none⟩)
        go_wp2
        have FF := hf
        refine wp_region_up 12 (by kernel_rfl) (by kernel_rfl) ?_
        simp only [List.take, List.drop]
        repeat (refine wpUp_step (fun K hK => ?_); go_simp; (try simp only [↓IntWalk.iteOmega]); first
          | (refine hK _ _ ?_; clear hK K)
          | (apply stepU_c
             · intro wq hwq; (have hbq := bcell hwq; (repeat (first | refine fills_no (by rfl) ?_ | refine fills_yes (by rfl) (fun vq hvq => ?_))); simp only [List.filter_nil, fills]; unfold upAt; (try ((have B3 := bcell (U2'.trans hwq); have C3 := box_cell (box_up hwq hst)))); go_simp; (try go_bits); (try simp only [↓IntWalk.iteOmega]); (try (rw [dif_pos (by omega)]; go_simp; try go_bits)); first | exact upOut_value | (apply upOut_call; (go_at_call 65; with_reducible exact l5Form_any _ _ _ _ _ hbs')) | (apply upOut_eq; (go_at_call 65; with_reducible exact l5Form_any _ _ _ _ _ hbs')) | (apply upOut_call; (go_at_call 62; with_reducible exact hT _)) | (apply upOut_eq; (go_at_call 62; with_reducible exact hT _)))
             go_simp; refine hK _ _ ?_; clear hK K))
        refine wpUp_nil (fun wq hwq => ?_)
        simp only [fills]
        have B5 := bcell (U2'.trans hwq)
        have C5 := box_cell (box_up hwq hst)
        go_wp2
        refine bodyPost_ret (v := .tuple #[.agg #[.int .i64 n2, .bool r, .int .i64 n4, .string b], .int .i64 ((k : Int) + 10 + m), .bool true]) (by simp [results, Tryd.results54, go_sem, B5]) rfl ⟨rfl, ?_⟩
        exact Up.set (Up.set (Up.set (Up.set (((Up.refl w).alloc _).trans (U2'.trans hwq)) (Nat.le_refl _) _) (Nat.le_refl _) _) (Nat.le_refl _) _) (Nat.le_refl _) _
      · have hsum : (sumOf (s.extract (k + 1) (k + 8 + m)) == numAt s (k + 8 + m)) = false := by
          cases hx : (sumOf (s.extract (k + 1) (k + 8 + m)) == numAt s (k + 8 + m))
          · rfl
          · exact absurd (hTX.2 (by simpa using hx)) hSM
        rw [HP.out, hf, hsum, Bool.and_false, if_neg Bool.false_ne_true]
        unfold noBlock
        have hSMt : (S.toList == M.toList) = false := ba_ne hSM
        clear hTX hsum fb1 fb2 fb3
        go_enter Tryd.func54, Tryd.ntmps54
        go_wp2_with (go_at_call 64; (with_reducible refine (hN _).mono ?_); rintro e w1 ⟨rfl, U1⟩; have B1 := bcell U1)
        refine wp_region_up 29 (by kernel_rfl) (by kernel_rfl) ?_
        simp only [List.take, List.drop]
        repeat (refine wpUp_step (fun K hK => ?_); go_simp; (try simp only [↓IntWalk.iteOmega]); first
          | (refine hK _ _ ?_; clear hK K)
          | (apply stepU_c
             · intro wq hwq; (have hbq := bcell hwq; (repeat (first | refine fills_no (by rfl) ?_ | refine fills_yes (by rfl) (fun vq hvq => ?_))); simp only [List.filter_nil, fills]; unfold upAt; (try (skip)); go_simp; (try go_bits); (try simp only [↓IntWalk.iteOmega]); (try (rw [dif_pos (by omega)]; go_simp; try go_bits)); first | exact upOut_value | (apply upOut_call; (go_at_call 64; with_reducible exact hN2 _)) | (apply upOut_eq; (go_at_call 64; with_reducible exact hN2 _)) | (apply upOut_call; (go_at_call 64; with_reducible exact hN4 _)) | (apply upOut_eq; (go_at_call 64; with_reducible exact hN4 _)))
             go_simp; refine hK _ _ ?_; clear hK K)
          | (refine stepU_m (by kernel_rfl) (Boxed w1.heap.size #[.int .i64 0, .bool false, .int .i64 0, .string ⟨#[]⟩] 94) (boxed_closed _ _ _) (fun wq hwq => ?_) ?_
             · (have hbq := bcell hwq; (repeat (first | refine fills_no (by rfl) ?_ | refine fills_yes (by rfl) (fun vq hvq => ?_))); simp only [List.filter_nil, fills]; unfold upAt; (try (skip)); go_simp; (try go_bits); (try simp only [↓IntWalk.iteOmega]); (try (rw [dif_pos (by omega)]; go_simp; try go_bits)); exact upOut_make ((Up.refl _).alloc _) (boxed_new hwq.size))
             refine hK _ _ ?_; clear hK K))
        refine wpUp_nil (fun wq hwq => ?_)
        simp only [fills]
        have U2 := hwq
        have B2 := bcell (U1.trans U2)
        rintro v ⟨q, rfl, hq, hblk⟩
        have Z1 := U1.size
        simp at Z1
        have c0 := box_cell hblk 0
        have c1 := box_cell hblk 1
        have c2 := box_cell hblk 2
        have c3 := box_cell hblk 3
        have f0 := box_free hblk 0
        have f1 := box_free hblk 1
        have f2 := box_free hblk 2
        have f3 := box_free hblk 3
        simp at c0 c1 c2 c3
        have hqn : w.heap.size ≠ q := by omega
        have hqa : (w.alloc (.cells #[.int .i64 0, .bool false, .int .i64 0, .string ⟨#[]⟩] 94)).heap.size ≤ q := by simp; omega
        have hst := box_set (box_set (box_set (box_set hblk 0 (.int .i64 n2)) 1 (.bool r)) 2 (.int .i64 n4)) 3 (.string b)
        simp at hst
        have U2' := ((((U1.trans U2).set hqa (.int .i64 n2) (p := ⟨q, 0, none⟩)).set hqa (.bool r) (p := ⟨q, 1, none⟩)).set hqa (.int .i64 n4) (p := ⟨q, 2, none⟩)).set hqa (.string b) (p := ⟨q, 3, none⟩)
        go_wp2
        have FF := hf
        refine wp_region_up 12 (by kernel_rfl) (by kernel_rfl) ?_
        simp only [List.take, List.drop]
        repeat (refine wpUp_step (fun K hK => ?_); go_simp; (try simp only [↓IntWalk.iteOmega]); first
          | (refine hK _ _ ?_; clear hK K)
          | (apply stepU_c
             · intro wq hwq; (have hbq := bcell hwq; (repeat (first | refine fills_no (by rfl) ?_ | refine fills_yes (by rfl) (fun vq hvq => ?_))); simp only [List.filter_nil, fills]; unfold upAt; (try ((have B3 := bcell (U2'.trans hwq); have C3 := box_cell (box_up hwq hst)))); go_simp; (try go_bits); (try simp only [↓IntWalk.iteOmega]); (try (rw [dif_pos (by omega)]; go_simp; try go_bits)); first | exact upOut_value | (apply upOut_call; (go_at_call 65; with_reducible exact l5Form_any _ _ _ _ _ hbs')) | (apply upOut_eq; (go_at_call 65; with_reducible exact l5Form_any _ _ _ _ _ hbs')) | (apply upOut_call; (go_at_call 62; with_reducible exact hT _)) | (apply upOut_eq; (go_at_call 62; with_reducible exact hT _)))
             go_simp; refine hK _ _ ?_; clear hK K))
        refine wpUp_nil (fun wq hwq => ?_)
        simp only [fills]
        have B5 := bcell (U2'.trans hwq)
        have C5 := box_cell (box_up hwq hst)
        go_wp2
        refine bodyPost_ret (v := .tuple #[.agg #[.int .i64 0, .bool false, .int .i64 0, .string ByteArray.empty], .int .i64 0, .bool false]) (by simp [results, Tryd.results54, go_sem, B5]; rfl) rfl ⟨rfl, ?_⟩
        exact Up.set (Up.set (Up.set (Up.set (((Up.refl w).alloc _).trans (U2'.trans hwq)) (Nat.le_refl _) _) (Nat.le_refl _) _) (Nat.le_refl _) _) (Nat.le_refl _) _
  · have hV : (if parseOk s k then parsed s k else noBlock) = noBlock := if_neg (by unfold parseOk; simp [hfit])
    rw [hV]
    unfold noBlock
    have hN := pairAt (k + 6) (by omega) _ rfl
    have hfit' : (s.size : Int) - k - 10 < numAt s (k + 6) := by unfold endAt at hfit; omega
    clear h g1 g2 e1 e2 hV hfit pairAt
    go_enter Tryd.func54, Tryd.ntmps54
    go_wp2_with (go_at_call 64; (with_reducible refine (hN _).mono ?_); rintro e w1 ⟨rfl, U1⟩; have B1 := bcell U1)
    refine bodyPost_ret (v := .tuple #[.agg #[.int .i64 0, .bool false, .int .i64 0, .string ByteArray.empty], .int .i64 0, .bool false]) (by simp [results, Tryd.results54, go_sem, B1]; rfl) rfl ⟨rfl, ?_⟩
    exact Up.set (Up.set (Up.set (Up.set (((Up.refl w).alloc _).trans U1) (Nat.le_refl _) _) (Nat.le_refl _) _) (Nat.le_refl _) _) (Nat.le_refl _) _

theorem parseS_any (s : ByteArray) (at' : Int) (w : World) (hs0 : s.size ≤ 1073741824) :
    Calls Tryd.prog 54 #[.string s, .int .i64 at'] w (Same (parseV s at') w) := by
  by_cases h : at' < 0
  · have : parseV s at' = noBlock := by unfold parseV; rw [if_pos h]
    rw [this]; exact parseS_head s at' w hs0 (.inl h)
  · obtain ⟨k, rfl⟩ : ∃ k : Nat, at' = k := ⟨at'.toNat, by omega⟩
    cases hh : headOk s k
    · rw [headOk_not hh]; exact parseS_head s k w hs0 (.inr ⟨k, rfl, hh⟩)
    · have := parseS_body s k w hs0 hh
      cases hp : parseOk s k
      · rw [hp] at this; rw [parseV_not hp]; simpa using this
      · rw [hp] at this; rw [parseV_yes hp]; simpa using this

end Go.Proofs.YtmjpopfacagjhaaDoor

/- Plain facts on containers: the blocks of a string in sequence. And rows of structs in memory. Conditions: as each says. -/
namespace Go.Proofs.YtmjpopfacagjhaaDoor
set_option linter.unusedVariables false
set_option linter.unusedSimpArgs false
open Go.RowKit

structure BlkD where
  num : Int
  raw : Bool
  size : Int
  body : ByteArray

def blkV (b : BlkD) : Value := .agg #[.int .i64 b.num, .bool b.raw, .int .i64 b.size, .string b.body]
def blkC (b : BlkD) : List Value := [.int .i64 b.num, .bool b.raw, .int .i64 b.size, .string b.body]
def cellsB (l : List BlkD) : List Value := l.flatMap blkC
theorem cellsB_length (l : List BlkD) : (cellsB l).length = l.length * 4 := by
  induction l with
  | nil => rfl
  | cons b l ih => simp only [cellsB, List.flatMap_cons, List.length_append, List.length_cons] at ih ⊢; simp only [blkC, List.length_cons, List.length_nil]; omega
theorem cellsB_snoc (l : List BlkD) (b : BlkD) : cellsB (l ++ [b]) = cellsB l ++ blkC b := by simp [cellsB]
theorem cellsB_get (l : List BlkD) (i j : Nat) (b : BlkD) (hb : l[i]? = some b) (hj : j < 4) : (cellsB l)[i * 4 + j]? = (blkC b)[j]? := by
  induction l generalizing i with
  | nil => simp at hb
  | cons a l ih =>
    have e : cellsB (a :: l) = blkC a ++ cellsB l := rfl
    rw [e]
    cases i with
    | zero =>
      simp at hb; subst hb
      rw [List.getElem?_append_left (by simp [blkC]; omega)]
      simp
    | succ i =>
      rw [List.getElem?_append_right (by simp [blkC]; omega)]
      rw [← ih i (by simpa using hb)]
      congr 1
      simp [blkC]; omega

def blkAt (s : ByteArray) (k : Nat) : BlkD := ⟨numAt s (k + 2), byteAt s (k + 1) == 0, numAt s (k + 4), bodyAt s k⟩
theorem endAt_lt (s : ByteArray) (k : Nat) : k < endAt s k + 2 := by unfold endAt; omega

/-- The blocks from a place on, behind those that are there. -/
def goBlocks (s : ByteArray) (k : Nat) (acc : List BlkD) : Option (List BlkD) :=
  if h : k < s.size then
    if parseOk s k = true ∧ numAt s (k + 2) = acc.length then goBlocks s (endAt s k + 2) (acc ++ [blkAt s k]) else none
  else some acc
  termination_by s.size - k
  decreasing_by have := endAt_lt s k; omega
theorem go_step {s : ByteArray} {k : Nat} {acc : List BlkD} (h : k < s.size) (hp : parseOk s k = true) (hn : numAt s (k + 2) = acc.length) : goBlocks s (endAt s k + 2) (acc ++ [blkAt s k]) = goBlocks s k acc := by
  conv => rhs; rw [goBlocks]
  rw [dif_pos h, if_pos ⟨hp, hn⟩]
theorem go_fail {s : ByteArray} {k : Nat} {acc : List BlkD} (h : k < s.size) (hp : ¬ (parseOk s k = true ∧ numAt s (k + 2) = acc.length)) : goBlocks s k acc = none := by
  rw [goBlocks, dif_pos h, if_neg hp]
theorem go_end {s : ByteArray} {k : Nat} {acc : List BlkD} (h : ¬ k < s.size) : goBlocks s k acc = some acc := by
  rw [goBlocks, dif_neg h]

def sizeSum (l : List BlkD) : Int := (l.map (·.size)).sum
theorem sizeSum_snoc (l : List BlkD) (b : BlkD) : sizeSum (l ++ [b]) = sizeSum l + b.size := by simp [sizeSum]
/-- What is known of blocks that were parsed. -/
def accOk (l : List BlkD) : Prop := l.length ≤ 40 ∧ ∀ b ∈ l, 1 ≤ b.size ∧ b.size ≤ 64 ∧ b.body.size ≤ 64
theorem accOk_nil : accOk [] := ⟨by simp, by simp⟩
theorem parseOk_form {s : ByteArray} {k : Nat} (h : parseOk s k = true) : headOk s k = true ∧ endAt s k + 2 ≤ s.size ∧ formB (numAt s (k + 2)) (byteAt s (k + 1) == 0) (numAt s (k + 4)) (bodyAt s k) = true := by
  unfold parseOk at h
  simp only [Bool.and_eq_true, decide_eq_true_eq] at h
  exact ⟨h.1.1.1, h.1.1.2, h.1.2⟩
theorem accOk_snoc {s : ByteArray} {k : Nat} {acc : List BlkD} (h : accOk acc) (hp : parseOk s k = true) (hn : numAt s (k + 2) = acc.length) : accOk (acc ++ [blkAt s k]) := by
  obtain ⟨h1, h2, h3⟩ := formB_bd (parseOk_form hp).2.2
  refine ⟨by simp; omega, fun b hb => ?_⟩
  rcases List.mem_append.1 hb with hb | hb
  · exact h.2 b hb
  · simp at hb; subst hb; exact ⟨h2.1, h2.2, h3⟩
theorem sizeSum_bd {l : List BlkD} (h : accOk l) : 0 ≤ sizeSum l ∧ sizeSum l ≤ 64 * l.length := by
  replace h := h.2
  induction l with
  | nil => simp [sizeSum]
  | cons b l ih =>
    have := h b (List.mem_cons_self ..)
    have := ih fun b hb => h b (List.mem_cons_of_mem _ hb)
    simp only [sizeSum, List.map_cons, List.sum_cons, List.length_cons] at *
    omega

/-- The blocks of a container. -/
def contBlocks (s : ByteArray) : Option (List BlkD) := (goBlocks s 0 []).bind fun l => if sizeSum l ≤ 2000 then some l else none

/-- A row that the call owns stays while only new memory is made. -/
theorem ownsRow_up {w w' : World} {base : Nat} {e : TypeId} {size : Nat} {v : Value} {n : Nat} {xs : List Value} (h : w.ownsRow base e size v n xs) (hu : Up w w') : w'.ownsRow base e size v n xs := by
  refine ⟨h.1, ?_⟩
  rcases h.2 with hn | ⟨g, cap, cur, rfl, hb, hg, rest⟩
  · exact .inl hn
  · exact .inr ⟨g, cap, cur, rfl, hb, box_up hu hg, rest⟩
theorem ownsRow_base {w : World} {base base' : Nat} {e : TypeId} {size : Nat} {v : Value} {n : Nat} {xs : List Value} (h : w.ownsRow base e size v n xs) (hb : base' ≤ base) : w.ownsRow base' e size v n xs := by
  refine ⟨h.1, ?_⟩
  rcases h.2 with hn | ⟨g, cap, cur, rfl, h1, rest⟩
  · exact .inl hn
  · exact .inr ⟨g, cap, cur, rfl, Nat.le_trans hb h1, rest⟩
/-- A row that owns nothing yet or something: its shape, and its cells. -/
theorem ownsRow_read {w : World} {base : Nat} {e : TypeId} {size : Nat} {v : Value} {n : Nat} {xs : List Value} (h : w.ownsRow base e size v n xs) : (v = .slice none 0 0 ∧ n = 0) ∨ ∃ g cap, v = .slice (some ⟨g, 0, none⟩) n cap ∧ n ≤ cap ∧ cap ≤ maxLen ∧ base ≤ g ∧ g < w.heap.size ∧ ∀ j u, xs[j]? = some u → w.cell? ⟨g, j, none⟩ = some u := by
  rcases h.2 with hn | ⟨g, cap, cur, rfl, hb, hg, hnc, hm, hsz, ht⟩
  · exact .inl hn
  · refine .inr ⟨g, cap, rfl, hnc, hm, hb, (Array.getElem?_eq_some_iff.1 hg).1, fun j u hu => ?_⟩
    have hj : j < xs.length := (List.getElem?_eq_some_iff.1 hu).1
    rw [box_cell hg]
    have : xs[j]? = cur[j]? := by
      rw [← ht, List.getElem?_take, if_pos (by rw [← h.1]; exact hj)]
      simp
    rw [← this, hu]

theorem ownsRow_shape {w : World} {base : Nat} {e : TypeId} {size : Nat} {v : Value} {n : Nat} {xs : List Value} (h : w.ownsRow base e size v n xs) : ∃ a c, v = .slice a n c := by
  rcases h.2 with ⟨rfl, rfl⟩ | ⟨g, cap, cur, rfl, _⟩
  · exact ⟨_, _, rfl⟩
  · exact ⟨_, _, rfl⟩
/-- What the law of append leaves: nothing below 'base' has turned. -/
theorem Up.grown {a w w' : World} {v : Value} (h : Up a w) (hg : w.grownBy w' v.ownBlock) (hr : ∀ k, v.ownBlock = some k → a.heap.size ≤ k) : Up a w' := Below.grown h hg h.size hr

theorem new_cells {W : World} {g : Nat} (cs : List Value) (T : TypeId) (hg : g = W.heap.size) (j : Nat) (u : Value) (hu : cs[j]? = some u) : (W.alloc (.cells cs.toArray T)).cell? ((⟨g, 0, none⟩ : Addr).add j) = some u := by
  subst hg
  have hadd : (⟨W.heap.size, 0, none⟩ : Addr).add j = ⟨W.heap.size, j, none⟩ := by unfold Addr.add; split <;> simp_all
  rw [hadd, box_cell (MapKept.heap_alloc W _).1]
  simpa using hu
theorem blkC_one (b : BlkD) : ∀ u ∈ blkC b, u.oneCell' = true := by
  intro u hu
  simp only [blkC, List.mem_cons, List.not_mem_nil, or_false] at hu
  rcases hu with rfl | rfl | rfl | rfl <;> rfl
theorem size_alloc (w : World) (o : Obj) : (w.alloc o).heap.size = w.heap.size + 1 := by simp

/-- A row's value whatever it holds; its cells where it holds something. -/
theorem ownsRow_any {w : World} {base : Nat} {e : TypeId} {size : Nat} {v : Value} {n : Nat} {xs : List Value} (h : w.ownsRow base e size v n xs) : ∃ a c, v = .slice a n c ∧ n ≤ maxLen ∧ (0 < n → ∃ g, a = some ⟨g, 0, none⟩ ∧ n ≤ c ∧ c ≤ maxLen ∧ base ≤ g ∧ g < w.heap.size ∧ ∀ j u, xs[j]? = some u → w.cell? ⟨g, j, none⟩ = some u) := by
  rcases ownsRow_read h with ⟨rfl, rfl⟩ | ⟨g, cap, rfl, h1, h2, h3, h4, h5⟩
  · exact ⟨_, _, rfl, by unfold maxLen; omega, fun h => absurd h (Nat.lt_irrefl _)⟩
  · exact ⟨_, _, rfl, Nat.le_trans h1 h2, fun _ => ⟨g, rfl, h1, h2, h3, h4, h5⟩⟩

theorem own_ne {w : World} {base : Nat} {e : TypeId} {size : Nat} {v : Value} {n : Nat} {xs : List Value} (h : w.ownsRow base e size v n xs) {g : Nat} (hg : w.heap.size ≤ g) : some g ≠ v.ownBlock := fun e => by
  have := (h.lt g e.symm).2
  omega

end Go.Proofs.YtmjpopfacagjhaaDoor

/- Walks of the functions that add up the sizes of blocks. Conditions: the blocks are those of a string (accOk), and can be read. -/
namespace Go.Proofs.YtmjpopfacagjhaaDoor
set_option linter.unusedVariables false
set_option linter.unusedSimpArgs false
open Go.RowKit

theorem sizeSum_take {l : List BlkD} {k : Nat} (h : k < l.length) : sizeSum (l.take (k + 1)) = sizeSum (l.take k) + l[k].size := by
  rw [List.take_succ_eq_append_getElem h, sizeSum_snoc]
theorem accOk_take {l : List BlkD} (h : accOk l) (k : Nat) : accOk (l.take k) :=
  ⟨by have := h.1; simp; omega, fun b hb => h.2 b (List.mem_of_mem_take hb)⟩

/-- The cells of block number k. -/
theorem blk_cells {w : World} {l : List BlkD} {g : Nat} (hc : ∀ j u, (cellsB l)[j]? = some u → w.cell? ⟨g, j, none⟩ = some u) {k : Nat} (hk : k < l.length) :
    w.cell? ⟨g, k * 4, none⟩ = some (.int .i64 l[k].num) ∧ w.cell? ⟨g, k * 4 + 1, none⟩ = some (.bool l[k].raw) ∧ w.cell? ⟨g, k * 4 + 2, none⟩ = some (.int .i64 l[k].size) ∧ w.cell? ⟨g, k * 4 + 3, none⟩ = some (.string l[k].body) := by
  have hb : l[k]? = some l[k] := List.getElem?_eq_getElem hk
  exact ⟨hc _ _ (cellsB_get l k 0 _ hb (by omega)), hc _ _ (cellsB_get l k 1 _ hb (by omega)), hc _ _ (cellsB_get l k 2 _ hb (by omega)), hc _ _ (cellsB_get l k 3 _ hb (by omega))⟩

def RelS (l : List BlkD) (w : World) (t i : Value) (wr : World) : Prop := ∃ k : Nat, k ≤ l.length ∧ i = .int .i64 k ∧ t = .int .i64 (sizeSum (l.take k)) ∧ Up w wr

end Go.Proofs.YtmjpopfacagjhaaDoor

/- Walk of the program's ContainerBlocks. Conditions: the string's length is below 2^30. -/
namespace Go.Proofs.YtmjpopfacagjhaaDoor
set_option linter.unusedVariables false
set_option linter.unusedSimpArgs false
open Go.RowKit

theorem infoBlock : (Tryd.prog.info? 94).map (fun i => (i.zero, i.size, i.bytes)) = some (some (.agg #[.int .i64 0, .bool false, .int .i64 0, .string ⟨#[]⟩]), 4, 40) := by kernel_rfl

/-- What ContainerBlocks leaves: a row of its own with the blocks (none, where the string is no container). -/
def ContPost (s : ByteArray) (w : World) (e : Ending) (w' : World) : Prop := ∃ v, e = .returned (.tuple #[v, .bool (contBlocks s).isSome]) ∧ w'.ownsRow w.heap.size 94 4 v ((contBlocks s).getD []).length (cellsB ((contBlocks s).getD [])) ∧ Up w w'
theorem contPost_none {s : ByteArray} {w w' : World} {e : Ending} (h : contBlocks s = none) (v : Value) (he : e = .returned (.tuple #[v, .bool false])) (ho : w'.ownsRow w.heap.size 94 4 v 0 []) (hu : Up w w') : ContPost s w e w' := by
  refine ⟨v, ?_, ?_, hu⟩
  · rw [he, h]; rfl
  · rw [h]; exact ho
theorem contPost_some {s : ByteArray} {w w' : World} {e : Ending} {l : List BlkD} (h : contBlocks s = some l) (v : Value) (he : e = .returned (.tuple #[v, .bool true])) (ho : w'.ownsRow w.heap.size 94 4 v l.length (cellsB l)) (hu : Up w w') : ContPost s w e w' := by
  refine ⟨v, ?_, ?_, hu⟩
  · rw [he, h]; rfl
  · rw [h]; exact ho

/-- What holds at the head of the loop. -/
def RelC (s : ByteArray) (w : World) (v i : Value) (wr : World) : Prop := ∃ k acc, k ≤ s.size ∧ i = .int .i64 (k : Nat) ∧ wr.ownsRow w.heap.size 94 4 v (acc : List BlkD).length (cellsB acc) ∧ Up w wr ∧ goBlocks s k acc = goBlocks s 0 [] ∧ accOk acc

theorem parsed_blk (s : ByteArray) (k : Nat) : parsed s k = .tuple #[blkV (blkAt s k), .int .i64 (endAt s k + 2 : Nat), .bool true] := rfl

theorem cont_none {s : ByteArray} {k : Nat} {acc : List BlkD} (hg : goBlocks s k acc = goBlocks s 0 []) (h : k < s.size) (hp : ¬ (parseOk s k = true ∧ numAt s (k + 2) = acc.length)) : contBlocks s = none := by
  unfold contBlocks
  rw [← hg, go_fail h hp]; rfl
theorem cont_end {s : ByteArray} {k : Nat} {acc : List BlkD} (hg : goBlocks s k acc = goBlocks s 0 []) (h : ¬ k < s.size) : contBlocks s = if sizeSum acc ≤ 2000 then some acc else none := by
  unfold contBlocks
  rw [← hg, go_end h]; rfl

end Go.Proofs.YtmjpopfacagjhaaDoor

/- Walk of the reference's l5Blocks. Conditions: the string's length is below 2^30. -/
namespace Go.Proofs.YtmjpopfacagjhaaDoor
set_option linter.unusedVariables false
set_option linter.unusedSimpArgs false
open Go.RowKit

def RelD (s : ByteArray) (w : World) (v t i : Value) (wr : World) : Prop := ∃ k acc, k ≤ s.size ∧ i = .int .i64 (k : Nat) ∧ t = .int .i64 (sizeSum acc) ∧ wr.ownsRow w.heap.size 94 4 v (acc : List BlkD).length (cellsB acc) ∧ Up w wr ∧ goBlocks s k acc = goBlocks s 0 [] ∧ accOk acc
theorem own_empty {w w' : World} (h : w.heap.size ≤ w'.heap.size) : (w'.alloc (.cells #[] 94)).ownsRow w.heap.size 94 4 (.slice (some ⟨w'.heap.size, 0, none⟩) 0 0) 0 [] := World.ownsRow_made _ _ _ h (by unfold maxLen; omega) rfl
theorem own_emptyg {w w' : World} {g : Nat} (hg : g = w'.heap.size) (h : w.heap.size ≤ w'.heap.size) : (w'.alloc (.cells #[] 94)).ownsRow w.heap.size 94 4 (.slice (some ⟨g, 0, none⟩) 0 0) 0 [] := hg ▸ own_empty h

set_option maxRecDepth 100000 in
set_option maxHeartbeats 2000000 in
theorem contS_any (s : ByteArray) (w : World) (hs : s.size ≤ 1073741824) :
    Calls Tryd.prog 40 #[.string s] w (ContPost s w) := by
  obtain ⟨i0, hi, hz0, hz1, hz2⟩ := info_parts infoBlock
  have hs' : s.size ≤ 9223372036854775807 := by omega
  go_enter Tryd.func40, Tryd.ntmps40
  go_wp2
  go_loopw [4, 5, 6] (fun v t i wr => RelD s w v t i wr) (fun _ _ i _ => s.size - (intOf i).toNat)
  case atStart => exact ⟨0, [], Nat.zero_le _, rfl, rfl, own_empty (Nat.le_refl _), (Up.refl _).alloc _, rfl, accOk_nil⟩
  case round =>
    obtain ⟨k, acc, hk, rfl, rfl, hown, hup, hgo, hok⟩ := hrel
    obtain ⟨a4, c4, rfl⟩ := ownsRow_shape hown
    have HG := Lib.hid hgo
    clear hgo
    have hl40 := hok.1
    obtain ⟨hb1, hb2⟩ := sizeSum_bd hok
    have hb3 : sizeSum acc ≤ 2560 := by omega
    clear hb2
    have hsz := hup.size
    by_cases hlt : k < s.size
    · cases hp : parseOk s k
      · have HC : Hid (contBlocks s = none) := cont_none HG.out hlt (by rw [hp]; simp)
        have cP := fun w => parseS_any s k w hs
        rw [parseV_not hp] at cP
        unfold noBlock at cP
        clear hp
        go_wp2_with ((go_at_call 54; (with_reducible refine (cP _).mono ?_); rintro e w1 ⟨rfl, U1⟩; have B1 := bcell U1; have Z1 := U1.size; (try simp at Z1); (try rw [Nat.add_one_le_iff] at Z1)))
        go_ret2
        exact contPost_none HC.out _ rfl (own_emptyg (size_alloc _ _).symm (by have := (hup.trans U1).size; simp; omega)) (((hup.trans U1).alloc _).alloc _)
      · have cP := fun w => parseS_any s k w hs
        have hb := (formB_bd (parseOk_form hp).2.2)
        have hE := (parseOk_form hp).2.1
        have hkk := endAt_lt s k
        rw [parseV_yes hp, parsed_blk] at cP
        by_cases hn : numAt s (k + 2) = acc.length
        · have hsn := go_step hlt hp hn
          have hoks := accOk_snoc hok hp hn
          have hnum : (blkAt s k).num = acc.length := hn
          generalize hbk : blkAt s k = B at *
          obtain ⟨num, raw, size, body⟩ := B
          generalize hek : endAt s k + 2 = k' at *
          simp only at hnum
          subst hnum
          obtain ⟨hz, hz', _⟩ := hoks.2 _ (List.mem_append_right _ (List.mem_singleton.2 rfl))
          simp only at hz hz'
          have HSS : Hid (sizeSum (acc ++ [⟨acc.length, raw, size, body⟩]) = sizeSum acc + size) := sizeSum_snoc _ _
          unfold blkV at cP
          have HS := Lib.hid hsn
          clear hsn hp hn hb hek hbk
          go_wp2_with (first | (go_at_call 54; (with_reducible refine (cP _).mono ?_); rintro e w1 ⟨rfl, U1⟩; have B1 := bcell U1; have Z1 := U1.size; (try simp at Z1); (try rw [Nat.add_one_le_iff] at Z1)) | (at_builtin; refine wpList_append_own _ rfl _ _ 75 rfl w.heap.size 94 i0 (.agg #[.int .i64 0, .bool false, .int .i64 0, .string ⟨#[]⟩]) 4 40 Tryd.underlying75 hi hz0 hz1 hz2 rfl (by decide) _ _ _ rfl (((ownsRow_up hown U1).alloc _).alloc _) ⟨w1.heap.size + 1, 0, none⟩ 1 1 (blkC ⟨acc.length, raw, size, body⟩) rfl rfl (new_cells (blkC ⟨acc.length, raw, size, body⟩) _ (size_alloc _ _).symm) (blkC_one _) (by unfold maxLen; omega) (by omega) (by simp; omega) ?_; rintro v2 w2 hown2 hgr2 -; have D2 := hgr2.cell (a := ⟨w1.heap.size, 2, none⟩) (v := .int .i64 size) (by simp) (own_ne (ownsRow_up hown U1) (Nat.le_refl _))))
          go_roundw
          case rel => exact ⟨k', acc ++ [⟨acc.length, raw, size, body⟩], hE, rfl, by rw [HSS.out], by simpa [cellsB_snoc] using hown2, (((hup.trans U1).alloc _).alloc _).grown hgr2 (fun x hx => (hown.lt x hx).1), HS.out.trans HG.out, hoks⟩
          case measure => simp [intOf]; omega
        · have HC : Hid (contBlocks s = none) := cont_none HG.out hlt (fun h => hn h.2)
          have hnum : (blkAt s k).num ≠ acc.length := hn
          generalize hbk : blkAt s k = B at *
          obtain ⟨num, raw, size, body⟩ := B
          simp only at hnum
          unfold blkV at cP
          clear hp hn hb hbk hE
          go_wp2_with ((go_at_call 54; (with_reducible refine (cP _).mono ?_); rintro e w1 ⟨rfl, U1⟩; have B1 := bcell U1; have Z1 := U1.size; (try simp at Z1); (try rw [Nat.add_one_le_iff] at Z1)))
          go_ret2
          exact contPost_none HC.out _ rfl (own_emptyg (size_alloc _ _).symm (by have := (hup.trans U1).size; simp; omega)) (((hup.trans U1).alloc _).alloc _)
    · have HE := Lib.hid (cont_end HG.out hlt)
      by_cases hsum : sizeSum acc ≤ 2000
      all_goals
        go_wp2
        go_ret2
        first | exact contPost_some (HE.out.trans (if_pos hsum)) _ rfl hown hup | exact contPost_none (HE.out.trans (if_neg (by omega))) _ rfl (own_empty hsz) (hup.alloc _)

end Go.Proofs.YtmjpopfacagjhaaDoor

/- Walks of ContainerSize and CountRaw, the program's and the reference's. Conditions: the string's length is below 2^30. -/
namespace Go.Proofs.YtmjpopfacagjhaaDoor
set_option linter.unusedVariables false
set_option linter.unusedSimpArgs false
open Go.RowKit

theorem goBlocks_ok {s : ByteArray} : ∀ (n k : Nat) (acc l : List BlkD), s.size - k ≤ n → accOk acc → goBlocks s k acc = some l → accOk l
  | 0, k, acc, l, hn, ho, h => by
    rw [go_end (by omega)] at h; cases h; exact ho
  | n + 1, k, acc, l, hn, ho, h => by
    by_cases hk : k < s.size
    · by_cases hp : parseOk s k = true ∧ numAt s (k + 2) = acc.length
      · rw [← go_step hk hp.1 hp.2] at h
        exact goBlocks_ok n _ _ l (by have := endAt_lt s k; omega) (accOk_snoc ho hp.1 hp.2) h
      · rw [go_fail hk hp] at h; cases h
    · rw [go_end hk] at h; cases h; exact ho
theorem contBlocks_ok {s : ByteArray} {l : List BlkD} (h : contBlocks s = some l) : accOk l := by
  unfold contBlocks at h
  cases hg : goBlocks s 0 [] with
  | none => rw [hg] at h; cases h
  | some l' =>
    rw [hg, Option.bind_some] at h
    split at h
    · cases h; exact goBlocks_ok _ _ _ _ (Nat.le_refl _) accOk_nil hg
    · cases h

theorem contS_some {s : ByteArray} {l : List BlkD} (h : contBlocks s = some l) (hs : s.size ≤ 1073741824) (w : World) : Calls Tryd.prog 40 #[.string s] w (fun e w' => ∃ v, e = .returned (.tuple #[v, .bool true]) ∧ w'.ownsRow w.heap.size 94 4 v l.length (cellsB l) ∧ Up w w') :=
  (contS_any s w hs).mono fun e w' ⟨v, h1, h2, h3⟩ => ⟨v, by rw [h1, h]; rfl, by rw [h] at h2; exact h2, h3⟩
theorem contS_none {s : ByteArray} (h : contBlocks s = none) (hs : s.size ≤ 1073741824) (w : World) : Calls Tryd.prog 40 #[.string s] w (fun e w' => ∃ v, e = .returned (.tuple #[v, .bool false]) ∧ w'.ownsRow w.heap.size 94 4 v 0 [] ∧ Up w w') :=
  (contS_any s w hs).mono fun e w' ⟨v, h1, h2, h3⟩ => ⟨v, by rw [h1, h]; rfl, by rw [h] at h2; exact h2, h3⟩

def contSize (s : ByteArray) : Int := match contBlocks s with | none => -1 | some l => sizeSum l
def rawCount (l : List BlkD) : Int := ((l.filter (·.raw)).length : Nat)
def contRaw (s : ByteArray) : Int := match contBlocks s with | none => -1 | some l => rawCount l
theorem rawCount_take {l : List BlkD} {k : Nat} (h : k < l.length) : rawCount (l.take (k + 1)) = rawCount (l.take k) + if l[k].raw then 1 else 0 := by
  rw [List.take_succ_eq_append_getElem h, rawCount, rawCount, List.filter_append, List.length_append]
  cases hr : l[k].raw <;> simp [hr]
theorem rawCount_bd (l : List BlkD) : 0 ≤ rawCount l ∧ rawCount l ≤ l.length := by
  have := List.length_filter_le (fun b : BlkD => b.raw) l
  unfold rawCount; omega

def RelR (l : List BlkD) (w : World) (t i : Value) (wr : World) : Prop := ∃ k : Nat, k ≤ l.length ∧ i = .int .i64 k ∧ t = .int .i64 (rawCount (l.take k)) ∧ Up w wr

end Go.Proofs.YtmjpopfacagjhaaDoor

/- Walks of the laws' own functions on slices of integers: equality, marks, and the look at the marks. Conditions: the rows are owned; the numbers are small. -/
namespace Go.Proofs.YtmjpopfacagjhaaDoor
set_option linter.unusedVariables false
set_option linter.unusedSimpArgs false
open Go.RowKit

theorem ownsRow_set {w : World} {base : Nat} {e : TypeId} {size : Nat} {n : Nat} {xs : List Value} {g cap : Nat} (h : w.ownsRow base e size (.slice (some ⟨g, 0, none⟩) n cap) n xs) (j : Nat) (u : Value) :
    (w.setCell ⟨g, j, none⟩ u).ownsRow base e size (.slice (some ⟨g, 0, none⟩) n cap) n (xs.set j u) := by
  refine ⟨by simp [h.1], ?_⟩
  rcases h.2 with ⟨hn, _⟩ | ⟨g', cap', cur, hv, hb, hg, hnc, hm, hsz, ht⟩
  · cases hn
  · cases hv
    refine .inr ⟨g, cap, cur.setIfInBounds j u, rfl, hb, box_set hg j u, hnc, hm, by simp [hsz], ?_⟩
    rw [Array.toList_setIfInBounds, List.take_set, ht]
theorem ownsRow_free {w : World} {base : Nat} {e : TypeId} {size : Nat} {n : Nat} {xs : List Value} {g cap : Nat} (h : w.ownsRow base e size (.slice (some ⟨g, 0, none⟩) n cap) n xs) (j : Nat) : w.frozen? ⟨g, j, none⟩ = false := by
  rcases h.2 with ⟨hn, _⟩ | ⟨g', cap', cur, hv, hb, hg, _⟩
  · cases hn
  · cases hv; exact box_free hg j
theorem ownsRow_cell {w : World} {base : Nat} {e : TypeId} {size : Nat} {n : Nat} {xs : List Value} {g cap : Nat} (h : w.ownsRow base e size (.slice (some ⟨g, 0, none⟩) n cap) n xs) {j : Nat} {u : Value} (hu : xs[j]? = some u) : w.cell? ⟨g, j, none⟩ = some u := by
  have := h.cells (g := g) rfl j u hu
  have hadd : (⟨g, 0, none⟩ : Addr).add j = ⟨g, j, none⟩ := by unfold Addr.add; split <;> simp_all
  rwa [hadd] at this
theorem grownBy_refl (w : World) (row : Option Nat) : w.grownBy w row := ⟨rfl, rfl, rfl, Nat.le_refl _, fun _ _ _ => rfl⟩
theorem grownBy_set {w w' : World} {g : Nat} (h : w.grownBy w' (some g)) (j : Nat) (u : Value) : w.grownBy (w'.setCell ⟨g, j, none⟩ u) (some g) :=
  ⟨h.os, h.tape, h.output, by simpa [World.setCell] using h.size, fun k hk hne => by
    rw [← h.block k hk hne]
    exact Below.heap_setCell _ _ _ _ (fun e => hne (by rw [e]))⟩
theorem grownBy_up {w w' w2 : World} {row : Option Nat} (h : w.grownBy w' row) (hu : Up w' w2) : w.grownBy w2 row :=
  ⟨hu.os.trans h.os, hu.tape.trans h.tape, hu.output.trans h.output, Nat.le_trans h.size hu.size, fun k hk hne => (hu.block k (Nat.lt_of_lt_of_le hk h.size)).trans (h.block k hk hne)⟩
theorem up_grownBy {w w' : World} (h : Up w w') (row : Option Nat) : w.grownBy w' row := ⟨h.os, h.tape, h.output, h.size, fun k hk _ => h.block k hk⟩
theorem grownBy_trans {a b c : World} {row : Option Nat} (h : a.grownBy b row) (k : b.grownBy c row) : a.grownBy c row :=
  ⟨k.os.trans h.os, k.tape.trans h.tape, k.output.trans h.output, Nat.le_trans h.size k.size, fun i hi hne => (k.block i (Nat.lt_of_lt_of_le hi h.size) hne).trans (h.block i hi hne)⟩

/-- A row's cells in a row of a slice that is not nil. -/
theorem ownsRow_slot {w : World} {base : Nat} {e : TypeId} {size n : Nat} {a : Option Addr} {cap : Nat} {xs : List Value} (h : w.ownsRow base e size (.slice a n cap) n xs) (hn : 0 < n) : ∃ g, a = some ⟨g, 0, none⟩ ∧ n ≤ cap ∧ cap ≤ maxLen ∧ base ≤ g ∧ g < w.heap.size := by
  rcases ownsRow_read h with ⟨h1, h2⟩ | ⟨g, c, h1, h2, h3, h4, h5, _⟩
  · omega
  · cases h1; exact ⟨g, rfl, h2, h3, h4, h5⟩

def cellsI (l : List Int) : List Value := l.map (Value.int .i64)
theorem cellsI_get {l : List Int} {i : Nat} (h : i < l.length) : (cellsI l)[i]? = some (.int .i64 l[i]) := by simp [cellsI, h]

def RelE (w : World) (n : Nat) (i : Value) (wr : World) : Prop := ∃ k : Nat, k ≤ n ∧ i = .int .i64 k ∧ Up w wr

/-- The marks from k on. -/
def marksI (k : Int) (n : Nat) : List Int := (List.range n).map fun (i : Nat) => k + (i : Int)
theorem marksI_length (k : Int) (n : Nat) : (marksI k n).length = n := by simp [marksI]
theorem marksI_get (k : Int) (n i : Nat) (h : i < n) : (marksI k n)[i]'(by rw [marksI_length]; exact h) = k + i := by simp [marksI]
/-- The row when i marks have been made. -/
def midI (k : Int) (zs : List Int) (i : Nat) : List Int := marksI k i ++ zs.drop i
theorem midI_zero (k : Int) (zs : List Int) : midI k zs 0 = zs := by simp [midI, marksI]
theorem midI_length (k : Int) (zs : List Int) (i : Nat) (h : i ≤ zs.length) : (midI k zs i).length = zs.length := by simp [midI, marksI_length]; omega
theorem midI_all (k : Int) (zs : List Int) : midI k zs zs.length = marksI k zs.length := by simp [midI]
theorem midI_set (k : Int) (zs : List Int) (i : Nat) (h : i < zs.length) : (cellsI (midI k zs i)).set i (.int .i64 (k + i)) = cellsI (midI k zs (i + 1)) := by
  have e1 : marksI k (i + 1) = marksI k i ++ [k + (i : Int)] := by simp [marksI, List.range_succ]
  rw [midI, midI, e1, List.drop_eq_getElem_cons h]
  simp only [cellsI, List.map_append, List.map_cons, List.map_nil]
  rw [List.set_append_right _ _ (by simp [marksI_length])]
  simp [marksI_length]
theorem midI_cell (k : Int) (zs : List Int) (i : Nat) (h : i < zs.length) : (cellsI (midI k zs i))[i]? = some (.int .i64 zs[i]) := by
  rw [midI, cellsI, List.map_append, List.getElem?_append_right (by simp [marksI_length])]
  simp [marksI_length, h]

def RelM (k0 : Int) (zs : List Int) (base : Nat) (v : Value) (w : World) (k i : Value) (wr : World) : Prop := ∃ j : Nat, j ≤ zs.length ∧ i = .int .i64 j ∧ k = .int .i64 (k0 + j) ∧ wr.ownsRow base 3 1 v zs.length (cellsI (midI k0 zs j)) ∧ w.grownBy wr v.ownBlock

def RelH (k0 : Int) (n : Nat) (w : World) (k i : Value) (wr : World) : Prop := ∃ j : Nat, j ≤ n ∧ i = .int .i64 j ∧ k = .int .i64 (k0 + j) ∧ Up w wr

end Go.Proofs.YtmjpopfacagjhaaDoor

/- Two rows of different element types lie in different blocks. Conditions: as each says. -/
namespace Go.Proofs.YtmjpopfacagjhaaDoor
set_option linter.unusedVariables false
set_option linter.unusedSimpArgs false
open Go.RowKit

theorem infoInt : (Tryd.prog.info? 3).map (fun i => (i.zero, i.size, i.bytes)) = some (some (.int .i64 0), 1, 8) := by kernel_rfl
theorem ownsRow_ne {w : World} {b1 b2 : Nat} {e1 e2 : TypeId} {s1 s2 n1 n2 : Nat} {v1 v2 : Value} {x1 x2 : List Value} (h1 : w.ownsRow b1 e1 s1 v1 n1 x1) (h2 : w.ownsRow b2 e2 s2 v2 n2 x2) (hne : e1 ≠ e2) : v1.ownBlock = none ∨ v1.ownBlock ≠ v2.ownBlock := by
  rcases h1.2 with ⟨rfl, _⟩ | ⟨g, cap, cur, rfl, _, hg, _⟩
  · exact .inl rfl
  · refine .inr fun e => ?_
    rcases h2.2 with ⟨rfl, _⟩ | ⟨g', cap', cur', rfl, _, hg', _⟩
    · cases e
    · simp only [Value.ownBlock, Option.some.injEq] at e
      subst e
      rw [hg] at hg'
      cases hg'
      exact hne rfl

end Go.Proofs.YtmjpopfacagjhaaDoor
