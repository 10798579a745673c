/- Texts joined into one: the walks and laws that the last text leans on. Conditions: as each says. -/
import Derived.Test.YtekogcjdaolcbaaGreatDoorUg

set_option linter.unusedVariables false
set_option linter.unusedSimpArgs false
/- A region whose order is open, in which moves and extracts may come behind the stores at its end: its head is walked once in the order of the text, then its tail. Conditions: those of the theorems. -/
namespace Go.Proofs.YtekogcjdaolcbaaGreatDoor
open Go Go.RowKit
section
variable {P : Program} {ops : Array Oper}
def reachB (ops : Array Oper) : Nat → Nat → Nat → Bool
  | 0, _, _ => false
  | f + 1, j, i => match ops[j]? with
    | none => false
    | some o => (o.after.any fun e => Region.binds .any e && e.on == i) || (o.after.any fun e => Region.binds .any e && reachB ops f e.on i)
theorem reach_listed {listed : Array Bool} (hcl : ∀ (j : Nat) (o : Oper), ops[j]? = some o → listed.getD j false = true → ∀ e ∈ o.after, Region.binds .any e = true → listed.getD e.on false = true) :
    ∀ (f j i : Nat), reachB ops f j i = true → (∀ o, ops[j]? = some o → ∀ e ∈ o.after, Region.binds .any e = true → listed.getD e.on false = true) → listed.getD i false = true := by
  intro f
  induction f with
  | zero => intro j i h; cases h
  | succ f ih =>
    intro j i h hj
    unfold reachB at h
    split at h
    · cases h
    · next o ho =>
      rw [Bool.or_eq_true] at h
      rcases h with h | h
      · obtain ⟨e, he, hb⟩ := Array.any_eq_true'.1 h
        simp only [Bool.and_eq_true, beq_iff_eq] at hb
        rw [← hb.2]
        exact hj o ho e he hb.1
      · obtain ⟨e, he, hb⟩ := Array.any_eq_true'.1 h
        simp only [Bool.and_eq_true] at hb
        exact ih e.on i hb.2 fun x hx => hcl e.on x hx (hj o ho e he hb.1)
def isFl (o : Oper) : Bool := match o.op with
  | .move _ => true
  | .extract _ _ => true
  | _ => false
def isTl (o : Oper) : Bool := match o.op with
  | .move _ => true
  | .assign _ => true
  | .extract _ _ => true
  | .store _ _ _ => true
  | _ => false
theorem fl_run {o : Oper} (h : isFl o = true) {ρ : Operand → Value} {w w' : World} {n : Next} (hr : (execOp ρ o).run P w = .ok n w') : w' = w ∧ (∃ v, n = .value v) ∧ ∀ w2, (execOp ρ o).run P w2 = .ok n w2 := by
  unfold isFl at h
  unfold execOp at hr ⊢
  split at h
  · next x hx =>
    simp only [hx, Sem.run_pure] at hr ⊢
    cases hr
    exact ⟨rfl, ⟨_, rfl⟩, fun _ => rfl⟩
  · next t i hx =>
    simp only [hx, Sem.run_bind] at hr ⊢
    cases ht : ρ t with
    | tuple vs =>
      simp only [ht] at hr ⊢
      unfold Instr.extract at hr ⊢
      cases hv : vs[i]? with
      | none => simp [hv, stuck] at hr
      | some v => simp [hv] at hr ⊢; exact ⟨hr.2.symm, ⟨v, hr.1.symm⟩, hr.1⟩
    | _ => simp [ht, Instr.extract, stuck] at hr
  · cases h
theorem tl_upon {o : Oper} (h : isTl o = true) {a : Act} {w : World} {next : Act → World → Prop} {Q : Exit → Act → World → Prop} (hq : ∀ c a w, ¬ Q (.panic c) a w) (hu : o.upon P a next Q ((execOp a.eval o).run P w)) :
    (∃ v w', (execOp a.eval o).run P w = .ok (.value v) w' ∧ next (a.put o.dst v) w') ∨ (∃ w', (execOp a.eval o).run P w = .ok .skip w' ∧ next (a.put o.dst undef) w') := by
  generalize hr : (execOp a.eval o).run P w = r at *
  unfold isTl at h
  unfold execOp at hr
  split at h
  · next x hx => simp only [hx, Sem.run_pure] at hr; subst hr; exact .inl ⟨_, _, rfl, hu⟩
  · next x hx => simp only [hx, Sem.run_pure] at hr; subst hr; exact .inl ⟨_, _, rfl, hu⟩
  · next t i hx =>
    simp only [hx, Sem.run_bind] at hr
    generalize (Instr.extract (a.eval t) i).run P w = r2 at *
    cases r2 with
    | ok u w2 => simp only [Result.andThen_ok, Sem.run_pure] at hr; subst hr; exact .inl ⟨_, _, rfl, hu⟩
    | halt c w2 =>
      simp only [Result.andThen] at hr; subst hr
      cases c <;> simp only [Oper.upon] at hu
      exact absurd hu (hq _ _ _)
  · next t x y hx =>
    simp only [hx, Sem.run_bind] at hr
    generalize (Instr.storeAt t (a.eval x) (a.eval y)).run P w = r2 at *
    cases r2 with
    | ok u w2 => simp only [Result.andThen_ok, Sem.run_pure] at hr; subst hr; exact .inr ⟨_, rfl, hu⟩
    | halt c w2 =>
      simp only [Result.andThen] at hr; subst hr
      cases c <;> simp only [Oper.upon] at hu
      exact absurd hu (hq _ _ _)
  · cases h
structure FlText (ops : Array Oper) (n0 : Nat) : Prop where
  sel : ∀ (j : Nat) (o : Oper) cs b, ops[j]? = some o → o.op ≠ .select cs b
  le : n0 ≤ ops.size
  lex : ∀ (j : Nat) (o : Oper), ops[j]? = some o → ∀ e ∈ o.after, Region.binds .any e = true → e.on < j
  pair : ∀ (i j : Nat) (x o : Oper), i < j → j < n0 → ops[i]? = some x → ops[j]? = some o → waitsB o i = true ∨ x.apart ops o = true
  dist : ∀ (i j : Nat) (x o : Oper) (d : Tmp), i < j → j < n0 → ops[i]? = some x → ops[j]? = some o → x.dst = some d → o.dst ≠ some d
  tail : ∀ (i j : Nat) (x o : Oper), i < j → n0 ≤ j → ops[i]? = some x → ops[j]? = some o → reachB ops 3 j i = true ∨ (i < n0 ∧ isFl x = true ∧ x.apart ops o = true)
  war : ∀ (i j : Nat) (x o : Oper) (d : Tmp), i ≤ j → j < n0 → ops[i]? = some x → ops[j]? = some o → isFl x = true → isFl o = true → o.dst = some d → d ∉ x.looksAt ops
  kinds : ∀ (j : Nat) (o : Oper), n0 ≤ j → ops[j]? = some o → isTl o = true
def flB (ops : Array Oper) (n0 : Nat) : Bool :=
  Region.noSelect ops && decide (n0 ≤ ops.size) &&
  ((List.range ops.size).all fun j => match ops[j]? with
    | none => true
    | some o => (o.after.all fun e => !Region.binds .any e || decide (e.on < j)) && (decide (j < n0) || isTl o) &&
      (!(decide (j < n0) && isFl o) || (match o.dst with | some d => !(o.looksAt ops).contains d | none => true)) &&
      ((List.range j).all fun i => match ops[i]? with
        | none => true
        | some x => if j < n0 then (waitsB o i || x.apart ops o) && (match x.dst with | some d => o.dst != some d | none => true) && (!(isFl x && isFl o) || (match o.dst with | some d => !(x.looksAt ops).contains d | none => true))
          else reachB ops 3 j i || (decide (i < n0) && isFl x && x.apart ops o)))
theorem flB_text {n0 : Nat} (h : flB ops n0 = true) : FlText ops n0 := by
  unfold flB at h
  simp only [Bool.and_eq_true, decide_eq_true_eq] at h
  obtain ⟨⟨h1, h2⟩, h3⟩ := h
  have h3 := List.all_eq_true.1 h3
  have hj : ∀ (j : Nat) (o : Oper), ops[j]? = some o → (∀ e ∈ o.after, Region.binds .any e = true → e.on < j) ∧ (n0 ≤ j → isTl o = true) ∧ (j < n0 → isFl o = true → ∀ d, o.dst = some d → d ∉ o.looksAt ops) ∧ ∀ (i : Nat) (x : Oper), i < j → ops[i]? = some x → (if j < n0 then (waitsB o i || x.apart ops o) && (match x.dst with | some d => o.dst != some d | none => true) && (!(isFl x && isFl o) || (match o.dst with | some d => !(x.looksAt ops).contains d | none => true)) else reachB ops 3 j i || (decide (i < n0) && isFl x && x.apart ops o)) = true := by
    intro j o ho
    have hlt : j < ops.size := (Array.getElem?_eq_some_iff.1 ho).1
    have := h3 j (List.mem_range.2 hlt)
    simp only [ho, Bool.and_eq_true] at this
    obtain ⟨⟨⟨ha, hk⟩, hs⟩, hb⟩ := this
    refine ⟨fun e he hb => ?_, fun hn => ?_, fun hn hf d hd => ?_, fun i x hi hx => ?_⟩
    · have := Array.all_eq_true_iff_forall_mem.1 ha e he
      simpa [hb] using this
    · simpa [show ¬ j < n0 by omega] using hk
    · simpa [hn, hf, hd] using hs
    · have := List.all_eq_true.1 hb i (List.mem_range.2 hi)
      simpa only [hx] using this
  refine ⟨fun j o cs b ho => Region.noSelect_spec h1 j o cs b ho, h2, fun j o ho => (hj j o ho).1, fun i j x o hi hn hx ho => ?_, fun i j x o d hi hn hx ho hd => ?_, fun i j x o hi hn hx ho => ?_, fun i j x o d hi hn hx ho fx fo hd => ?_, fun j o hn ho => (hj j o ho).2.1 hn⟩
  · have := (hj j o ho).2.2.2 i x hi hx
    simp only [hn, if_true, Bool.and_eq_true, Bool.or_eq_true] at this
    exact this.1.1
  · have := (hj j o ho).2.2.2 i x hi hx
    simp only [hn, if_true, Bool.and_eq_true, hd] at this
    simpa using this.1.2
  · have := (hj j o ho).2.2.2 i x hi hx
    simp only [show ¬ j < n0 by omega, if_false, Bool.or_eq_true, Bool.and_eq_true, decide_eq_true_eq] at this
    rcases this with h | ⟨⟨a, b⟩, c⟩
    · exact .inl h
    · exact .inr ⟨a, b, c⟩
  · rcases Nat.lt_or_ge i j with hl | hl
    · have := (hj j o ho).2.2.2 i x hl hx
      simp only [hn, if_true, Bool.and_eq_true, fx, fo, hd] at this
      simpa using this.2
    · obtain rfl : i = j := by omega
      rw [hx] at ho; cases ho
      exact (hj i x hx).2.2.1 hn fx d hd
theorem Desc.fillF {a0 : Act} {n0 : Nat} (T : FlText ops n0) {vals : Nat → Value} : ∀ (E : List Mk) (S : Nat → Prop) (a : Act), (∀ i, S i → i < n0) → Desc ops a0 S vals a →
    (∀ m ∈ E, m.1 < n0 ∧ m.2.1 = (ops[m.1]?).bind (·.dst)) → Desc ops a0 (fun i => S i ∨ ∃ m ∈ E, m.1 = i) vals (fillWith vals E a)
  | [], S, a, _, h, _ => h.congr (fun i => by simp) (fun _ _ => rfl)
  | (i, d, D) :: E, S, a, hS, h, hE => by
    obtain ⟨hi, hd⟩ := hE _ (List.mem_cons_self ..)
    have hlt : i < ops.size := Nat.lt_of_lt_of_le hi T.le
    have ho : ops[i]? = some ops[i] := by simp [hlt]
    simp only at hd hi
    rw [ho, Option.bind_some] at hd
    have h1 := h.put (j := i) ho fun i' x d' hi' hne hx hd' => by
      rcases Nat.lt_or_ge i' i with hl | hl
      · exact T.dist i' i x _ d' hl hi hx ho hd'
      · intro e
        exact T.dist i i' _ x d' (by omega) (hS _ hi') ho hx e hd'
    have h2 := Desc.fillF T E _ _ (fun i' hi' => hi'.elim (hS i') (fun e => e ▸ hi)) h1 (fun m hm => hE m (List.mem_cons_of_mem _ hm))
    show Desc ops a0 _ vals (fillWith vals E (a.put d (vals i)))
    rw [hd]
    refine h2.congr (fun i' => ?_) (fun _ _ => rfl)
    simp only [List.mem_cons, exists_eq_or_imp]
    constructor
    · rintro ((h | h) | h)
      · exact .inl h
      · exact .inr (.inl h.symm)
      · exact .inr (.inr h)
    · rintro (h | h | h)
      · exact .inl (.inl h)
      · exact .inl (.inr h.symm)
      · exact .inr h
theorem wpF_text {R Kc : Nat → World → World → Prop} {C : Nat → World → Prop} {Z : Act → World → Prop} {a0 : Act} {n0 : Nat} (T : FlText ops n0) : ∀ (l : List Oper) (k : Nat) (E : List Mk) (a : Act) (Cc : Nat → Prop) (cv : Nat → Value) (D : Nat → Value → World → Prop),
    k + l.length = n0 → (∀ j, j < l.length → l[j]? = ops[k + j]?) → Lex ops a0 k E a Cc cv D → (∀ i, i < k → ∀ v w w', D i v w → Kc i w w' → D i v w') → (∀ j o, j < k → ops[j]? = some o → TurnG P ops n0 R C a0 D j o) → wpG P ops R Kc C Z l k E a →
    ∃ D' : Nat → Value → World → Prop, (∀ i, i < n0 → ∀ v w w', D' i v w → Kc i w w' → D' i v w') ∧ (∀ j o, j < n0 → ops[j]? = some o → TurnG P ops n0 R C a0 D' j o) ∧
      (∀ (b : Act) (w : World) (vals : Nat → Value), C n0 w → Desc ops a0 (fun i => i < n0) vals b → (∀ i, i < n0 → D' i (vals i) w) → Z b w)
  | [], k, E, a, Cc, cv, D, hk, _, L, hU, hT, h => by
    simp only [List.length_nil, Nat.add_zero] at hk
    subst hk
    refine ⟨D, hU, hT, fun b w vals hC hb hD => ?_⟩
    classical
    have hf := (h w hC).inst (vals := vals) fun m hm => by
      obtain ⟨h1, _, _, h4, _⟩ := L.mem m hm
      rw [h4]; exact hD _ h1
    have hd := L.desc.congr (S' := fun i => i < k ∧ Cc i) (vals' := vals) (fun _ => Iff.rfl) (fun i hi => (L.const i hi.1 hi.2 _ _ (hD i hi.1)).symm)
    have hd := Desc.fillF T E _ a (fun i hi => hi.1) hd (fun m hm => ⟨(L.mem m hm).1, (L.mem m hm).2.2.1⟩)
    have : fillWith vals E a = b := by
      have hag : ∀ t, (fillWith vals E a).tmps[t]? = b.tmps[t]? := fun t => hd.agree hb t fun i o ho hdst => ⟨⟨fun hi => ?_, fun hi => ?_⟩, fun _ => rfl⟩
      · have h1 : (fillWith vals E a).tmps = b.tmps := Array.ext_getElem? hag
        have h2 : (fillWith vals E a).defers = b.defers := hd.defers.trans hb.defers.symm
        cases hx : fillWith vals E a; cases hy : b
        rw [hx, hy] at h1 h2
        simp only at h1 h2
        rw [h1, h2]
      · rcases hi with hi | ⟨m, hm, rfl⟩
        · exact hi.1
        · exact (L.mem m hm).1
      · by_cases hc : Cc i
        · exact .inl ⟨hi, hc⟩
        · exact .inr (L.all i hi hc)
    rw [this] at hf
    exact hf
  | o :: rest, k, E, a, Cc, cv, D, hk, hl, L, hU, hT, h => by
    classical
    simp only [List.length_cons] at hk
    have ho : ops[k]? = some o := by have := hl 0 (by simp); simpa using this.symm
    have hkn : k < n0 := by omega
    have hmemo : o ∈ ops := Array.mem_of_getElem? ho
    -- what the guard sees
    have hwant : ∀ (b : Act) (w : World) (vals : Nat → Value) (S : Nat → Prop), Desc ops a0 S vals b → (∀ i, S i → i < k → D i (vals i) w) → (∀ i, waitsB o i = true → S i) →
        (∀ i x, S i → ops[i]? = some x → i ≠ k ∧ waitsB x k = false) → (∀ i, S i → i < n0) → Region.wanted o (yielded ops b.tmps) = Region.wanted o (yielded ops a.tmps) := by
      intro b w vals S hb hD hw hS hSn
      refine wanted_agree fun g bb t hg hd => hb.agree L.desc t fun i x hx hxd => ?_
      have hlook := guard_looks hg hd
      rcases Nat.lt_trichotomy i k with hik | rfl | hik
      · have hwi : waitsB o i = true := by
          rcases T.pair i k x o hik hkn hx ho with h | h
          · exact h
          · rw [not_apart hxd hlook] at h; cases h
        have hSi := hw i hwi
        have hCc : Cc i := by
          by_cases hc : Cc i
          · exact hc
          · obtain ⟨m, hm, rfl⟩ := L.all i hik hc
            obtain ⟨_, _, _, _, hgf⟩ := L.mem m hm
            exact absurd hd (guardFree_spec hgf (by rw [hx, Option.bind_some, hxd]) hmemo hg)
        exact ⟨⟨fun _ => ⟨hik, hCc⟩, fun _ => hSi⟩, fun _ => L.const i hik hCc _ _ (hD i hSi hik)⟩
      · exact ⟨⟨fun hi => absurd rfl (hS i x hi hx).1, fun hi => absurd hi.1 (Nat.lt_irrefl _)⟩, fun hi => absurd rfl (hS i x hi hx).1⟩
      · have hno : ¬ S i := fun hi => by
          rcases T.pair k i o x hik (hSn i hi) ho hx with h | h
          · rw [(hS i x hi hx).2] at h; cases h
          · rw [not_apart' hxd hlook] at h; cases h
        exact ⟨⟨fun hi => absurd hi hno, fun hi => absurd hi.1 (by omega)⟩, fun hi => absurd hi hno⟩
    have hexec : ∀ (b : Act) (w : World) (vals : Nat → Value) (S : Nat → Prop) (D1 : Value → World → Prop), Desc ops a0 S vals b → (∀ i, S i → i < k → D i (vals i) w) → (∀ i, waitsB o i = true → S i) →
        (∀ i x, S i → ops[i]? = some x → i ≠ k ∧ waitsB x k = false) → (∀ i, S i → i < n0) → fills (E.filter fun m => waitsB o m.1) a w (fun a' => gAt P (R k) o a' w D1) → gAt P (R k) o b w D1 := by
      intro b w vals S D1 hb hD hw hS hSn hf
      have hf := hf.inst (vals := fun i => if Cc i then cv i else vals i) fun m hm => by
        obtain ⟨hm1, hm2⟩ := List.mem_filter.1 hm
        obtain ⟨h1, h2, _, h4, _⟩ := L.mem m hm1
        rw [h4, if_neg h2]
        exact hD _ (hw _ hm2) h1
      have hd := L.desc.congr (S' := fun i => i < k ∧ Cc i) (vals' := fun i => if Cc i then cv i else vals i) (fun _ => Iff.rfl) (fun i hi => by simp only [hi.2, if_true])
      have hd := Desc.fillF T (E.filter fun m => waitsB o m.1) _ a (fun i hi => Nat.lt_trans hi.1 hkn) hd (fun m hm => by
        obtain ⟨h1, _, h3, _⟩ := L.mem m (List.mem_filter.1 hm).1
        exact ⟨Nat.lt_trans h1 hkn, h3⟩)
      have he : execOp b.eval o = execOp (fillWith (fun i => if Cc i then cv i else vals i) (E.filter fun m => waitsB o m.1) a).eval o := by
        refine exec_agree (ops := ops) (T.sel k o · · ho) fun t hlook => hb.agree hd t fun i x hx hxd => ?_
        rcases Nat.lt_trichotomy i k with hik | rfl | hik
        · have hwi : waitsB o i = true := by
            rcases T.pair i k x o hik hkn hx ho with h | h
            · exact h
            · rw [not_apart hxd hlook] at h; cases h
          have hSi := hw i hwi
          by_cases hc : Cc i
          · exact ⟨⟨fun _ => .inl ⟨hik, hc⟩, fun _ => hSi⟩, fun _ => by simp only [hc, if_true]; exact L.const i hik hc _ _ (hD i hSi hik)⟩
          · obtain ⟨m, hm, rfl⟩ := L.all i hik hc
            exact ⟨⟨fun _ => .inr ⟨m, List.mem_filter.2 ⟨hm, hwi⟩, rfl⟩, fun _ => hSi⟩, fun _ => by simp only [hc, if_false]⟩
        · refine ⟨⟨fun hi => absurd rfl (hS i x hi hx).1, fun hi => ?_⟩, fun hi => absurd rfl (hS i x hi hx).1⟩
          rcases hi with hi | ⟨m, hm, hmi⟩
          · exact absurd hi.1 (Nat.lt_irrefl _)
          · exact absurd (hmi ▸ (L.mem m (List.mem_filter.1 hm).1).1) (Nat.lt_irrefl _)
        · have hno : ¬ S i := fun hi => by
            rcases T.pair k i o x hik (hSn i hi) ho hx with h | h
            · rw [(hS i x hi hx).2] at h; cases h
            · rw [not_apart' hxd hlook] at h; cases h
          refine ⟨⟨fun hi => absurd hi hno, fun hi => ?_⟩, fun hi => absurd hi hno⟩
          rcases hi with hi | ⟨m, hm, rfl⟩
          · exact absurd hi.1 (by omega)
          · exact absurd (L.mem m (List.mem_filter.1 hm).1).1 (by omega)
      unfold gAt at hf ⊢
      rw [he]
      exact hf
    have hrest : k + 1 + rest.length = n0 := by omega
    have hlrest : ∀ j, j < rest.length → rest[j]? = ops[k + 1 + j]? := fun j hj => by
      have := hl (j + 1) (by simp only [List.length_cons]; omega)
      rw [List.getElem?_cons_succ] at this
      rw [this, Nat.add_assoc, Nat.add_comm 1 j]
    have hdst : ∀ (i : Nat) (x : Oper) (d : Tmp), i < k → ops[i]? = some x → x.dst = some d → o.dst ≠ some d := fun i x d hi hx hd => T.dist i k x o d hi hkn hx ho hd
    have hotk : ∀ (Dk : Value → World → Prop) (i : Nat), i < k → (fun i => if i = k then Dk else D i) i = D i := fun Dk i hi => by simp only [show ¬ i = k by omega, if_false]
    have hTurn : ∀ (Dk : Value → World → Prop), TurnG P ops n0 R C a0 (fun i => if i = k then Dk else D i) k o → ∀ j x, j < k + 1 → ops[j]? = some x → TurnG P ops n0 R C a0 (fun i => if i = k then Dk else D i) j x := fun Dk h0 j x hj hx => by
      by_cases hjk : j = k
      · subst hjk
        rw [ho] at hx; cases hx
        exact h0
      · intro b w vals S hC hb hSn hD hw hS
        have := hT j x (by omega) hx b w vals S hC hb hSn (fun i hi hij => by have := hD i hi hij; rwa [hotk Dk i (by omega)] at this) hw hS
        rw [hotk Dk j (by omega)]
        exact this
    have hUp : ∀ (Dk : Value → World → Prop), (∀ v w w', Dk v w → Kc k w w' → Dk v w') → ∀ i, i < k + 1 → ∀ v w w', (fun i => if i = k then Dk else D i) i v w → Kc i w w' → (fun i => if i = k then Dk else D i) i v w' := fun Dk h0 i hi v => by
      by_cases hik : i = k
      · subst hik; simp only [if_true]; exact h0 v
      · rw [hotk Dk i (by omega)]; exact hU i (by omega) v
    have hLexC : ∀ (u : Value), Lex ops a0 (k + 1) E (a.put o.dst u) (fun i => Cc i ∨ i = k) (fun i => if i = k then u else cv i) (fun i => if i = k then (fun v' _ => v' = u) else D i) := fun u => by
      refine ⟨?_, ?_, ?_, ?_⟩
      · have h1 := L.desc.congr (S' := fun i => i < k ∧ Cc i) (vals' := fun i => if i = k then u else cv i) (fun _ => Iff.rfl) (fun i hi => by simp only [show ¬ i = k by omega, if_false])
        have h2 := h1.put (j := k) ho fun i x d hi _ hx hd => hdst i x d hi.1 hx hd
        simp only [if_true] at h2
        refine h2.congr (fun i => ?_) (fun _ _ => rfl)
        constructor
        · rintro (⟨h, h'⟩ | rfl)
          · exact ⟨by omega, .inl h'⟩
          · exact ⟨by omega, .inr rfl⟩
        · rintro ⟨h, h' | rfl⟩
          · by_cases hik : i = k
            · exact .inr hik
            · exact .inl ⟨by omega, h'⟩
          · exact .inr rfl
      · intro i hi hc v w hD
        by_cases hik : i = k
        · simp only [hik, if_true] at hD ⊢; exact hD
        · simp only [hik, if_false] at hD ⊢
          exact L.const i (by omega) (hc.resolve_right hik) v w hD
      · intro m hm
        obtain ⟨h1, h2, h3, h4, h5⟩ := L.mem m hm
        exact ⟨by omega, fun h => h.elim h2 (by omega), h3, by rw [h4]; simp only [show ¬ m.1 = k by omega, if_false], h5⟩
      · intro i hi hc
        exact L.all i (by have : i ≠ k := fun h => hc (.inr h); omega) (fun h => hc (.inl h))
    have hLexM : ∀ (Dk : Value → World → Prop), guardFree ops k = true → Lex ops a0 (k + 1) ((k, o.dst, Dk) :: E) a (fun i => Cc i ∧ i ≠ k) cv (fun i => if i = k then Dk else D i) := fun Dk hg => by
      refine ⟨?_, ?_, ?_, ?_⟩
      · refine L.desc.congr (fun i => ?_) (fun _ _ => rfl)
        constructor
        · rintro ⟨h, h'⟩; exact ⟨by omega, h', by omega⟩
        · rintro ⟨h, h', h''⟩; exact ⟨by omega, h'⟩
      · intro i hi hc v w hD
        simp only [hc.2, if_false] at hD
        exact L.const i (by have := hc.2; omega) hc.1 v w hD
      · intro m hm
        rcases List.mem_cons.1 hm with rfl | hm
        · exact ⟨by simp, fun h => h.2 rfl, by simp only [ho, Option.bind_some], by simp only [if_true], hg⟩
        · obtain ⟨h1, h2, h3, h4, h5⟩ := L.mem m hm
          exact ⟨by omega, fun h => h2 h.1, h3, by rw [h4]; simp only [show ¬ m.1 = k by omega, if_false], h5⟩
      · intro i hi hc
        by_cases hik : i = k
        · exact ⟨_, List.mem_cons_self .., hik.symm⟩
        · obtain ⟨m, hm, hmi⟩ := L.all i (by omega) (fun h => hc ⟨h, hik⟩)
          exact ⟨m, List.mem_cons_of_mem _ hm, hmi⟩
    unfold wpG at h
    by_cases hwt : Region.wanted o (yielded ops a.tmps) = true
    · simp only [hwt, if_true] at h
      rcases h with ⟨v, h1, h2⟩ | ⟨Dk, hg, hcl, h1, h2⟩
      · refine wpF_text T rest (k + 1) E _ _ _ _ hrest hlrest (hLexC v) (hUp _ fun _ _ _ h _ => h) (hTurn _ ?_) h2
        intro b w vals S hC hb hSn hD hw hS
        have hD' : ∀ i, S i → i < k → D i (vals i) w := fun i hi hik => by have := hD i hi hik; rwa [hotk _ i hik] at this
        refine .inl ⟨(hwant b w vals S hb hD' hw hS hSn).trans hwt, ?_⟩
        simp only [if_true]
        exact hexec b w vals S _ hb hD' hw hS hSn (h1 w hC)
      · refine wpF_text T rest (k + 1) _ _ _ _ _ hrest hlrest (hLexM Dk hg) (hUp _ hcl) (hTurn _ ?_) h2
        intro b w vals S hC hb hSn hD hw hS
        have hD' : ∀ i, S i → i < k → D i (vals i) w := fun i hi hik => by have := hD i hi hik; rwa [hotk _ i hik] at this
        refine .inl ⟨(hwant b w vals S hb hD' hw hS hSn).trans hwt, ?_⟩
        simp only [if_true]
        exact hexec b w vals S _ hb hD' hw hS hSn (h1 w hC)
    · simp only [hwt] at h
      refine wpF_text T rest (k + 1) E _ _ _ _ hrest hlrest (hLexC undef) (hUp _ fun _ _ _ h _ => h) (hTurn _ ?_) h
      intro b w vals S hC hb hSn hD hw hS
      have hD' : ∀ i, S i → i < k → D i (vals i) w := fun i hi hik => by have := hD i hi hik; rwa [hotk _ i hik] at this
      refine .inr ⟨(hwant b w vals S hb hD' hw hS hSn).trans (by simpa using hwt), ?_⟩
      simp only [if_true]
def FlAt (P : Program) (ops : Array Oper) (o : Oper) (b : Act) (v : Value) : Prop :=
  (Region.wanted o (yielded ops b.tmps) = true ∧ ∀ w, (execOp b.eval o).run P w = .ok (.value v) w) ∨ (Region.wanted o (yielded ops b.tmps) = false ∧ v = undef)
theorem FlAt.agree {o : Oper} (hs : ∀ cs b, o.op ≠ .select cs b) {b b' : Act} {v : Value} (h : FlAt P ops o b v) (ha : ∀ t ∈ o.looksAt ops, b.tmps[t]? = b'.tmps[t]?) : FlAt P ops o b' v := by
  have e1 := exec_agree (ops := ops) hs ha
  have e2 : Region.wanted o (yielded ops b.tmps) = Region.wanted o (yielded ops b'.tmps) := wanted_agree fun g bb t hg hd => ha t (guard_looks hg hd)
  unfold FlAt at *
  rw [← e1, ← e2]
  exact h
structure FillOf (ops : Array Oper) (G : List Nat) (vals : Nat → Value) (a a' : Act) : Prop where
  defers : a'.defers = a.defers
  size : a'.tmps.size = a.tmps.size
  old : ∀ t, (∀ i ∈ G, ∀ o, ops[i]? = some o → o.dst ≠ some t) → a'.tmps[t]? = a.tmps[t]?
  new : ∀ i ∈ G, ∀ o t, ops[i]? = some o → o.dst = some t → t < a.tmps.size → a'.tmps[t]? = some (vals i)
theorem put_get (a : Act) (d : Option Tmp) (v : Value) (t : Tmp) (h : d ≠ some t) : (a.put d v).tmps[t]? = a.tmps[t]? := by
  cases d with
  | none => rfl
  | some d => simp only [Act.put]; exact Array.getElem?_setIfInBounds_ne fun e => h (by rw [e])
theorem put_size (a : Act) (d : Option Tmp) (v : Value) : (a.put d v).tmps.size = a.tmps.size := by cases d <;> simp [Act.put]
theorem put_defers (a : Act) (d : Option Tmp) (v : Value) : (a.put d v).defers = a.defers := by cases d <;> rfl
theorem put_at (a : Act) (t : Tmp) (v : Value) (h : t < a.tmps.size) : (a.put (some t) v).tmps[t]? = some v := by simp [Act.put, h]
theorem act_ext {a b : Act} (h1 : b.defers = a.defers) (h2 : ∀ t : Nat, b.tmps[t]? = a.tmps[t]?) : b = a := by
  have h3 : b.tmps = a.tmps := Array.ext_getElem? h2
  cases a; cases b
  simp only at h1 h3
  rw [h1, h3]
theorem wpAny_fl {n0 : Nat} (T : FlText ops n0) {Q Q' : Exit → Act → World → Prop} (hQ : ∀ a w, Q' .normal a w → Q .normal a w) (hP : ∀ c a w, ¬ Q' (.panic c) a w) (hO : ¬ LetsOut Q') : ∀ (fuel : Nat) (l : List Oper) (k : Nat) (G : List Nat) (vals : Nat → Value) (listed : Array Bool) (a a' : Act) (w : World),
    n0 ≤ k → k + l.length = ops.size → l.length + G.length ≤ fuel → (∀ j, j < l.length → l[j]? = ops[k + j]?) → listed.size = ops.size →
    (∀ i, i < n0 → listed.getD i true = false → i ∈ G) → (∀ i ∈ G, i < n0 ∧ listed.getD i true = false) → (∀ i, n0 ≤ i → i < k → listed.getD i false = true) → (∀ i, k ≤ i → i < ops.size → listed.getD i true = false) →
    (∀ (j : Nat) (o : Oper), ops[j]? = some o → listed.getD j false = true → ∀ e ∈ o.after, Region.binds .any e = true → listed.getD e.on false = true) →
    (∀ i ∈ G, ∀ o, ops[i]? = some o → isFl o = true ∧ FlAt P ops o a' (vals i)) → FillOf ops G vals a a' → wpList P ops Q' l a' w → wpAny P .any ops Q fuel listed a w := by
  intro fuel
  induction fuel with
  | zero =>
    intro l k G vals listed a a' w hk hkl hf hl hsz hun hG h1 h2 hcl hfl hfill h
    have el : l = [] := List.length_eq_zero_iff.1 (by omega)
    have eG : G = [] := List.length_eq_zero_iff.1 (by omega)
    subst el eG
    have ea : a' = a := act_ext hfill.defers fun t => hfill.old t (fun i hi => by cases hi)
    subst ea
    simp only [List.length_nil, Nat.add_zero] at hkl
    refine ⟨?_, hQ _ _ h⟩
    rcases hx : Region.ready .any ops listed with _ | ⟨i, xs⟩
    · rfl
    · have hi : i ∈ Region.ready .any ops listed := by rw [hx]; exact List.mem_cons_self ..
      obtain ⟨hu, o, ho, _⟩ := mem_ready.1 hi
      have hlt : i < ops.size := (Array.getElem?_eq_some_iff.1 ho).1
      rcases Nat.lt_or_ge i n0 with hn | hn
      · exact absurd (hun i hn hu) List.not_mem_nil
      · have := h1 i hn (by omega)
        have := getD_both hu
        simp_all
  | succ fuel ih =>
    intro l k G vals listed a a' w hk hkl hf hl hsz hun hG h1 h2 hcl hfl hfill h
    -- a slot at which a ready operation looks is as it will be
    have hlook : ∀ (i : Nat) (o : Oper), ops[i]? = some o → (∀ e ∈ o.after, Region.binds .any e = true → listed.getD e.on false = true) → (i < n0 → isFl o = true) → ∀ t ∈ o.looksAt ops, a'.tmps[t]? = a.tmps[t]? := by
      intro i o ho hal hfo t ht
      refine hfill.old t fun i' hi' x hx hxd => ?_
      have hg := hG i' hi'
      have hxf := (hfl i' hi' x hx).1
      rcases Nat.lt_or_ge i n0 with hn | hn
      · rcases Nat.lt_trichotomy i' i with hlt | rfl | hlt
        · rcases T.pair i' i x o hlt hn hx ho with hw | hw
          · obtain ⟨e, he, hb⟩ := waitsB_spec hw
            have := hal e he hb.1
            rw [hb.2] at this
            have := getD_both hg.2
            simp_all
          · exact (Oper.apart_spec hw).1 t hxd ht
        · rw [hx] at ho; cases ho
          exact T.war i' i' _ _ t (Nat.le_refl _) hn hx hx hxf hxf hxd ht
        · exact T.war i i' o x t (Nat.le_of_lt hlt) hg.1 ho hx (hfo hn) hxf hxd ht
      · rcases T.tail i' i x o (by omega) hn hx ho with hr | ⟨_, _, hap⟩
        · have := reach_listed hcl 3 i i' hr (fun y hy => by rw [ho] at hy; cases hy; exact hal)
          have := getD_both hg.2
          simp_all
        · exact (Oper.apart_spec hap).1 t hxd ht
    refine ⟨fun hr => ?_, fun i hi => ?_⟩
    · have eG : G = [] := by
        cases G with
        | nil => rfl
        | cons g G' =>
          exfalso
          obtain ⟨m, hm, hmn, hmin⟩ : ∃ m, m < n0 ∧ listed.getD m true = false ∧ ∀ i, i < m → listed.getD i true = true := by
            have : ∀ d, (∀ i, i < d → listed.getD i true = true) ∨ ∃ m, m < d ∧ listed.getD m true = false ∧ ∀ i, i < m → listed.getD i true = true := by
              intro d
              induction d with
              | zero => exact .inl fun i hi => absurd hi (Nat.not_lt_zero _)
              | succ d ihd =>
                rcases ihd with h | ⟨m, h1, h2⟩
                · cases hx : listed.getD d true with
                  | false => exact .inr ⟨d, by omega, hx, h⟩
                  | true =>
                    refine .inl fun i hi => ?_
                    rcases Nat.lt_or_ge i d with h' | h'
                    · exact h i h'
                    · have hid : i = d := by omega
                      rw [hid]; exact hx
                · exact .inr ⟨m, by omega, h2⟩
            rcases this n0 with hh | hh
            · have := hh g (hG g (List.mem_cons_self ..)).1
              rw [(hG g (List.mem_cons_self ..)).2] at this
              cases this
            · exact hh
          have hms : m < ops.size := Nat.lt_of_lt_of_le hm T.le
          have : m ∈ Region.ready .any ops listed := mem_ready.2 ⟨hmn, ops[m], by simp [hms], fun e he hb => by
            have hl := T.lex m ops[m] (by simp [hms]) e he hb
            have h9 := hmin _ hl; have h8 : e.on < listed.size := (by omega); rw [Array.getD_eq_getD_getElem?, Array.getElem?_eq_getElem h8] at h9 ⊢; exact h9⟩
          rw [hr] at this; cases this
      subst eG
      have el : l = [] := by
        cases l with
        | nil => rfl
        | cons o l' =>
          exfalso
          have ho : ops[k]? = some o := by have := hl 0 (by simp); simpa using this.symm
          have hks : k < ops.size := (Array.getElem?_eq_some_iff.1 ho).1
          have : k ∈ Region.ready .any ops listed := mem_ready.2 ⟨h2 k (Nat.le_refl _) hks, o, ho, fun e he hb => by
            have hl := T.lex k o ho e he hb
            rcases Nat.lt_or_ge e.on n0 with hn | hn
            · cases hx : listed.getD e.on false with
              | true => rfl
              | false => exact absurd (hun _ hn (getD_in (by omega) hx)) List.not_mem_nil
            · exact h1 _ hn hl⟩
          rw [hr] at this; cases this
      subst el
      have ea : a' = a := act_ext hfill.defers fun t => hfill.old t (fun i hi => by cases hi)
      subst ea
      exact hQ _ _ h
    · obtain ⟨hu, o, ho, hal⟩ := mem_ready.1 hi
      have hlt : i < ops.size := (Array.getElem?_eq_some_iff.1 ho).1
      have hagr := hlook i o ho hal
      rcases Nat.lt_or_ge i n0 with hn | hn
      · -- a floating one
        have hiG := hun i hn hu
        obtain ⟨hof, hfa⟩ := hfl i hiG o ho
        have hfa := hfa.agree (T.sel i o · · ho) (hagr fun _ => hof)
        have hnext : ∀ v, v = vals i → wpAny P .any ops Q fuel (listed.setIfInBounds i true) (a.put o.dst v) w := by
          intro v hv
          subst hv
          refine ih l k (G.filter fun m => m ≠ i) vals _ _ a' w hk hkl ?_ hl (by simp [hsz]) ?_ ?_ ?_ ?_ ?_ ?_ ?_ h
          · have : (G.filter fun m => decide (m ≠ i)).length < G.length := List.length_filter_lt_length_iff_exists.2 ⟨i, hiG, by simp⟩
            omega
          · intro j hj hjl
            by_cases hji : j = i
            · subst hji; simp [hsz, hlt] at hjl
            · rw [getD_set_ne true (Ne.symm hji)] at hjl
              exact List.mem_filter.2 ⟨hun j hj hjl, by simpa using hji⟩
          · intro j hj
            obtain ⟨hj1, hj2⟩ := List.mem_filter.1 hj
            have hji : j ≠ i := by simpa using hj2
            exact ⟨(hG j hj1).1, by rw [getD_set_ne true (Ne.symm hji)]; exact (hG j hj1).2⟩
          · intro j hj hjk
            exact getD_set_true (h1 j hj hjk)
          · intro j hj hjs
            rw [getD_set_ne true (by omega)]; exact h2 j hj hjs
          · intro j x hx hjl e he hb
            by_cases hji : j = i
            · subst hji
              rw [ho] at hx; cases hx
              exact getD_set_true (hal e he hb)
            · rw [getD_set_ne false (Ne.symm hji)] at hjl
              exact getD_set_true (hcl j x hx hjl e he hb)
          · intro j hj x hx
            exact hfl j (List.mem_filter.1 hj).1 x hx
          · refine ⟨hfill.defers.trans (put_defers _ _ _).symm, hfill.size.trans (put_size _ _ _).symm, fun t ht => ?_, fun j hj x t hx hxd hts => ?_⟩
            · by_cases hd : o.dst = some t
              · rw [hd]
                rcases Nat.lt_or_ge t a.tmps.size with hs | hs
                · rw [put_at _ _ _ hs]
                  exact hfill.new i hiG o t ho hd hs
                · rw [Array.getElem?_eq_none (by rw [hfill.size]; exact hs), Array.getElem?_eq_none (by rw [put_size]; exact hs)]
              · rw [put_get _ _ _ _ hd]
                refine hfill.old t fun j hj x hx hxd => ?_
                by_cases hji : j = i
                · subst hji; rw [ho] at hx; cases hx; exact hd hxd
                · exact ht j (List.mem_filter.2 ⟨hj, by simpa using hji⟩) x hx hxd
            · rw [put_size] at hts
              exact hfill.new j (List.mem_filter.1 hj).1 x t hx hxd hts
        unfold wpOp
        simp only [ho]
        rcases hfa with ⟨hw, hrun⟩ | ⟨hw, hv⟩
        · simp only [hw, if_true]
          left
          unfold Oper.wp
          rw [hrun w]
          exact hnext _ rfl
        · simp only [hw, Bool.false_eq_true, if_false]
          exact hnext _ hv.symm
      · -- the tail's next one
        have hik : i = k := by
          rcases Nat.lt_trichotomy i k with h' | h' | h'
          · have := h1 i hn h'
            have := getD_both hu
            simp_all
          · exact h'
          · have hks : k < ops.size := by omega
            have hok : ops[k]? = some ops[k] := by simp [hks]
            rcases T.tail k i ops[k] o h' hn hok ho with hr | ⟨hkn, _⟩
            · have := reach_listed hcl 3 i k hr (fun y hy => by rw [ho] at hy; cases hy; exact hal)
              have := getD_both (h2 k (Nat.le_refl _) hks)
              simp_all
            · omega
        subst hik
        obtain ⟨l', rfl⟩ : ∃ l', l = o :: l' := by
          cases l with
          | nil => simp only [List.length_nil, Nat.add_zero] at hkl; omega
          | cons o' l' =>
            have : ops[i]? = some o' := by have := hl 0 (by simp); simpa using this.symm
            rw [ho] at this; cases this
            exact ⟨l', rfl⟩
        have hagr := hagr (fun hn' => by omega)
        have eex := exec_agree (ops := ops) (T.sel i o · · ho) hagr
        have ewa : Region.wanted o (yielded ops a'.tmps) = Region.wanted o (yielded ops a.tmps) := wanted_agree fun g bb t hg hd => hagr t (guard_looks hg hd)
        have hap : ∀ j ∈ G, ∀ x, ops[j]? = some x → x.apart ops o = true := fun j hj x hx => by
          rcases T.tail j i x o (by have := (hG j hj).1; omega) hn hx ho with hr | ⟨_, _, hap⟩
          · have := reach_listed hcl 3 i j hr (fun y hy => by rw [ho] at hy; cases hy; exact hal)
            have := getD_both (hG j hj).2
            simp_all
          · exact hap
        have hnext : ∀ v w', wpList P ops Q' l' (a'.put o.dst v) w' → wpAny P .any ops Q fuel (listed.setIfInBounds i true) (a.put o.dst v) w' := by
          intro v w' h
          simp only [List.length_cons] at hkl hf
          refine ih l' (i + 1) G vals _ _ (a'.put o.dst v) w' (by omega) (by omega) (by omega) (fun j hj => ?_) (by simp [hsz]) ?_ ?_ ?_ ?_ ?_ ?_ ?_ h
          · have := hl (j + 1) (by simp only [List.length_cons]; omega)
            rw [List.getElem?_cons_succ] at this
            rw [this, Nat.add_assoc, Nat.add_comm 1 j]
          · intro j hj hjl
            rw [getD_set_ne true (by omega)] at hjl
            exact hun j hj hjl
          · intro j hj
            have := hG j hj
            exact ⟨this.1, by rw [getD_set_ne true (by omega)]; exact this.2⟩
          · intro j hj hjk
            by_cases hji : i = j
            · subst hji; simp [hsz, hlt]
            · exact getD_set_true (h1 j hj (by omega))
          · intro j hj hjs
            rw [getD_set_ne true (by omega)]; exact h2 j (by omega) hjs
          · intro j x hx hjl e he hb
            by_cases hji : j = i
            · subst hji
              rw [ho] at hx; cases hx
              exact getD_set_true (hal e he hb)
            · rw [getD_set_ne false (Ne.symm hji)] at hjl
              exact getD_set_true (hcl j x hx hjl e he hb)
          · intro j hj x hx
            refine ⟨(hfl j hj x hx).1, (hfl j hj x hx).2.agree (T.sel j x · · hx) fun t ht => (put_get _ _ _ _ fun e => ?_).symm⟩
            exact (Oper.apart_spec (hap j hj x hx)).2.2 t e ht
          · refine ⟨by rw [put_defers, put_defers]; exact hfill.defers, by rw [put_size, put_size]; exact hfill.size, fun t ht => ?_, fun j hj x t hx hxd hts => ?_⟩
            · by_cases hd : o.dst = some t
              · rw [hd]
                rcases Nat.lt_or_ge t a.tmps.size with hs | hs
                · rw [put_at _ _ _ hs, put_at _ _ _ (by rw [hfill.size]; exact hs)]
                · rw [Array.getElem?_eq_none (by rw [put_size, hfill.size]; exact hs), Array.getElem?_eq_none (by rw [put_size]; exact hs)]
              · rw [put_get _ _ _ _ hd, put_get _ _ _ _ hd]
                exact hfill.old t ht
            · rw [put_size] at hts
              have hne := (Oper.apart_spec (hap j hj x hx)).2.1 t hxd
              rw [put_get _ _ _ _ hne]
              exact hfill.new j hj x t hx hxd hts
        unfold wpList at h
        unfold wpOp
        simp only [ho]
        rw [ewa] at h
        split
        · rename_i hw
          simp only [hw, if_true] at h
          rcases h with h | ⟨_, h⟩
          · left
            unfold Oper.wp at h ⊢
            have h := tl_upon (T.kinds i o hn ho) hP h
            rw [eex] at h
            rcases h with ⟨v, w', hr, hk'⟩ | ⟨w', hr, hk'⟩
            · rw [hr]; exact hnext _ _ hk'
            · rw [hr]; exact hnext _ _ hk'
          · exact absurd h hO
        · rename_i hw
          simp only [hw] at h
          exact hnext _ _ h
def onlyN (Q : Exit → Act → World → Prop) : Exit → Act → World → Prop
  | .normal, a, w => Q .normal a w
  | _, _, _ => False
theorem onlyN_normal (Q : Exit → Act → World → Prop) (a : Act) (w : World) : onlyN Q .normal a w = Q .normal a w := rfl
theorem onlyN_out {Q : Exit → Act → World → Prop} : ¬ LetsOut (onlyN Q) := fun ⟨_, _, h⟩ => h
theorem float_fill {R : Nat → World → World → Prop} {C : Nat → World → Prop} {a0 : Act} {n0 : Nat} (T : FlText ops n0) {D : Nat → Value → World → Prop} (hT : ∀ j o, j < n0 → ops[j]? = some o → TurnG P ops n0 R C a0 D j o)
    {listed : Array Bool} {a : Act} {w : World} {vals : Nat → Value} (hC : ∀ j, listed.getD j false = false → C j w) (hn : ∀ j, listed.getD j false = true → j < n0)
    (hcl : ∀ (j : Nat) (o : Oper), ops[j]? = some o → listed.getD j false = true → ∀ e ∈ o.after, Region.binds .any e = true → listed.getD e.on false = true)
    (hd : Desc ops a0 (fun i => listed.getD i false = true) vals a) (hD : ∀ i, listed.getD i false = true → D i (vals i) w) (hF : ∀ i, i < n0 → ∀ o, ops[i]? = some o → listed.getD i false = false → isFl o = true) :
    ∀ m, m ≤ n0 → ∃ (vals' : Nat → Value) (b : Act), Desc ops a0 (fun i => listed.getD i false = true ∨ i < m) vals' b ∧ (∀ i, listed.getD i false = true → vals' i = vals i) ∧ (∀ i, i < m → D i (vals' i) w) ∧
      (∀ i, i < m → listed.getD i false = false → ∀ o, ops[i]? = some o → FlAt P ops o b (vals' i)) := by
  intro m
  induction m with
  | zero => exact fun _ => ⟨vals, a, hd.congr (fun i => by simp) fun _ _ => rfl, fun _ _ => rfl, fun i hi => absurd hi (Nat.not_lt_zero _), fun i hi => absurd hi (Nat.not_lt_zero _)⟩
  | succ m ih =>
    intro hm
    obtain ⟨vals', b, h1, h2, h3, h4⟩ := ih (by omega)
    have hms : m < ops.size := Nat.lt_of_lt_of_le hm T.le
    have ho : ops[m]? = some ops[m] := by simp [hms]
    cases hl : listed.getD m false with
    | true =>
      refine ⟨vals', b, h1.congr (fun i => ⟨fun h => h.imp id (by omega), fun h => ?_⟩) fun _ _ => rfl, h2, fun i hi => ?_, fun i hi hli => ?_⟩
      · rcases h with h | h
        · exact .inl h
        · by_cases e : i = m
          · subst e; exact .inl hl
          · exact .inr (by omega)
      · by_cases e : i = m
        · subst e; rw [h2 i hl]; exact hD i hl
        · exact h3 i (by omega)
      · by_cases e : i = m
        · subst e; rw [hl] at hli; cases hli
        · exact h4 i (by omega) hli
    | false =>
      have hfl := hF m hm _ ho hl
      have hturn := hT m _ hm ho b w vals' (fun i => listed.getD i false = true ∨ i < m) (hC m hl) h1 (fun i hi => hi.elim (hn i) (by omega)) (fun i hi him => h3 i him) (fun i hi => by
          obtain ⟨e, he, hb⟩ := waitsB_spec hi
          have := T.lex m _ ho e he hb.1
          exact .inr (by omega)) (fun i x hi hx => ⟨fun e => by
            subst e
            rcases hi with h | h
            · rw [hl] at h; cases h
            · omega, by
          cases hxw : waitsB x m with
          | false => rfl
          | true =>
            obtain ⟨e, he, hb⟩ := waitsB_spec hxw
            rcases hi with h | h
            · have := hcl i x hx h e he hb.1
              rw [hb.2, hl] at this; cases this
            · have := T.lex i x hx e he hb.1
              omega⟩)
      have hv : ∃ v, FlAt P ops ops[m] b v ∧ D m v w := by
        rcases hturn with ⟨hw, hat⟩ | ⟨hw, hdu⟩
        · unfold gAt at hat
          cases hr : (execOp b.eval ops[m]).run P w with
          | ok n w' =>
            obtain ⟨rfl, ⟨v, rfl⟩, hall⟩ := fl_run hfl hr
            rw [hr] at hat
            exact ⟨v, .inl ⟨hw, hall⟩, hat.2⟩
          | halt c w' => rw [hr] at hat; exact absurd hat (by simp [gOut])
        · exact ⟨undef, .inr ⟨hw, rfl⟩, hdu⟩
      obtain ⟨v, hv1, hv2⟩ := hv
      have hself : ∀ t, ops[m].dst = some t → t ∉ ops[m].looksAt ops := fun t ht => T.war m m _ _ t (Nat.le_refl _) hm ho ho hfl hfl ht
      have hwar : ∀ i, i < m → listed.getD i false = false → ∀ o, ops[i]? = some o → ∀ t, ops[m].dst = some t → t ∉ o.looksAt ops := fun i hi hli o hoi t ht => T.war i m _ _ t (by omega) hm hoi ho (hF i (by omega) o hoi hli) hfl ht
      refine ⟨fun i => if i = m then v else vals' i, b.put ops[m].dst v, ?_, fun i hi => ?_, fun i hi => ?_, fun i hi hli o hoi => ?_⟩
      · have g1 := h1.congr (S' := fun i => listed.getD i false = true ∨ i < m) (vals' := fun i => if i = m then v else vals' i) (fun _ => Iff.rfl) (fun i hi => by
          have : ¬ i = m := fun e => by
            subst e
            rcases hi with h | h
            · rw [hl] at h; cases h
            · omega
          simp only [this, if_false])
        have g2 := g1.put (j := m) ho fun i x d hi hne hx hd' => by
          have hi' : i < n0 := hi.elim (hn i) (by omega)
          rcases Nat.lt_or_ge i m with hlt | hge
          · exact T.dist i m x _ d hlt hm hx ho hd'
          · intro e
            exact T.dist m i _ x d (by omega) hi' ho hx e hd'
        simp only [if_true] at g2
        refine g2.congr (fun i => ⟨fun h => ?_, fun h => ?_⟩) fun _ _ => rfl
        · rcases h with (h | h) | h
          · exact .inl h
          · exact .inr (by omega)
          · exact .inr (by omega)
        · rcases h with h | h
          · exact .inl (.inl h)
          · by_cases e : i = m
            · exact .inr e
            · exact .inl (.inr (by omega))
      · have : ¬ i = m := fun e => by subst e; rw [hl] at hi; cases hi
        simp only [this, if_false]
        exact h2 i hi
      · by_cases e : i = m
        · subst e; simp only [if_true]; exact hv2
        · simp only [e, if_false]; exact h3 i (by omega)
      · by_cases e : i = m
        · subst e
          rw [ho] at hoi; cases hoi
          simp only [if_true]
          exact hv1.agree (T.sel i _ · · ho) fun t ht => (put_get _ _ _ _ fun e => hself t e ht).symm
        · simp only [e, if_false]
          exact (h4 i (by omega) hli o hoi).agree (T.sel i o · · hoi) fun t ht => (put_get _ _ _ _ fun e' => hwar i (by omega) hli o hoi t e' ht).symm
theorem wpAny_gf {R Kc : Nat → World → World → Prop} {C : Nat → World → Prop} {I : (Nat → Prop) → World → Prop} (hIC : ∀ S w j, I S w → ¬ S j → C j w) (hIR : ∀ S w w' j, I S w → ¬ S j → R j w w' → I (fun i => S i ∨ i = j) w') (hRr : ∀ j w, R j w w) (hRK : ∀ k j w w', j ≠ k → R j w w' → Kc k w w') {a0 : Act} {n0 : Nat} (T : FlText ops n0) {D : Nat → Value → World → Prop} {Q Q' : Exit → Act → World → Prop} (hQ : ∀ a w, Q' .normal a w → Q .normal a w) (hP : ∀ c a w, ¬ Q' (.panic c) a w) (hO : ¬ LetsOut Q')
    (hU : ∀ i, i < n0 → ∀ v w w', D i v w → Kc i w w' → D i v w') (hT : ∀ j o, j < n0 → ops[j]? = some o → TurnG P ops n0 R C a0 D j o)
    (hZ : ∀ (b : Act) (w : World) (vals : Nat → Value), C n0 w → Desc ops a0 (fun i => i < n0) vals b → (∀ i, i < n0 → D i (vals i) w) → wpList P ops Q' (ops.toList.drop n0) b w) :
    ∀ (fuel : Nat) (L : List Nat) (listed : Array Bool) (a : Act) (w : World) (vals : Nat → Value), L.length + (ops.size - n0) ≤ fuel → (∀ i, i < n0 → listed.getD i true = false → i ∈ L) → (∀ i ∈ L, i < n0 ∧ listed.getD i true = false) → listed.size = ops.size →
      (∀ i, n0 ≤ i → i < ops.size → listed.getD i true = false) → (∀ j o, ops[j]? = some o → listed.getD j false = true → ∀ e ∈ o.after, Region.binds .any e = true → listed.getD e.on false = true) →
      I (fun i => listed.getD i false = true) w → Desc ops a0 (fun i => listed.getD i false = true) vals a → (∀ i, listed.getD i false = true → D i (vals i) w) → wpAny P .any ops Q fuel listed a w := by
  intro fuel
  induction fuel with
  | zero =>
    intro L listed a w vals hL hun hLm hsz htl hcl hC hd hD
    have hSn : ∀ j, listed.getD j false = true → j < n0 := fun j hj => by
      rcases Nat.lt_or_ge j n0 with h | h
      · exact h
      · rcases Nat.lt_or_ge j ops.size with his | his
        · have := getD_both (htl j h his); simp_all
        · rw [Array.getD_eq_getD_getElem?, Array.getElem?_eq_none (by omega)] at hj; cases hj
    have hL0 : L = [] := List.length_eq_zero_iff.1 (by omega)
    have hall : ∀ i, i < n0 → ∀ o, ops[i]? = some o → listed.getD i false = false → isFl o = true := fun i hi o ho hf => by
      have := hun i hi (getD_in (by have := T.le; omega) hf)
      rw [hL0] at this; cases this
    exact (by
      have hnot : listed.getD n0 false = false := by
        cases h : listed.getD n0 false with
        | false => rfl
        | true => exact absurd (hSn n0 h) (Nat.lt_irrefl _)
      obtain ⟨vals', b, g1, g2, g3, g4⟩ := float_fill (D := D) T hT (fun j hj => hIC _ w j hC (by rw [hj]; simp)) hSn hcl hd hD hall n0 (Nat.le_refl _)
      have gd : Desc ops a0 (fun i => i < n0) vals' b := g1.congr (fun i => ⟨fun h => h.elim (hSn i) id, fun h => .inr h⟩) fun _ _ => rfl
      have hz := hZ b w vals' (hIC _ w n0 hC (by rw [hnot]; simp)) gd g3
      refine wpAny_fl T hQ hP hO 0 (ops.toList.drop n0) n0 L vals' listed a b w (Nat.le_refl _) (by have := T.le; simp; omega) (by rw [List.length_drop, Array.length_toList]; omega) (fun j hj => by simp) hsz hun hLm (fun i h1 h2 => by omega) htl hcl (fun i hi o ho => ?_) ?_ hz
      · have hl := getD_both (hLm i hi).2
        exact ⟨hall i (hLm i hi).1 o ho hl, g4 i (hLm i hi).1 hl o ho⟩
      · refine ⟨gd.defers.trans hd.defers.symm, gd.size.trans hd.size.symm, fun t ht => gd.agree hd t fun i o ho hdst => ⟨⟨fun hi => ?_, hSn i⟩, fun hi => ?_⟩, fun i hi o t ho hdst hts => gd.new t i o (hLm i hi).1 ho hdst (by rw [← hd.size]; exact hts)⟩
        · cases hx : listed.getD i false with
          | true => rfl
          | false => exact absurd hdst (ht i (hun i hi (getD_in (by have := T.le; omega) hx)) o ho)
        · refine g2 i ?_
          cases hx : listed.getD i false with
          | true => rfl
          | false => exact absurd hdst (ht i (hun i hi (getD_in (by have := T.le; omega) hx)) o ho))
  | succ fuel ih =>
    intro L listed a w vals hL hun hLm hsz htl hcl hC hd hD
    have hSn : ∀ j, listed.getD j false = true → j < n0 := fun j hj => by
      rcases Nat.lt_or_ge j n0 with h | h
      · exact h
      · rcases Nat.lt_or_ge j ops.size with his | his
        · have := getD_both (htl j h his); simp_all
        · rw [Array.getD_eq_getD_getElem?, Array.getElem?_eq_none (by omega)] at hj; cases hj
    by_cases hall : ∀ i, i < n0 → ∀ o, ops[i]? = some o → listed.getD i false = false → isFl o = true
    · exact (by
        have hnot : listed.getD n0 false = false := by
          cases h : listed.getD n0 false with
          | false => rfl
          | true => exact absurd (hSn n0 h) (Nat.lt_irrefl _)
        obtain ⟨vals', b, g1, g2, g3, g4⟩ := float_fill (D := D) T hT (fun j hj => hIC _ w j hC (by rw [hj]; simp)) hSn hcl hd hD hall n0 (Nat.le_refl _)
        have gd : Desc ops a0 (fun i => i < n0) vals' b := g1.congr (fun i => ⟨fun h => h.elim (hSn i) id, fun h => .inr h⟩) fun _ _ => rfl
        have hz := hZ b w vals' (hIC _ w n0 hC (by rw [hnot]; simp)) gd g3
        refine wpAny_fl T hQ hP hO (fuel + 1) (ops.toList.drop n0) n0 L vals' listed a b w (Nat.le_refl _) (by have := T.le; simp; omega) (by rw [List.length_drop, Array.length_toList]; omega) (fun j hj => by simp) hsz hun hLm (fun i h1 h2 => by omega) htl hcl (fun i hi o ho => ?_) ?_ hz
        · have hl := getD_both (hLm i hi).2
          exact ⟨hall i (hLm i hi).1 o ho hl, g4 i (hLm i hi).1 hl o ho⟩
        · refine ⟨gd.defers.trans hd.defers.symm, gd.size.trans hd.size.symm, fun t ht => gd.agree hd t fun i o ho hdst => ⟨⟨fun hi => ?_, hSn i⟩, fun hi => ?_⟩, fun i hi o t ho hdst hts => gd.new t i o (hLm i hi).1 ho hdst (by rw [← hd.size]; exact hts)⟩
          · cases hx : listed.getD i false with
            | true => rfl
            | false => exact absurd hdst (ht i (hun i hi (getD_in (by have := T.le; omega) hx)) o ho)
          · refine g2 i ?_
            cases hx : listed.getD i false with
            | true => rfl
            | false => exact absurd hdst (ht i (hun i hi (getD_in (by have := T.le; omega) hx)) o ho))
    · -- the least one that is neither listed nor floating, or one ahead of it, is ready; whatever is ready lies in the head
      have hready : Region.ready .any ops listed ≠ [] ∧ ∀ i ∈ Region.ready .any ops listed, i < n0 := by
        obtain ⟨m, hm, hmn, hmin⟩ : ∃ m, m < n0 ∧ listed.getD m false = false ∧ ∀ i, i < m → listed.getD i false = true := by
          have : ∀ d, (∀ i, i < d → listed.getD i false = true) ∨ ∃ m, m < d ∧ listed.getD m false = false ∧ ∀ i, i < m → listed.getD i false = true := by
            intro d
            induction d with
            | zero => exact .inl fun i hi => absurd hi (Nat.not_lt_zero _)
            | succ d ihd =>
              rcases ihd with h | ⟨m, h1, h2⟩
              · cases hx : listed.getD d false with
                | false => exact .inr ⟨d, by omega, hx, h⟩
                | true =>
                  refine .inl fun i hi => ?_
                  rcases Nat.lt_or_ge i d with h' | h'
                  · exact h i h'
                  · have hid : i = d := by omega
                    rw [hid]; exact hx
              · exact .inr ⟨m, by omega, h2⟩
          rcases this n0 with h | h
          · exact absurd (fun i hi o ho hf => by rw [h i hi] at hf; cases hf) hall
          · exact h
        have hms : m < ops.size := Nat.lt_of_lt_of_le hm T.le
        have hmt : listed.getD m true = false := getD_in (by omega) hmn
        refine ⟨fun hr => ?_, fun i hi => ?_⟩
        · have : m ∈ Region.ready .any ops listed := mem_ready.2 ⟨hmt, ops[m], by simp [hms], fun e he hb => hmin _ (T.lex m _ (by simp [hms]) e he hb)⟩
          rw [hr] at this; cases this
        · obtain ⟨_, o, ho, hal⟩ := mem_ready.1 hi
          rcases Nat.lt_or_ge i n0 with h | h
          · exact h
          · exfalso
            refine hall fun j hj x hx hjl => ?_
            rcases T.tail j i x o (by omega) h hx ho with hr | ⟨_, hf, _⟩
            · have := reach_listed hcl 3 i j hr (fun y hy => by rw [ho] at hy; cases hy; exact hal)
              rw [hjl] at this; cases this
            · exact hf
      refine ⟨fun hr => absurd hr hready.1, fun i hi => ?_⟩
      have hin := hready.2 i hi
      obtain ⟨hunl, o, ho, hal⟩ := mem_ready.1 hi
      have his : i < ops.size := (Array.getElem?_eq_some_iff.1 ho).1
      have hilf : listed.getD i false = false := getD_both hunl
      have hturn := hT i o hin ho a w vals (fun j => listed.getD j false = true) (hIC _ w i hC (by rw [hilf]; simp)) hd hSn (fun j hj _ => hD j hj) (fun j hj => by
        obtain ⟨e, he, hb⟩ := waitsB_spec hj
        rw [← hb.2]; exact hal e he hb.1) (fun j x hj hx => ⟨fun hji => (by subst hji; rw [hilf] at hj; cases hj), by
        cases hxw : waitsB x i with
        | false => rfl
        | true =>
          obtain ⟨e, he, hb⟩ := waitsB_spec hxw
          have := hcl j x hx hj e he hb.1
          rw [hb.2, hilf] at this
          cases this⟩)
      -- what follows, the value being v, the world w'
      have hnext : ∀ v w', R i w w' → D i v w' → wpAny P .any ops Q fuel (listed.setIfInBounds i true) (a.put o.dst v) w' := by
        intro v w' hu hv
        refine ih (L.filter fun j => j ≠ i) (listed.setIfInBounds i true) _ w' (fun j => if j = i then v else vals j) ?_ ?_ ?_ (by simp [hsz]) ?_ ?_ (by have h1 := hIR _ w w' i hC (by rw [hilf]; simp) hu; have e : (fun j => listed.getD j false = true ∨ j = i) = (fun j => (listed.setIfInBounds i true).getD j false = true) := (by funext j; by_cases hji : j = i; (· subst hji; simp [hsz, his]); (· rw [getD_set_ne false (Ne.symm hji)]; simp [hji])); rw [e] at h1; exact h1) ?_ ?_
        · have hmem := hun i hin hunl
          have : (L.filter fun j => decide (j ≠ i)).length < L.length := List.length_filter_lt_length_iff_exists.2 ⟨i, hmem, by simp⟩
          omega
        · intro j hj hjl
          by_cases hji : j = i
          · subst hji; simp [hsz, his] at hjl
          · rw [getD_set_ne true (Ne.symm hji)] at hjl
            exact List.mem_filter.2 ⟨hun j hj hjl, by simpa using hji⟩
        · intro j hj
          obtain ⟨hj1, hj2⟩ := List.mem_filter.1 hj
          have hji : j ≠ i := by simpa using hj2
          exact ⟨(hLm j hj1).1, by rw [getD_set_ne true (Ne.symm hji)]; exact (hLm j hj1).2⟩
        · intro j hj hjs
          rw [getD_set_ne true (by omega)]; exact htl j hj hjs
        · intro j x hx hjl e he hb
          by_cases hji : j = i
          · subst hji
            rw [ho] at hx; cases hx
            exact getD_set_true (hal e he hb)
          · rw [getD_set_ne false (Ne.symm hji)] at hjl
            exact getD_set_true (hcl j x hx hjl e he hb)
        · have h1 := hd.congr (S' := fun j => listed.getD j false = true) (vals' := fun j => if j = i then v else vals j) (fun _ => Iff.rfl) (fun j hj => by
            have : ¬ j = i := fun h => by subst h; rw [hilf] at hj; cases hj
            simp only [this, if_false])
          have h2 := h1.put (j := i) ho fun j x d hj hne hx hd' => by
            rcases Nat.lt_or_ge j i with hl | hl
            · exact T.dist j i x o d hl hin hx ho hd'
            · intro e
              exact T.dist i j o x d (by omega) (hSn j hj) ho hx e hd'
          simp only [if_true] at h2
          refine h2.congr (fun j => ?_) (fun _ _ => rfl)
          by_cases hji : j = i
          · subst hji; simp [hsz, his]
          · rw [getD_set_ne false (Ne.symm hji)]; simp [hji]
        · intro j hj
          by_cases hji : j = i
          · subst hji; simp only [if_true]; exact hv
          · rw [getD_set_ne false (Ne.symm hji)] at hj
            simp only [hji, if_false]
            exact hU j (hSn j hj) _ _ _ (hD j hj) (hRK j i _ _ (fun e => hji e.symm) hu)
      unfold wpOp
      simp only [ho]
      rcases hturn with ⟨hw, hat⟩ | ⟨hw, hdu⟩
      · simp only [hw, if_true]
        exact .inl (hat.wp hnext)
      · simp only [hw, Bool.false_eq_true, if_false]
        exact hnext undef w (hRr i w) hdu
end
end Go.Proofs.YtekogcjdaolcbaaGreatDoor

/- A region whose order is open, whose calls draw from the reader (they write its place alone) or only make memory: walked once in the order of the text. Conditions: those of the theorem wp_region_rd. -/
namespace Go.Proofs.YtekogcjdaolcbaaGreatDoor
open Go Go.RowKit
def RdBy (rb : Nat) (w : World) (v : Value) : Prop := ∃ (l : List UInt8) (a : Option Addr) (cap : Nat), v = .slice a l.length cap ∧ l.length ≤ 2000 ∧ l.length ≤ cap ∧ cap ≤ maxLen ∧
  (0 < l.length → ∃ b off, a = some ⟨b, off, none⟩ ∧ b < w.heap.size ∧ b ≠ rb ∧ ∀ i x, l[i]? = some x → w.cell? ⟨b, off + i, none⟩ = some (.int .u8 x.toNat))
def Rdr (rb : Nat) (B : Value) (w : World) (N : Nat) : Prop := (∃ p : Nat, p ≤ N ∧ w.heap[rb]? = some (.cells #[B, .int .i64 p] 118)) ∧ RdBy rb w B
theorem RdBy.gr {rb : Nat} {w w' : World} {v : Value} (h : RdBy rb w v) (hg : w.grownBy w' (some rb)) : RdBy rb w' v := by
  obtain ⟨l, a, cap, h1, h2, h3, h4, h5⟩ := h
  refine ⟨l, a, cap, h1, h2, h3, h4, fun hp => ?_⟩
  obtain ⟨b, off, e1, e2, e3, e4⟩ := h5 hp
  exact ⟨b, off, e1, Nat.lt_of_lt_of_le e2 hg.size, e3, fun i x hi => ((gcell hg).1 b _ e2 (fun e => e3 (Option.some.inj e))).trans (e4 i x hi)⟩
theorem Rdr.lt {rb : Nat} {B : Value} {w : World} {N : Nat} (h : Rdr rb B w N) : rb < w.heap.size := by
  obtain ⟨⟨p, _, h1⟩, _⟩ := h
  exact (Array.getElem?_eq_some_iff.1 h1).1
theorem Rdr.up {rb : Nat} {B : Value} {w w' : World} {N : Nat} (h : Rdr rb B w N) (hu : Up w w') : Rdr rb B w' N := by
  obtain ⟨⟨p, h1, h2⟩, h3⟩ := h
  exact ⟨⟨p, h1, box_up hu h2⟩, h3.gr (up_grownBy hu _)⟩
theorem Rdr.mono {rb : Nat} {B : Value} {w : World} {N M : Nat} (h : Rdr rb B w N) (hn : N ≤ M) : Rdr rb B w M := by
  obtain ⟨⟨p, h1, h2⟩, h3⟩ := h
  exact ⟨⟨p, Nat.le_trans h1 hn, h2⟩, h3⟩
def RdUp (rb : Nat) (B : Value) (c : Nat) (w w' : World) : Prop := w.grownBy w' (some rb) ∧ ∀ N, Rdr rb B w N → Rdr rb B w' (N + c)
theorem RdUp.refl (rb : Nat) (B : Value) (c : Nat) (w : World) : RdUp rb B c w w := ⟨grownBy_refl _ _, fun N h => h.mono (by omega)⟩
theorem RdUp.trans {rb : Nat} {B : Value} {c d : Nat} {w1 w2 w3 : World} (h : RdUp rb B c w1 w2) (k : RdUp rb B d w2 w3) : RdUp rb B (c + d) w1 w3 :=
  ⟨grownBy_trans h.1 k.1, fun N hN => (k.2 _ (h.2 N hN)).mono (by omega)⟩
theorem RdUp.of {rb : Nat} {B : Value} {c : Nat} {w w' : World} (h : Up w w') : RdUp rb B c w w' := ⟨up_grownBy h _, fun N hN => (hN.up h).mono (by omega)⟩
theorem RdUp.mono {rb : Nat} {B : Value} {c d : Nat} {w w' : World} (h : RdUp rb B c w w') (hc : c ≤ d) : RdUp rb B d w w' := ⟨h.1, fun N hN => (h.2 N hN).mono (by omega)⟩
theorem up_grownR {a w w' : World} (h : Up a w) {b : Nat} (hg : w.grownBy w' (some b)) (hb : a.heap.size ≤ b) : Up a w' := Below.grown h hg h.size (fun k hk => by cases hk; exact hb)
theorem RdUp.up {rb : Nat} {B : Value} {c : Nat} {w0 w w' : World} (h : RdUp rb B c w w') (hu : Up w0 w) (hr : w0.heap.size ≤ rb) : Up w0 w' := up_grownR hu h.1 hr
open Classical in
noncomputable def unS : Nat → (Nat → Prop) → Nat
  | 0, _ => 0
  | n + 1, S => unS n S + if S n then 0 else 1
open Classical in
theorem unS_same {n : Nat} {S : Nat → Prop} {j : Nat} (h : n ≤ j) : unS n (fun i => S i ∨ i = j) = unS n S := by
  induction n with
  | zero => rfl
  | succ n ih =>
    have hne : ¬ n = j := by omega
    simp only [unS, ih (by omega), hne, or_false]
open Classical in
theorem unS_less {n : Nat} {S : Nat → Prop} {j : Nat} (h : j < n) (hj : ¬ S j) : unS n (fun i => S i ∨ i = j) + 1 = unS n S := by
  induction n with
  | zero => omega
  | succ n ih =>
    by_cases e : n = j
    · subst e
      simp only [unS, unS_same (Nat.le_refl _), or_true, if_true, hj, if_false]
    · have := ih (by omega)
      simp only [unS, e, or_false]
      omega
theorem unS_le (n : Nat) (S : Nat → Prop) : unS n S ≤ n := by
  induction n with
  | zero => exact Nat.le_refl _
  | succ n ih =>
    simp only [unS]
    split <;> omega
def rC (wr : World) (rb : Nat) (B : Value) (M : Nat) (j : Nat) (w : World) : Prop := wr.grownBy w (some rb) ∧ Rdr rb B w M
def rR (rb : Nat) (B : Value) (n0 c : Nat) (j : Nat) (w w' : World) : Prop := RdUp rb B (if j < n0 then c else 0) w w'
def rK (rb : Nat) (j : Nat) (w w' : World) : Prop := w.grownBy w' (some rb)
section
variable {P : Program} {ops : Array Oper}
structure WR (P : Program) (ops : Array Oper) (wr : World) (rb : Nat) (B : Value) (n0 c M : Nat) (Z : Act → World → Prop) (l : List Oper) (k : Nat) (E : List Mk) (a : Act) : Prop where
  out : wpG P ops (rR rb B n0 c) (rK rb) (rC wr rb B M) Z l k E a
theorem wp_region_rd (n0 rb : Nat) (B : Value) (c N0 : Nat) {id : Nat} {Q : Exit → Act → World → Prop} {a : Act} {w : World} {l : List Oper} (hm : P.follows .mixedOrders = true) (hB : flB l.toArray n0 = true) (hr : Rdr rb B w N0)
    (h : WR P l.toArray w rb B n0 c (N0 + c * n0) (fun a' w' => wpList P l.toArray (onlyN Q) (l.drop n0) a' w') (l.take n0) 0 [] a) : (Code.region id l.toArray true).wp P Q a w := by
  have T := flB_text hB
  have hle : n0 ≤ l.length := by simpa using T.le
  obtain ⟨D, hU, hT, hZ⟩ := wpF_text (R := rR rb B n0 c) (Kc := rK rb) (C := rC w rb B (N0 + c * n0)) (Z := fun a' w' => wpList P l.toArray (onlyN Q) (l.drop n0) a' w') (a0 := a) (n0 := n0) T (l.take n0) 0 [] a (fun _ => False) (fun _ => undef) (fun _ _ _ => False) (by simp [hle]) (fun j hj => by
    simp only [List.length_take] at hj
    simp [show j < n0 by omega]) ⟨(Desc.refl a (fun _ => undef)).congr (fun i => by simp) (fun _ h => h.elim), fun i hi => absurd hi (Nat.not_lt_zero _), fun m hm => (by cases hm), fun i hi => absurd hi (Nat.not_lt_zero _)⟩
    (fun i hi => absurd hi (Nat.not_lt_zero _)) (fun j o hj => absurd hj (Nat.not_lt_zero _)) h.out
  refine wp_region_any hm (wpAny_gf (R := rR rb B n0 c) (Kc := rK rb) (C := rC w rb B (N0 + c * n0)) (I := fun S w' => w.grownBy w' (some rb) ∧ ∃ N, Rdr rb B w' N ∧ N + c * unS n0 S ≤ N0 + c * n0) (fun S w' j hI hS => ?_) (fun S w1 w2 j hI hS hR => ?_) (fun j w' => ?_) (fun k j w1 w2 hne hR => ?_) (a0 := a) (Q := Q) (Q' := onlyN Q) T (fun _ _ h => h) (fun _ _ _ h => h) onlyN_out hU hT (by simpa using hZ) _ (List.range n0) _ a _ (fun _ => undef) (by simp; omega) (fun i hi _ => List.mem_range.2 hi) (fun i hi => ?_) (by simp) (fun i hi his => by
    have : i < l.length := by simpa using his
    simp [this]) (fun j o ho hj => ?_) ?_ ?_ ?_)
  · obtain ⟨h1, N, h2, h3⟩ := hI
    exact ⟨h1, h2.mono (by omega)⟩
  · obtain ⟨h1, N, h2, h3⟩ := hI
    unfold rR at hR
    refine ⟨grownBy_trans h1 hR.1, _, hR.2 N h2, ?_⟩
    by_cases hj : j < n0
    · rw [if_pos hj]
      have := unS_less hj hS
      rw [← this, Nat.mul_add, Nat.mul_one] at h3
      omega
    · rw [if_neg hj, unS_same (by omega)]
      omega
  · unfold rR
    exact RdUp.refl _ _ _ _
  · exact hR.1
  · have hin := List.mem_range.1 hi
    have : i < l.length := by omega
    exact ⟨hin, by simp [this]⟩
  · rw [getD_replicate_false] at hj; cases hj
  · have hu := Up.drew (Up.refl w)
    have := unS_le n0 (fun i => ((Array.replicate l.toArray.size false).getD i false = true))
    refine ⟨up_grownBy hu _, N0, hr.up hu, ?_⟩
    have := Nat.mul_le_mul_left c this
    omega
  · exact (Desc.refl a (fun _ => undef)).congr (fun i => by rw [getD_replicate_false]; simp) (fun _ h => h.elim)
  · intro i hi; rw [getD_replicate_false] at hi; cases hi
section
variable {wr : World} {rb : Nat} {B : Value} {n0 c M : Nat} {Z : Act → World → Prop} {o : Oper} {rest : List Oper} {k : Nat} {E : List Mk} {a : Act}
def stepR (P : Program) (ops : Array Oper) (wr : World) (rb : Nat) (B : Value) (n0 c M : Nat) (E : List Mk) (k : Nat) (o : Oper) (a : Act) (K : List Mk → Act → Prop) : Prop :=
  (∃ v, (∀ w, rC wr rb B M k w → fills (E.filter fun m => waitsB o m.1) a w (fun a' => gAt P (rR rb B n0 c k) o a' w (fun v' _ => v' = v))) ∧ K E (a.put o.dst v)) ∨
  (∃ D, guardFree ops k = true ∧ (∀ v w w', D v w → rK rb k w w' → D v w') ∧ (∀ w, rC wr rb B M k w → fills (E.filter fun m => waitsB o m.1) a w (fun a' => gAt P (rR rb B n0 c k) o a' w D)) ∧ K ((k, o.dst, D) :: E) a)
theorem wpR_step (h : ∀ K : List Mk → Act → Prop, (∀ E a, WR P ops wr rb B n0 c M Z rest (k + 1) E a → K E a) → if Region.wanted o (yielded ops a.tmps) then stepR P ops wr rb B n0 c M E k o a K else K E (a.put o.dst undef)) : WR P ops wr rb B n0 c M Z (o :: rest) k E a := by
  have := h (fun E a => wpG P ops (rR rb B n0 c) (rK rb) (rC wr rb B M) Z rest (k + 1) E a) fun _ _ h => h.out
  refine ⟨?_⟩
  unfold wpG
  exact this
theorem gAt_rd {o : Oper} {a : Act} {w : World} {D : Value → World → Prop} {R R' : World → World → Prop} (hR : ∀ w', R w w' → R' w w') (h : gAt P R o a w D) : gAt P R' o a w D := by
  unfold gAt at *
  generalize (execOp a.eval o).run P w = r at *
  cases r with
  | ok n w' =>
    cases n with
    | value v => exact ⟨hR _ h.1, h.2⟩
    | skip => exact ⟨hR _ h.1, h.2⟩
    | enter f args => exact ⟨h.1, h.2.mono fun e w'' ⟨v, he, h1, h2⟩ => ⟨v, he, hR _ h1, h2⟩⟩
    | _ => exact h
  | halt x w' => exact h
theorem stepR_c {K : List Mk → Act → Prop} (v : Value) (h1 : ∀ w, wr.grownBy w (some rb) → Rdr rb B w M → fills (E.filter fun m => waitsB o m.1) a w (fun a' => upAt P o a' w (fun v' _ => v' = v))) (h2 : K E (a.put o.dst v)) : stepR P ops wr rb B n0 c M E k o a K :=
  .inl ⟨v, fun w hC => fills_mono (fun a' h => gAt_rd (fun w' h => RdUp.of h) (gAt_up h)) (h1 w hC.1 hC.2), h2⟩
theorem stepR_m {K : List Mk → Act → Prop} (hg : guardFree ops k = true) (D : Value → World → Prop) (hD : ∀ v w w', D v w → w.grownBy w' (some rb) → D v w')
    (h1 : ∀ w, wr.grownBy w (some rb) → Rdr rb B w M → fills (E.filter fun m => waitsB o m.1) a w (fun a' => upAt P o a' w D)) (h2 : K ((k, o.dst, D) :: E) a) : stepR P ops wr rb B n0 c M E k o a K :=
  .inr ⟨D, hg, hD, fun w hC => fills_mono (fun a' h => gAt_rd (fun w' h => RdUp.of h) (gAt_up h)) (h1 w hC.1 hC.2), h2⟩
theorem stepR_d {K : List Mk → Act → Prop} (hk : decide (k < n0) = true) (hg : guardFree ops k = true) (D : Value → World → Prop) (hD : ∀ v w w', D v w → w.grownBy w' (some rb) → D v w')
    (h1 : ∀ w, wr.grownBy w (some rb) → Rdr rb B w M → fills (E.filter fun m => waitsB o m.1) a w (fun a' => gAt P (RdUp rb B c) o a' w D)) (h2 : K ((k, o.dst, D) :: E) a) : stepR P ops wr rb B n0 c M E k o a K := by
  refine .inr ⟨D, hg, hD, fun w hC => ?_, h2⟩
  have e : rR rb B n0 c k = RdUp rb B c := by
    funext w w'; unfold rR; rw [if_pos (of_decide_eq_true hk)]
  rw [e]
  exact h1 w hC.1 hC.2
theorem wpR_nil (h : ∀ w, wr.grownBy w (some rb) → Rdr rb B w M → fills E a w (fun a' => Z a' w)) : WR P ops wr rb B n0 c M Z [] k E a := ⟨fun w hC => h w hC.1 hC.2⟩
end
end
def Drawn (rb : Nat) (B : Value) (c : Nat) (D : Value → Prop) (w : World) (e : Ending) (w' : World) : Prop := ∃ v, e = .returned v ∧ D v ∧ RdUp rb B c w w'
theorem gOut_drawn {P : Program} {rb : Nat} {B : Value} {c c' : Nat} {D : Value → Prop} {w : World} {f : FuncId} {args : Array Value} (h : Calls P f args w (Drawn rb B c' D w)) (hc : c' ≤ c) : gOut P (RdUp rb B c) (fun v _ => D v) w (.ok (.enter f args) w) :=
  ⟨rfl, h.mono fun e w' ⟨v, h1, h2, h3⟩ => ⟨v, h1, h3.mono hc, h2⟩⟩
def IsStr (n : Nat) (v : Value) : Prop := ∃ s : ByteArray, v = .string s ∧ s.size ≤ n
end Go.Proofs.YtekogcjdaolcbaaGreatDoor

/- Walks of the reference's reader. Conditions: the reader is one (Rdr), its place is bounded. -/
namespace Go.Proofs.YtekogcjdaolcbaaGreatDoor
open Go Go.RowKit
theorem xor_nat (a b : Nat) (ha : a < 2 ^ 62) (hb : b < 2 ^ 62) : bits .xor .i64 (a : Int) (b : Int) = ((a ^^^ b : Nat) : Int) := by
  have hp : (2 : Nat) ^ 62 ≤ 2 ^ IntKind.i64.bits := by decide
  have ha' : a % 2 ^ IntKind.i64.bits = a := Nat.mod_eq_of_lt (Nat.lt_of_lt_of_le ha hp)
  have hb' : b % 2 ^ IntKind.i64.bits = b := Nat.mod_eq_of_lt (Nat.lt_of_lt_of_le hb hp)
  have hx := Nat.xor_lt_two_pow ha hb
  simp only [bits, BitVec.ofInt_natCast, BitVec.toNat_xor, BitVec.toNat_ofNat, ha', hb']
  exact IntWalk.i64_in _ (by omega)
theorem xor_ok (x : Int) (h0 : 0 ≤ x) (h1 : x ≤ 4611686018427387903) : 0 ≤ bits .xor .i64 x (x / 64) := by
  obtain ⟨a, rfl⟩ := Int.eq_ofNat_of_zero_le h0
  have e : ((a : Int) / 64) = ((a / 64 : Nat) : Int) := by omega
  rw [e, xor_nat a (a / 64) (by omega) (by omega)]
  exact Int.natCast_nonneg _
def pickB (n : Int) (v : Value) : Prop := ∃ i : Int, v = .int .i64 i ∧ 0 ≤ i ∧ (i < n ∨ i = 0)
theorem Rdr.set {rb : Nat} {B : Value} {w : World} {p : Nat} (h : w.heap[rb]? = some (.cells #[B, .int .i64 p] 118)) : RdUp rb B 1 w (w.setCell ⟨rb, 1, none⟩ (.int .i64 (p + 1))) := by
  have hg : w.grownBy (w.setCell ⟨rb, 1, none⟩ (.int .i64 (p + 1))) (some rb) := grownBy_set (grownBy_refl w (some rb)) 1 _
  refine ⟨hg, fun N hN => ⟨⟨p + 1, ?_, ?_⟩, hN.2.gr hg⟩⟩
  · obtain ⟨⟨q, h1, h2⟩, _⟩ := hN
    rw [h] at h2
    simp at h2
    omega
  · have := box_set h 1 (.int .i64 (p + 1))
    simpa using this
set_option maxRecDepth 100000 in
set_option maxHeartbeats 2000000 in
theorem pick_any (rb : Nat) (B : Value) (n : Int) (w : World) (N : Nat) (h : Rdr rb B w N) (hN : N ≤ 1099511627776) :
    Calls Tryz.prog 31  #[.pointer (some ⟨rb, 0, none⟩), .int .i64 n] w (Drawn rb B 1 (pickB n) w) := by
  have hlt := h.lt
  obtain ⟨⟨p, hp, hh⟩, l, a, cap, rfl, hl1, hl2, hl3, hcells⟩ := h
  have r0 := box_cell hh 0
  have r1 := box_cell hh 1
  have hfr := box_free hh
  have HU := Lib.hid (Rdr.set hh)
  simp at r0 r1
  unfold maxLen at hl3
  clear hh
  by_cases h1 : n < 1
  · go_enter Tryz.func31, Tryz.ntmps31
    go_wp2
    go_ret
    exact ⟨_, rfl, ⟨0, rfl, Int.le_refl _, .inr rfl⟩, HU.out⟩
  · have hcl : ∀ q (hq : q < l.length), ∃ b off, a = some ⟨b, off, none⟩ ∧ b < w.heap.size ∧ (w.setCell ⟨rb, 1, none⟩ (.int .i64 (p + 1))).cell? ⟨b, off + q, none⟩ = some (.int .u8 l[q].toNat) := fun q hq => by
      obtain ⟨b, off, e1, e2, e3, e4⟩ := hcells (by omega)
      exact ⟨b, off, e1, e2, ((gcell HU.out.1).1 b _ e2 (fun e => e3 (Option.some.inj e))).trans (e4 q _ (List.getElem?_eq_getElem hq))⟩
    clear hcells
    by_cases h2 : l.length = 0
    · have h2' : (((l.length : Nat) : Int) == 0) = true := by simp [h2]
      have HZ := Lib.hid h2
      clear h2
      go_enter Tryz.func31, Tryz.ntmps31
      go_wp2
      go_ret
      exact ⟨_, rfl, ⟨0, rfl, Int.le_refl _, .inr rfl⟩, HU.out⟩
    · have h2' : (((l.length : Nat) : Int) == 0) = false := by simpa using h2
      have hl0 : 0 < l.length := by omega
      by_cases h3 : p < l.length
      · obtain ⟨b, off, rfl, hbl, hx⟩ := hcl p h3
        have hx1 := u8_bd l[p]
        have hx0 : (0 : Int) ≤ (l[p].toNat : Int) := Int.natCast_nonneg _
        generalize (l[p].toNat : Int) = x at *
        have hm0 : 0 ≤ x % n := Int.emod_nonneg _ (by omega)
        have hm1 : x % n < n := Int.emod_lt_of_pos _ (by omega)
        clear hcl
        go_enter Tryz.func31, Tryz.ntmps31
        go_wp2
        go_ret
        exact ⟨_, rfl, ⟨_, rfl, hm0, .inl hm1⟩, HU.out⟩
      · obtain ⟨b, off, rfl, hbl, hx⟩ := hcl (p % l.length) (Nat.mod_lt _ hl0)
        obtain ⟨b', off', e, hbl', hy⟩ := hcl ((p * 7 + 3) % l.length) (Nat.mod_lt _ hl0)
        cases e
        have hx1 := u8_bd (l[p % l.length]'(Nat.mod_lt _ hl0))
        have hx0 : (0 : Int) ≤ ((l[p % l.length]'(Nat.mod_lt _ hl0)).toNat : Int) := Int.natCast_nonneg _
        have hy1 := u8_bd (l[(p * 7 + 3) % l.length]'(Nat.mod_lt _ hl0))
        have hy0 : (0 : Int) ≤ ((l[(p * 7 + 3) % l.length]'(Nat.mod_lt _ hl0)).toNat : Int) := Int.natCast_nonneg _
        generalize ((l[p % l.length]'(Nat.mod_lt _ hl0)).toNat : Int) = x at *
        generalize ((l[(p * 7 + 3) % l.length]'(Nat.mod_lt _ hl0)).toNat : Int) = y at *
        have em : ((p : Int) % (l.length : Int)) = ((p % l.length : Nat) : Int) := by omega
        have hz : ∀ z : Nat, ((z : Int) % (l.length : Int)) = ((z % l.length : Nat) : Int) := fun z => by omega
        have em2 : (((p : Int) * 7 + 3) % (l.length : Int)) = (((p * 7 + 3) % l.length : Nat) : Int) := by rw [show ((p : Int) * 7 + 3) = ((p * 7 + 3 : Nat) : Int) by omega]; exact hz _
        clear hz
        have hq1 := Nat.mod_lt p hl0
        have hq2 := Nat.mod_lt (p * 7 + 3) hl0
        have hd : p / l.length ≤ p := Nat.div_le_self _ _
        have ed : ((p : Int) / (l.length : Int)) = ((p / l.length : Nat) : Int) := by omega
        generalize p % l.length = q1 at *
        generalize (p * 7 + 3) % l.length = q2 at *
        generalize p / l.length = q3 at *
        have hs0 : 0 ≤ x * 131 + y * 1117 + (p : Int) * 29 + (q3 : Int) * 53 := by omega
        have hs1 : x * 131 + y * 1117 + (p : Int) * 29 + (q3 : Int) * 53 ≤ 4611686018427387903 := by omega
        have hxo := xor_ok _ hs0 hs1
        clear hcl
        go_enter Tryz.func31, Tryz.ntmps31
        go_wp2
        refine wp_region_up 45 (by kernel_rfl) (by kernel_rfl) ?_
        simp only [List.take, List.drop]
        repeat (refine wpUp_step (fun K hK => ?_); go_simp; (try simp only [↓IntWalk.iteOmega]); first
          | (refine hK _ _ ?_; clear hK K)
          | (apply stepU_c
             · intro wq hwq; (have hbq := bcell hwq; (repeat (first | refine fills_no (by rfl) ?_ | refine fills_yes (by rfl) (fun vq hvq => ?_))); simp only [List.filter_nil, fills]; unfold upAt; go_simp; (try go_bits); (try simp only [↓IntWalk.iteOmega]); (try (rw [dif_pos (by omega)]; go_simp; try go_bits)); first | exact upOut_value)
             go_simp; refine hK _ _ ?_; clear hK K))
        refine wpUp_nil (fun wq hwq => ?_)
        simp only [fills]
        go_wp2
        go_ret
        exact ⟨_, rfl, ⟨_, rfl, Int.emod_nonneg _ (by omega), .inl (Int.emod_lt_of_pos _ (by omega))⟩, HU.out.trans (RdUp.of (c := 0) hwq)⟩
def RdInts (rb : Nat) (w : World) (v : Value) (l : List Int) : Prop := ∃ b off cap, v = .slice (some ⟨b, off, none⟩) l.length cap ∧ l.length ≤ cap ∧ cap ≤ maxLen ∧ b < w.heap.size ∧ b ≠ rb ∧ ∀ i x, l[i]? = some x → w.cell? ⟨b, off + i, none⟩ = some (.int .i64 x)
def oneOf (l : List Int) (v : Value) : Prop := ∃ i : Int, v = .int .i64 i ∧ i ∈ l
set_option maxRecDepth 100000 in
set_option maxHeartbeats 2000000 in
theorem num_any (rb : Nat) (B : Value) (l : List Int) (v : Value) (w : World) (N : Nat) (h : Rdr rb B w N) (hN : N ≤ 1099511627776) (hr : RdInts rb w v l) (hl : 0 < l.length) :
    Calls Tryz.prog 85  #[.pointer (some ⟨rb, 0, none⟩), v] w (Drawn rb B 1 (oneOf l) w) := by
  obtain ⟨b, off, cap, rfl, h1, h2, h3, h4, h5⟩ := hr
  have cP := fun wx h => pick_any rb B (l.length : Int) wx N h hN
  unfold maxLen at h2
  go_enter Tryz.func85, Tryz.ntmps85
  go_wp2_with (go_at_call 31; (with_reducible refine (cP _ h).mono ?_); rintro e w1 ⟨v1, rfl, ⟨i, rfl, hi0, hi1⟩, U1⟩; obtain ⟨j, rfl⟩ := Int.eq_ofNat_of_zero_le hi0; have hjl : j < l.length := (by omega); have hx := ((gcell U1.1).1 b (off + j) h3 (fun e => h4 (Option.some.inj e))).trans (h5 j l[j] (List.getElem?_eq_getElem hjl)))
  go_ret
  exact ⟨_, rfl, ⟨_, rfl, List.getElem_mem hjl⟩, U1⟩
set_option maxRecDepth 100000 in
theorem open_any (v : Value) (l : List UInt8) (w : World) (a : Option Addr) (cap : Nat) (hv : v = .slice a l.length cap) (h1 : l.length ≤ cap) (h2 : cap ≤ maxLen)
    (h3 : 0 < l.length → ∃ b off, a = some ⟨b, off, none⟩ ∧ b < w.heap.size ∧ ∀ i x, l[i]? = some x → w.cell? ⟨b, off + i, none⟩ = some (.int .u8 x.toNat)) :
    Calls Tryz.prog 28  #[v] w (fun e w' => ∃ B, e = .returned (.pointer (some ⟨w.heap.size, 0, none⟩)) ∧ Rdr w.heap.size B w' 0 ∧ Up w w') := by
  subst hv
  unfold maxLen at h2
  have HC := Lib.hid h3
  clear h3
  by_cases hl : l.length ≤ 2000
  · go_enter Tryz.func28, Tryz.ntmps28
    go_wp2
    go_ret
    refine ⟨.slice a l.length cap, rfl, ⟨⟨0, Nat.le_refl _, (MapKept.heap_alloc w _).1⟩, l, a, cap, rfl, hl, h1, by unfold maxLen; omega, fun hp => ?_⟩, (Up.refl _).alloc _⟩
    obtain ⟨b, off, e1, e2, e3⟩ := HC.out hp
    exact ⟨b, off, e1, by simp; omega, by omega, fun i x hi => ((Up.alloc (Up.refl w) _).cell (p := ⟨b, off + i, none⟩) e2).trans (e3 i x hi)⟩
  · have hlt : (l.take 2000).length = 2000 := by rw [List.length_take]; omega
    go_enter Tryz.func28, Tryz.ntmps28
    go_wp2
    go_ret
    refine ⟨.slice a 2000 cap, rfl, ⟨⟨0, Nat.le_refl _, (MapKept.heap_alloc w _).1⟩, l.take 2000, a, cap, by rw [hlt], by omega, by omega, by unfold maxLen; omega, fun hp => ?_⟩, (Up.refl _).alloc _⟩
    obtain ⟨b, off, e1, e2, e3⟩ := HC.out (by omega)
    refine ⟨b, off, e1, by simp; omega, by omega, fun i x hi => ((Up.alloc (Up.refl w) _).cell (p := ⟨b, off + i, none⟩) e2).trans (e3 i x ?_)⟩
    rw [List.getElem?_take] at hi
    split at hi
    · exact hi
    · cases hi
theorem RdUp.step {rb : Nat} {B : Value} {c : Nat} {w0 w w' : World} (h : RdUp rb B c w0 w) (hg : w0.grownBy w' (some rb)) (hrb : rb < w0.heap.size → w'.heap[rb]? = w.heap[rb]?) : RdUp rb B c w0 w' :=
  ⟨hg, fun N hN => by
    obtain ⟨p, h1, h2⟩ := (h.2 N hN).1
    exact ⟨⟨p, h1, (hrb hN.lt).trans h2⟩, hN.2.gr hg⟩⟩
theorem RdUp.alloc {rb : Nat} {B : Value} {c : Nat} {w0 w : World} (h : RdUp rb B c w0 w) (o : Obj) : RdUp rb B c w0 (w.alloc o) :=
  h.trans (d := 0) (RdUp.of ((Up.refl w).alloc o))
theorem RdUp.drew {rb : Nat} {B : Value} {c : Nat} {w0 w : World} (h : RdUp rb B c w0 w) : RdUp rb B c w0 w.drew :=
  h.trans (d := 0) (RdUp.of ((Up.refl w).drew))
theorem RdUp.ups {rb : Nat} {B : Value} {c : Nat} {w0 w w' : World} (h : RdUp rb B c w0 w) (hu : Up w w') : RdUp rb B c w0 w' := h.trans (d := 0) (RdUp.of hu)
theorem RdUp.set {rb : Nat} {B : Value} {c : Nat} {w0 w : World} (h : RdUp rb B c w0 w) {p : Addr} (hp : w0.heap.size ≤ p.block) (u : Value) : RdUp rb B c w0 (w.setCell p u) :=
  h.step ⟨h.1.os, h.1.tape, h.1.output, by simpa [World.setCell] using h.1.size, fun k hk hne => (Below.heap_setCell w p u k (by omega)).trans (h.1.block k hk hne)⟩ (fun hr => Below.heap_setCell w p u rb (by omega))
theorem RdUp.gr {rb : Nat} {B : Value} {c : Nat} {w0 w w' : World} (h : RdUp rb B c w0 w) {row : Option Nat} (hg : w.grownBy w' row) (hr : ∀ k, row = some k → w0.heap.size ≤ k) : RdUp rb B c w0 w' :=
  h.step ⟨hg.os.trans h.1.os, hg.tape.trans h.1.tape, hg.output.trans h.1.output, Nat.le_trans h.1.size hg.size, fun k hk hne => (hg.block k (Nat.lt_of_lt_of_le hk h.1.size) (fun e => by have := hr k e.symm; omega)).trans (h.1.block k hk hne)⟩
    (fun hlt => hg.block rb (Nat.lt_of_lt_of_le hlt h.1.size) (fun e => by have := hr rb e.symm; omega))
theorem RdUp.fin {rb : Nat} {B : Value} {c d : Nat} {w0 w1 w : World} (hU : RdUp rb B c w0 w1) (hx : ∀ c, RdUp rb B c w0 w1 → RdUp rb B c w0 w) (hc : c ≤ d) : RdUp rb B d w0 w := (hx c hU).mono hc
theorem pick_at {rb : Nat} {B : Value} {c N : Nat} {w0 w1 w : World} {n : Int} (h : Rdr rb B w0 N) (hU1 : RdUp rb B c w0 w1) (hx : ∀ c, RdUp rb B c w0 w1 → RdUp rb B c w0 w) (hN : N + c ≤ 1099511627776) :
    Calls Tryz.prog 31  #[.pointer (some ⟨rb, 0, none⟩), .int .i64 n] w (fun e w' => ∃ i : Int, e = .returned (.int .i64 i) ∧ 0 ≤ i ∧ (i < n ∨ i = 0) ∧ RdUp rb B (c + 1) w0 w' ∧ RdUp rb B 1 w w') :=
  (pick_any rb B n w (N + c) ((hx c hU1).2 N h) hN).mono fun e w' ⟨v, he, ⟨i, hv, h1, h2⟩, hu⟩ => ⟨i, by rw [he, hv], h1, h2, (hx c hU1).trans hu, hu⟩
theorem draw_at {rb : Nat} {B : Value} {c d N : Nat} {w0 w1 w : World} {D : Value → Prop} {f : FuncId} {args : Array Value} (hf : ∀ w N, Rdr rb B w N → N ≤ 1000000000 → Calls Tryz.prog f args w (Drawn rb B d D w)) (h : Rdr rb B w0 N) (hU1 : RdUp rb B c w0 w1) (hx : ∀ c, RdUp rb B c w0 w1 → RdUp rb B c w0 w) (hN : N + c ≤ 1000000000) :
    Calls Tryz.prog f args w (fun e w' => ∃ v, e = .returned v ∧ D v ∧ RdUp rb B (c + d) w0 w' ∧ RdUp rb B d w w') :=
  (hf w (N + c) ((hx c hU1).2 N h) hN).mono fun e w' ⟨v, he, h1, hu⟩ => ⟨v, he, h1, (hx c hU1).trans hu, hu⟩
theorem num_at {rb : Nat} {B : Value} {c N : Nat} {w0 w : World} {g n cap : Nat} {cs : Array Value} {T : TypeId} (l : List Int) (h : Rdr rb B w0 N) {w1 : World} (hU1 : RdUp rb B c w0 w1) (hx : ∀ c, RdUp rb B c w0 w1 → RdUp rb B c w0 w) (hN : N + c ≤ 1099511627776) (hg : g = w.heap.size) (hn : n = l.length) (hc : cap = n) (hl : 0 < l.length) (hl2 : l.length ≤ 100) (hcs : cs = (l.map (Value.int .i64)).toArray) :
    Calls Tryz.prog 85  #[.pointer (some ⟨rb, 0, none⟩), .slice (some ⟨g, 0, none⟩) n cap] (w.alloc (.cells cs T)) (fun e w' => ∃ i : Int, e = .returned (.int .i64 i) ∧ i ∈ l ∧ RdUp rb B (c + 1) w0 w' ∧ RdUp rb B 1 (w.alloc (.cells cs T)) w') := by
  subst hg hn hc hcs
  have hU := hx c hU1
  have hr := hU.2 N h
  have hlt := hr.lt
  refine (num_any rb B l (.slice (some ⟨w.heap.size, 0, none⟩) l.length l.length) (w.alloc (.cells (l.map (Value.int .i64)).toArray T)) (N + c) ((hU.alloc _).2 N h) hN ⟨w.heap.size, 0, l.length, rfl, Nat.le_refl _, by unfold maxLen; omega, by simp, by omega, fun i x hi => ?_⟩ hl).mono fun e w' ⟨v, he, ⟨i, hv, h1⟩, hu⟩ => ⟨i, by rw [he, hv], h1, (hU.alloc _).trans hu, hu⟩
  rw [box_cell (MapKept.heap_alloc w _).1, Nat.zero_add]
  simp [hi]
end Go.Proofs.YtekogcjdaolcbaaGreatDoor

