/- A region whose order is open, in which moves and extracts may come behind the stores at its end: its head is walked once in the order of the text, then its tail. Conditions: those of the theorems. -/
import Derived.Test.YtmjpopfacagjhaaDoorUg
namespace Go.Proofs.YtmjpopfacagjhaaDoor
set_option linter.unusedVariables false
set_option linter.unusedSimpArgs false
open Go Go.RowKit

section
variable {P : Program} {ops : Array Oper}

def isFl (o : Oper) : Bool := match o.op with
  | .move _ => true
  | .extract _ _ => true
  | _ => false
def isTl (o : Oper) : Bool := match o.op with
  | .move _ => true
  | .assign _ => true
  | .extract _ _ => true
  | .store _ _ _ => true
  | _ => false
/-- What a floating operation does does not hang on the world. -/
theorem fl_run {o : Oper} (h : isFl o = true) {ρ : Operand → Value} {w w' : World} {n : Next} (hr : (execOp ρ o).run P w = .ok n w') : w' = w ∧ (∃ v, n = .value v) ∧ ∀ w2, (execOp ρ o).run P w2 = .ok n w2 := by
  unfold isFl at h
  unfold execOp at hr ⊢
  split at h
  · next x hx =>
    simp only [hx, Sem.run_pure] at hr ⊢
    cases hr
    exact ⟨rfl, ⟨_, rfl⟩, fun _ => rfl⟩
  · next t i hx =>
    simp only [hx, Sem.run_bind] at hr ⊢
    cases ht : ρ t with
    | tuple vs =>
      simp only [ht] at hr ⊢
      unfold Instr.extract at hr ⊢
      cases hv : vs[i]? with
      | none => simp [hv, stuck] at hr
      | some v => simp [hv] at hr ⊢; exact ⟨hr.2.symm, ⟨v, hr.1.symm⟩, hr.1⟩
    | _ => simp [ht, Instr.extract, stuck] at hr
  · cases h
/-- The kinds of a tail's operations only give a value or nothing. -/
theorem tl_upon {o : Oper} (h : isTl o = true) {a : Act} {w : World} {next : Act → World → Prop} {Q : Exit → Act → World → Prop} (hq : ∀ c a w, ¬ Q (.panic c) a w) (hu : o.upon P a next Q ((execOp a.eval o).run P w)) :
    (∃ v w', (execOp a.eval o).run P w = .ok (.value v) w' ∧ next (a.put o.dst v) w') ∨ (∃ w', (execOp a.eval o).run P w = .ok .skip w' ∧ next (a.put o.dst undef) w') := by
  generalize hr : (execOp a.eval o).run P w = r at *
  unfold isTl at h
  unfold execOp at hr
  split at h
  · next x hx => simp only [hx, Sem.run_pure] at hr; subst hr; exact .inl ⟨_, _, rfl, hu⟩
  · next x hx => simp only [hx, Sem.run_pure] at hr; subst hr; exact .inl ⟨_, _, rfl, hu⟩
  · next t i hx =>
    simp only [hx, Sem.run_bind] at hr
    generalize (Instr.extract (a.eval t) i).run P w = r2 at *
    cases r2 with
    | ok u w2 => simp only [Result.andThen_ok, Sem.run_pure] at hr; subst hr; exact .inl ⟨_, _, rfl, hu⟩
    | halt c w2 =>
      simp only [Result.andThen] at hr; subst hr
      cases c <;> simp only [Oper.upon] at hu
      exact absurd hu (hq _ _ _)
  · next t x y hx =>
    simp only [hx, Sem.run_bind] at hr
    generalize (Instr.storeAt t (a.eval x) (a.eval y)).run P w = r2 at *
    cases r2 with
    | ok u w2 => simp only [Result.andThen_ok, Sem.run_pure] at hr; subst hr; exact .inr ⟨_, rfl, hu⟩
    | halt c w2 =>
      simp only [Result.andThen] at hr; subst hr
      cases c <;> simp only [Oper.upon] at hu
      exact absurd hu (hq _ _ _)
  · cases h

structure FlText (ops : Array Oper) (n0 : Nat) : Prop where
  sel : ∀ (j : Nat) (o : Oper) cs b, ops[j]? = some o → o.op ≠ .select cs b
  le : n0 ≤ ops.size
  lex : ∀ (j : Nat) (o : Oper), ops[j]? = some o → ∀ e ∈ o.after, Region.binds .any e = true → e.on < j
  pair : ∀ (i j : Nat) (x o : Oper), i < j → j < n0 → ops[i]? = some x → ops[j]? = some o → waitsB o i = true ∨ x.apart ops o = true
  dist : ∀ (i j : Nat) (x o : Oper) (d : Tmp), i < j → j < n0 → ops[i]? = some x → ops[j]? = some o → x.dst = some d → o.dst ≠ some d
  tail : ∀ (i j : Nat) (x o : Oper), i < j → n0 ≤ j → ops[i]? = some x → ops[j]? = some o → reachB ops 3 j i = true ∨ (i < n0 ∧ isFl x = true ∧ x.apart ops o = true)
  war : ∀ (i j : Nat) (x o : Oper) (d : Tmp), i ≤ j → j < n0 → ops[i]? = some x → ops[j]? = some o → isFl x = true → isFl o = true → o.dst = some d → d ∉ x.looksAt ops
  kinds : ∀ (j : Nat) (o : Oper), n0 ≤ j → ops[j]? = some o → isTl o = true
theorem FlText.c {n0 : Nat} (T : FlText ops n0) : TxC ops n0 := ⟨T.sel, T.le, T.lex, T.pair, T.dist⟩
def flB (ops : Array Oper) (n0 : Nat) : Bool :=
  Region.noSelect ops && decide (n0 ≤ ops.size) &&
  ((List.range ops.size).all fun j => match ops[j]? with
    | none => true
    | some o => (o.after.all fun e => !Region.binds .any e || decide (e.on < j)) && (decide (j < n0) || isTl o) &&
      (!(decide (j < n0) && isFl o) || (match o.dst with | some d => !(o.looksAt ops).contains d | none => true)) &&
      ((List.range j).all fun i => match ops[i]? with
        | none => true
        | some x => if j < n0 then (waitsB o i || x.apart ops o) && (match x.dst with | some d => o.dst != some d | none => true) && (!(isFl x && isFl o) || (match o.dst with | some d => !(x.looksAt ops).contains d | none => true))
          else reachB ops 3 j i || (decide (i < n0) && isFl x && x.apart ops o)))
theorem flB_text {n0 : Nat} (h : flB ops n0 = true) : FlText ops n0 := by
  unfold flB at h
  simp only [Bool.and_eq_true, decide_eq_true_eq] at h
  obtain ⟨⟨h1, h2⟩, h3⟩ := h
  have h3 := List.all_eq_true.1 h3
  have hj : ∀ (j : Nat) (o : Oper), ops[j]? = some o → (∀ e ∈ o.after, Region.binds .any e = true → e.on < j) ∧ (n0 ≤ j → isTl o = true) ∧ (j < n0 → isFl o = true → ∀ d, o.dst = some d → d ∉ o.looksAt ops) ∧ ∀ (i : Nat) (x : Oper), i < j → ops[i]? = some x → (if j < n0 then (waitsB o i || x.apart ops o) && (match x.dst with | some d => o.dst != some d | none => true) && (!(isFl x && isFl o) || (match o.dst with | some d => !(x.looksAt ops).contains d | none => true)) else reachB ops 3 j i || (decide (i < n0) && isFl x && x.apart ops o)) = true := by
    intro j o ho
    have hlt : j < ops.size := (Array.getElem?_eq_some_iff.1 ho).1
    have := h3 j (List.mem_range.2 hlt)
    simp only [ho, Bool.and_eq_true] at this
    obtain ⟨⟨⟨ha, hk⟩, hs⟩, hb⟩ := this
    refine ⟨fun e he hb => ?_, fun hn => ?_, fun hn hf d hd => ?_, fun i x hi hx => ?_⟩
    · have := Array.all_eq_true_iff_forall_mem.1 ha e he
      simpa [hb] using this
    · simpa [show ¬ j < n0 by omega] using hk
    · simpa [hn, hf, hd] using hs
    · have := List.all_eq_true.1 hb i (List.mem_range.2 hi)
      simpa only [hx] using this
  refine ⟨fun j o cs b ho => Region.noSelect_spec h1 j o cs b ho, h2, fun j o ho => (hj j o ho).1, fun i j x o hi hn hx ho => ?_, fun i j x o d hi hn hx ho hd => ?_, fun i j x o hi hn hx ho => ?_, fun i j x o d hi hn hx ho fx fo hd => ?_, fun j o hn ho => (hj j o ho).2.1 hn⟩
  · have := (hj j o ho).2.2.2 i x hi hx
    simp only [hn, if_true, Bool.and_eq_true, Bool.or_eq_true] at this
    exact this.1.1
  · have := (hj j o ho).2.2.2 i x hi hx
    simp only [hn, if_true, Bool.and_eq_true, hd] at this
    simpa using this.1.2
  · have := (hj j o ho).2.2.2 i x hi hx
    simp only [show ¬ j < n0 by omega, if_false, Bool.or_eq_true, Bool.and_eq_true, decide_eq_true_eq] at this
    rcases this with h | ⟨⟨a, b⟩, c⟩
    · exact .inl h
    · exact .inr ⟨a, b, c⟩
  · rcases Nat.lt_or_ge i j with hl | hl
    · have := (hj j o ho).2.2.2 i x hl hx
      simp only [hn, if_true, Bool.and_eq_true, fx, fo, hd] at this
      simpa using this.2
    · obtain rfl : i = j := by omega
      rw [hx] at ho; cases ho
      exact (hj i x hx).2.2.1 hn fx d hd

/-- What a floating operation gives, whenever it runs. -/
def FlAt (P : Program) (ops : Array Oper) (o : Oper) (b : Act) (v : Value) : Prop :=
  (Region.wanted o (yielded ops b.tmps) = true ∧ ∀ w, (execOp b.eval o).run P w = .ok (.value v) w) ∨ (Region.wanted o (yielded ops b.tmps) = false ∧ v = undef)
theorem FlAt.agree {o : Oper} (hs : ∀ cs b, o.op ≠ .select cs b) {b b' : Act} {v : Value} (h : FlAt P ops o b v) (ha : ∀ t ∈ o.looksAt ops, b.tmps[t]? = b'.tmps[t]?) : FlAt P ops o b' v := by
  have e1 := exec_agree (ops := ops) hs ha
  have e2 : Region.wanted o (yielded ops b.tmps) = Region.wanted o (yielded ops b'.tmps) := wanted_agree fun g bb t hg hd => ha t (guard_looks hg hd)
  unfold FlAt at *
  rw [← e1, ← e2]
  exact h
structure FillOf (ops : Array Oper) (G : List Nat) (vals : Nat → Value) (a a' : Act) : Prop where
  defers : a'.defers = a.defers
  size : a'.tmps.size = a.tmps.size
  old : ∀ t, (∀ i ∈ G, ∀ o, ops[i]? = some o → o.dst ≠ some t) → a'.tmps[t]? = a.tmps[t]?
  new : ∀ i ∈ G, ∀ o t, ops[i]? = some o → o.dst = some t → t < a.tmps.size → a'.tmps[t]? = some (vals i)
theorem put_get (a : Act) (d : Option Tmp) (v : Value) (t : Tmp) (h : d ≠ some t) : (a.put d v).tmps[t]? = a.tmps[t]? := by
  cases d with
  | none => rfl
  | some d => simp only [Act.put]; exact Array.getElem?_setIfInBounds_ne fun e => h (by rw [e])
theorem put_size (a : Act) (d : Option Tmp) (v : Value) : (a.put d v).tmps.size = a.tmps.size := by cases d <;> simp [Act.put]
theorem put_defers (a : Act) (d : Option Tmp) (v : Value) : (a.put d v).defers = a.defers := by cases d <;> rfl
theorem put_at (a : Act) (t : Tmp) (v : Value) (h : t < a.tmps.size) : (a.put (some t) v).tmps[t]? = some v := by simp [Act.put, h]
theorem act_ext {a b : Act} (h1 : b.defers = a.defers) (h2 : ∀ t : Nat, b.tmps[t]? = a.tmps[t]?) : b = a := by
  have h3 : b.tmps = a.tmps := Array.ext_getElem? h2
  cases a; cases b
  simp only at h1 h3
  rw [h1, h3]

/-- All but some floating operations of the head have been carried out. -/
theorem wpAny_fl {n0 : Nat} (T : FlText ops n0) {Q Q' : Exit → Act → World → Prop} (hQ : ∀ a w, Q' .normal a w → Q .normal a w) (hP : ∀ c a w, ¬ Q' (.panic c) a w) (hO : ¬ LetsOut Q') : ∀ (fuel : Nat) (l : List Oper) (k : Nat) (G : List Nat) (vals : Nat → Value) (listed : Array Bool) (a a' : Act) (w : World),
    n0 ≤ k → k + l.length = ops.size → l.length + G.length ≤ fuel → (∀ j, j < l.length → l[j]? = ops[k + j]?) → listed.size = ops.size →
    (∀ i, i < n0 → listed.getD i true = false → i ∈ G) → (∀ i ∈ G, i < n0 ∧ listed.getD i true = false) → (∀ i, n0 ≤ i → i < k → listed.getD i false = true) → (∀ i, k ≤ i → i < ops.size → listed.getD i true = false) →
    (∀ (j : Nat) (o : Oper), ops[j]? = some o → listed.getD j false = true → ∀ e ∈ o.after, Region.binds .any e = true → listed.getD e.on false = true) →
    (∀ i ∈ G, ∀ o, ops[i]? = some o → isFl o = true ∧ FlAt P ops o a' (vals i)) → FillOf ops G vals a a' → wpList P ops Q' l a' w → wpAny P .any ops Q fuel listed a w := by
  intro fuel
  induction fuel with
  | zero =>
    intro l k G vals listed a a' w hk hkl hf hl hsz hun hG h1 h2 hcl hfl hfill h
    have el : l = [] := List.length_eq_zero_iff.1 (by omega)
    have eG : G = [] := List.length_eq_zero_iff.1 (by omega)
    subst el eG
    have ea : a' = a := act_ext hfill.defers fun t => hfill.old t (fun i hi => by cases hi)
    subst ea
    simp only [List.length_nil, Nat.add_zero] at hkl
    refine ⟨?_, hQ _ _ h⟩
    rcases hx : Region.ready .any ops listed with _ | ⟨i, xs⟩
    · rfl
    · have hi : i ∈ Region.ready .any ops listed := by rw [hx]; exact List.mem_cons_self ..
      obtain ⟨hu, o, ho, _⟩ := mem_ready.1 hi
      have hlt : i < ops.size := (Array.getElem?_eq_some_iff.1 ho).1
      rcases Nat.lt_or_ge i n0 with hn | hn
      · exact absurd (hun i hn hu) List.not_mem_nil
      · have := h1 i hn (by omega)
        have := getD_both hu
        simp_all
  | succ fuel ih =>
    intro l k G vals listed a a' w hk hkl hf hl hsz hun hG h1 h2 hcl hfl hfill h
    -- a slot at which a ready operation looks is as it will be
    have hlook : ∀ (i : Nat) (o : Oper), ops[i]? = some o → (∀ e ∈ o.after, Region.binds .any e = true → listed.getD e.on false = true) → (i < n0 → isFl o = true) → ∀ t ∈ o.looksAt ops, a'.tmps[t]? = a.tmps[t]? := by
      intro i o ho hal hfo t ht
      refine hfill.old t fun i' hi' x hx hxd => ?_
      have hg := hG i' hi'
      have hxf := (hfl i' hi' x hx).1
      rcases Nat.lt_or_ge i n0 with hn | hn
      · rcases Nat.lt_trichotomy i' i with hlt | rfl | hlt
        · rcases T.pair i' i x o hlt hn hx ho with hw | hw
          · obtain ⟨e, he, hb⟩ := waitsB_spec hw
            have := hal e he hb.1
            rw [hb.2] at this
            have := getD_both hg.2
            simp_all
          · exact (Oper.apart_spec hw).1 t hxd ht
        · rw [hx] at ho; cases ho
          exact T.war i' i' _ _ t (Nat.le_refl _) hn hx hx hxf hxf hxd ht
        · exact T.war i i' o x t (Nat.le_of_lt hlt) hg.1 ho hx (hfo hn) hxf hxd ht
      · rcases T.tail i' i x o (by omega) hn hx ho with hr | ⟨_, _, hap⟩
        · have := reach_listed hcl 3 i i' hr (fun y hy => by rw [ho] at hy; cases hy; exact hal)
          have := getD_both hg.2
          simp_all
        · exact (Oper.apart_spec hap).1 t hxd ht
    refine ⟨fun hr => ?_, fun i hi => ?_⟩
    · have eG : G = [] := by
        cases G with
        | nil => rfl
        | cons g G' =>
          exfalso
          obtain ⟨m, hm, hmn, hmin⟩ : ∃ m, m < n0 ∧ listed.getD m true = false ∧ ∀ i, i < m → listed.getD i true = true := by
            have : ∀ d, (∀ i, i < d → listed.getD i true = true) ∨ ∃ m, m < d ∧ listed.getD m true = false ∧ ∀ i, i < m → listed.getD i true = true := by
              intro d
              induction d with
              | zero => exact .inl fun i hi => absurd hi (Nat.not_lt_zero _)
              | succ d ihd =>
                rcases ihd with h | ⟨m, h1, h2⟩
                · cases hx : listed.getD d true with
                  | false => exact .inr ⟨d, by omega, hx, h⟩
                  | true =>
                    refine .inl fun i hi => ?_
                    rcases Nat.lt_or_ge i d with h' | h'
                    · exact h i h'
                    · have hid : i = d := by omega
                      rw [hid]; exact hx
                · exact .inr ⟨m, by omega, h2⟩
            rcases this n0 with hh | hh
            · have := hh g (hG g (List.mem_cons_self ..)).1
              rw [(hG g (List.mem_cons_self ..)).2] at this
              cases this
            · exact hh
          have hms : m < ops.size := Nat.lt_of_lt_of_le hm T.le
          have : m ∈ Region.ready .any ops listed := mem_ready.2 ⟨hmn, ops[m], by simp [hms], fun e he hb => by
            have hl := T.lex m ops[m] (by simp [hms]) e he hb
            have h9 := hmin _ hl; have h8 : e.on < listed.size := (by omega); rw [Array.getD_eq_getD_getElem?, Array.getElem?_eq_getElem h8] at h9 ⊢; exact h9⟩
          rw [hr] at this; cases this
      subst eG
      have el : l = [] := by
        cases l with
        | nil => rfl
        | cons o l' =>
          exfalso
          have ho : ops[k]? = some o := by have := hl 0 (by simp); simpa using this.symm
          have hks : k < ops.size := (Array.getElem?_eq_some_iff.1 ho).1
          have : k ∈ Region.ready .any ops listed := mem_ready.2 ⟨h2 k (Nat.le_refl _) hks, o, ho, fun e he hb => by
            have hl := T.lex k o ho e he hb
            rcases Nat.lt_or_ge e.on n0 with hn | hn
            · cases hx : listed.getD e.on false with
              | true => rfl
              | false => exact absurd (hun _ hn (getD_in (by omega) hx)) List.not_mem_nil
            · exact h1 _ hn hl⟩
          rw [hr] at this; cases this
      subst el
      have ea : a' = a := act_ext hfill.defers fun t => hfill.old t (fun i hi => by cases hi)
      subst ea
      exact hQ _ _ h
    · obtain ⟨hu, o, ho, hal⟩ := mem_ready.1 hi
      have hlt : i < ops.size := (Array.getElem?_eq_some_iff.1 ho).1
      have hagr := hlook i o ho hal
      rcases Nat.lt_or_ge i n0 with hn | hn
      · -- a floating one
        have hiG := hun i hn hu
        obtain ⟨hof, hfa⟩ := hfl i hiG o ho
        have hfa := hfa.agree (T.sel i o · · ho) (hagr fun _ => hof)
        have hnext : ∀ v, v = vals i → wpAny P .any ops Q fuel (listed.setIfInBounds i true) (a.put o.dst v) w := by
          intro v hv
          subst hv
          refine ih l k (G.filter fun m => m ≠ i) vals _ _ a' w hk hkl ?_ hl (by simp [hsz]) ?_ ?_ ?_ ?_ ?_ ?_ ?_ h
          · have : (G.filter fun m => decide (m ≠ i)).length < G.length := List.length_filter_lt_length_iff_exists.2 ⟨i, hiG, by simp⟩
            omega
          · intro j hj hjl
            by_cases hji : j = i
            · subst hji; simp [hsz, hlt] at hjl
            · rw [getD_set_ne true (Ne.symm hji)] at hjl
              exact List.mem_filter.2 ⟨hun j hj hjl, by simpa using hji⟩
          · intro j hj
            obtain ⟨hj1, hj2⟩ := List.mem_filter.1 hj
            have hji : j ≠ i := by simpa using hj2
            exact ⟨(hG j hj1).1, by rw [getD_set_ne true (Ne.symm hji)]; exact (hG j hj1).2⟩
          · intro j hj hjk
            exact getD_set_true (h1 j hj hjk)
          · intro j hj hjs
            rw [getD_set_ne true (by omega)]; exact h2 j hj hjs
          · intro j x hx hjl e he hb
            by_cases hji : j = i
            · subst hji
              rw [ho] at hx; cases hx
              exact getD_set_true (hal e he hb)
            · rw [getD_set_ne false (Ne.symm hji)] at hjl
              exact getD_set_true (hcl j x hx hjl e he hb)
          · intro j hj x hx
            exact hfl j (List.mem_filter.1 hj).1 x hx
          · refine ⟨hfill.defers.trans (put_defers _ _ _).symm, hfill.size.trans (put_size _ _ _).symm, fun t ht => ?_, fun j hj x t hx hxd hts => ?_⟩
            · by_cases hd : o.dst = some t
              · rw [hd]
                rcases Nat.lt_or_ge t a.tmps.size with hs | hs
                · rw [put_at _ _ _ hs]
                  exact hfill.new i hiG o t ho hd hs
                · rw [Array.getElem?_eq_none (by rw [hfill.size]; exact hs), Array.getElem?_eq_none (by rw [put_size]; exact hs)]
              · rw [put_get _ _ _ _ hd]
                refine hfill.old t fun j hj x hx hxd => ?_
                by_cases hji : j = i
                · subst hji; rw [ho] at hx; cases hx; exact hd hxd
                · exact ht j (List.mem_filter.2 ⟨hj, by simpa using hji⟩) x hx hxd
            · rw [put_size] at hts
              exact hfill.new j (List.mem_filter.1 hj).1 x t hx hxd hts
        unfold wpOp
        simp only [ho]
        rcases hfa with ⟨hw, hrun⟩ | ⟨hw, hv⟩
        · simp only [hw, if_true]
          left
          unfold Oper.wp
          rw [hrun w]
          exact hnext _ rfl
        · simp only [hw, Bool.false_eq_true, if_false]
          exact hnext _ hv.symm
      · -- the tail's next one
        have hik : i = k := by
          rcases Nat.lt_trichotomy i k with h' | h' | h'
          · have := h1 i hn h'
            have := getD_both hu
            simp_all
          · exact h'
          · have hks : k < ops.size := by omega
            have hok : ops[k]? = some ops[k] := by simp [hks]
            rcases T.tail k i ops[k] o h' hn hok ho with hr | ⟨hkn, _⟩
            · have := reach_listed hcl 3 i k hr (fun y hy => by rw [ho] at hy; cases hy; exact hal)
              have := getD_both (h2 k (Nat.le_refl _) hks)
              simp_all
            · omega
        subst hik
        obtain ⟨l', rfl⟩ : ∃ l', l = o :: l' := by
          cases l with
          | nil => simp only [List.length_nil, Nat.add_zero] at hkl; omega
          | cons o' l' =>
            have : ops[i]? = some o' := by have := hl 0 (by simp); simpa using this.symm
            rw [ho] at this; cases this
            exact ⟨l', rfl⟩
        have hagr := hagr (fun hn' => by omega)
        have eex := exec_agree (ops := ops) (T.sel i o · · ho) hagr
        have ewa : Region.wanted o (yielded ops a'.tmps) = Region.wanted o (yielded ops a.tmps) := wanted_agree fun g bb t hg hd => hagr t (guard_looks hg hd)
        have hap : ∀ j ∈ G, ∀ x, ops[j]? = some x → x.apart ops o = true := fun j hj x hx => by
          rcases T.tail j i x o (by have := (hG j hj).1; omega) hn hx ho with hr | ⟨_, _, hap⟩
          · have := reach_listed hcl 3 i j hr (fun y hy => by rw [ho] at hy; cases hy; exact hal)
            have := getD_both (hG j hj).2
            simp_all
          · exact hap
        have hnext : ∀ v w', wpList P ops Q' l' (a'.put o.dst v) w' → wpAny P .any ops Q fuel (listed.setIfInBounds i true) (a.put o.dst v) w' := by
          intro v w' h
          simp only [List.length_cons] at hkl hf
          refine ih l' (i + 1) G vals _ _ (a'.put o.dst v) w' (by omega) (by omega) (by omega) (fun j hj => ?_) (by simp [hsz]) ?_ ?_ ?_ ?_ ?_ ?_ ?_ h
          · have := hl (j + 1) (by simp only [List.length_cons]; omega)
            rw [List.getElem?_cons_succ] at this
            rw [this, Nat.add_assoc, Nat.add_comm 1 j]
          · intro j hj hjl
            rw [getD_set_ne true (by omega)] at hjl
            exact hun j hj hjl
          · intro j hj
            have := hG j hj
            exact ⟨this.1, by rw [getD_set_ne true (by omega)]; exact this.2⟩
          · intro j hj hjk
            by_cases hji : i = j
            · subst hji; simp [hsz, hlt]
            · exact getD_set_true (h1 j hj (by omega))
          · intro j hj hjs
            rw [getD_set_ne true (by omega)]; exact h2 j (by omega) hjs
          · intro j x hx hjl e he hb
            by_cases hji : j = i
            · subst hji
              rw [ho] at hx; cases hx
              exact getD_set_true (hal e he hb)
            · rw [getD_set_ne false (Ne.symm hji)] at hjl
              exact getD_set_true (hcl j x hx hjl e he hb)
          · intro j hj x hx
            refine ⟨(hfl j hj x hx).1, (hfl j hj x hx).2.agree (T.sel j x · · hx) fun t ht => (put_get _ _ _ _ fun e => ?_).symm⟩
            exact (Oper.apart_spec (hap j hj x hx)).2.2 t e ht
          · refine ⟨by rw [put_defers, put_defers]; exact hfill.defers, by rw [put_size, put_size]; exact hfill.size, fun t ht => ?_, fun j hj x t hx hxd hts => ?_⟩
            · by_cases hd : o.dst = some t
              · rw [hd]
                rcases Nat.lt_or_ge t a.tmps.size with hs | hs
                · rw [put_at _ _ _ hs, put_at _ _ _ (by rw [hfill.size]; exact hs)]
                · rw [Array.getElem?_eq_none (by rw [put_size, hfill.size]; exact hs), Array.getElem?_eq_none (by rw [put_size]; exact hs)]
              · rw [put_get _ _ _ _ hd, put_get _ _ _ _ hd]
                exact hfill.old t ht
            · rw [put_size] at hts
              have hne := (Oper.apart_spec (hap j hj x hx)).2.1 t hxd
              rw [put_get _ _ _ _ hne]
              exact hfill.new j hj x t hx hxd hts
        unfold wpList at h
        unfold wpOp
        simp only [ho]
        rw [ewa] at h
        split
        · rename_i hw
          simp only [hw, if_true] at h
          rcases h with h | ⟨_, h⟩
          · left
            unfold Oper.wp at h ⊢
            have h := tl_upon (T.kinds i o hn ho) hP h
            rw [eex] at h
            rcases h with ⟨v, w', hr, hk'⟩ | ⟨w', hr, hk'⟩
            · rw [hr]; exact hnext _ _ hk'
            · rw [hr]; exact hnext _ _ hk'
          · exact absurd h hO
        · rename_i hw
          simp only [hw] at h
          exact hnext _ _ h

/-- The post of a region's tail: it ends in the usual way. -/
def onlyN (Q : Exit → Act → World → Prop) : Exit → Act → World → Prop
  | .normal, a, w => Q .normal a w
  | _, _, _ => False
theorem onlyN_normal (Q : Exit → Act → World → Prop) (a : Act) (w : World) : onlyN Q .normal a w = Q .normal a w := rfl
theorem onlyN_out {Q : Exit → Act → World → Prop} : ¬ LetsOut (onlyN Q) := fun ⟨_, _, h⟩ => h
/-- What the floating operations that have not run yet will give. -/
theorem float_fill {R : Nat → World → World → Prop} {C : Nat → World → Prop} {a0 : Act} {n0 : Nat} (T : FlText ops n0) {D : Nat → Value → World → Prop} (hT : ∀ j o, j < n0 → ops[j]? = some o → TurnG P ops n0 R C a0 D j o)
    {listed : Array Bool} {a : Act} {w : World} {vals : Nat → Value} (hC : ∀ j, listed.getD j false = false → C j w) (hn : ∀ j, listed.getD j false = true → j < n0)
    (hcl : ∀ (j : Nat) (o : Oper), ops[j]? = some o → listed.getD j false = true → ∀ e ∈ o.after, Region.binds .any e = true → listed.getD e.on false = true)
    (hd : Desc ops a0 (fun i => listed.getD i false = true) vals a) (hD : ∀ i, listed.getD i false = true → D i (vals i) w) (hF : ∀ i, i < n0 → ∀ o, ops[i]? = some o → listed.getD i false = false → isFl o = true) :
    ∀ m, m ≤ n0 → ∃ (vals' : Nat → Value) (b : Act), Desc ops a0 (fun i => listed.getD i false = true ∨ i < m) vals' b ∧ (∀ i, listed.getD i false = true → vals' i = vals i) ∧ (∀ i, i < m → D i (vals' i) w) ∧
      (∀ i, i < m → listed.getD i false = false → ∀ o, ops[i]? = some o → FlAt P ops o b (vals' i)) := by
  intro m
  induction m with
  | zero => exact fun _ => ⟨vals, a, hd.congr (fun i => by simp) fun _ _ => rfl, fun _ _ => rfl, fun i hi => absurd hi (Nat.not_lt_zero _), fun i hi => absurd hi (Nat.not_lt_zero _)⟩
  | succ m ih =>
    intro hm
    obtain ⟨vals', b, h1, h2, h3, h4⟩ := ih (by omega)
    have hms : m < ops.size := Nat.lt_of_lt_of_le hm T.le
    have ho : ops[m]? = some ops[m] := by simp [hms]
    cases hl : listed.getD m false with
    | true =>
      refine ⟨vals', b, h1.congr (fun i => ⟨fun h => h.imp id (by omega), fun h => ?_⟩) fun _ _ => rfl, h2, fun i hi => ?_, fun i hi hli => ?_⟩
      · rcases h with h | h
        · exact .inl h
        · by_cases e : i = m
          · subst e; exact .inl hl
          · exact .inr (by omega)
      · by_cases e : i = m
        · subst e; rw [h2 i hl]; exact hD i hl
        · exact h3 i (by omega)
      · by_cases e : i = m
        · subst e; rw [hl] at hli; cases hli
        · exact h4 i (by omega) hli
    | false =>
      have hfl := hF m hm _ ho hl
      have hturn := hT m _ hm ho b w vals' (fun i => listed.getD i false = true ∨ i < m) (hC m hl) h1 (fun i hi => hi.elim (hn i) (by omega)) (fun i hi him => h3 i him) (fun i hi => by
          obtain ⟨e, he, hb⟩ := waitsB_spec hi
          have := T.lex m _ ho e he hb.1
          exact .inr (by omega)) (fun i x hi hx => ⟨fun e => by
            subst e
            rcases hi with h | h
            · rw [hl] at h; cases h
            · omega, by
          cases hxw : waitsB x m with
          | false => rfl
          | true =>
            obtain ⟨e, he, hb⟩ := waitsB_spec hxw
            rcases hi with h | h
            · have := hcl i x hx h e he hb.1
              rw [hb.2, hl] at this; cases this
            · have := T.lex i x hx e he hb.1
              omega⟩)
      have hv : ∃ v, FlAt P ops ops[m] b v ∧ D m v w := by
        rcases hturn with ⟨hw, hat⟩ | ⟨hw, hdu⟩
        · unfold gAt at hat
          cases hr : (execOp b.eval ops[m]).run P w with
          | ok n w' =>
            obtain ⟨rfl, ⟨v, rfl⟩, hall⟩ := fl_run hfl hr
            rw [hr] at hat
            exact ⟨v, .inl ⟨hw, hall⟩, hat.2⟩
          | halt c w' => rw [hr] at hat; exact absurd hat (by simp [gOut])
        · exact ⟨undef, .inr ⟨hw, rfl⟩, hdu⟩
      obtain ⟨v, hv1, hv2⟩ := hv
      have hself : ∀ t, ops[m].dst = some t → t ∉ ops[m].looksAt ops := fun t ht => T.war m m _ _ t (Nat.le_refl _) hm ho ho hfl hfl ht
      have hwar : ∀ i, i < m → listed.getD i false = false → ∀ o, ops[i]? = some o → ∀ t, ops[m].dst = some t → t ∉ o.looksAt ops := fun i hi hli o hoi t ht => T.war i m _ _ t (by omega) hm hoi ho (hF i (by omega) o hoi hli) hfl ht
      refine ⟨fun i => if i = m then v else vals' i, b.put ops[m].dst v, ?_, fun i hi => ?_, fun i hi => ?_, fun i hi hli o hoi => ?_⟩
      · have g1 := h1.congr (S' := fun i => listed.getD i false = true ∨ i < m) (vals' := fun i => if i = m then v else vals' i) (fun _ => Iff.rfl) (fun i hi => by
          have : ¬ i = m := fun e => by
            subst e
            rcases hi with h | h
            · rw [hl] at h; cases h
            · omega
          simp only [this, if_false])
        have g2 := g1.put (j := m) ho fun i x d hi hne hx hd' => by
          have hi' : i < n0 := hi.elim (hn i) (by omega)
          rcases Nat.lt_or_ge i m with hlt | hge
          · exact T.dist i m x _ d hlt hm hx ho hd'
          · intro e
            exact T.dist m i _ x d (by omega) hi' ho hx e hd'
        simp only [if_true] at g2
        refine g2.congr (fun i => ⟨fun h => ?_, fun h => ?_⟩) fun _ _ => rfl
        · rcases h with (h | h) | h
          · exact .inl h
          · exact .inr (by omega)
          · exact .inr (by omega)
        · rcases h with h | h
          · exact .inl (.inl h)
          · by_cases e : i = m
            · exact .inr e
            · exact .inl (.inr (by omega))
      · have : ¬ i = m := fun e => by subst e; rw [hl] at hi; cases hi
        simp only [this, if_false]
        exact h2 i hi
      · by_cases e : i = m
        · subst e; simp only [if_true]; exact hv2
        · simp only [e, if_false]; exact h3 i (by omega)
      · by_cases e : i = m
        · subst e
          rw [ho] at hoi; cases hoi
          simp only [if_true]
          exact hv1.agree (T.sel i _ · · ho) fun t ht => (put_get _ _ _ _ fun e => hself t e ht).symm
        · simp only [e, if_false]
          exact (h4 i (by omega) hli o hoi).agree (T.sel i o · · hoi) fun t ht => (put_get _ _ _ _ fun e' => hwar i (by omega) hli o hoi t e' ht).symm

theorem wpAny_gf {R Kc : Nat → World → World → Prop} {C : Nat → World → Prop} {I : (Nat → Prop) → World → Prop} (hIC : ∀ S w j, I S w → ¬ S j → C j w) (hIR : ∀ S w w' j, I S w → ¬ S j → R j w w' → I (fun i => S i ∨ i = j) w') (hRr : ∀ j w, R j w w) (hRK : ∀ k j w w', j ≠ k → R j w w' → Kc k w w') {a0 : Act} {n0 : Nat} (T : FlText ops n0) {D : Nat → Value → World → Prop} {Q Q' : Exit → Act → World → Prop} (hQ : ∀ a w, Q' .normal a w → Q .normal a w) (hP : ∀ c a w, ¬ Q' (.panic c) a w) (hO : ¬ LetsOut Q')
    (hU : ∀ i, i < n0 → ∀ v w w', D i v w → Kc i w w' → D i v w') (hT : ∀ j o, j < n0 → ops[j]? = some o → TurnG P ops n0 R C a0 D j o)
    (hZ : ∀ (b : Act) (w : World) (vals : Nat → Value), C n0 w → Desc ops a0 (fun i => i < n0) vals b → (∀ i, i < n0 → D i (vals i) w) → wpList P ops Q' (ops.toList.drop n0) b w) :
    ∀ (fuel : Nat) (L : List Nat) (listed : Array Bool) (a : Act) (w : World) (vals : Nat → Value), L.length + (ops.size - n0) ≤ fuel → (∀ i, i < n0 → listed.getD i true = false → i ∈ L) → (∀ i ∈ L, i < n0 ∧ listed.getD i true = false) → listed.size = ops.size →
      (∀ i, n0 ≤ i → i < ops.size → listed.getD i true = false) → (∀ j o, ops[j]? = some o → listed.getD j false = true → ∀ e ∈ o.after, Region.binds .any e = true → listed.getD e.on false = true) →
      I (fun i => listed.getD i false = true) w → Desc ops a0 (fun i => listed.getD i false = true) vals a → (∀ i, listed.getD i false = true → D i (vals i) w) → wpAny P .any ops Q fuel listed a w := by
  intro fuel
  induction fuel with
  | zero =>
    intro L listed a w vals hL hun hLm hsz htl hcl hC hd hD
    have hSn : ∀ j, listed.getD j false = true → j < n0 := fun j hj => by
      rcases Nat.lt_or_ge j n0 with h | h
      · exact h
      · rcases Nat.lt_or_ge j ops.size with his | his
        · have := getD_both (htl j h his); simp_all
        · rw [Array.getD_eq_getD_getElem?, Array.getElem?_eq_none (by omega)] at hj; cases hj
    have hL0 : L = [] := List.length_eq_zero_iff.1 (by omega)
    have hall : ∀ i, i < n0 → ∀ o, ops[i]? = some o → listed.getD i false = false → isFl o = true := fun i hi o ho hf => by
      have := hun i hi (getD_in (by have := T.le; omega) hf)
      rw [hL0] at this; cases this
    exact (by
      have hnot : listed.getD n0 false = false := by
        cases h : listed.getD n0 false with
        | false => rfl
        | true => exact absurd (hSn n0 h) (Nat.lt_irrefl _)
      obtain ⟨vals', b, g1, g2, g3, g4⟩ := float_fill (D := D) T hT (fun j hj => hIC _ w j hC (by rw [hj]; simp)) hSn hcl hd hD hall n0 (Nat.le_refl _)
      have gd : Desc ops a0 (fun i => i < n0) vals' b := g1.congr (fun i => ⟨fun h => h.elim (hSn i) id, fun h => .inr h⟩) fun _ _ => rfl
      have hz := hZ b w vals' (hIC _ w n0 hC (by rw [hnot]; simp)) gd g3
      refine wpAny_fl T hQ hP hO 0 (ops.toList.drop n0) n0 L vals' listed a b w (Nat.le_refl _) (by have := T.le; simp; omega) (by rw [List.length_drop, Array.length_toList]; omega) (fun j hj => by simp) hsz hun hLm (fun i h1 h2 => by omega) htl hcl (fun i hi o ho => ?_) ?_ hz
      · have hl := getD_both (hLm i hi).2
        exact ⟨hall i (hLm i hi).1 o ho hl, g4 i (hLm i hi).1 hl o ho⟩
      · refine ⟨gd.defers.trans hd.defers.symm, gd.size.trans hd.size.symm, fun t ht => gd.agree hd t fun i o ho hdst => ⟨⟨fun hi => ?_, hSn i⟩, fun hi => ?_⟩, fun i hi o t ho hdst hts => gd.new t i o (hLm i hi).1 ho hdst (by rw [← hd.size]; exact hts)⟩
        · cases hx : listed.getD i false with
          | true => rfl
          | false => exact absurd hdst (ht i (hun i hi (getD_in (by have := T.le; omega) hx)) o ho)
        · refine g2 i ?_
          cases hx : listed.getD i false with
          | true => rfl
          | false => exact absurd hdst (ht i (hun i hi (getD_in (by have := T.le; omega) hx)) o ho))
  | succ fuel ih =>
    intro L listed a w vals hL hun hLm hsz htl hcl hC hd hD
    have hSn : ∀ j, listed.getD j false = true → j < n0 := fun j hj => by
      rcases Nat.lt_or_ge j n0 with h | h
      · exact h
      · rcases Nat.lt_or_ge j ops.size with his | his
        · have := getD_both (htl j h his); simp_all
        · rw [Array.getD_eq_getD_getElem?, Array.getElem?_eq_none (by omega)] at hj; cases hj
    by_cases hall : ∀ i, i < n0 → ∀ o, ops[i]? = some o → listed.getD i false = false → isFl o = true
    · exact (by
        have hnot : listed.getD n0 false = false := by
          cases h : listed.getD n0 false with
          | false => rfl
          | true => exact absurd (hSn n0 h) (Nat.lt_irrefl _)
        obtain ⟨vals', b, g1, g2, g3, g4⟩ := float_fill (D := D) T hT (fun j hj => hIC _ w j hC (by rw [hj]; simp)) hSn hcl hd hD hall n0 (Nat.le_refl _)
        have gd : Desc ops a0 (fun i => i < n0) vals' b := g1.congr (fun i => ⟨fun h => h.elim (hSn i) id, fun h => .inr h⟩) fun _ _ => rfl
        have hz := hZ b w vals' (hIC _ w n0 hC (by rw [hnot]; simp)) gd g3
        refine wpAny_fl T hQ hP hO (fuel + 1) (ops.toList.drop n0) n0 L vals' listed a b w (Nat.le_refl _) (by have := T.le; simp; omega) (by rw [List.length_drop, Array.length_toList]; omega) (fun j hj => by simp) hsz hun hLm (fun i h1 h2 => by omega) htl hcl (fun i hi o ho => ?_) ?_ hz
        · have hl := getD_both (hLm i hi).2
          exact ⟨hall i (hLm i hi).1 o ho hl, g4 i (hLm i hi).1 hl o ho⟩
        · refine ⟨gd.defers.trans hd.defers.symm, gd.size.trans hd.size.symm, fun t ht => gd.agree hd t fun i o ho hdst => ⟨⟨fun hi => ?_, hSn i⟩, fun hi => ?_⟩, fun i hi o t ho hdst hts => gd.new t i o (hLm i hi).1 ho hdst (by rw [← hd.size]; exact hts)⟩
          · cases hx : listed.getD i false with
            | true => rfl
            | false => exact absurd hdst (ht i (hun i hi (getD_in (by have := T.le; omega) hx)) o ho)
          · refine g2 i ?_
            cases hx : listed.getD i false with
            | true => rfl
            | false => exact absurd hdst (ht i (hun i hi (getD_in (by have := T.le; omega) hx)) o ho))
    · -- the least one that is neither listed nor floating, or one ahead of it, is ready; whatever is ready lies in the head
      have hready : Region.ready .any ops listed ≠ [] ∧ ∀ i ∈ Region.ready .any ops listed, i < n0 := by
        obtain ⟨m, hm, hmn, hmin⟩ : ∃ m, m < n0 ∧ listed.getD m false = false ∧ ∀ i, i < m → listed.getD i false = true := by
          have : ∀ d, (∀ i, i < d → listed.getD i false = true) ∨ ∃ m, m < d ∧ listed.getD m false = false ∧ ∀ i, i < m → listed.getD i false = true := by
            intro d
            induction d with
            | zero => exact .inl fun i hi => absurd hi (Nat.not_lt_zero _)
            | succ d ihd =>
              rcases ihd with h | ⟨m, h1, h2⟩
              · cases hx : listed.getD d false with
                | false => exact .inr ⟨d, by omega, hx, h⟩
                | true =>
                  refine .inl fun i hi => ?_
                  rcases Nat.lt_or_ge i d with h' | h'
                  · exact h i h'
                  · have hid : i = d := by omega
                    rw [hid]; exact hx
              · exact .inr ⟨m, by omega, h2⟩
          rcases this n0 with h | h
          · exact absurd (fun i hi o ho hf => by rw [h i hi] at hf; cases hf) hall
          · exact h
        have hms : m < ops.size := Nat.lt_of_lt_of_le hm T.le
        have hmt : listed.getD m true = false := getD_in (by omega) hmn
        refine ⟨fun hr => ?_, fun i hi => ?_⟩
        · have : m ∈ Region.ready .any ops listed := mem_ready.2 ⟨hmt, ops[m], by simp [hms], fun e he hb => hmin _ (T.lex m _ (by simp [hms]) e he hb)⟩
          rw [hr] at this; cases this
        · obtain ⟨_, o, ho, hal⟩ := mem_ready.1 hi
          rcases Nat.lt_or_ge i n0 with h | h
          · exact h
          · exfalso
            refine hall fun j hj x hx hjl => ?_
            rcases T.tail j i x o (by omega) h hx ho with hr | ⟨_, hf, _⟩
            · have := reach_listed hcl 3 i j hr (fun y hy => by rw [ho] at hy; cases hy; exact hal)
              rw [hjl] at this; cases this
            · exact hf
      refine ⟨fun hr => absurd hr hready.1, fun i hi => ?_⟩
      have hin := hready.2 i hi
      obtain ⟨hunl, o, ho, hal⟩ := mem_ready.1 hi
      have his : i < ops.size := (Array.getElem?_eq_some_iff.1 ho).1
      have hilf : listed.getD i false = false := getD_both hunl
      have hturn := hT i o hin ho a w vals (fun j => listed.getD j false = true) (hIC _ w i hC (by rw [hilf]; simp)) hd hSn (fun j hj _ => hD j hj) (fun j hj => by
        obtain ⟨e, he, hb⟩ := waitsB_spec hj
        rw [← hb.2]; exact hal e he hb.1) (fun j x hj hx => ⟨fun hji => (by subst hji; rw [hilf] at hj; cases hj), by
        cases hxw : waitsB x i with
        | false => rfl
        | true =>
          obtain ⟨e, he, hb⟩ := waitsB_spec hxw
          have := hcl j x hx hj e he hb.1
          rw [hb.2, hilf] at this
          cases this⟩)
      -- what follows, the value being v, the world w'
      have hnext : ∀ v w', R i w w' → D i v w' → wpAny P .any ops Q fuel (listed.setIfInBounds i true) (a.put o.dst v) w' := by
        intro v w' hu hv
        refine ih (L.filter fun j => j ≠ i) (listed.setIfInBounds i true) _ w' (fun j => if j = i then v else vals j) ?_ ?_ ?_ (by simp [hsz]) ?_ ?_ (by have h1 := hIR _ w w' i hC (by rw [hilf]; simp) hu; have e : (fun j => listed.getD j false = true ∨ j = i) = (fun j => (listed.setIfInBounds i true).getD j false = true) := (by funext j; by_cases hji : j = i; (· subst hji; simp [hsz, his]); (· rw [getD_set_ne false (Ne.symm hji)]; simp [hji])); rw [e] at h1; exact h1) ?_ ?_
        · have hmem := hun i hin hunl
          have : (L.filter fun j => decide (j ≠ i)).length < L.length := List.length_filter_lt_length_iff_exists.2 ⟨i, hmem, by simp⟩
          omega
        · intro j hj hjl
          by_cases hji : j = i
          · subst hji; simp [hsz, his] at hjl
          · rw [getD_set_ne true (Ne.symm hji)] at hjl
            exact List.mem_filter.2 ⟨hun j hj hjl, by simpa using hji⟩
        · intro j hj
          obtain ⟨hj1, hj2⟩ := List.mem_filter.1 hj
          have hji : j ≠ i := by simpa using hj2
          exact ⟨(hLm j hj1).1, by rw [getD_set_ne true (Ne.symm hji)]; exact (hLm j hj1).2⟩
        · intro j hj hjs
          rw [getD_set_ne true (by omega)]; exact htl j hj hjs
        · intro j x hx hjl e he hb
          by_cases hji : j = i
          · subst hji
            rw [ho] at hx; cases hx
            exact getD_set_true (hal e he hb)
          · rw [getD_set_ne false (Ne.symm hji)] at hjl
            exact getD_set_true (hcl j x hx hjl e he hb)
        · have h1 := hd.congr (S' := fun j => listed.getD j false = true) (vals' := fun j => if j = i then v else vals j) (fun _ => Iff.rfl) (fun j hj => by
            have : ¬ j = i := fun h => by subst h; rw [hilf] at hj; cases hj
            simp only [this, if_false])
          have h2 := h1.put (j := i) ho fun j x d hj hne hx hd' => by
            rcases Nat.lt_or_ge j i with hl | hl
            · exact T.dist j i x o d hl hin hx ho hd'
            · intro e
              exact T.dist i j o x d (by omega) (hSn j hj) ho hx e hd'
          simp only [if_true] at h2
          refine h2.congr (fun j => ?_) (fun _ _ => rfl)
          by_cases hji : j = i
          · subst hji; simp [hsz, his]
          · rw [getD_set_ne false (Ne.symm hji)]; simp [hji]
        · intro j hj
          by_cases hji : j = i
          · subst hji; simp only [if_true]; exact hv
          · rw [getD_set_ne false (Ne.symm hji)] at hj
            simp only [hji, if_false]
            exact hU j (hSn j hj) _ _ _ (hD j hj) (hRK j i _ _ (fun e => hji e.symm) hu)
      unfold wpOp
      simp only [ho]
      rcases hturn with ⟨hw, hat⟩ | ⟨hw, hdu⟩
      · simp only [hw, if_true]
        exact .inl (hat.wp hnext)
      · simp only [hw, Bool.false_eq_true, if_false]
        exact hnext undef w (hRr i w) hdu

/-- As wp_region_up, but stores, moves, extracts and assignments may stand at the end. -/
theorem wp_region_upf (n0 : Nat) {id : Nat} {Q : Exit → Act → World → Prop} {a : Act} {w : World} {l : List Oper} (hm : P.follows .mixedOrders = true) (hB : flB l.toArray n0 = true)
    (h : WUp P l.toArray (fun w' => Up w w') (fun a' w' => wpList P l.toArray (onlyN Q) (l.drop n0) a' w') (l.take n0) 0 [] a) : (Code.region id l.toArray true).wp P Q a w := by
  have T := flB_text hB
  have hle : n0 ≤ l.length := by simpa using T.le
  obtain ⟨D, hU, hT, hZ⟩ := wpG_text (R := fun _ => Up) (Kc := fun _ => Up) (C := fun _ w' => Up w w') (Z := fun a' w' => wpList P l.toArray (onlyN Q) (l.drop n0) a' w') (a0 := a) (n0 := n0) T.c (l.take n0) 0 [] a (fun _ => False) (fun _ => undef) (fun _ _ _ => False) (by simp [hle]) (fun j hj => by
    simp only [List.length_take] at hj
    simp [show j < n0 by omega]) ⟨(Desc.refl a (fun _ => undef)).congr (fun i => by simp) (fun _ h => h.elim), fun i hi => absurd hi (Nat.not_lt_zero _), fun m hm => (by cases hm), fun i hi => absurd hi (Nat.not_lt_zero _)⟩
    (fun i hi => absurd hi (Nat.not_lt_zero _)) (fun j o hj => absurd hj (Nat.not_lt_zero _)) (wpUp_wpG _ _ _ _ h.out)
  refine wp_region_any hm (wpAny_gf (R := fun _ => Up) (Kc := fun _ => Up) (C := fun _ w' => Up w w') (I := fun _ w' => Up w w') (fun S w' j hI hS => hI) (fun S w1 w2 j hI hS hR => hI.trans hR) (fun j w' => Up.refl _) (fun k j w1 w2 hne hR => hR) (a0 := a) (Q := Q) (Q' := onlyN Q) T (fun _ _ h => h) (fun _ _ _ h => h) onlyN_out hU hT (by simpa using hZ) _ (List.range n0) _ a _ (fun _ => undef) (by simp; omega) (fun i hi _ => List.mem_range.2 hi) (fun i hi => ?_) (by simp) (fun i hi his => by
    have : i < l.length := by simpa using his
    simp [this]) (fun j o ho hj => ?_) ?_ ?_ ?_)
  · have hin := List.mem_range.1 hi
    have : i < l.length := by omega
    exact ⟨hin, by simp [this]⟩
  · rw [getD_replicate_false] at hj; cases hj
  · exact Up.drew (Up.refl w)
  · exact (Desc.refl a (fun _ => undef)).congr (fun i => by rw [getD_replicate_false]; simp) (fun _ h => h.elim)
  · intro i hi; rw [getD_replicate_false] at hi; cases hi

end
end Go.Proofs.YtmjpopfacagjhaaDoor
