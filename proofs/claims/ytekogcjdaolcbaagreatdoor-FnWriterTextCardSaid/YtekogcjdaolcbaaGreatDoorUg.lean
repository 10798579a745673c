/- A region whose order is open, all but one of whose operations only make new memory, and one of which writes into a row of the call's own (an append, a store): walked once in the order of the text. Conditions: those of the theorem wp_region_own. -/
import Derived.Test.YtekogcjdaolcbaaGreatDoorBa
namespace Go.Proofs.YtekogcjdaolcbaaGreatDoor
set_option linter.unusedVariables false
set_option linter.unusedSimpArgs false
open Go Go.RowKit

section
variable {P : Program} {ops : Array Oper}

def gOut (P : Program) (R : World → World → Prop) (D : Value → World → Prop) (w : World) : Result Next → Prop
  | .ok (.value v) w' => R w w' ∧ D v w'
  | .ok .skip w' => R w w' ∧ D undef w'
  | .ok (.enter f args) w' => w' = w ∧ Calls P f args w (fun e w'' => ∃ v, e = .returned v ∧ R w w'' ∧ D v w'')
  | _ => False
def gAt (P : Program) (R : World → World → Prop) (o : Oper) (a : Act) (w : World) (D : Value → World → Prop) : Prop := gOut P R D w ((execOp a.eval o).run P w)

theorem gAt.wp {o : Oper} {a : Act} {w : World} {D : Value → World → Prop} {K : Act → World → Prop} {Q : Exit → Act → World → Prop} {R : World → World → Prop} (h : gAt P R o a w D) (hK : ∀ v w', R w w' → D v w' → K (a.put o.dst v) w') : o.wp P a w K Q := by
  unfold gAt at h
  unfold Oper.wp
  generalize (execOp a.eval o).run P w = r at *
  cases r with
  | ok n w' =>
    cases n <;> simp only [gOut] at h <;> simp only [Oper.upon]
    case value v => exact hK _ _ h.1 h.2
    case skip => exact hK _ _ h.1 h.2
    case enter f args =>
      obtain ⟨rfl, hc⟩ := h
      exact hc.mono fun e w'' ⟨v, he, hu, hd⟩ => by subst he; exact hK _ _ hu hd
  | halt x w' => simp only [gOut] at h

def wpG (P : Program) (ops : Array Oper) (R : Nat → World → World → Prop) (Kc : Nat → World → World → Prop) (C : Nat → World → Prop) (Z : Act → World → Prop) : List Oper → Nat → List Mk → Act → Prop
  | [], k, E, a => ∀ w, C k w → fills E a w (fun a' => Z a' w)
  | o :: rest, k, E, a =>
    if Region.wanted o (yielded ops a.tmps) then
      (∃ v, (∀ w, C k w → fills (E.filter fun m => waitsB o m.1) a w (fun a' => gAt P (R k) o a' w (fun v' _ => v' = v))) ∧ wpG P ops R Kc C Z rest (k + 1) E (a.put o.dst v)) ∨
      (∃ D, guardFree ops k = true ∧ (∀ v w w', D v w → Kc k w w' → D v w') ∧ (∀ w, C k w → fills (E.filter fun m => waitsB o m.1) a w (fun a' => gAt P (R k) o a' w D)) ∧ wpG P ops R Kc C Z rest (k + 1) ((k, o.dst, D) :: E) a)
    else wpG P ops R Kc C Z rest (k + 1) E (a.put o.dst undef)

/-- An operation's turn, in whatever order. -/
def TurnG (P : Program) (ops : Array Oper) (n0 : Nat) (R : Nat → World → World → Prop) (C : Nat → World → Prop) (a0 : Act) (D : Nat → Value → World → Prop) (j : Nat) (o : Oper) : Prop :=
  ∀ (b : Act) (w : World) (vals : Nat → Value) (S : Nat → Prop), C j w → Desc ops a0 S vals b → (∀ i, S i → i < n0) → (∀ i, S i → i < j → D i (vals i) w) → (∀ i, waitsB o i = true → S i) →
    (∀ i x, S i → ops[i]? = some x → i ≠ j ∧ waitsB x j = false) →
    (Region.wanted o (yielded ops b.tmps) = true ∧ gAt P (R j) o b w (D j)) ∨ (Region.wanted o (yielded ops b.tmps) = false ∧ D j undef w)

theorem wpG_text {R Kc : Nat → World → World → Prop} {C : Nat → World → Prop} {Z : Act → World → Prop} {a0 : Act} {n0 : Nat} (T : UpText ops n0) : ∀ (l : List Oper) (k : Nat) (E : List Mk) (a : Act) (Cc : Nat → Prop) (cv : Nat → Value) (D : Nat → Value → World → Prop),
    k + l.length = n0 → (∀ j, j < l.length → l[j]? = ops[k + j]?) → Lex ops a0 k E a Cc cv D → (∀ i, i < k → ∀ v w w', D i v w → Kc i w w' → D i v w') → (∀ j o, j < k → ops[j]? = some o → TurnG P ops n0 R C a0 D j o) → wpG P ops R Kc C Z l k E a →
    ∃ D' : Nat → Value → World → Prop, (∀ i, i < n0 → ∀ v w w', D' i v w → Kc i w w' → D' i v w') ∧ (∀ j o, j < n0 → ops[j]? = some o → TurnG P ops n0 R C a0 D' j o) ∧
      (∀ (b : Act) (w : World) (vals : Nat → Value), C n0 w → Desc ops a0 (fun i => i < n0) vals b → (∀ i, i < n0 → D' i (vals i) w) → Z b w)
  | [], k, E, a, Cc, cv, D, hk, _, L, hU, hT, h => by
    simp only [List.length_nil, Nat.add_zero] at hk
    subst hk
    refine ⟨D, hU, hT, fun b w vals hC hb hD => ?_⟩
    classical
    have hf := (h w hC).inst (vals := vals) fun m hm => by
      obtain ⟨h1, _, _, h4, _⟩ := L.mem m hm
      rw [h4]; exact hD _ h1
    have hd := L.desc.congr (S' := fun i => i < k ∧ Cc i) (vals' := vals) (fun _ => Iff.rfl) (fun i hi => (L.const i hi.1 hi.2 _ _ (hD i hi.1)).symm)
    have hd := Desc.fill T E _ a (fun i hi => hi.1) hd (fun m hm => ⟨(L.mem m hm).1, (L.mem m hm).2.2.1⟩)
    have : fillWith vals E a = b := by
      have hag : ∀ t, (fillWith vals E a).tmps[t]? = b.tmps[t]? := fun t => hd.agree hb t fun i o ho hdst => ⟨⟨fun hi => ?_, fun hi => ?_⟩, fun _ => rfl⟩
      · have h1 : (fillWith vals E a).tmps = b.tmps := Array.ext_getElem? hag
        have h2 : (fillWith vals E a).defers = b.defers := hd.defers.trans hb.defers.symm
        cases hx : fillWith vals E a; cases hy : b
        rw [hx, hy] at h1 h2
        simp only at h1 h2
        rw [h1, h2]
      · rcases hi with hi | ⟨m, hm, rfl⟩
        · exact hi.1
        · exact (L.mem m hm).1
      · by_cases hc : Cc i
        · exact .inl ⟨hi, hc⟩
        · exact .inr (L.all i hi hc)
    rw [this] at hf
    exact hf
  | o :: rest, k, E, a, Cc, cv, D, hk, hl, L, hU, hT, h => by
    classical
    simp only [List.length_cons] at hk
    have ho : ops[k]? = some o := by have := hl 0 (by simp); simpa using this.symm
    have hkn : k < n0 := by omega
    have hmemo : o ∈ ops := Array.mem_of_getElem? ho
    -- what the guard sees
    have hwant : ∀ (b : Act) (w : World) (vals : Nat → Value) (S : Nat → Prop), Desc ops a0 S vals b → (∀ i, S i → i < k → D i (vals i) w) → (∀ i, waitsB o i = true → S i) →
        (∀ i x, S i → ops[i]? = some x → i ≠ k ∧ waitsB x k = false) → (∀ i, S i → i < n0) → Region.wanted o (yielded ops b.tmps) = Region.wanted o (yielded ops a.tmps) := by
      intro b w vals S hb hD hw hS hSn
      refine wanted_agree fun g bb t hg hd => hb.agree L.desc t fun i x hx hxd => ?_
      have hlook := guard_looks hg hd
      rcases Nat.lt_trichotomy i k with hik | rfl | hik
      · have hwi : waitsB o i = true := by
          rcases T.pair i k x o hik hkn hx ho with h | h
          · exact h
          · rw [not_apart hxd hlook] at h; cases h
        have hSi := hw i hwi
        have hCc : Cc i := by
          by_cases hc : Cc i
          · exact hc
          · obtain ⟨m, hm, rfl⟩ := L.all i hik hc
            obtain ⟨_, _, _, _, hgf⟩ := L.mem m hm
            exact absurd hd (guardFree_spec hgf (by rw [hx, Option.bind_some, hxd]) hmemo hg)
        exact ⟨⟨fun _ => ⟨hik, hCc⟩, fun _ => hSi⟩, fun _ => L.const i hik hCc _ _ (hD i hSi hik)⟩
      · exact ⟨⟨fun hi => absurd rfl (hS i x hi hx).1, fun hi => absurd hi.1 (Nat.lt_irrefl _)⟩, fun hi => absurd rfl (hS i x hi hx).1⟩
      · have hno : ¬ S i := fun hi => by
          rcases T.pair k i o x hik (hSn i hi) ho hx with h | h
          · rw [(hS i x hi hx).2] at h; cases h
          · rw [not_apart' hxd hlook] at h; cases h
        exact ⟨⟨fun hi => absurd hi hno, fun hi => absurd hi.1 (by omega)⟩, fun hi => absurd hi hno⟩
    have hexec : ∀ (b : Act) (w : World) (vals : Nat → Value) (S : Nat → Prop) (D1 : Value → World → Prop), Desc ops a0 S vals b → (∀ i, S i → i < k → D i (vals i) w) → (∀ i, waitsB o i = true → S i) →
        (∀ i x, S i → ops[i]? = some x → i ≠ k ∧ waitsB x k = false) → (∀ i, S i → i < n0) → fills (E.filter fun m => waitsB o m.1) a w (fun a' => gAt P (R k) o a' w D1) → gAt P (R k) o b w D1 := by
      intro b w vals S D1 hb hD hw hS hSn hf
      have hf := hf.inst (vals := fun i => if Cc i then cv i else vals i) fun m hm => by
        obtain ⟨hm1, hm2⟩ := List.mem_filter.1 hm
        obtain ⟨h1, h2, _, h4, _⟩ := L.mem m hm1
        rw [h4, if_neg h2]
        exact hD _ (hw _ hm2) h1
      have hd := L.desc.congr (S' := fun i => i < k ∧ Cc i) (vals' := fun i => if Cc i then cv i else vals i) (fun _ => Iff.rfl) (fun i hi => by simp only [hi.2, if_true])
      have hd := Desc.fill T (E.filter fun m => waitsB o m.1) _ a (fun i hi => Nat.lt_trans hi.1 hkn) hd (fun m hm => by
        obtain ⟨h1, _, h3, _⟩ := L.mem m (List.mem_filter.1 hm).1
        exact ⟨Nat.lt_trans h1 hkn, h3⟩)
      have he : execOp b.eval o = execOp (fillWith (fun i => if Cc i then cv i else vals i) (E.filter fun m => waitsB o m.1) a).eval o := by
        refine exec_agree (ops := ops) (T.sel k o · · ho) fun t hlook => hb.agree hd t fun i x hx hxd => ?_
        rcases Nat.lt_trichotomy i k with hik | rfl | hik
        · have hwi : waitsB o i = true := by
            rcases T.pair i k x o hik hkn hx ho with h | h
            · exact h
            · rw [not_apart hxd hlook] at h; cases h
          have hSi := hw i hwi
          by_cases hc : Cc i
          · exact ⟨⟨fun _ => .inl ⟨hik, hc⟩, fun _ => hSi⟩, fun _ => by simp only [hc, if_true]; exact L.const i hik hc _ _ (hD i hSi hik)⟩
          · obtain ⟨m, hm, rfl⟩ := L.all i hik hc
            exact ⟨⟨fun _ => .inr ⟨m, List.mem_filter.2 ⟨hm, hwi⟩, rfl⟩, fun _ => hSi⟩, fun _ => by simp only [hc, if_false]⟩
        · refine ⟨⟨fun hi => absurd rfl (hS i x hi hx).1, fun hi => ?_⟩, fun hi => absurd rfl (hS i x hi hx).1⟩
          rcases hi with hi | ⟨m, hm, hmi⟩
          · exact absurd hi.1 (Nat.lt_irrefl _)
          · exact absurd (hmi ▸ (L.mem m (List.mem_filter.1 hm).1).1) (Nat.lt_irrefl _)
        · have hno : ¬ S i := fun hi => by
            rcases T.pair k i o x hik (hSn i hi) ho hx with h | h
            · rw [(hS i x hi hx).2] at h; cases h
            · rw [not_apart' hxd hlook] at h; cases h
          refine ⟨⟨fun hi => absurd hi hno, fun hi => ?_⟩, fun hi => absurd hi hno⟩
          rcases hi with hi | ⟨m, hm, rfl⟩
          · exact absurd hi.1 (by omega)
          · exact absurd (L.mem m (List.mem_filter.1 hm).1).1 (by omega)
      unfold gAt at hf ⊢
      rw [he]
      exact hf
    have hrest : k + 1 + rest.length = n0 := by omega
    have hlrest : ∀ j, j < rest.length → rest[j]? = ops[k + 1 + j]? := fun j hj => by
      have := hl (j + 1) (by simp only [List.length_cons]; omega)
      rw [List.getElem?_cons_succ] at this
      rw [this, Nat.add_assoc, Nat.add_comm 1 j]
    have hdst : ∀ (i : Nat) (x : Oper) (d : Tmp), i < k → ops[i]? = some x → x.dst = some d → o.dst ≠ some d := fun i x d hi hx hd => T.dist i k x o d hi hkn hx ho hd
    have hotk : ∀ (Dk : Value → World → Prop) (i : Nat), i < k → (fun i => if i = k then Dk else D i) i = D i := fun Dk i hi => by simp only [show ¬ i = k by omega, if_false]
    have hTurn : ∀ (Dk : Value → World → Prop), TurnG P ops n0 R C a0 (fun i => if i = k then Dk else D i) k o → ∀ j x, j < k + 1 → ops[j]? = some x → TurnG P ops n0 R C a0 (fun i => if i = k then Dk else D i) j x := fun Dk h0 j x hj hx => by
      by_cases hjk : j = k
      · subst hjk
        rw [ho] at hx; cases hx
        exact h0
      · intro b w vals S hC hb hSn hD hw hS
        have := hT j x (by omega) hx b w vals S hC hb hSn (fun i hi hij => by have := hD i hi hij; rwa [hotk Dk i (by omega)] at this) hw hS
        rw [hotk Dk j (by omega)]
        exact this
    have hUp : ∀ (Dk : Value → World → Prop), (∀ v w w', Dk v w → Kc k w w' → Dk v w') → ∀ i, i < k + 1 → ∀ v w w', (fun i => if i = k then Dk else D i) i v w → Kc i w w' → (fun i => if i = k then Dk else D i) i v w' := fun Dk h0 i hi v => by
      by_cases hik : i = k
      · subst hik; simp only [if_true]; exact h0 v
      · rw [hotk Dk i (by omega)]; exact hU i (by omega) v
    have hLexC : ∀ (u : Value), Lex ops a0 (k + 1) E (a.put o.dst u) (fun i => Cc i ∨ i = k) (fun i => if i = k then u else cv i) (fun i => if i = k then (fun v' _ => v' = u) else D i) := fun u => by
      refine ⟨?_, ?_, ?_, ?_⟩
      · have h1 := L.desc.congr (S' := fun i => i < k ∧ Cc i) (vals' := fun i => if i = k then u else cv i) (fun _ => Iff.rfl) (fun i hi => by simp only [show ¬ i = k by omega, if_false])
        have h2 := h1.put (j := k) ho fun i x d hi _ hx hd => hdst i x d hi.1 hx hd
        simp only [if_true] at h2
        refine h2.congr (fun i => ?_) (fun _ _ => rfl)
        constructor
        · rintro (⟨h, h'⟩ | rfl)
          · exact ⟨by omega, .inl h'⟩
          · exact ⟨by omega, .inr rfl⟩
        · rintro ⟨h, h' | rfl⟩
          · by_cases hik : i = k
            · exact .inr hik
            · exact .inl ⟨by omega, h'⟩
          · exact .inr rfl
      · intro i hi hc v w hD
        by_cases hik : i = k
        · simp only [hik, if_true] at hD ⊢; exact hD
        · simp only [hik, if_false] at hD ⊢
          exact L.const i (by omega) (hc.resolve_right hik) v w hD
      · intro m hm
        obtain ⟨h1, h2, h3, h4, h5⟩ := L.mem m hm
        exact ⟨by omega, fun h => h.elim h2 (by omega), h3, by rw [h4]; simp only [show ¬ m.1 = k by omega, if_false], h5⟩
      · intro i hi hc
        exact L.all i (by have : i ≠ k := fun h => hc (.inr h); omega) (fun h => hc (.inl h))
    have hLexM : ∀ (Dk : Value → World → Prop), guardFree ops k = true → Lex ops a0 (k + 1) ((k, o.dst, Dk) :: E) a (fun i => Cc i ∧ i ≠ k) cv (fun i => if i = k then Dk else D i) := fun Dk hg => by
      refine ⟨?_, ?_, ?_, ?_⟩
      · refine L.desc.congr (fun i => ?_) (fun _ _ => rfl)
        constructor
        · rintro ⟨h, h'⟩; exact ⟨by omega, h', by omega⟩
        · rintro ⟨h, h', h''⟩; exact ⟨by omega, h'⟩
      · intro i hi hc v w hD
        simp only [hc.2, if_false] at hD
        exact L.const i (by have := hc.2; omega) hc.1 v w hD
      · intro m hm
        rcases List.mem_cons.1 hm with rfl | hm
        · exact ⟨by simp, fun h => h.2 rfl, by simp only [ho, Option.bind_some], by simp only [if_true], hg⟩
        · obtain ⟨h1, h2, h3, h4, h5⟩ := L.mem m hm
          exact ⟨by omega, fun h => h2 h.1, h3, by rw [h4]; simp only [show ¬ m.1 = k by omega, if_false], h5⟩
      · intro i hi hc
        by_cases hik : i = k
        · exact ⟨_, List.mem_cons_self .., hik.symm⟩
        · obtain ⟨m, hm, hmi⟩ := L.all i (by omega) (fun h => hc ⟨h, hik⟩)
          exact ⟨m, List.mem_cons_of_mem _ hm, hmi⟩
    unfold wpG at h
    by_cases hwt : Region.wanted o (yielded ops a.tmps) = true
    · simp only [hwt, if_true] at h
      rcases h with ⟨v, h1, h2⟩ | ⟨Dk, hg, hcl, h1, h2⟩
      · refine wpG_text T rest (k + 1) E _ _ _ _ hrest hlrest (hLexC v) (hUp _ fun _ _ _ h _ => h) (hTurn _ ?_) h2
        intro b w vals S hC hb hSn hD hw hS
        have hD' : ∀ i, S i → i < k → D i (vals i) w := fun i hi hik => by have := hD i hi hik; rwa [hotk _ i hik] at this
        refine .inl ⟨(hwant b w vals S hb hD' hw hS hSn).trans hwt, ?_⟩
        simp only [if_true]
        exact hexec b w vals S _ hb hD' hw hS hSn (h1 w hC)
      · refine wpG_text T rest (k + 1) _ _ _ _ _ hrest hlrest (hLexM Dk hg) (hUp _ hcl) (hTurn _ ?_) h2
        intro b w vals S hC hb hSn hD hw hS
        have hD' : ∀ i, S i → i < k → D i (vals i) w := fun i hi hik => by have := hD i hi hik; rwa [hotk _ i hik] at this
        refine .inl ⟨(hwant b w vals S hb hD' hw hS hSn).trans hwt, ?_⟩
        simp only [if_true]
        exact hexec b w vals S _ hb hD' hw hS hSn (h1 w hC)
    · simp only [hwt] at h
      refine wpG_text T rest (k + 1) E _ _ _ _ hrest hlrest (hLexC undef) (hUp _ fun _ _ _ h _ => h) (hTurn _ ?_) h
      intro b w vals S hC hb hSn hD hw hS
      have hD' : ∀ i, S i → i < k → D i (vals i) w := fun i hi hik => by have := hD i hi hik; rwa [hotk _ i hik] at this
      refine .inr ⟨(hwant b w vals S hb hD' hw hS hSn).trans (by simpa using hwt), ?_⟩
      simp only [if_true]

theorem wpAny_g {R Kc : Nat → World → World → Prop} {C : Nat → World → Prop} {I : (Nat → Prop) → World → Prop} (hIC : ∀ S w j, I S w → ¬ S j → C j w) (hIR : ∀ S w w' j, I S w → ¬ S j → R j w w' → I (fun i => S i ∨ i = j) w') (hRr : ∀ j w, R j w w) (hRK : ∀ k j w w', j ≠ k → R j w w' → Kc k w w') {a0 : Act} {n0 : Nat} (T : UpText ops n0) {D : Nat → Value → World → Prop} {Q : Exit → Act → World → Prop} (hU : ∀ i, i < n0 → ∀ v w w', D i v w → Kc i w w' → D i v w') (hT : ∀ j o, j < n0 → ops[j]? = some o → TurnG P ops n0 R C a0 D j o)
    (hZ : ∀ (b : Act) (w : World) (vals : Nat → Value), C n0 w → Desc ops a0 (fun i => i < n0) vals b → (∀ i, i < n0 → D i (vals i) w) → wpList P ops Q (ops.toList.drop n0) b w) :
    ∀ (fuel : Nat) (L : List Nat) (listed : Array Bool) (a : Act) (w : World) (vals : Nat → Value), L.length + (ops.size - n0) ≤ fuel → (∀ i, i < n0 → listed.getD i true = false → i ∈ L) → listed.size = ops.size →
      (∀ i, n0 ≤ i → i < ops.size → listed.getD i true = false) → (∀ j o, ops[j]? = some o → listed.getD j false = true → ∀ e ∈ o.after, Region.binds .any e = true → listed.getD e.on false = true) →
      I (fun i => listed.getD i false = true) w → Desc ops a0 (fun i => listed.getD i false = true) vals a → (∀ i, listed.getD i false = true → D i (vals i) w) → wpAny P .any ops Q fuel listed a w := by
  intro fuel
  induction fuel with
  | zero =>
    intro L listed a w vals hL hun hsz htl hcl hC hd hD
    have hnot : ¬ listed.getD n0 false = true := fun e => by
      rcases Nat.lt_or_ge n0 ops.size with h | h
      · have := getD_both (htl n0 (Nat.le_refl _) h); simp_all
      · rw [Array.getD_eq_getD_getElem?, Array.getElem?_eq_none (by omega)] at e; cases e
    have hL0 : L = [] := List.length_eq_zero_iff.1 (by omega)
    subst hL0
    have hn : n0 = ops.size := by have := T.le; omega
    have hall : ∀ i, i < n0 → listed.getD i false = true := fun i hi => by
      cases h : listed.getD i false with
      | true => rfl
      | false => exact absurd (hun i hi (getD_in (by omega) h)) List.not_mem_nil
    refine wpAny_tail T (ops.toList.drop n0) n0 0 listed a w (Nat.le_refl _) (by simp; omega) (by simp; omega) (fun j hj => by simp) hsz hall (fun i h1 h2 => by omega) (hZ a w vals (hIC _ w n0 hC hnot) (hd.congr (fun i => ⟨fun h => ?_, hall i⟩) fun _ _ => rfl) (fun i hi => hD i (hall i hi)))
    rcases Nat.lt_or_ge i n0 with hi | hi
    · exact hi
    · rw [Array.getD_eq_getD_getElem?, Array.getElem?_eq_none (by omega)] at h; cases h
  | succ fuel ih =>
    intro L listed a w vals hL hun hsz htl hcl hC hd hD
    have hnot : ¬ listed.getD n0 false = true := fun e => by
      rcases Nat.lt_or_ge n0 ops.size with h | h
      · have := getD_both (htl n0 (Nat.le_refl _) h); simp_all
      · rw [Array.getD_eq_getD_getElem?, Array.getElem?_eq_none (by omega)] at e; cases e
    by_cases hall : ∀ i, i < n0 → listed.getD i false = true
    · refine wpAny_tail T (ops.toList.drop n0) n0 (fuel + 1) listed a w (Nat.le_refl _) (by simp; have := T.le; omega) (by simp; omega) (fun j hj => by simp) hsz hall htl (hZ a w vals (hIC _ w n0 hC hnot) (hd.congr (fun i => ⟨fun h => ?_, hall i⟩) fun _ _ => rfl) (fun i hi => hD i (hall i hi)))
      rcases Nat.lt_or_ge i n0 with hi | hi
      · exact hi
      · rcases Nat.lt_or_ge i ops.size with his | his
        · have := getD_both (htl i hi his); simp_all
        · rw [Array.getD_eq_getD_getElem?, Array.getElem?_eq_none (by omega)] at h; cases h
    · -- the least one that is not listed is ready
      have hready : Region.ready .any ops listed ≠ [] ∧ ∀ i ∈ Region.ready .any ops listed, i < n0 := by
        obtain ⟨m, hm, hmn, hmin⟩ : ∃ m, m < n0 ∧ listed.getD m false = false ∧ ∀ i, i < m → listed.getD i false = true := by
          have : ∀ d, (∀ i, i < d → listed.getD i false = true) ∨ ∃ m, m < d ∧ listed.getD m false = false ∧ ∀ i, i < m → listed.getD i false = true := by
            intro d
            induction d with
            | zero => exact .inl fun i hi => absurd hi (Nat.not_lt_zero _)
            | succ d ihd =>
              rcases ihd with h | ⟨m, h1, h2⟩
              · cases hx : listed.getD d false with
                | false => exact .inr ⟨d, by omega, hx, h⟩
                | true =>
                  refine .inl fun i hi => ?_
                  rcases Nat.lt_or_ge i d with h' | h'
                  · exact h i h'
                  · have hid : i = d := by omega
                    rw [hid]; exact hx
              · exact .inr ⟨m, by omega, h2⟩
          rcases this n0 with h | h
          · exact absurd h hall
          · exact h
        have hms : m < ops.size := Nat.lt_of_lt_of_le hm T.le
        have hmt : listed.getD m true = false := getD_in (by omega) hmn
        refine ⟨fun hr => ?_, fun i hi => ?_⟩
        · have : m ∈ Region.ready .any ops listed := mem_ready.2 ⟨hmt, ops[m], by simp [hms], fun e he hb => hmin _ (T.lex m _ (by simp [hms]) e he hb)⟩
          rw [hr] at this; cases this
        · obtain ⟨_, o, ho, hal⟩ := mem_ready.1 hi
          rcases Nat.lt_or_ge i n0 with h | h
          · exact h
          · have hw := T.tail m i o (by omega) h ho
            obtain ⟨e, he, hb⟩ := waitsB_spec hw
            have := hal e he hb.1
            rw [hb.2, hmn] at this
            cases this
      refine ⟨fun hr => absurd hr hready.1, fun i hi => ?_⟩
      have hin := hready.2 i hi
      obtain ⟨hunl, o, ho, hal⟩ := mem_ready.1 hi
      have his : i < ops.size := (Array.getElem?_eq_some_iff.1 ho).1
      have hilf : listed.getD i false = false := getD_both hunl
      have hSn : ∀ j, listed.getD j false = true → j < n0 := fun j hj => by
        rcases Nat.lt_or_ge j n0 with h | h
        · exact h
        · rcases Nat.lt_or_ge j ops.size with his | his
          · have := getD_both (htl j h his); simp_all
          · rw [Array.getD_eq_getD_getElem?, Array.getElem?_eq_none (by omega)] at hj; cases hj
      have hturn := hT i o hin ho a w vals (fun j => listed.getD j false = true) (hIC _ w i hC (by rw [hilf]; simp)) hd hSn (fun j hj _ => hD j hj) (fun j hj => by
        obtain ⟨e, he, hb⟩ := waitsB_spec hj
        rw [← hb.2]; exact hal e he hb.1) (fun j x hj hx => ⟨fun hji => (by subst hji; rw [hilf] at hj; cases hj), by
        cases hxw : waitsB x i with
        | false => rfl
        | true =>
          obtain ⟨e, he, hb⟩ := waitsB_spec hxw
          have := hcl j x hx hj e he hb.1
          rw [hb.2, hilf] at this
          cases this⟩)
      -- what follows, the value being v, the world w'
      have hnext : ∀ v w', R i w w' → D i v w' → wpAny P .any ops Q fuel (listed.setIfInBounds i true) (a.put o.dst v) w' := by
        intro v w' hu hv
        refine ih (L.erase i) (listed.setIfInBounds i true) _ w' (fun j => if j = i then v else vals j) ?_ ?_ (by simp [hsz]) ?_ ?_ (by have h1 := hIR _ w w' i hC (by rw [hilf]; simp) hu; have e : (fun j => listed.getD j false = true ∨ j = i) = (fun j => (listed.setIfInBounds i true).getD j false = true) := (by funext j; by_cases hji : j = i; (· subst hji; simp [hsz, his]); (· rw [getD_set_ne false (Ne.symm hji)]; simp [hji])); rw [e] at h1; exact h1) ?_ ?_
        · have hmem := hun i hin hunl
          have := List.length_erase_of_mem hmem
          have hpos : 0 < L.length := List.length_pos_of_mem hmem
          omega
        · intro j hj hjl
          by_cases hji : j = i
          · subst hji; simp [hsz, his] at hjl
          · rw [getD_set_ne true (Ne.symm hji)] at hjl
            exact (List.mem_erase_of_ne hji).2 (hun j hj hjl)
        · intro j hj hjs
          rw [getD_set_ne true (by omega)]; exact htl j hj hjs
        · intro j x hx hjl e he hb
          by_cases hji : j = i
          · subst hji
            rw [ho] at hx; cases hx
            exact getD_set_true (hal e he hb)
          · rw [getD_set_ne false (Ne.symm hji)] at hjl
            exact getD_set_true (hcl j x hx hjl e he hb)
        · have h1 := hd.congr (S' := fun j => listed.getD j false = true) (vals' := fun j => if j = i then v else vals j) (fun _ => Iff.rfl) (fun j hj => by
            have : ¬ j = i := fun h => by subst h; rw [hilf] at hj; cases hj
            simp only [this, if_false])
          have h2 := h1.put (j := i) ho fun j x d hj hne hx hd' => by
            rcases Nat.lt_or_ge j i with hl | hl
            · exact T.dist j i x o d hl hin hx ho hd'
            · intro e
              exact T.dist i j o x d (by omega) (hSn j hj) ho hx e hd'
          simp only [if_true] at h2
          refine h2.congr (fun j => ?_) (fun _ _ => rfl)
          by_cases hji : j = i
          · subst hji; simp [hsz, his]
          · rw [getD_set_ne false (Ne.symm hji)]; simp [hji]
        · intro j hj
          by_cases hji : j = i
          · subst hji; simp only [if_true]; exact hv
          · rw [getD_set_ne false (Ne.symm hji)] at hj
            simp only [hji, if_false]
            exact hU j (hSn j hj) _ _ _ (hD j hj) (hRK j i _ _ (fun e => hji e.symm) hu)
      unfold wpOp
      simp only [ho]
      rcases hturn with ⟨hw, hat⟩ | ⟨hw, hdu⟩
      · simp only [hw, if_true]
        exact .inl (hat.wp hnext)
      · simp only [hw, Bool.false_eq_true, if_false]
        exact hnext undef w (hRr i w) hdu


theorem gAt_up {o : Oper} {a : Act} {w : World} {D : Value → World → Prop} (h : upAt P o a w D) : gAt P Up o a w D := by
  unfold upAt at h
  unfold gAt
  generalize (execOp a.eval o).run P w = r at *
  cases r with
  | ok n w' => cases n <;> exact h
  | halt x w' => exact h

def gC (wr : World) (row : Option Nat) (j0 j : Nat) (w : World) : Prop := if j = j0 then Up wr w else wr.grownBy w row
def gR (row : Option Nat) (j0 j : Nat) (w w' : World) : Prop := if j = j0 then w.grownBy w' row else Up w w'
def gK (row : Option Nat) (j0 j : Nat) (w w' : World) : Prop := if j = j0 then Up w w' else w.grownBy w' row

/-- The lexical walk, behind a name that nothing unfolds. -/
structure WG (P : Program) (ops : Array Oper) (wr : World) (row : Option Nat) (j0 : Nat) (Z : Act → World → Prop) (l : List Oper) (k : Nat) (E : List Mk) (a : Act) : Prop where
  out : wpG P ops (gR row j0) (gK row j0) (gC wr row j0) Z l k E a

/-- THE THEOREM: operation j0 writes into the row of the call's own; the first n0 operations are walked in the order of the text; then the tail. -/
theorem wp_region_own (n0 j0 : Nat) (row : Option Nat) {id : Nat} {Q : Exit → Act → World → Prop} {a : Act} {w : World} {l : List Oper} (hm : P.follows .mixedOrders = true) (hB : upB l.toArray n0 = true)
    (h : WG P l.toArray w row j0 (fun a' w' => wpList P l.toArray Q (l.drop n0) a' w') (l.take n0) 0 [] a) : (Code.region id l.toArray true).wp P Q a w := by
  have T := upB_text hB
  have hle : n0 ≤ l.length := by simpa using T.le
  obtain ⟨D, hU, hT, hZ⟩ := wpG_text (R := gR row j0) (Kc := gK row j0) (C := gC w row j0) (Z := fun a' w' => wpList P l.toArray Q (l.drop n0) a' w') (a0 := a) (n0 := n0) T (l.take n0) 0 [] a (fun _ => False) (fun _ => undef) (fun _ _ _ => False) (by simp [hle]) (fun j hj => by
    simp only [List.length_take] at hj
    simp [show j < n0 by omega]) ⟨(Desc.refl a (fun _ => undef)).congr (fun i => by simp) (fun _ h => h.elim), fun i hi => absurd hi (Nat.not_lt_zero _), fun m hm => (by cases hm), fun i hi => absurd hi (Nat.not_lt_zero _)⟩
    (fun i hi => absurd hi (Nat.not_lt_zero _)) (fun j o hj => absurd hj (Nat.not_lt_zero _)) h.out
  refine wp_region_any hm (wpAny_g (R := gR row j0) (Kc := gK row j0) (C := gC w row j0) (I := fun S w' => w.grownBy w' row ∧ (¬ S j0 → Up w w')) (fun S w' j hI hS => ?_) (fun S w1 w2 j hI hS hR => ?_) (fun j w' => ?_) (fun k j w1 w2 hne hR => ?_) (a0 := a) T hU hT (by simpa using hZ) _ (List.range n0) _ a _ (fun _ => undef) (by simp; omega) (fun i hi _ => List.mem_range.2 hi) (by simp) (fun i hi his => by
    have : i < l.length := by simpa using his
    simp [this]) (fun j o ho hj => ?_) ?_ ?_ ?_)
  · unfold gC
    split
    · next e => subst e; exact hI.2 hS
    · exact hI.1
  · unfold gR at hR
    split at hR
    · next e => subst e; exact ⟨grownBy_trans hI.1 hR, fun h => absurd (.inr rfl) h⟩
    · next e => exact ⟨grownBy_up hI.1 hR, fun h => (hI.2 fun h' => h (.inl h')).trans hR⟩
  · unfold gR
    split
    · exact grownBy_refl _ _
    · exact Up.refl _
  · unfold gR at hR
    unfold gK
    split at hR
    · next e => subst e; rw [if_neg (fun e => hne e.symm)]; exact hR
    · split
      · exact hR
      · exact up_grownBy hR _
  · rw [getD_replicate_false] at hj; cases hj
  · exact ⟨up_grownBy (Up.drew (Up.refl w)) _, fun _ => Up.drew (Up.refl w)⟩
  · exact (Desc.refl a (fun _ => undef)).congr (fun i => by rw [getD_replicate_false]; simp) (fun _ h => h.elim)
  · intro i hi; rw [getD_replicate_false] at hi; cases hi

section
variable {wr : World} {row : Option Nat} {j0 : Nat} {Z : Act → World → Prop} {o : Oper} {rest : List Oper} {k : Nat} {E : List Mk} {a : Act}
/-- One operation's step, behind a name. -/
def stepG (P : Program) (ops : Array Oper) (wr : World) (row : Option Nat) (j0 : Nat) (E : List Mk) (k : Nat) (o : Oper) (a : Act) (K : List Mk → Act → Prop) : Prop :=
  (∃ v, (∀ w, gC wr row j0 k w → fills (E.filter fun m => waitsB o m.1) a w (fun a' => gAt P (gR row j0 k) o a' w (fun v' _ => v' = v))) ∧ K E (a.put o.dst v)) ∨
  (∃ D, guardFree ops k = true ∧ (∀ v w w', D v w → gK row j0 k w w' → D v w') ∧ (∀ w, gC wr row j0 k w → fills (E.filter fun m => waitsB o m.1) a w (fun a' => gAt P (gR row j0 k) o a' w D)) ∧ K ((k, o.dst, D) :: E) a)
theorem wpG_step (h : ∀ K : List Mk → Act → Prop, (∀ E a, WG P ops wr row j0 Z rest (k + 1) E a → K E a) → if Region.wanted o (yielded ops a.tmps) then stepG P ops wr row j0 E k o a K else K E (a.put o.dst undef)) : WG P ops wr row j0 Z (o :: rest) k E a := by
  have := h (fun E a => wpG P ops (gR row j0) (gK row j0) (gC wr row j0) Z rest (k + 1) E a) fun _ _ h => h.out
  refine ⟨?_⟩
  unfold wpG
  exact this
theorem fills_mono {w : World} {K K' : Act → Prop} (h : ∀ a, K a → K' a) : ∀ {E : List Mk} {a : Act}, fills E a w K → fills E a w K'
  | [], _, hf => h _ hf
  | (_, _, _) :: _, _, hf => fun v hv => fills_mono h (hf v hv)
theorem stepG_c {K : List Mk → Act → Prop} (hk : (k == j0) = false) (v : Value) (h1 : ∀ w, wr.grownBy w row → fills (E.filter fun m => waitsB o m.1) a w (fun a' => upAt P o a' w (fun v' _ => v' = v))) (h2 : K E (a.put o.dst v)) : stepG P ops wr row j0 E k o a K := by
  have hk' : ¬ k = j0 := by simpa using hk
  refine .inl ⟨v, fun w hC => ?_, h2⟩
  unfold gC at hC
  rw [if_neg hk'] at hC
  refine fills_mono (fun a' h => ?_) (h1 w hC)
  have : gR row j0 k = Up := by funext w w'; unfold gR; rw [if_neg hk']
  rw [this]; exact gAt_up h
theorem stepG_m {K : List Mk → Act → Prop} (hk : (k == j0) = false) (hg : guardFree ops k = true) (D : Value → World → Prop) (hD : ∀ v w w', D v w → w.grownBy w' row → D v w')
    (h1 : ∀ w, wr.grownBy w row → fills (E.filter fun m => waitsB o m.1) a w (fun a' => upAt P o a' w D)) (h2 : K ((k, o.dst, D) :: E) a) : stepG P ops wr row j0 E k o a K := by
  have hk' : ¬ k = j0 := by simpa using hk
  refine .inr ⟨D, hg, fun v w w' h hK => hD v w w' h (by unfold gK at hK; rwa [if_neg hk'] at hK), fun w hC => ?_, h2⟩
  unfold gC at hC
  rw [if_neg hk'] at hC
  refine fills_mono (fun a' h => ?_) (h1 w hC)
  have : gR row j0 k = Up := by funext w w'; unfold gR; rw [if_neg hk']
  rw [this]; exact gAt_up h
theorem stepG_own {K : List Mk → Act → Prop} (hk : (k == j0) = true) (hg : guardFree ops k = true) (D : Value → World → Prop) (hD : ∀ v, UpClosed (D v))
    (h1 : ∀ w, Up wr w → fills (E.filter fun m => waitsB o m.1) a w (fun a' => gAt P (fun w w' => w.grownBy w' row) o a' w D)) (h2 : K ((k, o.dst, D) :: E) a) : stepG P ops wr row j0 E k o a K := by
  have hk' : k = j0 := by simpa using hk
  refine .inr ⟨D, hg, fun v w w' h hK => hD v w w' h (by unfold gK at hK; rwa [if_pos hk'] at hK), fun w hC => ?_, h2⟩
  unfold gC at hC
  rw [if_pos hk'] at hC
  refine fills_mono (fun a' h => ?_) (h1 w hC)
  have : gR row j0 k = (fun w w' => w.grownBy w' row) := by funext w w'; unfold gR; rw [if_pos hk']
  rw [this]; exact h
theorem wpG_nil (hk : (k == j0) = false) (h : ∀ w, wr.grownBy w row → fills E a w (fun a' => Z a' w)) : WG P ops wr row j0 Z [] k E a := by
  refine ⟨fun w hC => h w ?_⟩
  unfold gC at hC
  rwa [if_neg (by simpa using hk)] at hC
end

/-- An append onto a row of the call's own. -/
theorem gAt_append {o : Oper} {a : Act} {w : World} (s x : Operand) (t : TypeId)
    (ho : o.op = .call { callee := .builtin .append, args := #[s, x], argTypes := #[t, t] })
    (base : Nat) (e : TypeId) (i : TypeInfo) (z : Value) (size bytes : Nat) (ht : P.underlying t = some (.slice e)) (hi : P.info? e = some i) (hz : i.zero = some z)
    (hsize : i.size = size) (hby : i.bytes = bytes) (hzs : z.cells.size = size) (hsz : 0 < size)
    (v : Value) (n : Nat) (xs : List Value) (hs : a.eval s = v) (hown : w.ownsRow base e size v n xs)
    (ad : Addr) (m c : Nat) (news : List Value) (hx : a.eval x = .slice (some ad) m c) (hl : news.length = m * size) (hnews : ∀ j u, news[j]? = some u → w.cell? (ad.add j) = some u) (h1 : ∀ u ∈ news, u.oneCell' = true)
    (h63 : n + m ≤ maxLen) (hbytes : (n + m) * bytes ≤ 140737488355328) (hbase : base ≤ w.heap.size)
    (row : Option Nat) (hrow : v.ownBlock = row) : gAt P (fun w w' => w.grownBy w' row) o a w (fun v' w' => w'.ownsRow base e size v' (n + m) (xs ++ news)) := by
  obtain ⟨v', w', hr, h2, h3, h4⟩ := run_append_own (P := P) w base t o.type e i z size bytes ht hi hz hsize hby hzs hsz v n xs hown ad m c news hl hnews h1 h63 hbytes hbase
  unfold gAt execOp
  simp only [ho, resolve, invoke, builtin, Sem.run_bind, Sem.run_pure, Result.andThen_ok, List.map_toArray, List.map_cons, List.map_nil, hs, hx, hr]
  exact ⟨hrow ▸ h3, h2⟩

/-- An append that must grow only makes memory. -/
theorem run_append_new (base : Nat) (t ty e : TypeId) (i : TypeInfo) (z : Value) (size bytes : Nat) (ht : P.underlying t = some (.slice e)) (hi : P.info? e = some i) (hz : i.zero = some z)
    (hsize : i.size = size) (hby : i.bytes = bytes) (hzs : z.cells.size = size) (hsz : 0 < size)
    (w : World) (g n cap : Nat) (xs : List Value) (hown : w.ownsRow base e size (.slice (some ⟨g, 0, none⟩) n cap) n xs)
    (ad : Addr) (m c : Nat) (news : List Value) (hl : news.length = m * size) (hnews : ∀ j u, news[j]? = some u → w.cell? (ad.add j) = some u) (h1 : ∀ u ∈ news, u.oneCell' = true)
    (h63 : n + m ≤ maxLen) (hbytes : (n + m) * bytes ≤ 140737488355328) (hbase : base ≤ w.heap.size) (hg : cap < n + m) :
    ∃ v' w', (Builtin.append_ #[t, t] ty #[.slice (some ⟨g, 0, none⟩) n cap, .slice (some ad) m c]).run P w = .ok v' w' ∧ w'.ownsRow base e size v' (n + m) (xs ++ news) ∧ Up w w' := by
  obtain ⟨v', w', hr, h2, h3, h4⟩ := run_append_own (P := P) w base t ty e i z size bytes ht hi hz hsize hby hzs hsz _ n xs hown ad m c news hl hnews h1 h63 hbytes hbase
  subst hsize hby
  have hr2 := run_append_grow (P := P) w t ty e i z ht hi hz ⟨g, 0, none⟩ n cap xs hown.1 (hown.cells (g := g) rfl) ad m c news hl hnews hg (by unfold maxLen at h63; omega) (growslice_fits (by omega) hbytes)
  rw [hr] at hr2
  simp only [Result.ok.injEq] at hr2
  refine ⟨v', w', hr, h2, ?_⟩
  have hu : Up w (w.drew.alloc (.cells (xs.toArray ++ news.toArray ++ Builtin.zeroCells z.cells (grownCap w (n + m) cap e - (n + m))) e)) := by
    have h0 : Up w w := Up.refl w
    have h1 : Up w w.drew := Up.drew h0
    exact Up.alloc h1 _
  rw [hr2.2]
  exact hu

theorem gcell {W w1 : World} {row : Option Nat} (hb : W.grownBy w1 row) : (∀ b o, b < W.heap.size → some b ≠ row → w1.cell? ⟨b, o, none⟩ = W.cell? ⟨b, o, none⟩) ∧ (∀ b o, b < W.heap.size → some b ≠ row → w1.frozen? ⟨b, o, none⟩ = W.frozen? ⟨b, o, none⟩) :=
  ⟨fun b o h hne => by unfold World.cell?; rw [hb.block b h hne], fun b o h hne => by unfold World.frozen?; rw [hb.block b h hne]⟩
theorem gbox {W w1 : World} {row : Option Nat} (hb : W.grownBy w1 row) {b : Nat} {o : Obj} (h : W.heap[b]? = some o) (hne : some b ≠ row) : w1.heap[b]? = some o :=
  (hb.block b (Array.getElem?_eq_some_iff.1 h).1 hne).trans h

end
end Go.Proofs.YtekogcjdaolcbaaGreatDoor
