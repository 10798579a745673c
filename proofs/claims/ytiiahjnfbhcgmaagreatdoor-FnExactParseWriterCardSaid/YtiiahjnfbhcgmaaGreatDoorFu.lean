/- As wp_region_up, but the tail's operations may wait for those before them by way of others. Conditions: those of the theorem wp_region_upR. -/
import Derived.Test.YtiiahjnfbhcgmaaGreatDoorFl
namespace Go.Proofs.YtiiahjnfbhcgmaaGreatDoor
set_option linter.unusedVariables false
set_option linter.unusedSimpArgs false
open Go Go.RowKit

section
variable {P : Program} {ops : Array Oper}
/-- What the region's text must show, by reckoning. -/
def upBR (ops : Array Oper) (n0 : Nat) : Bool :=
  Region.noSelect ops && decide (n0 ≤ ops.size) &&
  ((List.range ops.size).all fun j => match ops[j]? with
    | none => true
    | some o => (o.after.all fun e => !Region.binds .any e || decide (e.on < j)) &&
      ((List.range j).all fun i => match ops[i]? with
        | none => true
        | some x => if j < n0 then (waitsB o i || x.apart ops o) && (match x.dst with | some d => o.dst != some d | none => true) else reachB ops 12 j i))

structure UpTextR (ops : Array Oper) (n0 : Nat) : Prop where
  sel : ∀ (j : Nat) (o : Oper) cs b, ops[j]? = some o → o.op ≠ .select cs b
  le : n0 ≤ ops.size
  lex : ∀ (j : Nat) (o : Oper), ops[j]? = some o → ∀ e ∈ o.after, Region.binds .any e = true → e.on < j
  pair : ∀ (i j : Nat) (x o : Oper), i < j → j < n0 → ops[i]? = some x → ops[j]? = some o → waitsB o i = true ∨ x.apart ops o = true
  dist : ∀ (i j : Nat) (x o : Oper) (d : Tmp), i < j → j < n0 → ops[i]? = some x → ops[j]? = some o → x.dst = some d → o.dst ≠ some d
  tail : ∀ (i j : Nat) (o : Oper), i < j → n0 ≤ j → ops[j]? = some o → reachB ops 12 j i = true

theorem upB_textR {n0 : Nat} (h : upBR ops n0 = true) : UpTextR ops n0 := by
  unfold upBR at h
  simp only [Bool.and_eq_true, decide_eq_true_eq] at h
  obtain ⟨⟨h1, h2⟩, h3⟩ := h
  have h3 := List.all_eq_true.1 h3
  have hj : ∀ (j : Nat) (o : Oper), ops[j]? = some o → (∀ e ∈ o.after, Region.binds .any e = true → e.on < j) ∧ ∀ (i : Nat) (x : Oper), i < j → ops[i]? = some x → (if j < n0 then (waitsB o i || x.apart ops o) && (match x.dst with | some d => o.dst != some d | none => true) else reachB ops 12 j i) = true := by
    intro j o ho
    have hlt : j < ops.size := (Array.getElem?_eq_some_iff.1 ho).1
    have := h3 j (List.mem_range.2 hlt)
    simp only [ho, Bool.and_eq_true] at this
    obtain ⟨ha, hb⟩ := this
    refine ⟨fun e he hb => ?_, fun i x hi hx => ?_⟩
    · have := Array.all_eq_true_iff_forall_mem.1 ha e he
      simpa [hb] using this
    · have := List.all_eq_true.1 hb i (List.mem_range.2 hi)
      simpa only [hx] using this
  refine ⟨fun j o cs b ho => Region.noSelect_spec h1 j o cs b ho, h2, fun j o ho => (hj j o ho).1, fun i j x o hi hn hx ho => ?_, fun i j x o d hi hn hx ho hd => ?_, fun i j o hi hn ho => ?_⟩
  · have := (hj j o ho).2 i x hi hx
    simp only [hn, if_true, Bool.and_eq_true, Bool.or_eq_true] at this
    exact this.1
  · have := (hj j o ho).2 i x hi hx
    simp only [hn, if_true, Bool.and_eq_true, hd] at this
    simpa using this.2
  · have hlt : j < ops.size := (Array.getElem?_eq_some_iff.1 ho).1
    have hx : ops[i]? = some ops[i] := by simp [show i < ops.size by omega]
    have := (hj j o ho).2 i _ hi hx
    simpa only [show ¬ j < n0 by omega, if_false] using this


theorem Desc.fillR {a0 : Act} {n0 : Nat} (T : UpTextR ops n0) {vals : Nat → Value} : ∀ (E : List Mk) (S : Nat → Prop) (a : Act), (∀ i, S i → i < n0) → Desc ops a0 S vals a →
    (∀ m ∈ E, m.1 < n0 ∧ m.2.1 = (ops[m.1]?).bind (·.dst)) → Desc ops a0 (fun i => S i ∨ ∃ m ∈ E, m.1 = i) vals (fillWith vals E a)
  | [], S, a, _, h, _ => h.congr (fun i => by simp) (fun _ _ => rfl)
  | (i, d, D) :: E, S, a, hS, h, hE => by
    obtain ⟨hi, hd⟩ := hE _ (List.mem_cons_self ..)
    have hlt : i < ops.size := Nat.lt_of_lt_of_le hi T.le
    have ho : ops[i]? = some ops[i] := by simp [hlt]
    simp only at hd hi
    rw [ho, Option.bind_some] at hd
    have h1 := h.put (j := i) ho fun i' x d' hi' hne hx hd' => by
      rcases Nat.lt_or_ge i' i with hl | hl
      · exact T.dist i' i x _ d' hl hi hx ho hd'
      · intro e
        exact T.dist i i' _ x d' (by omega) (hS _ hi') ho hx e hd'
    have h2 := Desc.fillR T E _ _ (fun i' hi' => hi'.elim (hS i') (fun e => e ▸ hi)) h1 (fun m hm => hE m (List.mem_cons_of_mem _ hm))
    show Desc ops a0 _ vals (fillWith vals E (a.put d (vals i)))
    rw [hd]
    refine h2.congr (fun i' => ?_) (fun _ _ => rfl)
    simp only [List.mem_cons, exists_eq_or_imp]
    constructor
    · rintro ((h | h) | h)
      · exact .inl h
      · exact .inr (.inl h.symm)
      · exact .inr (.inr h)
    · rintro (h | h | h)
      · exact .inl (.inl h)
      · exact .inl (.inr h.symm)
      · exact .inr h


theorem wpUp_textR {C : World → Prop} {Z : Act → World → Prop} {a0 : Act} {n0 : Nat} (T : UpTextR ops n0) : ∀ (l : List Oper) (k : Nat) (E : List Mk) (a : Act) (Cc : Nat → Prop) (cv : Nat → Value) (D : Nat → Value → World → Prop),
    k + l.length = n0 → (∀ j, j < l.length → l[j]? = ops[k + j]?) → Lex ops a0 k E a Cc cv D → (∀ i, i < k → ∀ v, UpClosed (D i v)) → (∀ j o, j < k → ops[j]? = some o → Turn P ops n0 C a0 D j o) → wpUp P ops C Z l k E a →
    ∃ D' : Nat → Value → World → Prop, (∀ i, i < n0 → ∀ v, UpClosed (D' i v)) ∧ (∀ j o, j < n0 → ops[j]? = some o → Turn P ops n0 C a0 D' j o) ∧
      (∀ (b : Act) (w : World) (vals : Nat → Value), C w → Desc ops a0 (fun i => i < n0) vals b → (∀ i, i < n0 → D' i (vals i) w) → Z b w)
  | [], k, E, a, Cc, cv, D, hk, _, L, hU, hT, h => by
    simp only [List.length_nil, Nat.add_zero] at hk
    subst hk
    refine ⟨D, hU, hT, fun b w vals hC hb hD => ?_⟩
    classical
    have hf := (h w hC).inst (vals := vals) fun m hm => by
      obtain ⟨h1, _, _, h4, _⟩ := L.mem m hm
      rw [h4]; exact hD _ h1
    have hd := L.desc.congr (S' := fun i => i < k ∧ Cc i) (vals' := vals) (fun _ => Iff.rfl) (fun i hi => (L.const i hi.1 hi.2 _ _ (hD i hi.1)).symm)
    have hd := Desc.fillR T E _ a (fun i hi => hi.1) hd (fun m hm => ⟨(L.mem m hm).1, (L.mem m hm).2.2.1⟩)
    have : fillWith vals E a = b := by
      have hag : ∀ t, (fillWith vals E a).tmps[t]? = b.tmps[t]? := fun t => hd.agree hb t fun i o ho hdst => ⟨⟨fun hi => ?_, fun hi => ?_⟩, fun _ => rfl⟩
      · have h1 : (fillWith vals E a).tmps = b.tmps := Array.ext_getElem? hag
        have h2 : (fillWith vals E a).defers = b.defers := hd.defers.trans hb.defers.symm
        cases hx : fillWith vals E a; cases hy : b
        rw [hx, hy] at h1 h2
        simp only at h1 h2
        rw [h1, h2]
      · rcases hi with hi | ⟨m, hm, rfl⟩
        · exact hi.1
        · exact (L.mem m hm).1
      · by_cases hc : Cc i
        · exact .inl ⟨hi, hc⟩
        · exact .inr (L.all i hi hc)
    rw [this] at hf
    exact hf
  | o :: rest, k, E, a, Cc, cv, D, hk, hl, L, hU, hT, h => by
    classical
    simp only [List.length_cons] at hk
    have ho : ops[k]? = some o := by have := hl 0 (by simp); simpa using this.symm
    have hkn : k < n0 := by omega
    have hmemo : o ∈ ops := Array.mem_of_getElem? ho
    -- what the guard sees
    have hwant : ∀ (b : Act) (w : World) (vals : Nat → Value) (S : Nat → Prop), Desc ops a0 S vals b → (∀ i, S i → i < k → D i (vals i) w) → (∀ i, waitsB o i = true → S i) →
        (∀ i x, S i → ops[i]? = some x → i ≠ k ∧ waitsB x k = false) → (∀ i, S i → i < n0) → Region.wanted o (yielded ops b.tmps) = Region.wanted o (yielded ops a.tmps) := by
      intro b w vals S hb hD hw hS hSn
      refine wanted_agree fun g bb t hg hd => hb.agree L.desc t fun i x hx hxd => ?_
      have hlook := guard_looks hg hd
      rcases Nat.lt_trichotomy i k with hik | rfl | hik
      · have hwi : waitsB o i = true := by
          rcases T.pair i k x o hik hkn hx ho with h | h
          · exact h
          · rw [not_apart hxd hlook] at h; cases h
        have hSi := hw i hwi
        have hCc : Cc i := by
          by_cases hc : Cc i
          · exact hc
          · obtain ⟨m, hm, rfl⟩ := L.all i hik hc
            obtain ⟨_, _, _, _, hgf⟩ := L.mem m hm
            exact absurd hd (guardFree_spec hgf (by rw [hx, Option.bind_some, hxd]) hmemo hg)
        exact ⟨⟨fun _ => ⟨hik, hCc⟩, fun _ => hSi⟩, fun _ => L.const i hik hCc _ _ (hD i hSi hik)⟩
      · exact ⟨⟨fun hi => absurd rfl (hS i x hi hx).1, fun hi => absurd hi.1 (Nat.lt_irrefl _)⟩, fun hi => absurd rfl (hS i x hi hx).1⟩
      · have hno : ¬ S i := fun hi => by
          rcases T.pair k i o x hik (hSn i hi) ho hx with h | h
          · rw [(hS i x hi hx).2] at h; cases h
          · rw [not_apart' hxd hlook] at h; cases h
        exact ⟨⟨fun hi => absurd hi hno, fun hi => absurd hi.1 (by omega)⟩, fun hi => absurd hi hno⟩
    have hexec : ∀ (b : Act) (w : World) (vals : Nat → Value) (S : Nat → Prop) (D1 : Value → World → Prop), Desc ops a0 S vals b → (∀ i, S i → i < k → D i (vals i) w) → (∀ i, waitsB o i = true → S i) →
        (∀ i x, S i → ops[i]? = some x → i ≠ k ∧ waitsB x k = false) → (∀ i, S i → i < n0) → fills (E.filter fun m => waitsB o m.1) a w (fun a' => upAt P o a' w D1) → upAt P o b w D1 := by
      intro b w vals S D1 hb hD hw hS hSn hf
      have hf := hf.inst (vals := fun i => if Cc i then cv i else vals i) fun m hm => by
        obtain ⟨hm1, hm2⟩ := List.mem_filter.1 hm
        obtain ⟨h1, h2, _, h4, _⟩ := L.mem m hm1
        rw [h4, if_neg h2]
        exact hD _ (hw _ hm2) h1
      have hd := L.desc.congr (S' := fun i => i < k ∧ Cc i) (vals' := fun i => if Cc i then cv i else vals i) (fun _ => Iff.rfl) (fun i hi => by simp only [hi.2, if_true])
      have hd := Desc.fillR T (E.filter fun m => waitsB o m.1) _ a (fun i hi => Nat.lt_trans hi.1 hkn) hd (fun m hm => by
        obtain ⟨h1, _, h3, _⟩ := L.mem m (List.mem_filter.1 hm).1
        exact ⟨Nat.lt_trans h1 hkn, h3⟩)
      have he : execOp b.eval o = execOp (fillWith (fun i => if Cc i then cv i else vals i) (E.filter fun m => waitsB o m.1) a).eval o := by
        refine exec_agree (ops := ops) (T.sel k o · · ho) fun t hlook => hb.agree hd t fun i x hx hxd => ?_
        rcases Nat.lt_trichotomy i k with hik | rfl | hik
        · have hwi : waitsB o i = true := by
            rcases T.pair i k x o hik hkn hx ho with h | h
            · exact h
            · rw [not_apart hxd hlook] at h; cases h
          have hSi := hw i hwi
          by_cases hc : Cc i
          · exact ⟨⟨fun _ => .inl ⟨hik, hc⟩, fun _ => hSi⟩, fun _ => by simp only [hc, if_true]; exact L.const i hik hc _ _ (hD i hSi hik)⟩
          · obtain ⟨m, hm, rfl⟩ := L.all i hik hc
            exact ⟨⟨fun _ => .inr ⟨m, List.mem_filter.2 ⟨hm, hwi⟩, rfl⟩, fun _ => hSi⟩, fun _ => by simp only [hc, if_false]⟩
        · refine ⟨⟨fun hi => absurd rfl (hS i x hi hx).1, fun hi => ?_⟩, fun hi => absurd rfl (hS i x hi hx).1⟩
          rcases hi with hi | ⟨m, hm, hmi⟩
          · exact absurd hi.1 (Nat.lt_irrefl _)
          · exact absurd (hmi ▸ (L.mem m (List.mem_filter.1 hm).1).1) (Nat.lt_irrefl _)
        · have hno : ¬ S i := fun hi => by
            rcases T.pair k i o x hik (hSn i hi) ho hx with h | h
            · rw [(hS i x hi hx).2] at h; cases h
            · rw [not_apart' hxd hlook] at h; cases h
          refine ⟨⟨fun hi => absurd hi hno, fun hi => ?_⟩, fun hi => absurd hi hno⟩
          rcases hi with hi | ⟨m, hm, rfl⟩
          · exact absurd hi.1 (by omega)
          · exact absurd (L.mem m (List.mem_filter.1 hm).1).1 (by omega)
      unfold upAt at hf ⊢
      rw [he]
      exact hf
    have hrest : k + 1 + rest.length = n0 := by omega
    have hlrest : ∀ j, j < rest.length → rest[j]? = ops[k + 1 + j]? := fun j hj => by
      have := hl (j + 1) (by simp only [List.length_cons]; omega)
      rw [List.getElem?_cons_succ] at this
      rw [this, Nat.add_assoc, Nat.add_comm 1 j]
    have hdst : ∀ (i : Nat) (x : Oper) (d : Tmp), i < k → ops[i]? = some x → x.dst = some d → o.dst ≠ some d := fun i x d hi hx hd => T.dist i k x o d hi hkn hx ho hd
    have hotk : ∀ (Dk : Value → World → Prop) (i : Nat), i < k → (fun i => if i = k then Dk else D i) i = D i := fun Dk i hi => by simp only [show ¬ i = k by omega, if_false]
    have hTurn : ∀ (Dk : Value → World → Prop), Turn P ops n0 C a0 (fun i => if i = k then Dk else D i) k o → ∀ j x, j < k + 1 → ops[j]? = some x → Turn P ops n0 C a0 (fun i => if i = k then Dk else D i) j x := fun Dk h0 j x hj hx => by
      by_cases hjk : j = k
      · subst hjk
        rw [ho] at hx; cases hx
        exact h0
      · intro b w vals S hC hb hSn hD hw hS
        have := hT j x (by omega) hx b w vals S hC hb hSn (fun i hi hij => by have := hD i hi hij; rwa [hotk Dk i (by omega)] at this) hw hS
        rw [hotk Dk j (by omega)]
        exact this
    have hUp : ∀ (Dk : Value → World → Prop), (∀ v, UpClosed (Dk v)) → ∀ i, i < k + 1 → ∀ v, UpClosed ((fun i => if i = k then Dk else D i) i v) := fun Dk h0 i hi v => by
      by_cases hik : i = k
      · simp only [hik, if_true]; exact h0 v
      · rw [hotk Dk i (by omega)]; exact hU i (by omega) v
    have hLexC : ∀ (u : Value), Lex ops a0 (k + 1) E (a.put o.dst u) (fun i => Cc i ∨ i = k) (fun i => if i = k then u else cv i) (fun i => if i = k then (fun v' _ => v' = u) else D i) := fun u => by
      refine ⟨?_, ?_, ?_, ?_⟩
      · have h1 := L.desc.congr (S' := fun i => i < k ∧ Cc i) (vals' := fun i => if i = k then u else cv i) (fun _ => Iff.rfl) (fun i hi => by simp only [show ¬ i = k by omega, if_false])
        have h2 := h1.put (j := k) ho fun i x d hi _ hx hd => hdst i x d hi.1 hx hd
        simp only [if_true] at h2
        refine h2.congr (fun i => ?_) (fun _ _ => rfl)
        constructor
        · rintro (⟨h, h'⟩ | rfl)
          · exact ⟨by omega, .inl h'⟩
          · exact ⟨by omega, .inr rfl⟩
        · rintro ⟨h, h' | rfl⟩
          · by_cases hik : i = k
            · exact .inr hik
            · exact .inl ⟨by omega, h'⟩
          · exact .inr rfl
      · intro i hi hc v w hD
        by_cases hik : i = k
        · simp only [hik, if_true] at hD ⊢; exact hD
        · simp only [hik, if_false] at hD ⊢
          exact L.const i (by omega) (hc.resolve_right hik) v w hD
      · intro m hm
        obtain ⟨h1, h2, h3, h4, h5⟩ := L.mem m hm
        exact ⟨by omega, fun h => h.elim h2 (by omega), h3, by rw [h4]; simp only [show ¬ m.1 = k by omega, if_false], h5⟩
      · intro i hi hc
        exact L.all i (by have : i ≠ k := fun h => hc (.inr h); omega) (fun h => hc (.inl h))
    have hLexM : ∀ (Dk : Value → World → Prop), guardFree ops k = true → Lex ops a0 (k + 1) ((k, o.dst, Dk) :: E) a (fun i => Cc i ∧ i ≠ k) cv (fun i => if i = k then Dk else D i) := fun Dk hg => by
      refine ⟨?_, ?_, ?_, ?_⟩
      · refine L.desc.congr (fun i => ?_) (fun _ _ => rfl)
        constructor
        · rintro ⟨h, h'⟩; exact ⟨by omega, h', by omega⟩
        · rintro ⟨h, h', h''⟩; exact ⟨by omega, h'⟩
      · intro i hi hc v w hD
        simp only [hc.2, if_false] at hD
        exact L.const i (by have := hc.2; omega) hc.1 v w hD
      · intro m hm
        rcases List.mem_cons.1 hm with rfl | hm
        · exact ⟨by simp, fun h => h.2 rfl, by simp only [ho, Option.bind_some], by simp only [if_true], hg⟩
        · obtain ⟨h1, h2, h3, h4, h5⟩ := L.mem m hm
          exact ⟨by omega, fun h => h2 h.1, h3, by rw [h4]; simp only [show ¬ m.1 = k by omega, if_false], h5⟩
      · intro i hi hc
        by_cases hik : i = k
        · exact ⟨_, List.mem_cons_self .., hik.symm⟩
        · obtain ⟨m, hm, hmi⟩ := L.all i (by omega) (fun h => hc ⟨h, hik⟩)
          exact ⟨m, List.mem_cons_of_mem _ hm, hmi⟩
    unfold wpUp at h
    by_cases hwt : Region.wanted o (yielded ops a.tmps) = true
    · simp only [hwt, if_true] at h
      rcases h with ⟨v, h1, h2⟩ | ⟨Dk, hg, hcl, h1, h2⟩
      · refine wpUp_textR T rest (k + 1) E _ _ _ _ hrest hlrest (hLexC v) (hUp _ fun _ _ _ h _ => h) (hTurn _ ?_) h2
        intro b w vals S hC hb hSn hD hw hS
        have hD' : ∀ i, S i → i < k → D i (vals i) w := fun i hi hik => by have := hD i hi hik; rwa [hotk _ i hik] at this
        refine .inl ⟨(hwant b w vals S hb hD' hw hS hSn).trans hwt, ?_⟩
        simp only [if_true]
        exact hexec b w vals S _ hb hD' hw hS hSn (h1 w hC)
      · refine wpUp_textR T rest (k + 1) _ _ _ _ _ hrest hlrest (hLexM Dk hg) (hUp _ hcl) (hTurn _ ?_) h2
        intro b w vals S hC hb hSn hD hw hS
        have hD' : ∀ i, S i → i < k → D i (vals i) w := fun i hi hik => by have := hD i hi hik; rwa [hotk _ i hik] at this
        refine .inl ⟨(hwant b w vals S hb hD' hw hS hSn).trans hwt, ?_⟩
        simp only [if_true]
        exact hexec b w vals S _ hb hD' hw hS hSn (h1 w hC)
    · simp only [hwt] at h
      refine wpUp_textR T rest (k + 1) E _ _ _ _ hrest hlrest (hLexC undef) (hUp _ fun _ _ _ h _ => h) (hTurn _ ?_) h
      intro b w vals S hC hb hSn hD hw hS
      have hD' : ∀ i, S i → i < k → D i (vals i) w := fun i hi hik => by have := hD i hi hik; rwa [hotk _ i hik] at this
      refine .inr ⟨(hwant b w vals S hb hD' hw hS hSn).trans (by simpa using hwt), ?_⟩
      simp only [if_true]


theorem ready_oneR {n0 k : Nat} (T : UpTextR ops n0) {listed : Array Bool} (hk : k < ops.size) (h1 : ∀ i, i < k → listed.getD i false = true) (h2 : ∀ i, k ≤ i → i < ops.size → listed.getD i true = false) (hn : n0 ≤ k) :
    ∀ i, i ∈ Region.ready .any ops listed → i = k := by
  intro i hi
  obtain ⟨hun, o, ho, hall⟩ := mem_ready.1 hi
  have hlt : i < ops.size := (Array.getElem?_eq_some_iff.1 ho).1
  rcases Nat.lt_trichotomy i k with h | h | h
  · have := h1 i h
    have := getD_both hun
    simp_all
  · exact h
  · have hcl : ∀ (j : Nat) (o : Oper), ops[j]? = some o → listed.getD j false = true → ∀ e ∈ o.after, Region.binds .any e = true → listed.getD e.on false = true := fun j x hj hl e he hb => by
      have hjs : j < ops.size := (Array.getElem?_eq_some_iff.1 hj).1
      rcases Nat.lt_or_ge j k with hjk | hjk
      · exact h1 _ (by have := T.lex j x hj e he hb; omega)
      · have := getD_both (h2 j hjk hjs); simp_all
    have hr := reach_listed hcl 12 i k (T.tail k i o h (by omega) ho) (fun o' ho' => by rw [ho] at ho'; cases ho'; exact hall)
    have := getD_both (h2 k (Nat.le_refl _) hk)
    simp_all

theorem wpAny_tailR {n0 : Nat} (T : UpTextR ops n0) {Q : Exit → Act → World → Prop} : ∀ (l : List Oper) (k fuel : Nat) (listed : Array Bool) (a : Act) (w : World), n0 ≤ k → k + l.length = ops.size → l.length ≤ fuel → (∀ j, j < l.length → l[j]? = ops[k + j]?) →
    listed.size = ops.size → (∀ i, i < k → listed.getD i false = true) → (∀ i, k ≤ i → i < ops.size → listed.getD i true = false) → wpList P ops Q l a w → wpAny P .any ops Q fuel listed a w
  | [], k, fuel, listed, a, w, _, hk, _, _, hsz, h1, _, h => by
    simp only [List.length_nil, Nat.add_zero] at hk
    have hr : Region.ready .any ops listed = [] := by
      rcases hx : Region.ready .any ops listed with _ | ⟨i, xs⟩
      · rfl
      · have hi : i ∈ Region.ready .any ops listed := by rw [hx]; exact List.mem_cons_self ..
        obtain ⟨hun, o, ho, _⟩ := mem_ready.1 hi
        have hlt : i < ops.size := (Array.getElem?_eq_some_iff.1 ho).1
        have := h1 i (by omega)
        have := getD_both hun
        simp_all
    cases fuel with
    | zero => exact ⟨hr, h⟩
    | succ f => exact ⟨fun _ => h, fun i hi => by rw [hr] at hi; cases hi⟩
  | o :: l, k, fuel, listed, a, w, hn, hk, hf, hl, hsz, h1, h2, h => by
    simp only [List.length_cons] at hk hf
    obtain ⟨f, rfl⟩ : ∃ f, fuel = f + 1 := ⟨fuel - 1, by omega⟩
    have ho : ops[k]? = some o := by have := hl 0 (by simp); simpa using this.symm
    have hlt : k < ops.size := (Array.getElem?_eq_some_iff.1 ho).1
    have hkr : k ∈ Region.ready .any ops listed := mem_ready.2 ⟨h2 k (Nat.le_refl _) hlt, o, ho, fun e he hb => h1 _ (T.lex k o ho e he hb)⟩
    refine ⟨fun hr => (by rw [hr] at hkr; cases hkr), fun i hi => ?_⟩
    obtain rfl := ready_oneR T hlt h1 h2 hn i hi
    unfold wpList at h
    unfold wpOp
    have hnext : ∀ a w, wpList P ops Q l a w → wpAny P .any ops Q f (listed.setIfInBounds i true) a w := fun a w h => by
      refine wpAny_tailR T l (i + 1) f _ a w (by omega) (by omega) (by omega) (fun j hj => ?_) (by simp [hsz]) (fun j hj => ?_) (fun j hj hjs => ?_) h
      · have := hl (j + 1) (by simp only [List.length_cons]; omega)
        rw [List.getElem?_cons_succ] at this
        rw [this, Nat.add_assoc, Nat.add_comm 1 j]
      · by_cases hji : i = j
        · subst hji; simp [hsz, hlt]
        · exact getD_set_true (h1 j (by omega))
      · rw [getD_set_ne true (by omega)]; exact h2 j (by omega) hjs
    simp only [ho]
    split
    · rename_i hw
      simp only [hw, if_true] at h
      exact h.imp (Oper.wp_mono hnext) id
    · rename_i hw
      simp only [hw] at h
      exact hnext _ _ h

theorem wpAny_upR {C : World → Prop} (hCU : UpClosed C) {a0 : Act} {n0 : Nat} (T : UpTextR ops n0) {D : Nat → Value → World → Prop} {Q : Exit → Act → World → Prop} (hU : ∀ i, i < n0 → ∀ v, UpClosed (D i v)) (hT : ∀ j o, j < n0 → ops[j]? = some o → Turn P ops n0 C a0 D j o)
    (hZ : ∀ (b : Act) (w : World) (vals : Nat → Value), C w → Desc ops a0 (fun i => i < n0) vals b → (∀ i, i < n0 → D i (vals i) w) → wpList P ops Q (ops.toList.drop n0) b w) :
    ∀ (fuel : Nat) (L : List Nat) (listed : Array Bool) (a : Act) (w : World) (vals : Nat → Value), L.length + (ops.size - n0) ≤ fuel → (∀ i, i < n0 → listed.getD i true = false → i ∈ L) → listed.size = ops.size →
      (∀ i, n0 ≤ i → i < ops.size → listed.getD i true = false) → (∀ j o, ops[j]? = some o → listed.getD j false = true → ∀ e ∈ o.after, Region.binds .any e = true → listed.getD e.on false = true) →
      C w → Desc ops a0 (fun i => listed.getD i false = true) vals a → (∀ i, listed.getD i false = true → D i (vals i) w) → wpAny P .any ops Q fuel listed a w := by
  intro fuel
  induction fuel with
  | zero =>
    intro L listed a w vals hL hun hsz htl hcl hC hd hD
    have hL0 : L = [] := List.length_eq_zero_iff.1 (by omega)
    subst hL0
    have hn : n0 = ops.size := by have := T.le; omega
    have hall : ∀ i, i < n0 → listed.getD i false = true := fun i hi => by
      cases h : listed.getD i false with
      | true => rfl
      | false => exact absurd (hun i hi (getD_in (by omega) h)) List.not_mem_nil
    refine wpAny_tailR T (ops.toList.drop n0) n0 0 listed a w (Nat.le_refl _) (by simp; omega) (by simp; omega) (fun j hj => by simp) hsz hall (fun i h1 h2 => by omega) (hZ a w vals hC (hd.congr (fun i => ⟨fun h => ?_, hall i⟩) fun _ _ => rfl) (fun i hi => hD i (hall i hi)))
    rcases Nat.lt_or_ge i n0 with hi | hi
    · exact hi
    · rw [Array.getD_eq_getD_getElem?, Array.getElem?_eq_none (by omega)] at h; cases h
  | succ fuel ih =>
    intro L listed a w vals hL hun hsz htl hcl hC hd hD
    by_cases hall : ∀ i, i < n0 → listed.getD i false = true
    · refine wpAny_tailR T (ops.toList.drop n0) n0 (fuel + 1) listed a w (Nat.le_refl _) (by simp; have := T.le; omega) (by simp; omega) (fun j hj => by simp) hsz hall htl (hZ a w vals hC (hd.congr (fun i => ⟨fun h => ?_, hall i⟩) fun _ _ => rfl) (fun i hi => hD i (hall i hi)))
      rcases Nat.lt_or_ge i n0 with hi | hi
      · exact hi
      · rcases Nat.lt_or_ge i ops.size with his | his
        · have := getD_both (htl i hi his); simp_all
        · rw [Array.getD_eq_getD_getElem?, Array.getElem?_eq_none (by omega)] at h; cases h
    · -- the least one that is not listed is ready
      have hready : Region.ready .any ops listed ≠ [] ∧ ∀ i ∈ Region.ready .any ops listed, i < n0 := by
        obtain ⟨m, hm, hmn, hmin⟩ : ∃ m, m < n0 ∧ listed.getD m false = false ∧ ∀ i, i < m → listed.getD i false = true := by
          have : ∀ d, (∀ i, i < d → listed.getD i false = true) ∨ ∃ m, m < d ∧ listed.getD m false = false ∧ ∀ i, i < m → listed.getD i false = true := by
            intro d
            induction d with
            | zero => exact .inl fun i hi => absurd hi (Nat.not_lt_zero _)
            | succ d ihd =>
              rcases ihd with h | ⟨m, h1, h2⟩
              · cases hx : listed.getD d false with
                | false => exact .inr ⟨d, by omega, hx, h⟩
                | true =>
                  refine .inl fun i hi => ?_
                  rcases Nat.lt_or_ge i d with h' | h'
                  · exact h i h'
                  · have hid : i = d := by omega
                    rw [hid]; exact hx
              · exact .inr ⟨m, by omega, h2⟩
          rcases this n0 with h | h
          · exact absurd h hall
          · exact h
        have hms : m < ops.size := Nat.lt_of_lt_of_le hm T.le
        have hmt : listed.getD m true = false := getD_in (by omega) hmn
        refine ⟨fun hr => ?_, fun i hi => ?_⟩
        · have : m ∈ Region.ready .any ops listed := mem_ready.2 ⟨hmt, ops[m], by simp [hms], fun e he hb => hmin _ (T.lex m _ (by simp [hms]) e he hb)⟩
          rw [hr] at this; cases this
        · obtain ⟨_, o, ho, hal⟩ := mem_ready.1 hi
          rcases Nat.lt_or_ge i n0 with h | h
          · exact h
          · have hr := reach_listed hcl 12 i m (T.tail m i o (by omega) h ho) (fun o' ho' => by rw [ho] at ho'; cases ho'; exact hal)
            rw [hmn] at hr
            cases hr
      refine ⟨fun hr => absurd hr hready.1, fun i hi => ?_⟩
      have hin := hready.2 i hi
      obtain ⟨hunl, o, ho, hal⟩ := mem_ready.1 hi
      have his : i < ops.size := (Array.getElem?_eq_some_iff.1 ho).1
      have hilf : listed.getD i false = false := getD_both hunl
      have hSn : ∀ j, listed.getD j false = true → j < n0 := fun j hj => by
        rcases Nat.lt_or_ge j n0 with h | h
        · exact h
        · rcases Nat.lt_or_ge j ops.size with his | his
          · have := getD_both (htl j h his); simp_all
          · rw [Array.getD_eq_getD_getElem?, Array.getElem?_eq_none (by omega)] at hj; cases hj
      have hturn := hT i o hin ho a w vals (fun j => listed.getD j false = true) hC hd hSn (fun j hj _ => hD j hj) (fun j hj => by
        obtain ⟨e, he, hb⟩ := waitsB_spec hj
        rw [← hb.2]; exact hal e he hb.1) (fun j x hj hx => ⟨fun hji => (by subst hji; rw [hilf] at hj; cases hj), by
        cases hxw : waitsB x i with
        | false => rfl
        | true =>
          obtain ⟨e, he, hb⟩ := waitsB_spec hxw
          have := hcl j x hx hj e he hb.1
          rw [hb.2, hilf] at this
          cases this⟩)
      -- what follows, the value being v, the world w'
      have hnext : ∀ v w', Up w w' → D i v w' → wpAny P .any ops Q fuel (listed.setIfInBounds i true) (a.put o.dst v) w' := by
        intro v w' hu hv
        refine ih (L.erase i) (listed.setIfInBounds i true) _ w' (fun j => if j = i then v else vals j) ?_ ?_ (by simp [hsz]) ?_ ?_ (hCU w w' hC hu) ?_ ?_
        · have hmem := hun i hin hunl
          have := List.length_erase_of_mem hmem
          have hpos : 0 < L.length := List.length_pos_of_mem hmem
          omega
        · intro j hj hjl
          by_cases hji : j = i
          · subst hji; simp [hsz, his] at hjl
          · rw [getD_set_ne true (Ne.symm hji)] at hjl
            exact (List.mem_erase_of_ne hji).2 (hun j hj hjl)
        · intro j hj hjs
          rw [getD_set_ne true (by omega)]; exact htl j hj hjs
        · intro j x hx hjl e he hb
          by_cases hji : j = i
          · subst hji
            rw [ho] at hx; cases hx
            exact getD_set_true (hal e he hb)
          · rw [getD_set_ne false (Ne.symm hji)] at hjl
            exact getD_set_true (hcl j x hx hjl e he hb)
        · have h1 := hd.congr (S' := fun j => listed.getD j false = true) (vals' := fun j => if j = i then v else vals j) (fun _ => Iff.rfl) (fun j hj => by
            have : ¬ j = i := fun h => by subst h; rw [hilf] at hj; cases hj
            simp only [this, if_false])
          have h2 := h1.put (j := i) ho fun j x d hj hne hx hd' => by
            rcases Nat.lt_or_ge j i with hl | hl
            · exact T.dist j i x o d hl hin hx ho hd'
            · intro e
              exact T.dist i j o x d (by omega) (hSn j hj) ho hx e hd'
          simp only [if_true] at h2
          refine h2.congr (fun j => ?_) (fun _ _ => rfl)
          by_cases hji : j = i
          · subst hji; simp [hsz, his]
          · rw [getD_set_ne false (Ne.symm hji)]; simp [hji]
        · intro j hj
          by_cases hji : j = i
          · subst hji; simp only [if_true]; exact hv
          · rw [getD_set_ne false (Ne.symm hji)] at hj
            simp only [hji, if_false]
            exact hU j (hSn j hj) _ _ _ (hD j hj) hu
      unfold wpOp
      simp only [ho]
      rcases hturn with ⟨hw, hat⟩ | ⟨hw, hdu⟩
      · simp only [hw, if_true]
        exact .inl (hat.wp hnext)
      · simp only [hw, Bool.false_eq_true, if_false]
        exact hnext undef w (Up.refl w) hdu


/-- THE THEOREM: the first n0 operations in the order of the text, each in a world of which only 'Up w' is known; then the tail, each of whose operations waits for all before it. -/
theorem wp_region_upR (n0 : Nat) {id : Nat} {Q : Exit → Act → World → Prop} {a : Act} {w : World} {l : List Oper} (hm : P.follows .mixedOrders = true) (hB : upBR l.toArray n0 = true)
    (h : WUp P l.toArray (fun w' => Up w w') (fun a' w' => wpList P l.toArray Q (l.drop n0) a' w') (l.take n0) 0 [] a) : (Code.region id l.toArray true).wp P Q a w := by
  have T := upB_textR hB
  have hle : n0 ≤ l.length := by simpa using T.le
  obtain ⟨D, hU, hT, hZ⟩ := wpUp_textR (C := fun w' => Up w w') (Z := fun a' w' => wpList P l.toArray Q (l.drop n0) a' w') (a0 := a) (n0 := n0) T (l.take n0) 0 [] a (fun _ => False) (fun _ => undef) (fun _ _ _ => False) (by simp [hle]) (fun j hj => by
    simp only [List.length_take] at hj
    simp [show j < n0 by omega]) ⟨(Desc.refl a (fun _ => undef)).congr (fun i => by simp) (fun _ h => h.elim), fun i hi => absurd hi (Nat.not_lt_zero _), fun m hm => (by cases hm), fun i hi => absurd hi (Nat.not_lt_zero _)⟩
    (fun i hi => absurd hi (Nat.not_lt_zero _)) (fun j o hj => absurd hj (Nat.not_lt_zero _)) h.out
  refine wp_region_any hm (wpAny_upR (C := fun w' => Up w w') (fun _ _ h k => Up.trans h k) (a0 := a) T hU hT (by simpa using hZ) _ (List.range n0) _ a _ (fun _ => undef) (by simp; omega) (fun i hi _ => List.mem_range.2 hi) (by simp) (fun i hi his => by
    have : i < l.length := by simpa using his
    simp [this]) (fun j o ho hj => ?_) ?_ ?_ ?_)
  · rw [getD_replicate_false] at hj; cases hj
  · exact ⟨rfl, rfl, rfl, Nat.le_refl _, fun _ _ => rfl⟩
  · exact (Desc.refl a (fun _ => undef)).congr (fun i => by rw [getD_replicate_false]; simp) (fun _ h => h.elim)
  · intro i hi; rw [getD_replicate_false] at hi; cases hi


end
end Go.Proofs.YtiiahjnfbhcgmaaGreatDoor
