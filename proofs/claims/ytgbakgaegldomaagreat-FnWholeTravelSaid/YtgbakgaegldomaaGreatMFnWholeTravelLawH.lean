/- Texts joined into one: the walks and laws that the last text leans on. Conditions: as each says. -/
import Derived.Test.YtgbakgaegldomaaGreatMFnWholeTravelLawG
import Derived.Test.YtgbakgaegldomaaGreatStartW
import Derived.Test.YtgbakgaegldomaaGreatMFnWholeTravelLawE
import Derived.Test.YtgbakgaegldomaaGreatFo
import Derived.Test.YtgbakgaegldomaaGreatLearn
import Derived.Test.YtgbakgaegldomaaGreatStep
import Derived.Test.YtgbakgaegldomaaGreatPack
import Derived.Test.YtgbakgaegldomaaGreatComp
import Derived.Test.YtgbakgaegldomaaGreatMFnWholeTravelLawC

set_option linter.unusedVariables false
set_option linter.unusedSimpArgs false
/- Plain: which writers are valid; what is written by a valid one is valid (for FnWriteParts, FnWriteBits). Conditions: as each says. -/
namespace Go.Proofs.YtgbakgaegldomaaGreat
open Go Go.RowKit
def KnD.vl (k : KnD) : Prop := k.last = -1 → k.base = k.ps.length
theorem valid_of_ok {k : KnD} (h : k.Ok) (hv : k.vl) : validK k = true := by
  have hb0 := h.base0
  have hb1 := h.base1
  have hln := h.len
  have hc : k.c = clr k.set := rfl
  unfold validK
  simp only [Bool.and_eq_true]
  refine ⟨h.set, ?_, ?_, ?_, ?_⟩
  · unfold roomOk
    rw [decide_eq_true_eq]
    omega
  · refine pairsOk_yes fun j hj => ?_
    have := h.ps j hj
    rw [prOk_get hj] at this
    exact this
  · rw [inB_iff]
    exact ⟨hb0, hb1⟩
  · unfold lastOk
    split
    · next hl => rw [hv hl]; simp
    · next hl =>
      rcases h.last with h | h
      · exact absurd h hl
      · exact h
theorem vl_cleared {k : KnD} (h : k.Ok) : k.cleared.vl := fun _ => by
  have hb0 := h.base0
  have hb1 := h.base1
  show k.base = ((k.ps.take k.base.toNat).length : Int)
  rw [List.length_take]; omega
theorem vl_after {k : KnD} (h : k.Ok) {x : Int} (hf : k.follows x = true) : (k.after x).vl := fun hl => by
  have hl : x = -1 := hl
  have := (KnD.find_bd h hf).1
  omega
theorem wrC_vl : ∀ (n : Nat) (k : KnD) (d : List UInt8), k.Ok → k.vl → (∀ b ∈ d, b.toNat < k.c) → (wrC n k d).2.1.vl := by
  intro n
  induction n with
  | zero => intro k d _ hv _; exact hv
  | succ n ih =>
    intro k d hk hv hl
    by_cases hs : d = [] ∨ k.longest d = d
    · rw [wrC_stop hs]; exact hv
    · have hd0 : d ≠ [] := fun e => hs (.inl e)
      obtain ⟨hf, -⟩ := KnD.find_any hk hd0 hl
      have hak := KnD.after_ok hk hf
      have hl' : ∀ b ∈ d.drop (k.longest d).length, b.toNat < k.c := fun b hb => hl b (List.mem_of_mem_drop hb)
      rw [wrC, if_neg hs]
      split
      · exact ih _ _ (KnD.cleared_ok hak) (vl_cleared hak) hl'
      · exact ih _ _ hak (vl_after hk hf) hl'
def wrOk (w : WrD) : Prop := w.k.Ok ∧ w.k.vl ∧ (∀ b ∈ w.pend, b.toNat < w.k.c) ∧ w.pend.length ≤ 2000 ∧ isBits w.bits ∧ w.bits.length ≤ 7 ∧ (w.pend = [] ∨ w.k.longest w.pend = w.pend) ∧ (w.beg = false → w.pend = [] ∧ w.bits = [])
theorem isBits_codes (o : Int) : ∀ (xs : List Int) (k : KnD), isBits (bitsS o k xs) := by
  intro xs
  induction xs with
  | nil => intro k b hb; cases hb
  | cons x xs ih =>
    intro k b hb
    rcases List.mem_append.1 hb with hb | hb
    · have := isBits_packC o [x] [(k.width : Int)]
      simp only [packC, List.append_nil, Int.toNat_natCast] at this
      exact this b hb
    · exact ih (k.thru x) b hb
theorem wrOk_write {w : WrD} {d : List UInt8} (h : wrOk w) (hl : ∀ b ∈ d, b.toNat < w.k.c) (hd : (w.pend ++ d).length ≤ 2000) : wrOk (w.write d).1 ∧ (w.write d).1.k.set = w.k.set ∧ (d ≠ [] → (w.write d).1.beg = true ∧ (w.write d).1.pend ≠ []) ∧ ∃ p, w.pend ++ d = p ++ (w.write d).1.pend := by
  obtain ⟨hk, hv, hp, h2, hb, h7, hw, hn⟩ := h
  by_cases hd0 : d = []
  · subst hd0
    unfold WrD.write
    rw [if_pos rfl]
    exact ⟨⟨hk, hv, hp, h2, hb, h7, hw, hn⟩, rfl, fun h => absurd rfl h, [], by simp⟩
  obtain ⟨hok, hos⟩ := WrD.open_ok hk
  have hoc : w.open.2.c = w.k.c := by unfold KnD.c; rw [hos]
  have hov : w.open.2.vl := by
    unfold WrD.open
    split
    · exact hv
    · exact vl_cleared hk
  have hlo : ∀ x ∈ w.pend ++ d, x.toNat < w.open.2.c := fun x hx => by
    rw [hoc]
    exact (List.mem_append.1 hx).elim (hp x) (hl x)
  obtain ⟨q1, q2, q3, q4, p, q5⟩ := wrC_end (w.pend ++ d).length w.open.2 (w.pend ++ d) (Nat.le_refl _) hok hlo
  have q6 := wrC_vl (w.pend ++ d).length w.open.2 (w.pend ++ d) hok hov hlo
  have hcc : (w.codes d).2.1.c = w.k.c := by unfold KnD.c; rw [show (w.codes d).2.1.set = w.open.2.set from q2, hos]
  have q5' : w.pend ++ d = p ++ (w.codes d).2.2 := q5
  have hob : isBits w.open.1 := by
    unfold WrD.open
    split
    · exact hb
    · intro b hb'
      rcases List.mem_append.1 hb' with h | h
      · exact hb b h
      · have := isBits_packC w.k.set.ord [(w.k.c : Int)] [(w.k.width : Int)]
        simp only [packC, List.append_nil, Int.toNat_natCast] at this
        exact this b h
  have hall : isBits (w.all d) := fun b hb' => by
    rcases List.mem_append.1 hb' with h | h
    · exact hob b h
    · exact isBits_codes _ _ _ b h
  unfold WrD.write
  rw [if_neg hd0]
  refine ⟨⟨q1, q6, fun b hb' => ?_, ?_, fun b hb' => hall b (List.mem_of_mem_drop hb'), ?_, q3, fun h => by cases h⟩, q2.trans hos, fun _ => ⟨rfl, q4 (by simp [hd0])⟩, p, q5'⟩
  · show b.toNat < (w.codes d).2.1.c
    rw [hcc, ← hoc]
    exact hlo b (by rw [q5']; exact List.mem_append_right _ hb')
  · have := congrArg List.length q5'
    have h9 : (p ++ (w.codes d).2.2).length = p.length + (w.codes d).2.2.length := List.length_append
    rw [h9] at this
    show (w.codes d).2.2.length ≤ 2000
    omega
  · show ((w.all d).drop ((w.all d).length / 8 * 8)).length ≤ 7
    rw [List.length_drop]; omega
end Go.Proofs.YtgbakgaegldomaaGreat

/- Plain: all data written in parts and closed is the stream of Compress, and fails exactly if that does (for FnWriteAll). Conditions: what is known is valid, the data is no longer than 2000 bytes. -/
namespace Go.Proofs.YtgbakgaegldomaaGreat
open Go Go.RowKit
def wrdO (w : WrD) (d : List UInt8) : Option (WrD × List UInt8) := if fitsB w.k.set (w.pend ++ d) then some (w.write d) else none
def waO : WrD → List (List UInt8) → List UInt8 → Option (List UInt8)
  | w, [], out => some (out ++ w.close)
  | w, p :: ps, out => match wrdO w p with
    | none => none
    | some r => waO r.1 ps (out ++ r.2)
theorem fitsB_iff {s : SetD} {d : List UInt8} (h : setOk s = true) (hd : d.length ≤ 2000) : fitsB s d = litsL (clr s) d := by
  unfold fitsB
  rw [h, decide_eq_true hd]
  rfl
theorem waO_comp {k0 : KnD} (hk0 : k0.Ok) : ∀ (ps : List (List UInt8)) (w : WrD) (d out : List UInt8), WaInv k0 d w out → w.pend.length ≤ d.length → (∀ b ∈ d, b.toNat < k0.c) → (d ++ ps.flatten).length ≤ 2000 →
    waO w ps out = if litsL (clr k0.set) ps.flatten then some (compL k0 (d ++ ps.flatten)) else none := by
  intro ps
  induction ps with
  | nil =>
    intro w d out h _ hl hd
    rw [List.flatten_nil, List.append_nil] at *
    have : litsL (clr k0.set) [] = true := by first | rfl | simp [litsL]
    rw [this, if_pos rfl, waO, WaInv.fin hk0 hl hd h]
  | cons p ps ih =>
    intro w d out h hp hl hd
    rw [List.flatten_cons] at hd ⊢
    have hd1 : (w.pend ++ p).length ≤ 2000 := by
      rw [List.length_append]
      rw [List.length_append, List.length_append] at hd
      omega
    have hset := h.set
    have hso : setOk w.k.set = true := h.ok.set
    have hfit := fitsB_iff hso hd1
    have hsplit : litsL (clr k0.set) (p ++ ps.flatten) = (litsL (clr k0.set) p && litsL (clr k0.set) ps.flatten) := by simp [litsL]
    have hpl : litsL (clr k0.set) (w.pend ++ p) = litsL (clr k0.set) p := by
      have h1 : litsL (clr k0.set) (w.pend ++ p) = (litsL (clr k0.set) w.pend && litsL (clr k0.set) p) := by simp [litsL]
      have h2 : litsL (clr k0.set) w.pend = true := by
        have := h.lits
        simp only [litsL, List.all_eq_true, decide_eq_true_eq]
        exact this
      rw [h1, h2, Bool.true_and]
    rw [waO]
    unfold wrdO
    rw [hfit, hset, hpl, hsplit]
    cases hlp : litsL (clr k0.set) p
    · rfl
    · have hx : ∀ b ∈ p, b.toNat < k0.c := by
        simp only [litsL, List.all_eq_true, decide_eq_true_eq] at hlp
        exact hlp
      have hN := h.next hk0 hx
      rw [if_pos rfl, Bool.true_and]
      show waO (w.write p).1 ps (out ++ (w.write p).2) = _
      rw [← List.append_assoc]
      refine ih (w.write p).1 (d ++ p) (out ++ (w.write p).2) hN ?_ (fun b hb => (List.mem_append.1 hb).elim (hl b) (hx b)) (by rw [List.append_assoc]; exact hd)
      by_cases hp0 : p = []
      · subst hp0
        have : w.write [] = (w, []) := by unfold WrD.write; rw [if_pos rfl]
        rw [this, List.append_nil]
        exact hp
      · obtain ⟨hok, hos⟩ := WrD.open_ok h.ok
        have hoc : w.open.2.c = k0.c := by unfold KnD.c; rw [hos, hset]
        obtain ⟨-, -, -, -, q, q5⟩ := wrC_end (w.pend ++ p).length w.open.2 (w.pend ++ p) (Nat.le_refl _) hok (fun b hb => by
          rw [hoc]
          exact (List.mem_append.1 hb).elim (h.lits b) (hx b))
        have q5' : w.pend ++ p = q ++ (w.codes p).2.2 := q5
        have hq := congrArg List.length q5'
        have h9 : (q ++ (w.codes p).2.2).length = q.length + (w.codes p).2.2.length := List.length_append
        rw [h9, List.length_append] at hq
        rw [List.length_append]
        have : (w.write p).1.pend = (w.codes p).2.2 := by unfold WrD.write; rw [if_neg hp0]
        rw [this]
        omega
theorem waO_all {k : KnD} (hk : k.Ok) (ps : List (List UInt8)) (hd : ps.flatten.length ≤ 2000) : waO ⟨k, [], [], false⟩ ps [] = compO k ps.flatten := by
  have := waO_comp hk ps ⟨k, [], [], false⟩ [] [] (WaInv.start hk) (Nat.le_refl _) (fun b hb => absurd hb (List.not_mem_nil)) (by simpa using hd)
  rw [this, List.nil_append]
  unfold compO
  rw [fitsB_iff hk.set hd]
end Go.Proofs.YtgbakgaegldomaaGreat

/- Plain: whether a writer is valid, what WriteData makes of a writer of any kind, and the rounds of its loop (for the writers' laws). Conditions: as each says. -/
namespace Go.Proofs.YtgbakgaegldomaaGreat
open Go Go.RowKit
def bitsB (l : List UInt8) : Bool := l.all fun b => decide (b.toNat = 48 ∨ b.toNat = 49)
theorem bitsB_iff {l : List UInt8} : bitsB l = true ↔ isBits l := by
  unfold bitsB isBits
  simp only [List.all_eq_true, decide_eq_true_eq]
def wrsB (w : WrD) : Bool := (w.beg || (decide (w.pend = []) && decide (w.bits = []))) && (decide (w.pend = []) || decide (w.k.longest w.pend = w.pend))
def wrvB (w : WrD) : Bool := validK w.k && (fitsB w.k.set w.pend && ((bitsB w.bits && decide (w.bits.length ≤ 7)) && wrsB w))
theorem wrvB_ok {w : WrD} (h : wrvB w = true) : wrOk w := by
  unfold wrvB wrsB at h
  simp only [Bool.and_eq_true, Bool.or_eq_true, decide_eq_true_eq] at h
  obtain ⟨h1, h2, ⟨h3, h4⟩, h5, h6⟩ := h
  obtain ⟨g1, g2⟩ := ok_of_valid h1
  obtain ⟨f1, f2, f3⟩ := fitsB_lits h2
  refine ⟨g1, g2, f3, f2, bitsB_iff.1 h3, h4, h6, fun hb => ?_⟩
  rcases h5 with h5 | h5
  · rw [hb] at h5; cases h5
  · exact h5
theorem wrvB_of {w : WrD} (h : wrOk w) : wrvB w = true := by
  obtain ⟨h1, h2, h3, h4, h5, h6, h7, h8⟩ := h
  unfold wrvB wrsB
  rw [valid_of_ok h1 h2, fitsB_iff h1.set h4, bitsB_iff.2 h5, decide_eq_true h6]
  have hl : litsL (clr w.k.set) w.pend = true := by
    simp only [litsL, List.all_eq_true, decide_eq_true_eq]
    exact h3
  rw [hl]
  simp only [Bool.and_eq_true, Bool.or_eq_true, decide_eq_true_eq, true_and]
  refine ⟨?_, h7⟩
  cases hb : w.beg
  · exact .inr (h8 hb)
  · exact .inl rfl
def wdO (w : WrD) (d : List UInt8) : Option (WrD × List UInt8) := if wrvB w && fitsB w.k.set (w.pend ++ d) then some (w.write d) else none
def wcO (w : WrD) : Option (List UInt8) := if wrvB w then some w.close else none
theorem wdO_none {w : WrD} {d : List UInt8} (h : (wrvB w && fitsB w.k.set (w.pend ++ d)) = false) : wdO w d = none := by unfold wdO; rw [h]; rfl
theorem wdO_some {w : WrD} {d : List UInt8} (h : (wrvB w && fitsB w.k.set (w.pend ++ d)) = true) : wdO w d = some (w.write d) := by unfold wdO; rw [h]; rfl
structure WlD (T : List UInt8 × KnD × List UInt8) (s : SetD) (m : Nat) (k : KnD) (d b : List UInt8) : Prop where
  len : d.length ≤ m
  le : d.length ≤ 2000
  ne : d ≠ []
  sum : b.length + 20 * d.length ≤ 41000
  bit : isBits b
  tot : (b ++ bitsS s.ord k (wrC m k d).1, (wrC m k d).2) = T
  ok : k.Ok
  set : k.set = s
  lit : ∀ x ∈ d, x.toNat < clr s
theorem WlD.stop {T : List UInt8 × KnD × List UInt8} {s : SetD} {m : Nat} {k : KnD} {d b : List UInt8} (h : WlD T s m k d b) (hl : k.longest d = d) : T = (b, k, d) := by
  rw [← h.tot, wrC_stop (.inr hl)]
  show (b ++ [], k, d) = _
  rw [List.append_nil]
theorem WlD.lits {T : List UInt8 × KnD × List UInt8} {s : SetD} {m : Nat} {k : KnD} {d b : List UInt8} (h : WlD T s m k d b) : ∀ x ∈ d, x.toNat < k.c := by
  unfold KnD.c
  rw [h.set]
  exact h.lit
theorem WlD.step {T : List UInt8 × KnD × List UInt8} {s : SetD} {m : Nat} {k : KnD} {d b : List UInt8} (h : WlD T s m k d b) (hl : k.longest d ≠ d) :
    (k.follows (k.find (k.longest d)) = true ∧ k.find (k.longest d) ≠ (k.c : Int) ∧ k.find (k.longest d) ≠ (k.c : Int) + 1 ∧ 1 ≤ (k.longest d).length ∧ (k.longest d).length < d.length) ∧
    ((k.after (k.find (k.longest d))).full = true → WlD T s (m - 1) (k.after (k.find (k.longest d))).cleared (d.drop (k.longest d).length) ((b ++ codeL s.ord (k.find (k.longest d)).toNat k.width) ++ codeL s.ord (clr s) (k.after (k.find (k.longest d))).width)) ∧
    ((k.after (k.find (k.longest d))).full = false → WlD T s (m - 1) (k.after (k.find (k.longest d))) (d.drop (k.longest d).length) (b ++ codeL s.ord (k.find (k.longest d)).toNat k.width)) := by
  have hp := KnD.longest_pos (k := k) h.ne
  have hlt := KnD.longest_lt (k := k) (d := d) hl
  obtain ⟨hf, -⟩ := KnD.find_any h.ok h.ne h.lits
  have hak := KnD.after_ok h.ok hf
  have hc : k.c = clr s := by unfold KnD.c; rw [h.set]
  have hne : k.find (k.longest d) ≠ (k.c : Int) ∧ k.find (k.longest d) ≠ (k.c : Int) + 1 := by
    rcases KnD.follows_cases h.ok hf with hc | ⟨hg, e, hl⟩
    · rw [codeOk_iff] at hc; omega
    · rw [e]; unfold KnD.next; omega
  have h1 := h.len; have h2 := h.le; have h3 := h.sum; have h4 := h.tot
  obtain ⟨n, rfl⟩ : ∃ n, m = n + 1 := ⟨m - 1, by omega⟩
  have hs : ¬ (d = [] ∨ k.longest d = d) := fun e => e.elim h.ne hl
  have hr : d.drop (k.longest d).length ≠ [] := fun e => by
    have := congrArg List.length e
    rw [List.length_drop] at this
    simp at this
    omega
  have hth := KnD.thru_fol h.ok hf
  have hw := KnD.width_bd h.ok
  have hwa := KnD.width_bd hak
  refine ⟨⟨hf, hne.1, hne.2, hp, hlt⟩, fun hfu => ?_, fun hfu => ?_⟩
  · rw [wrC, if_neg hs, if_pos hfu] at h4
    refine ⟨by rw [List.length_drop]; omega, by rw [List.length_drop]; omega, hr, ?_, (h.bit.app (isBits_code _ _ _)).app (isBits_code _ _ _), ?_, KnD.cleared_ok hak, h.set, fun x hx => h.lit x (List.mem_of_mem_drop hx)⟩
    · rw [List.length_append, List.length_append, codeL_length, codeL_length, List.length_drop]; omega
    · rw [← h4]
      show _ = (b ++ (codeL s.ord _ k.width ++ (codeL s.ord (k.c : Int).toNat (k.thru _).width ++ bitsS s.ord ((k.thru _).thru (k.c : Int)) _)), _)
      rw [hth]
      have hcc : (k.after (k.find (k.longest d))).thru (k.c : Int) = (k.after (k.find (k.longest d))).cleared := thru_clear _
      rw [hcc, List.append_assoc, List.append_assoc, Int.toNat_natCast, hc]
      rfl
  · rw [wrC, if_neg hs, if_neg (by rw [hfu]; simp)] at h4
    refine ⟨by rw [List.length_drop]; omega, by rw [List.length_drop]; omega, hr, ?_, h.bit.app (isBits_code _ _ _), ?_, hak, h.set, fun x hx => h.lit x (List.mem_of_mem_drop hx)⟩
    · rw [List.length_append, codeL_length, List.length_drop]; omega
    · rw [← h4]
      show _ = (b ++ (codeL s.ord _ k.width ++ bitsS s.ord (k.thru _) _), _)
      rw [hth, List.append_assoc]
      rfl
theorem open_len {w : WrD} (h : wrOk w) : w.open.1.length ≤ 17 ∧ isBits w.open.1 := by
  have hw := KnD.width_bd h.1
  have h7 := h.2.2.2.2.2.1
  have hb := h.2.2.2.2.1
  unfold WrD.open
  split
  · exact ⟨by show w.bits.length ≤ 17; omega, hb⟩
  · refine ⟨?_, hb.app (isBits_code _ _ _)⟩
    show (w.bits ++ codeL _ _ _).length ≤ 17
    rw [List.length_append, codeL_length]; omega
theorem WlD.start {w : WrD} {d : List UInt8} (h : wrOk w) (hd : d ≠ []) (hl : ∀ x ∈ d, x.toNat < clr w.k.set) (hn : (w.pend ++ d).length ≤ 2000) :
    WlD (w.all d, (w.codes d).2) w.k.set (w.pend ++ d).length w.open.2 (w.pend ++ d) w.open.1 := by
  obtain ⟨hok, hos⟩ := WrD.open_ok h.1
  obtain ⟨o1, o2⟩ := open_len h
  exact ⟨Nat.le_refl _, hn, by simp [hd], by omega, o2, rfl, hok, hos, fun x hx => (List.mem_append.1 hx).elim (h.2.2.1 x) (hl x)⟩
def wrV (w : WrD) (v : Value) : Value := .agg #[.int .i64 w.k.set.ord, .int .i64 w.k.set.lit, .int .i64 w.k.set.most, v, .int .i64 w.k.base, .int .i64 w.k.last, .string (bs w.pend), .string (bs w.bits), .bool w.beg]
def noWr : Value := .agg #[.int .i64 0, .int .i64 0, .int .i64 0, .slice none 0 0, .int .i64 0, .int .i64 0, .string ⟨#[]⟩, .string ⟨#[]⟩, .bool false]
def WdPost (o : Option (WrD × List UInt8)) (w : World) (e : Ending) (w' : World) : Prop := match o with
  | some (x, by') => ∃ v, e = .returned (.tuple #[wrV x v, .string (bs by'), .bool true]) ∧ ownPr w' w.heap.size v x.k.ps ∧ Up w w'
  | none => e = .returned (.tuple #[noWr, .string ⟨#[]⟩, .bool false]) ∧ Up w w'
end Go.Proofs.YtgbakgaegldomaaGreat

/- Walks of the program's appendBits onto a marked row and of the coder's write. Conditions: the coder lies in memory (CdEx), what is known is valid, the code can be written. -/
namespace Go.Proofs.YtgbakgaegldomaaGreat
open Go Go.RowKit
theorem grownBy_row {w w1 w2 : World} {row row2 : Option Nat} (h : w.grownBy w1 row) (h2 : w1.grownBy w2 row2) (hr : ∀ b, row2 = some b → row = some b ∨ w.heap.size ≤ b) : w.grownBy w2 row :=
  ⟨h2.os.trans h.os, h2.tape.trans h.tape, h2.output.trans h.output, Nat.le_trans h.size h2.size, fun b hb hne => (h2.block b (Nat.lt_of_lt_of_le hb h.size) (fun e => by
    rcases hr b e.symm with h3 | h3
    · exact hne h3.symm
    · omega)).trans (h.block b hb hne)⟩
def RelAM (o : Int) (n wd : Nat) (d : List UInt8) (B : Nat) (v0 : Value) (w : World) (v i : Value) (wr : World) : Prop := ∃ j : Nat, i = .int .i64 j ∧ j ≤ wd ∧ ownM wr B v (d ++ (codeL o n wd).take j) ∧ w.grownBy wr v0.ownBlock ∧ NewOr w.heap.size v0 v
def AbPost (B : Nat) (v : Value) (d : List UInt8) (w : World) (e : Ending) (w' : World) : Prop := ∃ v', e = .returned v' ∧ ownM w' B v' d ∧ w.grownBy w' v.ownBlock ∧ NewOr w.heap.size v v'
set_option maxRecDepth 100000 in
set_option maxHeartbeats 4000000 in
theorem bitsM_any (B : Nat) (o : Int) (n wd : Nat) (v : Value) (d : List UInt8) (w : World) (ho : o = 0 ∨ o = 1) (hn : n ≤ 1048576) (hw : wd ≤ 16) (hd : d.length ≤ 1000000) (hB : B ≤ w.heap.size) (hown : ownM w B v d) :
    Calls Tryz.prog 90  #[v, .int .i64 o, .int .i64 n, .int .i64 wd] w (AbPost B v (d ++ codeL o n wd) w) := by
  have hall : (codeL o n wd).take wd = codeL o n wd := List.take_of_length_le (by rw [codeL_length]; exact Nat.le_refl _)
  have HO := Lib.hid hown
  have HA := Lib.hid hall
  have ho1 := ho
  obtain ⟨gv, cv, hv⟩ := hown.shape
  have HV := Lib.hid hv
  obtain ⟨row, hrow⟩ : ∃ row, Hid (v.ownBlock = row) := ⟨_, rfl⟩
  unfold AbPost
  subst hv
  clear hown hall
  go_enter Tryz.func90, Tryz.ntmps90
  go_wp2
  go_loopw [0, 12] (fun v i wr => RelAM o n wd d B (.slice (some ⟨gv, 0, none⟩) d.length cv) w v i wr) (fun _ i _ => wd - (intOf i).toNat)
  case atStart => exact ⟨0, rfl, Nat.zero_le _, by rw [List.take_zero, List.append_nil]; exact HO.out, grownBy_refl _ _, fun b hb => .inl hb⟩
  case round =>
    clear HO
    obtain ⟨j, rfl, hj1, hown, hgr, hnew⟩ := hrel
    have hl : (d ++ (codeL o n wd).take j).length = d.length + j := by rw [List.length_append, List.length_take, codeL_length]; omega
    by_cases hlt : j < wd
    · have cP := fun w => placeI_any o j wd w ho1 hlt hw
      have hk := and_pow n (plc o j wd) hn (by have := plc_lt (o := o) hlt; omega)
      have hdig := Lib.hid (digit_if n (plc o j wd))
      have hT := Lib.hid (codeL_take ho1 (n := n) hlt)
      have hq0 : 0 < 2 ^ plc o j wd := Nat.two_pow_pos _
      generalize bitB n (plc o j wd) = bb at *
      have HUP := Lib.hid (And.intro hgr hnew)
      obtain ⟨ar, cr, rfl⟩ := hown.shape
      rw [hl] at hown
      have HW := Lib.hid hown
      by_cases hb : n / 2 ^ plc o j wd % 2 = 1
      · rw [if_pos hb] at hk hdig
        clear hb hown hgr hnew
        generalize 2 ^ plc o j wd = q at *
        go_wp2_with (first | (go_at_call 102; (with_reducible refine (cP _).mono ?_); rintro e w' ⟨rfl, rfl⟩) | (at_builtin; refine wpList_appendM rfl _ _ rfl B _ _ rfl (HW.out.up (Up.alloc (Up.refl _) _)) ⟨wr.heap.size, 0, none⟩ 1 bb rfl (by rw [← hdig.out]; exact box_cell (MapKept.heap_alloc _ _).1 0) rfl (by rw [hl]; omega) (by have := HUP.out.1.size; simp; omega) ?_; rintro v4 w4 hown4 hgr4 hnew4; have HG := Lib.hid (And.intro hown4 (And.intro hgr4 hnew4)); clear hown4 hgr4 hnew4))
        go_roundw
        case rel =>
          obtain ⟨g1, g2, g3⟩ := HG.out
          obtain ⟨u1, u2⟩ := HUP.out
          refine ⟨j + 1, by go_num, by omega, by rw [hT.out, ← List.append_assoc]; exact g1, grownBy_row (grownBy_up u1 ((Up.refl _).alloc _)) g2 u2, fun b hb => ?_⟩
          rcases g3 b hb with h1 | h1
          · exact u2 b h1
          · right; have := u1.size; simp at h1; omega
        case measure => simp [intOf]; omega
      · rw [if_neg hb] at hk hdig
        clear hb hown hgr hnew
        generalize 2 ^ plc o j wd = q at *
        go_wp2_with (first | (go_at_call 102; (with_reducible refine (cP _).mono ?_); rintro e w' ⟨rfl, rfl⟩) | (at_builtin; refine wpList_appendM rfl _ _ rfl B _ _ rfl (HW.out.up (Up.alloc (Up.refl _) _)) ⟨wr.heap.size, 0, none⟩ 1 bb rfl (by rw [← hdig.out]; exact box_cell (MapKept.heap_alloc _ _).1 0) rfl (by rw [hl]; omega) (by have := HUP.out.1.size; simp; omega) ?_; rintro v4 w4 hown4 hgr4 hnew4; have HG := Lib.hid (And.intro hown4 (And.intro hgr4 hnew4)); clear hown4 hgr4 hnew4))
        go_roundw
        case rel =>
          obtain ⟨g1, g2, g3⟩ := HG.out
          obtain ⟨u1, u2⟩ := HUP.out
          refine ⟨j + 1, by go_num, by omega, by rw [hT.out, ← List.append_assoc]; exact g1, grownBy_row (grownBy_up u1 ((Up.refl _).alloc _)) g2 u2, fun b hb => ?_⟩
          rcases g3 b hb with h1 | h1
          · exact u2 b h1
          · right; have := u1.size; simp at h1; omega
        case measure => simp [intOf]; omega
    · have e : j = wd := by omega
      subst e
      rw [HA.out] at hown
      have HW := Lib.hid (And.intro hown (And.intro hgr hnew))
      obtain ⟨ar, cr, rfl⟩ := hown.shape
      clear hown hgr hnew
      go_wp2
      go_ret
      exact ⟨_, rfl, HW.out.1, HW.out.2.1, HW.out.2.2⟩
theorem gOut_ab {f : FuncId} {args : Array Value} {w w0 : World} {B : Nat} {v : Value} {d : List UInt8} (h : Calls Tryz.prog f args w (AbPost B v d w)) (hw : w0.heap.size ≤ w.heap.size) : gOut Tryz.prog (fun w w' => w.grownBy w' v.ownBlock) (fun u w' => ownM w' B u d ∧ NewOr w0.heap.size v u) w (.ok (.enter f args) w) :=
  ⟨rfl, h.mono fun e w'' ⟨vv, he, ho, hg, hn⟩ => ⟨_, he, hg, ho, fun b hb => (hn b hb).imp id (fun h => Nat.le_trans hw h)⟩⟩
theorem ownM_ne {w : World} {b : Nat} {cs : Array Value} {T : TypeId} (hb : w.heap[b]? = some (.cells cs T)) {base : Nat} {v : Value} {d : List UInt8} (h : ownM w base v d) (hne : T ≠ 5) : some b ≠ v.ownBlock := by
  obtain ⟨g, cap, cur, fz, rfl, h1, h2, -⟩ := h
  intro e
  simp only [Value.ownBlock, Option.some.injEq] at e
  subst e
  rw [h2] at hb
  simp only [Option.some.injEq, Obj.cells.injEq] at hb
  exact hne hb.2.1.symm
theorem ownM_row {w : World} {e : TypeId} {base1 size n : Nat} {v1 : Value} {xs : List Value} (hr : w.ownsRow base1 e size v1 n xs) {base : Nat} {v : Value} {d : List UInt8} (h : ownM w base v d) (hne : e ≠ 5) : v1.ownBlock = none ∨ v1.ownBlock ≠ v.ownBlock := by
  rcases hr.2 with ⟨rfl, _⟩ | ⟨g, cap, cur, rfl, hb, hg, _⟩
  · exact .inl rfl
  · exact .inr (ownM_ne hg h hne)
theorem ownM.setb {w : World} {b : Nat} {base : Nat} {v : Value} {d : List UInt8} (h : ownM w base v d) (hne : some b ≠ v.ownBlock) (i : Nat) (u : Value) : ownM (w.setCell ⟨b, i, none⟩ u) base v d := by
  obtain ⟨g, cap, cur, fz, rfl, h1, h2, h3⟩ := h
  have hgb : g ≠ b := fun e => hne (by simp [Value.ownBlock, e])
  exact ⟨g, cap, cur, fz, rfl, h1, (Below.heap_setCell _ _ _ _ hgb).trans h2, h3⟩
structure CdAt (B cb tb : Nat) (k : KnD) (vp vn vi vb : Value) (bits : List UInt8) (w : World) : Prop where
  tree : TreeAt B tb k vp vn vi w
  box : w.heap[cb]? = some (.cells #[.pointer (some ⟨tb, 0, none⟩), vb] 88)
  low : B ≤ cb
  own : ownM w B vb bits
theorem CdAt.up {B cb tb : Nat} {k : KnD} {vp vn vi vb : Value} {bits : List UInt8} {w w' : World} (h : CdAt B cb tb k vp vn vi vb bits w) (hu : Up w w') : CdAt B cb tb k vp vn vi vb bits w' := ⟨h.tree.up hu, box_up hu h.box, h.low, h.own.up hu⟩
theorem CdAt.lt {B cb tb : Nat} {k : KnD} {vp vn vi vb : Value} {bits : List UInt8} {w : World} (h : CdAt B cb tb k vp vn vi vb bits w) : cb < w.heap.size := (Array.getElem?_eq_some_iff.1 h.box).1
theorem CdAt.gr {B cb tb : Nat} {k : KnD} {vp vn vi vb : Value} {bits : List UInt8} {w w' : World} (h : CdAt B cb tb k vp vn vi vb bits w) (hg : w.grownBy w' vb.ownBlock) : TreeAt B tb k vp vn vi w' ∧ w'.heap[cb]? = some (.cells #[.pointer (some ⟨tb, 0, none⟩), vb] 88) :=
  ⟨⟨gbox hg h.tree.box (ownM_ne h.tree.box h.own (by decide)), h.tree.low, h.tree.prs.kept hg (ownM_row h.tree.prs h.own (by decide)), h.tree.nod.kept hg (ownM_row h.tree.nod h.own (by decide)), h.tree.idx.kept hg (ownM_row h.tree.idx h.own (by decide))⟩, gbox hg h.box (ownM_ne h.box h.own (by decide))⟩
theorem TreeAt.setb {B tb : Nat} {k : KnD} {vp vn vi : Value} {w : World} (h : TreeAt B tb k vp vn vi w) {b : Nat} {cs : Array Value} {T : TypeId} (hb : w.heap[b]? = some (.cells cs T)) (h1 : T ≠ 93) (h2 : T ≠ 118) (h3 : T ≠ 137) (h4 : T ≠ 3) (i : Nat) (u : Value) : TreeAt B tb k vp vn vi (w.setCell ⟨b, i, none⟩ u) := by
  have hn : b ≠ tb := fun e => by
    subst e
    have := h.box
    unfold TrBox at this
    rw [hb] at this
    cases this
    exact h1 rfl
  exact ⟨(Below.heap_setCell _ _ _ _ (Ne.symm hn)).trans h.box, h.low, ownsRow_setb h.prs (box_ne hb h.prs h2) i u, ownsRow_setb h.nod (box_ne hb h.nod h3) i u, ownsRow_setb h.idx (box_ne hb h.idx h4) i u⟩
theorem CdAt.put {B cb tb : Nat} {k : KnD} {vp vn vi vb vb' : Value} {bits bits' : List UInt8} {w w' : World} (h : CdAt B cb tb k vp vn vi vb bits w) (hg : w.grownBy w' vb.ownBlock) (ho : ownM w' B vb' bits') : CdAt B cb tb k vp vn vi vb' bits' (w'.setCell ⟨cb, 1, none⟩ vb') := by
  obtain ⟨h1, h2⟩ := h.gr hg
  exact ⟨h1.setb h2 (by decide) (by decide) (by decide) (by decide) 1 vb', box_set h2 1 vb', h.low, ho.setb (ownM_ne h2 ho (by decide)) 1 vb'⟩
def CdEx (a0 : World) (cb : Nat) (k : KnD) (bits : List UInt8) (w : World) : Prop := Up a0 w ∧ ∃ tb vp vn vi vb, CdAt a0.heap.size cb tb k vp vn vi vb bits w
theorem CdEx.up {a0 : World} {cb : Nat} {k : KnD} {bits : List UInt8} {w w' : World} (h : CdEx a0 cb k bits w) (hu : Up w w') : CdEx a0 cb k bits w' := by
  obtain ⟨h1, tb, vp, vn, vi, vb, h2⟩ := h
  exact ⟨h1.trans hu, tb, vp, vn, vi, vb, h2.up hu⟩
theorem CdAt.tr {a0 : World} {cb tb : Nat} {k k' : KnD} {vp vn vi vb : Value} {bits : List UInt8} {w w' : World} (h : CdAt a0.heap.size cb tb k vp vn vi vb bits w) (hu : Up a0 w) (hp : TrPost a0.heap.size tb k' vp vn vi w w') : CdEx a0 cb k' bits w' := by
  obtain ⟨vp', vn', vi', hT, hF, hO⟩ := hp
  have hcb := h.tree.not_own h.box (by decide) (by decide) (by decide) (by decide)
  refine ⟨Fr.upto hu hF (fun b hb => (h.tree.own_lo b hb).1), tb, vp', vn', vi', vb, hT, hF.box h.box hcb, h.low, h.own.fr hF (fun b hb ho => ?_)⟩
  have hM := h.own
  rcases ho with rfl | e | e | e
  · exact ownM_ne h.tree.box hM (by decide) hb.symm
  · exact (ownM_row h.tree.prs hM (by decide)).elim (fun h => by rw [h] at e; cases e) (fun h => h (e.trans hb.symm))
  · exact (ownM_row h.tree.nod hM (by decide)).elim (fun h => by rw [h] at e; cases e) (fun h => h (e.trans hb.symm))
  · exact (ownM_row h.tree.idx hM (by decide)).elim (fun h => by rw [h] at e; cases e) (fun h => h (e.trans hb.symm))
end Go.Proofs.YtgbakgaegldomaaGreat

/- Walks of the program's coder: write, coderOf. Conditions: the coder lies in memory (CdEx), what is known is valid, the code can be written. -/
namespace Go.Proofs.YtgbakgaegldomaaGreat
open Go Go.RowKit
def KnD.puts (k : KnD) (x : Int) : Prop := x = (k.c : Int) + 1 ∨ x = (k.c : Int) ∨ (x ≠ (k.c : Int) ∧ x ≠ (k.c : Int) + 1 ∧ k.follows x = true)
set_option maxRecDepth 100000 in
set_option maxHeartbeats 8000000 in
theorem write_any (a0 : World) (cb : Nat) (k : KnD) (bits : List UInt8) (n : Nat) (w : World) (h : CdEx a0 cb k bits w) (hk : k.Ok) (hn : n ≤ 1048576) (hl : bits.length ≤ 900000) (hf : k.puts n) :
    Calls Tryz.prog 45  #[.pointer (some ⟨cb, 0, none⟩), .int .i64 n] w (fun e w' => (∃ v, e = .returned v) ∧ CdEx a0 cb (k.thru n) (bits ++ codeL k.set.ord n k.width) w') := by
  obtain ⟨hu0, tb, vp, vn, vi, vb, hC⟩ := h
  have cE := fun w => endI_any k.set w hk.set
  have cW := fun wq hr => widthI_any k vp a0.heap.size wq hk hr
  have hwd := KnD.width_bd hk
  have ho := (setOk_bd hk.set).1
  have hkt := hk.tr
  have hcb := hC.lt
  have htb := hC.tree.lt
  obtain ⟨c0, c1, c2, c3, c4, c5, c6, c7⟩ := hC.tree.cells
  have d0 := box_cell hC.box 0
  have d1 := box_cell hC.box 1
  simp at d0 d1
  have hfc := box_free hC.box
  have hbn := ownM_ne hC.tree.box hC.own (by decide)
  have hcn := ownM_ne hC.box hC.own (by decide)
  have cB := fun wq hB hown => bitsM_any a0.heap.size k.set.ord n k.width vb bits wq ho hn (by omega) (by omega) hB hown
  obtain ⟨gv, cv, hv⟩ := hC.own.shape
  obtain ⟨ap, cp, hvp⟩ := hC.tree.shape
  have ec : k.c = clr k.set := rfl
  have HC := Lib.hid hC
  have HU0 := Lib.hid hu0
  have HK := Lib.hid hk
  have HF := Lib.hid hf
  subst hv hvp
  clear hC hu0 hk hf
  simp only [kV] at *
  go_enter Tryz.func45, Tryz.ntmps45
  go_wp2
  have hC1 := HC.out.up ((Up.refl w).alloc (.cells #[.int .i64 k.set.ord, .int .i64 k.set.lit, .int .i64 k.set.most] 24))
  have hS1 : SetAt w.heap.size k.set.ord k.set.lit k.set.most (w.alloc (.cells #[.int .i64 k.set.ord, .int .i64 k.set.lit, .int .i64 k.set.most] 24)) := (MapKept.heap_alloc w _).1
  have hU1 : Up a0 (w.alloc (.cells #[.int .i64 k.set.ord, .int .i64 k.set.lit, .int .i64 k.set.most] 24)) := HU0.out.alloc _
  have hw1 : w.heap.size ≤ (w.alloc (.cells #[.int .i64 k.set.ord, .int .i64 k.set.lit, .int .i64 k.set.most] 24)).heap.size := by simp
  generalize (w.alloc (.cells #[.int .i64 k.set.ord, .int .i64 k.set.lit, .int .i64 k.set.most] 24)) = W1 at *
  have hsn := ownM_ne hS1 hC1.own (by decide)
  have HS1 := Lib.hid hS1
  have HC1 := Lib.hid hC1
  have HU1 := Lib.hid hU1
  have hB1 : a0.heap.size ≤ W1.heap.size := hU1.size
  generalize hsb : w.heap.size = sb at *
  clear hC1 hS1 hU1 c0 c1 c2 c3 c4 c5 c6 c7 d0 d1 hfc HC HU0
  refine wp_region_ownf 19 16 (Value.ownBlock (.slice (some ⟨gv, 0, none⟩) bits.length cv)) (by kernel_rfl) (by kernel_rfl) ?_
  simp only [List.take, List.drop]
  repeat (refine wpG_step (fun K hK => ?_); go_simp; (try simp only [↓IntWalk.iteOmega]); first
    | (refine hK _ _ ?_; clear hK K)
    | (refine stepG_own (by rfl) (by kernel_rfl) ((fun u w' => ownM w' a0.heap.size u (bits ++ codeL k.set.ord n k.width) ∧ NewOr W1.heap.size (.slice (some ⟨gv, 0, none⟩) bits.length cv) u)) ((fun v w w' h hu => ⟨h.1.up hu, h.2⟩)) (fun wq hwq => ?_) ?_
       · ((repeat (first | refine fills_no (by rfl) ?_ | refine fills_yes (by rfl) (fun vq hvq => ?_))); simp only [List.filter_nil, fills]; (unfold gAt; go_simp; (with_reducible refine gOut_ab (v := .slice (some ⟨gv, 0, none⟩) bits.length cv) ?_ hwq.size); go_at_call 90; exact cB _ (Nat.le_trans hB1 hwq.size) (HC1.out.own.up hwq)))
       refine hK _ _ ?_; clear hK K)
    | (refine stepG_c (by rfl) ?_ ?_ ?_
       rotate_left
       · intro wq hwq; (have hbq := gcell hwq; (repeat (first | refine fills_no (by rfl) ?_ | refine fills_yes (by rfl) (fun vq hvq => ?_))); simp only [List.filter_nil, fills]; unfold upAt; (try ((obtain ⟨c0, c1, c2, c3, c4, c5, c6, c7⟩ := (HC1.out.gr hwq).1.cells; have d0 := box_cell (HC1.out.gr hwq).2 0; have d1 := box_cell (HC1.out.gr hwq).2 1; simp at d0 d1; obtain ⟨s9, s0, s1, s2⟩ := SetAt.cells (gbox hwq HS1.out hsn)))); go_simp; (try go_bits); (try simp only [↓IntWalk.iteOmega]); (try (rw [dif_pos (by omega)]; go_simp; try go_bits)); first | exact upOut_value | (apply upOut_call; (go_at_call 100; exact cW _ (RdP.of_own (HC1.out.gr hwq).1.prs))) | (apply upOut_eq; (go_at_call 100; exact cW _ (RdP.of_own (HC1.out.gr hwq).1.prs))))
       go_simp; refine hK _ _ ?_; clear hK K))
  refine wpG_nil (by rfl) (fun wq hwq => ?_)
  simp only [fills]
  rintro v2 ⟨hM, hN⟩
  have hg := hwq
  generalize wq = w2 at *
  obtain ⟨g2, cv2, rfl⟩ := hM.shape
  have hlnb : (bits ++ codeL k.set.ord n k.width).length ≤ 1000000 := by rw [List.length_append, codeL_length]; omega
  generalize hbb : bits ++ codeL k.set.ord n k.width = bb at *
  generalize hln : bb.length = ln at *
  have hput := HC1.out.put hg hM
  have hS2 : SetAt sb k.set.ord k.set.lit k.set.most (w2.setCell ⟨cb, 1, none⟩ (.slice (some ⟨g2, 0, none⟩) ln cv2)) := box_oth (gbox hg HS1.out hsn) (p := ⟨cb, 1, none⟩) (by show sb ≠ cb; omega) _
  have hU2 : Up a0 (w2.setCell ⟨cb, 1, none⟩ (.slice (some ⟨g2, 0, none⟩) ln cv2)) := Up.set (HU1.out.grown hg (fun b hb => (HC1.out.own.lt b hb).1)) HC1.out.low _
  have d1 := box_cell (HC1.out.gr hg).2 1
  have d0 := box_cell (HC1.out.gr hg).2 0
  simp at d0 d1
  have hfc := box_free (HC1.out.gr hg).2
  have hcb2 : cb < w2.heap.size := Nat.lt_of_lt_of_le (HC1.out.lt) hg.size
  have HP := Lib.hid (And.intro hput (And.intro hS2 hU2))
  obtain ⟨s9, s0, s1, s2⟩ := SetAt.cells (gbox hg HS1.out hsn)
  have HBB := Lib.hid hbb
  clear hbb
  clear hput hS2 hU2 hM hg hwq hN HC1 HS1 HU1 hln hlnb
  go_wp2
  rw [onlyN_normal]
  rcases HF.out with hx | hx | ⟨hx1, hx2, hx3⟩
  · have hth : Hid (k.thru n = k) := by unfold Hid KnD.thru; rw [if_pos hx]
    have hxe : ((n : Int) != ((clr k.set : Nat) : Int) + 1) = false := by rw [← ec]; simpa using hx
    clear hx HF
    go_wp2_with (first | ((go_at_call 76; (with_reducible refine (cE _).mono ?_); rintro e w3 ⟨rfl, U3⟩; have B3 := bcell U3; have Z3 := U3.size; (try simp at Z3); (try rw [Nat.add_one_le_iff] at Z3))) | fail)
    go_end0
    exact ⟨⟨_, rfl⟩, by rw [hth.out, HBB.out]; exact ⟨HP.out.2.2.trans U3, _, _, _, _, _, HP.out.1.up U3⟩⟩
  · have hth : Hid (k.thru n = k.cleared) := by unfold Hid; rw [hx]; exact thru_clear k
    have hxe : ((n : Int) != ((clr k.set : Nat) : Int) + 1) = true := by rw [← ec, hx]; simp; omega
    have hxn : n = clr k.set := by rw [ec] at hx; omega
    subst hxn
    have cF := fun wq hT => followC_any a0.heap.size tb k (.slice ap k.ps.length cp) vn vi wq hT hkt HK.out.base0 HK.out.base1
    rw [show k.c = clr k.set from rfl] at cF
    clear hx HF
    go_wp2_with (first | ((go_at_call 76; (with_reducible refine (cE _).mono ?_); rintro e w3 ⟨rfl, U3⟩; have B3 := bcell U3; have Z3 := U3.size; (try simp at Z3); (try rw [Nat.add_one_le_iff] at Z3))) | fail)
    with_reducible refine (cF _ (HP.out.1.up U3).tree).mono ?_
    rintro e w4 ⟨⟨v4, rfl⟩, hP4⟩
    have HQ := Lib.hid ((HP.out.1.up U3).tr (HP.out.2.2.trans U3) hP4)
    clear hP4
    go_wp2
    go_end0
    exact ⟨⟨_, rfl⟩, by rw [hth.out, HBB.out]; exact HQ.out⟩
  · have hth : Hid (k.thru n = k.after n) := KnD.thru_fol HK.out hx3
    have hxe : ((n : Int) != ((clr k.set : Nat) : Int) + 1) = true := by rw [← ec]; simpa using hx2
    have cF := fun wq hT => followW_any a0.heap.size tb k (.slice ap k.ps.length cp) vn vi n wq hT HK.out hx1 hx3
    clear hx1 hx2 hx3 HF
    go_wp2_with (first | ((go_at_call 76; (with_reducible refine (cE _).mono ?_); rintro e w3 ⟨rfl, U3⟩; have B3 := bcell U3; have Z3 := U3.size; (try simp at Z3); (try rw [Nat.add_one_le_iff] at Z3))) | fail)
    with_reducible refine (cF _ (HP.out.1.up U3).tree).mono ?_
    rintro e w4 ⟨⟨v4, rfl⟩, hP4⟩
    have HQ := Lib.hid ((HP.out.1.up U3).tr (HP.out.2.2.trans U3) hP4)
    clear hP4
    go_wp2
    go_end0
    exact ⟨⟨_, rfl⟩, by rw [hth.out, HBB.out]; exact HQ.out⟩
end Go.Proofs.YtgbakgaegldomaaGreat

/- Walks of the program's coderOf, codeOf, CodeOfWord, BitsValid, WriterValid, NewWriter. Conditions: as each says. -/
namespace Go.Proofs.YtgbakgaegldomaaGreat
open Go Go.RowKit
def WrAt (b : Nat) (x : WrD) (v : Value) (w : World) : Prop := w.heap[b]? = some (.cells #[.int .i64 x.k.set.ord, .int .i64 x.k.set.lit, .int .i64 x.k.set.most, v, .int .i64 x.k.base, .int .i64 x.k.last, .string (bs x.pend), .string (bs x.bits), .bool x.beg] 37)
theorem WrAt.cells {b : Nat} {x : WrD} {v : Value} {w : World} (h : WrAt b x v w) : b < w.heap.size ∧ w.cell? ⟨b, 0, none⟩ = some (.int .i64 x.k.set.ord) ∧ w.cell? ⟨b, 1, none⟩ = some (.int .i64 x.k.set.lit) ∧ w.cell? ⟨b, 2, none⟩ = some (.int .i64 x.k.set.most) ∧ w.cell? ⟨b, 3, none⟩ = some v ∧ w.cell? ⟨b, 4, none⟩ = some (.int .i64 x.k.base) ∧ w.cell? ⟨b, 5, none⟩ = some (.int .i64 x.k.last) ∧ w.cell? ⟨b, 6, none⟩ = some (.string (bs x.pend)) ∧ w.cell? ⟨b, 7, none⟩ = some (.string (bs x.bits)) ∧ w.cell? ⟨b, 8, none⟩ = some (.bool x.beg) :=
  ⟨(Array.getElem?_eq_some_iff.1 h).1, box_cell h 0, box_cell h 1, box_cell h 2, box_cell h 3, box_cell h 4, box_cell h 5, box_cell h 6, box_cell h 7, box_cell h 8⟩
theorem WrAt.up {b : Nat} {x : WrD} {v : Value} {w w' : World} (h : WrAt b x v w) (hu : Up w w') : WrAt b x v w' := box_up hu h
def TreeO (base : Nat) (k : KnD) (u : Value) (w : World) : Prop := ∃ tb vp vn vi, u = .pointer (some ⟨tb, 0, none⟩) ∧ TreeAt base tb k vp vn vi w
theorem treeO_closed (base : Nat) (k : KnD) : ∀ u, UpClosed (TreeO base k u) := fun u w w' ⟨tb, vp, vn, vi, h1, h2⟩ hu => ⟨tb, vp, vn, vi, h1, h2.up hu⟩
theorem upOut_tree {f : FuncId} {args : Array Value} {w : World} {k : KnD} {base : Nat} (h : Calls Tryz.prog f args w (NewTree k w)) (hb : base ≤ w.heap.size) : upOut Tryz.prog (TreeO base k) w (.ok (.enter f args) w) :=
  ⟨rfl, h.mono fun e w' ⟨tb, vp, vn, vi, he, hT, hu⟩ => ⟨_, he, hu, tb, vp, vn, vi, rfl, hT.base hb⟩⟩
theorem bytO_closed (base : Nat) (d : List UInt8) : ∀ u, UpClosed ((fun (u : Value) w => ownM w base u d) u) := fun u w w' h hu => h.up hu
set_option maxRecDepth 100000 in
set_option maxHeartbeats 8000000 in
theorem coderOf_any (x : WrD) (v : Value) (lo : Nat) (w : World) (hk : x.k.Ok) (hr : RdP lo w v x.k.ps) (hb : x.bits.length ≤ 1000) :
    Calls Tryz.prog 43  #[wrV x v] w (fun e w' => ∃ cb, e = .returned (.pointer (some ⟨cb, 0, none⟩)) ∧ CdEx w cb x.open.2 x.open.1 w') := by
  have cN := fun wq hr => newTree_any x.k v lo wq hk hr
  have cK := fun w => clearI_any x.k.set w hk.set
  have hrt := fun (wq : World) (hu : Up w wq) => hr.up hu
  have hbm : x.bits.length ≤ maxLen := by unfold maxLen; omega
  obtain ⟨a, cap, rfl, -, -, -, -⟩ := hr
  have hA : WrAt w.heap.size x (.slice a x.k.ps.length cap) (w.alloc (.cells #[.int .i64 x.k.set.ord, .int .i64 x.k.set.lit, .int .i64 x.k.set.most, .slice a x.k.ps.length cap, .int .i64 x.k.base, .int .i64 x.k.last, .string (bs x.pend), .string (bs x.bits), .bool x.beg] 37)) := (MapKept.heap_alloc w _).1
  have hbg : ∀ b : Bool, x.beg = b → x.open = if b then (x.bits, x.k) else (x.bits ++ codeL x.k.set.ord x.k.c x.k.width, x.k.cleared) := fun b e => by unfold WrD.open; rw [e]
  have HBG := Lib.hid hbg
  have HK := Lib.hid hk
  clear hbg hk
  cases hbe : x.beg
  all_goals
    have HO := Lib.hid (HBG.out _ hbe)
    rw [hbe] at hA
    unfold WrAt at hA
    rw [hbe] at hA
    unfold wrV
    rw [hbe]
    simp only [kV] at *
    go_enter Tryz.func43, Tryz.ntmps43
    go_wp2
    have hU1 : Up w (w.alloc (.cells #[.int .i64 x.k.set.ord, .int .i64 x.k.set.lit, .int .i64 x.k.set.most, .slice a x.k.ps.length cap, .int .i64 x.k.base, .int .i64 x.k.last, .string (bs x.pend), .string (bs x.bits), .bool x.beg] 37)) := (Up.refl w).alloc _
    rw [hbe] at hU1
    generalize (w.alloc (.cells #[.int .i64 x.k.set.ord, .int .i64 x.k.set.lit, .int .i64 x.k.set.most, .slice a x.k.ps.length cap, .int .i64 x.k.base, .int .i64 x.k.last, .string (bs x.pend), .string (bs x.bits), .bool _] 37)) = W1 at *
    have hA' : WrAt w.heap.size x (.slice a x.k.ps.length cap) W1 := by unfold WrAt; rw [hbe]; exact hA
    have HA := Lib.hid (And.intro hA' hU1)
    have hws := hU1.size
    clear hA hA' hU1
    have HBE := Lib.hid hbe
    clear hbe
    refine wp_region_upR 6 (by kernel_rfl) (by kernel_rfl) ?_
    simp only [List.take, List.drop]
    repeat (refine wpUp_step (fun K hK => ?_); go_simp; (try simp only [↓IntWalk.iteOmega]); first
      | (refine hK _ _ ?_; clear hK K)
      | (apply stepU_c
         · intro wq hwq; (have hbq := bcell hwq; (repeat (first | refine fills_no (by rfl) ?_ | refine fills_yes (by rfl) (fun vq hvq => ?_))); simp only [List.filter_nil, fills]; unfold upAt; (try ((obtain ⟨-, r0, r1, r2, r3, r4, r5, r6, r7, r8⟩ := (HA.out.1.up hwq).cells; have hcv := run_strBytes wq x.bits))); go_simp; (try go_bits); (try simp only [↓IntWalk.iteOmega]); (try (rw [dif_pos (by omega)]; go_simp; try go_bits)); first | exact upOut_value)
         go_simp; refine hK _ _ ?_; clear hK K)
      | (refine stepU_m (by kernel_rfl) (TreeO w.heap.size x.k) (treeO_closed _ _) (fun wq hwq => ?_) ?_
         · (have hbq := bcell hwq; (repeat (first | refine fills_no (by rfl) ?_ | refine fills_yes (by rfl) (fun vq hvq => ?_))); simp only [List.filter_nil, fills]; unfold upAt; (try ((obtain ⟨-, r0, r1, r2, r3, r4, r5, r6, r7, r8⟩ := (HA.out.1.up hwq).cells; have hcv := run_strBytes wq x.bits))); go_simp; (try go_bits); (try simp only [↓IntWalk.iteOmega]); (try (rw [dif_pos (by omega)]; go_simp; try go_bits)); ((with_reducible refine upOut_tree ?_ (Nat.le_trans hws hwq.size)); go_at_call 95; exact cN _ (hrt _ (HA.out.2.trans hwq))))
         refine hK _ _ ?_; clear hK K)
      | (refine stepU_m (by kernel_rfl) ((fun (u : Value) w' => ownM w' w.heap.size u x.bits)) (bytO_closed _ _) (fun wq hwq => ?_) ?_
         · (have hbq := bcell hwq; (repeat (first | refine fills_no (by rfl) ?_ | refine fills_yes (by rfl) (fun vq hvq => ?_))); simp only [List.filter_nil, fills]; unfold upAt; (try ((obtain ⟨-, r0, r1, r2, r3, r4, r5, r6, r7, r8⟩ := (HA.out.1.up hwq).cells; have hcv := run_strBytes wq x.bits))); go_simp; (try go_bits); (try simp only [↓IntWalk.iteOmega]); (try (rw [dif_pos (by omega)]; go_simp; try go_bits)); exact upOut_make (up_bytes _ _) (own_bytes _ _ hbm (Nat.le_trans hws hwq.size)))
         refine hK _ _ ?_; clear hK K))
    refine wpUp_nil (fun wq hwq => ?_)
    simp only [fills]
    rintro u5 hM u2 ⟨tb, vp, vn, vi, rfl, hT⟩
    obtain ⟨gv, cv, rfl⟩ := hM.shape
    have HW := Lib.hid (HA.out.2.trans hwq)
    have HAq := Lib.hid (HA.out.1.up hwq)
    have hcx : CdEx w wq.heap.size x.k x.bits (wq.alloc (.cells #[.pointer (some ⟨tb, 0, none⟩), .slice (some ⟨gv, 0, none⟩) x.bits.length cv] 88)) :=
      ⟨HW.out.alloc _, tb, vp, vn, vi, _, hT.up ((Up.refl _).alloc _), (MapKept.heap_alloc _ _).1, HW.out.size, hM.up ((Up.refl _).alloc _)⟩
    have HC := Lib.hid hcx
    have hqs := hwq.size
    obtain ⟨-, r0, r1, r2, r3, r4, r5, r6, r7, r8⟩ := (HAq.out.up ((Up.refl _).alloc (.cells #[.pointer (some ⟨tb, 0, none⟩), .slice (some ⟨gv, 0, none⟩) x.bits.length cv] 88))).cells
    rw [HBE.out] at r8
    clear hcx hM hT hwq HA HW HAq HBE
    have hwz : w.heap.size < (wq.alloc (.cells #[.pointer (some ⟨tb, 0, none⟩), .slice (some ⟨gv, 0, none⟩) x.bits.length cv] 88)).heap.size := by simp; omega
  · have cWr := fun wx hx => write_any w wq.heap.size x.k x.bits (clr x.k.set) wx hx HK.out (by have := HK.out.nums; omega) (by omega) (.inr (.inl rfl))
    rw [show ((clr x.k.set : Nat) : Int) = (x.k.c : Int) from rfl, thru_clear] at cWr
    rw [show (x.k.c : Int) = ((clr x.k.set : Nat) : Int) from rfl] at cWr
    go_wp2_with (first | (go_at_call 47; (with_reducible refine (cK _).mono ?_); rintro e w3 ⟨rfl, U3⟩; have B3 := bcell U3; have Z3 := U3.size; (try simp at Z3); (try rw [Nat.add_one_le_iff] at Z3)) | fail)
    with_reducible refine (cWr _ (HC.out.up U3)).mono ?_
    rintro e w4 ⟨⟨v4, rfl⟩, hP⟩
    have HP := Lib.hid hP
    clear hP
    go_wp2
    go_ret
    exact ⟨_, rfl, by rw [HO.out]; exact HP.out⟩
  · go_wp2
    go_ret
    exact ⟨_, rfl, by rw [HO.out]; exact HC.out⟩
set_option maxRecDepth 100000 in
set_option maxHeartbeats 4000000 in
theorem codeOf_any (B tb : Nat) (k : KnD) (vp vn vi : Value) (s : ByteArray) (w : World) (h : TreeAt B tb k vp vn vi w) (hk : k.Ok) (hs : 0 < s.size) (hs2 : s.size ≤ 1073741824) (hl : ∀ b ∈ s.data.toList, b.toNat < k.c) :
    Calls Tryz.prog 75  #[.pointer (some ⟨tb, 0, none⟩), .string s] w (Same (if k.longest s.data.toList = s.data.toList then .tuple #[.int .i64 (k.find s.data.toList), .bool true] else .tuple #[.int .i64 0, .bool false]) w) := by
  have cL := fun wq hT => longest_any B tb k vp vn vi s wq hT hk hs hs2 hl
  have cK := fun w => clearI_any k.set w hk.set
  have hsl := ba_len s
  have htb := h.lt
  have hu0 := u8_bd s[0]
  have hne : s.data.toList ≠ [] := fun e => by rw [e] at hsl; simp at hsl; omega
  have hl0 : (s[0]).toNat < clr k.set := hl _ (by
    have e : s[0] = s.data.toList[0]'(by omega) := rfl
    rw [e]; exact List.getElem_mem _)
  have hge : ¬ ((s[0].toNat : Int) ≥ ((clr k.set : Nat) : Int)) := by omega
  have HE : s.toList.isEmpty = false := by rw [Lib.toList_data]; cases hh : s.data.toList with | nil => exact absurd hh hne | cons _ _ => rfl
  obtain ⟨c0, c1, c2, c3, c4, c5, c6, c7⟩ := h.cells
  have hle := KnD.longest_le (k := k) s.data.toList
  have HT := Lib.hid h
  by_cases he : k.longest s.data.toList = s.data.toList
  · rw [if_pos he]
    rw [he, hsl] at cL
    have hlt : ¬ ((s.size : Nat) : Int) < (s.size : Int) := by omega
    clear he h hl hle hne
    generalize k.find s.data.toList = x at *
    go_enter Tryz.func75, Tryz.ntmps75
    go_wp2
    refine wp_region_up 14 (by kernel_rfl) (by kernel_rfl) ?_
    simp only [List.take, List.drop]
    repeat (refine wpUp_step (fun K hK => ?_); go_simp; (try simp only [↓IntWalk.iteOmega]); first
      | (refine hK _ _ ?_; clear hK K)
      | (apply stepU_c
         · intro wq hwq; (have hbq := bcell hwq; (repeat (first | refine fills_no (by rfl) ?_ | refine fills_yes (by rfl) (fun vq hvq => ?_))); simp only [List.filter_nil, fills]; unfold upAt; go_simp; (try go_bits); (try simp only [↓IntWalk.iteOmega]); (try (rw [dif_pos (by omega)]; go_simp; try go_bits)); first | exact upOut_value | (apply upOut_call; (go_at_call 47; exact cK _)) | (apply upOut_eq; (go_at_call 47; exact cK _)))
         go_simp; refine hK _ _ ?_; clear hK K))
    refine wpUp_nil (fun wq hwq => ?_)
    simp only [fills]
    go_wp2_with (first | (go_at_call 44; (with_reducible refine (cL _ (HT.out.up hwq)).mono ?_); rintro e w2 ⟨rfl, U2⟩; have B2 := bcell U2; have Z2 := U2.size; (try simp at Z2); (try rw [Nat.add_one_le_iff] at Z2)))
    go_ret2
    exact ⟨rfl, hwq.trans U2⟩
  · rw [if_neg he]
    have hlt := KnD.longest_lt (k := k) he
    rw [hsl] at hlt
    generalize k.find (k.longest s.data.toList) = x at *
    generalize (k.longest s.data.toList).length = ln at *
    clear he h hl hle hne
    go_enter Tryz.func75, Tryz.ntmps75
    go_wp2
    refine wp_region_up 14 (by kernel_rfl) (by kernel_rfl) ?_
    simp only [List.take, List.drop]
    repeat (refine wpUp_step (fun K hK => ?_); go_simp; (try simp only [↓IntWalk.iteOmega]); first
      | (refine hK _ _ ?_; clear hK K)
      | (apply stepU_c
         · intro wq hwq; (have hbq := bcell hwq; (repeat (first | refine fills_no (by rfl) ?_ | refine fills_yes (by rfl) (fun vq hvq => ?_))); simp only [List.filter_nil, fills]; unfold upAt; go_simp; (try go_bits); (try simp only [↓IntWalk.iteOmega]); (try (rw [dif_pos (by omega)]; go_simp; try go_bits)); first | exact upOut_value | (apply upOut_call; (go_at_call 47; exact cK _)) | (apply upOut_eq; (go_at_call 47; exact cK _)))
         go_simp; refine hK _ _ ?_; clear hK K))
    refine wpUp_nil (fun wq hwq => ?_)
    simp only [fills]
    go_wp2_with (first | (go_at_call 44; (with_reducible refine (cL _ (HT.out.up hwq)).mono ?_); rintro e w2 ⟨rfl, U2⟩; have B2 := bcell U2; have Z2 := U2.size; (try simp at Z2); (try rw [Nat.add_one_le_iff] at Z2)))
    go_ret2
    exact ⟨rfl, hwq.trans U2⟩
set_option maxRecDepth 100000 in
set_option maxHeartbeats 4000000 in
theorem codeWI_any (k : KnD) (v : Value) (lo : Nat) (s : ByteArray) (w : World) (hk : k.Ok) (hv : k.vl) (hr : RdP lo w v k.ps) (hs : 0 < s.size) (hs2 : s.size ≤ 1073741824) (hl : ∀ b ∈ s.data.toList, b.toNat < k.c) :
    Calls Tryz.prog 94  #[kV k v, .string s] w (Same (.tuple #[.int .i64 (if k.longest s.data.toList = s.data.toList then k.find s.data.toList else 0), .bool (decide (k.longest s.data.toList = s.data.toList))]) w) := by
  have cV := fun wq hr => kvI_any k v lo wq hk hv hr
  have cN := fun wq hr => newTree_any k v lo wq hk hr
  have cC := fun B tb vp vn vi wq hT => codeOf_any B tb k vp vn vi s wq hT hk hs hs2 hl
  have hrt := fun (wq : World) (hu : Up w wq) => hr.up hu
  obtain ⟨a, cap, rfl, -, -, -, -⟩ := hr
  by_cases he : k.longest s.data.toList = s.data.toList
  · simp only [he, if_true, decide_true] at cC ⊢
    generalize k.find s.data.toList = x at *
    clear hk hl hv he
    simp only [kV] at *
    go_enter Tryz.func94, Tryz.ntmps94
    go_wp2_with (first | (go_at_call 39; (with_reducible refine (cV _ (hrt _ (by (repeat (first | with_reducible exact Up.refl _ | with_reducible assumption | with_reducible refine Up.set ?_ (by first | exact Nat.le_refl _ | (simp only []; omega) | (simp; omega)) _ | with_reducible refine Up.alloc ?_ _ | with_reducible refine Up.drew ?_ | refine Up.trans ?_ (by with_reducible assumption)))))).mono ?_); rintro e w1 ⟨rfl, U1⟩; have B1 := bcell U1; have Z1 := U1.size; (try simp at Z1); (try rw [Nat.add_one_le_iff] at Z1)) | fail)
    with_reducible refine (cN _ (hrt _ (by (repeat (first | with_reducible exact Up.refl _ | with_reducible assumption | with_reducible refine Up.set ?_ (by first | exact Nat.le_refl _ | (simp only []; omega) | (simp; omega)) _ | with_reducible refine Up.alloc ?_ _ | with_reducible refine Up.drew ?_ | refine Up.trans ?_ (by with_reducible assumption)))))).mono ?_
    rintro e w2 ⟨tb, vp, vn, vi, rfl, hT, U2⟩
    have HT := Lib.hid hT
    clear hT
    go_wp2_with (first | (go_at_call 75; (with_reducible refine (cC _ _ _ _ _ _ HT.out).mono ?_); rintro e w3 ⟨rfl, U3⟩; have B3 := bcell U3; have Z3 := U3.size; (try simp at Z3); (try rw [Nat.add_one_le_iff] at Z3)))
    go_ret2
    refine ⟨rfl, ?_⟩
    (repeat (first | with_reducible exact Up.refl _ | with_reducible assumption | with_reducible refine Up.set ?_ (by first | exact Nat.le_refl _ | (simp only []; omega) | (simp; omega)) _ | with_reducible refine Up.alloc ?_ _ | with_reducible refine Up.drew ?_ | refine Up.trans ?_ (by with_reducible assumption)))
  · simp only [he, if_false, decide_false] at cC ⊢
    clear hk hl hv he
    simp only [kV] at *
    go_enter Tryz.func94, Tryz.ntmps94
    go_wp2_with (first | (go_at_call 39; (with_reducible refine (cV _ (hrt _ (by (repeat (first | with_reducible exact Up.refl _ | with_reducible assumption | with_reducible refine Up.set ?_ (by first | exact Nat.le_refl _ | (simp only []; omega) | (simp; omega)) _ | with_reducible refine Up.alloc ?_ _ | with_reducible refine Up.drew ?_ | refine Up.trans ?_ (by with_reducible assumption)))))).mono ?_); rintro e w1 ⟨rfl, U1⟩; have B1 := bcell U1; have Z1 := U1.size; (try simp at Z1); (try rw [Nat.add_one_le_iff] at Z1)) | fail)
    with_reducible refine (cN _ (hrt _ (by (repeat (first | with_reducible exact Up.refl _ | with_reducible assumption | with_reducible refine Up.set ?_ (by first | exact Nat.le_refl _ | (simp only []; omega) | (simp; omega)) _ | with_reducible refine Up.alloc ?_ _ | with_reducible refine Up.drew ?_ | refine Up.trans ?_ (by with_reducible assumption)))))).mono ?_
    rintro e w2 ⟨tb, vp, vn, vi, rfl, hT, U2⟩
    have HT := Lib.hid hT
    clear hT
    go_wp2_with (first | (go_at_call 75; (with_reducible refine (cC _ _ _ _ _ _ HT.out).mono ?_); rintro e w3 ⟨rfl, U3⟩; have B3 := bcell U3; have Z3 := U3.size; (try simp at Z3); (try rw [Nat.add_one_le_iff] at Z3)))
    go_ret2
    refine ⟨rfl, ?_⟩
    (repeat (first | with_reducible exact Up.refl _ | with_reducible assumption | with_reducible refine Up.set ?_ (by first | exact Nat.le_refl _ | (simp only []; omega) | (simp; omega)) _ | with_reducible refine Up.alloc ?_ _ | with_reducible refine Up.drew ?_ | refine Up.trans ?_ (by with_reducible assumption)))
def bvB (l : List UInt8) : Bool := decide (l.length ≤ 32000) && bitsB l
theorem bitsB_no {s : ByteArray} {j : Nat} (h : j < s.size) (hb : ¬ (s[j].toNat = 48 ∨ s[j].toNat = 49)) : bitsB s.data.toList = false := by
  cases e : bitsB s.data.toList
  · rfl
  · exact absurd (bitsB_iff.1 e s[j] (by
      have e2 : s[j] = s.data.toList[j]'(by rw [ba_len]; exact h) := rfl
      rw [e2]; exact List.getElem_mem _)) hb
theorem bitsB_yes {s : ByteArray} (h : ∀ j (hj : j < s.size), s[j].toNat = 48 ∨ s[j].toNat = 49) : bitsB s.data.toList = true := by
  rw [bitsB_iff]
  intro b hb
  obtain ⟨i, hi, rfl⟩ := List.mem_iff_getElem.1 hb
  exact h i (by rw [ba_len] at hi; exact hi)
def RelBg (s : ByteArray) (i : Value) (w wr : World) : Prop := ∃ j : Nat, i = .int .i64 j ∧ j ≤ s.size ∧ (∀ q (hq : q < s.size), q < j → s[q].toNat = 48 ∨ s[q].toNat = 49) ∧ w = wr
set_option maxRecDepth 100000 in
set_option maxHeartbeats 1000000 in
theorem bvI_any (s : ByteArray) (w : World) (hs : s.size ≤ 1073741824) :
    Calls Tryz.prog 50  #[.string s] w (fun e w' => e = .returned (.bool (bvB s.data.toList)) ∧ w = w') := by
  have hlen := ba_len s
  by_cases h4 : s.size ≤ 32000
  · have HV : Hid (bvB s.data.toList = bitsB s.data.toList) := by unfold Hid bvB; rw [hlen, decide_eq_true h4]; rfl
    rw [HV.out]
    go_enter Tryz.func50, Tryz.ntmps50
    go_wp2
    go_loopw [9] (fun i wr => RelBg s i w wr) (fun i _ => s.size - (intOf i).toNat)
    case atStart => exact ⟨0, rfl, Nat.zero_le _, fun q _ h => absurd h (Nat.not_lt_zero _), rfl⟩
    case round =>
      obtain ⟨j, rfl, hj, hall, rfl⟩ := hrel
      have HA := Lib.hid hall
      clear hall
      by_cases hlt : j < s.size
      · have HN : Hid ((s[j].toNat = 48 ∨ s[j].toNat = 49) → ∀ q (hq : q < s.size), q < j + 1 → s[q].toNat = 48 ∨ s[q].toNat = 49) := fun h q hq hqj => by
          rcases Nat.lt_or_ge q j with h' | h'
          · exact HA.out q hq h'
          · have : q = j := by omega
            subst this; exact h
        by_cases h1 : s[j].toNat = 48
        · have HN' := Lib.hid (HN.out (.inl h1))
          clear HN HA
          go_wp2
          go_roundw
          case rel => exact ⟨j + 1, by go_num, by omega, HN'.out, rfl⟩
          case measure => simp [intOf]; omega
        · by_cases h2 : s[j].toNat = 49
          · have HN' := Lib.hid (HN.out (.inr h2))
            clear HN HA
            go_wp2
            go_roundw
            case rel => exact ⟨j + 1, by go_num, by omega, HN'.out, rfl⟩
            case measure => simp [intOf]; omega
          · have HB : Hid (bitsB s.data.toList = false) := bitsB_no hlt (fun h => h.elim h1 h2)
            have hb1 : ((s[j].toNat : Int) != 48) = true := by simp; omega
            have hb2 : ((s[j].toNat : Int) != 49) = true := by simp; omega
            clear HN HA
            go_wp2
            go_ret
            exact ⟨ret_bool HB.out.symm, rfl⟩
      · have HB : Hid (bitsB s.data.toList = true) := bitsB_yes fun q hq => HA.out q hq (by omega)
        go_wp2
        go_ret
        exact ⟨ret_bool HB.out.symm, rfl⟩
  · have HV : Hid (bvB s.data.toList = false) := by unfold Hid bvB; rw [hlen, decide_eq_false h4]; rfl
    rw [HV.out]
    go_enter Tryz.func50, Tryz.ntmps50
    go_wp2
    go_ret
    exact ⟨rfl, rfl⟩
theorem isEmpty_bs {d : List UInt8} (h : d ≠ []) : (bs d).toList.isEmpty = false := by rw [Lib.toList_data, bs_data]; cases d with | nil => exact absurd rfl h | cons _ _ => rfl
theorem wrvB_k {x : WrD} (h : validK x.k = false) : wrvB x = false := by unfold wrvB; rw [h]; rfl
theorem wrvB_f {x : WrD} (h : fitsB x.k.set x.pend = false) : wrvB x = false := by unfold wrvB; rw [h]; simp
theorem wrvB_b {x : WrD} (h : bvB x.bits = false) : wrvB x = false := by
  unfold wrvB
  have : (bitsB x.bits && decide (x.bits.length ≤ 7)) = false := by
    unfold bvB at h
    cases h1 : bitsB x.bits
    · rfl
    · rw [h1, Bool.and_true] at h
      have : ¬ x.bits.length ≤ 32000 := by simpa using h
      rw [Bool.true_and]
      exact decide_eq_false (by omega)
  rw [this]; simp
theorem wrvB_7 {x : WrD} (h : ¬ x.bits.length ≤ 7) : wrvB x = false := by unfold wrvB; rw [decide_eq_false h]; simp
theorem wrvB_all {x : WrD} (h1 : validK x.k = true) (h2 : fitsB x.k.set x.pend = true) (h3 : bvB x.bits = true) (h4 : x.bits.length ≤ 7) : wrvB x = wrsB x := by
  unfold wrvB
  unfold bvB at h3
  rw [h1, h2, decide_eq_true h4, (Bool.and_eq_true_iff.1 h3).2]
  rfl
set_option maxRecDepth 100000 in
set_option maxHeartbeats 8000000 in
theorem wvI_any (x : WrD) (v : Value) (lo : Nat) (w : World) (hl : -9223372036854775808 ≤ x.k.set.lit ∧ x.k.set.lit ≤ 9223372036854775807) (hr : RdP lo w v x.k.ps) (hps : x.k.ps.length ≤ 1073741824) (hp : x.pend.length ≤ 1073741824) (hb : x.bits.length ≤ 1073741824) :
    Calls Tryz.prog 41  #[wrV x v] w (Same (.bool (wrvB x)) w) := by
  have cV := fun wq hr => kvI_gen x.k v lo wq hl hr hps
  have hrt := fun (wq : World) (hu : Up w wq) => hr.up hu
  have hsp := bs_size x.pend
  have hsb := bs_size x.bits
  have cF := fun wq => fitsI_any x.k.set (bs x.pend) wq hl (by omega)
  have cB := fun wq => bvI_any (bs x.bits) wq (by omega)
  rw [bs_data] at cF cB
  obtain ⟨a, cap, rfl, -, -, -, -⟩ := id hr
  unfold wrV
  cases h1 : validK x.k
  · rw [wrvB_k h1]
    rw [h1] at cV
    clear h1 hr
    simp only [kV] at *
    go_enter Tryz.func41, Tryz.ntmps41
    go_wp2_with (first | (go_at_call 39; (with_reducible refine (cV _ (hrt _ (by (repeat (first | with_reducible exact Up.refl _ | with_reducible assumption | with_reducible refine Up.set ?_ (by first | exact Nat.le_refl _ | (simp only []; omega) | (simp; omega)) _ | with_reducible refine Up.alloc ?_ _ | with_reducible refine Up.drew ?_ | refine Up.trans ?_ (by with_reducible assumption)))))).mono ?_); rintro e w1 ⟨rfl, U1⟩; have B1 := bcell U1; have Z1 := U1.size; (try simp at Z1); (try rw [Nat.add_one_le_iff] at Z1)) | fail)
    go_ret
    refine ⟨rfl, ?_⟩
    (repeat (first | with_reducible exact Up.refl _ | with_reducible assumption | with_reducible refine Up.set ?_ (by first | exact Nat.le_refl _ | (simp only []; omega) | (simp; omega)) _ | with_reducible refine Up.alloc ?_ _ | with_reducible refine Up.drew ?_ | refine Up.trans ?_ (by with_reducible assumption)))
  rw [h1] at cV
  cases h2 : fitsB x.k.set x.pend
  · rw [wrvB_f h2]
    rw [h2] at cF
    clear h1 h2 hr
    simp only [kV, setV] at *
    go_enter Tryz.func41, Tryz.ntmps41
    go_wp2_with (first | (go_at_call 39; (with_reducible refine (cV _ (hrt _ (by (repeat (first | with_reducible exact Up.refl _ | with_reducible assumption | with_reducible refine Up.set ?_ (by first | exact Nat.le_refl _ | (simp only []; omega) | (simp; omega)) _ | with_reducible refine Up.alloc ?_ _ | with_reducible refine Up.drew ?_ | refine Up.trans ?_ (by with_reducible assumption)))))).mono ?_); rintro e w1 ⟨rfl, U1⟩; have B1 := bcell U1; have Z1 := U1.size; (try simp at Z1); (try rw [Nat.add_one_le_iff] at Z1)) | (go_at_call 42; (with_reducible refine (cF _).mono ?_); rintro e w2 ⟨rfl, U2⟩; have B2 := bcell U2; have Z2 := U2.size; (try simp at Z2); (try rw [Nat.add_one_le_iff] at Z2)) | fail)
    go_ret
    refine ⟨rfl, ?_⟩
    (repeat (first | with_reducible exact Up.refl _ | with_reducible assumption | with_reducible refine Up.set ?_ (by first | exact Nat.le_refl _ | (simp only []; omega) | (simp; omega)) _ | with_reducible refine Up.alloc ?_ _ | with_reducible refine Up.drew ?_ | refine Up.trans ?_ (by with_reducible assumption)))
  rw [h2] at cF
  cases h3 : bvB x.bits
  · rw [wrvB_b h3]
    rw [h3] at cB
    clear h1 h2 h3 hr
    simp only [kV, setV] at *
    go_enter Tryz.func41, Tryz.ntmps41
    go_wp2_with (first | (go_at_call 39; (with_reducible refine (cV _ (hrt _ (by (repeat (first | with_reducible exact Up.refl _ | with_reducible assumption | with_reducible refine Up.set ?_ (by first | exact Nat.le_refl _ | (simp only []; omega) | (simp; omega)) _ | with_reducible refine Up.alloc ?_ _ | with_reducible refine Up.drew ?_ | refine Up.trans ?_ (by with_reducible assumption)))))).mono ?_); rintro e w1 ⟨rfl, U1⟩; have B1 := bcell U1; have Z1 := U1.size; (try simp at Z1); (try rw [Nat.add_one_le_iff] at Z1)) | (go_at_call 42; (with_reducible refine (cF _).mono ?_); rintro e w2 ⟨rfl, U2⟩; have B2 := bcell U2; have Z2 := U2.size; (try simp at Z2); (try rw [Nat.add_one_le_iff] at Z2)) | (go_at_call 50; (with_reducible refine (cB _).mono ?_); rintro e w' ⟨rfl, rfl⟩) | fail)
    go_ret
    refine ⟨rfl, ?_⟩
    (repeat (first | with_reducible exact Up.refl _ | with_reducible assumption | with_reducible refine Up.set ?_ (by first | exact Nat.le_refl _ | (simp only []; omega) | (simp; omega)) _ | with_reducible refine Up.alloc ?_ _ | with_reducible refine Up.drew ?_ | refine Up.trans ?_ (by with_reducible assumption)))
  rw [h3] at cB
  by_cases h4 : x.bits.length ≤ 7
  case neg =>
    rw [wrvB_7 h4]
    clear h1 h2 h3 hr
    have h4' : ((x.bits.length : Nat) : Int) ≥ 8 := by omega
    simp only [kV, setV] at *
    go_enter Tryz.func41, Tryz.ntmps41
    go_wp2_with (first | (go_at_call 39; (with_reducible refine (cV _ (hrt _ (by (repeat (first | with_reducible exact Up.refl _ | with_reducible assumption | with_reducible refine Up.set ?_ (by first | exact Nat.le_refl _ | (simp only []; omega) | (simp; omega)) _ | with_reducible refine Up.alloc ?_ _ | with_reducible refine Up.drew ?_ | refine Up.trans ?_ (by with_reducible assumption)))))).mono ?_); rintro e w1 ⟨rfl, U1⟩; have B1 := bcell U1; have Z1 := U1.size; (try simp at Z1); (try rw [Nat.add_one_le_iff] at Z1)) | (go_at_call 42; (with_reducible refine (cF _).mono ?_); rintro e w2 ⟨rfl, U2⟩; have B2 := bcell U2; have Z2 := U2.size; (try simp at Z2); (try rw [Nat.add_one_le_iff] at Z2)) | (go_at_call 50; (with_reducible refine (cB _).mono ?_); rintro e w' ⟨rfl, rfl⟩) | fail)
    go_ret
    refine ⟨rfl, ?_⟩
    (repeat (first | with_reducible exact Up.refl _ | with_reducible assumption | with_reducible refine Up.set ?_ (by first | exact Nat.le_refl _ | (simp only []; omega) | (simp; omega)) _ | with_reducible refine Up.alloc ?_ _ | with_reducible refine Up.drew ?_ | refine Up.trans ?_ (by with_reducible assumption)))
  case pos =>
    have h4' : ¬ ((x.bits.length : Nat) : Int) ≥ 8 := by omega
    rw [wrvB_all h1 h2 h3 h4]
    obtain ⟨hk, hv⟩ := ok_of_valid h1
    obtain ⟨f1, f2, f3⟩ := fitsB_lits h2
    obtain ⟨k, pend, bits, beg⟩ := x
    dsimp only at *
    by_cases hpe : pend = []
    · subst hpe
      simp only [show bs ([] : List UInt8) = (⟨#[]⟩ : ByteArray) from rfl] at *
      by_cases hbe : bits = []
      · subst hbe
        simp only [show bs ([] : List UInt8) = (⟨#[]⟩ : ByteArray) from rfl] at *
        cases beg
        all_goals
          rw [show wrsB (⟨k, [], [], _⟩ : WrD) = true from rfl]
          clear h1 h2 h3 hr hk hv f3
          simp only [kV, setV] at *
          go_enter Tryz.func41, Tryz.ntmps41
          go_wp2_with (first | (go_at_call 39; (with_reducible refine (cV _ (hrt _ (by (repeat (first | with_reducible exact Up.refl _ | with_reducible assumption | with_reducible refine Up.set ?_ (by first | exact Nat.le_refl _ | (simp only []; omega) | (simp; omega)) _ | with_reducible refine Up.alloc ?_ _ | with_reducible refine Up.drew ?_ | refine Up.trans ?_ (by with_reducible assumption)))))).mono ?_); rintro e w1 ⟨rfl, U1⟩; have B1 := bcell U1; have Z1 := U1.size; (try simp at Z1); (try rw [Nat.add_one_le_iff] at Z1)) | (go_at_call 42; (with_reducible refine (cF _).mono ?_); rintro e w2 ⟨rfl, U2⟩; have B2 := bcell U2; have Z2 := U2.size; (try simp at Z2); (try rw [Nat.add_one_le_iff] at Z2)) | (go_at_call 50; (with_reducible refine (cB _).mono ?_); rintro e w' ⟨rfl, rfl⟩) | fail)
          go_ret
          refine ⟨rfl, ?_⟩
          (repeat (first | with_reducible exact Up.refl _ | with_reducible assumption | with_reducible refine Up.set ?_ (by first | exact Nat.le_refl _ | (simp only []; omega) | (simp; omega)) _ | with_reducible refine Up.alloc ?_ _ | with_reducible refine Up.drew ?_ | refine Up.trans ?_ (by with_reducible assumption)))
      · have HBE := isEmpty_bs hbe
        cases beg
        · have HW : Hid (wrsB (⟨k, [], bits, false⟩ : WrD) = false) := by unfold Hid wrsB; simp [hbe]
          rw [HW.out]
          clear h1 h2 h3 hr hk hv f3 hbe
          simp only [kV, setV] at *
          go_enter Tryz.func41, Tryz.ntmps41
          go_wp2_with (first | (go_at_call 39; (with_reducible refine (cV _ (hrt _ (by (repeat (first | with_reducible exact Up.refl _ | with_reducible assumption | with_reducible refine Up.set ?_ (by first | exact Nat.le_refl _ | (simp only []; omega) | (simp; omega)) _ | with_reducible refine Up.alloc ?_ _ | with_reducible refine Up.drew ?_ | refine Up.trans ?_ (by with_reducible assumption)))))).mono ?_); rintro e w1 ⟨rfl, U1⟩; have B1 := bcell U1; have Z1 := U1.size; (try simp at Z1); (try rw [Nat.add_one_le_iff] at Z1)) | (go_at_call 42; (with_reducible refine (cF _).mono ?_); rintro e w2 ⟨rfl, U2⟩; have B2 := bcell U2; have Z2 := U2.size; (try simp at Z2); (try rw [Nat.add_one_le_iff] at Z2)) | (go_at_call 50; (with_reducible refine (cB _).mono ?_); rintro e w' ⟨rfl, rfl⟩) | fail)
          go_ret
          refine ⟨rfl, ?_⟩
          (repeat (first | with_reducible exact Up.refl _ | with_reducible assumption | with_reducible refine Up.set ?_ (by first | exact Nat.le_refl _ | (simp only []; omega) | (simp; omega)) _ | with_reducible refine Up.alloc ?_ _ | with_reducible refine Up.drew ?_ | refine Up.trans ?_ (by with_reducible assumption)))
        · have HW : Hid (wrsB (⟨k, [], bits, true⟩ : WrD) = true) := by unfold Hid wrsB; simp
          rw [HW.out]
          clear h1 h2 h3 hr hk hv f3 hbe
          simp only [kV, setV] at *
          go_enter Tryz.func41, Tryz.ntmps41
          go_wp2_with (first | (go_at_call 39; (with_reducible refine (cV _ (hrt _ (by (repeat (first | with_reducible exact Up.refl _ | with_reducible assumption | with_reducible refine Up.set ?_ (by first | exact Nat.le_refl _ | (simp only []; omega) | (simp; omega)) _ | with_reducible refine Up.alloc ?_ _ | with_reducible refine Up.drew ?_ | refine Up.trans ?_ (by with_reducible assumption)))))).mono ?_); rintro e w1 ⟨rfl, U1⟩; have B1 := bcell U1; have Z1 := U1.size; (try simp at Z1); (try rw [Nat.add_one_le_iff] at Z1)) | (go_at_call 42; (with_reducible refine (cF _).mono ?_); rintro e w2 ⟨rfl, U2⟩; have B2 := bcell U2; have Z2 := U2.size; (try simp at Z2); (try rw [Nat.add_one_le_iff] at Z2)) | (go_at_call 50; (with_reducible refine (cB _).mono ?_); rintro e w' ⟨rfl, rfl⟩) | fail)
          go_ret
          refine ⟨rfl, ?_⟩
          (repeat (first | with_reducible exact Up.refl _ | with_reducible assumption | with_reducible refine Up.set ?_ (by first | exact Nat.le_refl _ | (simp only []; omega) | (simp; omega)) _ | with_reducible refine Up.alloc ?_ _ | with_reducible refine Up.drew ?_ | refine Up.trans ?_ (by with_reducible assumption)))
    · have HPE := isEmpty_bs hpe
      have hpos := List.length_pos_iff.2 hpe
      cases beg
      · have HW : Hid (wrsB (⟨k, pend, bits, false⟩ : WrD) = false) := by unfold Hid wrsB; simp [hpe]
        rw [HW.out]
        clear h1 h2 h3 hr hk hv f3 hpe
        simp only [kV, setV] at *
        go_enter Tryz.func41, Tryz.ntmps41
        go_wp2_with (first | (go_at_call 39; (with_reducible refine (cV _ (hrt _ (by (repeat (first | with_reducible exact Up.refl _ | with_reducible assumption | with_reducible refine Up.set ?_ (by first | exact Nat.le_refl _ | (simp only []; omega) | (simp; omega)) _ | with_reducible refine Up.alloc ?_ _ | with_reducible refine Up.drew ?_ | refine Up.trans ?_ (by with_reducible assumption)))))).mono ?_); rintro e w1 ⟨rfl, U1⟩; have B1 := bcell U1; have Z1 := U1.size; (try simp at Z1); (try rw [Nat.add_one_le_iff] at Z1)) | (go_at_call 42; (with_reducible refine (cF _).mono ?_); rintro e w2 ⟨rfl, U2⟩; have B2 := bcell U2; have Z2 := U2.size; (try simp at Z2); (try rw [Nat.add_one_le_iff] at Z2)) | (go_at_call 50; (with_reducible refine (cB _).mono ?_); rintro e w' ⟨rfl, rfl⟩) | fail)
        go_ret
        refine ⟨rfl, ?_⟩
        (repeat (first | with_reducible exact Up.refl _ | with_reducible assumption | with_reducible refine Up.set ?_ (by first | exact Nat.le_refl _ | (simp only []; omega) | (simp; omega)) _ | with_reducible refine Up.alloc ?_ _ | with_reducible refine Up.drew ?_ | refine Up.trans ?_ (by with_reducible assumption)))
      · have cC := fun wq hr => codeWI_any k (.slice a k.ps.length cap) lo (bs pend) wq hk hv hr (by omega) (by omega) (by rw [bs_data]; exact f3)
        rw [bs_data] at cC
        have HW : Hid (wrsB (⟨k, pend, bits, true⟩ : WrD) = decide (k.longest pend = pend)) := by unfold Hid wrsB; simp [hpe]
        rw [HW.out]
        generalize decide (k.longest pend = pend) = ok at *
        generalize (if k.longest pend = pend then k.find pend else 0) = cd at *
        clear h1 h2 h3 hr hk hv f3 hpe HW
        simp only [kV, setV] at *
        go_enter Tryz.func41, Tryz.ntmps41
        go_wp2_with (first | (go_at_call 39; (with_reducible refine (cV _ (hrt _ (by (repeat (first | with_reducible exact Up.refl _ | with_reducible assumption | with_reducible refine Up.set ?_ (by first | exact Nat.le_refl _ | (simp only []; omega) | (simp; omega)) _ | with_reducible refine Up.alloc ?_ _ | with_reducible refine Up.drew ?_ | refine Up.trans ?_ (by with_reducible assumption)))))).mono ?_); rintro e w1 ⟨rfl, U1⟩; have B1 := bcell U1; have Z1 := U1.size; (try simp at Z1); (try rw [Nat.add_one_le_iff] at Z1)) | (go_at_call 42; (with_reducible refine (cF _).mono ?_); rintro e w2 ⟨rfl, U2⟩; have B2 := bcell U2; have Z2 := U2.size; (try simp at Z2); (try rw [Nat.add_one_le_iff] at Z2)) | (go_at_call 50; (with_reducible refine (cB _).mono ?_); rintro e w' ⟨rfl, rfl⟩) | (go_at_call 94; (with_reducible refine (cC _ (hrt _ (by (repeat (first | with_reducible exact Up.refl _ | with_reducible assumption | with_reducible refine Up.set ?_ (by first | exact Nat.le_refl _ | (simp only []; omega) | (simp; omega)) _ | with_reducible refine Up.alloc ?_ _ | with_reducible refine Up.drew ?_ | refine Up.trans ?_ (by with_reducible assumption)))))).mono ?_); rintro e w4 ⟨rfl, U4⟩; have B4 := bcell U4; have Z4 := U4.size; (try simp at Z4); (try rw [Nat.add_one_le_iff] at Z4)) | fail)
        go_ret
        refine ⟨rfl, ?_⟩
        (repeat (first | with_reducible exact Up.refl _ | with_reducible assumption | with_reducible refine Up.set ?_ (by first | exact Nat.le_refl _ | (simp only []; omega) | (simp; omega)) _ | with_reducible refine Up.alloc ?_ _ | with_reducible refine Up.drew ?_ | refine Up.trans ?_ (by with_reducible assumption)))
end Go.Proofs.YtgbakgaegldomaaGreat

/- Walks of the program's NewWriter, WriteData, CloseWriter, LongestWord. Conditions: the writer's pairs can be read; its texts are no longer than 2^20 bytes. -/
namespace Go.Proofs.YtgbakgaegldomaaGreat
open Go Go.RowKit
theorem conv_cells {w : World} {g off n cap : Nat} {l : List UInt8} (hn : n = l.length) (h : ∀ i x, l[i]? = some x → w.cell? ⟨g, off + i, none⟩ = some (.int .u8 x.toNat)) :
    (convert 22 9 (.slice (some ⟨g, off, none⟩) n cap)).run Tryz.prog w = .ok (.string (bs l)) w := by
  have := run_convert_bytes_arg (P := Tryz.prog) w 22 5 Tryz.underlying22 Tryz.underlying5 g off n cap (l.map fun b => (b.toNat : Int)) (by simp [hn]) (fun i hi => by
    have hi' : i < l.length := by omega
    rw [h i _ (List.getElem?_eq_getElem hi')]
    simp [List.getD_eq_getElem?_getD, hi']) 9 Tryz.underlying9
  rw [this, bs_num]
theorem conv_M {w : World} {base g n cap m c : Nat} {d : List UInt8} (h : ownM w base (.slice (some ⟨g, 0, none⟩) n cap) d) (hm : m ≤ d.length) : (convert 22 9 (.slice (some ⟨g, 0, none⟩) m c)).run Tryz.prog w = .ok (.string (bs (d.take m))) w := by
  obtain ⟨g', cap', e, -, -, -, -, hc⟩ := h.cells
  simp only [Value.slice.injEq, Option.some.injEq, Addr.mk.injEq, and_true] at e
  obtain ⟨rfl, -, -⟩ := e
  refine conv_cells (by rw [List.length_take]; omega) fun i x hi => ?_
  rw [Nat.zero_add]
  rw [List.getElem?_take] at hi
  split at hi
  · exact hc i x hi
  · cases hi
theorem conv_Md {w : World} {base g n cap m q c : Nat} {d : List UInt8} (h : ownM w base (.slice (some ⟨g, 0, none⟩) n cap) d) (hm : m ≤ d.length) (hq : q = d.length - m) : (convert 22 9 (.slice (some ⟨g, m, none⟩) q c)).run Tryz.prog w = .ok (.string (bs (d.drop m))) w := by
  obtain ⟨g', cap', e, -, -, -, -, hc⟩ := h.cells
  simp only [Value.slice.injEq, Option.some.injEq, Addr.mk.injEq, and_true] at e
  obtain ⟨rfl, -, -⟩ := e
  refine conv_cells (by rw [List.length_drop]; omega) fun i x hi => ?_
  rw [List.getElem?_drop] at hi
  exact hc (m + i) x hi
theorem conv_If {w : World} {base g n cap q c : Nat} {d : List UInt8} (h : ownM w base (.slice (some ⟨g, 0, none⟩) n cap) d) (hq : q ≤ d.length) : (convert 22 9 (.slice (if cap = q then some ⟨g, 0, none⟩ else some ⟨g, q, none⟩) (d.length - q) c)).run Tryz.prog w = .ok (.string (bs (d.drop q))) w := by
  split
  · next hcq =>
    obtain ⟨g', cap', e, -, -, h1, -, hc⟩ := h.cells
    simp only [Value.slice.injEq, Option.some.injEq, Addr.mk.injEq, and_true] at e
    obtain ⟨rfl, -, rfl⟩ := e
    have : d.drop q = [] := List.drop_eq_nil_of_le (by omega)
    rw [this]
    exact conv_cells (off := 0) (by simp; omega) (fun i x hi => by simp at hi)
  · exact conv_Md h hq rfl
def WrW (w : World) (b : Nat) (x : WrD) (v : Value) : World := (((KnW w b x.k v).setCell ⟨b, 6, none⟩ (.string (bs x.pend))).setCell ⟨b, 7, none⟩ (.string (bs x.bits))).setCell ⟨b, 8, none⟩ (.bool x.beg)
theorem WrAt.store {b : Nat} {x0 : WrD} {v0 : Value} {w : World} (h : WrAt b x0 v0 w) (x : WrD) (v : Value) : WrAt b x v (WrW w b x v) := by
  unfold WrAt at *
  unfold WrW KnW
  have := box_set (box_set (box_set (box_set (box_set (box_set (box_set (box_set (box_set h 0 (.int .i64 x.k.set.ord)) 1 (.int .i64 x.k.set.lit)) 2 (.int .i64 x.k.set.most)) 3 v) 4 (.int .i64 x.k.base)) 5 (.int .i64 x.k.last)) 6 (.string (bs x.pend))) 7 (.string (bs x.bits))) 8 (.bool x.beg)
  simpa using this
theorem WrW.up {a w : World} (h : Up a w) {b : Nat} (hb : a.heap.size ≤ b) (x : WrD) (v : Value) : Up a (WrW w b x v) := by
  unfold WrW
  exact (((KnW.up h hb x.k v).set (p := ⟨b, 6, none⟩) hb _).set (p := ⟨b, 7, none⟩) hb _).set (p := ⟨b, 8, none⟩) hb _
theorem WrW.own {w : World} {base : Nat} {e : TypeId} {size n : Nat} {v : Value} {xs : List Value} (h : w.ownsRow base e size v n xs) {b : Nat} (hb : some b ≠ v.ownBlock) (x : WrD) (u : Value) : (WrW w b x u).ownsRow base e size v n xs := by
  unfold WrW
  exact ownsRow_setb (ownsRow_setb (ownsRow_setb (KnW.own h hb x.k u) hb 6 _) hb 7 _) hb 8 _
theorem WrW.other {w : World} {b b' : Nat} (hb : b' ≠ b) (x : WrD) (v : Value) : (WrW w b x v).heap[b']? = w.heap[b']? := by
  unfold WrW
  exact (Below.heap_setCell _ _ _ _ hb).trans ((Below.heap_setCell _ _ _ _ hb).trans ((Below.heap_setCell _ _ _ _ hb).trans (KnW.other hb x.k v)))
def wr0 : WrD := ⟨⟨⟨0, 0, 0⟩, [], 0, 0⟩, [], [], false⟩
theorem WrAt.zero {w : World} {b : Nat} (h : w.heap[b]? = some (.cells #[.int .i64 0, .int .i64 0, .int .i64 0, .slice none 0 0, .int .i64 0, .int .i64 0, .string ⟨#[]⟩, .string ⟨#[]⟩, .bool false] 37)) : WrAt b wr0 (.slice none 0 0) w := h
def NwPost (k : KnD) (w : World) (e : Ending) (w' : World) : Prop :=
  if validK k then ∃ v, e = .returned (.tuple #[wrV ⟨k, [], [], false⟩ v, .bool true]) ∧ ownPr w' w.heap.size v k.ps ∧ Up w w' else e = .returned (.tuple #[noWr, .bool false]) ∧ Up w w'
set_option maxRecDepth 100000 in
set_option maxHeartbeats 8000000 in
theorem nwI_any (k : KnD) (v : Value) (lo : Nat) (w : World) (hl : -9223372036854775808 ≤ k.set.lit ∧ k.set.lit ≤ 9223372036854775807) (hr : RdP lo w v k.ps) (hps : k.ps.length ≤ 1048576) :
    Calls Tryz.prog 11  #[kV k v] w (NwPost k w) := by
  have cV := fun wq hr => kvI_gen k v lo wq hl hr (by omega)
  have cY := fun wx hr => copyI_any k v lo wx hr (by omega)
  have hrt := fun (wq : World) (hu : Up w wq) => hr.up hu
  obtain ⟨a, cap, rfl, -, -, -, -⟩ := id hr
  unfold NwPost
  cases h1 : validK k
  · simp only [Bool.false_eq_true, if_false]
    rw [h1] at cV
    clear h1 hr
    simp only [kV] at *
    go_enter Tryz.func11, Tryz.ntmps11
    go_wp2_with (first | ((go_at_call 39; (with_reducible refine (cV _ (hrt _ (by (repeat (first | with_reducible exact Up.refl _ | with_reducible assumption | with_reducible refine Up.set ?_ (by first | exact Nat.le_refl _ | (simp only []; omega) | (simp; omega)) _ | with_reducible refine Up.alloc ?_ _ | with_reducible refine Up.drew ?_ | refine Up.trans ?_ (by with_reducible assumption)))))).mono ?_); rintro e w1 ⟨rfl, U1⟩; have B1 := bcell U1; have Z1 := U1.size; (try simp at Z1); (try rw [Nat.add_one_le_iff] at Z1)); obtain ⟨hbz, q0, q1, q2, q3, q4, q5, q6, q7, q8⟩ := WrAt.cells (WrAt.zero (box_up U1 (alloc2 w _ _))); simp only [wr0] at q0 q1 q2 q3 q4 q5 q6 q7 q8; have hfz := box_free (box_up U1 (alloc2 w _ _))) | fail)
    obtain ⟨hbz, q0, q1, q2, q3, q4, q5, q6, q7, q8⟩ := WrAt.cells (WrAt.zero (box_up U1 (alloc2 w _ _)))
    simp only [wr0] at q0 q1 q2 q3 q4 q5 q6 q7 q8
    refine bodyPost_ret (v := .tuple #[noWr, .bool false]) (by simp [results, Tryz.results11, go_sem, q0, q1, q2, q3, q4, q5, q6, q7, q8]; rfl) rfl ⟨rfl, ?_⟩
    (repeat (first | with_reducible exact Up.refl _ | with_reducible assumption | with_reducible refine Up.set ?_ (by first | exact Nat.le_refl _ | (simp only []; omega) | (simp; omega)) _ | with_reducible refine Up.alloc ?_ _ | with_reducible refine Up.drew ?_ | refine Up.trans ?_ (by with_reducible assumption)))
  · simp only [if_true]
    rw [h1] at cV
    clear h1 hr
    simp only [kV] at *
    go_enter Tryz.func11, Tryz.ntmps11
    go_wp2_with (first | ((go_at_call 39; (with_reducible refine (cV _ (hrt _ (by (repeat (first | with_reducible exact Up.refl _ | with_reducible assumption | with_reducible refine Up.set ?_ (by first | exact Nat.le_refl _ | (simp only []; omega) | (simp; omega)) _ | with_reducible refine Up.alloc ?_ _ | with_reducible refine Up.drew ?_ | refine Up.trans ?_ (by with_reducible assumption)))))).mono ?_); rintro e w1 ⟨rfl, U1⟩; have B1 := bcell U1; have Z1 := U1.size; (try simp at Z1); (try rw [Nat.add_one_le_iff] at Z1))) | (go_at_call 40; (with_reducible refine (cY _ (hrt _ (by (repeat (first | with_reducible exact Up.refl _ | with_reducible assumption | with_reducible refine Up.set ?_ (by first | exact Nat.le_refl _ | (simp only []; omega) | (simp; omega)) _ | with_reducible refine Up.alloc ?_ _ | with_reducible refine Up.drew ?_ | refine Up.trans ?_ (by with_reducible assumption)))))).mono ?_); rintro e w2 ⟨v2, rfl, ho2, U2⟩; obtain ⟨a2, c2, rfl⟩ := ownsRow_shape ho2; simp only [kV]; have HZ := Lib.hid (WrAt.zero (box_up (U1.trans U2) (alloc2 w _ _))); obtain ⟨hbz, q0, q1, q2, q3, q4, q5, q6, q7, q8⟩ := WrAt.cells HZ.out; simp only [wr0] at q0 q1 q2 q3 q4 q5 q6 q7 q8; have hfz := box_free HZ.out; have HO := Lib.hid ho2; have hs1 := U1.size; simp at hs1; have HU := Lib.hid (show Up w w2 by (repeat (first | with_reducible exact Up.refl _ | with_reducible assumption | with_reducible refine Up.set ?_ (by first | exact Nat.le_refl _ | (simp only []; omega) | (simp; omega)) _ | with_reducible refine Up.alloc ?_ _ | with_reducible refine Up.drew ?_ | refine Up.trans ?_ (by with_reducible assumption)))); clear ho2) | fail)
    refine bodyPost_ret (v := .tuple #[wrV ⟨k, [], [], false⟩ (.slice a2 k.ps.length c2), .bool true]) (by simp [results, Tryz.results11, go_sem, q0, q1, q2, q3, q4, q5, q6, q7, q8]; rfl) rfl ⟨_, rfl, ?_, ?_⟩
    · exact WrW.own (b := w.heap.size + 1) (x := ⟨k, [], [], false⟩) (ownsRow_base HO.out (by omega)) (fun e => by have := (HO.out.lt _ e.symm).1; omega) _
    · exact WrW.up HU.out (Nat.le_succ _) ⟨k, [], [], false⟩ (.slice a2 k.ps.length c2)
theorem alloc3 (w : World) (A B C : Obj) : (((w.alloc A).alloc B).alloc C).heap[w.heap.size + 1]? = some B := box_up ((Up.refl _).alloc _) (alloc2 w A B)
theorem wdP_none {w w' : World} {e : Ending} (he : e = .returned (.tuple #[noWr, .string ⟨#[]⟩, .bool false])) (hu : Up w w') : WdPost none w e w' := ⟨he, hu⟩
set_option maxRecDepth 100000 in
set_option maxHeartbeats 8000000 in
theorem wdI_no (x : WrD) (v : Value) (lo : Nat) (d : List UInt8) (w : World) (hno : (wrvB x && fitsB x.k.set (x.pend ++ d)) = false) (hl : -9223372036854775808 ≤ x.k.set.lit ∧ x.k.set.lit ≤ 9223372036854775807) (hr : RdP lo w v x.k.ps) (hps : x.k.ps.length ≤ 1048576) (hp : x.pend.length ≤ 1048576) (hb : x.bits.length ≤ 1048576) (hd : d.length ≤ 1048576) :
    Calls Tryz.prog 12  #[wrV x v, .string (bs d)] w (WdPost none w) := by
  have cV := fun wq hr => wvI_any x v lo wq hl hr (by omega) (by omega) (by omega)
  have hrt := fun (wq : World) (hu : Up w wq) => hr.up hu
  have hsp := bs_size x.pend
  have hsd := bs_size d
  obtain ⟨a, cap, rfl, -, -, -, -⟩ := id hr
  cases h1 : wrvB x
  · rw [h1] at cV
    clear h1 hr hno
    unfold wrV at *
    go_enter Tryz.func12, Tryz.ntmps12
    go_wp2_with (first | ((go_at_call 41; (with_reducible refine (cV _ (hrt _ (by (repeat (first | with_reducible exact Up.refl _ | with_reducible assumption | with_reducible refine Up.set ?_ (by first | exact Nat.le_refl _ | (simp only []; omega) | (simp; omega)) _ | with_reducible refine Up.alloc ?_ _ | with_reducible refine Up.drew ?_ | refine Up.trans ?_ (by with_reducible assumption)))))).mono ?_); rintro e w1 ⟨rfl, U1⟩; have B1 := bcell U1; have Z1 := U1.size; (try simp at Z1); (try rw [Nat.add_one_le_iff] at Z1)); obtain ⟨hbz, q0, q1, q2, q3, q4, q5, q6, q7, q8⟩ := WrAt.cells (WrAt.zero (box_up U1 (alloc3 w _ _ _))); simp only [wr0] at q0 q1 q2 q3 q4 q5 q6 q7 q8; have hfz := box_free (box_up U1 (alloc3 w _ _ _))) | fail)
    obtain ⟨hbz, q0, q1, q2, q3, q4, q5, q6, q7, q8⟩ := WrAt.cells (WrAt.zero (box_up U1 (alloc3 w _ _ _)))
    simp only [wr0] at q0 q1 q2 q3 q4 q5 q6 q7 q8
    refine bodyPost_ret (v := .tuple #[noWr, .string ⟨#[]⟩, .bool false]) (by simp [results, Tryz.results12, go_sem, q0, q1, q2, q3, q4, q5, q6, q7, q8]; rfl) rfl (wdP_none rfl ?_)
    (repeat (first | with_reducible exact Up.refl _ | with_reducible assumption | with_reducible refine Up.set ?_ (by first | exact Nat.le_refl _ | (simp only []; omega) | (simp; omega)) _ | with_reducible refine Up.alloc ?_ _ | with_reducible refine Up.drew ?_ | refine Up.trans ?_ (by with_reducible assumption)))
  · rw [h1, Bool.true_and] at hno
    have cF := fun wq => fitsI_any x.k.set (bs (x.pend ++ d)) wq hl (by rw [bs_size, List.length_append]; omega)
    rw [bs_data, hno, ← bs_app] at cF
    rw [h1] at cV
    clear h1 hr hno
    unfold wrV at *
    simp only [kV, setV] at *
    go_enter Tryz.func12, Tryz.ntmps12
    go_wp2_with (first | ((go_at_call 41; (with_reducible refine (cV _ (hrt _ (by (repeat (first | with_reducible exact Up.refl _ | with_reducible assumption | with_reducible refine Up.set ?_ (by first | exact Nat.le_refl _ | (simp only []; omega) | (simp; omega)) _ | with_reducible refine Up.alloc ?_ _ | with_reducible refine Up.drew ?_ | refine Up.trans ?_ (by with_reducible assumption)))))).mono ?_); rintro e w1 ⟨rfl, U1⟩; have B1 := bcell U1; have Z1 := U1.size; (try simp at Z1); (try rw [Nat.add_one_le_iff] at Z1))) | ((go_at_call 42; (with_reducible refine (cF _).mono ?_); rintro e w2 ⟨rfl, U2⟩; have B2 := bcell U2; have Z2 := U2.size; (try simp at Z2); (try rw [Nat.add_one_le_iff] at Z2)); obtain ⟨hbz, q0, q1, q2, q3, q4, q5, q6, q7, q8⟩ := WrAt.cells (WrAt.zero (box_up (U1.trans U2) (alloc3 w _ _ _))); simp only [wr0] at q0 q1 q2 q3 q4 q5 q6 q7 q8; have hfz := box_free (box_up (U1.trans U2) (alloc3 w _ _ _))) | fail)
    obtain ⟨hbz, q0, q1, q2, q3, q4, q5, q6, q7, q8⟩ := WrAt.cells (WrAt.zero (box_up (U1.trans U2) (alloc3 w _ _ _)))
    simp only [wr0] at q0 q1 q2 q3 q4 q5 q6 q7 q8
    refine bodyPost_ret (v := .tuple #[noWr, .string ⟨#[]⟩, .bool false]) (by simp [results, Tryz.results12, go_sem, q0, q1, q2, q3, q4, q5, q6, q7, q8]; rfl) rfl (wdP_none rfl ?_)
    (repeat (first | with_reducible exact Up.refl _ | with_reducible assumption | with_reducible refine Up.set ?_ (by first | exact Nat.le_refl _ | (simp only []; omega) | (simp; omega)) _ | with_reducible refine Up.alloc ?_ _ | with_reducible refine Up.drew ?_ | refine Up.trans ?_ (by with_reducible assumption)))
theorem wr_first (x : WrD) (v : Value) (w : World) (B C : Obj) : WrAt w.heap.size x v (((w.alloc (.cells #[.int .i64 x.k.set.ord, .int .i64 x.k.set.lit, .int .i64 x.k.set.most, v, .int .i64 x.k.base, .int .i64 x.k.last, .string (bs x.pend), .string (bs x.bits), .bool x.beg] 37)).alloc B).alloc C) := box_up (((Up.refl _).alloc _).alloc _) (MapKept.heap_alloc w _).1
set_option maxRecDepth 100000 in
set_option maxHeartbeats 8000000 in
theorem wdI_nil (x : WrD) (v : Value) (lo : Nat) (w : World) (hok : wrvB x = true) (hfit : fitsB x.k.set x.pend = true) (hl : -9223372036854775808 ≤ x.k.set.lit ∧ x.k.set.lit ≤ 9223372036854775807) (hr : RdP lo w v x.k.ps) (hps : x.k.ps.length ≤ 1048576) (hp : x.pend.length ≤ 1048576) (hb : x.bits.length ≤ 1048576) :
    Calls Tryz.prog 12  #[wrV x v, .string ⟨#[]⟩] w (WdPost (some (x, [])) w) := by
  have cV := fun wq hr => wvI_any x v lo wq hl hr (by omega) (by omega) (by omega)
  have hrt := fun (wq : World) (hu : Up w wq) => hr.up hu
  have hsp := bs_size x.pend
  have cF := fun wq => fitsI_any x.k.set (bs x.pend) wq hl (by rw [bs_size]; omega)
  have cY := fun wx hr => copyI_any x.k v lo wx hr (by omega)
  rw [bs_data, hfit] at cF
  rw [hok] at cV
  have hcat : bs x.pend ++ (⟨#[]⟩ : ByteArray) = bs x.pend := by
    have := bs_app x.pend []
    rw [List.append_nil] at this
    exact this
  rw [← hcat] at cF
  obtain ⟨a, cap, rfl, -, -, -, -⟩ := id hr
  unfold WdPost
  simp only []
  clear hok hfit hr hcat
  unfold wrV at *
  simp only [kV, setV] at *
  go_enter Tryz.func12, Tryz.ntmps12
  go_wp2_with (first | ((go_at_call 41; (with_reducible refine (cV _ (hrt _ (by (repeat (first | with_reducible exact Up.refl _ | with_reducible assumption | with_reducible refine Up.set ?_ (by first | exact Nat.le_refl _ | (simp only []; omega) | (simp; omega)) _ | with_reducible refine Up.alloc ?_ _ | with_reducible refine Up.drew ?_ | refine Up.trans ?_ (by with_reducible assumption)))))).mono ?_); rintro e w1 ⟨rfl, U1⟩; have B1 := bcell U1; have Z1 := U1.size; (try simp at Z1); (try rw [Nat.add_one_le_iff] at Z1))) | ((go_at_call 42; (with_reducible refine (cF _).mono ?_); rintro e w2 ⟨rfl, U2⟩; have B2 := bcell U2; have Z2 := U2.size; (try simp at Z2); (try rw [Nat.add_one_le_iff] at Z2)); obtain ⟨hbx, r0, r1, r2, r3, r4, r5, r6, r7, r8⟩ := WrAt.cells (((wr_first x (.slice a x.k.ps.length cap) w _ _).up U1).up U2)) | (go_at_call 40; (with_reducible refine (cY _ (hrt _ (by (repeat (first | with_reducible exact Up.refl _ | with_reducible assumption | with_reducible refine Up.set ?_ (by first | exact Nat.le_refl _ | (simp only []; omega) | (simp; omega)) _ | with_reducible refine Up.alloc ?_ _ | with_reducible refine Up.drew ?_ | refine Up.trans ?_ (by with_reducible assumption)))))).mono ?_); rintro e w3 ⟨v3, rfl, ho3, U3⟩; obtain ⟨a3, c3, rfl⟩ := ownsRow_shape ho3; simp only [kV]; have HZ := Lib.hid (WrAt.zero (box_up ((U1.trans U2).trans U3) (alloc3 w _ _ _))); have HX := Lib.hid ((((wr_first x (.slice a x.k.ps.length cap) w _ _).up U1).up U2).up U3); obtain ⟨hbz, q0, q1, q2, q3, q4, q5, q6, q7, q8⟩ := WrAt.cells HZ.out; simp only [wr0] at q0 q1 q2 q3 q4 q5 q6 q7 q8; obtain ⟨hbx, r0, r1, r2, r3, r4, r5, r6, r7, r8⟩ := WrAt.cells HX.out; have hfx := box_free HX.out; have hfz := box_free HZ.out; have HO := Lib.hid ho3; have hs1 := U1.size; have hs2 := U2.size; simp at hs1; have HU := Lib.hid (show Up w w3 by (repeat (first | with_reducible exact Up.refl _ | with_reducible assumption | with_reducible refine Up.set ?_ (by first | exact Nat.le_refl _ | (simp only []; omega) | (simp; omega)) _ | with_reducible refine Up.alloc ?_ _ | with_reducible refine Up.drew ?_ | refine Up.trans ?_ (by with_reducible assumption)))); clear ho3) | fail)
  refine bodyPost_ret (v := .tuple #[.agg #[.int .i64 x.k.set.ord, .int .i64 x.k.set.lit, .int .i64 x.k.set.most, .slice a3 x.k.ps.length c3, .int .i64 x.k.base, .int .i64 x.k.last, .string (bs x.pend), .string (bs x.bits), .bool x.beg], .string (bs []), .bool true]) (by simp [results, Tryz.results12, go_sem, q0, q1, q2, q3, q4, q5, q6, q7, q8, r0, r1, r2, r3, r4, r5, r6, r7, r8]; rfl) rfl ⟨.slice a3 x.k.ps.length c3, rfl, ?_, ?_⟩
  · have ho := ownsRow_base HO.out (show w.heap.size ≤ w2.heap.size by omega)
    have hlo := fun b e => (HO.out.lt b e).1
    exact WrW.own (b := w.heap.size + 1) (KnW.own ho (b := w.heap.size) (fun e => by have := hlo _ e.symm; omega) x.k _) (fun e => by have := hlo _ e.symm; omega) x _
  · exact WrW.up (KnW.up HU.out (Nat.le_refl _) x.k _) (Nat.le_succ _) x _
def RelWl (T : List UInt8 × KnD × List UInt8) (s : SetD) (a0 : World) (cb : Nat) (t : Value) (wr : World) : Prop := ∃ (k : KnD) (d b : List UInt8) (m : Nat), t = .string (bs d) ∧ WlD T s m k d b ∧ CdEx a0 cb k b wr
set_option maxRecDepth 100000 in
set_option maxHeartbeats 16000000 in
theorem wdI_main (x : WrD) (v : Value) (lo : Nat) (d : List UInt8) (w : World) (hok : wrvB x = true) (hfit : fitsB x.k.set (x.pend ++ d) = true) (hd0 : d ≠ []) (hl : -9223372036854775808 ≤ x.k.set.lit ∧ x.k.set.lit ≤ 9223372036854775807) (hr : RdP lo w v x.k.ps) :
    Calls Tryz.prog 12  #[wrV x v, .string (bs d)] w (WdPost (some (x.write d)) w) := by
  have hwo := wrvB_ok hok
  obtain ⟨f1, f2, f3⟩ := fitsB_lits hfit
  have hk := hwo.1
  have hb7 := hwo.2.2.2.2.2.1
  have hpl := hk.nums.2.2.2.1
  have hp2 := hwo.2.2.2.1
  have cV := fun wq hr => wvI_any x v lo wq hl hr (by omega) (by omega) (by omega)
  have hrt := fun (wq : World) (hu : Up w wq) => hr.up hu
  have hsp := bs_size x.pend
  have hsd := bs_size d
  have hdl : d.length ≤ 2000 := by rw [List.length_append] at f2; omega
  have cF := fun wq => fitsI_any x.k.set (bs (x.pend ++ d)) wq hl (by rw [bs_size, List.length_append]; omega)
  rw [bs_data, hfit, ← bs_app] at cF
  rw [hok] at cV
  have cO := fun wq hr => coderOf_any x v lo wq hk hr (by omega)
  have cC0 := fun w => clearI_any x.k.set w hk.set
  have HST := Lib.hid (WlD.start hwo hd0 (fun b hb => f3 b (List.mem_append_right _ hb)) f2)
  have hwr : Hid (x.write d = (⟨(x.codes d).2.1, (x.codes d).2.2, (x.all d).drop ((x.all d).length / 8 * 8), true⟩, packL x.k.set.ord ((x.all d).take ((x.all d).length / 8 * 8)))) := by
    unfold Hid WrD.write
    rw [if_neg hd0]
  rw [hwr.out]
  obtain ⟨T1, hT1⟩ : ∃ T1, Hid (T1 = x.all d) := ⟨_, rfl⟩
  obtain ⟨T2, hT2⟩ : ∃ T2, Hid (T2 = x.codes d) := ⟨_, rfl⟩
  rw [← hT1.out, ← hT2.out] at HST ⊢
  have HDE := isEmpty_bs hd0
  have ho := (setOk_bd hk.set).1
  have HS := Lib.hid hk.set
  obtain ⟨a, cap, rfl, -, -, -, -⟩ := id hr
  have hso := hk.set
  clear hok hfit hr hwo f1 f3 hwr hT1 hT2 hd0 hk
  unfold wrV at *
  simp only [kV, setV] at *
  go_enter Tryz.func12, Tryz.ntmps12
  go_wp2_with (first | ((go_at_call 41; (with_reducible refine (cV _ (hrt _ (by (repeat (first | with_reducible exact Up.refl _ | with_reducible assumption | with_reducible refine Up.set ?_ (by first | exact Nat.le_refl _ | (simp only []; omega) | (simp; omega)) _ | with_reducible refine Up.alloc ?_ _ | with_reducible refine Up.drew ?_ | refine Up.trans ?_ (by with_reducible assumption)))))).mono ?_); rintro e w1 ⟨rfl, U1⟩; have B1 := bcell U1; have Z1 := U1.size; (try simp at Z1); (try rw [Nat.add_one_le_iff] at Z1))) | ((go_at_call 42; (with_reducible refine (cF _).mono ?_); rintro e w2 ⟨rfl, U2⟩; have B2 := bcell U2; have Z2 := U2.size; (try simp at Z2); (try rw [Nat.add_one_le_iff] at Z2)); obtain ⟨hbx, r0, r1, r2, r3, r4, r5, r6, r7, r8⟩ := WrAt.cells (((wr_first x (.slice a x.k.ps.length cap) w _ _).up U1).up U2)) | fail)
  with_reducible refine (cO _ (hrt _ (by (repeat (first | with_reducible exact Up.refl _ | with_reducible assumption | with_reducible refine Up.set ?_ (by first | exact Nat.le_refl _ | (simp only []; omega) | (simp; omega)) _ | with_reducible refine Up.alloc ?_ _ | with_reducible refine Up.drew ?_ | refine Up.trans ?_ (by with_reducible assumption)))))).mono ?_
  rintro e w3 ⟨cb, rfl, hC⟩
  have U3 := hC.1
  have HX := Lib.hid (((wr_first x (.slice a x.k.ps.length cap) w _ _).up U1).up U2)
  have HZ := Lib.hid (WrAt.zero (box_up (U1.trans U2) (alloc3 w _ _ _)))
  have hS3 : SetAt (w.heap.size + 1 + 1) x.k.set.ord x.k.set.lit x.k.set.most w2 := box_up (U1.trans U2) (by have := (MapKept.heap_alloc ((w.alloc (.cells #[.int .i64 x.k.set.ord, .int .i64 x.k.set.lit, .int .i64 x.k.set.most, .slice a x.k.ps.length cap, .int .i64 x.k.base, .int .i64 x.k.last, .string (bs x.pend), .string (bs x.bits), .bool x.beg] 37)).alloc (.cells #[.int .i64 0, .int .i64 0, .int .i64 0, .slice none 0 0, .int .i64 0, .int .i64 0, .string ⟨#[]⟩, .string ⟨#[]⟩, .bool false] 37)) (.cells #[.int .i64 x.k.set.ord, .int .i64 x.k.set.lit, .int .i64 x.k.set.most] 24)).1; simpa using this)
  have HS3 := Lib.hid hS3
  have HU := Lib.hid (show Up w w2 by (repeat (first | with_reducible exact Up.refl _ | with_reducible assumption | with_reducible refine Up.set ?_ (by first | exact Nat.le_refl _ | (simp only []; omega) | (simp; omega)) _ | with_reducible refine Up.alloc ?_ _ | with_reducible refine Up.drew ?_ | refine Up.trans ?_ (by with_reducible assumption))))
  have hw2s : w.heap.size + 3 ≤ w2.heap.size := by have h1 := U1.size; have h2 := U2.size; simp at h1; omega
  have HC := Lib.hid hC
  obtain ⟨hbx, r0, r1, r2, r3, r4, r5, r6, r7, r8⟩ := WrAt.cells (HX.out.up U3)
  clear hC U1 U2 U3 B1 B2 Z1 Z2 hS3 cV cF cO hrt
  go_wp2
  go_loopw [9] (fun t wr => RelWl (T1, T2.2) x.k.set w2 cb t wr) (fun t _ => slen t)
  case atStart => exact ⟨x.open.2, x.pend ++ d, x.open.1, _, congrArg Value.string (bs_app _ _), HST.out, HC.out⟩
  case round =>
    clear HST HC r0 r1 r2 r3 r4 r5 r6 r7 r8
    obtain ⟨k, e, b, m, rfl, hD, hCx⟩ := hrel
    obtain ⟨hUx, tb, vp, vn, vi, vb, hC⟩ := id hCx
    have hok := hD.ok
    have hset := hD.set
    have hne := hD.ne
    have hle2 := hD.le
    have hsum := hD.sum
    have hpos := List.length_pos_iff.2 hne
    have hse := bs_size e
    have cL := fun wq hT => longest_any w2.heap.size tb k vp vn vi (bs e) wq hT hok (by rw [bs_size]; exact hpos) (by rw [bs_size]; omega) (by rw [bs_data]; exact hD.lits)
    rw [bs_data] at cL
    have d0 := box_cell hC.box 0
    simp at d0
    have hcbl := hC.lt
    have hsz := hUx.size
    by_cases hle : k.longest e = e
    · have hT := hD.stop hle
      simp only [Prod.mk.injEq] at hT
      obtain ⟨hT1, hT2⟩ := hT
      have hk2 : T2.2.1 = k := by rw [hT2]
      have hp2 : T2.2.2 = e := by rw [hT2]
      rw [hle] at cL
      have HT2 := Lib.hid (And.intro hk2 hp2)
      subst hT1
      have hbit := hD.bit
      have cPk := fun wq => packI_any x.k.set.ord (bs (T1.take (T1.length / 8 * 8))) wq ho (by rw [bs_data]; exact hbit.take _) (by rw [bs_size, List.length_take]; omega)
      rw [bs_data] at cPk
      have cYk := fun wx hr => copyI_any k vp w2.heap.size wx hr (by have := hok.nums; omega)
      simp only [kV] at cYk
      have HD := Lib.hid hD
      have HCx := Lib.hid hCx
      have HCA := Lib.hid hC
      clear hD hCx hC hT2 hle hne hk2 hp2 hbit hset
      go_wp2_with (first | ((go_at_call 44; (with_reducible refine (cL _ HCA.out.tree).mono ?_); rintro e w4 ⟨rfl, U4⟩; have B4 := bcell U4; have Z4 := U4.size; (try simp at Z4); (try rw [Nat.add_one_le_iff] at Z4))) | fail)
      obtain ⟨gv, cv, hvb⟩ := HCA.out.own.shape
      subst hvb
      obtain ⟨ap, cp, hvp⟩ := HCA.out.tree.shape
      subst hvp
      obtain ⟨g0, c0, e0, -, -, hcv1, hcv2, -⟩ := HCA.out.own.cells
      simp only [Value.slice.injEq] at e0
      obtain ⟨-, -, rfl⟩ := e0
      clear g0
      have hU4 := HU.out.trans (HCx.out.1.trans U4)
      have HCB := Lib.hid (HCA.out.up U4)
      have HW4 := Lib.hid (And.intro (hUx.trans U4) hU4)
      have hblen : T1.length ≤ 41000 := by omega
      have hq : ((T1.length : Int) - (T1.length : Int) % 8) = ((T1.length / 8 * 8 : Nat) : Int) := by omega
      have hq2 : T1.length / 8 * 8 ≤ T1.length := by omega
      have HQ := Lib.hid hq
      unfold maxLen at hcv2
      clear hU4 U4 B4 Z4 HCA HCx d0 cL hq hUx
      refine wp_region_up 12 (by kernel_rfl) (by kernel_rfl) ?_
      simp only [List.take, List.drop]
      repeat (refine wpUp_step (fun K hK => ?_); go_simp; (try simp only [↓IntWalk.iteOmega]); first
        | (refine hK _ _ ?_; clear hK K)
        | (apply stepU_c
           · intro wq hwq; (have hbq := bcell hwq; (repeat (first | refine fills_no (by rfl) ?_ | refine fills_yes (by rfl) (fun vq hvq => ?_))); simp only [List.filter_nil, fills]; unfold upAt; (try ((have d1 := box_cell (HCB.out.up hwq).box 1; simp at d1))); go_simp; (try go_bits); (try simp only [↓IntWalk.iteOmega]); (try (rw [dif_pos (by omega)]; go_simp; try go_bits)); first | exact upOut_value)
           go_simp; refine hK _ _ ?_; clear hK K))
      refine wpUp_nil (fun wq hwq => ?_)
      simp only [fills]
      rw [HQ.out]
      have hqlen : (T1.drop (T1.length / 8 * 8)).length = T1.length - T1.length / 8 * 8 := List.length_drop
      have hqt : ((T1.length : Nat) : Int) - ((T1.length / 8 * 8 : Nat) : Int) = ((T1.length - T1.length / 8 * 8 : Nat) : Int) := by omega
      have hck : (cv : Int) - ((T1.length / 8 * 8 : Nat) : Int) = ((cv - T1.length / 8 * 8 : Nat) : Int) := by omega
      generalize T1.length / 8 * 8 = q at *
      go_wp2
      have HCD := Lib.hid (HCB.out.up hwq)
      have HWD := Lib.hid (And.intro (HW4.out.1.trans hwq) (HW4.out.2.trans hwq))
      clear hwq HQ HCB HW4
      refine wp_region_up 10 (by kernel_rfl) (by kernel_rfl) ?_
      simp only [List.take, List.drop]
      repeat (refine wpUp_step (fun K hK => ?_); go_simp; (try simp only [↓IntWalk.iteOmega]); first
        | (refine hK _ _ ?_; clear hK K)
        | (apply stepU_c
           · intro wq hwq; (have hbq := bcell hwq; (repeat (first | refine fills_no (by rfl) ?_ | refine fills_yes (by rfl) (fun vq hvq => ?_))); simp only [List.filter_nil, fills]; unfold upAt; (try ((have d1 := box_cell (HCD.out.up hwq).box 1; simp at d1; obtain ⟨-, s0, s1, s2⟩ := SetAt.cells (box_up (HWD.out.1.trans hwq) HS3.out); have hconv := conv_M (m := q) (c := cv) (HCD.out.up hwq).own hq2))); go_simp; (try go_bits); (try simp only [↓IntWalk.iteOmega]); (try (rw [dif_pos (by omega)]; go_simp; try go_bits)); first | exact upOut_value | (apply upOut_call; (go_at_call 48; exact cPk _)) | (apply upOut_eq; (go_at_call 48; exact cPk _)))
           go_simp; refine hK _ _ ?_; clear hK K))
      refine wpUp_nil (fun wq hwq => ?_)
      simp only [fills]
      go_wp2
      have HCE := Lib.hid (HCD.out.up hwq)
      have HWE := Lib.hid (And.intro (HWD.out.1.trans hwq) (HWD.out.2.trans hwq))
      clear hwq HCD HWD
      refine wp_region_upf 18 (by kernel_rfl) (by kernel_rfl) ?_
      simp only [List.take, List.drop]
      repeat (refine wpUp_step (fun K hK => ?_); go_simp; (try simp only [↓IntWalk.iteOmega]); first
        | (refine hK _ _ ?_; clear hK K)
        | (refine stepU_m (by kernel_rfl) ((fun (u : Value) w' => ∃ v9, u = wrV ⟨k, e, T1.drop q, true⟩ v9 ∧ ownPr w' w2.heap.size v9 k.ps)) ((fun u w w' ⟨v9, h1, h2⟩ hu => ⟨v9, h1, ownsRow_up h2 hu⟩)) (fun wq hwq => ?_) ?_
           · (have hbq := bcell hwq; (repeat (first | refine fills_no (by rfl) ?_ | refine fills_yes (by rfl) (fun vq hvq => ?_))); simp only [List.filter_nil, fills]; (obtain ⟨v9, rfl, ho9⟩ := hvq; unfold upAt; go_simp; exact upOut_make (Up.refl _) ⟨v9, rfl, ho9⟩))
           refine hK _ _ ?_; clear hK K)
        | (apply stepU_c
           · intro wq hwq; (have hbq := bcell hwq; (repeat (first | refine fills_no (by rfl) ?_ | refine fills_yes (by rfl) (fun vq hvq => ?_))); simp only [List.filter_nil, fills]; unfold upAt; (try ((have d0 := box_cell (HCE.out.up hwq).box 0; have d1 := box_cell (HCE.out.up hwq).box 1; simp at d0 d1; obtain ⟨c0, c1, c2, c3, c4, c5, c6, c7⟩ := (HCE.out.up hwq).tree.cells; have hconv := conv_If (c := cv - q) (HCE.out.up hwq).own hq2))); go_simp; (try go_bits); (try simp only [↓IntWalk.iteOmega]); (try (rw [dif_pos (by omega)]; go_simp; try go_bits)); first | exact upOut_value)
           go_simp; refine hK _ _ ?_; clear hK K)
        | (refine stepU_m (by kernel_rfl) (KnO w2.heap.size k) (knO_closed _ _) (fun wq hwq => ?_) ?_
           · (have hbq := bcell hwq; (repeat (first | refine fills_no (by rfl) ?_ | refine fills_yes (by rfl) (fun vq hvq => ?_))); simp only [List.filter_nil, fills]; unfold upAt; (try ((have d0 := box_cell (HCE.out.up hwq).box 0; have d1 := box_cell (HCE.out.up hwq).box 1; simp at d0 d1; obtain ⟨c0, c1, c2, c3, c4, c5, c6, c7⟩ := (HCE.out.up hwq).tree.cells; have hconv := conv_If (c := cv - q) (HCE.out.up hwq).own hq2))); go_simp; (try go_bits); (try simp only [↓IntWalk.iteOmega]); (try (rw [dif_pos (by omega)]; go_simp; try go_bits)); ((with_reducible refine upOut_known ?_ (Nat.le_trans HWE.out.1.size hwq.size)); go_at_call 40; exact cYk _ (RdP.of_own (HCE.out.up hwq).tree.prs)))
           refine hK _ _ ?_; clear hK K))
      refine wpUp_nil (fun wq hwq => ?_)
      simp only [fills]
      rintro u1 ⟨v9, rfl, ho9⟩ u2 -
      obtain ⟨a9, c9, rfl⟩ := ownsRow_shape ho9
      have HZq := Lib.hid (WrAt.up HZ.out (HWE.out.1.trans hwq))
      obtain ⟨hbz, q0, q1, q2, q3, q4, q5, q6, q7, q8⟩ := WrAt.cells HZq.out
      simp only [wr0] at q0 q1 q2 q3 q4 q5 q6 q7 q8
      have hfz := box_free HZq.out
      have HO9 := Lib.hid ho9
      have HU9 := Lib.hid (HWE.out.2.trans hwq)
      have hne9 : some (w.heap.size + 1) ≠ Value.ownBlock (.slice a9 k.ps.length c9) := fun e => by have := (ho9.lt _ e.symm).1; omega
      clear ho9 hwq HWE HCE
      generalize (if cv = q then (some (⟨gv, 0, none⟩ : Addr)) else some ⟨gv, q, none⟩) = sl at *
      unfold wrV
      go_wp2
      rw [onlyN_normal]
      go_wp2
      refine bodyPost_ret (v := .tuple #[wrV ⟨k, e, T1.drop q, true⟩ (.slice a9 k.ps.length c9), .string (bs (packL x.k.set.ord (T1.take q))), .bool true]) (by simp [results, Tryz.results12, go_sem, q0, q1, q2, q3, q4, q5, q6, q7, q8]; rfl) rfl ?_
      rw [HT2.out.1, HT2.out.2]
      refine ⟨_, rfl, ?_, ?_⟩
      · exact WrW.own (b := w.heap.size + 1) (x := ⟨k, e, T1.drop q, true⟩) (ownsRow_base HO9.out (by omega)) hne9 _
      · exact WrW.up HU9.out (Nat.le_succ _) ⟨k, e, T1.drop q, true⟩ (.slice a9 k.ps.length c9)
    · obtain ⟨⟨hfw, hxc, hxe, hlp, hlt⟩, hfull, hmore⟩ := hD.step hle
      have hfb := KnD.find_bd hok hfw
      have hc := c_of hset
      obtain ⟨n, hn⟩ := Int.eq_ofNat_of_zero_le hfb.1
      have hka := KnD.after_ok hok hfw
      have hth := KnD.thru_fol hok hfw
      have hwd := KnD.width_bd hok
      obtain ⟨k9, hk9⟩ : ∃ k9, Hid (k9 = k.after (k.find (k.longest e))) := ⟨_, rfl⟩
      rw [← hk9.out] at hfull hmore hka hth
      rw [hn] at hfull hmore hth cL hxc hxe hfw
      rw [Int.toNat_natCast] at hfull hmore
      have hs9 : k9.set = x.k.set := by rw [hk9.out]; exact hset
      have cWr := fun wx hx => write_any w2 cb k b n wx hx hok (by omega) (by omega) (.inr (.inr ⟨hxc, hxe, hfw⟩))
      rw [hth, hset] at cWr
      have hbd : (bs e).extract (k.longest e).length e.length = bs (e.drop (k.longest e).length) := by rw [bs_ext]; congr 1; exact List.take_of_length_le (by rw [List.length_drop]; omega)
      have HBD := Lib.hid hbd
      have hlen9 : (b ++ codeL x.k.set.ord n k.width).length ≤ 800000 := by rw [List.length_append, codeL_length]; omega
      have HX9 := Lib.hid (And.intro hfull hmore)
      have HK9 := Lib.hid hka
      have HS9 := Lib.hid hs9
      have HCx := Lib.hid hCx
      have HCA := Lib.hid hC
      have hdl9 : (e.drop (k.longest e).length).length < e.length := by rw [List.length_drop]; omega
      clear hfull hmore hth hxc hxe hfw hn hk9 hbd hle hD hCx hC hok hset hs9 hc hka
      generalize b ++ codeL x.k.set.ord n k.width = b9 at *
      generalize e.drop (k.longest e).length = e9 at *
      generalize (k.longest e).length = ln at *
      go_wp2_with (first | ((go_at_call 44; (with_reducible refine (cL _ HCA.out.tree).mono ?_); rintro e w4 ⟨rfl, U4⟩; have B4 := bcell U4; have Z4 := U4.size; (try simp at Z4); (try rw [Nat.add_one_le_iff] at Z4))) | fail)
      with_reducible refine (cWr _ (HCx.out.up U4)).mono ?_
      rintro ee w5 ⟨⟨v5, rfl⟩, hC5⟩
      have HC5 := Lib.hid hC5
      obtain ⟨hU5, tb5, vp5, vn5, vi5, vb5, hA5⟩ := hC5
      have d0 := box_cell hA5.box 0
      simp at d0
      obtain ⟨c0, c1, c2, c3, c4, c5, c6, c7⟩ := hA5.tree.cells
      obtain ⟨ap, cp, hvp⟩ := hA5.tree.shape
      subst hvp
      have hok9 := HK9.out
      have hpl9 := hok9.nums.2.2.2.1
      have cQ := fun w => fullI_any k9.set k9.base k9.last ap k9.ps.length cp w hok9.set (by omega)
      rw [fullN_eq] at cQ
      simp only [knV] at cQ
      have hcb5 := hA5.lt
      have htb5 := hA5.tree.lt
      have hsz5 := hU5.size
      clear hok9 hA5 B4 U4
      cases hf : k9.full
      · rw [hf] at cQ
        have HN := Lib.hid (HX9.out.2 hf)
        clear hf
        go_wp2_with (first | ((go_at_call 46; (with_reducible refine (cQ _).mono ?_); rintro e w6 ⟨rfl, U6⟩; have B6 := bcell U6; have Z6 := U6.size; (try simp at Z6); (try rw [Nat.add_one_le_iff] at Z6))) | fail)
        rw [HBD.out]
        go_roundw
        case rel => exact ⟨k9, e9, b9, m - 1, rfl, HN.out, HC5.out.up U6⟩
        case measure => simp only [slen]; rw [bs_size, bs_size]; exact hdl9
      · rw [hf] at cQ
        have HN := Lib.hid (HX9.out.1 hf)
        have hclr := (clr_bd HS.out).2.1
        have hc9 : k9.c = clr x.k.set := by unfold KnD.c; rw [HS9.out]
        have cWc := fun wx hx => write_any w2 cb k9 b9 (clr x.k.set) wx hx HK9.out (by omega) (by omega) (.inr (.inl (by rw [hc9])))
        rw [show k9.thru ((clr x.k.set : Nat) : Int) = k9.cleared by rw [← hc9]; exact thru_clear k9, HS9.out] at cWc
        obtain ⟨hbs, s0, s1, s2⟩ := SetAt.cells (box_up hU5 HS3.out)
        have HUU := Lib.hid hU5
        clear hf hc9
        go_wp2_with (first | ((go_at_call 46; (with_reducible refine (cQ _).mono ?_); rintro e w6 ⟨rfl, U6⟩; have B6 := bcell U6; have Z6 := U6.size; (try simp at Z6); (try rw [Nat.add_one_le_iff] at Z6))) | ((go_at_call 47; (with_reducible refine (cC0 _).mono ?_); rintro e w7 ⟨rfl, U7⟩; have B7 := bcell U7; have Z7 := U7.size; (try simp at Z7); (try rw [Nat.add_one_le_iff] at Z7))) | fail)
        with_reducible refine (cWc _ (HC5.out.up (U6.trans U7))).mono ?_
        rintro ee w8 ⟨⟨v8, rfl⟩, hC8⟩
        have HC8 := Lib.hid hC8
        clear hC8
        go_wp2
        rw [HBD.out]
        go_roundw
        case rel => exact ⟨k9.cleared, e9, _, m - 1, rfl, HN.out, HC8.out⟩
        case measure => simp only [slen]; rw [bs_size, bs_size]; exact hdl9
theorem wdI_any (x : WrD) (v : Value) (lo : Nat) (d : List UInt8) (w : World) (hl : -9223372036854775808 ≤ x.k.set.lit ∧ x.k.set.lit ≤ 9223372036854775807) (hr : RdP lo w v x.k.ps) (hps : x.k.ps.length ≤ 1048576) (hp : x.pend.length ≤ 1048576) (hb : x.bits.length ≤ 1048576) (hd : d.length ≤ 1048576) :
    Calls Tryz.prog 12  #[wrV x v, .string (bs d)] w (WdPost (wdO x d) w) := by
  cases h : (wrvB x && fitsB x.k.set (x.pend ++ d))
  · rw [wdO_none h]
    exact wdI_no x v lo d w h hl hr hps hp hb hd
  · rw [wdO_some h]
    obtain ⟨h1, h2⟩ := Bool.and_eq_true_iff.1 h
    by_cases hd0 : d = []
    · subst hd0
      rw [List.append_nil] at h2
      have e : x.write [] = (x, []) := by unfold WrD.write; rw [if_pos rfl]
      rw [e]
      exact wdI_nil x v lo w h1 h2 hl hr hps hp hb
    · exact wdI_main x v lo d w h1 h2 hd0 hl hr
end Go.Proofs.YtgbakgaegldomaaGreat

/- Walks of the reference's l3Put, l3Begin, l3Write. Conditions: what is known is valid, the pairs can be read, the code can be written. -/
namespace Go.Proofs.YtgbakgaegldomaaGreat
open Go Go.RowKit
structure LwAt (T : List UInt8 × KnD × List UInt8) (s : SetD) (v0 : Value) (ps0 : List PairD) (w : World) (ob m : Nat) (k : KnD) (d b : List UInt8) (v : Value) (wr : World) : Prop where
  dat : WlD T s m k d b
  box : WrAt ob ⟨k, d, b, true⟩ v wr
  res : WrAt (w.heap.size + 1) wr0 (.slice none 0 0) wr
  up : Up w wr
  pr : (v = v0 ∧ k.ps = ps0) ∨ ownPr wr w.heap.size v k.ps
end Go.Proofs.YtgbakgaegldomaaGreat

/- Walks of the reference's WriteData and CloseWriter, for writers of any kind. Conditions: the pairs can be read, the texts are no longer than 2^20 bytes. -/
namespace Go.Proofs.YtgbakgaegldomaaGreat
open Go Go.RowKit
theorem WlD.outs {T : List UInt8 × KnD × List UInt8} {s : SetD} : ∀ (m : Nat) (k : KnD) (d b : List UInt8), WlD T s m k d b → isBits T.1 ∧ T.1.length ≤ 41000 := by
  intro m
  induction m with
  | zero => intro k d b h; have h1 := h.len; have h2 := List.length_pos_iff.2 h.ne; omega
  | succ m ih =>
    intro k d b h
    by_cases hl : k.longest d = d
    · rw [h.stop hl]; exact ⟨h.bit, by have := h.sum; show b.length ≤ 41000; omega⟩
    · obtain ⟨_, h1, h2⟩ := h.step hl
      cases hf : (k.after (k.find (k.longest d))).full
      · exact ih _ _ _ (h2 hf)
      · exact ih _ _ _ (h1 hf)
end Go.Proofs.YtgbakgaegldomaaGreat

/- Walks of the program's CloseWriter and LongestWord. Conditions: the pairs can be read. -/
namespace Go.Proofs.YtgbakgaegldomaaGreat
open Go Go.RowKit
theorem wcO_none {x : WrD} (h : wrvB x = false) : wcO x = none := by unfold wcO; rw [h]; rfl
theorem wcO_some {x : WrD} (h : wrvB x = true) : wcO x = some x.close := by unfold wcO; rw [h]; rfl
theorem optS_no : optS none = .tuple #[.string ⟨#[]⟩, .bool false] := rfl
theorem close_nil {x : WrD} (h : x.pend = []) : x.close = packL x.k.set.ord (x.open.1 ++ codeL x.k.set.ord (clr x.k.set + 1) x.open.2.width) := by
  unfold WrD.close
  rw [if_pos h, List.nil_append]
  show packL _ (_ ++ (codeL _ ((x.k.c : Int) + 1).toNat _ ++ [])) = _
  rw [List.append_nil]
  rfl
theorem close_word {x : WrD} {n : Nat} (h : x.pend ≠ []) (ho : x.open = (x.bits, x.k)) (hn : x.k.find x.pend = n) (hth : x.k.thru n = x.k.after n) : x.close = packL x.k.set.ord ((x.bits ++ codeL x.k.set.ord n x.k.width) ++ codeL x.k.set.ord (clr x.k.set + 1) (x.k.after n).width) := by
  unfold WrD.close
  rw [if_neg h, ho]
  dsimp only
  rw [hn]
  show packL _ (_ ++ (codeL _ (n : Int).toNat _ ++ (codeL _ ((x.k.c : Int) + 1).toNat (x.k.thru n).width ++ []))) = _
  rw [List.append_nil, hth, Int.toNat_natCast, List.append_assoc]
  rfl
set_option maxRecDepth 100000 in
set_option maxHeartbeats 16000000 in
theorem wcI_any (x : WrD) (v : Value) (lo : Nat) (w : World) (hl : -9223372036854775808 ≤ x.k.set.lit ∧ x.k.set.lit ≤ 9223372036854775807) (hr : RdP lo w v x.k.ps) (hps : x.k.ps.length ≤ 1048576) (hp : x.pend.length ≤ 1048576) (hb : x.bits.length ≤ 1048576) :
    Calls Tryz.prog 32  #[wrV x v] w (Same (optS (wcO x)) w) := by
  have cV := fun wq hr => wvI_any x v lo wq hl hr (by omega) (by omega) (by omega)
  have hrt := fun (wq : World) (hu : Up w wq) => hr.up hu
  cases hok : wrvB x
  · rw [wcO_none hok, optS_no]
    rw [hok] at cV
    obtain ⟨a, cap, rfl, -, -, -, -⟩ := id hr
    clear hr hok
    unfold wrV at *
    go_enter Tryz.func32, Tryz.ntmps32
    go_wp2_with (first | (go_at_call 41; (with_reducible refine (cV _ (hrt _ (by (repeat (first | with_reducible exact Up.refl _ | with_reducible assumption | with_reducible refine Up.set ?_ (by first | exact Nat.le_refl _ | (simp only []; omega) | (simp; omega)) _ | with_reducible refine Up.alloc ?_ _ | with_reducible refine Up.drew ?_ | refine Up.trans ?_ (by with_reducible assumption)))))).mono ?_); rintro e w1 ⟨rfl, U1⟩; have B1 := bcell U1; have Z1 := U1.size; (try simp at Z1); (try rw [Nat.add_one_le_iff] at Z1)) | fail)
    go_ret2
    refine ⟨rfl, ?_⟩
    (repeat (first | with_reducible exact Up.refl _ | with_reducible assumption | with_reducible refine Up.set ?_ (by first | exact Nat.le_refl _ | (simp only []; omega) | (simp; omega)) _ | with_reducible refine Up.alloc ?_ _ | with_reducible refine Up.drew ?_ | refine Up.trans ?_ (by with_reducible assumption)))
  · rw [wcO_some hok]
    rw [hok] at cV
    have hwo := wrvB_ok hok
    have hk := hwo.1
    have hb7 := hwo.2.2.2.2.2.1
    have hbit := hwo.2.2.2.2.1
    have hp2 := hwo.2.2.2.1
    have cO := fun wq hr => coderOf_any x v lo wq hk hr (by omega)
    have cE := fun wq => endI_any x.k.set wq hk.set
    have ho := (setOk_bd hk.set).1
    have hcb := (clr_bd hk.set).2.1
    have hsp := bs_size x.pend
    obtain ⟨hob1, hob2⟩ := open_len hwo
    obtain ⟨hok1, hos1⟩ := WrD.open_ok hk
    unfold optS
    simp only [Option.getD_some, Option.isSome_some]
    obtain ⟨a, cap, rfl, -, -, -, -⟩ := id hr
    by_cases hpe : x.pend = []
    · have HC := Lib.hid (close_nil hpe)
      have hw9 := KnD.width_bd hok1
      have cWe := fun (a0 : World) cb wx hx => write_any a0 cb x.open.2 x.open.1 (clr x.k.set + 1) wx hx hok1 (by omega) (by omega) (.inl (by unfold KnD.c; rw [hos1]; omega))
      have hth : x.open.2.thru ((clr x.k.set + 1 : Nat) : Int) = x.open.2 := by
        unfold KnD.thru
        rw [if_pos (by unfold KnD.c; rw [hos1]; omega)]
      rw [hth, hos1, show ((clr x.k.set + 1 : Nat) : Int) = (clr x.k.set : Int) + 1 from by omega] at cWe
      rw [HC.out]
      have hbits : isBits (x.open.1 ++ codeL x.k.set.ord (clr x.k.set + 1) x.open.2.width) := hob2.app (isBits_code _ _ _)
      have hbl : (x.open.1 ++ codeL x.k.set.ord (clr x.k.set + 1) x.open.2.width).length ≤ 100 := by rw [List.length_append, codeL_length]; omega
      generalize x.open.1 ++ codeL x.k.set.ord (clr x.k.set + 1) x.open.2.width = b9 at *
      have cPk := fun wq => packI_any x.k.set.ord (bs b9) wq ho (by rw [bs_data]; exact hbits) (by rw [bs_size]; omega)
      rw [bs_data] at cPk
      have HPE : Hid (bs x.pend = ⟨#[]⟩) := by unfold Hid; rw [hpe]; rfl
      clear hok hwo hk hth hr hpe HC hob2 hbit hok1
      unfold wrV at *
      simp only [setV] at cE
      go_enter Tryz.func32, Tryz.ntmps32
      go_wp2_with (first | (go_at_call 41; (with_reducible refine (cV _ (hrt _ (by (repeat (first | with_reducible exact Up.refl _ | with_reducible assumption | with_reducible refine Up.set ?_ (by first | exact Nat.le_refl _ | (simp only []; omega) | (simp; omega)) _ | with_reducible refine Up.alloc ?_ _ | with_reducible refine Up.drew ?_ | refine Up.trans ?_ (by with_reducible assumption)))))).mono ?_); rintro e w1 ⟨rfl, U1⟩; have B1 := bcell U1; have Z1 := U1.size; (try simp at Z1); (try rw [Nat.add_one_le_iff] at Z1)) | fail)
      with_reducible refine (cO _ (hrt _ (by (repeat (first | with_reducible exact Up.refl _ | with_reducible assumption | with_reducible refine Up.set ?_ (by first | exact Nat.le_refl _ | (simp only []; omega) | (simp; omega)) _ | with_reducible refine Up.alloc ?_ _ | with_reducible refine Up.drew ?_ | refine Up.trans ?_ (by with_reducible assumption)))))).mono ?_
      rintro e w2 ⟨cb, rfl, hC⟩
      have U2 := hC.1
      have hX : WrAt w.heap.size x (.slice a x.k.ps.length cap) w2 := box_up (U1.trans U2) (MapKept.heap_alloc w _).1
      have HX := Lib.hid (show WrAt w.heap.size x (.slice a x.k.ps.length cap) w1 from box_up U1 (MapKept.heap_alloc w _).1)
      have HU1 := Lib.hid (show Up w w1 by (repeat (first | with_reducible exact Up.refl _ | with_reducible assumption | with_reducible refine Up.set ?_ (by first | exact Nat.le_refl _ | (simp only []; omega) | (simp; omega)) _ | with_reducible refine Up.alloc ?_ _ | with_reducible refine Up.drew ?_ | refine Up.trans ?_ (by with_reducible assumption))))
      obtain ⟨hbx, r0, r1, r2, r3, r4, r5, r6, r7, r8⟩ := hX.cells
      have HC := Lib.hid hC
      have HU := Lib.hid (show Up w w2 by (repeat (first | with_reducible exact Up.refl _ | with_reducible assumption | with_reducible refine Up.set ?_ (by first | exact Nat.le_refl _ | (simp only []; omega) | (simp; omega)) _ | with_reducible refine Up.alloc ?_ _ | with_reducible refine Up.drew ?_ | refine Up.trans ?_ (by with_reducible assumption))))
      clear hX hC U2 U1 B1 Z1
      rw [HPE.out] at r6
      go_wp2_with (first | (go_at_call 76; (with_reducible refine (cE _).mono ?_); rintro e w3 ⟨rfl, U3⟩; have B3 := bcell U3; have Z3 := U3.size; (try simp at Z3); (try rw [Nat.add_one_le_iff] at Z3)) | fail)
      with_reducible refine (cWe w1 cb _ (HC.out.up U3)).mono ?_
      rintro e w4 ⟨⟨v4, rfl⟩, hC4⟩
      obtain ⟨hU4, tb, vp, vn, vi, vb, hA⟩ := hC4
      obtain ⟨gv, cv, hvb⟩ := hA.own.shape
      subst hvb
      have HA := Lib.hid hA
      have HX4 := Lib.hid (And.intro (HX.out.up hU4) (HU1.out.trans hU4))
      clear hA hU4 HC HU U3 B3 Z3 r0 r1 r2 r3 r4 r5 r6 r7 r8 hbx cWe cO
      go_wp2_with fail
      refine wp_region_up 10 (by kernel_rfl) (by kernel_rfl) ?_
      simp only [List.take, List.drop]
      repeat (refine wpUp_step (fun K hK => ?_); go_simp; (try simp only [↓IntWalk.iteOmega]); first
        | (refine hK _ _ ?_; clear hK K)
        | (apply stepU_c
           · intro wq hwq; (have hbq := bcell hwq; (repeat (first | refine fills_no (by rfl) ?_ | refine fills_yes (by rfl) (fun vq hvq => ?_))); simp only [List.filter_nil, fills]; unfold upAt; (try ((have d1 := box_cell (HA.out.up hwq).box 1; simp at d1; obtain ⟨-, r0, r1, r2, r3, r4, r5, r6, r7, r8⟩ := (HX4.out.1.up hwq).cells; have hconv := conv_M (m := b9.length) (c := cv) (HA.out.up hwq).own (Nat.le_refl _); rw [List.take_length] at hconv))); go_simp; (try go_bits); (try simp only [↓IntWalk.iteOmega]); (try (rw [dif_pos (by omega)]; go_simp; try go_bits)); first | exact upOut_value | (apply upOut_call; (go_at_call 48; exact cPk _)) | (apply upOut_eq; (go_at_call 48; exact cPk _)))
           go_simp; refine hK _ _ ?_; clear hK K))
      refine wpUp_nil (fun wq hwq => ?_)
      simp only [fills]
      go_wp2
      go_ret2
      exact ⟨rfl, HX4.out.2.trans hwq⟩
    · have HPE := isEmpty_bs hpe
      have hpos := List.length_pos_iff.2 hpe
      have hbeg : x.beg = true := by
        cases h : x.beg
        · exact absurd (hwo.2.2.2.2.2.2.2 h).1 hpe
        · rfl
      have hopen : x.open = (x.bits, x.k) := by unfold WrD.open; rw [hbeg]; rfl
      have hlg : x.k.longest x.pend = x.pend := (hwo.2.2.2.2.2.2.1).resolve_left hpe
      have hlit := hwo.2.2.1
      obtain ⟨hfw, -⟩ := KnD.find_any hk hpe hlit
      rw [hlg] at hfw
      have hfb := KnD.find_bd hk hfw
      have hne := KnD.fol_ne hk hfw
      obtain ⟨n, hn⟩ := Int.eq_ofNat_of_zero_le hfb.1
      have hth := KnD.thru_fol hk hfw
      have hka := KnD.after_ok hk hfw
      have hwd := KnD.width_bd hk
      have hwa := KnD.width_bd hka
      have cC := fun B tb vp vn vi wq hT => codeOf_any B tb x.k vp vn vi (bs x.pend) wq hT hk (by rw [bs_size]; exact hpos) (by rw [bs_size]; omega) (by rw [bs_data]; exact hlit)
      rw [bs_data] at cC
      simp only [hlg, if_true] at cC
      rw [hn] at hth hne hka hwa hfw cC hfb
      have HC := Lib.hid (close_word hpe hopen hn hth)
      rw [HC.out]
      rw [hopen] at cO
      have hs9 : (x.k.after n).set = x.k.set := rfl
      have cWn := fun (a0 : World) cb wx hx => write_any a0 cb x.k x.bits n wx hx hk (by omega) (by omega) (.inr (.inr ⟨hne.1, hne.2, hfw⟩))
      rw [hth] at cWn
      have hbl : (x.bits ++ codeL x.k.set.ord n x.k.width).length ≤ 100 := by rw [List.length_append, codeL_length]; omega
      have hbits : isBits (x.bits ++ codeL x.k.set.ord n x.k.width) := hbit.app (isBits_code _ _ _)
      generalize x.bits ++ codeL x.k.set.ord n x.k.width = b8 at *
      generalize x.k.after n = k9 at *
      have cWe := fun (a0 : World) cb wx hx => write_any a0 cb k9 b8 (clr x.k.set + 1) wx hx hka (by omega) (by omega) (.inl (by unfold KnD.c; rw [hs9]; omega))
      have hth9 : k9.thru ((clr x.k.set + 1 : Nat) : Int) = k9 := by
        unfold KnD.thru
        rw [if_pos (by unfold KnD.c; rw [hs9]; omega)]
      rw [hth9, hs9, show ((clr x.k.set + 1 : Nat) : Int) = (clr x.k.set : Int) + 1 from by omega] at cWe
      have hbits9 : isBits (b8 ++ codeL x.k.set.ord (clr x.k.set + 1) k9.width) := hbits.app (isBits_code _ _ _)
      have hbl9 : (b8 ++ codeL x.k.set.ord (clr x.k.set + 1) k9.width).length ≤ 200 := by rw [List.length_append, codeL_length]; omega
      generalize b8 ++ codeL x.k.set.ord (clr x.k.set + 1) k9.width = b9 at *
      have cPk := fun wq => packI_any x.k.set.ord (bs b9) wq ho (by rw [bs_data]; exact hbits9) (by rw [bs_size]; omega)
      rw [bs_data] at cPk
      clear hok hwo hk hth hr hpe HC hob2 hbit hok1 hlg hlit hfw hne hn hka hs9 hth9 hbeg hopen
      unfold wrV at *
      simp only [setV] at cE
      go_enter Tryz.func32, Tryz.ntmps32
      go_wp2_with (first | (go_at_call 41; (with_reducible refine (cV _ (hrt _ (by (repeat (first | with_reducible exact Up.refl _ | with_reducible assumption | with_reducible refine Up.set ?_ (by first | exact Nat.le_refl _ | (simp only []; omega) | (simp; omega)) _ | with_reducible refine Up.alloc ?_ _ | with_reducible refine Up.drew ?_ | refine Up.trans ?_ (by with_reducible assumption)))))).mono ?_); rintro e w1 ⟨rfl, U1⟩; have B1 := bcell U1; have Z1 := U1.size; (try simp at Z1); (try rw [Nat.add_one_le_iff] at Z1)) | fail)
      with_reducible refine (cO _ (hrt _ (by (repeat (first | with_reducible exact Up.refl _ | with_reducible assumption | with_reducible refine Up.set ?_ (by first | exact Nat.le_refl _ | (simp only []; omega) | (simp; omega)) _ | with_reducible refine Up.alloc ?_ _ | with_reducible refine Up.drew ?_ | refine Up.trans ?_ (by with_reducible assumption)))))).mono ?_
      rintro e w2 ⟨cb, rfl, hC⟩
      have U2 := hC.1
      have hX : WrAt w.heap.size x (.slice a x.k.ps.length cap) w2 := box_up (U1.trans U2) (MapKept.heap_alloc w _).1
      have HX := Lib.hid (show WrAt w.heap.size x (.slice a x.k.ps.length cap) w1 from box_up U1 (MapKept.heap_alloc w _).1)
      have HU1 := Lib.hid (show Up w w1 by (repeat (first | with_reducible exact Up.refl _ | with_reducible assumption | with_reducible refine Up.set ?_ (by first | exact Nat.le_refl _ | (simp only []; omega) | (simp; omega)) _ | with_reducible refine Up.alloc ?_ _ | with_reducible refine Up.drew ?_ | refine Up.trans ?_ (by with_reducible assumption))))
      obtain ⟨hbx, r0, r1, r2, r3, r4, r5, r6, r7, r8⟩ := hX.cells
      have HC := Lib.hid hC
      clear hX hC U2 U1 B1 Z1
      go_wp2_with fail
      obtain ⟨hU2, tb2, vp2, vn2, vi2, vb2, hA2⟩ := id HC.out
      have HA2 := Lib.hid hA2
      have HXX := Lib.hid (HX.out.up hU2)
      clear hA2 hU2
      refine wp_region_up 11 (by kernel_rfl) (by kernel_rfl) ?_
      simp only [List.take, List.drop]
      repeat (refine wpUp_step (fun K hK => ?_); go_simp; (try simp only [↓IntWalk.iteOmega]); first
        | (refine hK _ _ ?_; clear hK K)
        | (apply stepU_c
           · intro wq hwq; (have hbq := bcell hwq; (repeat (first | refine fills_no (by rfl) ?_ | refine fills_yes (by rfl) (fun vq hvq => ?_))); simp only [List.filter_nil, fills]; unfold upAt; (try ((have d0 := box_cell (HA2.out.up hwq).box 0; simp at d0; obtain ⟨-, r0, r1, r2, r3, r4, r5, r6, r7, r8⟩ := (HXX.out.up hwq).cells))); go_simp; (try go_bits); (try simp only [↓IntWalk.iteOmega]); (try (rw [dif_pos (by omega)]; go_simp; try go_bits)); first | exact upOut_value | (apply upOut_call; (go_at_call 75; exact cC _ _ _ _ _ _ (HA2.out.up hwq).tree)) | (apply upOut_eq; (go_at_call 75; exact cC _ _ _ _ _ _ (HA2.out.up hwq).tree)))
           go_simp; refine hK _ _ ?_; clear hK K))
      refine wpUp_nil (fun wq hwq => ?_)
      simp only [fills]
      go_wp2_with fail
      with_reducible refine (cWn w1 cb _ (HC.out.up hwq)).mono ?_
      rintro e w3 ⟨⟨v3, rfl⟩, hC3⟩
      have HC3 := Lib.hid hC3
      obtain ⟨hbx, r0, r1, r2, r3, r4, r5, r6, r7, r8⟩ := (HX.out.up hC3.1).cells
      clear hC3 HC HA2 HXX hwq
      go_wp2_with (first | (go_at_call 76; (with_reducible refine (cE _).mono ?_); rintro e w3 ⟨rfl, U3⟩; have B3 := bcell U3; have Z3 := U3.size; (try simp at Z3); (try rw [Nat.add_one_le_iff] at Z3)) | fail)
      with_reducible refine (cWe w1 cb _ (HC3.out.up U3)).mono ?_
      rintro e w4 ⟨⟨v4, rfl⟩, hC4⟩
      obtain ⟨hU4, tb, vp, vn, vi, vb, hA⟩ := hC4
      obtain ⟨gv, cv, hvb⟩ := hA.own.shape
      subst hvb
      have HA := Lib.hid hA
      have HX4 := Lib.hid (And.intro (HX.out.up hU4) (HU1.out.trans hU4))
      clear hA hU4 HC3 U3 B3 Z3 r0 r1 r2 r3 r4 r5 r6 r7 r8 hbx cWe cO
      go_wp2_with fail
      refine wp_region_up 10 (by kernel_rfl) (by kernel_rfl) ?_
      simp only [List.take, List.drop]
      repeat (refine wpUp_step (fun K hK => ?_); go_simp; (try simp only [↓IntWalk.iteOmega]); first
        | (refine hK _ _ ?_; clear hK K)
        | (apply stepU_c
           · intro wq hwq; (have hbq := bcell hwq; (repeat (first | refine fills_no (by rfl) ?_ | refine fills_yes (by rfl) (fun vq hvq => ?_))); simp only [List.filter_nil, fills]; unfold upAt; (try ((have d1 := box_cell (HA.out.up hwq).box 1; simp at d1; obtain ⟨-, r0, r1, r2, r3, r4, r5, r6, r7, r8⟩ := (HX4.out.1.up hwq).cells; have hconv := conv_M (m := b9.length) (c := cv) (HA.out.up hwq).own (Nat.le_refl _); rw [List.take_length] at hconv))); go_simp; (try go_bits); (try simp only [↓IntWalk.iteOmega]); (try (rw [dif_pos (by omega)]; go_simp; try go_bits)); first | exact upOut_value | (apply upOut_call; (go_at_call 48; exact cPk _)) | (apply upOut_eq; (go_at_call 48; exact cPk _)))
           go_simp; refine hK _ _ ?_; clear hK K))
      refine wpUp_nil (fun wq hwq => ?_)
      simp only [fills]
      go_wp2
      go_ret2
      exact ⟨rfl, HX4.out.2.trans hwq⟩
end Go.Proofs.YtgbakgaegldomaaGreat

/- Plain: what WriteData leaves, valid or not, as one value; what szWriter says of the sizes. Conditions: none. -/
namespace Go.Proofs.YtgbakgaegldomaaGreat
open Go Go.RowKit
def oWr (o : Option (WrD × List UInt8)) : WrD := (o.map (·.1)).getD wr0
def oBy (o : Option (WrD × List UInt8)) : List UInt8 := (o.map (·.2)).getD []
theorem ownPr_nil (w : World) (base : Nat) : ownPr w base (.slice none 0 0) [] := ⟨by simp [cellsPr], .inl ⟨rfl, rfl⟩⟩
theorem wdP_all {o : Option (WrD × List UInt8)} {w w' : World} {e : Ending} (h : WdPost o w e w') : ∃ v, e = .returned (.tuple #[wrV (oWr o) v, .string (bs (oBy o)), .bool o.isSome]) ∧ ownPr w' w.heap.size v (oWr o).k.ps ∧ Up w w' := by
  cases o with
  | none => exact ⟨.slice none 0 0, h.1, ownPr_nil _ _, h.2⟩
  | some x => obtain ⟨v, he, ho, hu⟩ := h; exact ⟨v, he, ho, hu⟩
end Go.Proofs.YtgbakgaegldomaaGreat

