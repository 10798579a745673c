/- Texts joined into one: the walks and laws that the last text leans on. Conditions: as each says. -/
import Derived.Test.YtiiahjnfbhcgmaaGreatDoorNp
import Derived.Test.YtiiahjnfbhcgmaaGreatDoorMFnIndexTextLawD

set_option linter.unusedVariables false
set_option linter.unusedSimpArgs false
/- Plain: what the reference's l9Num reads. Conditions: none. -/
namespace Go.Proofs.YtiiahjnfbhcgmaaGreatDoor
set_option linter.unusedVariables false
set_option linter.unusedSimpArgs false
open Go

/-- Digits behind a sign. -/
def numU (neg : Bool) (r : List UInt8) : Option Int := if r = [] ∨ 17 < r.length ∨ (r.head? = some 48 ∧ (1 < r.length ∨ neg = true)) then none else (Lib.decFrom 0 r).map fun m => if neg then -(m : Int) else m
/-- What l9Num reads. -/
def numR (l : List UInt8) : Option Int := if l.head? = some 45 then numU true l.tail else numU false l
theorem dec_head (m : Nat) (h : 1 ≤ m) : (Lib.decDigits m).head? ≠ some 48 := by
  induction m using Nat.strongRecOn with
  | ind m ih =>
    by_cases hm : m < 10
    · rw [Lib.decDigits_one hm]
      intro e
      have e2 : UInt8.ofNat (48 + m) = 48 := by simpa only [List.head?_cons, Option.some.injEq] using e
      have := congrArg UInt8.toNat e2
      rw [UInt8.toNat_ofNat'] at this
      have h48 : (48 : UInt8).toNat = 48 := rfl
      rw [h48] at this
      omega
    · rw [dec_big hm, List.head?_append]
      cases hd : (Lib.decDigits (m / 10)).head? with
      | none => exact absurd (List.head?_eq_none_iff.1 hd) (dec_ne _)
      | some b =>
        have := ih (m / 10) (by omega) (by omega)
        rw [hd] at this
        simpa using this
theorem numU_dec (neg : Bool) (m : Nat) (hm : m ≤ 1000000) (h : neg = true → 1 ≤ m) : numU neg (Lib.decDigits m) = some (if neg then -(m : Int) else m) := by
  have hl := dec_len7 hm
  unfold numU
  rw [if_neg, decFrom_dec]
  · rfl
  · rintro (h1 | h1 | ⟨h1, h2⟩)
    · exact dec_ne m h1
    · omega
    · by_cases h0 : 1 ≤ m
      · exact dec_head m h0 h1
      · have : m = 0 := by omega
        subst this
        rcases h2 with h2 | h2
        · rw [Lib.decDigits_one (by omega)] at h2; simp at h2
        · have := h h2; omega
theorem numR_itoa {n : Int} (h0 : -1000000 ≤ n) (h1 : n ≤ 1000000) : numR (Lib.itoa n) = some n := by
  unfold numR Lib.itoa
  by_cases hn : n < 0
  · rw [if_pos hn]
    simp only [List.head?_cons, if_true, List.tail_cons]
    rw [numU_dec true n.natAbs (by omega) (fun _ => by omega)]
    simp; omega
  · rw [if_neg hn]
    have hne : (Lib.decDigits n.toNat).head? ≠ some 45 := by
      cases hd : Lib.decDigits n.toNat with
      | nil => exact absurd hd (dec_ne _)
      | cons b r =>
        have hb := dec_digit n.toNat b (by rw [hd]; exact List.mem_cons_self ..)
        intro e
        simp only [List.head?_cons, Option.some.injEq] at e
        subst e
        simp at hb
    rw [if_neg hne, numU_dec false n.toNat (by omega) (fun h => by cases h)]
    simp; omega

end Go.Proofs.YtiiahjnfbhcgmaaGreatDoor

/- Plain: reading the text of places. Conditions: none. -/
namespace Go.Proofs.YtiiahjnfbhcgmaaGreatDoor
set_option linter.unusedVariables false
set_option linter.unusedSimpArgs false
open Go

theorem itoa_chr {n : Int} : ∀ b ∈ Lib.itoa n, b = 45 ∨ 48 ≤ b.toNat ∧ b.toNat ≤ 57 := by
  intro b hb
  unfold Lib.itoa at hb
  split at hb
  · rcases List.mem_cons.1 hb with rfl | hb
    · exact .inl rfl
    · exact .inr (dec_digit _ b hb)
  · exact .inr (dec_digit _ b hb)
theorem itoa_no {c : UInt8} (n : Int) (h : c ≠ 45) (hc : c.toNat < 48 ∨ 57 < c.toNat) : c ∉ Lib.itoa n := by
  intro hm
  rcases itoa_chr c hm with e | e
  · exact h e
  · omega
theorem numP_text {l : List UInt8} {n : Int} (h : numP l = some n) : l = Lib.itoa n := by
  unfold numP at h
  split at h
  · split at h
    · rename_i v _ e
      simp only [Option.some.injEq] at h
      rw [← e, h]
    · cases h
  · cases h

/-- Two numbers parted by the byte c. -/
def pairP (c : UInt8) (l : List UInt8) : Option (Int × Int) := match cutL c l with
  | none => none
  | some (x, y) => match numP x, numP y with
    | some a, some b => some (a, b)
    | _, _ => none
theorem pairP_text {c : UInt8} {l : List UInt8} {a b : Int} (h : pairP c l = some (a, b)) : l = Lib.itoa a ++ c :: Lib.itoa b := by
  unfold pairP at h
  split at h
  · cases h
  · rename_i x y hc
    split at h
    · rename_i a' b' h1 h2
      simp only [Option.some.injEq, Prod.mk.injEq] at h
      obtain ⟨rfl, rfl⟩ := h
      rw [(cutL_some hc).1, ← numP_text h1, ← numP_text h2]
    · cases h
theorem pairP_fmt {c : UInt8} {a b : Int} (hc : c ≠ 45) (hd : c.toNat < 48 ∨ 57 < c.toNat) (h0 : -1000000 ≤ a) (h1 : a ≤ 1000000) (h2 : -1000000 ≤ b) (h3 : b ≤ 1000000) : pairP c (Lib.itoa a ++ c :: Lib.itoa b) = some (a, b) := by
  unfold pairP
  rw [cutL_app (itoa_no a hc hd)]
  simp only [numP_itoa h0 h1, numP_itoa h2 h3]
/-- The same as the reference reads it: no number is 0. -/
def pairR (c : UInt8) (l : List UInt8) : Option (Int × Int) := (cutL c l).map fun p => ((numR p.1).getD 0, (numR p.2).getD 0)
theorem pairR_fmt {c : UInt8} {a b : Int} (hc : c ≠ 45) (hd : c.toNat < 48 ∨ 57 < c.toNat) (h0 : -1000000 ≤ a) (h1 : a ≤ 1000000) (h2 : -1000000 ≤ b) (h3 : b ≤ 1000000) : pairR c (Lib.itoa a ++ c :: Lib.itoa b) = some (a, b) := by
  unfold pairR
  rw [cutL_app (itoa_no a hc hd)]
  simp only [Option.map_some, numR_itoa h0 h1, numR_itoa h2 h3, Option.getD_some]

def plcP (l : List UInt8) : Option PlaceD := (pairP 58 l).map fun p => ⟨p.1, p.2⟩
def plcR (l : List UInt8) : Option PlaceD := (pairR 58 l).map fun p => ⟨p.1, p.2⟩
/-- What ParseIndex returns. -/
def prsIx (t : List UInt8) : Option (List PlaceD) := if t = [45] then some [] else match allP plcP (splL 32 t) with
  | none => none
  | some ps => if validP ps then some ps else none
theorem plcP_text {l : List UInt8} {p : PlaceD} (h : plcP l = some p) : l = plcT p := by
  unfold plcP at h
  obtain ⟨⟨a, b⟩, h1, rfl⟩ := Option.map_eq_some_iff.1 h
  exact pairP_text h1
theorem validP_nil : validP [] = true := by unfold validP; simp
theorem fmtIx_nil : fmtIx [] = [45] := by unfold fmtIx; rw [validP_nil]; rfl
theorem fmtIx_prs {t : List UInt8} {ps : List PlaceD} (h : prsIx t = some ps) : fmtIx ps = t ∧ validP ps = true := by
  unfold prsIx at h
  split at h
  · rename_i ht
    simp only [Option.some.injEq] at h
    subst h
    exact ⟨by rw [fmtIx_nil, ht], validP_nil⟩
  · split at h
    · cases h
    · rename_i ps' ha
      split at h
      · rename_i hv
        simp only [Option.some.injEq] at h
        subst h
        have ht := allP_text ha (fun x y => plcP_text)
        have hj : idxL ps' = t := by unfold idxL; rw [← ht]; exact join_splL 32 t
        refine ⟨?_, hv⟩
        unfold fmtIx
        rw [hv, if_pos rfl, hj]
        unfold someL
        rw [if_neg]
        rintro rfl
        have := allP_iff.1 ha
        cases ps' with
        | nil => simp [splL] at this
        | cons p r =>
          simp only [splL, List.map_cons, List.map_nil, List.cons.injEq] at this
          exact absurd this.1 (by simp [plcP, pairP, cutL])
      · cases h
theorem validP_mem {ps : List PlaceD} (hv : validP ps = true) {p : PlaceD} (hp : p ∈ ps) : 0 ≤ p.place ∧ p.place ≤ 4000 ∧ 0 ≤ p.start ∧ p.start ≤ 2000 := by
  obtain ⟨k, hk, rfl⟩ := List.getElem_of_mem hp
  exact (validP_range hv).2 k hk
theorem idxL_colon {p : PlaceD} {r : List PlaceD} : (58 : UInt8) ∈ idxL (p :: r) := by
  unfold idxL
  rw [List.map_cons, Lib.join_cons]
  exact List.mem_append_left _ (by simp [plcT])
theorem plcT_no (p : PlaceD) : (32 : UInt8) ∉ plcT p := by
  intro h
  rcases List.mem_append.1 h with h | h
  · exact itoa_no p.place (c := 32) (by decide) (.inl (by decide)) h
  · rcases List.mem_cons.1 h with h | h
    · exact absurd h (by decide)
    · exact itoa_no p.start (c := 32) (by decide) (.inl (by decide)) h
theorem fmtIx_cons {p : PlaceD} {r : List PlaceD} (hv : validP (p :: r) = true) : fmtIx (p :: r) = idxL (p :: r) ∧ fmtIx (p :: r) ≠ [45] ∧ splL 32 (fmtIx (p :: r)) = (p :: r).map plcT := by
  have h1 : fmtIx (p :: r) = idxL (p :: r) := by
    unfold fmtIx
    rw [hv, if_pos rfl]
    unfold someL
    rw [if_neg]
    intro e
    have := @idxL_colon p r
    rw [e] at this; simp at this
  refine ⟨h1, ?_, ?_⟩
  · intro e
    have := @idxL_colon p r
    rw [← h1, e] at this
    exact absurd this (by decide)
  · rw [h1]
    exact splL_join (by simp) (fun x hx => by
      obtain ⟨q, -, rfl⟩ := List.mem_map.1 hx
      exact plcT_no q)
theorem prsIx_fmt {ps : List PlaceD} (hv : validP ps = true) : prsIx (fmtIx ps) = some ps := by
  cases ps with
  | nil => rw [fmtIx_nil]; rfl
  | cons p r =>
    obtain ⟨-, h2, h3⟩ := fmtIx_cons hv
    unfold prsIx
    rw [if_neg h2, h3, allP_map (q := fun p => p) (fun q hq => by
      obtain ⟨a, b, c, d⟩ := validP_mem hv hq
      unfold plcP plcT
      rw [pairP_fmt (by decide) (.inr (by decide)) (by omega) (by omega) (by omega) (by omega)]
      rfl)]
    simp [hv]

/-- What the reference reads before it asks whether the text is that of what it has read. -/
def lenIx (t : List UInt8) : Option (List PlaceD) := if t = [45] then some [] else allP plcR ((splL 32 t).take 41)
theorem lenIx_fmt {ps : List PlaceD} (hv : validP ps = true) : lenIx (fmtIx ps) = some ps := by
  cases ps with
  | nil => rw [fmtIx_nil]; rfl
  | cons p r =>
    obtain ⟨-, h2, h3⟩ := fmtIx_cons hv
    have hl := (validP_range hv).1
    unfold lenIx
    rw [if_neg h2, h3, List.take_of_length_le (by rw [List.length_map]; omega), allP_map (q := fun p => p) (fun q hq => by
      obtain ⟨a, b, c, d⟩ := validP_mem hv hq
      unfold plcR plcT
      rw [pairR_fmt (by decide) (.inr (by decide)) (by omega) (by omega) (by omega) (by omega)]
      rfl)]
    simp
theorem lenIx_nil : lenIx [] = none := by simp [lenIx, splL, allP, plcR, pairR, cutL]
theorem prsIx_len (t : List UInt8) : prsIx t = match lenIx t with
    | some out => if fmtIx out = t then some out else none
    | none => none := by
  cases hp : prsIx t with
  | some ps =>
    obtain ⟨h1, h2⟩ := fmtIx_prs hp
    subst h1
    rw [lenIx_fmt h2]
    simp
  | none =>
    cases hl : lenIx t with
    | none => rfl
    | some out =>
      simp only []
      split
      · rename_i he
        subst he
        cases hv : validP out with
        | true => rw [prsIx_fmt hv] at hp; cases hp
        | false =>
          have : fmtIx out = [] := by unfold fmtIx; rw [hv]; rfl
          rw [this, lenIx_nil] at hl
          cases hl
      · rfl

end Go.Proofs.YtiiahjnfbhcgmaaGreatDoor

