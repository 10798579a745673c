/- Texts joined into one: the walks and laws that the last text leans on. Conditions: as each says. -/
import Derived.Test.YtekogcjdaolcbaaGreatDoorMFnWriterResumeLawL
import Derived.Lib.AtoiTie
import Derived.Test.YtekogcjdaolcbaaGreatDoorMFnWriterResumeLawJ
import Derived.Test.YtekogcjdaolcbaaGreatDoorMFnWriterResumeLawF
import Derived.Test.YtekogcjdaolcbaaGreatDoorMFnWriterResumeLawK

set_option linter.unusedVariables false
set_option linter.unusedSimpArgs false
/- Plain: a number's decimal text is read back as that number. Conditions: at most a million. -/
namespace Go.Proofs.YtekogcjdaolcbaaGreatDoor
open Go
theorem decFrom_snoc : ∀ (l : List UInt8) (acc n : Nat) (b : UInt8) (d : Nat), Lib.decFrom acc l = some n → Lib.digitVal b = some d → Lib.decFrom acc (l ++ [b]) = some (n * 10 + d)
  | [], acc, n, b, d, h, hb => by
    simp only [Lib.decFrom, Option.some.injEq] at h
    subst h
    simp [Lib.decFrom, hb]
  | x :: r, acc, n, b, d, h, hb => by
    rw [List.cons_append]
    unfold Lib.decFrom at h ⊢
    cases hx : Lib.digitVal x with
    | none => rw [hx] at h; simp at h
    | some e => rw [hx] at h; exact decFrom_snoc r _ n b d h hb
theorem digit_val (m : Nat) (h : m < 10) : Lib.digitVal (UInt8.ofNat (48 + m)) = some m := by
  have e : (UInt8.ofNat (48 + m)).toNat = 48 + m := by rw [UInt8.toNat_ofNat']; omega
  unfold Lib.digitVal
  rw [e, if_pos (by omega)]
  simp
theorem decFrom_dec (m : Nat) : Lib.decFrom 0 (Lib.decDigits m) = some m := by
  induction m using Nat.strongRecOn with
  | ind m ih =>
    by_cases h : m < 10
    · rw [Lib.decDigits_one h]
      unfold Lib.decFrom
      rw [digit_val m h]
      simp only [Lib.decFrom, Nat.zero_mul, Nat.zero_add]
    · rw [dec_big h, decFrom_snoc _ _ _ _ _ (ih (m / 10) (by omega)) (digit_val (m % 10) (by omega))]
      congr 1; omega
theorem dec_ne (m : Nat) : Lib.decDigits m ≠ [] := by
  intro h
  have h1 := congrArg List.length h
  rw [Lib.decDigits_length] at h1
  have := Lib.nDigits_pos m
  simp at h1; omega
theorem dec_digit (m : Nat) : ∀ b ∈ Lib.decDigits m, 48 ≤ b.toNat ∧ b.toNat ≤ 57 := by
  intro b hb
  obtain ⟨k, hk, rfl⟩ := List.getElem_of_mem hb
  obtain ⟨d, hd⟩ := Lib.digit_of_decFrom _ _ _ (decFrom_dec m) k _ (List.getElem?_eq_getElem hk)
  have := Lib.digitVal_eq hd
  omega
theorem nDigits_le : ∀ (k u : Nat), u < 10 ^ (k + 1) → Lib.nDigits u ≤ k + 1
  | 0, u, h => by rw [Lib.nDigits_small (by simpa using h)]; exact Nat.le_refl _
  | k + 1, u, h => by
    by_cases hu : u < 10
    · rw [Lib.nDigits_small hu]; omega
    · rw [Lib.nDigits_big hu]
      have := nDigits_le k (u / 10) (by rw [Nat.pow_succ] at h; omega)
      omega
theorem dec_len7 {m : Nat} (h : m ≤ 1000000) : (Lib.decDigits m).length ≤ 7 := by
  rw [Lib.decDigits_length]; exact nDigits_le 6 m (by omega)
theorem decNat_dec (m : Nat) : Lib.decNat (Lib.decDigits m) = some m := by
  unfold Lib.decNat
  cases h : Lib.decDigits m with
  | nil => exact absurd h (dec_ne m)
  | cons b r => rw [← h]; simp [h]; rw [← h]; exact decFrom_dec m
theorem atoi_itoa (n : Int) : Lib.atoi (Lib.itoa n) = some n := by
  unfold Lib.itoa
  by_cases hn : n < 0
  · rw [if_pos hn]
    simp only [Lib.atoi, decNat_dec, Option.map_some, BEq.rfl, if_true]
    congr 1; omega
  · rw [if_neg hn]
    have hd := dec_digit n.toNat
    cases h : Lib.decDigits n.toNat with
    | nil => exact absurd h (dec_ne _)
    | cons b r =>
      have hb := hd b (by rw [h]; exact List.mem_cons_self ..)
      have h1 : (b == 45) = false := by rw [beq_eq_false_iff_ne]; rintro rfl; simp at hb
      have h2 : (b == 43) = false := by rw [beq_eq_false_iff_ne]; rintro rfl; simp at hb
      simp only [Lib.atoi, h1, h2]
      rw [← h, decNat_dec]
      simp; omega
theorem numP_itoa {n : Int} (h0 : -1000000 ≤ n) (h1 : n ≤ 1000000) : numP (Lib.itoa n) = some n := by
  have hl : (Lib.itoa n).length ≤ 18 := by
    unfold Lib.itoa
    split
    · have := dec_len7 (m := n.natAbs) (by omega); simp; omega
    · have := dec_len7 (m := n.toNat) (by omega); omega
  unfold numP
  rw [Lib.atoiAll_short _ hl, atoi_itoa]
  simp [Lib.NumEnd.ofOption]
end Go.Proofs.YtekogcjdaolcbaaGreatDoor

/- Plain: reading the text of places. Conditions: none. -/
namespace Go.Proofs.YtekogcjdaolcbaaGreatDoor
open Go
theorem itoa_chr {n : Int} : ∀ b ∈ Lib.itoa n, b = 45 ∨ 48 ≤ b.toNat ∧ b.toNat ≤ 57 := by
  intro b hb
  unfold Lib.itoa at hb
  split at hb
  · rcases List.mem_cons.1 hb with rfl | hb
    · exact .inl rfl
    · exact .inr (dec_digit _ b hb)
  · exact .inr (dec_digit _ b hb)
theorem itoa_no {c : UInt8} (n : Int) (h : c ≠ 45) (hc : c.toNat < 48 ∨ 57 < c.toNat) : c ∉ Lib.itoa n := by
  intro hm
  rcases itoa_chr c hm with e | e
  · exact h e
  · omega
theorem numP_text {l : List UInt8} {n : Int} (h : numP l = some n) : l = Lib.itoa n := by
  unfold numP at h
  split at h
  · split at h
    · rename_i v _ e
      simp only [Option.some.injEq] at h
      rw [← e, h]
    · cases h
  · cases h
def pairP (c : UInt8) (l : List UInt8) : Option (Int × Int) := match cutL c l with
  | none => none
  | some (x, y) => match numP x, numP y with
    | some a, some b => some (a, b)
    | _, _ => none
theorem pairP_text {c : UInt8} {l : List UInt8} {a b : Int} (h : pairP c l = some (a, b)) : l = Lib.itoa a ++ c :: Lib.itoa b := by
  unfold pairP at h
  split at h
  · cases h
  · rename_i x y hc
    split at h
    · rename_i a' b' h1 h2
      simp only [Option.some.injEq, Prod.mk.injEq] at h
      obtain ⟨rfl, rfl⟩ := h
      rw [(cutL_some hc).1, ← numP_text h1, ← numP_text h2]
    · cases h
theorem pairP_fmt {c : UInt8} {a b : Int} (hc : c ≠ 45) (hd : c.toNat < 48 ∨ 57 < c.toNat) (h0 : -1000000 ≤ a) (h1 : a ≤ 1000000) (h2 : -1000000 ≤ b) (h3 : b ≤ 1000000) : pairP c (Lib.itoa a ++ c :: Lib.itoa b) = some (a, b) := by
  unfold pairP
  rw [cutL_app (itoa_no a hc hd)]
  simp only [numP_itoa h0 h1, numP_itoa h2 h3]
end Go.Proofs.YtekogcjdaolcbaaGreatDoor

/- Plain: the texts of settings and of what is known, and reading them. Conditions: none. -/
namespace Go.Proofs.YtekogcjdaolcbaaGreatDoor
open Go
def ordT (o : Int) : List UInt8 := if o = 1 then [104, 105, 103, 104] else [108, 111, 119]
def setL (s : SetD) : List UInt8 := Lib.join [ordT s.ord, Lib.itoa s.lit, Lib.itoa s.most] [32]
theorem joinTail_no {c s : UInt8} (hs : c ≠ s) : ∀ {t : List (List UInt8)}, (∀ x ∈ t, c ∉ x) → c ∉ Lib.joinTail [s] t
  | [], _ => by simp [Lib.joinTail]
  | y :: t, h => by
    rw [joinTail_cons]
    intro hm
    rcases List.mem_cons.1 hm with hm | hm
    · exact hs hm
    · rcases List.mem_append.1 hm with hm | hm
      · exact h y (List.mem_cons_self ..) hm
      · exact joinTail_no hs (fun z hz => h z (List.mem_cons_of_mem _ hz)) hm
theorem join_no {c s : UInt8} {xs : List (List UInt8)} (h : ∀ x ∈ xs, c ∉ x) (hs : c ≠ s) : c ∉ Lib.join xs [s] := by
  cases xs with
  | nil => simp [Lib.join_nil]
  | cons x t =>
    rw [Lib.join_cons]
    intro hm
    rcases List.mem_append.1 hm with hm | hm
    · exact h x (List.mem_cons_self ..) hm
    · exact joinTail_no hs (fun y hy => h y (List.mem_cons_of_mem _ hy)) hm
theorem join3_len (a b c : List UInt8) (s : UInt8) : (Lib.join [a, b, c] [s]).length = a.length + b.length + c.length + 2 := by
  simp [Lib.join_cons, Lib.joinTail]; omega
theorem join4_len (a b c d : List UInt8) (s : UInt8) : (Lib.join [a, b, c, d] [s]).length = a.length + b.length + c.length + d.length + 3 := by
  simp [Lib.join_cons, Lib.joinTail]; omega
def fmtSet (s : SetD) : List UInt8 := if setOk s then setL s else []
def ordP (l : List UInt8) : Option Int := if l = [108, 111, 119] then some 0 else if l = [104, 105, 103, 104] then some 1 else none
def set3 (a b c : List UInt8) : Option SetD := match ordP a, numP b, numP c with
  | some o, some l, some m => if setOk ⟨o, l, m⟩ then some ⟨o, l, m⟩ else none
  | _, _, _ => none
def prsSet (t : List UInt8) : Option SetD := match splL 32 t with
  | [a, b, c] => set3 a b c
  | _ => none
theorem ordP_text {l : List UInt8} {o : Int} (h : ordP l = some o) : l = ordT o := by
  unfold ordP at h
  split at h
  · rename_i e; simp only [Option.some.injEq] at h; subst h; rw [e]; rfl
  · split at h
    · rename_i e; simp only [Option.some.injEq] at h; subst h; rw [e]; rfl
    · cases h
theorem ordP_fmt {o : Int} (h : o = 0 ∨ o = 1) : ordP (ordT o) = some o := by
  rcases h with rfl | rfl <;> rfl
theorem itoa_no' {c : UInt8} (n : Int) (h : (c == 45 || (decide (48 ≤ c.toNat) && decide (c.toNat ≤ 57))) = false) : c ∉ Lib.itoa n := by
  simp only [Bool.or_eq_false_iff, Bool.and_eq_false_iff, beq_eq_false_iff_ne, decide_eq_false_iff_not] at h
  exact itoa_no n h.1 (by omega)
theorem fmtSet_prs {t : List UInt8} {s : SetD} (h : prsSet t = some s) : fmtSet s = t ∧ setOk s = true := by
  unfold prsSet at h
  split at h
  · rename_i a b c hx
    unfold set3 at h
    split at h
    · rename_i o l m h1 h2 h3
      split at h
      · rename_i hv
        simp only [Option.some.injEq] at h
        subst h
        refine ⟨?_, hv⟩
        unfold fmtSet
        rw [hv, if_pos rfl]
        unfold setL
        rw [← ordP_text h1, ← numP_text h2, ← numP_text h3, ← hx]
        exact join_splL 32 t
      · cases h
    · cases h
  · cases h
theorem setOk_small {s : SetD} (h : setOk s = true) : (s.ord = 0 ∨ s.ord = 1) ∧ 1 ≤ s.lit ∧ s.lit ≤ 8 ∧ 3 ≤ s.most ∧ s.most ≤ 10 := by
  obtain ⟨h1, h2, h3, h4⟩ := setOk_bd h
  exact ⟨h1, h2.1, h2.2, by omega, h4⟩
theorem fmtSet_spl {s : SetD} (h : setOk s = true) : splL 32 (fmtSet s) = [ordT s.ord, Lib.itoa s.lit, Lib.itoa s.most] := by
  unfold fmtSet
  rw [h, if_pos rfl]
  unfold setL
  refine splL_join (by simp) fun x hx => ?_
  simp only [List.mem_cons, List.not_mem_nil, or_false] at hx
  rcases hx with rfl | rfl | rfl
  · unfold ordT; split <;> decide
  · exact itoa_no' _ (by decide)
  · exact itoa_no' _ (by decide)
theorem prsSet_fmt {s : SetD} (h : setOk s = true) : prsSet (fmtSet s) = some s := by
  obtain ⟨h1, h2, h3, h4, h5⟩ := setOk_small h
  unfold prsSet
  rw [fmtSet_spl h]
  simp only [set3, ordP_fmt h1, numP_itoa (n := s.lit) (by omega) (by omega), numP_itoa (n := s.most) (by omega) (by omega)]
  rw [if_pos h]
theorem fmtSet_no {s : SetD} {c : UInt8} (hc : (c == 45 || (decide (48 ≤ c.toNat) && decide (c.toNat ≤ 57))) = false) (h1 : c ∉ ordT 0) (h2 : c ∉ ordT 1) (h3 : c ≠ 32) : c ∉ fmtSet s := by
  unfold fmtSet
  split
  · have ho : c ∉ ordT s.ord := by unfold ordT at *; split <;> assumption
    unfold setL
    refine join_no (fun x hx => ?_) h3
    simp only [List.mem_cons, List.not_mem_nil, or_false] at hx
    rcases hx with rfl | rfl | rfl
    · exact ho
    · exact itoa_no' _ hc
    · exact itoa_no' _ hc
  · simp
theorem fmtSet_le (s : SetD) : (fmtSet s).length ≤ 50 := by
  unfold fmtSet
  split
  · rename_i h
    obtain ⟨h1, h2, h3, h4, h5⟩ := setOk_small h
    have e1 := itoa_le (n := s.lit) (by omega) (by omega)
    have e2 := itoa_le (n := s.most) (by omega) (by omega)
    have e3 : (ordT s.ord).length ≤ 4 := by unfold ordT; split <;> decide
    unfold setL
    rw [join3_len]
    omega
  · simp
def pairT (p : PairD) : List UInt8 := Lib.itoa p.pre ++ 46 :: Lib.itoa p.byt
def prsT (ps : List PairD) : List UInt8 := Lib.join (ps.map pairT) [44]
def knL (k : KnD) : List UInt8 := Lib.join [fmtSet k.set, Lib.itoa k.base, Lib.itoa k.last, someL (prsT k.ps)] [59]
def fmtK (k : KnD) : List UInt8 := if validK k then knL k else []
def prP (l : List UInt8) : Option PairD := (pairP 46 l).map fun p => ⟨p.1, p.2⟩
def prsP (d : List UInt8) : Option (List PairD) := if d = [45] then some [] else allP prP (splL 44 d)
def kn4 (a b c d : List UInt8) : Option KnD := match prsSet a, numP b, numP c with
  | some s, some ba, some la => match prsP d with
    | some ps => if validK ⟨s, ps, ba, la⟩ then some ⟨s, ps, ba, la⟩ else none
    | none => none
  | _, _, _ => none
def prsK (t : List UInt8) : Option KnD := match splL 59 t with
  | [a, b, c, d] => kn4 a b c d
  | _ => none
theorem prP_text {l : List UInt8} {p : PairD} (h : prP l = some p) : l = pairT p := by
  unfold prP at h
  obtain ⟨⟨a, b⟩, h1, rfl⟩ := Option.map_eq_some_iff.1 h
  exact pairP_text h1
theorem prsP_text {d : List UInt8} {ps : List PairD} (h : prsP d = some ps) : d = someL (prsT ps) := by
  unfold prsP at h
  split at h
  · rename_i e
    simp only [Option.some.injEq] at h
    subst h; rw [e]; rfl
  · have ht := allP_text h (fun x y => prP_text)
    have hj : prsT ps = d := by unfold prsT; rw [← ht]; exact join_splL 44 d
    rw [hj]
    unfold someL
    rw [if_neg]
    rintro rfl
    have := allP_iff.1 h
    cases ps with
    | nil => simp [splL] at this
    | cons p r =>
      simp only [splL, List.map_cons, List.map_nil, List.cons.injEq] at this
      exact absurd this.1 (by simp [prP, pairP, cutL])
theorem fmtK_prs {t : List UInt8} {k : KnD} (h : prsK t = some k) : fmtK k = t ∧ validK k = true := by
  unfold prsK at h
  split at h
  · rename_i a b c d hx
    unfold kn4 at h
    split at h
    · rename_i s ba la h1 h2 h3
      split at h
      · rename_i ps h4
        split at h
        · rename_i hv
          simp only [Option.some.injEq] at h
          subst h
          refine ⟨?_, hv⟩
          unfold fmtK
          rw [hv, if_pos rfl]
          unfold knL
          simp only []
          rw [(fmtSet_prs h1).1, ← numP_text h2, ← numP_text h3, ← prsP_text h4, ← hx]
          exact join_splL 59 t
        · cases h
      · cases h
    · cases h
  · cases h
theorem validK_small {k : KnD} (h : validK k = true) : setOk k.set = true ∧ k.ps.length ≤ 1024 ∧ (0 ≤ k.base ∧ k.base ≤ 1024) ∧ (-1 ≤ k.last ∧ k.last ≤ 2000) ∧ ∀ p ∈ k.ps, 0 ≤ p.pre ∧ p.pre ≤ 2000 ∧ 0 ≤ p.byt ∧ p.byt ≤ 255 := by
  obtain ⟨hok, -⟩ := ok_of_valid h
  have h1 := hok.c_bd
  have h2 := hok.len
  have h3 := hok.base0
  have h4 := hok.base1
  have hcb := clr_bd hok.set
  refine ⟨hok.set, by omega, by omega, ?_, fun p hp => ?_⟩
  · rcases hok.last with e | e
    · omega
    · rw [codeOk_iff] at e; omega
  · obtain ⟨i, hi, rfl⟩ := List.getElem_of_mem hp
    obtain ⟨a, b, c⟩ := hok.ps.get hi
    rw [codeOk_iff] at a
    omega
theorem pairT_chr {c : UInt8} (p : PairD) (hc : (c == 45 || (decide (48 ≤ c.toNat) && decide (c.toNat ≤ 57))) = false) (h : c ≠ 46) : c ∉ pairT p := by
  intro hm
  rcases List.mem_append.1 hm with hm | hm
  · exact itoa_no' _ hc hm
  · rcases List.mem_cons.1 hm with hm | hm
    · exact h hm
    · exact itoa_no' _ hc hm
theorem prsT_dot {p : PairD} {r : List PairD} : (46 : UInt8) ∈ prsT (p :: r) := by
  unfold prsT
  rw [List.map_cons, Lib.join_cons]
  exact List.mem_append_left _ (by simp [pairT])
theorem prsT_some {p : PairD} {r : List PairD} : someL (prsT (p :: r)) = prsT (p :: r) ∧ prsT (p :: r) ≠ [45] := by
  have hd := @prsT_dot p r
  refine ⟨?_, fun e => ?_⟩
  · unfold someL
    rw [if_neg]
    intro e
    rw [e] at hd; simp at hd
  · rw [e] at hd
    exact absurd hd (by decide)
theorem prsT_spl {p : PairD} {r : List PairD} : splL 44 (prsT (p :: r)) = (p :: r).map pairT :=
  splL_join (by simp) (fun x hx => by
    obtain ⟨q, -, rfl⟩ := List.mem_map.1 hx
    exact pairT_chr q (by decide) (by decide))
theorem prsP_fmt {ps : List PairD} (h : ∀ p ∈ ps, 0 ≤ p.pre ∧ p.pre ≤ 2000 ∧ 0 ≤ p.byt ∧ p.byt ≤ 255) : prsP (someL (prsT ps)) = some ps := by
  cases ps with
  | nil => rfl
  | cons p r =>
    obtain ⟨e1, e2⟩ := @prsT_some p r
    rw [e1]
    unfold prsP
    rw [if_neg e2, prsT_spl, allP_map (q := fun p => p) (fun q hq => by
      obtain ⟨a, b, c, d⟩ := h q hq
      unfold prP pairT
      rw [pairP_fmt (by decide) (.inl (by decide)) (by omega) (by omega) (by omega) (by omega)]
      rfl)]
    simp
theorem someL_no {c : UInt8} {l : List UInt8} (h : c ∉ l) (hc : c ≠ 45) : c ∉ someL l := by
  unfold someL
  split
  · intro e; exact hc (by simpa using e)
  · exact h
theorem prsT_no {c : UInt8} {ps : List PairD} (hc : (c == 45 || (decide (48 ≤ c.toNat) && decide (c.toNat ≤ 57))) = false) (h : c ≠ 46) (h2 : c ≠ 44) : c ∉ prsT ps :=
  join_no (fun x hx => by
    obtain ⟨q, -, rfl⟩ := List.mem_map.1 hx
    exact pairT_chr q hc h) h2
theorem knL_spl (k : KnD) : splL 59 (knL k) = [fmtSet k.set, Lib.itoa k.base, Lib.itoa k.last, someL (prsT k.ps)] := by
  unfold knL
  refine splL_join (by simp) fun x hx => ?_
  simp only [List.mem_cons, List.not_mem_nil, or_false] at hx
  rcases hx with rfl | rfl | rfl | rfl
  · exact fmtSet_no (by decide) (by decide) (by decide) (by decide)
  · exact itoa_no' _ (by decide)
  · exact itoa_no' _ (by decide)
  · exact someL_no (prsT_no (by decide) (by decide) (by decide)) (by decide)
theorem fmtK_spl {k : KnD} (h : validK k = true) : splL 59 (fmtK k) = [fmtSet k.set, Lib.itoa k.base, Lib.itoa k.last, someL (prsT k.ps)] := by
  unfold fmtK
  rw [h, if_pos rfl]
  exact knL_spl k
theorem prsK_fmt {k : KnD} (h : validK k = true) : prsK (fmtK k) = some k := by
  obtain ⟨h1, h2, h3, h4, h5⟩ := validK_small h
  unfold prsK
  rw [fmtK_spl h]
  simp only [kn4, prsSet_fmt h1, numP_itoa (n := k.base) (by omega) (by omega), numP_itoa (n := k.last) (by omega) (by omega), prsP_fmt h5]
  rw [if_pos h]
end Go.Proofs.YtekogcjdaolcbaaGreatDoor

/- FormatSetting and FormatKnown of the reference. Conditions: the pairs can be read, at most 2^30. -/
namespace Go.Proofs.YtekogcjdaolcbaaGreatDoor
open Go Go.RowKit
theorem setL_bs (s : SetD) : ((bs (ordT s.ord) ++ (⟨#[32]⟩ : ByteArray)) ++ bs (Lib.itoa s.lit) ++ (⟨#[32]⟩ : ByteArray)) ++ bs (Lib.itoa s.most) = bs (setL s) := by
  rw [show (⟨#[32]⟩ : ByteArray) = bs [32] from rfl]
  simp [bs_app, setL, Lib.join_cons, Lib.joinTail]
theorem pairT_le {p : PairD} (h : 0 ≤ p.pre ∧ p.pre ≤ 2000 ∧ 0 ≤ p.byt ∧ p.byt ≤ 255) : (pairT p).length ≤ 43 := by
  have h1 := itoa_le (n := p.pre) (by omega) (by omega)
  have h2 := itoa_le (n := p.byt) (by omega) (by omega)
  simp only [pairT, List.length_append, List.length_cons]
  omega
theorem prsT_le {ps : List PairD} (hl : ps.length ≤ 1024) (h : ∀ p ∈ ps, 0 ≤ p.pre ∧ p.pre ≤ 2000 ∧ 0 ≤ p.byt ∧ p.byt ≤ 255) (k : Nat) : (prsT (ps.take k)).length ≤ 45056 := by
  have h1 := join_le 43 ((ps.take k).map pairT) 44 (fun x hx => by
    obtain ⟨p, hp, rfl⟩ := List.mem_map.1 hx
    exact pairT_le (h p (List.mem_of_mem_take hp)))
  have h3 : ((ps.take k).map pairT).length ≤ 1024 := by rw [List.length_map, List.length_take]; omega
  unfold prsT
  have := Nat.mul_le_mul_left 44 h3
  omega
theorem someL_le {l : List UInt8} {n : Nat} (h : l.length ≤ n) (hn : 1 ≤ n) : (someL l).length ≤ n := by
  unfold someL; split
  · exact hn
  · exact h
theorem fmtK_le (k : KnD) : (fmtK k).length ≤ 46000 := by
  unfold fmtK
  split
  · rename_i hv
    obtain ⟨h1, h2, h3, h4, h5⟩ := validK_small hv
    have e1 := fmtSet_le k.set
    have e2 := itoa_le (n := k.base) (by omega) (by omega)
    have e3 := itoa_le (n := k.last) (by omega) (by omega)
    have e4 := prsT_le h2 h5 k.ps.length
    rw [List.take_length] at e4
    have e5 := someL_le e4 (by omega)
    unfold knL
    rw [join4_len]
    omega
  · simp
end Go.Proofs.YtekogcjdaolcbaaGreatDoor

/- FormatSetting and FormatKnown of the program. Conditions: the pairs can be read, at most 2^30; the table of powers of ten lies where it was laid. -/
namespace Go.Proofs.YtekogcjdaolcbaaGreatDoor
open Go Go.RowKit
def MkS (base : Nat) (xs : List (List UInt8)) (v : Value) (w : World) : Prop := w.ownsRow base 9 1 v xs.length (cellsS (xs.map bs))
theorem mkS_closed (base : Nat) (xs : List (List UInt8)) (v : Value) : UpClosed (MkS base xs v) := fun w w' h hu => ownsRow_up h hu
theorem mkS_new {base : Nat} {w w' : World} (hu : Up w w') (hb : base ≤ w.heap.size) (a b c d : List UInt8) : MkS base [a, b, c, d] (.slice (some ⟨w'.heap.size, 0, none⟩) 4 4) (w'.alloc (.cells #[.string (bs a), .string (bs b), .string (bs c), .string (bs d)] 9)) :=
  ⟨by simp [cellsS], .inr ⟨w'.heap.size, _, _, rfl, Nat.le_trans hb hu.size, (MapKept.heap_alloc w' _).1, Nat.le_refl _, by unfold maxLen; omega, by simp, by simp [cellsS]⟩⟩
theorem joinM_any {base : Nat} {xs : List (List UInt8)} {v : Value} {w : World} (sep : UInt8) (h : MkS base xs v w) (h0 : xs ≠ []) (hn : xs.length ≤ 1048576) (hlen : (Lib.join xs [sep]).length ≤ 140737488355328) :
    Calls Tryz.prog 53 #[v, .string ⟨#[sep]⟩] w (Same (.string (bs (Lib.join xs [sep]))) w) := by
  unfold MkS at h
  rcases ownsRow_read h with ⟨rfl, h2⟩ | ⟨g, cap, rfl, -⟩
  · exact absurd (List.length_eq_zero_iff.1 h2) h0
  · exact joinS_any g xs.length cap xs sep w base rfl hn h hlen
set_option maxRecDepth 100000 in
set_option maxHeartbeats 1000000 in
theorem fsetI_any (s : SetD) (w : World) (hT : Tab w) (hl : -9223372036854775808 ≤ s.lit ∧ s.lit ≤ 9223372036854775807) : Calls Tryz.prog 117  #[setV s] w (Same (.string (bs (fmtSet s))) w) := by
  have cS := fun w => setI_any s.ord s.lit s.most w hl
  rw [setD_eta] at cS
  cases h : setOk s
  · have e : Hid (fmtSet s = []) := by unfold Hid fmtSet; rw [h]; rfl
    rw [h] at cS
    rw [e.out]
    clear h
    simp only [setV] at *
    go_enter Tryz.func117, Tryz.ntmps117
    go_wp2_with ((go_at_call 89; (with_reducible refine (cS _).mono ?_); rintro e w1 ⟨rfl, U1⟩; have B1 := bcell U1; have Z1 := U1.size; (try simp at Z1); (try rw [Nat.add_one_le_iff] at Z1)))
    go_ret
    exact ⟨rfl, by (repeat (first | with_reducible exact Up.refl _ | with_reducible assumption | with_reducible refine Up.set ?_ (by first | exact Nat.le_refl _ | (simp only []; omega) | (simp; omega)) _ | with_reducible refine Up.alloc ?_ _ | with_reducible refine Up.drew ?_ | refine Up.trans ?_ (by with_reducible assumption)))⟩
  · obtain ⟨h1, h2, h3, h4, h5⟩ := setOk_small h
    have e : Hid (fmtSet s = setL s) := by unfold Hid fmtSet; rw [h]; rfl
    rw [h] at cS
    rw [e.out]
    have HX := Lib.hid (setL_bs s)
    have cA := fun wx (hx : Up w wx) => itoa_any s.lit wx (hT.up hx) (by omega) (by omega)
    have cB := fun wx (hx : Up w wx) => itoa_any s.most wx (hT.up hx) (by omega) (by omega)
    have lA := itoa_le (n := s.lit) (by omega) (by omega)
    have lB := itoa_le (n := s.most) (by omega) (by omega)
    have zA := bs_size (Lib.itoa s.lit)
    have zB := bs_size (Lib.itoa s.most)
    clear h e hT
    generalize Lib.itoa s.lit = A at *
    generalize Lib.itoa s.most = B at *
    simp only [setV] at *
    rcases h1 with ho | ho
    all_goals
      first
        | have HO : Hid (bs (ordT s.ord) = (⟨#[108, 111, 119]⟩ : ByteArray)) := by unfold Hid; rw [ho]; rfl
        | have HO : Hid (bs (ordT s.ord) = (⟨#[104, 105, 103, 104]⟩ : ByteArray)) := by unfold Hid; rw [ho]; rfl
      rw [ho] at cS
      rw [ho]
      go_enter Tryz.func117, Tryz.ntmps117
      go_wp2_with ((go_at_call 89; (with_reducible refine (cS _).mono ?_); rintro e w1 ⟨rfl, U1⟩; have B1 := bcell U1; have Z1 := U1.size; (try simp at Z1); (try rw [Nat.add_one_le_iff] at Z1)))
      refine wp_region_up 11 (by kernel_rfl) (by kernel_rfl) ?_
      simp only [List.take, List.drop]
      repeat (refine wpUp_step (fun K hK => ?_); go_simp; (try simp only [↓IntWalk.iteOmega]); first
        | (refine hK _ _ ?_; clear hK K)
        | (apply stepU_c
           · intro wq hwq; (have hbq := bcell hwq; (repeat (first | refine fills_no (by rfl) ?_ | refine fills_yes (by rfl) (fun vq hvq => ?_))); simp only [List.filter_nil, fills]; unfold upAt; go_simp; (try go_bits); (try simp only [↓IntWalk.iteOmega]); (try (rw [dif_pos (by omega)]; go_simp; try go_bits)); first | exact upOut_value | (apply upOut_call; (go_at_call 80; first | with_reducible exact cA _ (by (repeat (first | with_reducible exact Up.refl _ | with_reducible assumption | with_reducible refine Up.set ?_ (by first | exact Nat.le_refl _ | (simp only []; omega) | (simp; omega)) _ | with_reducible refine Up.alloc ?_ _ | with_reducible refine Up.drew ?_ | refine Up.trans ?_ (by with_reducible assumption)))) | with_reducible exact cB _ (by (repeat (first | with_reducible exact Up.refl _ | with_reducible assumption | with_reducible refine Up.set ?_ (by first | exact Nat.le_refl _ | (simp only []; omega) | (simp; omega)) _ | with_reducible refine Up.alloc ?_ _ | with_reducible refine Up.drew ?_ | refine Up.trans ?_ (by with_reducible assumption)))))) | (apply upOut_eq; (go_at_call 80; first | with_reducible exact cA _ (by (repeat (first | with_reducible exact Up.refl _ | with_reducible assumption | with_reducible refine Up.set ?_ (by first | exact Nat.le_refl _ | (simp only []; omega) | (simp; omega)) _ | with_reducible refine Up.alloc ?_ _ | with_reducible refine Up.drew ?_ | refine Up.trans ?_ (by with_reducible assumption)))) | with_reducible exact cB _ (by (repeat (first | with_reducible exact Up.refl _ | with_reducible assumption | with_reducible refine Up.set ?_ (by first | exact Nat.le_refl _ | (simp only []; omega) | (simp; omega)) _ | with_reducible refine Up.alloc ?_ _ | with_reducible refine Up.drew ?_ | refine Up.trans ?_ (by with_reducible assumption)))))))
           go_simp; refine hK _ _ ?_; clear hK K))
      refine wpUp_nil (fun wq hwq => ?_)
      simp only [fills]
      go_wp2
      go_ret
      exact ⟨by rw [← HX.out, HO.out]; rfl, by (repeat (first | with_reducible exact Up.refl _ | with_reducible assumption | with_reducible refine Up.set ?_ (by first | exact Nat.le_refl _ | (simp only []; omega) | (simp; omega)) _ | with_reducible refine Up.alloc ?_ _ | with_reducible refine Up.drew ?_ | refine Up.trans ?_ (by with_reducible assumption)))⟩
theorem knL_le {k : KnD} (hv : validK k = true) : (knL k).length ≤ 46000 := by
  have := fmtK_le k
  unfold fmtK at this
  rw [hv, if_pos rfl] at this
  exact this
def RelFki (k : KnD) (v : Value) (w W : World) (i : Value) (wr : World) : Prop := ∃ j : Nat, j ≤ k.ps.length ∧ i = .int .i64 j ∧ Up w wr ∧ KnAt w.heap.size k v wr ∧ w.heap.size < W.heap.size ∧ wr.ownsRow W.heap.size 9 1 (.slice (some ⟨W.heap.size, 0, none⟩) k.ps.length k.ps.length) k.ps.length (cellsS (midS ((k.ps.map pairT).map bs) j))
set_option maxRecDepth 100000 in
set_option maxHeartbeats 8000000 in
theorem fkI_any (k : KnD) (v : Value) (lo : Nat) (w : World) (hT : Tab w) (hl : -9223372036854775808 ≤ k.set.lit ∧ k.set.lit ≤ 9223372036854775807) (hr : RdP lo w v k.ps) (hps : k.ps.length ≤ 1073741824) :
    Calls Tryz.prog 54  #[kV k v] w (Same (.string (bs (fmtK k))) w) := by
  have cV := fun wx h => kvI_gen k v lo wx hl h hps
  have hrt := fun (wq : World) (hu : Up w wq) => hr.up hu
  obtain ⟨a, cap, rfl, hc1, hc2, hc3, hsome⟩ := hr
  unfold maxLen at hc2
  cases hv : validK k
  · have e : Hid (fmtK k = []) := by unfold Hid fmtK; rw [hv]; rfl
    rw [hv] at cV
    rw [e.out]
    clear hv hsome hc3 hT
    simp only [kV] at *
    go_enter Tryz.func54, Tryz.ntmps54
    go_wp2_with ((go_at_call 64; (with_reducible refine (cV _ (hrt _ (by (repeat (first | with_reducible exact Up.refl _ | with_reducible assumption | with_reducible refine Up.set ?_ (by first | exact Nat.le_refl _ | (simp only []; omega) | (simp; omega)) _ | with_reducible refine Up.alloc ?_ _ | with_reducible refine Up.drew ?_ | refine Up.trans ?_ (by with_reducible assumption)))))).mono ?_); rintro e w1 ⟨rfl, U1⟩; have B1 := bcell U1; have Z1 := U1.size; (try simp at Z1); (try rw [Nat.add_one_le_iff] at Z1)))
    go_ret
    exact ⟨rfl, by (repeat (first | with_reducible exact Up.refl _ | with_reducible assumption | with_reducible refine Up.set ?_ (by first | exact Nat.le_refl _ | (simp only []; omega) | (simp; omega)) _ | with_reducible refine Up.alloc ?_ _ | with_reducible refine Up.drew ?_ | refine Up.trans ?_ (by with_reducible assumption)))⟩
  · obtain ⟨h1, h2, h3, h4, h5⟩ := validK_small hv
    have e : Hid (fmtK k = knL k) := by unfold Hid fmtK; rw [hv]; rfl
    have hr := Lib.hid h5
    have hle := prsT_le h2 h5 k.ps.length
    rw [List.take_length] at hle
    have HLE := Lib.hid hle
    have HKL := Lib.hid (knL_le hv)
    have cF := fun wx (hx : Up w wx) => fsetI_any k.set wx (hT.up hx) hl
    have zF := fmtSet_le k.set
    have HT := Lib.hid hT
    rw [hv] at cV
    rw [e.out]
    obtain ⟨i0, hi0, hz0, hz1, hz2⟩ := info_parts infoStr
    have hmk : ∀ w : World, (Instr.makeSlice 45 (.int .i64 (k.ps.length : Int)) (.int .i64 (k.ps.length : Int))).run Tryz.prog w = .ok (.slice (some ⟨w.heap.size, 0, none⟩) k.ps.length k.ps.length) (w.alloc (.cells (madeCells #[.string ByteArray.empty] k.ps.length) 9)) := fun w => by
      have := run_make (P := Tryz.prog) w 45 9 i0 _ Tryz.underlying45 hi0 hz0 .i64 .i64 k.ps.length k.ps.length (by omega) (Int.le_refl _) (by rw [hz2]; omega) (by omega)
      rw [hz1] at this
      simpa [Value.cells] using this
    clear hz0 hz1 hz2 hi0 hv h5 hT hle
    simp only [kV, setV] at *
    go_enter Tryz.func54, Tryz.ntmps54
    go_wp2_with ((go_at_call 64; (with_reducible refine (cV _ (hrt _ (by (repeat (first | with_reducible exact Up.refl _ | with_reducible assumption | with_reducible refine Up.set ?_ (by first | exact Nat.le_refl _ | (simp only []; omega) | (simp; omega)) _ | with_reducible refine Up.alloc ?_ _ | with_reducible refine Up.drew ?_ | refine Up.trans ?_ (by with_reducible assumption)))))).mono ?_); rintro e w1 ⟨rfl, U1⟩; have B1 := bcell U1; have Z1 := U1.size; (try simp at Z1); (try rw [Nat.add_one_le_iff] at Z1)))
    have hU1 : Up w w1 := by (repeat (first | with_reducible exact Up.refl _ | with_reducible assumption | with_reducible refine Up.set ?_ (by first | exact Nat.le_refl _ | (simp only []; omega) | (simp; omega)) _ | with_reducible refine Up.alloc ?_ _ | with_reducible refine Up.drew ?_ | refine Up.trans ?_ (by with_reducible assumption)))
    have hKA : KnAt w.heap.size k (.slice a k.ps.length cap) w1 := box_up U1 (MapKept.heap_alloc w _).1
    have hw1 : w.heap.size < w1.heap.size := hKA.cells.1
    clear cV B1 Z1 U1
    go_loopw [16] (fun i wr => RelFki k (.slice a k.ps.length cap) w w1 i wr) (fun i _ => k.ps.length - (intOf i).toNat)
    case atStart => exact ⟨0, Nat.zero_le _, rfl, hU1.alloc _, hKA.up ((Up.refl _).alloc _), hw1, by rw [midS_zero, List.length_map, List.length_map]; exact made_strs w1 _ (by unfold maxLen; omega)⟩
    case round =>
      clear hU1 hKA hw1
      obtain ⟨j, hj, rfl, hup, hkn, hw1, ho⟩ := hrel
      obtain ⟨b0, r0, r1, r2, r3, r4, r5⟩ := hkn.cells
      have HKN := Lib.hid hkn
      have hrl : w1.heap.size < wr.heap.size := (ho.lt _ rfl).2
      clear hkn
      by_cases hlt : j < k.ps.length
      · obtain ⟨b, off, rfl, hlo, hbl, hcells⟩ := hsome (by omega)
        obtain ⟨q0, q1⟩ := hcells j k.ps[j] (List.getElem?_eq_getElem hlt)
        have p0 := (hup.cell (p := ⟨b, off + j * 2, none⟩) hbl).trans q0
        have p1 := (hup.cell (p := ⟨b, off + j * 2 + 1, none⟩) hbl).trans q1
        have hbw := Nat.lt_of_lt_of_le hbl hup.size
        obtain ⟨n1, n2, n3, n4⟩ := hr.out k.ps[j] (List.getElem_mem _)
        have cA := fun wx (hx : Up w wx) => itoa_any k.ps[j].pre wx (HT.out.up hx) (by omega) (by omega)
        have cB := fun wx (hx : Up w wx) => itoa_any k.ps[j].byt wx (HT.out.up hx) (by omega) (by omega)
        have lA := itoa_le (n := k.ps[j].pre) (by omega) (by omega)
        have lB := itoa_le (n := k.ps[j].byt) (by omega) (by omega)
        have zA := bs_size (Lib.itoa k.ps[j].pre)
        have zB := bs_size (Lib.itoa k.ps[j].byt)
        have hkT : j < ((k.ps.map pairT).map bs).length := by simpa using hlt
        have HM := Lib.hid (midS_set ((k.ps.map pairT).map bs) j hkT)
        have HX : Hid ((bs (Lib.itoa k.ps[j].pre) ++ (⟨#[46]⟩ : ByteArray)) ++ bs (Lib.itoa k.ps[j].byt) = ((k.ps.map pairT).map bs)[j]) := by
          unfold Hid
          rw [List.getElem_map, List.getElem_map, show (⟨#[46]⟩ : ByteArray) = bs [46] from rfl]
          simp [bs_app, pairT]
        have HF := Lib.hid (fun wx (hx : Up wr wx) => ownsRow_free (ownsRow_up ho hx) j)
        have HC := Lib.hid (fun wx (hx : Up wr wx) => ownsRow_cell (ownsRow_up ho hx) (midS_at ((k.ps.map pairT).map bs) j hkT))
        have HO := Lib.hid ho
        generalize Lib.itoa k.ps[j].pre = A at *
        generalize Lib.itoa k.ps[j].byt = B at *
        generalize k.ps[j].pre = x at *
        generalize k.ps[j].byt = y at *
        clear hr hcells q0 q1 ho cF
        go_wp2
        refine wp_region_up 11 (by kernel_rfl) (by kernel_rfl) ?_
        simp only [List.take, List.drop]
        repeat (refine wpUp_step (fun K hK => ?_); go_simp; (try simp only [↓IntWalk.iteOmega]); first
          | (refine hK _ _ ?_; clear hK K)
          | (apply stepU_c
             · intro wq hwq; (have hbq := bcell hwq; (repeat (first | refine fills_no (by rfl) ?_ | refine fills_yes (by rfl) (fun vq hvq => ?_))); simp only [List.filter_nil, fills]; unfold upAt; go_simp; (try go_bits); (try simp only [↓IntWalk.iteOmega]); (try (rw [dif_pos (by omega)]; go_simp; try go_bits)); first | exact upOut_value | (apply upOut_call; (go_at_call 80; first | with_reducible exact cA _ (by (repeat (first | with_reducible exact Up.refl _ | with_reducible assumption | with_reducible refine Up.set ?_ (by first | exact Nat.le_refl _ | (simp only []; omega) | (simp; omega)) _ | with_reducible refine Up.alloc ?_ _ | with_reducible refine Up.drew ?_ | refine Up.trans ?_ (by with_reducible assumption)))) | with_reducible exact cB _ (by (repeat (first | with_reducible exact Up.refl _ | with_reducible assumption | with_reducible refine Up.set ?_ (by first | exact Nat.le_refl _ | (simp only []; omega) | (simp; omega)) _ | with_reducible refine Up.alloc ?_ _ | with_reducible refine Up.drew ?_ | refine Up.trans ?_ (by with_reducible assumption)))))) | (apply upOut_eq; (go_at_call 80; first | with_reducible exact cA _ (by (repeat (first | with_reducible exact Up.refl _ | with_reducible assumption | with_reducible refine Up.set ?_ (by first | exact Nat.le_refl _ | (simp only []; omega) | (simp; omega)) _ | with_reducible refine Up.alloc ?_ _ | with_reducible refine Up.drew ?_ | refine Up.trans ?_ (by with_reducible assumption)))) | with_reducible exact cB _ (by (repeat (first | with_reducible exact Up.refl _ | with_reducible assumption | with_reducible refine Up.set ?_ (by first | exact Nat.le_refl _ | (simp only []; omega) | (simp; omega)) _ | with_reducible refine Up.alloc ?_ _ | with_reducible refine Up.drew ?_ | refine Up.trans ?_ (by with_reducible assumption)))))))
             go_simp; refine hK _ _ ?_; clear hK K))
        refine wpUp_nil (fun wq hwq => ?_)
        simp only [fills]
        have U3 : Up wr wq := by (repeat (first | with_reducible exact Up.refl _ | with_reducible assumption | with_reducible refine Up.set ?_ (by first | exact Nat.le_refl _ | (simp only []; omega) | (simp; omega)) _ | with_reducible refine Up.alloc ?_ _ | with_reducible refine Up.drew ?_ | refine Up.trans ?_ (by with_reducible assumption)))
        have q0 := HC.out wq U3
        have f0 := HF.out wq U3
        have HO3 := Lib.hid (ownsRow_up HO.out U3)
        have HU3 := Lib.hid U3
        clear HC HF
        go_wp2
        go_roundw
        case rel => exact ⟨j + 1, by omega, by go_num, (hup.trans HU3.out).set (p := ⟨w1.heap.size, j, none⟩) (Nat.le_of_lt hw1) _, box_other (HKN.out.up HU3.out) (p := ⟨w1.heap.size, j, none⟩) (Nat.ne_of_lt hw1) _, hw1, by rw [← HM.out, ← HX.out]; exact ownsRow_set HO3.out j _⟩
        case measure => simp [intOf]; omega
      · have hjl : j = k.ps.length := by omega
        subst hjl
        have hall : midS ((k.ps.map pairT).map bs) k.ps.length = (k.ps.map pairT).map bs := by
          have := midS_all ((k.ps.map pairT).map bs)
          rwa [List.length_map, List.length_map] at this
        rw [hall] at ho
        have cJ := fun wx (h : Up wr wx) => joinS_any w1.heap.size k.ps.length k.ps.length (k.ps.map pairT) 44 wx w1.heap.size (by simp) (by omega) (ownsRow_up ho h) (by have := HLE.out; unfold prsT at this; omega)
        have cD := fun wx => orDash_any (prsT k.ps) wx
        have cA := fun wx (hx : Up w wx) => itoa_any k.base wx (HT.out.up hx) (by omega) (by omega)
        have cB := fun wx (hx : Up w wx) => itoa_any k.last wx (HT.out.up hx) (by omega) (by omega)
        have HW : Hid (w.heap.size ≤ wr.heap.size) := hup.size
        rw [show Lib.join (k.ps.map pairT) [44] = prsT k.ps from rfl] at cJ
        have cM := fun (v : Value) (wx : World) (h : MkS w.heap.size [fmtSet k.set, Lib.itoa k.base, Lib.itoa k.last, someL (prsT k.ps)] v wx) => joinM_any 59 h (by simp) (by simp) (by have := HKL.out; unfold knL at this; omega)
        rw [show Lib.join [fmtSet k.set, Lib.itoa k.base, Lib.itoa k.last, someL (prsT k.ps)] [59] = knL k from rfl] at cM
        clear hr hsome hc3 hall
        generalize knL k = R at *
        generalize hA : Lib.itoa k.base = A at *
        generalize hB : Lib.itoa k.last = B at *
        generalize hS : someL (prsT k.ps) = S at *
        generalize hJ : prsT k.ps = J at *
        generalize hF : fmtSet k.set = F at *
        clear hA hB hS hJ hF
        go_wp2
        refine wp_region_up 14 (by kernel_rfl) (by kernel_rfl) ?_
        simp only [List.take, List.drop]
        repeat (refine wpUp_step (fun K hK => ?_); go_simp; (try simp only [↓IntWalk.iteOmega]); first
          | (refine hK _ _ ?_; clear hK K)
          | (apply stepU_c
             · intro wq hwq; (have hbq := bcell hwq; (repeat (first | refine fills_no (by rfl) ?_ | refine fills_yes (by rfl) (fun vq hvq => ?_))); simp only [List.filter_nil, fills]; unfold upAt; (try (skip)); go_simp; (try go_bits); (try simp only [↓IntWalk.iteOmega]); (try (rw [dif_pos (by omega)]; go_simp; try go_bits)); first | exact upOut_value | (apply upOut_call; (go_at_call 80; first | with_reducible exact cA _ (by (repeat (first | with_reducible exact Up.refl _ | with_reducible assumption | with_reducible refine Up.set ?_ (by first | exact Nat.le_refl _ | (simp only []; omega) | (simp; omega)) _ | with_reducible refine Up.alloc ?_ _ | with_reducible refine Up.drew ?_ | refine Up.trans ?_ (by with_reducible assumption)))) | with_reducible exact cB _ (by (repeat (first | with_reducible exact Up.refl _ | with_reducible assumption | with_reducible refine Up.set ?_ (by first | exact Nat.le_refl _ | (simp only []; omega) | (simp; omega)) _ | with_reducible refine Up.alloc ?_ _ | with_reducible refine Up.drew ?_ | refine Up.trans ?_ (by with_reducible assumption)))))) | (apply upOut_eq; (go_at_call 80; first | with_reducible exact cA _ (by (repeat (first | with_reducible exact Up.refl _ | with_reducible assumption | with_reducible refine Up.set ?_ (by first | exact Nat.le_refl _ | (simp only []; omega) | (simp; omega)) _ | with_reducible refine Up.alloc ?_ _ | with_reducible refine Up.drew ?_ | refine Up.trans ?_ (by with_reducible assumption)))) | with_reducible exact cB _ (by (repeat (first | with_reducible exact Up.refl _ | with_reducible assumption | with_reducible refine Up.set ?_ (by first | exact Nat.le_refl _ | (simp only []; omega) | (simp; omega)) _ | with_reducible refine Up.alloc ?_ _ | with_reducible refine Up.drew ?_ | refine Up.trans ?_ (by with_reducible assumption)))))) | (apply upOut_call; (go_at_call 117; with_reducible exact cF _ (by (repeat (first | with_reducible exact Up.refl _ | with_reducible assumption | with_reducible refine Up.set ?_ (by first | exact Nat.le_refl _ | (simp only []; omega) | (simp; omega)) _ | with_reducible refine Up.alloc ?_ _ | with_reducible refine Up.drew ?_ | refine Up.trans ?_ (by with_reducible assumption)))))) | (apply upOut_eq; (go_at_call 117; with_reducible exact cF _ (by (repeat (first | with_reducible exact Up.refl _ | with_reducible assumption | with_reducible refine Up.set ?_ (by first | exact Nat.le_refl _ | (simp only []; omega) | (simp; omega)) _ | with_reducible refine Up.alloc ?_ _ | with_reducible refine Up.drew ?_ | refine Up.trans ?_ (by with_reducible assumption)))))) | (apply upOut_call; (go_at_call 55; with_reducible exact cD _)) | (apply upOut_eq; (go_at_call 55; with_reducible exact cD _)) | (apply upOut_call; (go_at_call 53; first | with_reducible exact cJ _ (by (repeat (first | with_reducible exact Up.refl _ | with_reducible assumption | with_reducible refine Up.set ?_ (by first | exact Nat.le_refl _ | (simp only []; omega) | (simp; omega)) _ | with_reducible refine Up.alloc ?_ _ | with_reducible refine Up.drew ?_ | refine Up.trans ?_ (by with_reducible assumption)))) | exact cM _ _ hvq)) | (apply upOut_eq; (go_at_call 53; first | with_reducible exact cJ _ (by (repeat (first | with_reducible exact Up.refl _ | with_reducible assumption | with_reducible refine Up.set ?_ (by first | exact Nat.le_refl _ | (simp only []; omega) | (simp; omega)) _ | with_reducible refine Up.alloc ?_ _ | with_reducible refine Up.drew ?_ | refine Up.trans ?_ (by with_reducible assumption)))) | exact cM _ _ hvq)))
             go_simp; refine hK _ _ ?_; clear hK K)
          | (refine stepU_m (by kernel_rfl) (MkS w.heap.size [F, A, B, S]) (mkS_closed _ _) (fun wq hwq => ?_) ?_
             · (have hbq := bcell hwq; (repeat (first | refine fills_no (by rfl) ?_ | refine fills_yes (by rfl) (fun vq hvq => ?_))); simp only [List.filter_nil, fills]; unfold upAt; (try (skip)); go_simp; (try go_bits); (try simp only [↓IntWalk.iteOmega]); (try (rw [dif_pos (by omega)]; go_simp; try go_bits)); exact upOut_make ((Up.refl _).alloc _) (mkS_new hwq HW.out _ _ _ _))
             refine hK _ _ ?_; clear hK K))
        refine wpUp_nil (fun wq hwq => ?_)
        simp only [fills]
        intro v _
        go_wp2
        go_ret
        exact ⟨rfl, by (repeat (first | with_reducible exact Up.refl _ | with_reducible assumption | with_reducible refine Up.set ?_ (by first | exact Nat.le_refl _ | (simp only []; omega) | (simp; omega)) _ | with_reducible refine Up.alloc ?_ _ | with_reducible refine Up.drew ?_ | refine Up.trans ?_ (by with_reducible assumption)))⟩
end Go.Proofs.YtekogcjdaolcbaaGreatDoor

/- The reference's l9Cut; strings.Split and strings.Cut at one byte. Conditions: fewer than 2^20 bytes; bytealg.MaxLen holds an int. -/
namespace Go.Proofs.YtekogcjdaolcbaaGreatDoor
open Go Go.RowKit
def bL (b : ByteArray) : List UInt8 := b.data.toList
theorem bL_map (P : List ByteArray) : (P.map bL).map bs = P := by
  rw [List.map_map]
  conv => rhs; rw [← List.map_id P]
  exact List.map_congr_left fun x _ => bs_self x
theorem split_any (s : ByteArray) (c : UInt8) (w : World) (hm : ∃ m, w.cell? ⟨0, 0, none⟩ = some (.int .i64 m)) (hs : s.size ≤ 1048576) :
    Calls Tryz.prog 49 #[.string s, .string ⟨#[c]⟩] w (fun e w' => ∃ v, e = .returned v ∧ ownS w' w.heap.size v ((splL c s.data.toList).map bs) ∧ Up w w') := by
  obtain ⟨m, hm⟩ := hm
  have hk : Lib.countB s ⟨#[c]⟩ = s.data.toList.count c := by
    show Lib.count s.data.toList [c] = _
    exact Lib.count_one c _
  have hd := Lib.splitB_data ⟨#[c]⟩ 0 (s.data.toList.count c) s
  have hd2 : (Lib.splitB ⟨#[c]⟩ 0 (s.data.toList.count c) s).map bL = splL c s.data.toList := by
    rw [← splitK_splL]; exact hd
  have hB : Lib.splitB ⟨#[c]⟩ 0 (s.data.toList.count c) s = (splL c s.data.toList).map bs := by rw [← hd2, bL_map]
  refine (Tryz.strings_Split s ⟨#[c]⟩ m w (by omega) hm (Nat.le_refl _)).mono fun e w' ⟨he, hw⟩ => ?_
  rw [hk, hB] at hw
  have hlen : (splL c s.data.toList).length = s.data.toList.count c + 1 := by
    have := Lib.splitB_all ⟨#[c]⟩ (Nat.le_refl _) 0 _ s hk
    rw [hB, List.length_map] at this; exact this
  have hle := splL_length_le c s.data.toList
  have hln := ba_len s
  refine ⟨_, he, ?_, ?_⟩
  · subst hw
    rw [hk, ← hlen]
    unfold ownS
    rw [List.length_map]
    exact ⟨by simp [cellsS], .inr ⟨w.heap.size, _, _, rfl, Nat.le_refl _, (MapKept.heap_alloc w _).1, Nat.le_refl _, by unfold maxLen; omega, by simp, by rw [Nat.mul_one]; unfold cellsS; rw [List.take_of_length_le (by simp)]⟩⟩
  · subst hw; exact (Up.refl _).alloc _
theorem cut_any (l : List UInt8) (c : UInt8) (w : World) (hm : ∃ m, w.cell? ⟨0, 0, none⟩ = some (.int .i64 m)) (hs : l.length ≤ 1048576) :
    Calls Tryz.prog 156 #[.string (bs l), .string ⟨#[c]⟩] w (fun e w' => e = .returned (.tuple #[.string (bs (match cutL c l with | some p => p.1 | none => l)), .string (bs (match cutL c l with | some p => p.2 | none => [])), .bool (cutL c l).isSome]) ∧ Up w w') := by
  obtain ⟨m, hm⟩ := hm
  have hz := bs_size l
  refine (Tryz.strings_Cut (bs l) ⟨#[c]⟩ m w (by omega) hm).mono fun e w' ⟨he, n, hw⟩ => ⟨?_, ?_⟩
  · rw [he]
    have e1 : Lib.cut (bs l).data.toList (⟨#[c]⟩ : ByteArray).data.toList = Lib.cut l [c] := by rw [bs_data]
    rw [e1, cut_cutL]
    cases cutL c l <;> rfl
  · subst hw
    exact ⟨rfl, rfl, rfl, Nat.le_refl _, fun i hi => rfl⟩
end Go.Proofs.YtekogcjdaolcbaaGreatDoor

