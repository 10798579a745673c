/- Texts joined into one: the walks and laws that the last text leans on. Conditions: as each says. -/
import Derived.Test.YtekogcjdaolcbaaGreatDoorMFnWriterTextLawL
import Derived.Lib.AtoiTie
import Derived.Test.YtekogcjdaolcbaaGreatDoorMFnWriterTextLawJ
import Derived.Test.YtekogcjdaolcbaaGreatDoorMFnWriterTextLawF
import Derived.Test.YtekogcjdaolcbaaGreatDoorMFnWriterTextLawK
import Derived.Test.YtekogcjdaolcbaaGreatDoorSets
import Derived.Test.YtekogcjdaolcbaaGreatDoorMFnWriterTextLawC
import Derived.Test.YtekogcjdaolcbaaGreatDoorUg
import Derived.Test.YtekogcjdaolcbaaGreatDoorMFnWriterTextLawG
import Derived.Test.YtekogcjdaolcbaaGreatDoorMFnWriterTextLawH
import Derived.Test.YtekogcjdaolcbaaGreatDoorMFnWriterTextLawD

set_option linter.unusedVariables false
set_option linter.unusedSimpArgs false
/- Plain: a number's decimal text is read back as that number. Conditions: at most a million. -/
namespace Go.Proofs.YtekogcjdaolcbaaGreatDoor
open Go
theorem decFrom_snoc : ∀ (l : List UInt8) (acc n : Nat) (b : UInt8) (d : Nat), Lib.decFrom acc l = some n → Lib.digitVal b = some d → Lib.decFrom acc (l ++ [b]) = some (n * 10 + d)
  | [], acc, n, b, d, h, hb => by
    simp only [Lib.decFrom, Option.some.injEq] at h
    subst h
    simp [Lib.decFrom, hb]
  | x :: r, acc, n, b, d, h, hb => by
    rw [List.cons_append]
    unfold Lib.decFrom at h ⊢
    cases hx : Lib.digitVal x with
    | none => rw [hx] at h; simp at h
    | some e => rw [hx] at h; exact decFrom_snoc r _ n b d h hb
theorem digit_val (m : Nat) (h : m < 10) : Lib.digitVal (UInt8.ofNat (48 + m)) = some m := by
  have e : (UInt8.ofNat (48 + m)).toNat = 48 + m := by rw [UInt8.toNat_ofNat']; omega
  unfold Lib.digitVal
  rw [e, if_pos (by omega)]
  simp
theorem decFrom_dec (m : Nat) : Lib.decFrom 0 (Lib.decDigits m) = some m := by
  induction m using Nat.strongRecOn with
  | ind m ih =>
    by_cases h : m < 10
    · rw [Lib.decDigits_one h]
      unfold Lib.decFrom
      rw [digit_val m h]
      simp only [Lib.decFrom, Nat.zero_mul, Nat.zero_add]
    · rw [dec_big h, decFrom_snoc _ _ _ _ _ (ih (m / 10) (by omega)) (digit_val (m % 10) (by omega))]
      congr 1; omega
theorem dec_ne (m : Nat) : Lib.decDigits m ≠ [] := by
  intro h
  have h1 := congrArg List.length h
  rw [Lib.decDigits_length] at h1
  have := Lib.nDigits_pos m
  simp at h1; omega
theorem dec_digit (m : Nat) : ∀ b ∈ Lib.decDigits m, 48 ≤ b.toNat ∧ b.toNat ≤ 57 := by
  intro b hb
  obtain ⟨k, hk, rfl⟩ := List.getElem_of_mem hb
  obtain ⟨d, hd⟩ := Lib.digit_of_decFrom _ _ _ (decFrom_dec m) k _ (List.getElem?_eq_getElem hk)
  have := Lib.digitVal_eq hd
  omega
theorem nDigits_le : ∀ (k u : Nat), u < 10 ^ (k + 1) → Lib.nDigits u ≤ k + 1
  | 0, u, h => by rw [Lib.nDigits_small (by simpa using h)]; exact Nat.le_refl _
  | k + 1, u, h => by
    by_cases hu : u < 10
    · rw [Lib.nDigits_small hu]; omega
    · rw [Lib.nDigits_big hu]
      have := nDigits_le k (u / 10) (by rw [Nat.pow_succ] at h; omega)
      omega
theorem dec_len7 {m : Nat} (h : m ≤ 1000000) : (Lib.decDigits m).length ≤ 7 := by
  rw [Lib.decDigits_length]; exact nDigits_le 6 m (by omega)
theorem decNat_dec (m : Nat) : Lib.decNat (Lib.decDigits m) = some m := by
  unfold Lib.decNat
  cases h : Lib.decDigits m with
  | nil => exact absurd h (dec_ne m)
  | cons b r => rw [← h]; simp [h]; rw [← h]; exact decFrom_dec m
theorem atoi_itoa (n : Int) : Lib.atoi (Lib.itoa n) = some n := by
  unfold Lib.itoa
  by_cases hn : n < 0
  · rw [if_pos hn]
    simp only [Lib.atoi, decNat_dec, Option.map_some, BEq.rfl, if_true]
    congr 1; omega
  · rw [if_neg hn]
    have hd := dec_digit n.toNat
    cases h : Lib.decDigits n.toNat with
    | nil => exact absurd h (dec_ne _)
    | cons b r =>
      have hb := hd b (by rw [h]; exact List.mem_cons_self ..)
      have h1 : (b == 45) = false := by rw [beq_eq_false_iff_ne]; rintro rfl; simp at hb
      have h2 : (b == 43) = false := by rw [beq_eq_false_iff_ne]; rintro rfl; simp at hb
      simp only [Lib.atoi, h1, h2]
      rw [← h, decNat_dec]
      simp; omega
theorem numP_itoa {n : Int} (h0 : -1000000 ≤ n) (h1 : n ≤ 1000000) : numP (Lib.itoa n) = some n := by
  have hl : (Lib.itoa n).length ≤ 18 := by
    unfold Lib.itoa
    split
    · have := dec_len7 (m := n.natAbs) (by omega); simp; omega
    · have := dec_len7 (m := n.toNat) (by omega); omega
  unfold numP
  rw [Lib.atoiAll_short _ hl, atoi_itoa]
  simp [Lib.NumEnd.ofOption]
end Go.Proofs.YtekogcjdaolcbaaGreatDoor

/- Plain: what the reference's l9Num reads. Conditions: none. -/
namespace Go.Proofs.YtekogcjdaolcbaaGreatDoor
open Go
def numU (neg : Bool) (r : List UInt8) : Option Int := if r = [] ∨ 17 < r.length ∨ (r.head? = some 48 ∧ (1 < r.length ∨ neg = true)) then none else (Lib.decFrom 0 r).map fun m => if neg then -(m : Int) else m
def numR (l : List UInt8) : Option Int := if l.head? = some 45 then numU true l.tail else numU false l
theorem dec_head (m : Nat) (h : 1 ≤ m) : (Lib.decDigits m).head? ≠ some 48 := by
  induction m using Nat.strongRecOn with
  | ind m ih =>
    by_cases hm : m < 10
    · rw [Lib.decDigits_one hm]
      intro e
      have e2 : UInt8.ofNat (48 + m) = 48 := by simpa only [List.head?_cons, Option.some.injEq] using e
      have := congrArg UInt8.toNat e2
      rw [UInt8.toNat_ofNat'] at this
      have h48 : (48 : UInt8).toNat = 48 := rfl
      rw [h48] at this
      omega
    · rw [dec_big hm, List.head?_append]
      cases hd : (Lib.decDigits (m / 10)).head? with
      | none => exact absurd (List.head?_eq_none_iff.1 hd) (dec_ne _)
      | some b =>
        have := ih (m / 10) (by omega) (by omega)
        rw [hd] at this
        simpa using this
theorem numU_dec (neg : Bool) (m : Nat) (hm : m ≤ 1000000) (h : neg = true → 1 ≤ m) : numU neg (Lib.decDigits m) = some (if neg then -(m : Int) else m) := by
  have hl := dec_len7 hm
  unfold numU
  rw [if_neg, decFrom_dec]
  · rfl
  · rintro (h1 | h1 | ⟨h1, h2⟩)
    · exact dec_ne m h1
    · omega
    · by_cases h0 : 1 ≤ m
      · exact dec_head m h0 h1
      · have : m = 0 := by omega
        subst this
        rcases h2 with h2 | h2
        · rw [Lib.decDigits_one (by omega)] at h2; simp at h2
        · have := h h2; omega
theorem numR_itoa {n : Int} (h0 : -1000000 ≤ n) (h1 : n ≤ 1000000) : numR (Lib.itoa n) = some n := by
  unfold numR Lib.itoa
  by_cases hn : n < 0
  · rw [if_pos hn]
    simp only [List.head?_cons, if_true, List.tail_cons]
    rw [numU_dec true n.natAbs (by omega) (fun _ => by omega)]
    simp; omega
  · rw [if_neg hn]
    have hne : (Lib.decDigits n.toNat).head? ≠ some 45 := by
      cases hd : Lib.decDigits n.toNat with
      | nil => exact absurd hd (dec_ne _)
      | cons b r =>
        have hb := dec_digit n.toNat b (by rw [hd]; exact List.mem_cons_self ..)
        intro e
        simp only [List.head?_cons, Option.some.injEq] at e
        subst e
        simp at hb
    rw [if_neg hne, numU_dec false n.toNat (by omega) (fun h => by cases h)]
    simp; omega
end Go.Proofs.YtekogcjdaolcbaaGreatDoor

/- Plain: reading the text of places. Conditions: none. -/
namespace Go.Proofs.YtekogcjdaolcbaaGreatDoor
open Go
theorem itoa_chr {n : Int} : ∀ b ∈ Lib.itoa n, b = 45 ∨ 48 ≤ b.toNat ∧ b.toNat ≤ 57 := by
  intro b hb
  unfold Lib.itoa at hb
  split at hb
  · rcases List.mem_cons.1 hb with rfl | hb
    · exact .inl rfl
    · exact .inr (dec_digit _ b hb)
  · exact .inr (dec_digit _ b hb)
theorem itoa_no {c : UInt8} (n : Int) (h : c ≠ 45) (hc : c.toNat < 48 ∨ 57 < c.toNat) : c ∉ Lib.itoa n := by
  intro hm
  rcases itoa_chr c hm with e | e
  · exact h e
  · omega
theorem numP_text {l : List UInt8} {n : Int} (h : numP l = some n) : l = Lib.itoa n := by
  unfold numP at h
  split at h
  · split at h
    · rename_i v _ e
      simp only [Option.some.injEq] at h
      rw [← e, h]
    · cases h
  · cases h
def pairP (c : UInt8) (l : List UInt8) : Option (Int × Int) := match cutL c l with
  | none => none
  | some (x, y) => match numP x, numP y with
    | some a, some b => some (a, b)
    | _, _ => none
theorem pairP_text {c : UInt8} {l : List UInt8} {a b : Int} (h : pairP c l = some (a, b)) : l = Lib.itoa a ++ c :: Lib.itoa b := by
  unfold pairP at h
  split at h
  · cases h
  · rename_i x y hc
    split at h
    · rename_i a' b' h1 h2
      simp only [Option.some.injEq, Prod.mk.injEq] at h
      obtain ⟨rfl, rfl⟩ := h
      rw [(cutL_some hc).1, ← numP_text h1, ← numP_text h2]
    · cases h
theorem pairP_fmt {c : UInt8} {a b : Int} (hc : c ≠ 45) (hd : c.toNat < 48 ∨ 57 < c.toNat) (h0 : -1000000 ≤ a) (h1 : a ≤ 1000000) (h2 : -1000000 ≤ b) (h3 : b ≤ 1000000) : pairP c (Lib.itoa a ++ c :: Lib.itoa b) = some (a, b) := by
  unfold pairP
  rw [cutL_app (itoa_no a hc hd)]
  simp only [numP_itoa h0 h1, numP_itoa h2 h3]
end Go.Proofs.YtekogcjdaolcbaaGreatDoor

/- Plain: the texts of settings and of what is known, and reading them. Conditions: none. -/
namespace Go.Proofs.YtekogcjdaolcbaaGreatDoor
open Go
def ordT (o : Int) : List UInt8 := if o = 1 then [104, 105, 103, 104] else [108, 111, 119]
def setL (s : SetD) : List UInt8 := Lib.join [ordT s.ord, Lib.itoa s.lit, Lib.itoa s.most] [32]
theorem joinTail_no {c s : UInt8} (hs : c ≠ s) : ∀ {t : List (List UInt8)}, (∀ x ∈ t, c ∉ x) → c ∉ Lib.joinTail [s] t
  | [], _ => by simp [Lib.joinTail]
  | y :: t, h => by
    rw [joinTail_cons]
    intro hm
    rcases List.mem_cons.1 hm with hm | hm
    · exact hs hm
    · rcases List.mem_append.1 hm with hm | hm
      · exact h y (List.mem_cons_self ..) hm
      · exact joinTail_no hs (fun z hz => h z (List.mem_cons_of_mem _ hz)) hm
theorem join_no {c s : UInt8} {xs : List (List UInt8)} (h : ∀ x ∈ xs, c ∉ x) (hs : c ≠ s) : c ∉ Lib.join xs [s] := by
  cases xs with
  | nil => simp [Lib.join_nil]
  | cons x t =>
    rw [Lib.join_cons]
    intro hm
    rcases List.mem_append.1 hm with hm | hm
    · exact h x (List.mem_cons_self ..) hm
    · exact joinTail_no hs (fun y hy => h y (List.mem_cons_of_mem _ hy)) hm
theorem join3_len (a b c : List UInt8) (s : UInt8) : (Lib.join [a, b, c] [s]).length = a.length + b.length + c.length + 2 := by
  simp [Lib.join_cons, Lib.joinTail]; omega
theorem join4_len (a b c d : List UInt8) (s : UInt8) : (Lib.join [a, b, c, d] [s]).length = a.length + b.length + c.length + d.length + 3 := by
  simp [Lib.join_cons, Lib.joinTail]; omega
def fmtSet (s : SetD) : List UInt8 := if setOk s then setL s else []
def ordP (l : List UInt8) : Option Int := if l = [108, 111, 119] then some 0 else if l = [104, 105, 103, 104] then some 1 else none
def set3 (a b c : List UInt8) : Option SetD := match ordP a, numP b, numP c with
  | some o, some l, some m => if setOk ⟨o, l, m⟩ then some ⟨o, l, m⟩ else none
  | _, _, _ => none
def prsSet (t : List UInt8) : Option SetD := match splL 32 t with
  | [a, b, c] => set3 a b c
  | _ => none
theorem ordP_text {l : List UInt8} {o : Int} (h : ordP l = some o) : l = ordT o := by
  unfold ordP at h
  split at h
  · rename_i e; simp only [Option.some.injEq] at h; subst h; rw [e]; rfl
  · split at h
    · rename_i e; simp only [Option.some.injEq] at h; subst h; rw [e]; rfl
    · cases h
theorem ordP_fmt {o : Int} (h : o = 0 ∨ o = 1) : ordP (ordT o) = some o := by
  rcases h with rfl | rfl <;> rfl
theorem itoa_no' {c : UInt8} (n : Int) (h : (c == 45 || (decide (48 ≤ c.toNat) && decide (c.toNat ≤ 57))) = false) : c ∉ Lib.itoa n := by
  simp only [Bool.or_eq_false_iff, Bool.and_eq_false_iff, beq_eq_false_iff_ne, decide_eq_false_iff_not] at h
  exact itoa_no n h.1 (by omega)
theorem fmtSet_prs {t : List UInt8} {s : SetD} (h : prsSet t = some s) : fmtSet s = t ∧ setOk s = true := by
  unfold prsSet at h
  split at h
  · rename_i a b c hx
    unfold set3 at h
    split at h
    · rename_i o l m h1 h2 h3
      split at h
      · rename_i hv
        simp only [Option.some.injEq] at h
        subst h
        refine ⟨?_, hv⟩
        unfold fmtSet
        rw [hv, if_pos rfl]
        unfold setL
        rw [← ordP_text h1, ← numP_text h2, ← numP_text h3, ← hx]
        exact join_splL 32 t
      · cases h
    · cases h
  · cases h
theorem setOk_small {s : SetD} (h : setOk s = true) : (s.ord = 0 ∨ s.ord = 1) ∧ 1 ≤ s.lit ∧ s.lit ≤ 8 ∧ 3 ≤ s.most ∧ s.most ≤ 10 := by
  obtain ⟨h1, h2, h3, h4⟩ := setOk_bd h
  exact ⟨h1, h2.1, h2.2, by omega, h4⟩
theorem fmtSet_spl {s : SetD} (h : setOk s = true) : splL 32 (fmtSet s) = [ordT s.ord, Lib.itoa s.lit, Lib.itoa s.most] := by
  unfold fmtSet
  rw [h, if_pos rfl]
  unfold setL
  refine splL_join (by simp) fun x hx => ?_
  simp only [List.mem_cons, List.not_mem_nil, or_false] at hx
  rcases hx with rfl | rfl | rfl
  · unfold ordT; split <;> decide
  · exact itoa_no' _ (by decide)
  · exact itoa_no' _ (by decide)
theorem prsSet_fmt {s : SetD} (h : setOk s = true) : prsSet (fmtSet s) = some s := by
  obtain ⟨h1, h2, h3, h4, h5⟩ := setOk_small h
  unfold prsSet
  rw [fmtSet_spl h]
  simp only [set3, ordP_fmt h1, numP_itoa (n := s.lit) (by omega) (by omega), numP_itoa (n := s.most) (by omega) (by omega)]
  rw [if_pos h]
theorem fmtSet_no {s : SetD} {c : UInt8} (hc : (c == 45 || (decide (48 ≤ c.toNat) && decide (c.toNat ≤ 57))) = false) (h1 : c ∉ ordT 0) (h2 : c ∉ ordT 1) (h3 : c ≠ 32) : c ∉ fmtSet s := by
  unfold fmtSet
  split
  · have ho : c ∉ ordT s.ord := by unfold ordT at *; split <;> assumption
    unfold setL
    refine join_no (fun x hx => ?_) h3
    simp only [List.mem_cons, List.not_mem_nil, or_false] at hx
    rcases hx with rfl | rfl | rfl
    · exact ho
    · exact itoa_no' _ hc
    · exact itoa_no' _ hc
  · simp
theorem fmtSet_le (s : SetD) : (fmtSet s).length ≤ 50 := by
  unfold fmtSet
  split
  · rename_i h
    obtain ⟨h1, h2, h3, h4, h5⟩ := setOk_small h
    have e1 := itoa_le (n := s.lit) (by omega) (by omega)
    have e2 := itoa_le (n := s.most) (by omega) (by omega)
    have e3 : (ordT s.ord).length ≤ 4 := by unfold ordT; split <;> decide
    unfold setL
    rw [join3_len]
    omega
  · simp
def pairT (p : PairD) : List UInt8 := Lib.itoa p.pre ++ 46 :: Lib.itoa p.byt
def prsT (ps : List PairD) : List UInt8 := Lib.join (ps.map pairT) [44]
def knL (k : KnD) : List UInt8 := Lib.join [fmtSet k.set, Lib.itoa k.base, Lib.itoa k.last, someL (prsT k.ps)] [59]
def fmtK (k : KnD) : List UInt8 := if validK k then knL k else []
def prP (l : List UInt8) : Option PairD := (pairP 46 l).map fun p => ⟨p.1, p.2⟩
def prsP (d : List UInt8) : Option (List PairD) := if d = [45] then some [] else allP prP (splL 44 d)
def kn4 (a b c d : List UInt8) : Option KnD := match prsSet a, numP b, numP c with
  | some s, some ba, some la => match prsP d with
    | some ps => if validK ⟨s, ps, ba, la⟩ then some ⟨s, ps, ba, la⟩ else none
    | none => none
  | _, _, _ => none
def prsK (t : List UInt8) : Option KnD := match splL 59 t with
  | [a, b, c, d] => kn4 a b c d
  | _ => none
theorem prP_text {l : List UInt8} {p : PairD} (h : prP l = some p) : l = pairT p := by
  unfold prP at h
  obtain ⟨⟨a, b⟩, h1, rfl⟩ := Option.map_eq_some_iff.1 h
  exact pairP_text h1
theorem prsP_text {d : List UInt8} {ps : List PairD} (h : prsP d = some ps) : d = someL (prsT ps) := by
  unfold prsP at h
  split at h
  · rename_i e
    simp only [Option.some.injEq] at h
    subst h; rw [e]; rfl
  · have ht := allP_text h (fun x y => prP_text)
    have hj : prsT ps = d := by unfold prsT; rw [← ht]; exact join_splL 44 d
    rw [hj]
    unfold someL
    rw [if_neg]
    rintro rfl
    have := allP_iff.1 h
    cases ps with
    | nil => simp [splL] at this
    | cons p r =>
      simp only [splL, List.map_cons, List.map_nil, List.cons.injEq] at this
      exact absurd this.1 (by simp [prP, pairP, cutL])
theorem fmtK_prs {t : List UInt8} {k : KnD} (h : prsK t = some k) : fmtK k = t ∧ validK k = true := by
  unfold prsK at h
  split at h
  · rename_i a b c d hx
    unfold kn4 at h
    split at h
    · rename_i s ba la h1 h2 h3
      split at h
      · rename_i ps h4
        split at h
        · rename_i hv
          simp only [Option.some.injEq] at h
          subst h
          refine ⟨?_, hv⟩
          unfold fmtK
          rw [hv, if_pos rfl]
          unfold knL
          simp only []
          rw [(fmtSet_prs h1).1, ← numP_text h2, ← numP_text h3, ← prsP_text h4, ← hx]
          exact join_splL 59 t
        · cases h
      · cases h
    · cases h
  · cases h
theorem validK_small {k : KnD} (h : validK k = true) : setOk k.set = true ∧ k.ps.length ≤ 1024 ∧ (0 ≤ k.base ∧ k.base ≤ 1024) ∧ (-1 ≤ k.last ∧ k.last ≤ 2000) ∧ ∀ p ∈ k.ps, 0 ≤ p.pre ∧ p.pre ≤ 2000 ∧ 0 ≤ p.byt ∧ p.byt ≤ 255 := by
  obtain ⟨hok, -⟩ := ok_of_valid h
  have h1 := hok.c_bd
  have h2 := hok.len
  have h3 := hok.base0
  have h4 := hok.base1
  have hcb := clr_bd hok.set
  refine ⟨hok.set, by omega, by omega, ?_, fun p hp => ?_⟩
  · rcases hok.last with e | e
    · omega
    · rw [codeOk_iff] at e; omega
  · obtain ⟨i, hi, rfl⟩ := List.getElem_of_mem hp
    obtain ⟨a, b, c⟩ := hok.ps.get hi
    rw [codeOk_iff] at a
    omega
theorem pairT_chr {c : UInt8} (p : PairD) (hc : (c == 45 || (decide (48 ≤ c.toNat) && decide (c.toNat ≤ 57))) = false) (h : c ≠ 46) : c ∉ pairT p := by
  intro hm
  rcases List.mem_append.1 hm with hm | hm
  · exact itoa_no' _ hc hm
  · rcases List.mem_cons.1 hm with hm | hm
    · exact h hm
    · exact itoa_no' _ hc hm
theorem prsT_dot {p : PairD} {r : List PairD} : (46 : UInt8) ∈ prsT (p :: r) := by
  unfold prsT
  rw [List.map_cons, Lib.join_cons]
  exact List.mem_append_left _ (by simp [pairT])
theorem prsT_some {p : PairD} {r : List PairD} : someL (prsT (p :: r)) = prsT (p :: r) ∧ prsT (p :: r) ≠ [45] := by
  have hd := @prsT_dot p r
  refine ⟨?_, fun e => ?_⟩
  · unfold someL
    rw [if_neg]
    intro e
    rw [e] at hd; simp at hd
  · rw [e] at hd
    exact absurd hd (by decide)
theorem prsT_spl {p : PairD} {r : List PairD} : splL 44 (prsT (p :: r)) = (p :: r).map pairT :=
  splL_join (by simp) (fun x hx => by
    obtain ⟨q, -, rfl⟩ := List.mem_map.1 hx
    exact pairT_chr q (by decide) (by decide))
theorem prsP_fmt {ps : List PairD} (h : ∀ p ∈ ps, 0 ≤ p.pre ∧ p.pre ≤ 2000 ∧ 0 ≤ p.byt ∧ p.byt ≤ 255) : prsP (someL (prsT ps)) = some ps := by
  cases ps with
  | nil => rfl
  | cons p r =>
    obtain ⟨e1, e2⟩ := @prsT_some p r
    rw [e1]
    unfold prsP
    rw [if_neg e2, prsT_spl, allP_map (q := fun p => p) (fun q hq => by
      obtain ⟨a, b, c, d⟩ := h q hq
      unfold prP pairT
      rw [pairP_fmt (by decide) (.inl (by decide)) (by omega) (by omega) (by omega) (by omega)]
      rfl)]
    simp
theorem someL_no {c : UInt8} {l : List UInt8} (h : c ∉ l) (hc : c ≠ 45) : c ∉ someL l := by
  unfold someL
  split
  · intro e; exact hc (by simpa using e)
  · exact h
theorem prsT_no {c : UInt8} {ps : List PairD} (hc : (c == 45 || (decide (48 ≤ c.toNat) && decide (c.toNat ≤ 57))) = false) (h : c ≠ 46) (h2 : c ≠ 44) : c ∉ prsT ps :=
  join_no (fun x hx => by
    obtain ⟨q, -, rfl⟩ := List.mem_map.1 hx
    exact pairT_chr q hc h) h2
theorem knL_spl (k : KnD) : splL 59 (knL k) = [fmtSet k.set, Lib.itoa k.base, Lib.itoa k.last, someL (prsT k.ps)] := by
  unfold knL
  refine splL_join (by simp) fun x hx => ?_
  simp only [List.mem_cons, List.not_mem_nil, or_false] at hx
  rcases hx with rfl | rfl | rfl | rfl
  · exact fmtSet_no (by decide) (by decide) (by decide) (by decide)
  · exact itoa_no' _ (by decide)
  · exact itoa_no' _ (by decide)
  · exact someL_no (prsT_no (by decide) (by decide) (by decide)) (by decide)
theorem fmtK_spl {k : KnD} (h : validK k = true) : splL 59 (fmtK k) = [fmtSet k.set, Lib.itoa k.base, Lib.itoa k.last, someL (prsT k.ps)] := by
  unfold fmtK
  rw [h, if_pos rfl]
  exact knL_spl k
theorem prsK_fmt {k : KnD} (h : validK k = true) : prsK (fmtK k) = some k := by
  obtain ⟨h1, h2, h3, h4, h5⟩ := validK_small h
  unfold prsK
  rw [fmtK_spl h]
  simp only [kn4, prsSet_fmt h1, numP_itoa (n := k.base) (by omega) (by omega), numP_itoa (n := k.last) (by omega) (by omega), prsP_fmt h5]
  rw [if_pos h]
def prR (l : List UInt8) : PairD := match cutL 46 l with
  | none => ⟨-1, 0⟩
  | some (x, y) => match numR x, numR y with
    | some a, some b => ⟨a, b⟩
    | _, _ => ⟨-1, 0⟩
def lenP (d : List UInt8) : List PairD := if d = [45] then [] else (splL 44 d).map prR
def lenK (t : List UInt8) : Option KnD := match splL 59 t with
  | [a, b, c, d] => some ⟨(prsSet a).getD ⟨0, 0, 0⟩, lenP d, (numR b).getD 0, (numR c).getD 0⟩
  | _ => none
theorem lenP_fmt {ps : List PairD} (h : ∀ p ∈ ps, 0 ≤ p.pre ∧ p.pre ≤ 2000 ∧ 0 ≤ p.byt ∧ p.byt ≤ 255) : lenP (someL (prsT ps)) = ps := by
  cases ps with
  | nil => rfl
  | cons p r =>
    obtain ⟨e1, e2⟩ := @prsT_some p r
    rw [e1]
    unfold lenP
    rw [if_neg e2, prsT_spl, List.map_map]
    conv => rhs; rw [← List.map_id (p :: r)]
    refine List.map_congr_left fun q hq => ?_
    obtain ⟨a, b, c, d⟩ := h q hq
    simp only [Function.comp, prR, pairT, cutL_app (itoa_no' q.pre (c := 46) (by decide)), numR_itoa (n := q.pre) (by omega) (by omega), numR_itoa (n := q.byt) (by omega) (by omega)]
    rfl
theorem lenK_fmt {k : KnD} (h : validK k = true) : lenK (fmtK k) = some k := by
  obtain ⟨h1, h2, h3, h4, h5⟩ := validK_small h
  unfold lenK
  rw [fmtK_spl h]
  simp only [prsSet_fmt h1, numR_itoa (n := k.base) (by omega) (by omega), numR_itoa (n := k.last) (by omega) (by omega), lenP_fmt h5, Option.getD_some]
theorem prsK_len (t : List UInt8) : prsK t = match lenK t with
    | some k => if fmtK k = t then some k else none
    | none => none := by
  cases hp : prsK t with
  | some k =>
    obtain ⟨h1, h2⟩ := fmtK_prs hp
    subst h1
    rw [lenK_fmt h2]
    simp
  | none =>
    cases hl : lenK t with
    | none => rfl
    | some k =>
      simp only []
      split
      · rename_i he
        subst he
        cases hv : validK k with
        | true => rw [prsK_fmt hv] at hp; cases hp
        | false =>
          have : fmtK k = [] := by unfold fmtK; rw [hv]; rfl
          rw [this] at hl
          cases hl
      · rfl
end Go.Proofs.YtekogcjdaolcbaaGreatDoor

/- FormatSetting and FormatKnown of the reference. Conditions: the pairs can be read, at most 2^30. -/
namespace Go.Proofs.YtekogcjdaolcbaaGreatDoor
open Go Go.RowKit
theorem setL_bs (s : SetD) : ((bs (ordT s.ord) ++ (⟨#[32]⟩ : ByteArray)) ++ bs (Lib.itoa s.lit) ++ (⟨#[32]⟩ : ByteArray)) ++ bs (Lib.itoa s.most) = bs (setL s) := by
  rw [show (⟨#[32]⟩ : ByteArray) = bs [32] from rfl]
  simp [bs_app, setL, Lib.join_cons, Lib.joinTail]
set_option maxRecDepth 100000 in
set_option maxHeartbeats 1000000 in
theorem fsetS_any (s : SetD) (w : World) : Calls Tryz.prog 119  #[setV s] w (Same (.string (bs (fmtSet s))) w) := by
  have cS := fun w => setS_any s.ord s.lit s.most w
  rw [setD_eta] at cS
  cases h : setOk s
  · have e : Hid (fmtSet s = []) := by unfold Hid fmtSet; rw [h]; rfl
    rw [h] at cS
    rw [e.out]
    clear h
    simp only [setV] at *
    go_enter Tryz.func119, Tryz.ntmps119
    go_wp2_with ((go_at_call 103; (with_reducible refine (cS _).mono ?_); rintro e w1 ⟨rfl, U1⟩; have B1 := bcell U1; have Z1 := U1.size; (try simp at Z1); (try rw [Nat.add_one_le_iff] at Z1)))
    go_ret
    exact ⟨rfl, by (repeat (first | with_reducible exact Up.refl _ | with_reducible assumption | with_reducible refine Up.set ?_ (by first | exact Nat.le_refl _ | (simp only []; omega) | (simp; omega)) _ | with_reducible refine Up.alloc ?_ _ | with_reducible refine Up.drew ?_ | refine Up.trans ?_ (by with_reducible assumption)))⟩
  · obtain ⟨h1, h2, h3, h4, h5⟩ := setOk_small h
    have e : Hid (fmtSet s = setL s) := by unfold Hid fmtSet; rw [h]; rfl
    rw [h] at cS
    rw [e.out]
    have HX := Lib.hid (setL_bs s)
    have cA := fun wx => dec_any s.lit wx (by omega) (by omega)
    have cB := fun wx => dec_any s.most wx (by omega) (by omega)
    have lA := itoa_le (n := s.lit) (by omega) (by omega)
    have lB := itoa_le (n := s.most) (by omega) (by omega)
    have zA := bs_size (Lib.itoa s.lit)
    have zB := bs_size (Lib.itoa s.most)
    clear h e
    generalize Lib.itoa s.lit = A at *
    generalize Lib.itoa s.most = B at *
    simp only [setV] at *
    rcases h1 with ho | ho
    all_goals
      first
        | have HO : Hid (bs (ordT s.ord) ++ (⟨#[32]⟩ : ByteArray) = (⟨#[108, 111, 119, 32]⟩ : ByteArray)) := by unfold Hid; rw [ho]; rfl
        | have HO : Hid (bs (ordT s.ord) ++ (⟨#[32]⟩ : ByteArray) = (⟨#[104, 105, 103, 104, 32]⟩ : ByteArray)) := by unfold Hid; rw [ho]; rfl
      rw [ho] at cS
      rw [ho]
      go_enter Tryz.func119, Tryz.ntmps119
      go_wp2_with ((go_at_call 103; (with_reducible refine (cS _).mono ?_); rintro e w1 ⟨rfl, U1⟩; have B1 := bcell U1; have Z1 := U1.size; (try simp at Z1); (try rw [Nat.add_one_le_iff] at Z1)))
      refine wp_region_up 10 (by kernel_rfl) (by kernel_rfl) ?_
      simp only [List.take, List.drop]
      repeat (refine wpUp_step (fun K hK => ?_); go_simp; (try simp only [↓IntWalk.iteOmega]); first
        | (refine hK _ _ ?_; clear hK K)
        | (apply stepU_c
           · intro wq hwq; (have hbq := bcell hwq; (repeat (first | refine fills_no (by rfl) ?_ | refine fills_yes (by rfl) (fun vq hvq => ?_))); simp only [List.filter_nil, fills]; unfold upAt; go_simp; (try go_bits); (try simp only [↓IntWalk.iteOmega]); (try (rw [dif_pos (by omega)]; go_simp; try go_bits)); first | exact upOut_value | (apply upOut_call; (go_at_call 118; first | with_reducible exact cA _ | with_reducible exact cB _)) | (apply upOut_eq; (go_at_call 118; first | with_reducible exact cA _ | with_reducible exact cB _)))
           go_simp; refine hK _ _ ?_; clear hK K))
      refine wpUp_nil (fun wq hwq => ?_)
      simp only [fills]
      go_wp2
      go_ret
      exact ⟨by rw [← HX.out, HO.out]; rfl, by (repeat (first | with_reducible exact Up.refl _ | with_reducible assumption | with_reducible refine Up.set ?_ (by first | exact Nat.le_refl _ | (simp only []; omega) | (simp; omega)) _ | with_reducible refine Up.alloc ?_ _ | with_reducible refine Up.drew ?_ | refine Up.trans ?_ (by with_reducible assumption)))⟩
theorem prsT_one {ps : List PairD} (h : 0 < ps.length) : prsT (ps.take (0 + 1)) = pairT ps[0] := by
  rw [List.take_succ_eq_append_getElem h]
  simp [prsT, Lib.join_one]
theorem prsT_succ {ps : List PairD} {k : Nat} (h0 : 0 < k) (h : k < ps.length) : prsT (ps.take (k + 1)) = prsT (ps.take k) ++ [44] ++ pairT ps[k] := by
  rw [List.take_succ_eq_append_getElem h]
  unfold prsT
  rw [List.map_append, List.map_singleton, join_snoc _ _ _ (by intro e; have := congrArg List.length e; simp only [List.length_map, List.length_take, List.length_nil] at this; omega)]
theorem pairT_le {p : PairD} (h : 0 ≤ p.pre ∧ p.pre ≤ 2000 ∧ 0 ≤ p.byt ∧ p.byt ≤ 255) : (pairT p).length ≤ 43 := by
  have h1 := itoa_le (n := p.pre) (by omega) (by omega)
  have h2 := itoa_le (n := p.byt) (by omega) (by omega)
  simp only [pairT, List.length_append, List.length_cons]
  omega
theorem prsT_le {ps : List PairD} (hl : ps.length ≤ 1024) (h : ∀ p ∈ ps, 0 ≤ p.pre ∧ p.pre ≤ 2000 ∧ 0 ≤ p.byt ∧ p.byt ≤ 255) (k : Nat) : (prsT (ps.take k)).length ≤ 45056 := by
  have h1 := join_le 43 ((ps.take k).map pairT) 44 (fun x hx => by
    obtain ⟨p, hp, rfl⟩ := List.mem_map.1 hx
    exact pairT_le (h p (List.mem_of_mem_take hp)))
  have h3 : ((ps.take k).map pairT).length ≤ 1024 := by rw [List.length_map, List.length_take]; omega
  unfold prsT
  have := Nat.mul_le_mul_left 44 h3
  omega
theorem someL_le {l : List UInt8} {n : Nat} (h : l.length ≤ n) (hn : 1 ≤ n) : (someL l).length ≤ n := by
  unfold someL; split
  · exact hn
  · exact h
theorem fmtK_le (k : KnD) : (fmtK k).length ≤ 46000 := by
  unfold fmtK
  split
  · rename_i hv
    obtain ⟨h1, h2, h3, h4, h5⟩ := validK_small hv
    have e1 := fmtSet_le k.set
    have e2 := itoa_le (n := k.base) (by omega) (by omega)
    have e3 := itoa_le (n := k.last) (by omega) (by omega)
    have e4 := prsT_le h2 h5 k.ps.length
    rw [List.take_length] at e4
    have e5 := someL_le e4 (by omega)
    unfold knL
    rw [join4_len]
    omega
  · simp
theorem knL_bs (k : KnD) : ((bs (fmtSet k.set) ++ (⟨#[59]⟩ : ByteArray)) ++ bs (Lib.itoa k.base) ++ (⟨#[59]⟩ : ByteArray) ++ bs (Lib.itoa k.last) ++ (⟨#[59]⟩ : ByteArray)) ++ bs (someL (prsT k.ps)) = bs (knL k) := by
  rw [show (⟨#[59]⟩ : ByteArray) = bs [59] from rfl]
  simp [bs_app, knL, Lib.join_cons, Lib.joinTail]
def RelFk (k : KnD) (v : Value) (w : World) (b : Nat) (out i : Value) (wr : World) : Prop := ∃ j : Nat, j ≤ k.ps.length ∧ i = .int .i64 j ∧ out = .string (bs (prsT (k.ps.take j))) ∧ Up w wr ∧ KnAt b k v wr
set_option maxRecDepth 100000 in
set_option maxHeartbeats 8000000 in
theorem fkS_any (k : KnD) (v : Value) (lo : Nat) (w : World) (hr : RdP lo w v k.ps) (hps : k.ps.length ≤ 1073741824) :
    Calls Tryz.prog 60  #[kV k v] w (Same (.string (bs (fmtK k))) w) := by
  have cV := fun wx h => kvS_gen k v lo wx h hps
  have hrt := fun (wq : World) (hu : Up w wq) => hr.up hu
  obtain ⟨a, cap, rfl, hc1, hc2, hc3, hsome⟩ := hr
  unfold maxLen at hc2
  cases hv : validK k
  · have e : Hid (fmtK k = []) := by unfold Hid fmtK; rw [hv]; rfl
    rw [hv] at cV
    rw [e.out]
    clear hv hsome hc3
    simp only [kV] at *
    go_enter Tryz.func60, Tryz.ntmps60
    go_wp2_with ((go_at_call 100; (with_reducible refine (cV _ (hrt _ (by (repeat (first | with_reducible exact Up.refl _ | with_reducible assumption | with_reducible refine Up.set ?_ (by first | exact Nat.le_refl _ | (simp only []; omega) | (simp; omega)) _ | with_reducible refine Up.alloc ?_ _ | with_reducible refine Up.drew ?_ | refine Up.trans ?_ (by with_reducible assumption)))))).mono ?_); rintro e w1 ⟨rfl, U1⟩; have B1 := bcell U1; have Z1 := U1.size; (try simp at Z1); (try rw [Nat.add_one_le_iff] at Z1)))
    go_ret
    exact ⟨rfl, by (repeat (first | with_reducible exact Up.refl _ | with_reducible assumption | with_reducible refine Up.set ?_ (by first | exact Nat.le_refl _ | (simp only []; omega) | (simp; omega)) _ | with_reducible refine Up.alloc ?_ _ | with_reducible refine Up.drew ?_ | refine Up.trans ?_ (by with_reducible assumption)))⟩
  · obtain ⟨h1, h2, h3, h4, h5⟩ := validK_small hv
    have e : Hid (fmtK k = knL k) := by unfold Hid fmtK; rw [hv]; rfl
    have hr := Lib.hid h5
    have hle := Lib.hid (prsT_le h2 h5)
    have cF := fun wx => fsetS_any k.set wx
    have zF := fmtSet_le k.set
    rw [hv] at cV
    rw [e.out]
    have HX := Lib.hid (knL_bs k)
    clear hv h5
    simp only [kV, setV] at *
    go_enter Tryz.func60, Tryz.ntmps60
    go_wp2_with ((go_at_call 100; (with_reducible refine (cV _ (hrt _ (by (repeat (first | with_reducible exact Up.refl _ | with_reducible assumption | with_reducible refine Up.set ?_ (by first | exact Nat.le_refl _ | (simp only []; omega) | (simp; omega)) _ | with_reducible refine Up.alloc ?_ _ | with_reducible refine Up.drew ?_ | refine Up.trans ?_ (by with_reducible assumption)))))).mono ?_); rintro e w1 ⟨rfl, U1⟩; have B1 := bcell U1; have Z1 := U1.size; (try simp at Z1); (try rw [Nat.add_one_le_iff] at Z1)))
    have hU1 : Up w w1 := by (repeat (first | with_reducible exact Up.refl _ | with_reducible assumption | with_reducible refine Up.set ?_ (by first | exact Nat.le_refl _ | (simp only []; omega) | (simp; omega)) _ | with_reducible refine Up.alloc ?_ _ | with_reducible refine Up.drew ?_ | refine Up.trans ?_ (by with_reducible assumption)))
    have hKA : KnAt w.heap.size k (.slice a k.ps.length cap) w1 := box_up U1 (MapKept.heap_alloc w _).1
    clear cV B1 Z1 U1
    go_loopw [3, 4] (fun out i wr => RelFk k (.slice a k.ps.length cap) w w.heap.size out i wr) (fun _ i _ => k.ps.length - (intOf i).toNat)
    case atStart => exact ⟨0, Nat.zero_le _, rfl, rfl, hU1, hKA⟩
    case round =>
      clear hU1 hKA
      obtain ⟨j, hj, rfl, rfl, hup, hkn⟩ := hrel
      have hJ := hle.out j
      have zJ := bs_size (prsT (k.ps.take j))
      obtain ⟨b0, r0, r1, r2, r3, r4, r5⟩ := hkn.cells
      have HKN := Lib.hid hkn
      clear hkn
      by_cases hlt : j < k.ps.length
      · obtain ⟨b, off, rfl, hlo, hbl, hcells⟩ := hsome (by omega)
        obtain ⟨q0, q1⟩ := hcells j k.ps[j] (List.getElem?_eq_getElem hlt)
        have p0 := (hup.cell (p := ⟨b, off + j * 2, none⟩) hbl).trans q0
        have p1 := (hup.cell (p := ⟨b, off + j * 2 + 1, none⟩) hbl).trans q1
        have hbw := Nat.lt_of_lt_of_le hbl hup.size
        obtain ⟨n1, n2, n3, n4⟩ := hr.out k.ps[j] (List.getElem_mem _)
        have cA := fun wx => dec_any k.ps[j].pre wx (by omega) (by omega)
        have cB := fun wx => dec_any k.ps[j].byt wx (by omega) (by omega)
        have lA := itoa_le (n := k.ps[j].pre) (by omega) (by omega)
        have lB := itoa_le (n := k.ps[j].byt) (by omega) (by omega)
        have zA := bs_size (Lib.itoa k.ps[j].pre)
        have zB := bs_size (Lib.itoa k.ps[j].byt)
        clear hcells q0 q1
        by_cases h0 : 0 < j
        · have HY : Hid (((bs (prsT (k.ps.take j)) ++ (⟨#[44]⟩ : ByteArray)) ++ bs (Lib.itoa k.ps[j].pre) ++ (⟨#[46]⟩ : ByteArray)) ++ bs (Lib.itoa k.ps[j].byt) = bs (prsT (k.ps.take (j + 1)))) := by
            unfold Hid
            rw [prsT_succ h0 hlt, show (⟨#[44]⟩ : ByteArray) = bs [44] from rfl, show (⟨#[46]⟩ : ByteArray) = bs [46] from rfl]
            simp [bs_app, pairT]
          generalize prsT (k.ps.take j) = J at *
          generalize Lib.itoa k.ps[j].pre = A at *
          generalize Lib.itoa k.ps[j].byt = B at *
          generalize k.ps[j].pre = x at *
          generalize k.ps[j].byt = y at *
          clear hr hle cF HX
          go_wp2
          refine wp_region_up 18 (by kernel_rfl) (by kernel_rfl) ?_
          simp only [List.take, List.drop]
          repeat (refine wpUp_step (fun K hK => ?_); go_simp; (try simp only [↓IntWalk.iteOmega]); first
            | (refine hK _ _ ?_; clear hK K)
            | (apply stepU_c
               · intro wq hwq; (have hbq := bcell hwq; (repeat (first | refine fills_no (by rfl) ?_ | refine fills_yes (by rfl) (fun vq hvq => ?_))); simp only [List.filter_nil, fills]; unfold upAt; go_simp; (try go_bits); (try simp only [↓IntWalk.iteOmega]); (try (rw [dif_pos (by omega)]; go_simp; try go_bits)); first | exact upOut_value | (apply upOut_call; (go_at_call 118; first | with_reducible exact cA _ | with_reducible exact cB _)) | (apply upOut_eq; (go_at_call 118; first | with_reducible exact cA _ | with_reducible exact cB _)))
               go_simp; refine hK _ _ ?_; clear hK K))
          refine wpUp_nil (fun wq hwq => ?_)
          simp only [fills]
          go_wp2
          go_roundw
          case rel => exact ⟨j + 1, by omega, by go_num, by rw [← HY.out], by (repeat (first | with_reducible exact Up.refl _ | with_reducible assumption | with_reducible refine Up.set ?_ (by first | exact Nat.le_refl _ | (simp only []; omega) | (simp; omega)) _ | with_reducible refine Up.alloc ?_ _ | with_reducible refine Up.drew ?_ | refine Up.trans ?_ (by with_reducible assumption))), box_up hwq HKN.out⟩
          case measure => simp [intOf]; omega
        · have hj0 : j = 0 := by omega
          subst hj0
          simp only [Nat.zero_mul, Nat.add_zero] at p0 p1
          have HY : Hid ((bs (prsT (k.ps.take 0)) ++ bs (Lib.itoa k.ps[0].pre) ++ (⟨#[46]⟩ : ByteArray)) ++ bs (Lib.itoa k.ps[0].byt) = bs (prsT (k.ps.take (0 + 1)))) := by
            unfold Hid
            rw [prsT_one hlt, show (⟨#[46]⟩ : ByteArray) = bs [46] from rfl]
            simp [bs_app, pairT, prsT, Lib.join_nil]
          generalize prsT (k.ps.take 0) = J at *
          generalize Lib.itoa k.ps[0].pre = A at *
          generalize Lib.itoa k.ps[0].byt = B at *
          generalize k.ps[0].pre = x at *
          generalize k.ps[0].byt = y at *
          clear hr hle cF HX
          go_wp2
          refine wp_region_up 18 (by kernel_rfl) (by kernel_rfl) ?_
          simp only [List.take, List.drop]
          repeat (refine wpUp_step (fun K hK => ?_); go_simp; (try simp only [↓IntWalk.iteOmega]); first
            | (refine hK _ _ ?_; clear hK K)
            | (apply stepU_c
               · intro wq hwq; (have hbq := bcell hwq; (repeat (first | refine fills_no (by rfl) ?_ | refine fills_yes (by rfl) (fun vq hvq => ?_))); simp only [List.filter_nil, fills]; unfold upAt; go_simp; (try go_bits); (try simp only [↓IntWalk.iteOmega]); (try (rw [dif_pos (by omega)]; go_simp; try go_bits)); first | exact upOut_value | (apply upOut_call; (go_at_call 118; first | with_reducible exact cA _ | with_reducible exact cB _)) | (apply upOut_eq; (go_at_call 118; first | with_reducible exact cA _ | with_reducible exact cB _)))
               go_simp; refine hK _ _ ?_; clear hK K))
          refine wpUp_nil (fun wq hwq => ?_)
          simp only [fills]
          go_wp2
          go_roundw
          case rel => exact ⟨0 + 1, by omega, by go_num, by rw [← HY.out], by (repeat (first | with_reducible exact Up.refl _ | with_reducible assumption | with_reducible refine Up.set ?_ (by first | exact Nat.le_refl _ | (simp only []; omega) | (simp; omega)) _ | with_reducible refine Up.alloc ?_ _ | with_reducible refine Up.drew ?_ | refine Up.trans ?_ (by with_reducible assumption))), box_up hwq HKN.out⟩
          case measure => simp [intOf]; omega
      · have hjl : j = k.ps.length := by omega
        have HP : Hid (prsT (k.ps.take j) = prsT k.ps) := by unfold Hid; rw [hjl, List.take_length]
        rw [HP.out] at hJ zJ ⊢
        have cS := fun wx => l3Some_any (prsT k.ps) wx
        have lS := someL_le hJ (by omega)
        have zS := bs_size (someL (prsT k.ps))
        have cA := fun wx => dec_any k.base wx (by omega) (by omega)
        have cB := fun wx => dec_any k.last wx (by omega) (by omega)
        have lA := itoa_le (n := k.base) (by omega) (by omega)
        have lB := itoa_le (n := k.last) (by omega) (by omega)
        have zA := bs_size (Lib.itoa k.base)
        have zB := bs_size (Lib.itoa k.last)
        have zG := bs_size (fmtSet k.set)
        clear hr hle HP hsome hc3
        generalize Lib.itoa k.base = A at *
        generalize Lib.itoa k.last = B at *
        generalize someL (prsT k.ps) = S at *
        generalize prsT k.ps = J at *
        generalize fmtSet k.set = F at *
        go_wp2
        refine wp_region_up 17 (by kernel_rfl) (by kernel_rfl) ?_
        simp only [List.take, List.drop]
        repeat (refine wpUp_step (fun K hK => ?_); go_simp; (try simp only [↓IntWalk.iteOmega]); first
          | (refine hK _ _ ?_; clear hK K)
          | (apply stepU_c
             · intro wq hwq; (have hbq := bcell hwq; (repeat (first | refine fills_no (by rfl) ?_ | refine fills_yes (by rfl) (fun vq hvq => ?_))); simp only [List.filter_nil, fills]; unfold upAt; go_simp; (try go_bits); (try simp only [↓IntWalk.iteOmega]); (try (rw [dif_pos (by omega)]; go_simp; try go_bits)); first | exact upOut_value | (apply upOut_call; (go_at_call 118; first | with_reducible exact cA _ | with_reducible exact cB _)) | (apply upOut_eq; (go_at_call 118; first | with_reducible exact cA _ | with_reducible exact cB _)) | (apply upOut_call; (go_at_call 119; with_reducible exact cF _)) | (apply upOut_eq; (go_at_call 119; with_reducible exact cF _)) | (apply upOut_call; (go_at_call 61; with_reducible exact cS _)) | (apply upOut_eq; (go_at_call 61; with_reducible exact cS _)))
             go_simp; refine hK _ _ ?_; clear hK K))
        refine wpUp_nil (fun wq hwq => ?_)
        simp only [fills]
        go_wp2
        go_ret
        exact ⟨by rw [← HX.out]; rfl, by (repeat (first | with_reducible exact Up.refl _ | with_reducible assumption | with_reducible refine Up.set ?_ (by first | exact Nat.le_refl _ | (simp only []; omega) | (simp; omega)) _ | with_reducible refine Up.alloc ?_ _ | with_reducible refine Up.drew ?_ | refine Up.trans ?_ (by with_reducible assumption)))⟩
end Go.Proofs.YtekogcjdaolcbaaGreatDoor

/- FormatSetting and FormatKnown of the program. Conditions: the pairs can be read, at most 2^30; the table of powers of ten lies where it was laid. -/
namespace Go.Proofs.YtekogcjdaolcbaaGreatDoor
open Go Go.RowKit
def MkS (base : Nat) (xs : List (List UInt8)) (v : Value) (w : World) : Prop := w.ownsRow base 9 1 v xs.length (cellsS (xs.map bs))
theorem mkS_closed (base : Nat) (xs : List (List UInt8)) (v : Value) : UpClosed (MkS base xs v) := fun w w' h hu => ownsRow_up h hu
theorem mkS_new {base : Nat} {w w' : World} (hu : Up w w') (hb : base ≤ w.heap.size) (a b c d : List UInt8) : MkS base [a, b, c, d] (.slice (some ⟨w'.heap.size, 0, none⟩) 4 4) (w'.alloc (.cells #[.string (bs a), .string (bs b), .string (bs c), .string (bs d)] 9)) :=
  ⟨by simp [cellsS], .inr ⟨w'.heap.size, _, _, rfl, Nat.le_trans hb hu.size, (MapKept.heap_alloc w' _).1, Nat.le_refl _, by unfold maxLen; omega, by simp, by simp [cellsS]⟩⟩
theorem joinM_any {base : Nat} {xs : List (List UInt8)} {v : Value} {w : World} (sep : UInt8) (h : MkS base xs v w) (h0 : xs ≠ []) (hn : xs.length ≤ 1048576) (hlen : (Lib.join xs [sep]).length ≤ 140737488355328) :
    Calls Tryz.prog 53 #[v, .string ⟨#[sep]⟩] w (Same (.string (bs (Lib.join xs [sep]))) w) := by
  unfold MkS at h
  rcases ownsRow_read h with ⟨rfl, h2⟩ | ⟨g, cap, rfl, -⟩
  · exact absurd (List.length_eq_zero_iff.1 h2) h0
  · exact joinS_any g xs.length cap xs sep w base rfl hn h hlen
set_option maxRecDepth 100000 in
set_option maxHeartbeats 1000000 in
theorem fsetI_any (s : SetD) (w : World) (hT : Tab w) (hl : -9223372036854775808 ≤ s.lit ∧ s.lit ≤ 9223372036854775807) : Calls Tryz.prog 117  #[setV s] w (Same (.string (bs (fmtSet s))) w) := by
  have cS := fun w => setI_any s.ord s.lit s.most w hl
  rw [setD_eta] at cS
  cases h : setOk s
  · have e : Hid (fmtSet s = []) := by unfold Hid fmtSet; rw [h]; rfl
    rw [h] at cS
    rw [e.out]
    clear h
    simp only [setV] at *
    go_enter Tryz.func117, Tryz.ntmps117
    go_wp2_with ((go_at_call 89; (with_reducible refine (cS _).mono ?_); rintro e w1 ⟨rfl, U1⟩; have B1 := bcell U1; have Z1 := U1.size; (try simp at Z1); (try rw [Nat.add_one_le_iff] at Z1)))
    go_ret
    exact ⟨rfl, by (repeat (first | with_reducible exact Up.refl _ | with_reducible assumption | with_reducible refine Up.set ?_ (by first | exact Nat.le_refl _ | (simp only []; omega) | (simp; omega)) _ | with_reducible refine Up.alloc ?_ _ | with_reducible refine Up.drew ?_ | refine Up.trans ?_ (by with_reducible assumption)))⟩
  · obtain ⟨h1, h2, h3, h4, h5⟩ := setOk_small h
    have e : Hid (fmtSet s = setL s) := by unfold Hid fmtSet; rw [h]; rfl
    rw [h] at cS
    rw [e.out]
    have HX := Lib.hid (setL_bs s)
    have cA := fun wx (hx : Up w wx) => itoa_any s.lit wx (hT.up hx) (by omega) (by omega)
    have cB := fun wx (hx : Up w wx) => itoa_any s.most wx (hT.up hx) (by omega) (by omega)
    have lA := itoa_le (n := s.lit) (by omega) (by omega)
    have lB := itoa_le (n := s.most) (by omega) (by omega)
    have zA := bs_size (Lib.itoa s.lit)
    have zB := bs_size (Lib.itoa s.most)
    clear h e hT
    generalize Lib.itoa s.lit = A at *
    generalize Lib.itoa s.most = B at *
    simp only [setV] at *
    rcases h1 with ho | ho
    all_goals
      first
        | have HO : Hid (bs (ordT s.ord) = (⟨#[108, 111, 119]⟩ : ByteArray)) := by unfold Hid; rw [ho]; rfl
        | have HO : Hid (bs (ordT s.ord) = (⟨#[104, 105, 103, 104]⟩ : ByteArray)) := by unfold Hid; rw [ho]; rfl
      rw [ho] at cS
      rw [ho]
      go_enter Tryz.func117, Tryz.ntmps117
      go_wp2_with ((go_at_call 89; (with_reducible refine (cS _).mono ?_); rintro e w1 ⟨rfl, U1⟩; have B1 := bcell U1; have Z1 := U1.size; (try simp at Z1); (try rw [Nat.add_one_le_iff] at Z1)))
      refine wp_region_up 11 (by kernel_rfl) (by kernel_rfl) ?_
      simp only [List.take, List.drop]
      repeat (refine wpUp_step (fun K hK => ?_); go_simp; (try simp only [↓IntWalk.iteOmega]); first
        | (refine hK _ _ ?_; clear hK K)
        | (apply stepU_c
           · intro wq hwq; (have hbq := bcell hwq; (repeat (first | refine fills_no (by rfl) ?_ | refine fills_yes (by rfl) (fun vq hvq => ?_))); simp only [List.filter_nil, fills]; unfold upAt; go_simp; (try go_bits); (try simp only [↓IntWalk.iteOmega]); (try (rw [dif_pos (by omega)]; go_simp; try go_bits)); first | exact upOut_value | (apply upOut_call; (go_at_call 80; first | with_reducible exact cA _ (by (repeat (first | with_reducible exact Up.refl _ | with_reducible assumption | with_reducible refine Up.set ?_ (by first | exact Nat.le_refl _ | (simp only []; omega) | (simp; omega)) _ | with_reducible refine Up.alloc ?_ _ | with_reducible refine Up.drew ?_ | refine Up.trans ?_ (by with_reducible assumption)))) | with_reducible exact cB _ (by (repeat (first | with_reducible exact Up.refl _ | with_reducible assumption | with_reducible refine Up.set ?_ (by first | exact Nat.le_refl _ | (simp only []; omega) | (simp; omega)) _ | with_reducible refine Up.alloc ?_ _ | with_reducible refine Up.drew ?_ | refine Up.trans ?_ (by with_reducible assumption)))))) | (apply upOut_eq; (go_at_call 80; first | with_reducible exact cA _ (by (repeat (first | with_reducible exact Up.refl _ | with_reducible assumption | with_reducible refine Up.set ?_ (by first | exact Nat.le_refl _ | (simp only []; omega) | (simp; omega)) _ | with_reducible refine Up.alloc ?_ _ | with_reducible refine Up.drew ?_ | refine Up.trans ?_ (by with_reducible assumption)))) | with_reducible exact cB _ (by (repeat (first | with_reducible exact Up.refl _ | with_reducible assumption | with_reducible refine Up.set ?_ (by first | exact Nat.le_refl _ | (simp only []; omega) | (simp; omega)) _ | with_reducible refine Up.alloc ?_ _ | with_reducible refine Up.drew ?_ | refine Up.trans ?_ (by with_reducible assumption)))))))
           go_simp; refine hK _ _ ?_; clear hK K))
      refine wpUp_nil (fun wq hwq => ?_)
      simp only [fills]
      go_wp2
      go_ret
      exact ⟨by rw [← HX.out, HO.out]; rfl, by (repeat (first | with_reducible exact Up.refl _ | with_reducible assumption | with_reducible refine Up.set ?_ (by first | exact Nat.le_refl _ | (simp only []; omega) | (simp; omega)) _ | with_reducible refine Up.alloc ?_ _ | with_reducible refine Up.drew ?_ | refine Up.trans ?_ (by with_reducible assumption)))⟩
theorem knL_le {k : KnD} (hv : validK k = true) : (knL k).length ≤ 46000 := by
  have := fmtK_le k
  unfold fmtK at this
  rw [hv, if_pos rfl] at this
  exact this
def RelFki (k : KnD) (v : Value) (w W : World) (i : Value) (wr : World) : Prop := ∃ j : Nat, j ≤ k.ps.length ∧ i = .int .i64 j ∧ Up w wr ∧ KnAt w.heap.size k v wr ∧ w.heap.size < W.heap.size ∧ wr.ownsRow W.heap.size 9 1 (.slice (some ⟨W.heap.size, 0, none⟩) k.ps.length k.ps.length) k.ps.length (cellsS (midS ((k.ps.map pairT).map bs) j))
set_option maxRecDepth 100000 in
set_option maxHeartbeats 8000000 in
theorem fkI_any (k : KnD) (v : Value) (lo : Nat) (w : World) (hT : Tab w) (hl : -9223372036854775808 ≤ k.set.lit ∧ k.set.lit ≤ 9223372036854775807) (hr : RdP lo w v k.ps) (hps : k.ps.length ≤ 1073741824) :
    Calls Tryz.prog 54  #[kV k v] w (Same (.string (bs (fmtK k))) w) := by
  have cV := fun wx h => kvI_gen k v lo wx hl h hps
  have hrt := fun (wq : World) (hu : Up w wq) => hr.up hu
  obtain ⟨a, cap, rfl, hc1, hc2, hc3, hsome⟩ := hr
  unfold maxLen at hc2
  cases hv : validK k
  · have e : Hid (fmtK k = []) := by unfold Hid fmtK; rw [hv]; rfl
    rw [hv] at cV
    rw [e.out]
    clear hv hsome hc3 hT
    simp only [kV] at *
    go_enter Tryz.func54, Tryz.ntmps54
    go_wp2_with ((go_at_call 64; (with_reducible refine (cV _ (hrt _ (by (repeat (first | with_reducible exact Up.refl _ | with_reducible assumption | with_reducible refine Up.set ?_ (by first | exact Nat.le_refl _ | (simp only []; omega) | (simp; omega)) _ | with_reducible refine Up.alloc ?_ _ | with_reducible refine Up.drew ?_ | refine Up.trans ?_ (by with_reducible assumption)))))).mono ?_); rintro e w1 ⟨rfl, U1⟩; have B1 := bcell U1; have Z1 := U1.size; (try simp at Z1); (try rw [Nat.add_one_le_iff] at Z1)))
    go_ret
    exact ⟨rfl, by (repeat (first | with_reducible exact Up.refl _ | with_reducible assumption | with_reducible refine Up.set ?_ (by first | exact Nat.le_refl _ | (simp only []; omega) | (simp; omega)) _ | with_reducible refine Up.alloc ?_ _ | with_reducible refine Up.drew ?_ | refine Up.trans ?_ (by with_reducible assumption)))⟩
  · obtain ⟨h1, h2, h3, h4, h5⟩ := validK_small hv
    have e : Hid (fmtK k = knL k) := by unfold Hid fmtK; rw [hv]; rfl
    have hr := Lib.hid h5
    have hle := prsT_le h2 h5 k.ps.length
    rw [List.take_length] at hle
    have HLE := Lib.hid hle
    have HKL := Lib.hid (knL_le hv)
    have cF := fun wx (hx : Up w wx) => fsetI_any k.set wx (hT.up hx) hl
    have zF := fmtSet_le k.set
    have HT := Lib.hid hT
    rw [hv] at cV
    rw [e.out]
    obtain ⟨i0, hi0, hz0, hz1, hz2⟩ := info_parts infoStr
    have hmk : ∀ w : World, (Instr.makeSlice 45 (.int .i64 (k.ps.length : Int)) (.int .i64 (k.ps.length : Int))).run Tryz.prog w = .ok (.slice (some ⟨w.heap.size, 0, none⟩) k.ps.length k.ps.length) (w.alloc (.cells (madeCells #[.string ByteArray.empty] k.ps.length) 9)) := fun w => by
      have := run_make (P := Tryz.prog) w 45 9 i0 _ Tryz.underlying45 hi0 hz0 .i64 .i64 k.ps.length k.ps.length (by omega) (Int.le_refl _) (by rw [hz2]; omega) (by omega)
      rw [hz1] at this
      simpa [Value.cells] using this
    clear hz0 hz1 hz2 hi0 hv h5 hT hle
    simp only [kV, setV] at *
    go_enter Tryz.func54, Tryz.ntmps54
    go_wp2_with ((go_at_call 64; (with_reducible refine (cV _ (hrt _ (by (repeat (first | with_reducible exact Up.refl _ | with_reducible assumption | with_reducible refine Up.set ?_ (by first | exact Nat.le_refl _ | (simp only []; omega) | (simp; omega)) _ | with_reducible refine Up.alloc ?_ _ | with_reducible refine Up.drew ?_ | refine Up.trans ?_ (by with_reducible assumption)))))).mono ?_); rintro e w1 ⟨rfl, U1⟩; have B1 := bcell U1; have Z1 := U1.size; (try simp at Z1); (try rw [Nat.add_one_le_iff] at Z1)))
    have hU1 : Up w w1 := by (repeat (first | with_reducible exact Up.refl _ | with_reducible assumption | with_reducible refine Up.set ?_ (by first | exact Nat.le_refl _ | (simp only []; omega) | (simp; omega)) _ | with_reducible refine Up.alloc ?_ _ | with_reducible refine Up.drew ?_ | refine Up.trans ?_ (by with_reducible assumption)))
    have hKA : KnAt w.heap.size k (.slice a k.ps.length cap) w1 := box_up U1 (MapKept.heap_alloc w _).1
    have hw1 : w.heap.size < w1.heap.size := hKA.cells.1
    clear cV B1 Z1 U1
    go_loopw [16] (fun i wr => RelFki k (.slice a k.ps.length cap) w w1 i wr) (fun i _ => k.ps.length - (intOf i).toNat)
    case atStart => exact ⟨0, Nat.zero_le _, rfl, hU1.alloc _, hKA.up ((Up.refl _).alloc _), hw1, by rw [midS_zero, List.length_map, List.length_map]; exact made_strs w1 _ (by unfold maxLen; omega)⟩
    case round =>
      clear hU1 hKA hw1
      obtain ⟨j, hj, rfl, hup, hkn, hw1, ho⟩ := hrel
      obtain ⟨b0, r0, r1, r2, r3, r4, r5⟩ := hkn.cells
      have HKN := Lib.hid hkn
      have hrl : w1.heap.size < wr.heap.size := (ho.lt _ rfl).2
      clear hkn
      by_cases hlt : j < k.ps.length
      · obtain ⟨b, off, rfl, hlo, hbl, hcells⟩ := hsome (by omega)
        obtain ⟨q0, q1⟩ := hcells j k.ps[j] (List.getElem?_eq_getElem hlt)
        have p0 := (hup.cell (p := ⟨b, off + j * 2, none⟩) hbl).trans q0
        have p1 := (hup.cell (p := ⟨b, off + j * 2 + 1, none⟩) hbl).trans q1
        have hbw := Nat.lt_of_lt_of_le hbl hup.size
        obtain ⟨n1, n2, n3, n4⟩ := hr.out k.ps[j] (List.getElem_mem _)
        have cA := fun wx (hx : Up w wx) => itoa_any k.ps[j].pre wx (HT.out.up hx) (by omega) (by omega)
        have cB := fun wx (hx : Up w wx) => itoa_any k.ps[j].byt wx (HT.out.up hx) (by omega) (by omega)
        have lA := itoa_le (n := k.ps[j].pre) (by omega) (by omega)
        have lB := itoa_le (n := k.ps[j].byt) (by omega) (by omega)
        have zA := bs_size (Lib.itoa k.ps[j].pre)
        have zB := bs_size (Lib.itoa k.ps[j].byt)
        have hkT : j < ((k.ps.map pairT).map bs).length := by simpa using hlt
        have HM := Lib.hid (midS_set ((k.ps.map pairT).map bs) j hkT)
        have HX : Hid ((bs (Lib.itoa k.ps[j].pre) ++ (⟨#[46]⟩ : ByteArray)) ++ bs (Lib.itoa k.ps[j].byt) = ((k.ps.map pairT).map bs)[j]) := by
          unfold Hid
          rw [List.getElem_map, List.getElem_map, show (⟨#[46]⟩ : ByteArray) = bs [46] from rfl]
          simp [bs_app, pairT]
        have HF := Lib.hid (fun wx (hx : Up wr wx) => ownsRow_free (ownsRow_up ho hx) j)
        have HC := Lib.hid (fun wx (hx : Up wr wx) => ownsRow_cell (ownsRow_up ho hx) (midS_at ((k.ps.map pairT).map bs) j hkT))
        have HO := Lib.hid ho
        generalize Lib.itoa k.ps[j].pre = A at *
        generalize Lib.itoa k.ps[j].byt = B at *
        generalize k.ps[j].pre = x at *
        generalize k.ps[j].byt = y at *
        clear hr hcells q0 q1 ho cF
        go_wp2
        refine wp_region_up 11 (by kernel_rfl) (by kernel_rfl) ?_
        simp only [List.take, List.drop]
        repeat (refine wpUp_step (fun K hK => ?_); go_simp; (try simp only [↓IntWalk.iteOmega]); first
          | (refine hK _ _ ?_; clear hK K)
          | (apply stepU_c
             · intro wq hwq; (have hbq := bcell hwq; (repeat (first | refine fills_no (by rfl) ?_ | refine fills_yes (by rfl) (fun vq hvq => ?_))); simp only [List.filter_nil, fills]; unfold upAt; go_simp; (try go_bits); (try simp only [↓IntWalk.iteOmega]); (try (rw [dif_pos (by omega)]; go_simp; try go_bits)); first | exact upOut_value | (apply upOut_call; (go_at_call 80; first | with_reducible exact cA _ (by (repeat (first | with_reducible exact Up.refl _ | with_reducible assumption | with_reducible refine Up.set ?_ (by first | exact Nat.le_refl _ | (simp only []; omega) | (simp; omega)) _ | with_reducible refine Up.alloc ?_ _ | with_reducible refine Up.drew ?_ | refine Up.trans ?_ (by with_reducible assumption)))) | with_reducible exact cB _ (by (repeat (first | with_reducible exact Up.refl _ | with_reducible assumption | with_reducible refine Up.set ?_ (by first | exact Nat.le_refl _ | (simp only []; omega) | (simp; omega)) _ | with_reducible refine Up.alloc ?_ _ | with_reducible refine Up.drew ?_ | refine Up.trans ?_ (by with_reducible assumption)))))) | (apply upOut_eq; (go_at_call 80; first | with_reducible exact cA _ (by (repeat (first | with_reducible exact Up.refl _ | with_reducible assumption | with_reducible refine Up.set ?_ (by first | exact Nat.le_refl _ | (simp only []; omega) | (simp; omega)) _ | with_reducible refine Up.alloc ?_ _ | with_reducible refine Up.drew ?_ | refine Up.trans ?_ (by with_reducible assumption)))) | with_reducible exact cB _ (by (repeat (first | with_reducible exact Up.refl _ | with_reducible assumption | with_reducible refine Up.set ?_ (by first | exact Nat.le_refl _ | (simp only []; omega) | (simp; omega)) _ | with_reducible refine Up.alloc ?_ _ | with_reducible refine Up.drew ?_ | refine Up.trans ?_ (by with_reducible assumption)))))))
             go_simp; refine hK _ _ ?_; clear hK K))
        refine wpUp_nil (fun wq hwq => ?_)
        simp only [fills]
        have U3 : Up wr wq := by (repeat (first | with_reducible exact Up.refl _ | with_reducible assumption | with_reducible refine Up.set ?_ (by first | exact Nat.le_refl _ | (simp only []; omega) | (simp; omega)) _ | with_reducible refine Up.alloc ?_ _ | with_reducible refine Up.drew ?_ | refine Up.trans ?_ (by with_reducible assumption)))
        have q0 := HC.out wq U3
        have f0 := HF.out wq U3
        have HO3 := Lib.hid (ownsRow_up HO.out U3)
        have HU3 := Lib.hid U3
        clear HC HF
        go_wp2
        go_roundw
        case rel => exact ⟨j + 1, by omega, by go_num, (hup.trans HU3.out).set (p := ⟨w1.heap.size, j, none⟩) (Nat.le_of_lt hw1) _, box_other (HKN.out.up HU3.out) (p := ⟨w1.heap.size, j, none⟩) (Nat.ne_of_lt hw1) _, hw1, by rw [← HM.out, ← HX.out]; exact ownsRow_set HO3.out j _⟩
        case measure => simp [intOf]; omega
      · have hjl : j = k.ps.length := by omega
        subst hjl
        have hall : midS ((k.ps.map pairT).map bs) k.ps.length = (k.ps.map pairT).map bs := by
          have := midS_all ((k.ps.map pairT).map bs)
          rwa [List.length_map, List.length_map] at this
        rw [hall] at ho
        have cJ := fun wx (h : Up wr wx) => joinS_any w1.heap.size k.ps.length k.ps.length (k.ps.map pairT) 44 wx w1.heap.size (by simp) (by omega) (ownsRow_up ho h) (by have := HLE.out; unfold prsT at this; omega)
        have cD := fun wx => orDash_any (prsT k.ps) wx
        have cA := fun wx (hx : Up w wx) => itoa_any k.base wx (HT.out.up hx) (by omega) (by omega)
        have cB := fun wx (hx : Up w wx) => itoa_any k.last wx (HT.out.up hx) (by omega) (by omega)
        have HW : Hid (w.heap.size ≤ wr.heap.size) := hup.size
        rw [show Lib.join (k.ps.map pairT) [44] = prsT k.ps from rfl] at cJ
        have cM := fun (v : Value) (wx : World) (h : MkS w.heap.size [fmtSet k.set, Lib.itoa k.base, Lib.itoa k.last, someL (prsT k.ps)] v wx) => joinM_any 59 h (by simp) (by simp) (by have := HKL.out; unfold knL at this; omega)
        rw [show Lib.join [fmtSet k.set, Lib.itoa k.base, Lib.itoa k.last, someL (prsT k.ps)] [59] = knL k from rfl] at cM
        clear hr hsome hc3 hall
        generalize knL k = R at *
        generalize hA : Lib.itoa k.base = A at *
        generalize hB : Lib.itoa k.last = B at *
        generalize hS : someL (prsT k.ps) = S at *
        generalize hJ : prsT k.ps = J at *
        generalize hF : fmtSet k.set = F at *
        clear hA hB hS hJ hF
        go_wp2
        refine wp_region_up 14 (by kernel_rfl) (by kernel_rfl) ?_
        simp only [List.take, List.drop]
        repeat (refine wpUp_step (fun K hK => ?_); go_simp; (try simp only [↓IntWalk.iteOmega]); first
          | (refine hK _ _ ?_; clear hK K)
          | (apply stepU_c
             · intro wq hwq; (have hbq := bcell hwq; (repeat (first | refine fills_no (by rfl) ?_ | refine fills_yes (by rfl) (fun vq hvq => ?_))); simp only [List.filter_nil, fills]; unfold upAt; (try (skip)); go_simp; (try go_bits); (try simp only [↓IntWalk.iteOmega]); (try (rw [dif_pos (by omega)]; go_simp; try go_bits)); first | exact upOut_value | (apply upOut_call; (go_at_call 80; first | with_reducible exact cA _ (by (repeat (first | with_reducible exact Up.refl _ | with_reducible assumption | with_reducible refine Up.set ?_ (by first | exact Nat.le_refl _ | (simp only []; omega) | (simp; omega)) _ | with_reducible refine Up.alloc ?_ _ | with_reducible refine Up.drew ?_ | refine Up.trans ?_ (by with_reducible assumption)))) | with_reducible exact cB _ (by (repeat (first | with_reducible exact Up.refl _ | with_reducible assumption | with_reducible refine Up.set ?_ (by first | exact Nat.le_refl _ | (simp only []; omega) | (simp; omega)) _ | with_reducible refine Up.alloc ?_ _ | with_reducible refine Up.drew ?_ | refine Up.trans ?_ (by with_reducible assumption)))))) | (apply upOut_eq; (go_at_call 80; first | with_reducible exact cA _ (by (repeat (first | with_reducible exact Up.refl _ | with_reducible assumption | with_reducible refine Up.set ?_ (by first | exact Nat.le_refl _ | (simp only []; omega) | (simp; omega)) _ | with_reducible refine Up.alloc ?_ _ | with_reducible refine Up.drew ?_ | refine Up.trans ?_ (by with_reducible assumption)))) | with_reducible exact cB _ (by (repeat (first | with_reducible exact Up.refl _ | with_reducible assumption | with_reducible refine Up.set ?_ (by first | exact Nat.le_refl _ | (simp only []; omega) | (simp; omega)) _ | with_reducible refine Up.alloc ?_ _ | with_reducible refine Up.drew ?_ | refine Up.trans ?_ (by with_reducible assumption)))))) | (apply upOut_call; (go_at_call 117; with_reducible exact cF _ (by (repeat (first | with_reducible exact Up.refl _ | with_reducible assumption | with_reducible refine Up.set ?_ (by first | exact Nat.le_refl _ | (simp only []; omega) | (simp; omega)) _ | with_reducible refine Up.alloc ?_ _ | with_reducible refine Up.drew ?_ | refine Up.trans ?_ (by with_reducible assumption)))))) | (apply upOut_eq; (go_at_call 117; with_reducible exact cF _ (by (repeat (first | with_reducible exact Up.refl _ | with_reducible assumption | with_reducible refine Up.set ?_ (by first | exact Nat.le_refl _ | (simp only []; omega) | (simp; omega)) _ | with_reducible refine Up.alloc ?_ _ | with_reducible refine Up.drew ?_ | refine Up.trans ?_ (by with_reducible assumption)))))) | (apply upOut_call; (go_at_call 55; with_reducible exact cD _)) | (apply upOut_eq; (go_at_call 55; with_reducible exact cD _)) | (apply upOut_call; (go_at_call 53; first | with_reducible exact cJ _ (by (repeat (first | with_reducible exact Up.refl _ | with_reducible assumption | with_reducible refine Up.set ?_ (by first | exact Nat.le_refl _ | (simp only []; omega) | (simp; omega)) _ | with_reducible refine Up.alloc ?_ _ | with_reducible refine Up.drew ?_ | refine Up.trans ?_ (by with_reducible assumption)))) | exact cM _ _ hvq)) | (apply upOut_eq; (go_at_call 53; first | with_reducible exact cJ _ (by (repeat (first | with_reducible exact Up.refl _ | with_reducible assumption | with_reducible refine Up.set ?_ (by first | exact Nat.le_refl _ | (simp only []; omega) | (simp; omega)) _ | with_reducible refine Up.alloc ?_ _ | with_reducible refine Up.drew ?_ | refine Up.trans ?_ (by with_reducible assumption)))) | exact cM _ _ hvq)))
             go_simp; refine hK _ _ ?_; clear hK K)
          | (refine stepU_m (by kernel_rfl) (MkS w.heap.size [F, A, B, S]) (mkS_closed _ _) (fun wq hwq => ?_) ?_
             · (have hbq := bcell hwq; (repeat (first | refine fills_no (by rfl) ?_ | refine fills_yes (by rfl) (fun vq hvq => ?_))); simp only [List.filter_nil, fills]; unfold upAt; (try (skip)); go_simp; (try go_bits); (try simp only [↓IntWalk.iteOmega]); (try (rw [dif_pos (by omega)]; go_simp; try go_bits)); exact upOut_make ((Up.refl _).alloc _) (mkS_new hwq HW.out _ _ _ _))
             refine hK _ _ ?_; clear hK K))
        refine wpUp_nil (fun wq hwq => ?_)
        simp only [fills]
        intro v _
        go_wp2
        go_ret
        exact ⟨rfl, by (repeat (first | with_reducible exact Up.refl _ | with_reducible assumption | with_reducible refine Up.set ?_ (by first | exact Nat.le_refl _ | (simp only []; omega) | (simp; omega)) _ | with_reducible refine Up.alloc ?_ _ | with_reducible refine Up.drew ?_ | refine Up.trans ?_ (by with_reducible assumption)))⟩
end Go.Proofs.YtekogcjdaolcbaaGreatDoor

/- Plain: text of bytes in hexadecimal. Conditions: none. -/
namespace Go.Proofs.YtekogcjdaolcbaaGreatDoor
open Go
def hexD (n : Nat) : UInt8 := if n < 10 then UInt8.ofNat (48 + n) else UInt8.ofNat (87 + n)
def hexV (b : UInt8) : Option Nat := if 48 ≤ b.toNat ∧ b.toNat ≤ 57 then some (b.toNat - 48) else if 97 ≤ b.toNat ∧ b.toNat ≤ 102 then some (b.toNat - 87) else none
def hexL : List UInt8 → List UInt8
  | [] => []
  | b :: r => hexD (b.toNat / 16) :: hexD (b.toNat % 16) :: hexL r
def fmtHex (l : List UInt8) : List UInt8 := if l.length ≤ 4000 then hexL l else []
def unhex : List UInt8 → Option (List UInt8)
  | [] => some []
  | [_] => none
  | a :: b :: r => match hexV a, hexV b with
    | some x, some y => (unhex r).map (UInt8.ofNat (16 * x + y) :: ·)
    | _, _ => none
def prsHex (t : List UInt8) : Option (List UInt8) := if t.length ≤ 8000 then unhex t else none
theorem hexV_hexD {n : Nat} (h : n < 16) : hexV (hexD n) = some n := by
  have : ∀ m : Fin 16, hexV (hexD m.1) = some m.1 := by decide
  exact this ⟨n, h⟩
theorem hexV_lt {b : UInt8} {n : Nat} (h : hexV b = some n) : n < 16 := by
  unfold hexV at h
  split at h
  · simp only [Option.some.injEq] at h; omega
  · split at h
    · simp only [Option.some.injEq] at h; omega
    · cases h
theorem hexD_hexV {b : UInt8} {n : Nat} (h : hexV b = some n) : hexD n = b := by
  unfold hexV at h
  apply UInt8.toNat_inj.1
  split at h
  · simp only [Option.some.injEq] at h; unfold hexD; rw [if_pos (by omega), UInt8.toNat_ofNat']; omega
  · split at h
    · simp only [Option.some.injEq] at h; unfold hexD; rw [if_neg (by omega), UInt8.toNat_ofNat']; omega
    · cases h
theorem hexL_len : ∀ l, (hexL l).length = 2 * l.length
  | [] => rfl
  | b :: r => by
    have := hexL_len r
    simp only [hexL, List.length_cons]; omega
theorem hexL_app : ∀ a b, hexL (a ++ b) = hexL a ++ hexL b
  | [], b => rfl
  | x :: a, b => by simp [hexL, hexL_app a b]
theorem unhex_hexL : ∀ l, unhex (hexL l) = some l
  | [] => rfl
  | b :: r => by
    have hb := b.toNat_lt
    have h1 : b.toNat / 16 < 16 := by omega
    have h2 : b.toNat % 16 < 16 := by omega
    simp only [hexL, unhex, hexV_hexD h1, hexV_hexD h2, unhex_hexL r, Option.map_some]
    congr 2
    apply UInt8.toNat_inj.1
    rw [UInt8.toNat_ofNat']; omega
theorem hexL_unhex : ∀ {t l : List UInt8}, unhex t = some l → hexL l = t
  | [], l, h => by simp only [unhex, Option.some.injEq] at h; subst h; rfl
  | [_], l, h => by simp [unhex] at h
  | a :: b :: r, l, h => by
    unfold unhex at h
    split at h
    · rename_i x y hx hy
      obtain ⟨l', h1, rfl⟩ := Option.map_eq_some_iff.1 h
      have q1 := hexV_lt hx
      have q2 := hexV_lt hy
      have e : (UInt8.ofNat (16 * x + y)).toNat = 16 * x + y := by rw [UInt8.toNat_ofNat']; omega
      rw [hexL, hexL_unhex h1, e, show (16 * x + y) / 16 = x by omega, show (16 * x + y) % 16 = y by omega, hexD_hexV hx, hexD_hexV hy]
    · cases h
theorem prsHex_fmt {l : List UInt8} (h : l.length ≤ 4000) : prsHex (fmtHex l) = some l := by
  unfold prsHex fmtHex
  rw [if_pos h, if_pos (by rw [hexL_len]; omega), unhex_hexL]
theorem fmtHex_prs {t l : List UInt8} (h : prsHex t = some l) : fmtHex l = t := by
  unfold prsHex at h
  split at h
  · rename_i hl
    have e := hexL_unhex h
    have hn := hexL_len l
    rw [e] at hn
    unfold fmtHex
    rw [if_pos (by omega), e]
  · cases h
theorem hexD_chr : ∀ n, n < 16 → (48 ≤ (hexD n).toNat ∧ (hexD n).toNat ≤ 57) ∨ (97 ≤ (hexD n).toNat ∧ (hexD n).toNat ≤ 102) := by
  have : ∀ m : Fin 16, (48 ≤ (hexD m.1).toNat ∧ (hexD m.1).toNat ≤ 57) ∨ (97 ≤ (hexD m.1).toNat ∧ (hexD m.1).toNat ≤ 102) := by decide
  exact fun n h => this ⟨n, h⟩
theorem hexL_chr : ∀ {l : List UInt8}, ∀ b ∈ hexL l, (48 ≤ b.toNat ∧ b.toNat ≤ 57) ∨ (97 ≤ b.toNat ∧ b.toNat ≤ 102)
  | [], b, h => by simp [hexL] at h
  | x :: r, b, h => by
    have hx := x.toNat_lt
    simp only [hexL, List.mem_cons] at h
    rcases h with rfl | rfl | h
    · exact hexD_chr _ (by omega)
    · exact hexD_chr _ (by omega)
    · exact hexL_chr b h
theorem fmtHex_chr {l : List UInt8} : ∀ b ∈ fmtHex l, (48 ≤ b.toNat ∧ b.toNat ≤ 57) ∨ (97 ≤ b.toNat ∧ b.toNat ≤ 102) := by
  unfold fmtHex
  split
  · exact hexL_chr
  · simp
end Go.Proofs.YtekogcjdaolcbaaGreatDoor

/- FormatHex of both sides. Conditions: at most 4000 bytes. -/
namespace Go.Proofs.YtekogcjdaolcbaaGreatDoor
open Go Go.RowKit
theorem hexL_succ {l : List UInt8} {k : Nat} (h : k < l.length) : hexL (l.take (k + 1)) = hexL (l.take k) ++ [hexD (l[k].toNat / 16), hexD (l[k].toNat % 16)] := by
  rw [List.take_succ_eq_append_getElem h, hexL_app]; rfl
def NewU (row : Option Nat) (n : Nat) (v : Value) (w : World) : Prop := ∃ q, v = .slice (some ⟨q, 0, none⟩) 2 2 ∧ some q ≠ row ∧ w.heap[q]? = some (.cells #[.int .u8 ((hexD (n / 16)).toNat : Int), .int .u8 ((hexD (n % 16)).toNat : Int)] 5)
theorem newU_closed {row : Option Nat} {n : Nat} : ∀ v (w w' : World), NewU row n v w → w.grownBy w' row → NewU row n v w' := fun v w w' ⟨q, h1, h2, h3⟩ hg => ⟨q, h1, h2, gbox hg h3 h2⟩
theorem newU_cells {w : World} {x : Nat} {n : Nat} (h : w.heap[x]? = some (.cells #[.int .u8 ((hexD (n / 16)).toNat : Int), .int .u8 ((hexD (n % 16)).toNat : Int)] 5)) : ∀ j u, ([.int .u8 ((hexD (n / 16)).toNat : Int), .int .u8 ((hexD (n % 16)).toNat : Int)] : List Value)[j]? = some u → w.cell? ((⟨x, 0, none⟩ : Addr).add j) = some u := by
  intro j u hu
  have hadd : (⟨x, 0, none⟩ : Addr).add j = ⟨x, j, none⟩ := by unfold Addr.add; split <;> simp_all
  rw [hadd, box_cell h]
  simpa using hu
theorem hexAt : ∀ (n : Nat) (h : n < 16) (h' : n < (⟨#[48, 49, 50, 51, 52, 53, 54, 55, 56, 57, 97, 98, 99, 100, 101, 102]⟩ : ByteArray).size), (⟨#[48, 49, 50, 51, 52, 53, 54, 55, 56, 57, 97, 98, 99, 100, 101, 102]⟩ : ByteArray)[n] = hexD n := by
  have : ∀ m : Fin 16, (⟨#[48, 49, 50, 51, 52, 53, 54, 55, 56, 57, 97, 98, 99, 100, 101, 102]⟩ : ByteArray)[m.1]'(by have := m.2; show m.1 < 16; omega) = hexD m.1 := by decide
  exact fun n h h' => this ⟨n, h⟩
theorem hex_cells (l : List UInt8) (n : Nat) : cellsU (l ++ [hexD (n / 16), hexD (n % 16)]) = cellsU l ++ [.int .u8 ((hexD (n / 16)).toNat : Int), .int .u8 ((hexD (n % 16)).toNat : Int)] := by simp [cellsU]
def RelFh (l : List UInt8) (w : World) (out i : Value) (wr : World) : Prop := ∃ k : Nat, k ≤ l.length ∧ i = .int .i64 k ∧ ownU wr w.heap.size out (hexL (l.take k)) ∧ Up w wr
set_option maxRecDepth 100000 in
set_option maxHeartbeats 4000000 in
theorem fhI_any (l : List UInt8) (w : World) (hl : l.length ≤ 4000) :
    Calls Tryz.prog 56  #[.string (bs l)] w (Same (.string (bs (fmtHex l))) w) := by
  obtain ⟨i0, hib, hz0, hz1, hz2⟩ := info_parts infoByte
  have hz := bs_size l
  rw [show fmtHex l = hexL l from if_pos hl]
  have hmk : ∀ w : World, (Instr.makeSlice 22 (.int .i64 0) (.int .i64 (2 * (l.length : Int)))).run Tryz.prog w = .ok (.slice (some ⟨w.heap.size, 0, none⟩) 0 (2 * l.length)) (w.alloc (.cells (madeCells #[.int .u8 0] (2 * l.length)) 5)) := fun w => by
    have := run_make (P := Tryz.prog) w 22 5 i0 _ Tryz.underlying22 hib hz0 .i64 .i64 0 (2 * l.length : Nat) (by omega) (by omega) (by rw [hz2]; omega) (by omega)
    rw [hz1] at this
    have hn : (2 * (l.length : Int)).toNat = 2 * l.length := by omega
    simpa [Value.cells, hn] using this
  go_enter Tryz.func56, Tryz.ntmps56
  go_wp2
  go_loopw [3, 14] (fun out i wr => RelFh l w out i wr) (fun _ i _ => l.length - (intOf i).toNat)
  case atStart => exact ⟨0, Nat.zero_le _, rfl, ⟨rfl, .inr ⟨w.heap.size, 2 * l.length, _, rfl, Nat.le_refl _, (MapKept.heap_alloc w _).1, Nat.zero_le _, by unfold maxLen; omega, by simp [madeCells], rfl⟩⟩, (Up.refl _).alloc _⟩
  case round =>
    obtain ⟨k, hk, rfl, ho, hup⟩ := hrel
    have hpl := hexL_len (l.take k)
    rw [List.length_take, Nat.min_eq_left hk] at hpl
    unfold ownU at ho
    obtain ⟨a, c, rfl⟩ := ownsRow_shape ho
    rw [hpl] at ho ⊢
    have HO := Lib.hid ho
    have HPL := Lib.hid hpl
    clear ho hpl
    have hsz := hup.size
    by_cases hlt : k < l.length
    · have hlt2 : k < (bs l).size := by omega
      have hu := u8_bd (bs l)[k]
      have HX := Lib.hid (hexL_succ hlt)
      have hn16 : (bs l)[k].toNat / 16 < 16 := by omega
      have hm16 : (bs l)[k].toNat % 16 < 16 := by omega
      have hx1 := hexAt ((bs l)[k].toNat / 16) hn16 hn16
      have hx2 := hexAt ((bs l)[k].toNat % 16) hm16 hm16
      go_wp2
      refine wp_region_own 13 12 (Value.ownBlock (.slice a (2 * k) c)) (by kernel_rfl) (by kernel_rfl) ?_
      simp only [List.take, List.drop]
      repeat (refine wpG_step (fun K hK => ?_); go_simp; (try simp only [↓IntWalk.iteOmega]); first
        | (refine hK _ _ ?_; clear hK K)
        | (refine stepG_own (by rfl) (by kernel_rfl) ((fun v w' => w'.ownsRow w.heap.size 5 1 v (2 * k + 2) (cellsU (hexL (l.take k)) ++ [.int .u8 ((hexD ((bs l)[k].toNat / 16)).toNat : Int), .int .u8 ((hexD ((bs l)[k].toNat % 16)).toNat : Int)]))) ((fun v w w' h hu => ownsRow_up h hu)) (fun wq hwq => ?_) ?_
           · ((repeat (first | refine fills_no (by rfl) ?_ | refine fills_yes (by rfl) (fun vq hvq => ?_))); simp only [List.filter_nil, fills]; (obtain ⟨bq, eqb, nb, hcb⟩ := hvq; exact gAt_append (.tmp 17) (.tmp 28) 22 (by rfl) w.heap.size 5 i0 (.int .u8 0) 1 1 Tryz.underlying22 hib hz0 hz1 hz2 rfl (by decide) (.slice a (2 * k) c) (2 * k) (cellsU (hexL (l.take k))) (by rfl) (ownsRow_up HO.out hwq) ⟨bq, 0, none⟩ 2 2 [.int .u8 ((hexD ((bs l)[k].toNat / 16)).toNat : Int), .int .u8 ((hexD ((bs l)[k].toNat % 16)).toNat : Int)] (by exact eqb) rfl (newU_cells hcb) (by intro u hu; simp at hu; rcases hu with rfl | rfl <;> rfl) (by unfold maxLen; omega) (by omega) (by have := hwq.size; omega) _ rfl))
           refine hK _ _ ?_; clear hK K)
        | (refine stepG_c (by rfl) ?_ ?_ ?_
           rotate_left
           · intro wq hwq; (have hbq := gcell hwq; (repeat (first | refine fills_no (by rfl) ?_ | refine fills_yes (by rfl) (fun vq hvq => ?_))); simp only [List.filter_nil, fills]; unfold upAt; (try (skip)); go_simp; (try go_bits); (try simp only [↓IntWalk.iteOmega]); (try (rw [dif_pos (by omega)]; go_simp; try go_bits)); first | exact upOut_value | (apply upOut_call; fail) | (apply upOut_eq; fail))
           go_simp; refine hK _ _ ?_; clear hK K)
        | (refine stepG_m (by rfl) (by kernel_rfl) (NewU (Value.ownBlock (.slice a (2 * k) c)) (bs l)[k].toNat) (newU_closed) (fun wq hwq => ?_) ?_
           · (have hbq := gcell hwq; (repeat (first | refine fills_no (by rfl) ?_ | refine fills_yes (by rfl) (fun vq hvq => ?_))); simp only [List.filter_nil, fills]; unfold upAt; (try (skip)); go_simp; (try go_bits); (try simp only [↓IntWalk.iteOmega]); (try (rw [dif_pos (by omega)]; go_simp; try go_bits)); exact upOut_make ((Up.refl _).alloc _) ⟨_, rfl, own_ne HO.out hwq.size, (MapKept.heap_alloc _ _).1⟩)
           refine hK _ _ ?_; clear hK K))
      refine wpG_nil (by rfl) (fun wq hwq => ?_)
      simp only [fills]
      rintro v11 h11 v10 -
      have hU : Up w wq := hup.grown hwq (fun y hy => (HO.out.lt y hy).1)
      obtain ⟨a3, c3, rfl⟩ := ownsRow_shape h11
      have H9 := Lib.hid (And.intro hU h11)
      clear hU h11 hwq
      go_wp2
      go_roundw
      case rel => exact ⟨k + 1, by omega, by go_num, by
        have h1 := H9.out.2
        rw [← hex_cells] at h1
        have e : hexL (l.take (k + 1)) = hexL (l.take k) ++ [hexD ((bs l)[k].toNat / 16), hexD ((bs l)[k].toNat % 16)] := HX.out
        unfold ownU
        rw [e, List.length_append, HPL.out]
        exact h1, H9.out.1⟩
      case measure => simp [intOf]; omega
    · have HKL : Hid (l.take k = l) := List.take_of_length_le (by omega)
      rw [HKL.out] at HO HPL
      have hcv : ∀ n, n = 2 * k → (convert 22 9 (.slice a n c)).run Tryz.prog wr = .ok (.string (bs (hexL l))) wr := fun n hn => by
        subst hn
        exact conv_any HO.out HPL.out.symm
      have hcv1 := hcv _ rfl
      go_wp2
      go_ret
      exact ⟨rfl, hup⟩
set_option maxRecDepth 100000 in
set_option maxHeartbeats 4000000 in
theorem fhS_any (l : List UInt8) (w : World) (hl : l.length ≤ 4000) :
    Calls Tryz.prog 62  #[.string (bs l)] w (Same (.string (bs (fmtHex l))) w) := by
  obtain ⟨i0, hib, hz0, hz1, hz2⟩ := info_parts infoByte
  have hz := bs_size l
  rw [show fmtHex l = hexL l from if_pos hl]
  have hmk : ∀ w : World, (Instr.makeSlice 22 (.int .i64 0) (.int .i64 (2 * (l.length : Int)))).run Tryz.prog w = .ok (.slice (some ⟨w.heap.size, 0, none⟩) 0 (2 * l.length)) (w.alloc (.cells (madeCells #[.int .u8 0] (2 * l.length)) 5)) := fun w => by
    have := run_make (P := Tryz.prog) w 22 5 i0 _ Tryz.underlying22 hib hz0 .i64 .i64 0 (2 * l.length : Nat) (by omega) (by omega) (by rw [hz2]; omega) (by omega)
    rw [hz1] at this
    have hn : (2 * (l.length : Int)).toNat = 2 * l.length := by omega
    simpa [Value.cells, hn] using this
  go_enter Tryz.func62, Tryz.ntmps62
  go_wp2
  go_loopw [4, 5] (fun out i wr => RelFh l w out i wr) (fun _ i _ => l.length - (intOf i).toNat)
  case atStart => exact ⟨0, Nat.zero_le _, rfl, ⟨rfl, .inr ⟨w.heap.size, 2 * l.length, _, rfl, Nat.le_refl _, (MapKept.heap_alloc w _).1, Nat.zero_le _, by unfold maxLen; omega, by simp [madeCells], rfl⟩⟩, (Up.refl _).alloc _⟩
  case round =>
    obtain ⟨k, hk, rfl, ho, hup⟩ := hrel
    have hpl := hexL_len (l.take k)
    rw [List.length_take, Nat.min_eq_left hk] at hpl
    unfold ownU at ho
    obtain ⟨a, c, rfl⟩ := ownsRow_shape ho
    rw [hpl] at ho ⊢
    have HO := Lib.hid ho
    have HPL := Lib.hid hpl
    clear ho hpl
    have hsz := hup.size
    by_cases hlt : k < l.length
    · have hlt2 : k < (bs l).size := by omega
      have hu := u8_bd (bs l)[k]
      have HX := Lib.hid (hexL_succ hlt)
      have hn16 : (bs l)[k].toNat / 16 < 16 := by omega
      have hm16 : (bs l)[k].toNat % 16 < 16 := by omega
      have hx1 := hexAt ((bs l)[k].toNat / 16) hn16 hn16
      have hx2 := hexAt ((bs l)[k].toNat % 16) hm16 hm16
      go_wp2
      refine wp_region_own 15 14 (Value.ownBlock (.slice a (2 * k) c)) (by kernel_rfl) (by kernel_rfl) ?_
      simp only [List.take, List.drop]
      repeat (refine wpG_step (fun K hK => ?_); go_simp; (try simp only [↓IntWalk.iteOmega]); first
        | (refine hK _ _ ?_; clear hK K)
        | (refine stepG_own (by rfl) (by kernel_rfl) ((fun v w' => w'.ownsRow w.heap.size 5 1 v (2 * k + 2) (cellsU (hexL (l.take k)) ++ [.int .u8 ((hexD ((bs l)[k].toNat / 16)).toNat : Int), .int .u8 ((hexD ((bs l)[k].toNat % 16)).toNat : Int)]))) ((fun v w w' h hu => ownsRow_up h hu)) (fun wq hwq => ?_) ?_
           · ((repeat (first | refine fills_no (by rfl) ?_ | refine fills_yes (by rfl) (fun vq hvq => ?_))); simp only [List.filter_nil, fills]; (obtain ⟨bq, eqb, nb, hcb⟩ := hvq; exact gAt_append (.tmp 19) (.tmp 32) 22 (by rfl) w.heap.size 5 i0 (.int .u8 0) 1 1 Tryz.underlying22 hib hz0 hz1 hz2 rfl (by decide) (.slice a (2 * k) c) (2 * k) (cellsU (hexL (l.take k))) (by rfl) (ownsRow_up HO.out hwq) ⟨bq, 0, none⟩ 2 2 [.int .u8 ((hexD ((bs l)[k].toNat / 16)).toNat : Int), .int .u8 ((hexD ((bs l)[k].toNat % 16)).toNat : Int)] (by exact eqb) rfl (newU_cells hcb) (by intro u hu; simp at hu; rcases hu with rfl | rfl <;> rfl) (by unfold maxLen; omega) (by omega) (by have := hwq.size; omega) _ rfl))
           refine hK _ _ ?_; clear hK K)
        | (refine stepG_c (by rfl) ?_ ?_ ?_
           rotate_left
           · intro wq hwq; (have hbq := gcell hwq; (repeat (first | refine fills_no (by rfl) ?_ | refine fills_yes (by rfl) (fun vq hvq => ?_))); simp only [List.filter_nil, fills]; unfold upAt; (try (skip)); go_simp; (try go_bits); (try simp only [↓IntWalk.iteOmega]); (try (rw [dif_pos (by omega)]; go_simp; try go_bits)); first | exact upOut_value | (apply upOut_call; fail) | (apply upOut_eq; fail))
           go_simp; refine hK _ _ ?_; clear hK K)
        | (refine stepG_m (by rfl) (by kernel_rfl) (NewU (Value.ownBlock (.slice a (2 * k) c)) (bs l)[k].toNat) (newU_closed) (fun wq hwq => ?_) ?_
           · (have hbq := gcell hwq; (repeat (first | refine fills_no (by rfl) ?_ | refine fills_yes (by rfl) (fun vq hvq => ?_))); simp only [List.filter_nil, fills]; unfold upAt; (try (skip)); go_simp; (try go_bits); (try simp only [↓IntWalk.iteOmega]); (try (rw [dif_pos (by omega)]; go_simp; try go_bits)); exact upOut_make ((Up.refl _).alloc _) ⟨_, rfl, own_ne HO.out hwq.size, (MapKept.heap_alloc _ _).1⟩)
           refine hK _ _ ?_; clear hK K))
      refine wpG_nil (by rfl) (fun wq hwq => ?_)
      simp only [fills]
      rintro v11 h11 v10 -
      have hU : Up w wq := hup.grown hwq (fun y hy => (HO.out.lt y hy).1)
      obtain ⟨a3, c3, rfl⟩ := ownsRow_shape h11
      have H9 := Lib.hid (And.intro hU h11)
      clear hU h11 hwq
      go_wp2
      go_roundw
      case rel => exact ⟨k + 1, by omega, by go_num, by
        have h1 := H9.out.2
        rw [← hex_cells] at h1
        have e : hexL (l.take (k + 1)) = hexL (l.take k) ++ [hexD ((bs l)[k].toNat / 16), hexD ((bs l)[k].toNat % 16)] := HX.out
        unfold ownU
        rw [e, List.length_append, HPL.out]
        exact h1, H9.out.1⟩
      case measure => simp [intOf]; omega
    · have HKL : Hid (l.take k = l) := List.take_of_length_le (by omega)
      rw [HKL.out] at HO HPL
      have hcv : ∀ n, n = 2 * k → (convert 22 9 (.slice a n c)).run Tryz.prog wr = .ok (.string (bs (hexL l))) wr := fun n hn => by
        subst hn
        exact conv_any HO.out HPL.out.symm
      have hcv1 := hcv _ rfl
      go_wp2
      go_ret
      exact ⟨rfl, hup⟩
end Go.Proofs.YtekogcjdaolcbaaGreatDoor

/- Plain: the texts of settings, of what is known, of writers, and reading them. Conditions: none. -/
namespace Go.Proofs.YtekogcjdaolcbaaGreatDoor
open Go
def begT (b : Bool) : List UInt8 := if b then [98, 101, 103, 117, 110] else [110, 101, 119]
def wrL (w : WrD) : List UInt8 := Lib.join [fmtK w.k, someL (fmtHex w.pend), someL w.bits, begT w.beg] [124]
def fmtW (w : WrD) : List UInt8 := if wrvB w then wrL w else []
def dashP (l : List UInt8) : Option (List UInt8) := if l = [45] then some [] else if l = [] then none else some l
def begP (l : List UInt8) : Option Bool := if l = [110, 101, 119] then some false else if l = [98, 101, 103, 117, 110] then some true else none
def wr4 (a b c d : List UInt8) : Option WrD := match begP d, prsK a, (dashP b).bind prsHex, dashP c with
  | some g, some k, some p, some q => if wrvB ⟨k, p, q, g⟩ then some ⟨k, p, q, g⟩ else none
  | _, _, _, _ => none
def prsW (t : List UInt8) : Option WrD := match splL 124 t with
  | [a, b, c, d] => wr4 a b c d
  | _ => none
theorem dashP_text {l x : List UInt8} (h : dashP l = some x) : someL x = l := by
  unfold dashP at h
  split at h
  · rename_i e; simp only [Option.some.injEq] at h; subst h; rw [e]; rfl
  · split at h
    · cases h
    · rename_i e
      simp only [Option.some.injEq] at h
      subst h
      exact if_neg e
theorem begP_text {l : List UInt8} {b : Bool} (h : begP l = some b) : l = begT b := by
  unfold begP at h
  split at h
  · rename_i e; simp only [Option.some.injEq] at h; subst h; rw [e]; rfl
  · split at h
    · rename_i e; simp only [Option.some.injEq] at h; subst h; rw [e]; rfl
    · cases h
theorem begP_fmt (b : Bool) : begP (begT b) = some b := by cases b <;> rfl
theorem someL_ne {l : List UInt8} (h : (45 : UInt8) ∉ l) : (someL l = [45] ↔ l = []) ∧ someL l ≠ [] := by
  unfold someL
  split
  · rename_i e; subst e; simp
  · rename_i e
    refine ⟨⟨fun e2 => absurd (by rw [e2]; simp) h, fun e2 => absurd e2 e⟩, e⟩
theorem dashP_fmt {l : List UInt8} (h : (45 : UInt8) ∉ l) : dashP (someL l) = some l := by
  obtain ⟨h1, h2⟩ := someL_ne h
  unfold dashP
  by_cases e : l = []
  · subst e; rfl
  · rw [if_neg (fun e2 => e (h1.1 e2)), if_neg h2]
    unfold someL; rw [if_neg e]
theorem noneL_fmt {l : List UInt8} (h : (45 : UInt8) ∉ l) : noneL (someL l) = l := by
  obtain ⟨h1, h2⟩ := someL_ne h
  unfold noneL
  by_cases e : l = []
  · subst e; rfl
  · rw [if_neg (fun e2 => e (h1.1 e2))]
    unfold someL; rw [if_neg e]
theorem hex_dash {l : List UInt8} : (45 : UInt8) ∉ fmtHex l := fun h => by
  rcases fmtHex_chr _ h with e | e <;> simp at e
theorem bit_dash {l : List UInt8} (h : bitsB l = true) : (45 : UInt8) ∉ l := fun hm => by
  have := bitsB_iff.1 h _ hm
  simp at this
theorem fmtW_prs {t : List UInt8} {w : WrD} (h : prsW t = some w) : fmtW w = t ∧ wrvB w = true := by
  unfold prsW at h
  split at h
  · rename_i a b c d hx
    unfold wr4 at h
    split at h
    · rename_i g k p q h1 h2 h3 h4
      split at h
      · rename_i hv
        simp only [Option.some.injEq] at h
        subst h
        refine ⟨?_, hv⟩
        obtain ⟨x, hx1, hx2⟩ := Option.bind_eq_some_iff.1 h3
        unfold fmtW
        rw [hv, if_pos rfl]
        unfold wrL
        simp only []
        rw [(fmtK_prs h2).1, fmtHex_prs hx2, dashP_text hx1, dashP_text h4, ← begP_text h1, ← hx]
        exact join_splL 124 t
      · cases h
    · cases h
  · cases h
theorem wrvB_parts {w : WrD} (h : wrvB w = true) : validK w.k = true ∧ w.pend.length ≤ 2000 ∧ bitsB w.bits = true ∧ w.bits.length ≤ 7 := by
  have ho := wrvB_ok h
  unfold wrvB at h
  simp only [Bool.and_eq_true, decide_eq_true_eq] at h
  exact ⟨h.1, ho.2.2.2.1, h.2.2.1.1, h.2.2.1.2⟩
theorem fmtK_no {k : KnD} : (124 : UInt8) ∉ fmtK k := by
  unfold fmtK
  split
  · unfold knL
    refine join_no (fun x hx => ?_) (by decide)
    simp only [List.mem_cons, List.not_mem_nil, or_false] at hx
    rcases hx with rfl | rfl | rfl | rfl
    · exact fmtSet_no (by decide) (by decide) (by decide) (by decide)
    · exact itoa_no' _ (by decide)
    · exact itoa_no' _ (by decide)
    · exact someL_no (prsT_no (by decide) (by decide) (by decide)) (by decide)
  · simp
theorem fmtW_spl {w : WrD} (h : wrvB w = true) : splL 124 (fmtW w) = [fmtK w.k, someL (fmtHex w.pend), someL w.bits, begT w.beg] := by
  obtain ⟨h1, h2, h3, h4⟩ := wrvB_parts h
  unfold fmtW
  rw [h, if_pos rfl]
  unfold wrL
  refine splL_join (by simp) fun x hx => ?_
  simp only [List.mem_cons, List.not_mem_nil, or_false] at hx
  rcases hx with rfl | rfl | rfl | rfl
  · exact fmtK_no
  · exact someL_no (fun hm => by rcases fmtHex_chr _ hm with e | e <;> simp at e) (by decide)
  · exact someL_no (fun hm => by have := bitsB_iff.1 h3 _ hm; simp at this) (by decide)
  · unfold begT; split <;> decide
theorem prsW_fmt {w : WrD} (h : wrvB w = true) : prsW (fmtW w) = some w := by
  obtain ⟨h1, h2, h3, h4⟩ := wrvB_parts h
  unfold prsW
  rw [fmtW_spl h]
  simp only [wr4, begP_fmt, prsK_fmt h1, dashP_fmt hex_dash, Option.bind_some, prsHex_fmt (l := w.pend) (by omega), dashP_fmt (bit_dash h3)]
  rw [if_pos h]
def kn00 : KnD := ⟨⟨0, 0, 0⟩, [], 0, 0⟩
def lenW (t : List UInt8) : Option WrD := match splL 124 t with
  | [a, b, c, d] => some ⟨(prsK a).getD kn00, (prsHex (noneL b)).getD [], noneL c, decide (d = [98, 101, 103, 117, 110])⟩
  | _ => none
theorem lenW_fmt {w : WrD} (h : wrvB w = true) : lenW (fmtW w) = some w := by
  obtain ⟨h1, h2, h3, h4⟩ := wrvB_parts h
  have hb : decide (begT w.beg = [98, 101, 103, 117, 110]) = w.beg := by cases w.beg <;> rfl
  unfold lenW
  rw [fmtW_spl h]
  simp only [prsK_fmt h1, noneL_fmt hex_dash, prsHex_fmt (l := w.pend) (by omega), noneL_fmt (bit_dash h3), Option.getD_some, hb]
theorem prsW_len (t : List UInt8) : prsW t = match lenW t with
    | some w => if fmtW w = t then some w else none
    | none => none := by
  cases hp : prsW t with
  | some w =>
    obtain ⟨h1, h2⟩ := fmtW_prs hp
    subst h1
    rw [lenW_fmt h2]
    simp
  | none =>
    cases hl : lenW t with
    | none => rfl
    | some w =>
      simp only []
      split
      · rename_i he
        subst he
        cases hv : wrvB w with
        | true => rw [prsW_fmt hv] at hp; cases hp
        | false =>
          have : fmtW w = [] := by unfold fmtW; rw [hv]; rfl
          rw [this] at hl
          cases hl
      · rfl
end Go.Proofs.YtekogcjdaolcbaaGreatDoor

/- FormatWriter of both sides. Conditions: the pairs can be read, at most 2^20 of each kind; the table of powers of ten lies where it was laid. -/
namespace Go.Proofs.YtekogcjdaolcbaaGreatDoor
open Go Go.RowKit
set_option maxRecDepth 100000 in
set_option maxHeartbeats 1000000 in
theorem l3Bool_any (b : Bool) (w : World) : Calls Tryz.prog 63  #[.bool b] w (fun e w' => e = .returned (.string (bs (begT b))) ∧ w = w') := by
  cases b
  all_goals
    go_enter Tryz.func63, Tryz.ntmps63
    go_wp2
    go_ret
    exact ⟨rfl, rfl⟩
theorem wrL_bs (x : WrD) : (((bs (fmtK x.k) ++ (⟨#[124]⟩ : ByteArray)) ++ bs (someL (fmtHex x.pend)) ++ (⟨#[124]⟩ : ByteArray)) ++ bs (someL x.bits) ++ (⟨#[124]⟩ : ByteArray)) ++ bs (begT x.beg) = bs (wrL x) := by
  rw [show (⟨#[124]⟩ : ByteArray) = bs [124] from rfl]
  simp [bs_app, wrL, Lib.join_cons, Lib.joinTail]
theorem begT_le (b : Bool) : (begT b).length ≤ 5 := by cases b <;> decide
theorem fmtHex_le (l : List UInt8) (h : l.length ≤ 2000) : (fmtHex l).length ≤ 4000 := by
  unfold fmtHex; split
  · rw [hexL_len]; omega
  · simp
theorem wrL_le {x : WrD} (h : wrvB x = true) : (wrL x).length ≤ 51000 := by
  obtain ⟨h1, h2, h3, h4⟩ := wrvB_parts h
  have e1 := fmtK_le x.k
  have e2 := someL_le (fmtHex_le x.pend h2) (by omega)
  have e3 := someL_le h4 (by omega)
  have e4 := begT_le x.beg
  unfold wrL
  rw [join4_len]
  omega
theorem fmtW_le (x : WrD) : (fmtW x).length ≤ 51000 := by
  unfold fmtW; split
  · rename_i h; exact wrL_le h
  · simp
set_option maxRecDepth 100000 in
set_option maxHeartbeats 8000000 in
theorem fwS_any (x : WrD) (v : Value) (lo : Nat) (w : World) (hr : RdP lo w v x.k.ps) (hps : x.k.ps.length ≤ 1073741824) (hp : x.pend.length ≤ 1073741824) (hb : x.bits.length ≤ 1073741824) :
    Calls Tryz.prog 14  #[wrV x v] w (Same (.string (bs (fmtW x))) w) := by
  have cV := fun wx h => wvS_any x v lo wx h hps hp hb
  have cK := fun wx h => fkS_any x.k v lo wx h hps
  have hrt := fun (wq : World) (hu : Up w wq) => hr.up hu
  obtain ⟨a, cap, rfl, -⟩ := hr
  cases hv : wrvB x
  · have e : Hid (fmtW x = []) := by unfold Hid fmtW; rw [hv]; rfl
    rw [hv] at cV
    rw [e.out]
    clear hv cK
    simp only [wrV] at *
    go_enter Tryz.func14, Tryz.ntmps14
    go_wp2_with ((go_at_call 43; (with_reducible refine (cV _ (hrt _ (by (repeat (first | with_reducible exact Up.refl _ | with_reducible assumption | with_reducible refine Up.set ?_ (by first | exact Nat.le_refl _ | (simp only []; omega) | (simp; omega)) _ | with_reducible refine Up.alloc ?_ _ | with_reducible refine Up.drew ?_ | refine Up.trans ?_ (by with_reducible assumption)))))).mono ?_); rintro e w1 ⟨rfl, U1⟩; have B1 := bcell U1; have Z1 := U1.size; (try simp at Z1); (try rw [Nat.add_one_le_iff] at Z1)))
    go_ret
    exact ⟨rfl, by (repeat (first | with_reducible exact Up.refl _ | with_reducible assumption | with_reducible refine Up.set ?_ (by first | exact Nat.le_refl _ | (simp only []; omega) | (simp; omega)) _ | with_reducible refine Up.alloc ?_ _ | with_reducible refine Up.drew ?_ | refine Up.trans ?_ (by with_reducible assumption)))⟩
  · obtain ⟨h1, h2, h3, h4⟩ := wrvB_parts hv
    have e : Hid (fmtW x = wrL x) := by unfold Hid fmtW; rw [hv]; rfl
    rw [hv] at cV
    rw [e.out]
    have HX := Lib.hid (wrL_bs x)
    have cH := fun wx => fhS_any x.pend wx (by omega)
    have cS := fun wx => l3Some_any (fmtHex x.pend) wx
    have cT := fun wx => l3Some_any x.bits wx
    have cB := fun wx => l3Bool_any x.beg wx
    have zK := fmtK_le x.k
    have e2 := someL_le (fmtHex_le x.pend h2) (by omega)
    have e3 := someL_le h4 (by omega)
    have e4 := begT_le x.beg
    have z1 := bs_size (fmtK x.k)
    have z2 := bs_size (someL (fmtHex x.pend))
    have z3 := bs_size (someL x.bits)
    have z4 := bs_size (begT x.beg)
    clear h1 h3 hv e
    simp only [wrV, kV] at *
    generalize fmtK x.k = K at *
    generalize someL (fmtHex x.pend) = H at *
    generalize fmtHex x.pend = H0 at *
    generalize someL x.bits = B at *
    generalize begT x.beg = G at *
    go_enter Tryz.func14, Tryz.ntmps14
    go_wp2_with ((go_at_call 43; (with_reducible refine (cV _ (hrt _ (by (repeat (first | with_reducible exact Up.refl _ | with_reducible assumption | with_reducible refine Up.set ?_ (by first | exact Nat.le_refl _ | (simp only []; omega) | (simp; omega)) _ | with_reducible refine Up.alloc ?_ _ | with_reducible refine Up.drew ?_ | refine Up.trans ?_ (by with_reducible assumption)))))).mono ?_); rintro e w1 ⟨rfl, U1⟩; have B1 := bcell U1; have Z1 := U1.size; (try simp at Z1); (try rw [Nat.add_one_le_iff] at Z1)))
    refine wp_region_up 19 (by kernel_rfl) (by kernel_rfl) ?_
    simp only [List.take, List.drop]
    repeat (refine wpUp_step (fun K hK => ?_); go_simp; (try simp only [↓IntWalk.iteOmega]); first
      | (refine hK _ _ ?_; clear hK K)
      | (apply stepU_c
         · intro wq hwq; (have hbq := bcell hwq; (repeat (first | refine fills_no (by rfl) ?_ | refine fills_yes (by rfl) (fun vq hvq => ?_))); simp only [List.filter_nil, fills]; unfold upAt; go_simp; (try go_bits); (try simp only [↓IntWalk.iteOmega]); (try (rw [dif_pos (by omega)]; go_simp; try go_bits)); first | exact upOut_value | (apply upOut_call; (go_at_call 60; with_reducible exact cK _ (hrt _ (by (repeat (first | with_reducible exact Up.refl _ | with_reducible assumption | with_reducible refine Up.set ?_ (by first | exact Nat.le_refl _ | (simp only []; omega) | (simp; omega)) _ | with_reducible refine Up.alloc ?_ _ | with_reducible refine Up.drew ?_ | refine Up.trans ?_ (by with_reducible assumption))))))) | (apply upOut_eq; (go_at_call 60; with_reducible exact cK _ (hrt _ (by (repeat (first | with_reducible exact Up.refl _ | with_reducible assumption | with_reducible refine Up.set ?_ (by first | exact Nat.le_refl _ | (simp only []; omega) | (simp; omega)) _ | with_reducible refine Up.alloc ?_ _ | with_reducible refine Up.drew ?_ | refine Up.trans ?_ (by with_reducible assumption))))))) | (apply upOut_call; (go_at_call 62; with_reducible exact cH _)) | (apply upOut_eq; (go_at_call 62; with_reducible exact cH _)) | (apply upOut_call; (go_at_call 61; first | with_reducible exact cS _ | with_reducible exact cT _)) | (apply upOut_eq; (go_at_call 61; first | with_reducible exact cS _ | with_reducible exact cT _)) | (apply upOut_call; (go_at_call 63; with_reducible exact cB _)) | (apply upOut_eq; (go_at_call 63; with_reducible exact cB _)))
         go_simp; refine hK _ _ ?_; clear hK K))
    refine wpUp_nil (fun wq hwq => ?_)
    simp only [fills]
    go_wp2
    go_ret
    exact ⟨by rw [← HX.out]; rfl, by (repeat (first | with_reducible exact Up.refl _ | with_reducible assumption | with_reducible refine Up.set ?_ (by first | exact Nat.le_refl _ | (simp only []; omega) | (simp; omega)) _ | with_reducible refine Up.alloc ?_ _ | with_reducible refine Up.drew ?_ | refine Up.trans ?_ (by with_reducible assumption)))⟩
set_option maxRecDepth 100000 in
set_option maxHeartbeats 8000000 in
theorem fwI_any (x : WrD) (v : Value) (lo : Nat) (w : World) (hT : Tab w) (hl : -9223372036854775808 ≤ x.k.set.lit ∧ x.k.set.lit ≤ 9223372036854775807) (hr : RdP lo w v x.k.ps) (hps : x.k.ps.length ≤ 1073741824) (hp : x.pend.length ≤ 1073741824) (hb : x.bits.length ≤ 1073741824) :
    Calls Tryz.prog 11  #[wrV x v] w (Same (.string (bs (fmtW x))) w) := by
  have cV := fun wx h => wvI_any x v lo wx hl h hps hp hb
  have cK := fun wx (hx : Up w wx) h => fkI_any x.k v lo wx (hT.up hx) hl h hps
  have hrt := fun (wq : World) (hu : Up w wq) => hr.up hu
  obtain ⟨a, cap, rfl, -⟩ := hr
  clear hT
  cases hv : wrvB x
  · have e : Hid (fmtW x = []) := by unfold Hid fmtW; rw [hv]; rfl
    rw [hv] at cV
    rw [e.out]
    clear hv cK
    simp only [wrV] at *
    go_enter Tryz.func11, Tryz.ntmps11
    go_wp2_with ((go_at_call 15; (with_reducible refine (cV _ (hrt _ (by (repeat (first | with_reducible exact Up.refl _ | with_reducible assumption | with_reducible refine Up.set ?_ (by first | exact Nat.le_refl _ | (simp only []; omega) | (simp; omega)) _ | with_reducible refine Up.alloc ?_ _ | with_reducible refine Up.drew ?_ | refine Up.trans ?_ (by with_reducible assumption)))))).mono ?_); rintro e w1 ⟨rfl, U1⟩; have B1 := bcell U1; have Z1 := U1.size; (try simp at Z1); (try rw [Nat.add_one_le_iff] at Z1)))
    go_ret
    exact ⟨rfl, by (repeat (first | with_reducible exact Up.refl _ | with_reducible assumption | with_reducible refine Up.set ?_ (by first | exact Nat.le_refl _ | (simp only []; omega) | (simp; omega)) _ | with_reducible refine Up.alloc ?_ _ | with_reducible refine Up.drew ?_ | refine Up.trans ?_ (by with_reducible assumption)))⟩
  · obtain ⟨h1, h2, h3, h4⟩ := wrvB_parts hv
    have e : Hid (fmtW x = wrL x) := by unfold Hid fmtW; rw [hv]; rfl
    have HKL := Lib.hid (wrL_le hv)
    rw [hv] at cV
    rw [e.out]
    have cH := fun wx => fhI_any x.pend wx (by omega)
    have cS := fun wx => orDash_any (fmtHex x.pend) wx
    have cT := fun wx => orDash_any x.bits wx
    have cM := fun (v : Value) (wx : World) (h : MkS w.heap.size [fmtK x.k, someL (fmtHex x.pend), someL x.bits, begT x.beg] v wx) => joinM_any 124 h (by simp) (by simp) (by have := HKL.out; unfold wrL at this; omega)
    rw [show Lib.join [fmtK x.k, someL (fmtHex x.pend), someL x.bits, begT x.beg] [124] = wrL x from rfl] at cM
    clear h1 h3 hv e
    have hbg : x.beg = true ∨ x.beg = false := by cases x.beg <;> simp
    simp only [wrV, kV] at *
    generalize wrL x = R at *
    generalize hF1 : fmtK x.k = KT at *
    generalize hF2 : someL (fmtHex x.pend) = H at *
    generalize hF3 : fmtHex x.pend = H0 at *
    generalize hF4 : someL x.bits = B at *
    clear hF1 hF2 hF3 hF4
    rcases hbg with hg | hg
    all_goals
      rw [hg] at cM cV ⊢
      go_enter Tryz.func11, Tryz.ntmps11
      go_wp2_with ((go_at_call 15; (with_reducible refine (cV _ (hrt _ (by (repeat (first | with_reducible exact Up.refl _ | with_reducible assumption | with_reducible refine Up.set ?_ (by first | exact Nat.le_refl _ | (simp only []; omega) | (simp; omega)) _ | with_reducible refine Up.alloc ?_ _ | with_reducible refine Up.drew ?_ | refine Up.trans ?_ (by with_reducible assumption)))))).mono ?_); rintro e w1 ⟨rfl, U1⟩; have B1 := bcell U1; have Z1 := U1.size; (try simp at Z1); (try rw [Nat.add_one_le_iff] at Z1)))
      have HW : Hid (w.heap.size ≤ w1.heap.size) := (show Up w w1 by (repeat (first | with_reducible exact Up.refl _ | with_reducible assumption | with_reducible refine Up.set ?_ (by first | exact Nat.le_refl _ | (simp only []; omega) | (simp; omega)) _ | with_reducible refine Up.alloc ?_ _ | with_reducible refine Up.drew ?_ | refine Up.trans ?_ (by with_reducible assumption)))).size
      refine wp_region_up 13 (by kernel_rfl) (by kernel_rfl) ?_
      simp only [List.take, List.drop]
    · skip
      repeat (refine wpUp_step (fun K hK => ?_); go_simp; (try simp only [↓IntWalk.iteOmega]); first
        | (refine hK _ _ ?_; clear hK K)
        | (apply stepU_c
           · intro wq hwq; (have hbq := bcell hwq; (repeat (first | refine fills_no (by rfl) ?_ | refine fills_yes (by rfl) (fun vq hvq => ?_))); simp only [List.filter_nil, fills]; unfold upAt; (try (skip)); go_simp; (try go_bits); (try simp only [↓IntWalk.iteOmega]); (try (rw [dif_pos (by omega)]; go_simp; try go_bits)); first | exact upOut_value | (apply upOut_call; (go_at_call 54; with_reducible exact cK _ (by (repeat (first | with_reducible exact Up.refl _ | with_reducible assumption | with_reducible refine Up.set ?_ (by first | exact Nat.le_refl _ | (simp only []; omega) | (simp; omega)) _ | with_reducible refine Up.alloc ?_ _ | with_reducible refine Up.drew ?_ | refine Up.trans ?_ (by with_reducible assumption)))) (hrt _ (by (repeat (first | with_reducible exact Up.refl _ | with_reducible assumption | with_reducible refine Up.set ?_ (by first | exact Nat.le_refl _ | (simp only []; omega) | (simp; omega)) _ | with_reducible refine Up.alloc ?_ _ | with_reducible refine Up.drew ?_ | refine Up.trans ?_ (by with_reducible assumption))))))) | (apply upOut_eq; (go_at_call 54; with_reducible exact cK _ (by (repeat (first | with_reducible exact Up.refl _ | with_reducible assumption | with_reducible refine Up.set ?_ (by first | exact Nat.le_refl _ | (simp only []; omega) | (simp; omega)) _ | with_reducible refine Up.alloc ?_ _ | with_reducible refine Up.drew ?_ | refine Up.trans ?_ (by with_reducible assumption)))) (hrt _ (by (repeat (first | with_reducible exact Up.refl _ | with_reducible assumption | with_reducible refine Up.set ?_ (by first | exact Nat.le_refl _ | (simp only []; omega) | (simp; omega)) _ | with_reducible refine Up.alloc ?_ _ | with_reducible refine Up.drew ?_ | refine Up.trans ?_ (by with_reducible assumption))))))) | (apply upOut_call; (go_at_call 56; with_reducible exact cH _)) | (apply upOut_eq; (go_at_call 56; with_reducible exact cH _)) | (apply upOut_call; (go_at_call 55; first | with_reducible exact cS _ | with_reducible exact cT _)) | (apply upOut_eq; (go_at_call 55; first | with_reducible exact cS _ | with_reducible exact cT _)) | (apply upOut_call; (go_at_call 53; exact cM _ _ hvq)) | (apply upOut_eq; (go_at_call 53; exact cM _ _ hvq)))
           go_simp; refine hK _ _ ?_; clear hK K)
        | (refine stepU_m (by kernel_rfl) (MkS w.heap.size [KT, H, B, begT true]) (mkS_closed _ _) (fun wq hwq => ?_) ?_
           · (have hbq := bcell hwq; (repeat (first | refine fills_no (by rfl) ?_ | refine fills_yes (by rfl) (fun vq hvq => ?_))); simp only [List.filter_nil, fills]; unfold upAt; (try (skip)); go_simp; (try go_bits); (try simp only [↓IntWalk.iteOmega]); (try (rw [dif_pos (by omega)]; go_simp; try go_bits)); exact upOut_make ((Up.refl _).alloc _) (mkS_new hwq HW.out KT H B (begT true)))
           refine hK _ _ ?_; clear hK K))
      refine wpUp_nil (fun wq hwq => ?_)
      simp only [fills]
      intro v _
      go_wp2
      go_ret
      exact ⟨rfl, by (repeat (first | with_reducible exact Up.refl _ | with_reducible assumption | with_reducible refine Up.set ?_ (by first | exact Nat.le_refl _ | (simp only []; omega) | (simp; omega)) _ | with_reducible refine Up.alloc ?_ _ | with_reducible refine Up.drew ?_ | refine Up.trans ?_ (by with_reducible assumption)))⟩
    · skip
      repeat (refine wpUp_step (fun K hK => ?_); go_simp; (try simp only [↓IntWalk.iteOmega]); first
        | (refine hK _ _ ?_; clear hK K)
        | (apply stepU_c
           · intro wq hwq; (have hbq := bcell hwq; (repeat (first | refine fills_no (by rfl) ?_ | refine fills_yes (by rfl) (fun vq hvq => ?_))); simp only [List.filter_nil, fills]; unfold upAt; (try (skip)); go_simp; (try go_bits); (try simp only [↓IntWalk.iteOmega]); (try (rw [dif_pos (by omega)]; go_simp; try go_bits)); first | exact upOut_value | (apply upOut_call; (go_at_call 54; with_reducible exact cK _ (by (repeat (first | with_reducible exact Up.refl _ | with_reducible assumption | with_reducible refine Up.set ?_ (by first | exact Nat.le_refl _ | (simp only []; omega) | (simp; omega)) _ | with_reducible refine Up.alloc ?_ _ | with_reducible refine Up.drew ?_ | refine Up.trans ?_ (by with_reducible assumption)))) (hrt _ (by (repeat (first | with_reducible exact Up.refl _ | with_reducible assumption | with_reducible refine Up.set ?_ (by first | exact Nat.le_refl _ | (simp only []; omega) | (simp; omega)) _ | with_reducible refine Up.alloc ?_ _ | with_reducible refine Up.drew ?_ | refine Up.trans ?_ (by with_reducible assumption))))))) | (apply upOut_eq; (go_at_call 54; with_reducible exact cK _ (by (repeat (first | with_reducible exact Up.refl _ | with_reducible assumption | with_reducible refine Up.set ?_ (by first | exact Nat.le_refl _ | (simp only []; omega) | (simp; omega)) _ | with_reducible refine Up.alloc ?_ _ | with_reducible refine Up.drew ?_ | refine Up.trans ?_ (by with_reducible assumption)))) (hrt _ (by (repeat (first | with_reducible exact Up.refl _ | with_reducible assumption | with_reducible refine Up.set ?_ (by first | exact Nat.le_refl _ | (simp only []; omega) | (simp; omega)) _ | with_reducible refine Up.alloc ?_ _ | with_reducible refine Up.drew ?_ | refine Up.trans ?_ (by with_reducible assumption))))))) | (apply upOut_call; (go_at_call 56; with_reducible exact cH _)) | (apply upOut_eq; (go_at_call 56; with_reducible exact cH _)) | (apply upOut_call; (go_at_call 55; first | with_reducible exact cS _ | with_reducible exact cT _)) | (apply upOut_eq; (go_at_call 55; first | with_reducible exact cS _ | with_reducible exact cT _)) | (apply upOut_call; (go_at_call 53; exact cM _ _ hvq)) | (apply upOut_eq; (go_at_call 53; exact cM _ _ hvq)))
           go_simp; refine hK _ _ ?_; clear hK K)
        | (refine stepU_m (by kernel_rfl) (MkS w.heap.size [KT, H, B, begT false]) (mkS_closed _ _) (fun wq hwq => ?_) ?_
           · (have hbq := bcell hwq; (repeat (first | refine fills_no (by rfl) ?_ | refine fills_yes (by rfl) (fun vq hvq => ?_))); simp only [List.filter_nil, fills]; unfold upAt; (try (skip)); go_simp; (try go_bits); (try simp only [↓IntWalk.iteOmega]); (try (rw [dif_pos (by omega)]; go_simp; try go_bits)); exact upOut_make ((Up.refl _).alloc _) (mkS_new hwq HW.out KT H B (begT false)))
           refine hK _ _ ?_; clear hK K))
      refine wpUp_nil (fun wq hwq => ?_)
      simp only [fills]
      intro v _
      go_wp2
      go_ret
      exact ⟨rfl, by (repeat (first | with_reducible exact Up.refl _ | with_reducible assumption | with_reducible refine Up.set ?_ (by first | exact Nat.le_refl _ | (simp only []; omega) | (simp; omega)) _ | with_reducible refine Up.alloc ?_ _ | with_reducible refine Up.drew ?_ | refine Up.trans ?_ (by with_reducible assumption)))⟩
end Go.Proofs.YtekogcjdaolcbaaGreatDoor

/- What DrawWriterValid, DrawFormatWriter and DrawParseWriter draw. Conditions: the code can be read. -/
namespace Go.Proofs.YtekogcjdaolcbaaGreatDoor
open Go Go.RowKit
def IsW (lo : Nat) (x : WrD) (u : Value) (w : World) : Prop := RdP lo w u x.k.ps ∧ BadW x
set_option maxRecDepth 100000 in
set_option maxHeartbeats 8000000 in
theorem drawWriterValid_any (v : Value) (l : List UInt8) (w : World) (h : ArgU w v l) :
    Calls Tryz.prog 59  #[v] w (fun e w' => ∃ x u, e = .returned (wrV x u) ∧ IsW w.heap.size x u w' ∧ Up w w') := by
  have cO := fun w' hu => open_at (h.up (w' := w') hu)
  clear h
  go_enter Tryz.func59, Tryz.ntmps59
  go_wp2_with (go_at_call 28; (with_reducible refine (cO _ (by (repeat (first | with_reducible exact Up.refl _ | with_reducible assumption | with_reducible refine Up.set ?_ (by first | exact Nat.le_refl _ | (simp only []; omega) | (simp; omega)) _ | with_reducible refine Up.alloc ?_ _ | with_reducible refine Up.drew ?_ | refine Up.trans ?_ (by with_reducible assumption))))).mono ?_); rintro e w1 ⟨B, rfl, hr, U1⟩)
  have hRB : WrAt w.heap.size wr0 (.slice none 0 0) w1 := WrAt.zero (box_up U1 (MapKept.heap_alloc w _).1)
  have hUp : Up w w1 := by (repeat (first | with_reducible exact Up.refl _ | with_reducible assumption | with_reducible refine Up.set ?_ (by first | exact Nat.le_refl _ | (simp only []; omega) | (simp; omega)) _ | with_reducible refine Up.alloc ?_ _ | with_reducible refine Up.drew ?_ | refine Up.trans ?_ (by with_reducible assumption)))
  rw [size_alloc] at hr
  have hrw : w.heap.size < w.heap.size + 1 := by omega
  generalize w.heap.size + 1 = rb at *
  obtain ⟨p, hp, hr, HM⟩ := hr.least
  have hlt := hr.lt
  have HR := Lib.hid hr
  have hne0 : ¬ w.heap.size = rb := by omega
  clear cO U1
  go_wp2_with fail
  (with_reducible refine (l3Writer_any rb B _ _ hr (by omega)).mono ?_); rintro e w2 ⟨x, u, rfl, hx, hrk, hU⟩
  have hRB := gbox hU.1 hRB (by simp; omega)
  have cB := fun wx N h hN hr => l3Bad_any x u rb B wx N h hN hx.1 hr
  unfold wrV at cB
  unfold wrV
  go_wp2_with fail
  (with_reducible refine (cB _ _ (rdUp_r hU hr) (by omega) hrk).mono ?_); rintro e w9 ⟨x9, u9, rfl, hb9, hr9, hU9⟩
  obtain ⟨a9, c9, rfl, -⟩ := id hr9
  have hRB := gbox hU9.1 hRB (by simp; omega)
  have hU := RdUp.trans hU hU9
  obtain ⟨hb0, s0, s1, s2, s3, s4, s5, s6, s7, s8⟩ := WrAt.cells hRB; simp only [wr0] at s0 s1 s2 s3 s4 s5 s6 s7 s8; have hfr := box_free hRB
  unfold wrV
  go_wp2_with fail
  have hUw := up_grownR hUp (rdUp_g hU) (by omega)
  refine bodyPost_ret (v := _) (by simp [results, Tryz.results59, go_sem, s0, s1, s2, s3, s4, s5, s6, s7, s8, hb0, hne0]; rfl) rfl ?_
  refine ⟨x9, .slice a9 x9.k.ps.length c9, rfl, ⟨RdP.low (lo := rb + 1) ?_ (by omega), hb9⟩, ?_⟩
  · repeat (with_reducible refine RdP.set ?_ (by omega) _ _)
    exact hr9
  · (repeat (first | with_reducible exact Up.refl _ | with_reducible assumption | with_reducible refine Up.set ?_ (by first | exact Nat.le_refl _ | (simp only []; omega) | (simp; omega)) _ | with_reducible refine Up.alloc ?_ _ | with_reducible refine Up.drew ?_ | refine Up.trans ?_ (by with_reducible assumption)))
set_option maxRecDepth 100000 in
set_option maxHeartbeats 8000000 in
theorem drawFormatWriter_any (v : Value) (l : List UInt8) (w : World) (h : ArgU w v l) :
    Calls Tryz.prog 13  #[v] w (fun e w' => ∃ x u, e = .returned (wrV x u) ∧ IsW w.heap.size x u w' ∧ Up w w') := by
  have cV := fun w' hu => drawWriterValid_any v l w' (h.up (w' := w') hu)
  clear h
  go_enter Tryz.func13, Tryz.ntmps13
  go_wp2_with fail
  (with_reducible refine (cV _ (by (repeat (first | with_reducible exact Up.refl _ | with_reducible assumption | with_reducible refine Up.set ?_ (by first | exact Nat.le_refl _ | (simp only []; omega) | (simp; omega)) _ | with_reducible refine Up.alloc ?_ _ | with_reducible refine Up.drew ?_ | refine Up.trans ?_ (by with_reducible assumption))))).mono ?_); rintro e w1 ⟨x, u, rfl, ⟨hr, hb⟩, U1⟩
  rw [size_alloc] at hr
  have hRB : WrAt w.heap.size wr0 (.slice none 0 0) w1 := WrAt.zero (box_up U1 (MapKept.heap_alloc w _).1)
  have hUp : Up w w1 := by (repeat (first | with_reducible exact Up.refl _ | with_reducible assumption | with_reducible refine Up.set ?_ (by first | exact Nat.le_refl _ | (simp only []; omega) | (simp; omega)) _ | with_reducible refine Up.alloc ?_ _ | with_reducible refine Up.drew ?_ | refine Up.trans ?_ (by with_reducible assumption)))
  obtain ⟨a9, c9, rfl, -⟩ := id hr
  obtain ⟨hb0, s0, s1, s2, s3, s4, s5, s6, s7, s8⟩ := WrAt.cells hRB; simp only [wr0] at s0 s1 s2 s3 s4 s5 s6 s7 s8; have hfr := box_free hRB
  have hle : w.heap.size ≤ w.heap.size := Nat.le_refl _
  clear cV U1
  unfold wrV
  go_wp2_with fail
  refine bodyPost_ret (v := _) (by simp [results, Tryz.results13, go_sem, s0, s1, s2, s3, s4, s5, s6, s7, s8, hb0]; rfl) rfl ?_
  refine ⟨x, .slice a9 x.k.ps.length c9, rfl, ⟨RdP.low (lo := w.heap.size + 1) ?_ (by omega), hb⟩, ?_⟩
  · repeat (with_reducible refine RdP.set ?_ (by omega) _ _)
    exact hr
  · (repeat (first | with_reducible exact Up.refl _ | with_reducible assumption | with_reducible refine Up.set ?_ (by first | exact Nat.le_refl _ | (simp only []; omega) | (simp; omega)) _ | with_reducible refine Up.alloc ?_ _ | with_reducible refine Up.drew ?_ | refine Up.trans ?_ (by with_reducible assumption)))
set_option maxRecDepth 100000 in
set_option maxHeartbeats 8000000 in
theorem drawParseWriter_any (v : Value) (l : List UInt8) (w : World) (h : ArgU w v l) :
    Calls Tryz.prog 16  #[v] w (fun e w' => ∃ t : ByteArray, e = .returned (.string t) ∧ t.size ≤ 120001 ∧ Up w w') := by
  have cO := fun w' hu => open_at (h.up (w' := w') hu)
  clear h
  go_enter Tryz.func16, Tryz.ntmps16
  go_wp2_with (go_at_call 28; (with_reducible refine (cO _ (by (repeat (first | with_reducible exact Up.refl _ | with_reducible assumption | with_reducible refine Up.set ?_ (by first | exact Nat.le_refl _ | (simp only []; omega) | (simp; omega)) _ | with_reducible refine Up.alloc ?_ _ | with_reducible refine Up.drew ?_ | refine Up.trans ?_ (by with_reducible assumption))))).mono ?_); rintro e w1 ⟨B, rfl, hr, hUp⟩)
  obtain ⟨p, hp, hr, HM⟩ := hr.least
  have hlt := hr.lt
  have HR := Lib.hid hr
  clear cO
  go_wp2_with fail
  (with_reducible refine (l3Writer_any w.heap.size B _ _ hr (by omega)).mono ?_); rintro e w2 ⟨x, u, rfl, hx, hrk, hU⟩
  have hbw := badW_gw hx
  have cF := fun wx h => fwS_any x u (w.heap.size + 1) wx h (by have := hbw.2; omega) (by have := hbw.2; omega) (by have := hbw.2; omega)
  unfold wrV at cF
  unfold wrV
  go_wp2_with fail
  (with_reducible refine (cF _ hrk).mono ?_); rintro e w4 ⟨rfl, U4⟩
  have hU := hU.ups U4
  have hle := fmtW_le x
  have hsz := bs_size (fmtW x)
  go_wp2_with fail
  (with_reducible refine (l3Bent_any w.heap.size B (bs (fmtW x)) _ _ (rdUpT_r hU hr) (by omega) (by omega)).mono ?_); rintro e w5 ⟨v5, rfl, ⟨t, rfl, ht⟩, hU5⟩
  go_wp2
  go_ret
  exact ⟨t, rfl, ht, up_grownR (up_grownR hUp hU.1 (Nat.le_refl _)) hU5.1 (Nat.le_refl _)⟩
end Go.Proofs.YtekogcjdaolcbaaGreatDoor

/- Arguments that are slices of bytes, and a string repeated. Conditions: as each says. -/
namespace Go.Proofs.YtekogcjdaolcbaaGreatDoor
open Go.ChangeShapes Go.WideShapes Go.ChangeAt Go.RowKit Go.Joins
open Go.ChangeMaps (open_string shut_string)
theorem open_argU {H : Type} {enc : TypeId × Value → H} {W : World} {fuel : Nat} {a0 : Option Addr} {len cap : Nat} {d : DataW H} {p : List MemPlace}
    (h : DataW.trod enc Tryz.prog W 0 (fun _ => true) true fuel 22 [.slice a0 len cap] = some (d, p)) (hlt : ∀ x ∈ p, x.block < W.heap.size) : ∃ l, ArgU W (.slice a0 len cap) l := by
  rcases open_ints Tryz.underlying22 Tryz.underlying5 (by kernel_rfl) h with ⟨hcs, hx⟩ | ⟨a, len', cap', zs, hcs, _, hl, hm, hz, hx, hcell, hwz⟩
  · simp only [List.cons.injEq, and_true] at hcs
    cases hcs
    exact ⟨[], none, 0, rfl, Nat.le_refl _, by unfold maxLen; omega, fun h => absurd h (Nat.lt_irrefl _)⟩
  · simp only [List.cons.injEq, and_true] at hcs
    cases hcs
    simp only [Prod.mk.injEq] at hx
    obtain ⟨rfl, rfl⟩ := hx
    simp only [if_true] at hz
    have hlen : ((zs.take len).map fun n => UInt8.ofNat n.toNat).length = len := by simp; omega
    refine ⟨(zs.take len).map fun n => UInt8.ofNat n.toNat, some a, cap, by rw [hlen], by rw [hlen]; exact hl, hm, fun hp => ?_⟩
    rw [hlen] at hp
    obtain ⟨b, off, spot⟩ := a
    have hspot : spot = none := by simpa [Addr.add] using World.cell?_spot (hcell 0 (by omega))
    subst hspot
    refine ⟨b, off, rfl, hlt (.cell b off) (by simp only [MemPlace.row, List.mem_map, List.mem_range]; exact ⟨0, by omega, rfl⟩), fun i x hi => ?_⟩
    have hil : i < len := by
      have := (List.getElem?_eq_some_iff.1 hi).1
      rw [hlen] at this; exact this
    have hcj := hcell i (by omega)
    rw [Addr.add_lit] at hcj
    rw [hcj]
    have hb := range_u8 hwz i
    have e : zs.getD i 0 = zs[i]'(by omega) := by simp [List.getD, List.getElem?_eq_getElem (show i < zs.length by omega)]
    rw [List.getD_eq_getElem?_getD] at e ⊢
    rw [e] at hb ⊢
    have hx : x = UInt8.ofNat (zs[i]'(by omega)).toNat := by
      have : i < zs.length := by omega
      simp [List.getElem?_take, hil, this] at hi
      exact hi.symm
    rw [hx]
    congr 2
    simp only [UInt8.toNat_ofNat']
    omega
end Go.Proofs.YtekogcjdaolcbaaGreatDoor

/- Walks of the laws' soKnown and soWriters at writers that are the same, and of soCut. Conditions: the pairs can be read. -/
namespace Go.Proofs.YtekogcjdaolcbaaGreatDoor
open Go Go.RowKit
def RelSk (k : KnD) (v v' : Value) (w : World) (i : Value) (wr : World) : Prop := ∃ j : Nat, j ≤ k.ps.length ∧ i = .int .i64 j ∧ Up w wr ∧ KnAt w.heap.size k v wr ∧ KnAt (w.heap.size + 1) k v' wr
set_option maxRecDepth 100000 in
set_option maxHeartbeats 4000000 in
theorem soKnown_same (k : KnD) (v v' : Value) (lo lo' : Nat) (w : World) (hr : RdP lo w v k.ps) (hr' : RdP lo' w v' k.ps) :
    Calls Tryz.prog 48  #[kV k v, kV k v'] w (Same (.bool true) w) := by
  obtain ⟨a, cap, rfl, hc1, hc2, hc3, hsome⟩ := hr
  obtain ⟨a', cap', rfl, hc1', hc2', hc3', hsome'⟩ := hr'
  unfold maxLen at hc2 hc2'
  have hX0 : KnAt w.heap.size k (.slice a k.ps.length cap) ((w.alloc (.cells #[.int .i64 k.set.ord, .int .i64 k.set.lit, .int .i64 k.set.most, .slice a k.ps.length cap, .int .i64 k.base, .int .i64 k.last] 27)).alloc (.cells #[.int .i64 k.set.ord, .int .i64 k.set.lit, .int .i64 k.set.most, .slice a' k.ps.length cap', .int .i64 k.base, .int .i64 k.last] 27)) := box_up ((Up.refl _).alloc _) (MapKept.heap_alloc w _).1
  have hX1 : KnAt (w.heap.size + 1) k (.slice a' k.ps.length cap') ((w.alloc (.cells #[.int .i64 k.set.ord, .int .i64 k.set.lit, .int .i64 k.set.most, .slice a k.ps.length cap, .int .i64 k.base, .int .i64 k.last] 27)).alloc (.cells #[.int .i64 k.set.ord, .int .i64 k.set.lit, .int .i64 k.set.most, .slice a' k.ps.length cap', .int .i64 k.base, .int .i64 k.last] 27)) := alloc2 w _ _
  have hU0 : Up w ((w.alloc (.cells #[.int .i64 k.set.ord, .int .i64 k.set.lit, .int .i64 k.set.most, .slice a k.ps.length cap, .int .i64 k.base, .int .i64 k.last] 27)).alloc (.cells #[.int .i64 k.set.ord, .int .i64 k.set.lit, .int .i64 k.set.most, .slice a' k.ps.length cap', .int .i64 k.base, .int .i64 k.last] 27)) := by (repeat (first | with_reducible exact Up.refl _ | with_reducible assumption | with_reducible refine Up.set ?_ (by first | exact Nat.le_refl _ | (simp only []; omega) | (simp; omega)) _ | with_reducible refine Up.alloc ?_ _ | with_reducible refine Up.drew ?_ | refine Up.trans ?_ (by with_reducible assumption)))
  simp only [kV]
  go_enter Tryz.func48, Tryz.ntmps48
  go_wp2_with fail
  go_loopw [5] (fun i wr => RelSk k (.slice a k.ps.length cap) (.slice a' k.ps.length cap') w i wr) (fun i _ => k.ps.length - (intOf i).toNat)
  case atStart => exact ⟨0, Nat.zero_le _, rfl, hU0, hX0, hX1⟩
  case round =>
    clear hX0 hX1 hU0
    obtain ⟨j, hj, rfl, hup, hkn, hkn'⟩ := hrel
    obtain ⟨b0, r0, r1, r2, r3, r4, r5⟩ := hkn.cells
    obtain ⟨b1, s0, s1, s2, s3, s4, s5⟩ := hkn'.cells
    have HK := Lib.hid (And.intro hkn hkn')
    clear hkn hkn'
    by_cases hlt : j < k.ps.length
    · obtain ⟨b, off, rfl, hlo, hbl, hcells⟩ := hsome (by omega)
      obtain ⟨b', off', rfl, hlo', hbl', hcells'⟩ := hsome' (by omega)
      obtain ⟨q0, q1⟩ := hcells j k.ps[j] (List.getElem?_eq_getElem hlt)
      obtain ⟨t0, t1⟩ := hcells' j k.ps[j] (List.getElem?_eq_getElem hlt)
      clear hcells hcells'
      have p0 := (hup.cell (p := ⟨b, off + j * 2, none⟩) hbl).trans q0
      have p1 := (hup.cell (p := ⟨b, off + j * 2 + 1, none⟩) hbl).trans q1
      have u0 := (hup.cell (p := ⟨b', off' + j * 2, none⟩) hbl').trans t0
      have u1 := (hup.cell (p := ⟨b', off' + j * 2 + 1, none⟩) hbl').trans t1
      go_wp2_with fail
      go_region
      go_wp2_with fail
      go_roundw
      case rel => exact ⟨j + 1, by omega, by go_num, by (repeat (first | with_reducible exact Up.refl _ | with_reducible assumption | with_reducible refine Up.set ?_ (by first | exact Nat.le_refl _ | (simp only []; omega) | (simp; omega)) _ | with_reducible refine Up.alloc ?_ _ | with_reducible refine Up.drew ?_ | refine Up.trans ?_ (by with_reducible assumption))), HK.out.1, HK.out.2⟩
      case measure => simp [intOf]; omega
    · have e : j = k.ps.length := by omega
      subst e
      go_wp2_with fail
      go_ret
      exact ⟨rfl, hup⟩
set_option maxRecDepth 100000 in
set_option maxHeartbeats 4000000 in
theorem soWriters_same (x : WrD) (v v' : Value) (lo lo' : Nat) (w : World) (hr : RdP lo w v x.k.ps) (hr' : RdP lo' w v' x.k.ps) :
    Calls Tryz.prog 9  #[wrV x v, wrV x v'] w (Same (.bool true) w) := by
  have cK := fun wq h1 h2 => soKnown_same x.k v v' lo lo' wq h1 h2
  have hrt := fun (wq : World) (hu : Up w wq) => hr.up hu
  have hrt' := fun (wq : World) (hu : Up w wq) => hr'.up hu
  obtain ⟨a, cap, rfl, -⟩ := id hr
  obtain ⟨a', cap', rfl, -⟩ := id hr'
  clear hr hr'
  have hX0 := WrAt.up (show WrAt w.heap.size x (.slice a x.k.ps.length cap) _ from (MapKept.heap_alloc w (.cells #[.int .i64 x.k.set.ord, .int .i64 x.k.set.lit, .int .i64 x.k.set.most, .slice a x.k.ps.length cap, .int .i64 x.k.base, .int .i64 x.k.last, .string (bs x.pend), .string (bs x.bits), .bool x.beg] 29)).1) ((Up.refl _).alloc (.cells #[.int .i64 x.k.set.ord, .int .i64 x.k.set.lit, .int .i64 x.k.set.most, .slice a' x.k.ps.length cap', .int .i64 x.k.base, .int .i64 x.k.last, .string (bs x.pend), .string (bs x.bits), .bool x.beg] 29))
  have hX1 : WrAt (w.heap.size + 1) x (.slice a' x.k.ps.length cap') _ := alloc2 w (.cells #[.int .i64 x.k.set.ord, .int .i64 x.k.set.lit, .int .i64 x.k.set.most, .slice a x.k.ps.length cap, .int .i64 x.k.base, .int .i64 x.k.last, .string (bs x.pend), .string (bs x.bits), .bool x.beg] 29) (.cells #[.int .i64 x.k.set.ord, .int .i64 x.k.set.lit, .int .i64 x.k.set.most, .slice a' x.k.ps.length cap', .int .i64 x.k.base, .int .i64 x.k.last, .string (bs x.pend), .string (bs x.bits), .bool x.beg] 29)
  unfold wrV at *
  simp only [kV] at cK
  go_enter Tryz.func9, Tryz.ntmps9
  go_wp2_with (first | ((go_at_call 48; (with_reducible refine (cK _ (hrt _ (by (repeat (first | with_reducible exact Up.refl _ | with_reducible assumption | with_reducible refine Up.set ?_ (by first | exact Nat.le_refl _ | (simp only []; omega) | (simp; omega)) _ | with_reducible refine Up.alloc ?_ _ | with_reducible refine Up.drew ?_ | refine Up.trans ?_ (by with_reducible assumption))))) (hrt' _ (by (repeat (first | with_reducible exact Up.refl _ | with_reducible assumption | with_reducible refine Up.set ?_ (by first | exact Nat.le_refl _ | (simp only []; omega) | (simp; omega)) _ | with_reducible refine Up.alloc ?_ _ | with_reducible refine Up.drew ?_ | refine Up.trans ?_ (by with_reducible assumption)))))).mono ?_); rintro e w1 ⟨rfl, U1⟩; have B1 := bcell U1; have Z1 := U1.size; (try simp at Z1); (try rw [Nat.add_one_le_iff] at Z1)); obtain ⟨b0, r0, r1, r2, r3, r4, r5, r6, r7, r8⟩ := (hX0.up U1).cells; obtain ⟨b1, s0, s1, s2, s3, s4, s5, s6, s7, s8⟩ := (hX1.up U1).cells) | fail)
  go_ret
  refine ⟨rfl, ?_⟩
  (repeat (first | with_reducible exact Up.refl _ | with_reducible assumption | with_reducible refine Up.set ?_ (by first | exact Nat.le_refl _ | (simp only []; omega) | (simp; omega)) _ | with_reducible refine Up.alloc ?_ _ | with_reducible refine Up.drew ?_ | refine Up.trans ?_ (by with_reducible assumption)))
end Go.Proofs.YtekogcjdaolcbaaGreatDoor

