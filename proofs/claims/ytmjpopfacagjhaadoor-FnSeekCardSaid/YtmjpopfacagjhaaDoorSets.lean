/- Texts joined into one: Lz1, Set1, Set2. Conditions: as each says. -/
import Derived.Test.YtmjpopfacagjhaaDoorBa

/- Plain model of settings, pairs and their words. Conditions: as each says. -/
namespace Go.Proofs.YtmjpopfacagjhaaDoor
set_option linter.unusedVariables false
set_option linter.unusedSimpArgs false
open Go.RowKit

/-- A string of a list of bytes. -/
def bs (l : List UInt8) : ByteArray := ⟨l.toArray⟩
theorem bs_data (l : List UInt8) : (bs l).data.toList = l := by simp [bs]
theorem bs_size (l : List UInt8) : (bs l).size = l.length := by simp [bs, ByteArray.size]
theorem bs_self (s : ByteArray) : bs s.data.toList = s := ba_ext (bs_data _)
theorem bs_app (a b : List UInt8) : bs a ++ bs b = bs (a ++ b) := ba_ext (by simp [bs_data])
theorem bs_ext (l : List UInt8) (i j : Nat) : (bs l).extract i j = bs ((l.drop i).take (j - i)) := ba_ext (by rw [Lib.extract_data, bs_data, bs_data])
theorem bs_inj {a b : List UInt8} (h : bs a = bs b) : a = b := by
  have := congrArg (fun s => s.data.toList) h
  simpa [bs_data] using this
theorem bs_num (l : List UInt8) : strOfNums (l.map fun x => (x.toNat : Int)) = bs l := by
  apply ba_ext
  rw [ba_nums, bs_data, List.map_map]
  conv => rhs; rw [← List.map_id l]
  apply List.map_congr_left
  intro x _
  simp
/-- The byte of a small number. -/
def ub (n : Int) : UInt8 := UInt8.ofNat n.toNat
theorem ub_nat {n : Int} (h0 : 0 ≤ n) (h1 : n < 256) : ((ub n).toNat : Int) = n := by
  unfold ub; rw [UInt8.toNat_ofNat']; omega

structure SetD where
  ord : Int
  lit : Int
  most : Int
structure PairD where
  pre : Int
  byt : Int
abbrev setV (s : SetD) : Value := .agg #[.int .i64 s.ord, .int .i64 s.lit, .int .i64 s.most]
def setOk (s : SetD) : Bool := (s.ord == 0 || s.ord == 1) && inB s.lit 1 8 && inB s.most (s.lit + 2) 10
/-- The clear code; the end code is the next one. -/
def clr (s : SetD) : Nat := 2 ^ s.lit.toNat
def lastC (s : SetD) : Nat := 2 ^ s.most.toNat - 1
theorem setOk_bd {s : SetD} (h : setOk s = true) : (s.ord = 0 ∨ s.ord = 1) ∧ (1 ≤ s.lit ∧ s.lit ≤ 8) ∧ s.lit + 2 ≤ s.most ∧ s.most ≤ 10 := by
  unfold setOk at h
  simp only [Bool.and_eq_true, Bool.or_eq_true, beq_iff_eq, inB_iff] at h
  exact ⟨h.1.1, h.1.2, h.2.1, h.2.2⟩
theorem clr_bd {s : SetD} (h : setOk s = true) : 2 ≤ clr s ∧ clr s ≤ 256 ∧ 4 * clr s ≤ lastC s + 1 ∧ lastC s ≤ 1023 := by
  obtain ⟨-, ⟨h1, h2⟩, h3, h4⟩ := setOk_bd h
  obtain ⟨n, hn⟩ : ∃ n : Nat, s.lit = n := ⟨s.lit.toNat, by omega⟩
  obtain ⟨m, hm⟩ : ∃ m : Nat, s.most = m := ⟨s.most.toNat, by omega⟩
  rw [hn] at h1 h2 h3
  rw [hm] at h3 h4
  have e1 : clr s = 2 ^ n := by unfold clr; rw [hn]; rfl
  have e2 : lastC s = 2 ^ m - 1 := by unfold lastC; rw [hm]; rfl
  rw [e1, e2]
  clear e1 e2 hn hm
  have a1 : 2 ^ 1 ≤ 2 ^ n := Nat.pow_le_pow_right (by decide) (by omega)
  have a2 : 2 ^ n ≤ 2 ^ 8 := Nat.pow_le_pow_right (by decide) (by omega)
  have a3 : 2 ^ (n + 2) ≤ 2 ^ m := Nat.pow_le_pow_right (by decide) (by omega)
  have a4 : 2 ^ m ≤ 2 ^ 10 := Nat.pow_le_pow_right (by decide) (by omega)
  rw [Nat.pow_add] at a3
  omega

/-- A literal's code, or the code of one of the first n pairs. -/
def codeOk (c n : Nat) (x : Int) : Bool := (decide (0 ≤ x) && decide (x < c)) || (decide ((c : Int) + 2 ≤ x) && decide (x < c + 2 + n))
theorem codeOk_iff {c n : Nat} {x : Int} : codeOk c n x = true ↔ (0 ≤ x ∧ x < c) ∨ ((c : Int) + 2 ≤ x ∧ x < c + 2 + n) := by simp [codeOk]
theorem codeOk_mono {c n m : Nat} {x : Int} (h : codeOk c n x = true) (hm : n ≤ m) : codeOk c m x = true := by
  rw [codeOk_iff] at *; omega
def prOk (c : Nat) (ps : List PairD) (i : Nat) : Bool := match ps[i]? with
  | none => false
  | some p => codeOk c i p.pre && (decide (0 ≤ p.byt) && decide (p.byt < c))
theorem prOk_get {c : Nat} {ps : List PairD} {i : Nat} (h : i < ps.length) : prOk c ps i = (codeOk c i ps[i].pre && (decide (0 ≤ ps[i].byt) && decide (ps[i].byt < c))) := by
  unfold prOk; rw [List.getElem?_eq_getElem h]
/-- All pairs may stand where they stand. -/
def PrsOk (c : Nat) (ps : List PairD) : Prop := ∀ i, i < ps.length → prOk c ps i = true
theorem PrsOk.get {c : Nat} {ps : List PairD} (h : PrsOk c ps) {i : Nat} (hi : i < ps.length) : codeOk c i ps[i].pre = true ∧ 0 ≤ ps[i].byt ∧ ps[i].byt < c := by
  have := h i hi
  rw [prOk_get hi] at this
  simpa using this
theorem prsOk_nil (c : Nat) : PrsOk c [] := fun i hi => absurd hi (Nat.not_lt_zero _)
theorem PrsOk.take {c : Nat} {ps : List PairD} (h : PrsOk c ps) (n : Nat) : PrsOk c (ps.take n) := fun i hi => by
  have hi' : i < ps.length := by rw [List.length_take] at hi; omega
  rw [prOk_get hi, List.getElem_take, ← prOk_get hi']
  exact h i hi'
theorem PrsOk.snoc {c : Nat} {ps : List PairD} (h : PrsOk c ps) {p : PairD} (h1 : codeOk c ps.length p.pre = true) (h2 : 0 ≤ p.byt) (h3 : p.byt < c) : PrsOk c (ps ++ [p]) := fun i hi => by
  rw [prOk_get hi]
  rw [List.length_append] at hi
  simp only [List.length_cons, List.length_nil] at hi
  rcases Nat.lt_or_ge i ps.length with hl | hl
  · rw [List.getElem_append_left hl, ← prOk_get hl]; exact h i hl
  · have e : i = ps.length := by omega
    subst e
    rw [List.getElem_append_right (Nat.le_refl _)]
    simp [h1, h2, h3]

/-- A code's word, the pairs' words being ws. -/
def lookW (c : Nat) (ws : List (List UInt8)) (x : Int) : List UInt8 := if x < c then [ub x] else ws.getD (x.toNat - (c + 2)) []
def wordsF (c : Nat) (ps : List PairD) : List (List UInt8) := ps.foldl (fun ws p => ws ++ [lookW c ws p.pre ++ [ub p.byt]]) []
theorem wordsF_snoc (c : Nat) (ps : List PairD) (p : PairD) : wordsF c (ps ++ [p]) = wordsF c ps ++ [lookW c (wordsF c ps) p.pre ++ [ub p.byt]] := by simp [wordsF, List.foldl_append]
theorem snoc_ind {α : Type} {P : List α → Prop} (h0 : P []) (h1 : ∀ l a, P l → P (l ++ [a])) (l : List α) : P l := by
  have : ∀ n (l : List α), l.length = n → P l := by
    intro n
    induction n with
    | zero => intro l hl; rw [List.length_eq_zero_iff.1 hl]; exact h0
    | succ n ih =>
      intro l hl
      rcases List.eq_nil_or_concat l with rfl | ⟨l', a, rfl⟩
      · exact h0
      · rw [List.concat_eq_append] at *
        exact h1 _ _ (ih l' (by simpa using hl))
  exact this _ l rfl
theorem wordsF_length (c : Nat) (ps : List PairD) : (wordsF c ps).length = ps.length := by
  induction ps using snoc_ind with
  | h0 => rfl
  | h1 l a ih => rw [wordsF_snoc, List.length_append, ih]; simp
theorem wordsF_take (c : Nat) (ps : List PairD) (i : Nat) : wordsF c (ps.take i) = (wordsF c ps).take i := by
  induction ps using snoc_ind with
  | h0 => simp [wordsF]
  | h1 l a ih =>
    rcases Nat.lt_or_ge l.length i with h | h
    · rw [List.take_of_length_le (by simp; omega), List.take_of_length_le (by rw [wordsF_length]; simp; omega)]
    · rw [List.take_append_of_le_length h, ih, wordsF_snoc, List.take_append_of_le_length (by rw [wordsF_length]; exact h)]
theorem lookW_take {c : Nat} {ws : List (List UInt8)} {n : Nat} {x : Int} (h : codeOk c n x = true) : lookW c (ws.take n) x = lookW c ws x := by
  rw [codeOk_iff] at h
  unfold lookW
  split
  · rfl
  · rw [List.getD_eq_getElem?_getD, List.getD_eq_getElem?_getD, List.getElem?_take, if_pos (by omega)]
/-- The word of a code. -/
def wordP (c : Nat) (ps : List PairD) (x : Int) : List UInt8 := lookW c (wordsF c ps) x
theorem wordP_lit {c : Nat} {ps : List PairD} {x : Int} (h : x < c) : wordP c ps x = [ub x] := by unfold wordP lookW; rw [if_pos h]
theorem wordP_take {c : Nat} {ps : List PairD} {n : Nat} {x : Int} (h : codeOk c n x = true) : wordP c (ps.take n) x = wordP c ps x := by
  unfold wordP; rw [wordsF_take, lookW_take h]
theorem wordP_app {c : Nat} {ps qs : List PairD} {x : Int} (h : codeOk c ps.length x = true) : wordP c (ps ++ qs) x = wordP c ps x := by
  rw [← wordP_take h, List.take_left]
theorem wordP_pair {c : Nat} {ps : List PairD} (hok : PrsOk c ps) {i : Nat} (hi : i < ps.length) : wordP c ps ((c : Int) + 2 + i) = wordP c ps ps[i].pre ++ [ub ps[i].byt] := by
  have hp := (hok.get hi).1
  have e1 : wordP c ps ((c : Int) + 2 + i) = wordP c (ps.take (i + 1)) ((c : Int) + 2 + i) := (wordP_take (by rw [codeOk_iff]; omega)).symm
  have hl : (wordsF c (ps.take i)).length = i := by rw [wordsF_length, List.length_take]; omega
  rw [e1, List.take_succ_eq_append_getElem hi]
  unfold wordP
  rw [wordsF_snoc]
  have hN := lookW_take (ws := wordsF c ps) hp
  rw [wordsF_take] at *
  rw [hN]
  conv => lhs; unfold lookW
  rw [if_neg (by omega), List.getD_eq_getElem?_getD, List.getElem?_append_right (by rw [hl]; omega), hl, show ((c : Int) + 2 + i).toNat - (c + 2) - i = 0 by omega]
  rfl
theorem pre_lt {c : Nat} {ps : List PairD} (hok : PrsOk c ps) {i : Nat} (hi : i < ps.length) : 0 ≤ ps[i].pre ∧ ps[i].pre < (c : Int) + 2 + i ∧ codeOk c ps.length ps[i].pre = true := by
  have h := (hok.get hi).1
  have h2 := codeOk_mono h (by omega : i ≤ ps.length)
  rw [codeOk_iff] at h
  exact ⟨by omega, by omega, h2⟩
/-- Facts on all words, by the codes' order. -/
theorem code_ind {c : Nat} {ps : List PairD} (hok : PrsOk c ps) {P : Int → Prop} (h0 : ∀ x : Int, 0 ≤ x → x < c → P x) (h1 : ∀ i (hi : i < ps.length), P ps[i].pre → P ((c : Int) + 2 + i)) {x : Int} (hx : codeOk c ps.length x = true) : P x := by
  have : ∀ (n : Nat) (x : Int), x.toNat < n → codeOk c ps.length x = true → P x := by
    intro n
    induction n with
    | zero => intro x h _; exact absurd h (Nat.not_lt_zero _)
    | succ n ih =>
      intro x hn hx
      rcases codeOk_iff.1 hx with h | h
      · exact h0 x h.1 h.2
      · obtain ⟨i, hi⟩ : ∃ i : Nat, x = c + 2 + i := ⟨(x - c - 2).toNat, by omega⟩
        subst hi
        have hi' : i < ps.length := by omega
        obtain ⟨p1, p2, p3⟩ := pre_lt hok hi'
        exact h1 i hi' (ih _ (by omega) p3)
  exact this _ x (Nat.lt_succ_self _) hx
theorem wordP_pos {c : Nat} {ps : List PairD} (hok : PrsOk c ps) {x : Int} (hx : codeOk c ps.length x = true) : 1 ≤ (wordP c ps x).length := by
  refine code_ind hok (P := fun x => 1 ≤ (wordP c ps x).length) (fun x h1 h2 => ?_) (fun i hi ih => ?_) hx
  · rw [wordP_lit h2]; simp
  · rw [wordP_pair hok hi]; simp
theorem wordP_le {c : Nat} {ps : List PairD} (hok : PrsOk c ps) {x : Int} (hx : codeOk c ps.length x = true) : ((wordP c ps x).length : Int) ≤ x + 1 := by
  refine code_ind hok (P := fun x => ((wordP c ps x).length : Int) ≤ x + 1) (fun x h1 h2 => ?_) (fun i hi ih => ?_) hx
  · rw [wordP_lit h2]; simp; omega
  · obtain ⟨p1, p2, p3⟩ := pre_lt hok hi; rw [wordP_pair hok hi]; simp; omega
theorem wordP_len {c : Nat} {ps : List PairD} (hok : PrsOk c ps) {x : Int} (hx : codeOk c ps.length x = true) : (wordP c ps x).length ≤ ps.length + 1 := by
  have : ((wordP c ps x).length : Int) ≤ (if x < c then 1 else x - c) := by
    refine code_ind hok (P := fun x => ((wordP c ps x).length : Int) ≤ (if x < c then 1 else x - c)) (fun x h1 h2 => ?_) (fun i hi ih => ?_) hx
    · rw [wordP_lit h2, if_pos h2]; simp
    ·
      obtain ⟨p1, p2, p3⟩ := pre_lt hok hi
      rw [wordP_pair hok hi, if_neg (by omega), List.length_append]
      simp only [List.length_cons, List.length_nil]
      split at ih <;> omega
  rw [codeOk_iff] at hx
  split at this <;> omega
theorem wordP_lits {c : Nat} (hc : c ≤ 256) {ps : List PairD} (hok : PrsOk c ps) {x : Int} (hx : codeOk c ps.length x = true) : ∀ b ∈ wordP c ps x, b.toNat < c := by
  refine code_ind hok (P := fun x => ∀ b ∈ wordP c ps x, b.toNat < c) (fun x h1 h2 => ?_) (fun i hi ih => ?_) hx
  ·
    rw [wordP_lit h2]
    intro b hb
    simp only [List.mem_singleton] at hb
    subst hb
    have := ub_nat h1 (by omega : x < 256)
    omega
  ·
    rw [wordP_pair hok hi]
    intro b hb
    rcases List.mem_append.1 hb with hb | hb
    · exact ih b hb
    · simp only [List.mem_singleton] at hb
      subst hb
      obtain ⟨-, h2, h3⟩ := hok.get hi
      have := ub_nat h2 (by omega : ps[i].byt < 256)
      omega

/-- What is known. -/
structure KnD where
  set : SetD
  ps : List PairD
  base : Int
  last : Int
namespace KnD
variable (k : KnD)
def c : Nat := clr k.set
def next : Nat := k.c + 2 + k.ps.length
def grow : Bool := decide (k.last ≠ -1) && decide (k.next ≤ lastC k.set)
def top : Nat := if k.grow then k.next else k.next - 1
/-- What the walks of the reference ask and keep. -/
structure Ok : Prop where
  set : setOk k.set = true
  ps : PrsOk k.c k.ps
  len : k.ps.length + k.c + 1 ≤ lastC k.set
  base0 : 0 ≤ k.base
  base1 : k.base ≤ k.ps.length
  last : k.last = -1 ∨ codeOk k.c k.ps.length k.last = true
def word (x : Int) : List UInt8 := wordP k.c k.ps x
/-- The word of a code that can follow. -/
def any (x : Int) : List UInt8 := if x = k.next then k.word k.last ++ (k.word k.last).take 1 else k.word x
def follows (x : Int) : Bool := codeOk k.c k.ps.length x || (k.grow && decide (x = k.next))
def first (x : Int) : Int := ((k.any x).getD 0 0).toNat
def after (x : Int) : KnD := ⟨k.set, k.ps ++ (if k.grow then [⟨k.last, k.first x⟩] else []), k.base, x⟩
def cleared : KnD := ⟨k.set, k.ps.take k.base.toNat, k.base, -1⟩
end KnD

theorem KnD.Ok.c_bd {k : KnD} (h : k.Ok) : 2 ≤ k.c ∧ k.c ≤ 256 ∧ 4 * k.c ≤ lastC k.set + 1 ∧ lastC k.set ≤ 1023 := clr_bd h.set
theorem KnD.Ok.lastOk {k : KnD} (h : k.Ok) (hg : k.grow = true) : codeOk k.c k.ps.length k.last = true := by
  unfold KnD.grow at hg
  simp only [Bool.and_eq_true, decide_eq_true_eq] at hg
  exact h.last.resolve_left hg.1
theorem KnD.next_bd {k : KnD} (h : k.Ok) : k.next ≤ 1024 := by
  have := h.c_bd; have := h.len
  unfold KnD.next; omega
theorem KnD.top_bd {k : KnD} (h : k.Ok) : k.c + 1 ≤ k.top ∧ k.top ≤ lastC k.set := by
  have h1 := h.len
  unfold KnD.top
  split
  · next hg =>
    unfold KnD.grow at hg
    simp only [Bool.and_eq_true, decide_eq_true_eq] at hg
    unfold KnD.next at *; omega
  · unfold KnD.next; omega
theorem KnD.any_word {k : KnD} {x : Int} (h : codeOk k.c k.ps.length x = true) : k.any x = k.word x := by
  unfold KnD.any
  rw [if_neg]
  rw [codeOk_iff] at h
  unfold KnD.next; omega
theorem KnD.follows_cases {k : KnD} (h : k.Ok) {x : Int} (hf : k.follows x = true) : codeOk k.c k.ps.length x = true ∨ (k.grow = true ∧ x = k.next ∧ codeOk k.c k.ps.length k.last = true) := by
  unfold KnD.follows at hf
  simp only [Bool.or_eq_true, Bool.and_eq_true, decide_eq_true_eq] at hf
  rcases hf with hf | hf
  · exact .inl hf
  · exact .inr ⟨hf.1, hf.2, h.lastOk hf.1⟩
theorem KnD.any_pos {k : KnD} (h : k.Ok) {x : Int} (hf : k.follows x = true) : 1 ≤ (k.any x).length := by
  rcases KnD.follows_cases h hf with hc | ⟨hg, rfl, hl⟩
  · rw [KnD.any_word hc]; exact wordP_pos h.ps hc
  · unfold KnD.any; rw [if_pos rfl, List.length_append]
    have : 1 ≤ (k.word k.last).length := wordP_pos h.ps hl
    omega
theorem KnD.any_len {k : KnD} (h : k.Ok) {x : Int} (hf : k.follows x = true) : (k.any x).length ≤ 1024 := by
  have hb := h.c_bd
  have hl' := h.len
  rcases KnD.follows_cases h hf with hc | ⟨hg, rfl, hl⟩
  · rw [KnD.any_word hc]
    have : (k.word x).length ≤ k.ps.length + 1 := wordP_len h.ps hc
    omega
  · unfold KnD.any; rw [if_pos rfl, List.length_append, List.length_take]
    have : (k.word k.last).length ≤ k.ps.length + 1 := wordP_len h.ps hl
    omega
theorem KnD.any_lits {k : KnD} (h : k.Ok) {x : Int} (hf : k.follows x = true) : ∀ b ∈ k.any x, b.toNat < k.c := by
  have hb := h.c_bd
  rcases KnD.follows_cases h hf with hc | ⟨hg, rfl, hl⟩
  · rw [KnD.any_word hc]; exact wordP_lits hb.2.1 h.ps hc
  · unfold KnD.any; rw [if_pos rfl]
    intro b hb'
    have hw : ∀ b ∈ k.word k.last, b.toNat < k.c := wordP_lits hb.2.1 h.ps hl
    rcases List.mem_append.1 hb' with h1 | h1
    · exact hw b h1
    · exact hw b (List.mem_of_mem_take h1)
theorem KnD.first_bd {k : KnD} (h : k.Ok) {x : Int} (hf : k.follows x = true) : 0 ≤ k.first x ∧ k.first x < k.c := by
  have h1 := KnD.any_pos h hf
  have h2 := KnD.any_lits h hf
  unfold KnD.first
  cases hw : k.any x with
  | nil => rw [hw] at h1; simp at h1
  | cons b l =>
    have := h2 b (by rw [hw]; exact List.mem_cons_self ..)
    simp only [List.getD_cons_zero]; omega
theorem KnD.after_ok {k : KnD} (h : k.Ok) {x : Int} (hf : k.follows x = true) : (k.after x).Ok := by
  obtain ⟨f1, f2⟩ := KnD.first_bd h hf
  have hfc := KnD.follows_cases h hf
  unfold KnD.after
  cases hg : k.grow
  · have e : k.ps ++ (if false = true then [⟨k.last, k.first x⟩] else []) = k.ps := by simp
    rw [e]
    refine ⟨h.set, h.ps, h.len, h.base0, h.base1, .inr ?_⟩
    rcases hfc with hc | ⟨hg', _⟩
    · exact hc
    · rw [hg] at hg'; cases hg'
  · have hl := h.lastOk hg
    have hn : k.next ≤ lastC k.set := by
      unfold KnD.grow at hg
      simp only [Bool.and_eq_true, decide_eq_true_eq] at hg
      exact hg.2
    have hb1 := h.base1
    refine ⟨h.set, PrsOk.snoc h.ps hl f1 f2, ?_, h.base0, ?_, .inr ?_⟩
    · simp only [if_true, List.length_append, List.length_cons, List.length_nil]
      show k.ps.length + (0 + 1) + k.c + 1 ≤ lastC k.set
      unfold KnD.next at hn; omega
    · simp only [if_true, List.length_append, List.length_cons, List.length_nil]; omega
    · simp only [if_true, List.length_append, List.length_cons, List.length_nil]
      show codeOk k.c (k.ps.length + (0 + 1)) x = true
      rcases hfc with hc | ⟨_, rfl, _⟩
      · exact codeOk_mono hc (by omega)
      · rw [codeOk_iff]; unfold KnD.next; omega
theorem KnD.cleared_ok {k : KnD} (h : k.Ok) : k.cleared.Ok := by
  have h0 := h.base0; have h1 := h.base1; have h2 := h.len
  have hl : (k.ps.take k.base.toNat).length = k.base.toNat := by rw [List.length_take]; omega
  refine ⟨h.set, h.ps.take _, ?_, h0, ?_, .inl rfl⟩
  · show (k.ps.take k.base.toNat).length + k.c + 1 ≤ lastC k.set
    rw [hl]; omega
  · show k.base ≤ ((k.ps.take k.base.toNat).length : Int)
    rw [hl]; omega

end Go.Proofs.YtmjpopfacagjhaaDoor

/- Walks of the reference's functions on settings. Conditions: as each says. -/
namespace Go.Proofs.YtmjpopfacagjhaaDoor
set_option linter.unusedVariables false
set_option linter.unusedSimpArgs false
open Go.RowKit

set_option maxHeartbeats 400000 in
theorem l1Order_any (n : Int) (w : World) :
    Calls Tryd.prog 76 #[.int .i64 n] w fun e w' => e = .returned (.bool (n == 0 || n == 1)) ∧ w = w' := by
  by_cases h : n = 0
  · subst h
    go_enter Tryd.func76, Tryd.ntmps76
    go_wp2
    go_ret
    exact ⟨rfl, rfl⟩
  · have h' : (n == 0) = false := by simpa using h
    go_enter Tryd.func76, Tryd.ntmps76
    go_wp2
    go_ret
    exact ⟨ret_bool (by rw [h', Bool.false_or]), rfl⟩

theorem pow2_small {n : Nat} (h : n ≤ 16) : (2 : Int) ^ n ≤ 65536 ∧ 1 ≤ (2 : Int) ^ n := by
  have h1 : 2 ^ n ≤ 2 ^ 16 := Nat.pow_le_pow_right (by decide) h
  have h2 : 0 < 2 ^ n := Nat.pow_pos (by decide)
  have e : ((2 ^ n : Nat) : Int) = (2 : Int) ^ n := by simp
  omega

set_option maxHeartbeats 400000 in
theorem l1Two_any (n : Nat) (w : World) (h : n ≤ 16) :
    Calls Tryd.prog 68 #[.int .i64 n] w fun e w' => e = .returned (.int .i64 ((2 ^ n : Nat) : Int)) ∧ w = w' := by
  go_enter Tryd.func68, Tryd.ntmps68
  go_wp2
  go_ret
  exact ⟨ret_int (by have := pow2_small h; rw [IntWalk.wrap64_in _ (by omega)]; simp), rfl⟩
theorem l1Two_at (n : Nat) (i v : Int) (hi : i = n) (hv : ((2 ^ n : Nat) : Int) = v) (h : n ≤ 16) (w : World) :
    Calls Tryd.prog 68 #[.int .i64 i] w fun e w' => e = .returned (.int .i64 v) ∧ w = w' := by
  subst hi; subst hv
  exact l1Two_any n w h

set_option maxRecDepth 100000 in
set_option maxHeartbeats 1000000 in
theorem setS_any (o l m : Int) (w : World) :
    Calls Tryd.prog 69 #[.agg #[.int .i64 o, .int .i64 l, .int .i64 m]] w (Same (.bool (setOk ⟨o, l, m⟩)) w) := by
  cases h1 : (o == 0 || o == 1) <;> cases h2 : inB l 1 8
  case true.true =>
    obtain ⟨g1, g2⟩ := inB_iff.1 h2
    go_enter Tryd.func69, Tryd.ntmps69
    go_wp2_with (first | (go_at_call 76; (with_reducible refine (l1Order_any _ _).mono ?_); rintro e w' ⟨rfl, rfl⟩) | (go_at_call 27; (with_reducible refine (l1In_any _ _ _ _).mono ?_); rintro e w' ⟨rfl, rfl⟩))
    go_ret
    refine ⟨ret_bool (by simp only [setOk, h1, h2]; rfl), ?_⟩
    (repeat (first | exact Up.refl _ | refine Up.alloc ?_ _ | refine Up.drew ?_ | refine Up.set ?_ (by first | exact Nat.le_refl _ | (simp; done) | (simp; omega)) _ | refine Up.trans ?_ (by with_reducible assumption)))
  all_goals
    go_enter Tryd.func69, Tryd.ntmps69
    go_wp2_with (first | (go_at_call 76; (with_reducible refine (l1Order_any _ _).mono ?_); rintro e w' ⟨rfl, rfl⟩) | (go_at_call 27; (with_reducible refine (l1In_any _ _ _ _).mono ?_); rintro e w' ⟨rfl, rfl⟩))
    go_ret
    refine ⟨ret_bool (by simp only [setOk, h1, h2]; rfl), ?_⟩
    (repeat (first | exact Up.refl _ | refine Up.alloc ?_ _ | refine Up.drew ?_ | refine Up.set ?_ (by first | exact Nat.le_refl _ | (simp; done) | (simp; omega)) _ | refine Up.trans ?_ (by with_reducible assumption)))

end Go.Proofs.YtmjpopfacagjhaaDoor

/- Walks of the reference's functions on settings and on data that fits. Conditions: the setting is valid where it says so. -/
namespace Go.Proofs.YtmjpopfacagjhaaDoor
set_option linter.unusedVariables false
set_option linter.unusedSimpArgs false
open Go.RowKit

set_option maxRecDepth 100000 in
set_option maxHeartbeats 1000000 in
theorem l1Clear_any (s : SetD) (w : World) (h : setOk s = true) :
    Calls Tryd.prog 60  #[setV s] w (Same (.int .i64 (clr s)) w) := by
  obtain ⟨o, l, m⟩ := s
  obtain ⟨-, ⟨h1, h2⟩, -, -⟩ := setOk_bd h
  simp only at h1 h2
  obtain ⟨n, rfl⟩ : ∃ n : Nat, l = n := ⟨l.toNat, by omega⟩
  clear h
  have e : Hid (((2 ^ n : Nat) : Int) = (clr ⟨o, n, m⟩ : Nat)) := rfl
  simp only [setV]
  go_enter Tryd.func60, Tryd.ntmps60
  go_wp2_with ((go_at_call 68; (with_reducible refine (l1Two_any n _ (by omega)).mono ?_); rintro e w' ⟨rfl, rfl⟩))
  go_ret
  refine ⟨ret_int e.out, ?_⟩
  (repeat (first | exact Up.refl _ | refine Up.alloc ?_ _ | refine Up.drew ?_ | refine Up.set ?_ (by first | exact Nat.le_refl _ | (simp; done) | (simp; omega)) _ | refine Up.trans ?_ (by with_reducible assumption)))
set_option maxRecDepth 100000 in
set_option maxHeartbeats 1000000 in
theorem l1End_any (s : SetD) (w : World) (h : setOk s = true) :
    Calls Tryd.prog 85  #[setV s] w (Same (.int .i64 ((clr s : Int) + 1)) w) := by
  have hb := clr_bd h
  obtain ⟨o, l, m⟩ := s
  obtain ⟨-, ⟨h1, h2⟩, -, -⟩ := setOk_bd h
  simp only at h1 h2
  obtain ⟨n, rfl⟩ : ∃ n : Nat, l = n := ⟨l.toNat, by omega⟩
  clear h
  have e : Hid (((2 ^ n : Nat) : Int) = (clr ⟨o, n, m⟩ : Nat)) := rfl
  generalize clr ⟨o, (n : Int), m⟩ = c at *
  have hb1 := hb.1
  have hb2 := hb.2.1
  clear hb
  simp only [setV]
  go_enter Tryd.func85, Tryd.ntmps85
  go_wp2_with ((go_at_call 68; (with_reducible refine (l1Two_at n _ c rfl e.out (by omega) _).mono ?_); rintro e w' ⟨rfl, rfl⟩))
  go_ret
  refine ⟨rfl, ?_⟩
  (repeat (first | exact Up.refl _ | refine Up.alloc ?_ _ | refine Up.drew ?_ | refine Up.set ?_ (by first | exact Nat.le_refl _ | (simp; done) | (simp; omega)) _ | refine Up.trans ?_ (by with_reducible assumption)))
set_option maxRecDepth 100000 in
set_option maxHeartbeats 1000000 in
theorem l1Last_any (s : SetD) (w : World) (h : setOk s = true) :
    Calls Tryd.prog 84  #[setV s] w (Same (.int .i64 (lastC s : Nat)) w) := by
  have hb := clr_bd h
  obtain ⟨o, l, m⟩ := s
  obtain ⟨-, ⟨h1, h2⟩, h3, h4⟩ := setOk_bd h
  simp only at h1 h2 h3 h4
  obtain ⟨n, rfl⟩ : ∃ n : Nat, m = n := ⟨m.toNat, by omega⟩
  clear h
  have hp : 0 < 2 ^ n := Nat.pow_pos (by decide)
  have e : Hid (((2 ^ n : Nat) : Int) = ((lastC ⟨o, l, n⟩ + 1 : Nat) : Int)) := by
    show ((2 ^ n : Nat) : Int) = ((2 ^ n - 1 + 1 : Nat) : Int)
    omega
  generalize lastC ⟨o, l, (n : Int)⟩ = c at *
  have hb1 := hb.2.2.2
  clear hb hp
  simp only [setV]
  go_enter Tryd.func84, Tryd.ntmps84
  go_wp2_with ((go_at_call 68; (with_reducible refine (l1Two_at n _ _ rfl e.out (by omega) _).mono ?_); rintro e w' ⟨rfl, rfl⟩))
  go_ret
  refine ⟨ret_int (by omega), ?_⟩
  (repeat (first | exact Up.refl _ | refine Up.alloc ?_ _ | refine Up.drew ?_ | refine Up.set ?_ (by first | exact Nat.le_refl _ | (simp; done) | (simp; omega)) _ | refine Up.trans ?_ (by with_reducible assumption)))

theorem ba_len (s : ByteArray) : s.data.toList.length = s.size := by simp
/-- All bytes are literals. -/
def litsL (c : Nat) (l : List UInt8) : Bool := l.all fun b => decide (b.toNat < c)
theorem litsL_no {c : Nat} {l : List UInt8} {k : Nat} (h : k < l.length) (hn : ¬ l[k].toNat < c) : litsL c l = false := by
  unfold litsL; rw [List.all_eq_false]; exact ⟨l[k], List.getElem_mem h, by simp; omega⟩
theorem litsL_yes {c : Nat} {l : List UInt8} (h : ∀ k (hk : k < l.length), l[k].toNat < c) : litsL c l = true := by
  unfold litsL; rw [List.all_eq_true]
  intro b hb
  obtain ⟨k, hk, rfl⟩ := List.mem_iff_getElem.1 hb
  simpa using h k hk
theorem litsL_get {c : Nat} {l : List UInt8} (h : litsL c l = true) {k : Nat} (hk : k < l.length) : l[k].toNat < c := by
  unfold litsL at h
  rw [List.all_eq_true] at h
  simpa using h _ (List.getElem_mem hk)

/-- A setting lies in the block b. -/
def SetAt (b : Nat) (o l m : Int) (w : World) : Prop := w.heap[b]? = some (.cells #[.int .i64 o, .int .i64 l, .int .i64 m] 63)
theorem SetAt.cells {b : Nat} {o l m : Int} {w : World} (h : SetAt b o l m w) : b < w.heap.size ∧ w.cell? ⟨b, 0, none⟩ = some (.int .i64 o) ∧ w.cell? ⟨b, 1, none⟩ = some (.int .i64 l) ∧ w.cell? ⟨b, 2, none⟩ = some (.int .i64 m) :=
  ⟨(Array.getElem?_eq_some_iff.1 h).1, box_cell h 0, box_cell h 1, box_cell h 2⟩
def RelL (c : Nat) (s : ByteArray) (o l m : Int) (w : World) (i : Value) (wr : World) : Prop := ∃ k : Nat, k ≤ s.size ∧ i = .int .i64 k ∧ Up w wr ∧ SetAt w.heap.size o l m wr ∧ (∀ j (hj : j < s.data.toList.length), j < k → (s.data.toList[j]).toNat < c)

set_option maxRecDepth 100000 in
set_option maxHeartbeats 1000000 in
theorem l1Fits_any (o l m : Int) (s : ByteArray) (w : World) (h : setOk ⟨o, l, m⟩ = true) (hs : s.size ≤ 1073741824) :
    Calls Tryd.prog 70  #[.agg #[.int .i64 o, .int .i64 l, .int .i64 m], .string s] w (Same (.bool (litsL (clr ⟨o, l, m⟩) s.data.toList)) w) := by
  have cC := fun w => l1Clear_any ⟨o, l, m⟩ w h
  obtain ⟨hb1, hb2, -, -⟩ := clr_bd h
  generalize clr ⟨o, l, m⟩ = c at *
  unfold setV at cC
  clear h
  go_enter Tryd.func70, Tryd.ntmps70
  go_wp2
  go_loopw [5] (fun i wr => RelL c s o l m w i wr) (fun i _ => s.size - (intOf i).toNat)
  case atStart => exact ⟨0, Nat.zero_le _, rfl, by (repeat (first | exact Up.refl _ | refine Up.alloc ?_ _ | refine Up.drew ?_ | refine Up.set ?_ (by first | exact Nat.le_refl _ | (simp; done) | (simp; omega)) _ | refine Up.trans ?_ (by with_reducible assumption))), (MapKept.heap_alloc w _).1, fun j hj h => absurd h (Nat.not_lt_zero _)⟩
  case round =>
    obtain ⟨k, hk, rfl, hup, hset, hall⟩ := hrel
    obtain ⟨b0, b1, b2, b3⟩ := hset.cells
    have HB := Lib.hid hset
    clear hset
    have HA := Lib.hid hall
    clear hall
    by_cases hlt : k < s.size
    · have hu := u8_bd s[k]
      have hl : k < s.data.toList.length := by simpa using hlt
      have e : s[k] = s.data.toList[k] := rfl
      by_cases hc : s[k].toNat < c
      · have hN : Hid (∀ j (hj : j < s.data.toList.length), j < k + 1 → (s.data.toList[j]).toNat < c) := fun j hj hjk => by
          rcases Nat.lt_or_ge j k with h | h
          · exact HA.out j hj h
          · have : j = k := by omega
            subst this; exact hc
        clear e
        go_wp2
        refine wp_region_up 7 (by kernel_rfl) (by kernel_rfl) ?_
        simp only [List.take, List.drop]
        repeat (refine wpUp_step (fun K hK => ?_); go_simp; (try simp only [↓IntWalk.iteOmega]); first
          | (refine hK _ _ ?_; clear hK K)
          | (apply stepU_c
             · intro wq hwq; (have hbq := bcell hwq; (repeat (first | refine fills_no (by rfl) ?_ | refine fills_yes (by rfl) (fun vq hvq => ?_))); simp only [List.filter_nil, fills]; unfold upAt; go_simp; (try go_bits); (try simp only [↓IntWalk.iteOmega]); (try (rw [dif_pos (by omega)]; go_simp; try go_bits)); first | exact upOut_value | (apply upOut_call; (go_at_call 60; exact cC _)) | (apply upOut_eq; (go_at_call 60; exact cC _)))
             go_simp; refine hK _ _ ?_; clear hK K))
        refine wpUp_nil (fun wq hwq => ?_)
        simp only [fills]
        go_wp2
        go_roundw
        case rel => exact ⟨k + 1, by omega, by go_num, by (repeat (first | exact Up.refl _ | refine Up.alloc ?_ _ | refine Up.drew ?_ | refine Up.set ?_ (by first | exact Nat.le_refl _ | (simp; done) | (simp; omega)) _ | refine Up.trans ?_ (by with_reducible assumption))), box_up hwq HB.out, hN.out⟩
        case measure => simp [intOf]; omega
      · have hN : Hid (litsL c s.data.toList = false) := litsL_no hl (by rw [← e]; exact hc)
        clear e
        go_wp2
        refine wp_region_up 7 (by kernel_rfl) (by kernel_rfl) ?_
        simp only [List.take, List.drop]
        repeat (refine wpUp_step (fun K hK => ?_); go_simp; (try simp only [↓IntWalk.iteOmega]); first
          | (refine hK _ _ ?_; clear hK K)
          | (apply stepU_c
             · intro wq hwq; (have hbq := bcell hwq; (repeat (first | refine fills_no (by rfl) ?_ | refine fills_yes (by rfl) (fun vq hvq => ?_))); simp only [List.filter_nil, fills]; unfold upAt; go_simp; (try go_bits); (try simp only [↓IntWalk.iteOmega]); (try (rw [dif_pos (by omega)]; go_simp; try go_bits)); first | exact upOut_value | (apply upOut_call; (go_at_call 60; exact cC _)) | (apply upOut_eq; (go_at_call 60; exact cC _)))
             go_simp; refine hK _ _ ?_; clear hK K))
        refine wpUp_nil (fun wq hwq => ?_)
        simp only [fills]
        go_wp2
        go_ret
        refine ⟨ret_bool hN.out.symm, ?_⟩
        (repeat (first | exact Up.refl _ | refine Up.alloc ?_ _ | refine Up.drew ?_ | refine Up.set ?_ (by first | exact Nat.le_refl _ | (simp; done) | (simp; omega)) _ | refine Up.trans ?_ (by with_reducible assumption)))
    · have hN : Hid (litsL c s.data.toList = true) := litsL_yes fun j hj => HA.out j hj (by rw [ba_len] at hj; omega)
      go_wp2
      go_ret
      refine ⟨ret_bool hN.out.symm, ?_⟩
      (repeat (first | exact Up.refl _ | refine Up.alloc ?_ _ | refine Up.drew ?_ | refine Up.set ?_ (by first | exact Nat.le_refl _ | (simp; done) | (simp; omega)) _ | refine Up.trans ?_ (by with_reducible assumption)))

end Go.Proofs.YtmjpopfacagjhaaDoor
