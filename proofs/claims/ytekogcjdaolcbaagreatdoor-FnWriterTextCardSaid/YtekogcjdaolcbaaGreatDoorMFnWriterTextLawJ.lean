/- Texts joined into one: the walks and laws that the last text leans on. Conditions: as each says. -/
import Derived.Test.YtekogcjdaolcbaaGreatDoorMFnWriterTextLawI
import Derived.Lib.SplitLaws

set_option linter.unusedVariables false
set_option linter.unusedSimpArgs false
/- Plain: cutting a text at a byte. Conditions: none. -/
namespace Go.Proofs.YtekogcjdaolcbaaGreatDoor
open Go
def splL (c : UInt8) : List UInt8 → List (List UInt8)
  | [] => [[]]
  | b :: r => if b = c then [] :: splL c r else match splL c r with
    | [] => [[b]]
    | x :: t => (b :: x) :: t
theorem splL_cons (c b : UInt8) (r : List UInt8) : splL c (b :: r) = if b = c then [] :: splL c r else match splL c r with
    | [] => [[b]]
    | x :: t => (b :: x) :: t := rfl
structure IsSpl (c : UInt8) (l : List UInt8) (xs : List (List UInt8)) : Prop where
  ne : xs ≠ []
  no : ∀ x ∈ xs, c ∉ x
  jn : Lib.join xs [c] = l
theorem joinTail_cons (c : UInt8) (x : List UInt8) (t : List (List UInt8)) : Lib.joinTail [c] (x :: t) = c :: (x ++ Lib.joinTail [c] t) := by simp [Lib.joinTail]
theorem splL_is (c : UInt8) : ∀ l, IsSpl c l (splL c l)
  | [] => ⟨by simp [splL], by simp [splL], by simp [splL, Lib.join_one]⟩
  | b :: r => by
    have ih := splL_is c r
    unfold splL
    cases hx : splL c r with
    | nil => exact absurd hx ih.ne
    | cons x t =>
      rw [hx] at ih
      have hj := ih.jn
      rw [Lib.join_cons] at hj
      have hno : ∀ y ∈ t, c ∉ y := fun y hy => ih.no y (List.mem_cons_of_mem _ hy)
      by_cases hb : b = c
      · subst hb
        rw [if_pos rfl]
        exact ⟨by simp, by
          intro y hy
          rcases List.mem_cons.1 hy with rfl | hy
          · simp
          · exact ih.no y hy, by rw [Lib.join_cons, joinTail_cons, hj]; rfl⟩
      · rw [if_neg hb]
        exact ⟨by simp, by
          intro y hy
          rcases List.mem_cons.1 hy with rfl | hy
          · intro h
            rcases List.mem_cons.1 h with h | h
            · exact hb h.symm
            · exact ih.no x (List.mem_cons_self ..) h
          · exact hno y hy, by rw [Lib.join_cons, List.cons_append, hj]⟩
theorem splL_app (c : UInt8) (r : List UInt8) : ∀ x : List UInt8, c ∉ x → splL c (x ++ r) = match splL c r with
    | [] => [x]
    | y :: t => (x ++ y) :: t
  | [], _ => by
    cases h : splL c r with
    | nil => exact absurd h (splL_is c r).ne
    | cons y t => simp [h]
  | b :: x, h => by
    have hb : ¬ b = c := fun e => h (by rw [e]; exact List.mem_cons_self ..)
    have ih := splL_app c r x (fun e => h (List.mem_cons_of_mem _ e))
    rw [List.cons_append, splL_cons, if_neg hb, ih]
    cases h2 : splL c r with
    | nil => exact absurd h2 (splL_is c r).ne
    | cons y t => rfl
theorem splL_tail (c : UInt8) : ∀ (t : List (List UInt8)) (x : List UInt8), c ∉ x → (∀ y ∈ t, c ∉ y) → splL c (x ++ Lib.joinTail [c] t) = x :: t
  | [], x, hx, _ => by
    rw [splL_app c _ x hx]
    simp [Lib.joinTail, splL]
  | y :: t, x, hx, ht => by
    rw [splL_app c _ x hx, joinTail_cons, splL_cons, if_pos rfl, splL_tail c t y (ht y (List.mem_cons_self ..)) (fun z hz => ht z (List.mem_cons_of_mem _ hz))]
    simp
theorem splL_eq {c : UInt8} {l : List UInt8} {xs : List (List UInt8)} (h : IsSpl c l xs) : splL c l = xs := by
  cases xs with
  | nil => exact absurd rfl h.ne
  | cons x t =>
    rw [← h.jn, Lib.join_cons]
    exact splL_tail c t x (h.no x (List.mem_cons_self ..)) (fun y hy => h.no y (List.mem_cons_of_mem _ hy))
theorem splL_join {c : UInt8} {xs : List (List UInt8)} (h0 : xs ≠ []) (h : ∀ x ∈ xs, c ∉ x) : splL c (Lib.join xs [c]) = xs := splL_eq ⟨h0, h, rfl⟩
theorem join_splL (c : UInt8) (l : List UInt8) : Lib.join (splL c l) [c] = l := (splL_is c l).jn
theorem IsSpl.nil (c : UInt8) : IsSpl c [] [[]] := ⟨by simp, by simp, by simp [Lib.join_one]⟩
theorem IsSpl.grow {c : UInt8} {l : List UInt8} {xs : List (List UInt8)} {x : List UInt8} {b : UInt8} (h : IsSpl c l (xs ++ [x])) (hb : b ≠ c) : IsSpl c (l ++ [b]) (xs ++ [x ++ [b]]) := by
  refine ⟨by simp, fun y hy => ?_, ?_⟩
  · rcases List.mem_append.1 hy with hy | hy
    · exact h.no y (List.mem_append_left _ hy)
    · rw [List.mem_singleton] at hy
      subst hy
      intro hc
      rcases List.mem_append.1 hc with hc | hc
      · exact h.no x (by simp) hc
      · rw [List.mem_singleton] at hc; exact hb hc.symm
  · have hj := h.jn
    cases xs with
    | nil => simp only [List.nil_append, Lib.join_one] at hj ⊢; rw [hj]
    | cons y t => rw [join_snoc _ _ _ (by simp)] at hj ⊢; rw [← hj]; simp
theorem IsSpl.cut {c : UInt8} {l : List UInt8} {xs : List (List UInt8)} (h : IsSpl c l xs) : IsSpl c (l ++ [c]) (xs ++ [[]]) := by
  refine ⟨by simp, fun y hy => ?_, ?_⟩
  · rcases List.mem_append.1 hy with hy | hy
    · exact h.no y hy
    · rw [List.mem_singleton] at hy; subst hy; simp
  · rw [join_snoc _ _ _ h.ne, h.jn]; simp
theorem splL_length_le (c : UInt8) : ∀ l, (splL c l).length ≤ l.length + 1
  | [] => by simp [splL]
  | b :: r => by
    have ih := splL_length_le c r
    unfold splL
    split
    · simp; omega
    · split <;> simp_all; omega
theorem splL_piece_le (c : UInt8) : ∀ l, ∀ x ∈ splL c l, x.length ≤ l.length
  | [] => by simp [splL]
  | b :: r => by
    have ih := splL_piece_le c r
    intro x hx
    unfold splL at hx
    split at hx
    · rcases List.mem_cons.1 hx with rfl | hx
      · simp
      · have := ih x hx; simp; omega
    · split at hx
      · simp only [List.mem_singleton] at hx; subst hx; simp
      · rename_i y t he
        rcases List.mem_cons.1 hx with rfl | hx
        · have := ih y (by rw [he]; exact List.mem_cons_self ..); simp; omega
        · have := ih x (by rw [he]; exact List.mem_cons_of_mem _ hx); simp; omega
theorem splitK_splL (c : UInt8) : ∀ l : List UInt8, Lib.splitK [c] 0 (l.count c) l = splL c l
  | [] => rfl
  | b :: r => by
    have ih := splitK_splL c r
    by_cases hb : b = c
    · subst hb
      have hix : Lib.index (b :: r) [b] = 0 := by rw [Lib.index]; simp [List.isPrefixOf]
      rw [List.count_cons_self, Lib.splitK, hix]
      simp only [splL, if_true]
      rw [← ih]; simp
    · have hp : ([c] : List UInt8).isPrefixOf (b :: r) = false := by simp [List.isPrefixOf, Ne.symm hb]
      have hix : Lib.index (b :: r) [c] = if Lib.index r [c] == -1 then -1 else Lib.index r [c] + 1 := by rw [Lib.index, hp]; simp
      rw [List.count_cons_of_ne (by simpa using hb)]
      cases hk : r.count c with
      | zero =>
        rw [hk, Lib.splitK] at ih
        simp only [splL, if_neg hb, Lib.splitK, ← ih]
      | succ k =>
        rw [hk] at ih
        rw [Lib.splitK, hix]
        rw [Lib.splitK] at ih
        by_cases hm : Lib.index r [c] = -1
        · simp only [hm, BEq.rfl, if_true] at ih ⊢
          simp only [splL, if_neg hb, ← ih]
        · have hge := Lib.index_ge r [c]
          obtain ⟨j, hj⟩ : ∃ j : Nat, Lib.index r [c] = j := ⟨(Lib.index r [c]).toNat, by omega⟩
          rw [hj] at ih ⊢
          have e1 : ((j : Int) == -1) = false := by rw [beq_eq_false_iff_ne]; omega
          have e2 : (((j : Int) + 1) == -1) = false := by rw [beq_eq_false_iff_ne]; omega
          have e3 : ((j : Int) + 1).toNat = j + 1 := by omega
          simp only [e1, e2, e3, Int.toNat_natCast, Bool.false_eq_true, if_false, Nat.add_zero, List.length_singleton] at ih ⊢
          simp only [splL, if_neg hb, ← ih]
          simp
def cutL (c : UInt8) : List UInt8 → Option (List UInt8 × List UInt8)
  | [] => none
  | b :: r => if b = c then some ([], r) else (cutL c r).map fun p => (b :: p.1, p.2)
theorem cutL_cons (c b : UInt8) (r : List UInt8) : cutL c (b :: r) = if b = c then some ([], r) else (cutL c r).map fun p => (b :: p.1, p.2) := rfl
theorem cutL_some {c : UInt8} : ∀ {l x y : List UInt8}, cutL c l = some (x, y) → l = x ++ c :: y ∧ c ∉ x
  | [], x, y, h => by simp [cutL] at h
  | b :: r, x, y, h => by
    unfold cutL at h
    by_cases hb : b = c
    · rw [if_pos hb] at h
      simp only [Option.some.injEq, Prod.mk.injEq] at h
      obtain ⟨rfl, rfl⟩ := h
      exact ⟨by rw [hb]; rfl, by simp⟩
    · rw [if_neg hb] at h
      cases hr : cutL c r with
      | none => rw [hr] at h; simp at h
      | some p =>
        obtain ⟨x', y'⟩ := p
        rw [hr] at h
        simp only [Option.map_some, Option.some.injEq, Prod.mk.injEq] at h
        obtain ⟨rfl, rfl⟩ := h
        obtain ⟨h1, h2⟩ := cutL_some hr
        refine ⟨by rw [h1]; rfl, fun hc => ?_⟩
        rcases List.mem_cons.1 hc with e | e
        · exact hb e.symm
        · exact h2 e
theorem cutL_app {c : UInt8} {y : List UInt8} : ∀ {x : List UInt8}, c ∉ x → cutL c (x ++ c :: y) = some (x, y)
  | [], _ => by simp [cutL]
  | b :: x, h => by
    have hb : ¬ b = c := fun e => h (by rw [e]; exact List.mem_cons_self ..)
    rw [List.cons_append, cutL, if_neg hb, cutL_app (fun e => h (List.mem_cons_of_mem _ e))]
    rfl
theorem cutL_none {c : UInt8} : ∀ {l : List UInt8}, cutL c l = none → c ∉ l
  | [], _ => by simp
  | b :: r, h => by
    unfold cutL at h
    by_cases hb : b = c
    · rw [if_pos hb] at h; simp at h
    · rw [if_neg hb] at h
      have := cutL_none (Option.map_eq_none_iff.1 h)
      intro hc
      rcases List.mem_cons.1 hc with e | e
      · exact hb e.symm
      · exact this e
theorem findL_cut {c : UInt8} {l x y : List UInt8} (h : cutL c l = some (x, y)) : findL l c = (x.length : Int) := by
  obtain ⟨rfl, h2⟩ := cutL_some h
  refine findL_hit (by simp) (by simp) fun j hj hjx => ?_
  rw [List.getElem_append_left hjx]
  exact fun e => h2 (by rw [← e]; exact List.getElem_mem _)
theorem findL_cut_none {c : UInt8} {l : List UInt8} (h : cutL c l = none) : findL l c = -1 :=
  findL_none fun j hj e => cutL_none h (by rw [← e]; exact List.getElem_mem _)
theorem index_cut (c : UInt8) : ∀ l : List UInt8, Lib.index l [c] = match cutL c l with
    | some p => (p.1.length : Int)
    | none => -1
  | [] => rfl
  | b :: r => by
    have ih := index_cut c r
    by_cases hb : b = c
    · subst hb
      rw [Lib.index]; simp [List.isPrefixOf, cutL]
    · have hp : ([c] : List UInt8).isPrefixOf (b :: r) = false := by simp [List.isPrefixOf, Ne.symm hb]
      have hix : Lib.index (b :: r) [c] = if Lib.index r [c] == -1 then -1 else Lib.index r [c] + 1 := by rw [Lib.index, hp]; simp
      rw [hix, ih, cutL_cons, if_neg hb]
      cases hc : cutL c r with
      | none => simp
      | some p =>
        have e1 : ((p.1.length : Int) == -1) = false := by rw [beq_eq_false_iff_ne]; omega
        simp [e1]
theorem cut_cutL (c : UInt8) (l : List UInt8) : Lib.cut l [c] = match cutL c l with
    | some p => (p.1, p.2, true)
    | none => (l, [], false) := by
  unfold Lib.cut
  rw [index_cut]
  cases h : cutL c l with
  | none => simp
  | some p =>
    obtain ⟨x, y⟩ := p
    obtain ⟨rfl, -⟩ := cutL_some h
    simp
def allP {α β : Type} (f : α → Option β) : List α → Option (List β)
  | [] => some []
  | x :: r => match f x with
    | none => none
    | some y => (allP f r).map (y :: ·)
theorem allP_iff {α β : Type} {f : α → Option β} : ∀ {xs : List α} {ys : List β}, allP f xs = some ys ↔ xs.map f = ys.map some
  | [], ys => by
    simp only [allP, Option.some.injEq, List.map_nil]
    constructor
    · rintro rfl; rfl
    · intro h; exact (List.map_eq_nil_iff.1 h.symm).symm
  | x :: r, ys => by
    unfold allP
    cases hx : f x with
    | none =>
      simp only [List.map_cons, hx]
      cases ys with
      | nil => simp
      | cons y t => simp
    | some y =>
      simp only [List.map_cons, hx, Option.map_eq_some_iff]
      constructor
      · rintro ⟨t, ht, rfl⟩
        rw [allP_iff.1 ht]; rfl
      · intro h
        cases ys with
        | nil => simp at h
        | cons z t =>
          simp only [List.map_cons, List.cons.injEq, Option.some.injEq] at h
          obtain ⟨rfl, h⟩ := h
          exact ⟨t, allP_iff.2 h, rfl⟩
theorem allP_take_succ {α β : Type} {f : α → Option β} {xs : List α} {ys : List β} {y : β} {k : Nat} (hk : k < xs.length) (h : allP f (xs.take k) = some ys) (hy : f xs[k] = some y) : allP f (xs.take (k + 1)) = some (ys ++ [y]) := by
  rw [allP_iff] at h ⊢
  rw [List.take_succ_eq_append_getElem hk, List.map_append, h, List.map_append]
  simp [hy]
theorem allP_len {α β : Type} {f : α → Option β} {xs : List α} {ys : List β} (h : allP f xs = some ys) : ys.length = xs.length := by
  have := congrArg List.length (allP_iff.1 h)
  simpa using this.symm
theorem allP_none {α β : Type} {f : α → Option β} {xs : List α} {k : Nat} (hk : k < xs.length) (h : f xs[k] = none) : allP f xs = none := by
  cases ha : allP f xs with
  | none => rfl
  | some ys =>
    have h1 := allP_iff.1 ha
    have h2 : (xs.map f)[k]? = some none := by simp [hk, h]
    rw [h1] at h2
    simp at h2
theorem allP_map {α β γ : Type} {f : α → Option β} {g : γ → α} {ys : List γ} {q : γ → β} (h : ∀ y ∈ ys, f (g y) = some (q y)) : allP f (ys.map g) = some (ys.map q) := by
  rw [allP_iff, List.map_map, List.map_map]
  exact List.map_congr_left fun y hy => h y hy
theorem allP_text {α β : Type} {f : α → Option β} {g : β → α} {xs : List α} {ys : List β} (h : allP f xs = some ys) (hg : ∀ x y, f x = some y → x = g y) : xs = ys.map g := by
  have h1 := allP_iff.1 h
  clear h
  induction xs generalizing ys with
  | nil => cases ys with
    | nil => rfl
    | cons _ _ => simp at h1
  | cons x r ih => cases ys with
    | nil => simp at h1
    | cons y t =>
      simp only [List.map_cons, List.cons.injEq] at h1
      rw [List.map_cons, hg x y h1.1, ← ih h1.2]
end Go.Proofs.YtekogcjdaolcbaaGreatDoor

