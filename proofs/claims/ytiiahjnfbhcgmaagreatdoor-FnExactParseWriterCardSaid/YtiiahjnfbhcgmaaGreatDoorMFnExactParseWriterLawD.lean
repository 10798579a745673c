/- Texts joined into one: the walks and laws that the last text leans on. Conditions: as each says. -/
import Derived.Test.YtiiahjnfbhcgmaaGreatDoorMFnExactParseWriterLawB
import Derived.Test.YtiiahjnfbhcgmaaGreatDoorMFnExactParseWriterLawC
import Derived.Test.YtiiahjnfbhcgmaaGreatDoorShelf
import Derived.Lib.AtoiTie

set_option linter.unusedVariables false
set_option linter.unusedSimpArgs false
/- FormatIndex of the program. Conditions: the places can be read, at most 2^20; the table of powers of ten lies where it was laid. -/
namespace Go.Proofs.YtiiahjnfbhcgmaaGreatDoor
set_option linter.unusedVariables false
set_option linter.unusedSimpArgs false
open Go Go.RowKit

theorem up_grow (w : World) (n : Nat) (os : Array Obj) : Up w (Go.Sort.grow (w.drewN n) os) :=
  ⟨rfl, rfl, rfl, by simp [Go.Sort.grow], fun i hi => by
    show ((w.drewN n).heap ++ os)[i]? = _
    rw [Array.getElem?_append_left (by show i < w.heap.size; omega)]
    rfl⟩
theorem itoa_any (n : Int) (w : World) (hT : Tab w) (h0 : -9223372036854775808 ≤ n) (h1 : n ≤ 9223372036854775807) :
    Calls Tryz.prog 92 #[.int .i64 n] w (Same (.string (bs (Lib.itoa n))) w) :=
  (Tryz.strconv_Itoa n h0 h1 w hT).mono fun e w' ⟨he, k, os, hw⟩ => ⟨he, by subst hw; exact up_grow w k os⟩
end Go.Proofs.YtiiahjnfbhcgmaaGreatDoor

/- The program's parseNumber. Conditions: the listed variables lie as they were laid. -/
namespace Go.Proofs.YtiiahjnfbhcgmaaGreatDoor
set_option linter.unusedVariables false
set_option linter.unusedSimpArgs false
open Go Go.RowKit

/-- What the parsing walks ask of the world: the table of powers of ten, bytealg.MaxLen, strconv.ErrSyntax, strconv.ErrRange. -/
structure Lay (w : World) : Prop where
  tab : Tab w
  max : ∃ m, w.cell? ⟨0, 0, none⟩ = some (.int .i64 m)
  es : ∃ te pe, w.cell? ⟨2, 0, none⟩ = some (.iface te pe)
  er : ∃ te pe, w.cell? ⟨3, 0, none⟩ = some (.iface te pe)
theorem cell_up {w w' : World} {a : Addr} {v : Value} (h : w.cell? a = some v) (hu : Up w w') : w'.cell? a = some v := (hu.cell (World.block_lt_of_cell? _ _ h)).trans h
theorem Lay.up {w w' : World} (h : Lay w) (hu : Up w w') : Lay w' := by
  obtain ⟨h1, ⟨m, h2⟩, ⟨a, b, h3⟩, ⟨c, d, h4⟩⟩ := h
  exact ⟨h1.up hu, ⟨m, cell_up h2 hu⟩, ⟨a, b, cell_up h3 hu⟩, ⟨c, d, cell_up h4 hu⟩⟩
/-- The number that a text is, written as the program writes it. -/
def numP (l : List UInt8) : Option Int := match Lib.atoiAll l with
  | .ok v => if Lib.itoa v = l then some v else none
  | _ => none
/-- strconv.Atoi at any text: a number and no error, or an error. -/
theorem atoi_any (l : List UInt8) (w : World) (hL : Lay w) (hl : l.length ≤ 1048576) :
    Calls Tryz.prog 154 #[.string (bs l)] w (fun e w' => ∃ v u, e = .returned (.tuple #[.int .i64 v, u]) ∧ Up w w' ∧ (Lib.atoiAll l = .ok v ∧ u = .nilIface ∨ (∀ v', Lib.atoiAll l ≠ .ok v') ∧ ∃ t p, u = .iface t (.pointer (some p)))) := by
  have hd : (bs l).data.toList = l := by simp [bs_data]
  have hz := bs_size l
  cases h : Lib.atoiAll l
  · rename_i v
    refine (Tryz.strconv_Atoi_ok (bs l) (by omega) v (by rw [hd]; exact h) w).mono fun e w' ⟨he, hw⟩ => ⟨v, _, he, ?_, .inl ⟨rfl, rfl⟩⟩
    rcases hw with rfl | ⟨t, rfl⟩
    · exact Up.refl _
    · exact Lib.bytesWorld_below w _ t
  · obtain ⟨te, pe, hs⟩ := hL.es
    exact (Any.strconv_Atoi_syntax Tryz.laysC172 (bs l) (by omega) (by rw [hd]; exact h) _ w hs (.inr ⟨te, pe, rfl⟩)).mono fun e w' ⟨N, he, _, _, hw⟩ => ⟨_, _, he, hw, .inr ⟨(fun v' h' => by cases h'), _, _, rfl⟩⟩
  · obtain ⟨te, pe, hs⟩ := hL.er
    exact (Tryz.strconv_Atoi_range (bs l) (by omega) (by rw [hd]; exact h) _ w hs (.inr ⟨te, pe, rfl⟩)).mono fun e w' ⟨N, he, _, _, hw⟩ => ⟨_, _, he, hw, .inr ⟨(fun v' h' => by cases h'), _, _, rfl⟩⟩

set_option maxRecDepth 100000 in
set_option maxHeartbeats 1000000 in
theorem pnum_any (l : List UInt8) (w : World) (hL : Lay w) (hl : l.length ≤ 1048576) :
    Calls Tryz.prog 93  #[.string (bs l)] w (fun e w' => e = .returned (.tuple #[.int .i64 ((numP l).getD 0), .bool (numP l).isSome]) ∧ Up w w') := by
  have cA := fun wx (hx : Up w wx) => atoi_any l wx (hL.up hx) hl
  have HT := Lib.hid hL.tab
  clear hL
  go_enter Tryz.func93, Tryz.ntmps93
  go_wp2_with fail
  (with_reducible refine (cA _ (by (repeat (first | with_reducible exact Up.refl _ | with_reducible assumption | with_reducible refine Up.set ?_ (by first | exact Nat.le_refl _ | (simp only []; omega) | (simp; omega)) _ | with_reducible refine Up.alloc ?_ _ | with_reducible refine Up.drew ?_ | refine Up.trans ?_ (by with_reducible assumption))))).mono ?_); rintro e w1 ⟨v, u, rfl, U1, hvu⟩
  rcases hvu with ⟨h, rfl⟩ | ⟨h, t, p, rfl⟩
  · have hb := Lib.atoiAll_bounds h
    have cI := fun wx (hx : Up w wx) => itoa_any v wx (HT.out.up hx) hb.1 hb.2
    by_cases he : Lib.itoa v = l
    · have hq : Hid (numP l = some v) := by unfold Hid numP; rw [h]; exact if_pos he
      subst he
      clear h
      go_wp2_with (go_at_call 92; (with_reducible refine (cI _ (by (repeat (first | with_reducible exact Up.refl _ | with_reducible assumption | with_reducible refine Up.set ?_ (by first | exact Nat.le_refl _ | (simp only []; omega) | (simp; omega)) _ | with_reducible refine Up.alloc ?_ _ | with_reducible refine Up.drew ?_ | refine Up.trans ?_ (by with_reducible assumption))))).mono ?_); rintro e w2 ⟨rfl, U2⟩)
      all_goals ((try simp only [Exit.inBlock, Exit.then]); refine bodyPost_ret (v := _) (by simp [results, Tryz.results93, go_sem]; rfl) rfl ?_)
      all_goals exact ⟨by rw [hq.out]; rfl, by (repeat (first | with_reducible exact Up.refl _ | with_reducible assumption | with_reducible refine Up.set ?_ (by first | exact Nat.le_refl _ | (simp only []; omega) | (simp; omega)) _ | with_reducible refine Up.alloc ?_ _ | with_reducible refine Up.drew ?_ | refine Up.trans ?_ (by with_reducible assumption)))⟩
    · have hq : Hid (numP l = none) := by unfold Hid numP; rw [h]; exact if_neg he
      have hne : ((bs (Lib.itoa v)).toList == (bs l).toList) = false := by rw [Lib.toList_data, Lib.toList_data, bs_data, bs_data]; simpa using he
      clear h
      go_wp2_with (go_at_call 92; (with_reducible refine (cI _ (by (repeat (first | with_reducible exact Up.refl _ | with_reducible assumption | with_reducible refine Up.set ?_ (by first | exact Nat.le_refl _ | (simp only []; omega) | (simp; omega)) _ | with_reducible refine Up.alloc ?_ _ | with_reducible refine Up.drew ?_ | refine Up.trans ?_ (by with_reducible assumption))))).mono ?_); rintro e w2 ⟨rfl, U2⟩)
      all_goals ((try simp only [Exit.inBlock, Exit.then]); refine bodyPost_ret (v := _) (by simp [results, Tryz.results93, go_sem]; rfl) rfl ?_)
      all_goals exact ⟨by rw [hq.out]; rfl, by (repeat (first | with_reducible exact Up.refl _ | with_reducible assumption | with_reducible refine Up.set ?_ (by first | exact Nat.le_refl _ | (simp only []; omega) | (simp; omega)) _ | with_reducible refine Up.alloc ?_ _ | with_reducible refine Up.drew ?_ | refine Up.trans ?_ (by with_reducible assumption)))⟩
  · have hq : Hid (numP l = none) := by
      unfold Hid numP
      cases h' : Lib.atoiAll l
      · exact absurd h' (h _)
      · rfl
      · rfl
    clear h
    go_wp2
    all_goals ((try simp only [Exit.inBlock, Exit.then]); refine bodyPost_ret (v := _) (by simp [results, Tryz.results93, go_sem]; rfl) rfl ?_)
    all_goals exact ⟨by rw [hq.out]; rfl, by (repeat (first | with_reducible exact Up.refl _ | with_reducible assumption | with_reducible refine Up.set ?_ (by first | exact Nat.le_refl _ | (simp only []; omega) | (simp; omega)) _ | with_reducible refine Up.alloc ?_ _ | with_reducible refine Up.drew ?_ | refine Up.trans ?_ (by with_reducible assumption)))⟩

end Go.Proofs.YtiiahjnfbhcgmaaGreatDoor

/- Plain: a number's decimal text is read back as that number. Conditions: at most a million. -/
namespace Go.Proofs.YtiiahjnfbhcgmaaGreatDoor
set_option linter.unusedVariables false
set_option linter.unusedSimpArgs false
open Go

theorem decFrom_snoc : ∀ (l : List UInt8) (acc n : Nat) (b : UInt8) (d : Nat), Lib.decFrom acc l = some n → Lib.digitVal b = some d → Lib.decFrom acc (l ++ [b]) = some (n * 10 + d)
  | [], acc, n, b, d, h, hb => by
    simp only [Lib.decFrom, Option.some.injEq] at h
    subst h
    simp [Lib.decFrom, hb]
  | x :: r, acc, n, b, d, h, hb => by
    rw [List.cons_append]
    unfold Lib.decFrom at h ⊢
    cases hx : Lib.digitVal x with
    | none => rw [hx] at h; simp at h
    | some e => rw [hx] at h; exact decFrom_snoc r _ n b d h hb
theorem digit_val (m : Nat) (h : m < 10) : Lib.digitVal (UInt8.ofNat (48 + m)) = some m := by
  have e : (UInt8.ofNat (48 + m)).toNat = 48 + m := by rw [UInt8.toNat_ofNat']; omega
  unfold Lib.digitVal
  rw [e, if_pos (by omega)]
  simp
theorem decFrom_dec (m : Nat) : Lib.decFrom 0 (Lib.decDigits m) = some m := by
  induction m using Nat.strongRecOn with
  | ind m ih =>
    by_cases h : m < 10
    · rw [Lib.decDigits_one h]
      unfold Lib.decFrom
      rw [digit_val m h]
      simp only [Lib.decFrom, Nat.zero_mul, Nat.zero_add]
    · rw [dec_big h, decFrom_snoc _ _ _ _ _ (ih (m / 10) (by omega)) (digit_val (m % 10) (by omega))]
      congr 1; omega
theorem dec_ne (m : Nat) : Lib.decDigits m ≠ [] := by
  intro h
  have h1 := congrArg List.length h
  rw [Lib.decDigits_length] at h1
  have := Lib.nDigits_pos m
  simp at h1; omega
theorem dec_digit (m : Nat) : ∀ b ∈ Lib.decDigits m, 48 ≤ b.toNat ∧ b.toNat ≤ 57 := by
  intro b hb
  obtain ⟨k, hk, rfl⟩ := List.getElem_of_mem hb
  obtain ⟨d, hd⟩ := Lib.digit_of_decFrom _ _ _ (decFrom_dec m) k _ (List.getElem?_eq_getElem hk)
  have := Lib.digitVal_eq hd
  omega
theorem nDigits_le : ∀ (k u : Nat), u < 10 ^ (k + 1) → Lib.nDigits u ≤ k + 1
  | 0, u, h => by rw [Lib.nDigits_small (by simpa using h)]; exact Nat.le_refl _
  | k + 1, u, h => by
    by_cases hu : u < 10
    · rw [Lib.nDigits_small hu]; omega
    · rw [Lib.nDigits_big hu]
      have := nDigits_le k (u / 10) (by rw [Nat.pow_succ] at h; omega)
      omega
theorem dec_len7 {m : Nat} (h : m ≤ 1000000) : (Lib.decDigits m).length ≤ 7 := by
  rw [Lib.decDigits_length]; exact nDigits_le 6 m (by omega)
theorem decNat_dec (m : Nat) : Lib.decNat (Lib.decDigits m) = some m := by
  unfold Lib.decNat
  cases h : Lib.decDigits m with
  | nil => exact absurd h (dec_ne m)
  | cons b r => rw [← h]; simp [h]; rw [← h]; exact decFrom_dec m
theorem atoi_itoa (n : Int) : Lib.atoi (Lib.itoa n) = some n := by
  unfold Lib.itoa
  by_cases hn : n < 0
  · rw [if_pos hn]
    simp only [Lib.atoi, decNat_dec, Option.map_some, BEq.rfl, if_true]
    congr 1; omega
  · rw [if_neg hn]
    have hd := dec_digit n.toNat
    cases h : Lib.decDigits n.toNat with
    | nil => exact absurd h (dec_ne _)
    | cons b r =>
      have hb := hd b (by rw [h]; exact List.mem_cons_self ..)
      have h1 : (b == 45) = false := by rw [beq_eq_false_iff_ne]; rintro rfl; simp at hb
      have h2 : (b == 43) = false := by rw [beq_eq_false_iff_ne]; rintro rfl; simp at hb
      simp only [Lib.atoi, h1, h2]
      rw [← h, decNat_dec]
      simp; omega
theorem numP_itoa {n : Int} (h0 : -1000000 ≤ n) (h1 : n ≤ 1000000) : numP (Lib.itoa n) = some n := by
  have hl : (Lib.itoa n).length ≤ 18 := by
    unfold Lib.itoa
    split
    · have := dec_len7 (m := n.natAbs) (by omega); simp; omega
    · have := dec_len7 (m := n.toNat) (by omega); omega
  unfold numP
  rw [Lib.atoiAll_short _ hl, atoi_itoa]
  simp [Lib.NumEnd.ofOption]

end Go.Proofs.YtiiahjnfbhcgmaaGreatDoor

/- Plain: what the reference's l9Num reads. Conditions: none. -/
namespace Go.Proofs.YtiiahjnfbhcgmaaGreatDoor
set_option linter.unusedVariables false
set_option linter.unusedSimpArgs false
open Go

/-- Digits behind a sign. -/
def numU (neg : Bool) (r : List UInt8) : Option Int := if r = [] ∨ 17 < r.length ∨ (r.head? = some 48 ∧ (1 < r.length ∨ neg = true)) then none else (Lib.decFrom 0 r).map fun m => if neg then -(m : Int) else m
/-- What l9Num reads. -/
def numR (l : List UInt8) : Option Int := if l.head? = some 45 then numU true l.tail else numU false l
theorem dec_head (m : Nat) (h : 1 ≤ m) : (Lib.decDigits m).head? ≠ some 48 := by
  induction m using Nat.strongRecOn with
  | ind m ih =>
    by_cases hm : m < 10
    · rw [Lib.decDigits_one hm]
      intro e
      have e2 : UInt8.ofNat (48 + m) = 48 := by simpa only [List.head?_cons, Option.some.injEq] using e
      have := congrArg UInt8.toNat e2
      rw [UInt8.toNat_ofNat'] at this
      have h48 : (48 : UInt8).toNat = 48 := rfl
      rw [h48] at this
      omega
    · rw [dec_big hm, List.head?_append]
      cases hd : (Lib.decDigits (m / 10)).head? with
      | none => exact absurd (List.head?_eq_none_iff.1 hd) (dec_ne _)
      | some b =>
        have := ih (m / 10) (by omega) (by omega)
        rw [hd] at this
        simpa using this
theorem numU_dec (neg : Bool) (m : Nat) (hm : m ≤ 1000000) (h : neg = true → 1 ≤ m) : numU neg (Lib.decDigits m) = some (if neg then -(m : Int) else m) := by
  have hl := dec_len7 hm
  unfold numU
  rw [if_neg, decFrom_dec]
  · rfl
  · rintro (h1 | h1 | ⟨h1, h2⟩)
    · exact dec_ne m h1
    · omega
    · by_cases h0 : 1 ≤ m
      · exact dec_head m h0 h1
      · have : m = 0 := by omega
        subst this
        rcases h2 with h2 | h2
        · rw [Lib.decDigits_one (by omega)] at h2; simp at h2
        · have := h h2; omega
theorem numR_itoa {n : Int} (h0 : -1000000 ≤ n) (h1 : n ≤ 1000000) : numR (Lib.itoa n) = some n := by
  unfold numR Lib.itoa
  by_cases hn : n < 0
  · rw [if_pos hn]
    simp only [List.head?_cons, if_true, List.tail_cons]
    rw [numU_dec true n.natAbs (by omega) (fun _ => by omega)]
    simp; omega
  · rw [if_neg hn]
    have hne : (Lib.decDigits n.toNat).head? ≠ some 45 := by
      cases hd : Lib.decDigits n.toNat with
      | nil => exact absurd hd (dec_ne _)
      | cons b r =>
        have hb := dec_digit n.toNat b (by rw [hd]; exact List.mem_cons_self ..)
        intro e
        simp only [List.head?_cons, Option.some.injEq] at e
        subst e
        simp at hb
    rw [if_neg hne, numU_dec false n.toNat (by omega) (fun h => by cases h)]
    simp; omega

end Go.Proofs.YtiiahjnfbhcgmaaGreatDoor

/- Plain: reading the text of places. Conditions: none. -/
namespace Go.Proofs.YtiiahjnfbhcgmaaGreatDoor
set_option linter.unusedVariables false
set_option linter.unusedSimpArgs false
open Go

theorem itoa_chr {n : Int} : ∀ b ∈ Lib.itoa n, b = 45 ∨ 48 ≤ b.toNat ∧ b.toNat ≤ 57 := by
  intro b hb
  unfold Lib.itoa at hb
  split at hb
  · rcases List.mem_cons.1 hb with rfl | hb
    · exact .inl rfl
    · exact .inr (dec_digit _ b hb)
  · exact .inr (dec_digit _ b hb)
theorem itoa_no {c : UInt8} (n : Int) (h : c ≠ 45) (hc : c.toNat < 48 ∨ 57 < c.toNat) : c ∉ Lib.itoa n := by
  intro hm
  rcases itoa_chr c hm with e | e
  · exact h e
  · omega
theorem numP_text {l : List UInt8} {n : Int} (h : numP l = some n) : l = Lib.itoa n := by
  unfold numP at h
  split at h
  · split at h
    · rename_i v _ e
      simp only [Option.some.injEq] at h
      rw [← e, h]
    · cases h
  · cases h

/-- Two numbers parted by the byte c. -/
def pairP (c : UInt8) (l : List UInt8) : Option (Int × Int) := match cutL c l with
  | none => none
  | some (x, y) => match numP x, numP y with
    | some a, some b => some (a, b)
    | _, _ => none
theorem pairP_text {c : UInt8} {l : List UInt8} {a b : Int} (h : pairP c l = some (a, b)) : l = Lib.itoa a ++ c :: Lib.itoa b := by
  unfold pairP at h
  split at h
  · cases h
  · rename_i x y hc
    split at h
    · rename_i a' b' h1 h2
      simp only [Option.some.injEq, Prod.mk.injEq] at h
      obtain ⟨rfl, rfl⟩ := h
      rw [(cutL_some hc).1, ← numP_text h1, ← numP_text h2]
    · cases h
theorem pairP_fmt {c : UInt8} {a b : Int} (hc : c ≠ 45) (hd : c.toNat < 48 ∨ 57 < c.toNat) (h0 : -1000000 ≤ a) (h1 : a ≤ 1000000) (h2 : -1000000 ≤ b) (h3 : b ≤ 1000000) : pairP c (Lib.itoa a ++ c :: Lib.itoa b) = some (a, b) := by
  unfold pairP
  rw [cutL_app (itoa_no a hc hd)]
  simp only [numP_itoa h0 h1, numP_itoa h2 h3]
end Go.Proofs.YtiiahjnfbhcgmaaGreatDoor

