/- Plain: the bits of codes from a state, and their bytes when they are put into bytes part by part (for the writers). Conditions: as each says. -/
import Derived.Test.YtgbakgaegldomaaWrc
import Derived.Test.YtgbakgaegldomaaGw2
import Derived.Test.YtgbakgaegldomaaPk2
namespace Go.Proofs.Ytgbakgaegldomaa
set_option linter.unusedVariables false
set_option linter.unusedSimpArgs false
open Go Go.RowKit

/-- Whole bytes, then the rest. -/
theorem packL_append (o : Int) {a b : List UInt8} (h : a.length % 8 = 0) : packL o (a ++ b) = packL o a ++ packL o b := by
  obtain ⟨n, hn⟩ : ∃ n, a.length = 8 * n := ⟨a.length / 8, by omega⟩
  have hpa : padL a = a := by unfold padL; rw [h]; simp
  have hpab : padL (a ++ b) = a ++ padL b := by
    unfold padL
    rw [List.append_assoc, List.length_append]
    congr 3
    omega
  have hlb := padL_length b
  refine List.ext_getElem? fun i => ?_
  unfold packL
  rw [hpa, hpab, List.length_append, hn, hlb, show (8 * n + 8 * ((b.length + 7) / 8)) / 8 = n + (b.length + 7) / 8 by omega, show 8 * n / 8 = n by omega, show 8 * ((b.length + 7) / 8) / 8 = (b.length + 7) / 8 by omega]
  rcases Nat.lt_or_ge i n with hi | hi
  · rw [List.getElem?_append_left (by simp; omega)]
    simp only [List.getElem?_map]
    rw [List.getElem?_range (by omega), List.getElem?_range (by omega)]
    simp only [Option.map_some]
    congr 1
    unfold byteN
    congr 2
    rw [List.drop_append_of_le_length (by omega), List.take_append_of_le_length (by rw [List.length_drop]; omega)]
  · rw [List.getElem?_append_right (by simp; omega)]
    simp only [List.getElem?_map, List.length_map, List.length_range]
    by_cases hb : i < n + (b.length + 7) / 8
    · rw [List.getElem?_range (by omega), List.getElem?_range (by omega)]
      simp only [Option.map_some]
      congr 1
      unfold byteN
      congr 3
      rw [List.drop_append, List.drop_of_length_le (by omega), List.nil_append]
      congr 1
      omega
    · rw [List.getElem?_eq_none (by simp; omega), List.getElem?_eq_none (by simp; omega)]
      rfl

/-- What is known behind a code. -/
def KnD.thru (k : KnD) (x : Int) : KnD := if x = (k.c : Int) + 1 then k else if x = (k.c : Int) then k.cleared else k.after x
def KnD.thruN (k : KnD) : List Int → KnD
  | [] => k
  | x :: xs => (k.thru x).thruN xs
/-- The bits of codes. -/
def bitsS (o : Int) : KnD → List Int → List UInt8
  | _, [] => []
  | k, x :: xs => codeL o x.toNat k.width ++ bitsS o (k.thru x) xs
theorem thruN_app (k : KnD) : ∀ (xs ys : List Int), k.thruN (xs ++ ys) = (k.thruN xs).thruN ys := by
  intro xs
  induction xs generalizing k with
  | nil => intro ys; rfl
  | cons x xs ih => intro ys; exact ih (k.thru x) ys
theorem bitsS_app (o : Int) : ∀ (xs ys : List Int) (k : KnD), bitsS o k (xs ++ ys) = bitsS o k xs ++ bitsS o (k.thruN xs) ys := by
  intro xs
  induction xs with
  | nil => intro ys k; rfl
  | cons x xs ih =>
    intro ys k
    show codeL o x.toNat k.width ++ bitsS o (k.thru x) (xs ++ ys) = _
    rw [ih ys (k.thru x)]
    show _ = (codeL o x.toNat k.width ++ bitsS o (k.thru x) xs) ++ bitsS o ((k.thru x).thruN xs) ys
    rw [List.append_assoc]
/-- They are the bits that the walk's widths give. -/
theorem bitsS_walk (o : Int) : ∀ (xs : List Int) (k : KnD) (ws : List Int) (d : List UInt8) (W : List Int) (D : List UInt8), walkN k xs ws d = ⟨ws ++ W, D, true⟩ → bitsS o k xs = packC o xs W := by
  intro xs
  induction xs with
  | nil =>
    intro k ws d W D h
    rfl
  | cons x xs ih =>
    intro k ws d W D h
    rcases walkN_ok h rfl with ⟨h1, h2, h3⟩ | ⟨h1, h2⟩ | ⟨h1, h2, h3, h4, -⟩
    · subst h2
      have hW : W = [(k.width : Int)] := by
        have := congrArg WkR.ws h3
        simpa using this
      subst hW
      simp [bitsS, packC]
    · have hpre : ∀ (zs : List Int) (kk : KnD) (vs : List Int) (dd : List UInt8), ∃ V, (walkN kk zs vs dd).ws = vs ++ V := by
        intro zs
        induction zs with
        | nil => intro kk vs dd; exact ⟨[], by simp [walkN]⟩
        | cons z zs ihz =>
          intro kk vs dd
          rw [walkN]
          split
          · exact ⟨_, rfl⟩
          · split
            · obtain ⟨V, hV⟩ := ihz kk.cleared (vs ++ [(kk.width : Int)]) dd
              exact ⟨(kk.width : Int) :: V, by rw [hV]; simp⟩
            · split
              · exact ⟨_, rfl⟩
              · obtain ⟨V, hV⟩ := ihz (kk.after z) (vs ++ [(kk.width : Int)]) (dd ++ kk.any z)
                exact ⟨(kk.width : Int) :: V, by rw [hV]; simp⟩
      obtain ⟨V, hV⟩ := hpre xs k.cleared (ws ++ [(k.width : Int)]) d
      rw [h2] at hV
      have hW : W = (k.width : Int) :: V := by
        have : ws ++ W = ws ++ (k.width : Int) :: V := by simpa using hV
        exact List.append_cancel_left this
      subst hW
      have := ih k.cleared (ws ++ [(k.width : Int)]) d V D (by rw [h2]; simp)
      show codeL o x.toNat k.width ++ bitsS o (k.thru x) xs = _
      rw [show k.thru x = k.cleared by unfold KnD.thru; rw [if_neg (by omega), if_pos h1], this]
      simp [packC]
    · have hpre : ∀ (zs : List Int) (kk : KnD) (vs : List Int) (dd : List UInt8), ∃ V, (walkN kk zs vs dd).ws = vs ++ V := by
        intro zs
        induction zs with
        | nil => intro kk vs dd; exact ⟨[], by simp [walkN]⟩
        | cons z zs ihz =>
          intro kk vs dd
          rw [walkN]
          split
          · exact ⟨_, rfl⟩
          · split
            · obtain ⟨V, hV⟩ := ihz kk.cleared (vs ++ [(kk.width : Int)]) dd
              exact ⟨(kk.width : Int) :: V, by rw [hV]; simp⟩
            · split
              · exact ⟨_, rfl⟩
              · obtain ⟨V, hV⟩ := ihz (kk.after z) (vs ++ [(kk.width : Int)]) (dd ++ kk.any z)
                exact ⟨(kk.width : Int) :: V, by rw [hV]; simp⟩
      obtain ⟨V, hV⟩ := hpre xs (k.after x) (ws ++ [(k.width : Int)]) (d ++ k.any x)
      rw [h4] at hV
      have hW : W = (k.width : Int) :: V := by
        have : ws ++ W = ws ++ (k.width : Int) :: V := by simpa using hV
        exact List.append_cancel_left this
      subst hW
      have := ih (k.after x) (ws ++ [(k.width : Int)]) (d ++ k.any x) V D (by rw [h4]; simp)
      show codeL o x.toNat k.width ++ bitsS o (k.thru x) xs = _
      rw [show k.thru x = k.after x by unfold KnD.thru; rw [if_neg h1, if_neg h2], this]
      simp [packC]

end Go.Proofs.Ytgbakgaegldomaa
