/- Texts joined into one: the walks and laws that the last text leans on. Conditions: as each says. -/
import Derived.Test.YtgbakgaegldomaaGreatWk
import Derived.Test.YtgbakgaegldomaaGreatPack

/- Walk of the reference's l2Pack. Conditions: what is known is valid (KnD.Ok) and can be read; each code has a width. -/
namespace Go.Proofs.YtgbakgaegldomaaGreat
set_option linter.unusedVariables false
set_option linter.unusedSimpArgs false
open Go Go.RowKit

/-- The bits of codes with widths. -/
def packC (o : Int) : List Int → List Int → List UInt8
  | x :: xs, w :: ws => codeL o x.toNat w.toNat ++ packC o xs ws
  | _, _ => []
theorem packC_snoc (o : Int) : ∀ (xs ws : List Int) (x w : Int), xs.length = ws.length → packC o (xs ++ [x]) (ws ++ [w]) = packC o xs ws ++ codeL o x.toNat w.toNat
  | [], [], x, w, _ => by simp [packC]
  | y :: ys, v :: vs, x, w, h => by
    simp only [List.cons_append, packC, List.append_assoc]
    rw [packC_snoc o ys vs x w (by simpa using h)]
  | [], _ :: _, _, _, h => by simp at h
  | _ :: _, [], _, _, h => by simp at h
theorem packC_take (o : Int) {xs ws : List Int} (h : xs.length = ws.length) {i : Nat} (hi : i < xs.length) : packC o (xs.take (i + 1)) (ws.take (i + 1)) = packC o (xs.take i) (ws.take i) ++ codeL o xs[i].toNat (ws[i]'(by omega)).toNat := by
  rw [List.take_succ_eq_append_getElem hi, List.take_succ_eq_append_getElem (by omega : i < ws.length), packC_snoc]
  rw [List.length_take, List.length_take, h]
theorem isBits_packC (o : Int) : ∀ (xs ws : List Int), isBits (packC o xs ws)
  | [], ws => by simp [packC, isBits]
  | _ :: _, [] => by simp [packC, isBits]
  | x :: xs, w :: ws => by simp only [packC]; exact (isBits_code _ _ _).app (isBits_packC o xs ws)

structure PkAt (k : KnD) (v : Value) (codes ws : List Int) (vw : Value) (w : World) (i : Nat) (out : Value) (wr : World) : Prop where
  le : i ≤ codes.length
  kn : KnAt w.heap.size k v wr
  wid : ownI wr (w.heap.size + 1) vw ws
  own : ownU wr (w.heap.size + 1) out (packC k.set.ord (codes.take i) (ws.take i))
  up : Up w wr

theorem RdI.at {lo : Nat} {w : World} {a : Option Addr} {n c : Nat} {l : List Int} (h : RdI lo w (.slice a n c) l) {i : Nat} (hi : i < l.length) : ∃ b off, a = some ⟨b, off, none⟩ ∧ b < w.heap.size ∧ w.cell? ⟨b, off + i, none⟩ = some (.int .i64 l[i]) ∧ n = l.length ∧ n ≤ c ∧ c ≤ maxLen ∧ lo ≤ b := by
  obtain ⟨a', c', e, h1, h2, h3⟩ := h
  cases e
  obtain ⟨b, off, e1, e2, e3, e4⟩ := h3 (by omega)
  exact ⟨b, off, e1, e3, e4 i _ (List.getElem?_eq_getElem hi), rfl, h1, h2, e2⟩

end Go.Proofs.YtgbakgaegldomaaGreat

