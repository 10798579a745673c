/- Texts joined into one: the walks and laws that the last text leans on. Conditions: as each says. -/
import Derived.Test.YtgbakgaegldomaaMWriteDataLawE
import Derived.SliceStrings
import Derived.Test.YtgbakgaegldomaaMWriteDataLawD
import Derived.Test.YtgbakgaegldomaaComp

/- Slices of strings: those that came in, and the laws' helpers that measure, copy and compare them. Conditions: as each says. -/
namespace Go.Proofs.Ytgbakgaegldomaa
set_option linter.unusedVariables false
set_option linter.unusedSimpArgs false
open Go Go.RowKit Go.ChangeShapes

def cellsS (l : List ByteArray) : List Value := l.map Value.string
/-- A slice of strings that can be read. -/
def ArgS (w : World) (v : Value) (l : List ByteArray) : Prop := ∃ a cap, v = .slice a l.length cap ∧ l.length ≤ maxLen ∧ (∀ s ∈ l, s.size ≤ maxLen) ∧ (0 < l.length → ∃ b off, a = some ⟨b, off, none⟩ ∧ l.length ≤ cap ∧ cap ≤ maxLen ∧ b < w.heap.size ∧ ∀ i s, l[i]? = some s → w.cell? ⟨b, off + i, none⟩ = some (.string s))
theorem ArgS.up {w w' : World} {v : Value} {l : List ByteArray} (h : ArgS w v l) (hu : Up w w') : ArgS w' v l := by
  obtain ⟨a, cap, h1, h2, h2', h3⟩ := h
  refine ⟨a, cap, h1, h2, h2', fun hp => ?_⟩
  obtain ⟨b, off, e1, e2, e3, e4, e5⟩ := h3 hp
  exact ⟨b, off, e1, e2, e3, Nat.lt_of_lt_of_le e4 hu.size, fun i p hi => (hu.cell (p := ⟨b, _, none⟩) e4).trans (e5 i p hi)⟩
def ownS (w : World) (base : Nat) (v : Value) (l : List ByteArray) : Prop := w.ownsRow base 9 1 v l.length (cellsS l)
theorem ArgS.of_own {w : World} {base : Nat} {v : Value} {l : List ByteArray} (h : ownS w base v l) (hs : ∀ s ∈ l, s.size ≤ maxLen) : ArgS w v l := by
  rcases ownsRow_read h with ⟨rfl, h2⟩ | ⟨g, cap, rfl, h1, h2, h3, h4, h5⟩
  · exact ⟨none, 0, by rw [h2], by rw [h2]; exact Nat.zero_le _, hs, fun h => by omega⟩
  · refine ⟨some ⟨g, 0, none⟩, cap, rfl, by omega, hs, fun _ => ⟨g, 0, rfl, h1, h2, h4, fun i x hi => ?_⟩⟩
    rw [Nat.zero_add]
    refine h5 _ _ ?_
    simp [cellsS, hi]
theorem ArgS.at {w : World} {a : Option Addr} {n c : Nat} {l : List ByteArray} (h : ArgS w (.slice a n c) l) {i : Nat} (hi : i < l.length) : ∃ b off, a = some ⟨b, off, none⟩ ∧ b < w.heap.size ∧ w.cell? ⟨b, off + i, none⟩ = some (.string l[i]) ∧ n = l.length ∧ n ≤ c ∧ c ≤ maxLen := by
  obtain ⟨a', c', e, h1, h2, h3⟩ := h
  cases e
  obtain ⟨b, off, e1, e2, e3, e4, e5⟩ := h3 (by omega)
  exact ⟨b, off, e1, e4, e5 i _ (List.getElem?_eq_getElem hi), rfl, e2, e3⟩

end Go.Proofs.Ytgbakgaegldomaa

/- WriteAll of the reference, for what is known of any kind and any parts. Conditions: the parts are at most 2^20, each of at most 2^20 bytes. -/
namespace Go.Proofs.Ytgbakgaegldomaa
set_option linter.unusedVariables false
set_option linter.unusedSimpArgs false
open Go Go.RowKit

/-- All parts, then the end. -/
def waW : WrD → List ByteArray → List UInt8 → Option (List UInt8)
  | w, [], out => (wcO w).map (out ++ ·)
  | w, p :: ps, out => match wdO w p.data.toList with
    | none => none
    | some r => waW r.1 ps (out ++ r.2)
def waG (k : KnD) (ps : List ByteArray) : Option (List UInt8) := if validK k then waW ⟨k, [], [], false⟩ ps [] else none
/-- The writer that NewWriter hands back, be there one or not. -/
def nwX (k : KnD) : WrD := if validK k then ⟨k, [], [], false⟩ else wr0
theorem wdO_case {x : WrD} {d : List UInt8} : (wdO x d = none ∧ oWr (wdO x d) = wr0 ∧ oBy (wdO x d) = []) ∨ (∃ r, wdO x d = some r ∧ oWr (wdO x d) = r.1 ∧ oBy (wdO x d) = r.2 ∧ wrOk r.1 ∧ r.2.length ≤ 41000) := by
  cases hb : (wrvB x && fitsB x.k.set (x.pend ++ d))
  · left
    rw [wdO_none hb]
    exact ⟨rfl, rfl, rfl⟩
  · right
    obtain ⟨h1, h2⟩ := Bool.and_eq_true_iff.1 hb
    obtain ⟨-, h3, h4⟩ := fitsB_lits h2
    have hx := wrvB_ok h1
    have hl : ∀ b ∈ d, b.toNat < clr x.k.set := fun b hb => h4 b (List.mem_append_right _ hb)
    rw [wdO_some hb]
    refine ⟨x.write d, rfl, rfl, rfl, (wrOk_write hx hl h3).1, ?_⟩
    unfold WrD.write
    split
    · exact Nat.zero_le _
    · rename_i h
      have hs := (WlD.outs _ _ _ _ (WlD.start hx h hl h3)).2
      show (packL _ _).length ≤ 41000
      rw [packL_length, List.length_take]
      have hs' : (x.all d).length ≤ 41000 := hs
      omega
theorem wrOk_new {k : KnD} (h : validK k = true) : wrOk ⟨k, [], [], false⟩ := by
  obtain ⟨h1, h2⟩ := ok_of_valid h
  exact ⟨h1, h2, (fun b hb => absurd hb (List.not_mem_nil)), Nat.zero_le _, (fun b hb => absurd hb (List.not_mem_nil)), Nat.zero_le _, .inl rfl, fun _ => ⟨rfl, rfl⟩⟩
/-- What is small about a valid writer. -/
theorem wrOk_bd {x : WrD} (h : wrOk x) : (-9223372036854775808 ≤ x.k.set.lit ∧ x.k.set.lit ≤ 9223372036854775807) ∧ x.k.ps.length ≤ 1048576 ∧ x.pend.length ≤ 1048576 ∧ x.bits.length ≤ 1048576 := by
  have h1 := h.1.nums
  have h2 := h.2.2.2.1
  have h3 := h.2.2.2.2.2.1
  obtain ⟨-, ⟨g1, g2⟩, -, -⟩ := setOk_bd h.1.set
  exact ⟨by omega, by omega, by omega, by omega⟩
structure WaAt (T : Option (List UInt8)) (ps : List ByteArray) (j : Nat) (ok : Bool) (x : WrD) (out : List UInt8) : Prop where
  le : j ≤ ps.length
  len : out.length ≤ 41000 * j
  yes : ok = true → wrOk x ∧ waW x (ps.drop j) out = T
  no : ok = false → x = wr0 ∧ T = none
theorem WaAt.start (k : KnD) (ps : List ByteArray) : WaAt (waG k ps) ps 0 (validK k) (nwX k) [] := by
  unfold waG nwX
  refine WaAt.mk (Nat.zero_le _) (Nat.zero_le _) (fun h => ?_) (fun h => ?_)
  · rw [if_pos h, if_pos h]
    exact ⟨wrOk_new h, rfl⟩
  · rw [if_neg (by rw [h]; simp), if_neg (by rw [h]; simp)]
    exact ⟨rfl, rfl⟩
theorem WaAt.next {T : Option (List UInt8)} {ps : List ByteArray} {j : Nat} {x : WrD} {out : List UInt8} (h : WaAt T ps j true x out) (hj : j < ps.length) :
    WaAt T ps (j + 1) (wdO x ps[j].data.toList).isSome (oWr (wdO x ps[j].data.toList)) (out ++ oBy (wdO x ps[j].data.toList)) ∧ (oBy (wdO x ps[j].data.toList)).length ≤ 41000 := by
  have hT := (h.yes rfl).2
  rw [List.drop_eq_getElem_cons hj, waW] at hT
  have hl := h.len
  generalize ps[j].data.toList = d at *
  obtain h0 | ⟨r, h1, h2, h3, h4, h5⟩ := wdO_case (x := x) (d := d)
  · obtain ⟨h1, h2, h3⟩ := h0
    rw [h2, h3]
    rw [h1] at hT ⊢
    exact ⟨WaAt.mk hj (by rw [List.append_nil]; omega) (fun e => by cases e) (fun _ => ⟨rfl, hT.symm⟩), Nat.zero_le _⟩
  · rw [h2, h3]
    rw [h1] at hT ⊢
    exact ⟨WaAt.mk hj (by rw [List.length_append]; omega) (fun _ => ⟨h4, hT⟩) (fun e => by cases e), h5⟩
end Go.Proofs.Ytgbakgaegldomaa

