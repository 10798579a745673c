/- Walks of ContainerSize and CountRaw, the program's and the reference's. Conditions: the string's length is below 2^30. -/
import Derived.Test.YtnbmkoapohjnmaaCont3
namespace Go.Proofs.Ytnbmkoapohjnmaa
set_option linter.unusedVariables false
set_option linter.unusedSimpArgs false
open Go.RowKit

theorem goBlocks_ok {s : ByteArray} : ∀ (n k : Nat) (acc l : List BlkD), s.size - k ≤ n → accOk acc → goBlocks s k acc = some l → accOk l
  | 0, k, acc, l, hn, ho, h => by
    rw [go_end (by omega)] at h; cases h; exact ho
  | n + 1, k, acc, l, hn, ho, h => by
    by_cases hk : k < s.size
    · by_cases hp : parseOk s k = true ∧ numAt s (k + 2) = acc.length
      · rw [← go_step hk hp.1 hp.2] at h
        exact goBlocks_ok n _ _ l (by have := endAt_lt s k; omega) (accOk_snoc ho hp.1 hp.2) h
      · rw [go_fail hk hp] at h; cases h
    · rw [go_end hk] at h; cases h; exact ho
theorem contBlocks_ok {s : ByteArray} {l : List BlkD} (h : contBlocks s = some l) : accOk l := by
  unfold contBlocks at h
  cases hg : goBlocks s 0 [] with
  | none => rw [hg] at h; cases h
  | some l' =>
    rw [hg, Option.bind_some] at h
    split at h
    · cases h; exact goBlocks_ok _ _ _ _ (Nat.le_refl _) accOk_nil hg
    · cases h

def contSize (s : ByteArray) : Int := match contBlocks s with | none => -1 | some l => sizeSum l
def rawCount (l : List BlkD) : Int := ((l.filter (·.raw)).length : Nat)
def contRaw (s : ByteArray) : Int := match contBlocks s with | none => -1 | some l => rawCount l
theorem rawCount_take {l : List BlkD} {k : Nat} (h : k < l.length) : rawCount (l.take (k + 1)) = rawCount (l.take k) + if l[k].raw then 1 else 0 := by
  rw [List.take_succ_eq_append_getElem h, rawCount, rawCount, List.filter_append, List.length_append]
  cases hr : l[k].raw <;> simp [hr]
theorem rawCount_bd (l : List BlkD) : 0 ≤ rawCount l ∧ rawCount l ≤ l.length := by
  have := List.length_filter_le (fun b : BlkD => b.raw) l
  unfold rawCount; omega

def RelR (l : List BlkD) (w : World) (t i : Value) (wr : World) : Prop := ∃ k : Nat, k ≤ l.length ∧ i = .int .i64 k ∧ t = .int .i64 (rawCount (l.take k)) ∧ Up w wr

end Go.Proofs.Ytnbmkoapohjnmaa
