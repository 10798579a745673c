/- Walks of ContainerSize and CountRaw, the program's and the reference's. Conditions: the string's length is below 2^30. -/
import Derived.Test.YthemmoecocjpjaaCont3
namespace Go.Proofs.Ythemmoecocjpjaa
set_option linter.unusedVariables false
set_option linter.unusedSimpArgs false
open Go.RowKit

theorem goBlocks_ok {s : ByteArray} : ∀ (n k : Nat) (acc l : List BlkD), s.size - k ≤ n → accOk acc → goBlocks s k acc = some l → accOk l
  | 0, k, acc, l, hn, ho, h => by
    rw [go_end (by omega)] at h; cases h; exact ho
  | n + 1, k, acc, l, hn, ho, h => by
    by_cases hk : k < s.size
    · by_cases hp : parseOk s k = true ∧ numAt s (k + 2) = acc.length
      · rw [← go_step hk hp.1 hp.2] at h
        exact goBlocks_ok n _ _ l (by have := endAt_lt s k; omega) (accOk_snoc ho hp.1 hp.2) h
      · rw [go_fail hk hp] at h; cases h
    · rw [go_end hk] at h; cases h; exact ho
theorem contBlocks_ok {s : ByteArray} {l : List BlkD} (h : contBlocks s = some l) : accOk l := by
  unfold contBlocks at h
  cases hg : goBlocks s 0 [] with
  | none => rw [hg] at h; cases h
  | some l' =>
    rw [hg, Option.bind_some] at h
    split at h
    · cases h; exact goBlocks_ok _ _ _ _ (Nat.le_refl _) accOk_nil hg
    · cases h

theorem contI_some {s : ByteArray} {l : List BlkD} (h : contBlocks s = some l) (hs : s.size ≤ 1073741824) (w : World) : Calls Try.prog 22 #[.string s] w (fun e w' => ∃ v, e = .returned (.tuple #[v, .bool true]) ∧ w'.ownsRow w.heap.size 24 4 v l.length (cellsB l) ∧ Up w w') :=
  (contI_any s w hs).mono fun e w' ⟨v, h1, h2, h3⟩ => ⟨v, by rw [h1, h]; rfl, by rw [h] at h2; exact h2, h3⟩
theorem contI_none {s : ByteArray} (h : contBlocks s = none) (hs : s.size ≤ 1073741824) (w : World) : Calls Try.prog 22 #[.string s] w (fun e w' => ∃ v, e = .returned (.tuple #[v, .bool false]) ∧ w'.ownsRow w.heap.size 24 4 v 0 [] ∧ Up w w') :=
  (contI_any s w hs).mono fun e w' ⟨v, h1, h2, h3⟩ => ⟨v, by rw [h1, h]; rfl, by rw [h] at h2; exact h2, h3⟩
theorem contS_some {s : ByteArray} {l : List BlkD} (h : contBlocks s = some l) (hs : s.size ≤ 1073741824) (w : World) : Calls Try.prog 67 #[.string s] w (fun e w' => ∃ v, e = .returned (.tuple #[v, .bool true]) ∧ w'.ownsRow w.heap.size 24 4 v l.length (cellsB l) ∧ Up w w') :=
  (contS_any s w hs).mono fun e w' ⟨v, h1, h2, h3⟩ => ⟨v, by rw [h1, h]; rfl, by rw [h] at h2; exact h2, h3⟩
theorem contS_none {s : ByteArray} (h : contBlocks s = none) (hs : s.size ≤ 1073741824) (w : World) : Calls Try.prog 67 #[.string s] w (fun e w' => ∃ v, e = .returned (.tuple #[v, .bool false]) ∧ w'.ownsRow w.heap.size 24 4 v 0 [] ∧ Up w w') :=
  (contS_any s w hs).mono fun e w' ⟨v, h1, h2, h3⟩ => ⟨v, by rw [h1, h]; rfl, by rw [h] at h2; exact h2, h3⟩

def contSize (s : ByteArray) : Int := match contBlocks s with | none => -1 | some l => sizeSum l
def rawCount (l : List BlkD) : Int := ((l.filter (·.raw)).length : Nat)
def contRaw (s : ByteArray) : Int := match contBlocks s with | none => -1 | some l => rawCount l
theorem rawCount_take {l : List BlkD} {k : Nat} (h : k < l.length) : rawCount (l.take (k + 1)) = rawCount (l.take k) + if l[k].raw then 1 else 0 := by
  rw [List.take_succ_eq_append_getElem h, rawCount, rawCount, List.filter_append, List.length_append]
  cases hr : l[k].raw <;> simp [hr]
theorem rawCount_bd (l : List BlkD) : 0 ≤ rawCount l ∧ rawCount l ≤ l.length := by
  have := List.length_filter_le (fun b : BlkD => b.raw) l
  unfold rawCount; omega

set_option maxRecDepth 100000 in
set_option maxHeartbeats 1000000 in
theorem csizei_any (s : ByteArray) (w : World) (hs : s.size ≤ 1073741824) :
    Calls Try.prog 25 #[.string s] w (Same (.int .i64 (contSize s)) w) := by
  unfold contSize
  cases hc : contBlocks s with
  | none =>
    have cP := contI_none hc hs
    clear hc
    go_enter Try.func25, Try.ntmps25
    go_wp2_with (go_at_call 22; (with_reducible refine (cP _).mono ?_); rintro e w1 ⟨v, rfl, hown, U1⟩)
    go_ret
    exact ⟨rfl, U1⟩
  | some l =>
    have cP := contI_some hc hs
    have hok := contBlocks_ok hc
    clear hc
    go_enter Try.func25, Try.ntmps25
    go_wp2_with (first | (go_at_call 22; (with_reducible refine (cP _).mono ?_); rintro e w1 ⟨v, rfl, hown, U1⟩) | (go_at_call 66; (with_reducible refine (sizeI_any l _ _ _ hown hok).mono ?_); rintro e w2 ⟨rfl, U2⟩))
    go_ret
    exact ⟨rfl, U1.trans U2⟩

set_option maxRecDepth 100000 in
set_option maxHeartbeats 1000000 in
theorem csizes_any (s : ByteArray) (w : World) (hs : s.size ≤ 1073741824) :
    Calls Try.prog 70 #[.string s] w (Same (.int .i64 (contSize s)) w) := by
  unfold contSize
  cases hc : contBlocks s with
  | none =>
    have cP := contS_none hc hs
    clear hc
    go_enter Try.func70, Try.ntmps70
    go_wp2_with (go_at_call 67; (with_reducible refine (cP _).mono ?_); rintro e w1 ⟨v, rfl, hown, U1⟩)
    go_ret
    exact ⟨rfl, U1⟩
  | some l =>
    have cP := contS_some hc hs
    have hok := contBlocks_ok hc
    clear hc
    go_enter Try.func70, Try.ntmps70
    go_wp2_with (first | (go_at_call 67; (with_reducible refine (cP _).mono ?_); rintro e w1 ⟨v, rfl, hown, U1⟩) | (go_at_call 100; (with_reducible refine (sizeS_any l _ _ _ hown hok).mono ?_); rintro e w2 ⟨rfl, U2⟩))
    go_ret
    exact ⟨rfl, U1.trans U2⟩

def RelR (l : List BlkD) (w : World) (t i : Value) (wr : World) : Prop := ∃ k : Nat, k ≤ l.length ∧ i = .int .i64 k ∧ t = .int .i64 (rawCount (l.take k)) ∧ Up w wr

set_option maxRecDepth 100000 in
set_option maxHeartbeats 1000000 in
theorem counti_any (s : ByteArray) (w : World) (hs : s.size ≤ 1073741824) :
    Calls Try.prog 26 #[.string s] w (Same (.int .i64 (contRaw s)) w) := by
  unfold contRaw
  cases hc : contBlocks s with
  | none =>
    have cP := contI_none hc hs
    clear hc
    go_enter Try.func26, Try.ntmps26
    go_wp2_with (go_at_call 22; (with_reducible refine (cP _).mono ?_); rintro e w1 ⟨v, rfl, hown, U1⟩; obtain ⟨a, cap, rfl, -, -⟩ := ownsRow_any hown)
    go_ret
    exact ⟨rfl, U1⟩
  | some l =>
    have cP := contI_some hc hs
    have hok := contBlocks_ok hc
    have hl40 := hok.1
    clear hc
    go_enter Try.func26, Try.ntmps26
    go_wp2_with (go_at_call 22; (with_reducible refine (cP _).mono ?_); rintro e w1 ⟨v, rfl, hown, U1⟩; obtain ⟨a, cap, rfl, hm, hsome⟩ := ownsRow_any hown)
    go_loopw [5, 17] (fun t i wr => RelR l w1 t i wr) (fun _ i _ => l.length - (intOf i).toNat)
    case atStart => exact ⟨0, Nat.zero_le _, rfl, rfl, Up.refl _⟩
    case round =>
      obtain ⟨k, hk, rfl, rfl, hup⟩ := hrel
      obtain ⟨hb1, hb2⟩ := rawCount_bd (l.take k)
      have hlen : (l.take k).length ≤ 40 := by simp; omega
      have hb3 : rawCount (l.take k) ≤ 40 := by omega
      clear hb2 hlen
      by_cases hlt : k < l.length
      · obtain ⟨g, rfl, hnc, hcm, hbg, hg, hcells⟩ := hsome (by omega)
        obtain ⟨c0, c1, c2, c3⟩ := blk_cells (w := wr) (fun j u hj => (hup.cell (p := ⟨g, j, none⟩) hg).trans (hcells j u hj)) hlt
        have HS := Lib.hid (rawCount_take hlt)
        generalize l[k].raw = rw' at *
        clear hcells
        cases rw'
        all_goals
          go_wp2
          go_roundw
          case rel => exact ⟨k + 1, by omega, by go_num, by rw [HS.out]; first | rfl | (rw [if_neg Bool.false_ne_true, Int.add_zero]), hup.alloc _⟩
          case measure => simp [intOf]; omega
      · have e : Hid (l.take k = l) := List.take_of_length_le (by omega)
        go_wp2
        go_ret
        exact ⟨ret_int (by rw [e.out]), U1.trans hup⟩

end Go.Proofs.Ythemmoecocjpjaa
