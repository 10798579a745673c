/- Texts joined into one: the walks and laws that the last text leans on. Conditions: as each says. -/
import Derived.Test.YtbimdjlcjcdbnaaMFnDictGainLawC
import Derived.SliceStrings
import Derived.Test.YtbimdjlcjcdbnaaComp
import Derived.Test.YtbimdjlcjcdbnaaMFnDictGainLawD

/- Slices of strings: those that came in, and the laws' helpers that measure, copy and compare them. Conditions: as each says. -/
namespace Go.Proofs.Ytbimdjlcjcdbnaa
set_option linter.unusedVariables false
set_option linter.unusedSimpArgs false
open Go Go.RowKit Go.ChangeShapes

def cellsS (l : List ByteArray) : List Value := l.map Value.string
/-- A slice of strings that can be read. -/
def ArgS (w : World) (v : Value) (l : List ByteArray) : Prop := ∃ a cap, v = .slice a l.length cap ∧ l.length ≤ maxLen ∧ (∀ s ∈ l, s.size ≤ maxLen) ∧ (0 < l.length → ∃ b off, a = some ⟨b, off, none⟩ ∧ l.length ≤ cap ∧ cap ≤ maxLen ∧ b < w.heap.size ∧ ∀ i s, l[i]? = some s → w.cell? ⟨b, off + i, none⟩ = some (.string s))
theorem ArgS.up {w w' : World} {v : Value} {l : List ByteArray} (h : ArgS w v l) (hu : Up w w') : ArgS w' v l := by
  obtain ⟨a, cap, h1, h2, h2', h3⟩ := h
  refine ⟨a, cap, h1, h2, h2', fun hp => ?_⟩
  obtain ⟨b, off, e1, e2, e3, e4, e5⟩ := h3 hp
  exact ⟨b, off, e1, e2, e3, Nat.lt_of_lt_of_le e4 hu.size, fun i p hi => (hu.cell (p := ⟨b, _, none⟩) e4).trans (e5 i p hi)⟩
def ownS (w : World) (base : Nat) (v : Value) (l : List ByteArray) : Prop := w.ownsRow base 9 1 v l.length (cellsS l)
theorem ArgS.of_own {w : World} {base : Nat} {v : Value} {l : List ByteArray} (h : ownS w base v l) (hs : ∀ s ∈ l, s.size ≤ maxLen) : ArgS w v l := by
  rcases ownsRow_read h with ⟨rfl, h2⟩ | ⟨g, cap, rfl, h1, h2, h3, h4, h5⟩
  · exact ⟨none, 0, by rw [h2], by rw [h2]; exact Nat.zero_le _, hs, fun h => by omega⟩
  · refine ⟨some ⟨g, 0, none⟩, cap, rfl, by omega, hs, fun _ => ⟨g, 0, rfl, h1, h2, h4, fun i x hi => ?_⟩⟩
    rw [Nat.zero_add]
    refine h5 _ _ ?_
    simp [cellsS, hi]
theorem ArgS.at {w : World} {a : Option Addr} {n c : Nat} {l : List ByteArray} (h : ArgS w (.slice a n c) l) {i : Nat} (hi : i < l.length) : ∃ b off, a = some ⟨b, off, none⟩ ∧ b < w.heap.size ∧ w.cell? ⟨b, off + i, none⟩ = some (.string l[i]) ∧ n = l.length ∧ n ≤ c ∧ c ≤ maxLen := by
  obtain ⟨a', c', e, h1, h2, h3⟩ := h
  cases e
  obtain ⟨b, off, e1, e2, e3, e4, e5⟩ := h3 (by omega)
  exact ⟨b, off, e1, e4, e5 i _ (List.getElem?_eq_getElem hi), rfl, e2, e3⟩

end Go.Proofs.Ytbimdjlcjcdbnaa

/- Plain laws on the best dictionary; walks of the reference's l4Fits, l4Size, l4Total, BestDict, BestSample. Conditions: the strings can be read and are no longer than 2^20 bytes. -/
namespace Go.Proofs.Ytbimdjlcjcdbnaa
set_option linter.unusedVariables false
set_option linter.unusedSimpArgs false
open Go Go.RowKit

/-- The size of the stream of data with a dictionary; of all texts. -/
def szW (s : SetD) (dict d : ByteArray) : Nat := ((compW s dict.data.toList d.data.toList).getD []).length
theorem compL_len2 {k : KnD} {d : List UInt8} (h : k.Ok) (hl : ∀ b ∈ d, b.toNat < k.c) (hd : d.length ≤ 2000) : (compL k d).length ≤ 10000 := by
  obtain ⟨g1, g2, g3, g4, g5⟩ := walk_greedy h hl hd
  have g6 := greedy_len k d
  have g7 := packC_len k.set.ord (greedy k d) (walkN k (greedy k d) [] []).ws (fun x hx => ⟨by have := (g4 x hx).1; omega, by have := (g4 x hx).2; omega⟩)
  unfold compL
  rw [packL_length]; omega
theorem compW_len2 {s : SetD} {dict d : List UInt8} : ((compW s dict d).getD []).length ≤ 10000 := by
  unfold compW
  split
  · next h1 =>
    obtain ⟨f1, f2, f3⟩ := fitsB_lits h1
    have hok : (learnK (startK s) dict).Ok := learnK_ok (startK_ok f1) f3
    unfold compO
    split
    · next h2 =>
      obtain ⟨e1, e2, e3⟩ := fitsB_lits h2
      exact compL_len2 hok e3 e2
    · simp
  · simp
end Go.Proofs.Ytbimdjlcjcdbnaa

/- Walks of DictGain, of its draws and of the laws' soSize. Conditions: the strings are no longer than 2^30 bytes. (DRAFT: not elaborated yet) -/
namespace Go.Proofs.Ytbimdjlcjcdbnaa
set_option linter.unusedVariables false
set_option linter.unusedSimpArgs false
open Go Go.RowKit

theorem empty_list : (ByteArray.mk #[]).data.toList = ([] : List UInt8) := rfl
theorem empty_size : (ByteArray.mk #[]).size = 0 := rfl

set_option maxRecDepth 100000 in
set_option maxHeartbeats 4000000 in
theorem gainI_any (s : SetD) (dict d : ByteArray) (w : World) (hl : -9223372036854775808 ≤ s.lit ∧ s.lit ≤ 9223372036854775807) (hi : dict.size ≤ 1073741824) (hd : d.size ≤ 1073741824) :
    Calls Try.prog 8  #[setV s, .string dict, .string d] w (Same (gainV s dict.data.toList d.data.toList) w) := by
  have cW := fun wx => compWI_any s dict d wx hl hi hd
  have cE := fun wx => compWI_any s ⟨#[]⟩ d wx hl (by rw [empty_size]; omega) hd
  rw [empty_list] at cE
  have hz1 := fun l => bs_size l
  cases h : (fitsB s dict.data.toList && fitsB s d.data.toList)
  · have HG : Hid (gainV s dict.data.toList d.data.toList = .tuple #[.int .i64 0, .bool false]) := by unfold Hid gainV; rw [h]; rfl
    rw [compW_no h, optS_none] at cW
    rw [HG.out]
    clear h cE hz1
    simp only [setV] at *
    go_enter Try.func8, Try.ntmps8
    go_wp2_with ((go_at_call 26; (with_reducible refine (cW _).mono ?_); rintro e w1 ⟨rfl, U1⟩; have B1 := bcell U1; have Z1 := U1.size; (try simp at Z1); (try rw [Nat.add_one_le_iff] at Z1)))
    go_ret2
    refine ⟨rfl, ?_⟩
    (repeat (first | with_reducible exact Up.refl _ | with_reducible assumption | with_reducible refine Up.set ?_ (by first | exact Nat.le_refl _ | (simp only []; omega) | (simp; omega)) _ | with_reducible refine Up.alloc ?_ _ | with_reducible refine Up.drew ?_ | refine Up.trans ?_ (by with_reducible assumption)))
  · obtain ⟨h1, h2⟩ := Bool.and_eq_true_iff.1 h
    have HG : Hid (gainV s dict.data.toList d.data.toList = .tuple #[.int .i64 ((((compW s [] d.data.toList).getD []).length : Int) - (((compW s dict.data.toList d.data.toList).getD []).length : Int)), .bool true]) := by unfold Hid gainV; rw [h]; rfl
    have hc1 := compW_len2 (s := s) (dict := dict.data.toList) (d := d.data.toList)
    have hc2 := compW_len2 (s := s) (dict := []) (d := d.data.toList)
    rw [HG.out]
    rw [compW_some h1 h2] at cW hc1 ⊢
    rw [compW_some (fits_nil h2) h2] at cE hc2 ⊢
    unfold optS at cW cE
    simp only [Option.getD_some, Option.isSome_some] at *
    have z1 := bs_size (compL (learnK (startK s) dict.data.toList) d.data.toList)
    have z2 := bs_size (compL (learnK (startK s) []) d.data.toList)
    clear h h1 h2 HG hz1
    generalize compL (learnK (startK s) dict.data.toList) d.data.toList = c1 at *
    generalize compL (learnK (startK s) []) d.data.toList = c2 at *
    simp only [setV] at *
    go_enter Try.func8, Try.ntmps8
    go_wp2_with (first | ((go_at_call 26; (with_reducible refine (cW _).mono ?_); rintro e w1 ⟨rfl, U1⟩; have B1 := bcell U1; have Z1 := U1.size; (try simp at Z1); (try rw [Nat.add_one_le_iff] at Z1)); (try have Y1a : w.heap.size < w1.heap.size := (by omega)); (try have Y1b : w.heap.size + 1 < w1.heap.size := (by omega)); (try have Y1c : w.heap.size + 1 + 1 < w1.heap.size := (by omega)); (try have Y1d : w.heap.size + 1 + 1 + 1 < w1.heap.size := (by omega)); skip) | ((go_at_call 26; (with_reducible refine (cE _).mono ?_); rintro e w2 ⟨rfl, U2⟩; have B2 := bcell U2; have Z2 := U2.size; (try simp at Z2); (try rw [Nat.add_one_le_iff] at Z2)); (try have Y2a : w.heap.size < w2.heap.size := (by omega)); (try have Y2b : w.heap.size + 1 < w2.heap.size := (by omega)); (try have Y2c : w.heap.size + 1 + 1 < w2.heap.size := (by omega)); (try have Y2d : w.heap.size + 1 + 1 + 1 < w2.heap.size := (by omega)); skip))
    go_ret2
    refine ⟨by first | rfl | (rw [z1, z2]; done) | simp, ?_⟩
    (repeat (first | with_reducible exact Up.refl _ | with_reducible assumption | with_reducible refine Up.set ?_ (by first | exact Nat.le_refl _ | (simp only []; omega) | (simp; omega)) _ | with_reducible refine Up.alloc ?_ _ | with_reducible refine Up.drew ?_ | refine Up.trans ?_ (by with_reducible assumption)))

set_option maxRecDepth 100000 in
set_option maxHeartbeats 4000000 in
theorem gainS_any (s : SetD) (dict d : ByteArray) (w : World) (hi : dict.size ≤ 1073741824) (hd : d.size ≤ 1073741824) :
    Calls Try.prog 9  #[setV s, .string dict, .string d] w (Same (gainV s dict.data.toList d.data.toList) w) := by
  have cW := fun wx => compWS_any s dict d wx hi hd
  have cE := fun wx => compWS_any s ⟨#[]⟩ d wx (by rw [empty_size]; omega) hd
  rw [empty_list] at cE
  have hc1 := compW_len2 (s := s) (dict := dict.data.toList) (d := d.data.toList)
  have hc2 := compW_len2 (s := s) (dict := []) (d := d.data.toList)
  cases h2 : fitsB s d.data.toList
  · have HG : Hid (gainV s dict.data.toList d.data.toList = .tuple #[.int .i64 0, .bool false]) := by unfold Hid gainV; rw [h2, Bool.and_false]; rfl
    rw [compW_no (by rw [h2, Bool.and_false]), optS_none] at cW
    rw [compW_no (by rw [h2, Bool.and_false]), optS_none] at cE
    rw [HG.out]
    clear h2 hc1 hc2
    simp only [setV] at *
    go_enter Try.func9, Try.ntmps9
    go_wp2_with (first | ((go_at_call 27; (with_reducible refine (cE _).mono ?_); rintro e w1 ⟨rfl, U1⟩; have B1 := bcell U1; have Z1 := U1.size; (try simp at Z1); (try rw [Nat.add_one_le_iff] at Z1)); (try have Y1a : w.heap.size < w1.heap.size := (by omega)); (try have Y1b : w.heap.size + 1 < w1.heap.size := (by omega)); (try have Y1c : w.heap.size + 1 + 1 < w1.heap.size := (by omega)); (try have Y1d : w.heap.size + 1 + 1 + 1 < w1.heap.size := (by omega)); skip) | ((go_at_call 27; (with_reducible refine (cW _).mono ?_); rintro e w2 ⟨rfl, U2⟩; have B2 := bcell U2; have Z2 := U2.size; (try simp at Z2); (try rw [Nat.add_one_le_iff] at Z2)); (try have Y2a : w.heap.size < w2.heap.size := (by omega)); (try have Y2b : w.heap.size + 1 < w2.heap.size := (by omega)); (try have Y2c : w.heap.size + 1 + 1 < w2.heap.size := (by omega)); (try have Y2d : w.heap.size + 1 + 1 + 1 < w2.heap.size := (by omega)); skip))
    go_ret2
    refine ⟨rfl, ?_⟩
    (repeat (first | with_reducible exact Up.refl _ | with_reducible assumption | with_reducible refine Up.set ?_ (by first | exact Nat.le_refl _ | (simp only []; omega) | (simp; omega)) _ | with_reducible refine Up.alloc ?_ _ | with_reducible refine Up.drew ?_ | refine Up.trans ?_ (by with_reducible assumption)))
  · rw [compW_some (fits_nil h2) h2] at cE hc2
    cases h1 : fitsB s dict.data.toList
    · have HG : Hid (gainV s dict.data.toList d.data.toList = .tuple #[.int .i64 0, .bool false]) := by unfold Hid gainV; rw [h1, Bool.false_and]; rfl
      rw [compW_no (by rw [h1, Bool.false_and]), optS_none] at cW
      rw [HG.out]
      unfold optS at cE
      simp only [Option.getD_some, Option.isSome_some] at *
      clear h1 h2 hc1 hc2
      generalize compL (learnK (startK s) []) d.data.toList = c2 at *
      simp only [setV] at *
      go_enter Try.func9, Try.ntmps9
      go_wp2_with (first | ((go_at_call 27; (with_reducible refine (cE _).mono ?_); rintro e w1 ⟨rfl, U1⟩; have B1 := bcell U1; have Z1 := U1.size; (try simp at Z1); (try rw [Nat.add_one_le_iff] at Z1)); (try have Y1a : w.heap.size < w1.heap.size := (by omega)); (try have Y1b : w.heap.size + 1 < w1.heap.size := (by omega)); (try have Y1c : w.heap.size + 1 + 1 < w1.heap.size := (by omega)); (try have Y1d : w.heap.size + 1 + 1 + 1 < w1.heap.size := (by omega)); skip) | ((go_at_call 27; (with_reducible refine (cW _).mono ?_); rintro e w2 ⟨rfl, U2⟩; have B2 := bcell U2; have Z2 := U2.size; (try simp at Z2); (try rw [Nat.add_one_le_iff] at Z2)); (try have Y2a : w.heap.size < w2.heap.size := (by omega)); (try have Y2b : w.heap.size + 1 < w2.heap.size := (by omega)); (try have Y2c : w.heap.size + 1 + 1 < w2.heap.size := (by omega)); (try have Y2d : w.heap.size + 1 + 1 + 1 < w2.heap.size := (by omega)); skip))
      go_ret2
      refine ⟨rfl, ?_⟩
      (repeat (first | with_reducible exact Up.refl _ | with_reducible assumption | with_reducible refine Up.set ?_ (by first | exact Nat.le_refl _ | (simp only []; omega) | (simp; omega)) _ | with_reducible refine Up.alloc ?_ _ | with_reducible refine Up.drew ?_ | refine Up.trans ?_ (by with_reducible assumption)))
    · have HG : Hid (gainV s dict.data.toList d.data.toList = .tuple #[.int .i64 ((((compW s [] d.data.toList).getD []).length : Int) - (((compW s dict.data.toList d.data.toList).getD []).length : Int)), .bool true]) := by unfold Hid gainV; rw [h1, h2]; rfl
      rw [HG.out]
      rw [compW_some h1 h2] at cW hc1 ⊢
      rw [compW_some (fits_nil h2) h2]
      unfold optS at cW cE
      simp only [Option.getD_some, Option.isSome_some] at *
      have z1 := bs_size (compL (learnK (startK s) dict.data.toList) d.data.toList)
      have z2 := bs_size (compL (learnK (startK s) []) d.data.toList)
      clear h1 h2 HG
      generalize compL (learnK (startK s) dict.data.toList) d.data.toList = c1 at *
      generalize compL (learnK (startK s) []) d.data.toList = c2 at *
      simp only [setV] at *
      go_enter Try.func9, Try.ntmps9
      go_wp2_with (first | ((go_at_call 27; (with_reducible refine (cE _).mono ?_); rintro e w1 ⟨rfl, U1⟩; have B1 := bcell U1; have Z1 := U1.size; (try simp at Z1); (try rw [Nat.add_one_le_iff] at Z1)); (try have Y1a : w.heap.size < w1.heap.size := (by omega)); (try have Y1b : w.heap.size + 1 < w1.heap.size := (by omega)); (try have Y1c : w.heap.size + 1 + 1 < w1.heap.size := (by omega)); (try have Y1d : w.heap.size + 1 + 1 + 1 < w1.heap.size := (by omega)); skip) | ((go_at_call 27; (with_reducible refine (cW _).mono ?_); rintro e w2 ⟨rfl, U2⟩; have B2 := bcell U2; have Z2 := U2.size; (try simp at Z2); (try rw [Nat.add_one_le_iff] at Z2)); (try have Y2a : w.heap.size < w2.heap.size := (by omega)); (try have Y2b : w.heap.size + 1 < w2.heap.size := (by omega)); (try have Y2c : w.heap.size + 1 + 1 < w2.heap.size := (by omega)); (try have Y2d : w.heap.size + 1 + 1 + 1 < w2.heap.size := (by omega)); skip))
      go_ret2
      refine ⟨by first | rfl | (rw [z1, z2]; done) | simp, ?_⟩
      (repeat (first | with_reducible exact Up.refl _ | with_reducible assumption | with_reducible refine Up.set ?_ (by first | exact Nat.le_refl _ | (simp only []; omega) | (simp; omega)) _ | with_reducible refine Up.alloc ?_ _ | with_reducible refine Up.drew ?_ | refine Up.trans ?_ (by with_reducible assumption)))

set_option maxRecDepth 100000 in
set_option maxHeartbeats 2000000 in
theorem drawDictGain_any (v : Value) (l : List UInt8) (w : World) (h : ArgU w v l) :
    Calls Try.prog 7  #[v] w (fun e w' => ∃ v, e = .returned v ∧ isL4 v ∧ Up w w') := by
  have cO := fun w' hu => drawCompressWith_any v l w' (h.up (w' := w') hu)
  clear h
  go_enter Try.func7, Try.ntmps7
  go_wp2_with (go_at_call 25; (with_reducible refine (cO _ (by (repeat (first | with_reducible exact Up.refl _ | with_reducible assumption | with_reducible refine Up.set ?_ (by first | exact Nat.le_refl _ | (simp only []; omega) | (simp; omega)) _ | with_reducible refine Up.alloc ?_ _ | with_reducible refine Up.drew ?_ | refine Up.trans ?_ (by with_reducible assumption))))).mono ?_); rintro e w1 ⟨v1, rfl, ⟨s, dict, d, rfl, hs, hdi, hd⟩, U1⟩; simp only [setV]; have hRB : SetAt w.heap.size 0 0 0 w1 := box_up U1 (MapKept.heap_alloc w _).1; obtain ⟨hb0, q0, q1, q2⟩ := SetAt.cells hRB; have hfr := box_free hRB)
  (try simp only [Exit.inBlock, Exit.then])
  refine bodyPost_ret (v := .tuple #[setV s, .string dict, .string d]) (by simp [results, Try.results7, go_sem, q0, q1, q2, hb0]) rfl ⟨_, rfl, ⟨s, dict, d, rfl, hs, hdi, hd⟩, ?_⟩
  (repeat (first | with_reducible exact Up.refl _ | with_reducible assumption | with_reducible refine Up.set ?_ (by first | exact Nat.le_refl _ | (simp only []; omega) | (simp; omega)) _ | with_reducible refine Up.alloc ?_ _ | with_reducible refine Up.drew ?_ | refine Up.trans ?_ (by with_reducible assumption)))

set_option maxRecDepth 100000 in
set_option maxHeartbeats 2000000 in
theorem soSize_any (s : SetD) (dict d : ByteArray) (w : World) (hl : -9223372036854775808 ≤ s.lit ∧ s.lit ≤ 9223372036854775807) (hi : dict.size ≤ 1073741824) (hd : d.size ≤ 1073741824) :
    Calls Try.prog 12  #[setV s, .string dict, .string d] w (Same (.int .i64 (szW s dict d : Nat)) w) := by
  have cC := fun wx => compWI_any s dict d wx hl hi hd
  unfold optS at cC
  have HX : Hid ((bs ((compW s dict.data.toList d.data.toList).getD [])).size = szW s dict d) := bs_size _
  generalize bs ((compW s dict.data.toList d.data.toList).getD []) = B at *
  generalize szW s dict d = z at *
  simp only [setV] at *
  go_enter Try.func12, Try.ntmps12
  go_wp2_with ((go_at_call 26; (with_reducible refine (cC _).mono ?_); rintro e w1 ⟨rfl, U1⟩; have B1 := bcell U1; have Z1 := U1.size; (try simp at Z1); (try rw [Nat.add_one_le_iff] at Z1)))
  go_ret
  refine ⟨by first | rfl | (rw [HX.out]; done) | (rw [HX.out]; rfl), ?_⟩
  (repeat (first | with_reducible exact Up.refl _ | with_reducible assumption | with_reducible refine Up.set ?_ (by first | exact Nat.le_refl _ | (simp only []; omega) | (simp; omega)) _ | with_reducible refine Up.alloc ?_ _ | with_reducible refine Up.drew ?_ | refine Up.trans ?_ (by with_reducible assumption)))

end Go.Proofs.Ytbimdjlcjcdbnaa

/- Plain: an empty dictionary teaches nothing. Conditions: none. -/
namespace Go.Proofs.Ytbimdjlcjcdbnaa
set_option linter.unusedVariables false
set_option linter.unusedSimpArgs false
open Go Go.RowKit

theorem learnK_nil (s : SetD) : learnK (startK s) [] = startK s := by
  unfold learnK startK
  rfl
theorem rdP_nil (lo : Nat) (w : World) : RdP lo w (.slice none 0 0) [] := ⟨none, 0, rfl, Nat.le_refl _, Nat.zero_le _, fun _ => ⟨rfl, rfl⟩, fun h => absurd h (Nat.lt_irrefl _)⟩
theorem compO_plain {s : SetD} {d : List UInt8} (h2 : fitsB s d = true) : compO (startK s) d = some (compL (learnK (startK s) []) d) := by
  have := compW_some (dict := []) (fits_nil h2) h2
  unfold compW at this
  rw [if_pos (fits_nil h2)] at this
  rw [← learnK_nil s]
  rw [learnK_nil s] at this ⊢
  exact this
theorem gain_none {s : SetD} {d : List UInt8} (h2 : fitsB s d = true) : gainV s [] d = .tuple #[.int .i64 0, .bool true] := by
  unfold gainV
  rw [fits_nil h2, h2]
  simp

end Go.Proofs.Ytbimdjlcjcdbnaa

