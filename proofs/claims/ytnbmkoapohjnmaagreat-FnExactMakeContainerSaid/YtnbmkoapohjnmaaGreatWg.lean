/- Walks of the program's CompressWith, SealStream, makeBlock, BlockOf, and of the reference's SealStream. Conditions: the strings are no longer than 2^30 bytes. -/
import Derived.Test.YtnbmkoapohjnmaaGreatWe
import Derived.Test.YtnbmkoapohjnmaaGreatWf
import Derived.Test.YtnbmkoapohjnmaaGreatBlkOf
namespace Go.Proofs.YtnbmkoapohjnmaaGreat
set_option linter.unusedVariables false
set_option linter.unusedSimpArgs false
open Go Go.RowKit

theorem compL_len {k : KnD} {d : List UInt8} (h : k.Ok) (hl : ∀ b ∈ d, b.toNat < k.c) (hd : d.length ≤ 2000) : (compL k d).length ≤ 10000 := by
  obtain ⟨g1, g2, g3, g4, g5⟩ := walk_greedy h hl hd
  have g6 := greedy_tight h hl hd
  have g7 := packC_len10 k.set.ord (greedy k d) (walkN k (greedy k d) [] []).ws (fun x hx => ⟨by have := (g4 x hx).1; omega, (g4 x hx).2⟩)
  unfold compL
  rw [packL_length]; omega
theorem compW_len {s : SetD} {dict d c : List UInt8} (h : compW s dict d = some c) : c.length ≤ 10000 := by
  unfold compW at h
  split at h
  · next h1 =>
    obtain ⟨f1, f2, f3⟩ := fitsB_lits h1
    have hok : (learnK (startK s) dict).Ok := learnK_ok (startK_ok f1) f3
    unfold compO at h
    split at h
    · next h2 =>
      obtain ⟨e1, e2, e3⟩ := fitsB_lits h2
      cases h
      exact compL_len hok e3 e2
    · cases h
  · cases h
/-- The sealed stream. -/
def sealO (s : SetD) (dict d : ByteArray) : Value := match compW s dict.data.toList d.data.toList with
  | some c => .tuple #[.string (two (sumOf dict) ++ bs c), .bool true]
  | none => .tuple #[.string ByteArray.empty, .bool false]

/-- The block of data that has been compressed, or not. -/
def mkB (o : Option (List UInt8)) (d : ByteArray) : BlkD := match o with
  | some c => if c.length < d.size then ⟨0, false, d.size, bs c⟩ else ⟨0, true, d.size, d⟩
  | none => ⟨0, true, d.size, d⟩

set_option maxRecDepth 100000 in
set_option maxHeartbeats 4000000 in
theorem makeBI_any (k : KnD) (v : Value) (lo : Nat) (d : ByteArray) (w : World) (h : k.Ok) (hv : k.last = -1 → k.base = k.ps.length) (hr : RdP lo w v k.ps) (hd : d.size ≤ 1073741824) :
    Calls Tryz.prog 48  #[kV k v, .string d] w (Same (blkV (mkB (compO k d.data.toList) d)) w) := by
  have cC := fun wx hr => compI_any k v lo d wx h hv hr hd
  have hrt := fun (wq : World) (hu : Up w wq) => hr.up hu
  generalize compO k d.data.toList = co at *
  unfold optS at cC
  obtain ⟨a, cap, rfl, -, -, -, -⟩ := hr
  clear h hv
  unfold mkB
  cases co with
  | none =>
    simp only [Option.getD_none, Option.isSome_none, kV, blkV] at *
    go_enter Tryz.func48, Tryz.ntmps48
    go_wp2_with ((go_at_call 67; (with_reducible refine (cC _ (hrt _ (by (repeat (first | with_reducible exact Up.refl _ | with_reducible assumption | with_reducible refine Up.set ?_ (by first | exact Nat.le_refl _ | (simp only []; omega) | (simp; omega)) _ | with_reducible refine Up.alloc ?_ _ | with_reducible refine Up.drew ?_ | refine Up.trans ?_ (by with_reducible assumption)))))).mono ?_); rintro e w1 ⟨rfl, U1⟩; have B1 := bcell U1; have Z1 := U1.size; (try simp at Z1); (try rw [Nat.add_one_le_iff] at Z1)))
    refine bodyPost_ret (v := .agg #[.int .i64 0, .bool true, .int .i64 d.size, .string d]) (by simp [results, Tryz.results48, go_sem, B1]; try rfl) rfl ⟨rfl, ?_⟩
    (repeat (first | with_reducible exact Up.refl _ | with_reducible assumption | with_reducible refine Up.set ?_ (by first | exact Nat.le_refl _ | (simp only []; omega) | (simp; omega)) _ | with_reducible refine Up.alloc ?_ _ | with_reducible refine Up.drew ?_ | refine Up.trans ?_ (by with_reducible assumption)))
  | some c =>
    have hsz := bs_size c
    simp only [Option.getD_some, Option.isSome_some, kV] at *
    by_cases hlt : c.length < d.size
    · rw [if_pos hlt]
      simp only [blkV]
      go_enter Tryz.func48, Tryz.ntmps48
      go_wp2_with ((go_at_call 67; (with_reducible refine (cC _ (hrt _ (by (repeat (first | with_reducible exact Up.refl _ | with_reducible assumption | with_reducible refine Up.set ?_ (by first | exact Nat.le_refl _ | (simp only []; omega) | (simp; omega)) _ | with_reducible refine Up.alloc ?_ _ | with_reducible refine Up.drew ?_ | refine Up.trans ?_ (by with_reducible assumption)))))).mono ?_); rintro e w1 ⟨rfl, U1⟩; have B1 := bcell U1; have Z1 := U1.size; (try simp at Z1); (try rw [Nat.add_one_le_iff] at Z1)))
      refine bodyPost_ret (v := .agg #[.int .i64 0, .bool false, .int .i64 d.size, .string (bs c)]) (by simp [results, Tryz.results48, go_sem, B1]; try rfl) rfl ⟨rfl, ?_⟩
      (repeat (first | with_reducible exact Up.refl _ | with_reducible assumption | with_reducible refine Up.set ?_ (by first | exact Nat.le_refl _ | (simp only []; omega) | (simp; omega)) _ | with_reducible refine Up.alloc ?_ _ | with_reducible refine Up.drew ?_ | refine Up.trans ?_ (by with_reducible assumption)))
    · rw [if_neg hlt]
      simp only [blkV]
      go_enter Tryz.func48, Tryz.ntmps48
      go_wp2_with ((go_at_call 67; (with_reducible refine (cC _ (hrt _ (by (repeat (first | with_reducible exact Up.refl _ | with_reducible assumption | with_reducible refine Up.set ?_ (by first | exact Nat.le_refl _ | (simp only []; omega) | (simp; omega)) _ | with_reducible refine Up.alloc ?_ _ | with_reducible refine Up.drew ?_ | refine Up.trans ?_ (by with_reducible assumption)))))).mono ?_); rintro e w1 ⟨rfl, U1⟩; have B1 := bcell U1; have Z1 := U1.size; (try simp at Z1); (try rw [Nat.add_one_le_iff] at Z1)))
      refine bodyPost_ret (v := .agg #[.int .i64 0, .bool true, .int .i64 d.size, .string d]) (by simp [results, Tryz.results48, go_sem, B1]; try rfl) rfl ⟨rfl, ?_⟩
      (repeat (first | with_reducible exact Up.refl _ | with_reducible assumption | with_reducible refine Up.set ?_ (by first | exact Nat.le_refl _ | (simp only []; omega) | (simp; omega)) _ | with_reducible refine Up.alloc ?_ _ | with_reducible refine Up.drew ?_ | refine Up.trans ?_ (by with_reducible assumption)))

set_option maxRecDepth 100000 in
set_option maxHeartbeats 1000000 in
theorem sizeVI_any (n : Int) (w : World) : Calls Tryz.prog 23  #[.int .i64 n] w (fun e w' => e = .returned (.bool (inB n 1 64)) ∧ w = w') := by
  by_cases h1 : 1 ≤ n
  · by_cases h2 : n ≤ 64
    · rw [show inB n 1 64 = true from inB_iff.2 ⟨h1, h2⟩]
      go_enter Tryz.func23, Tryz.ntmps23
      go_wp2
      go_ret
      exact ⟨ret_bool (by first | rfl | (simp; done) | (simp; omega)), rfl⟩
    · rw [show inB n 1 64 = false from inB_not.2 (by omega)]
      go_enter Tryz.func23, Tryz.ntmps23
      go_wp2
      go_ret
      exact ⟨ret_bool (by first | rfl | (simp; done) | (simp; omega)), rfl⟩
  · rw [show inB n 1 64 = false from inB_not.2 (by omega)]
    go_enter Tryz.func23, Tryz.ntmps23
    go_wp2
    go_ret
    exact ⟨ret_bool (by first | rfl | (simp; done) | (simp; omega)), rfl⟩

theorem blockD_mk {s : SetD} {dict : List UInt8} {n : Int} {d : ByteArray} (h : fitsB s dict = true) : blockD s dict n d = ⟨n, (mkB (compO (learnK (startK s) dict) d.data.toList) d).raw, (mkB (compO (learnK (startK s) dict) d.data.toList) d).size, (mkB (compO (learnK (startK s) dict) d.data.toList) d).body⟩ := by
  unfold blockD compW mkB
  rw [if_pos h]
  cases compO (learnK (startK s) dict) d.data.toList with
  | none => rfl
  | some c =>
    dsimp only
    split <;> simp_all

end Go.Proofs.YtnbmkoapohjnmaaGreat
