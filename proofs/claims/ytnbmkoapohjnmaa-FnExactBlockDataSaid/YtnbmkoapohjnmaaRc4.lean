/- Walks of the program's blockData and BlockData. Conditions: what is known is valid and can be read; strings are no longer than 2^30 bytes. -/
import Derived.Test.YtnbmkoapohjnmaaRc3
import Derived.Test.YtnbmkoapohjnmaaBa
namespace Go.Proofs.Ytnbmkoapohjnmaa
set_option linter.unusedVariables false
set_option linter.unusedSimpArgs false
open Go Go.RowKit

/-- The data of a block, the words of the dictionary being known. -/
def datK (k : KnD) (b : BlkD) : Option (List UInt8) := if b.raw then some b.body.data.toList else
  if (decK k b.body.data.toList).fin = 0 ∧ (decK k b.body.data.toList).used = b.body.size ∧ ((decK k b.body.data.toList).data.length : Int) = b.size then some (decK k b.body.data.toList).data else none
theorem datK_eq {s : SetD} {dict : List UInt8} (h : fitsB s dict = true) (b : BlkD) : dataO s dict b = datK (learnK (startK s) dict) b := by
  unfold dataO datK decW
  rw [if_pos h]

set_option maxRecDepth 100000 in
set_option maxHeartbeats 8000000 in
theorem blockDataI_any (k : KnD) (v : Value) (lo : Nat) (b : BlkD) (w : World) (h : k.Ok) (hv : k.last = -1 → k.base = k.ps.length) (hr : RdP lo w v k.ps) (hs : b.body.size ≤ 1073741824) :
    Calls Try.prog 33  #[kV k v, blkV b] w (Same (optS (datK k b)) w) := by
  have cD := fun wx hr => decI_any k v lo b.body wx h hv hr hs
  have hrt := fun (wq : World) (hu : Up w wq) => hr.up hu
  unfold datK
  obtain ⟨num, raw, size, body⟩ := b
  simp only at hs cD ⊢
  cases raw
  · simp only [Bool.false_eq_true, if_false]
    obtain ⟨d1, d2, d3, d4⟩ := decK_bd h body.data.toList
    generalize decK k body.data.toList = R at *
    obtain ⟨dd, ff, uu⟩ := R
    simp only at d1 d2 d3 d4 ⊢
    unfold decV at cD
    simp only at cD
    have hbz := bs_size dd
    have hbl : uu ≤ body.size := by simpa using d4
    obtain ⟨a, cap, rfl, -, -, -, -⟩ := hr
    clear d4 h hv
    simp only [kV, blkV] at *
    by_cases h1 : ff = 0
    · by_cases h2 : uu = body.size
      · by_cases h3 : (dd.length : Int) = size
        · rw [if_pos ⟨h1, h2, h3⟩]
          unfold optS
          simp only [Option.getD_some, Option.isSome_some]
          subst h1; subst h2; subst h3
          go_enter Try.func33, Try.ntmps33
          go_wp2_with ((go_at_call 57; (with_reducible refine (cD _ (hrt _ (by (repeat (first | with_reducible exact Up.refl _ | with_reducible assumption | with_reducible refine Up.set ?_ (by first | exact Nat.le_refl _ | (simp only []; omega) | (simp; omega)) _ | with_reducible refine Up.alloc ?_ _ | with_reducible refine Up.drew ?_ | refine Up.trans ?_ (by with_reducible assumption)))))).mono ?_); rintro e w1 ⟨rfl, U1⟩; have B1 := bcell U1; have Z1 := U1.size; (try simp at Z1); (try rw [Nat.add_one_le_iff] at Z1)))
          go_ret2
          refine ⟨rfl, ?_⟩
          (repeat (first | with_reducible exact Up.refl _ | with_reducible assumption | with_reducible refine Up.set ?_ (by first | exact Nat.le_refl _ | (simp only []; omega) | (simp; omega)) _ | with_reducible refine Up.alloc ?_ _ | with_reducible refine Up.drew ?_ | refine Up.trans ?_ (by with_reducible assumption)))
        · rw [if_neg (fun h => h3 h.2.2)]
          unfold optS
          simp only [Option.getD_none, Option.isSome_none]
          have hne : ((dd.length : Int) == size) = false := by simpa using h3
          subst h1; subst h2
          clear h3
          go_enter Try.func33, Try.ntmps33
          go_wp2_with ((go_at_call 57; (with_reducible refine (cD _ (hrt _ (by (repeat (first | with_reducible exact Up.refl _ | with_reducible assumption | with_reducible refine Up.set ?_ (by first | exact Nat.le_refl _ | (simp only []; omega) | (simp; omega)) _ | with_reducible refine Up.alloc ?_ _ | with_reducible refine Up.drew ?_ | refine Up.trans ?_ (by with_reducible assumption)))))).mono ?_); rintro e w1 ⟨rfl, U1⟩; have B1 := bcell U1; have Z1 := U1.size; (try simp at Z1); (try rw [Nat.add_one_le_iff] at Z1)))
          go_ret2
          refine ⟨rfl, ?_⟩
          (repeat (first | with_reducible exact Up.refl _ | with_reducible assumption | with_reducible refine Up.set ?_ (by first | exact Nat.le_refl _ | (simp only []; omega) | (simp; omega)) _ | with_reducible refine Up.alloc ?_ _ | with_reducible refine Up.drew ?_ | refine Up.trans ?_ (by with_reducible assumption)))
      · rw [if_neg (fun h => h2 h.2.1)]
        unfold optS
        simp only [Option.getD_none, Option.isSome_none]
        have hne : ((uu : Int) == (body.size : Int)) = false := by simp; omega
        subst h1
        clear h2
        go_enter Try.func33, Try.ntmps33
        go_wp2_with ((go_at_call 57; (with_reducible refine (cD _ (hrt _ (by (repeat (first | with_reducible exact Up.refl _ | with_reducible assumption | with_reducible refine Up.set ?_ (by first | exact Nat.le_refl _ | (simp only []; omega) | (simp; omega)) _ | with_reducible refine Up.alloc ?_ _ | with_reducible refine Up.drew ?_ | refine Up.trans ?_ (by with_reducible assumption)))))).mono ?_); rintro e w1 ⟨rfl, U1⟩; have B1 := bcell U1; have Z1 := U1.size; (try simp at Z1); (try rw [Nat.add_one_le_iff] at Z1)))
        go_ret2
        refine ⟨rfl, ?_⟩
        (repeat (first | with_reducible exact Up.refl _ | with_reducible assumption | with_reducible refine Up.set ?_ (by first | exact Nat.le_refl _ | (simp only []; omega) | (simp; omega)) _ | with_reducible refine Up.alloc ?_ _ | with_reducible refine Up.drew ?_ | refine Up.trans ?_ (by with_reducible assumption)))
    · rw [if_neg (fun h => h1 h.1)]
      unfold optS
      simp only [Option.getD_none, Option.isSome_none]
      go_enter Try.func33, Try.ntmps33
      go_wp2_with ((go_at_call 57; (with_reducible refine (cD _ (hrt _ (by (repeat (first | with_reducible exact Up.refl _ | with_reducible assumption | with_reducible refine Up.set ?_ (by first | exact Nat.le_refl _ | (simp only []; omega) | (simp; omega)) _ | with_reducible refine Up.alloc ?_ _ | with_reducible refine Up.drew ?_ | refine Up.trans ?_ (by with_reducible assumption)))))).mono ?_); rintro e w1 ⟨rfl, U1⟩; have B1 := bcell U1; have Z1 := U1.size; (try simp at Z1); (try rw [Nat.add_one_le_iff] at Z1)))
      go_ret2
      refine ⟨rfl, ?_⟩
      (repeat (first | with_reducible exact Up.refl _ | with_reducible assumption | with_reducible refine Up.set ?_ (by first | exact Nat.le_refl _ | (simp only []; omega) | (simp; omega)) _ | with_reducible refine Up.alloc ?_ _ | with_reducible refine Up.drew ?_ | refine Up.trans ?_ (by with_reducible assumption)))
  · simp only [if_true]
    unfold optS
    simp only [Option.getD_some, Option.isSome_some, bs_self]
    obtain ⟨a, cap, rfl, -, -, -, -⟩ := hr
    clear cD h hv
    simp only [kV, blkV] at *
    go_enter Try.func33, Try.ntmps33
    go_wp2
    go_ret2
    refine ⟨rfl, ?_⟩
    (repeat (first | with_reducible exact Up.refl _ | with_reducible assumption | with_reducible refine Up.set ?_ (by first | exact Nat.le_refl _ | (simp only []; omega) | (simp; omega)) _ | with_reducible refine Up.alloc ?_ _ | with_reducible refine Up.drew ?_ | refine Up.trans ?_ (by with_reducible assumption)))

set_option maxRecDepth 100000 in
set_option maxHeartbeats 4000000 in
theorem bDataI_any (s : SetD) (dict : ByteArray) (b : BlkD) (w : World) (hli : -9223372036854775808 ≤ s.lit ∧ s.lit ≤ 9223372036854775807) (hi : dict.size ≤ 1073741824) (hs : b.body.size ≤ 1073741824) :
    Calls Try.prog 13  #[setV s, .string dict, blkV b] w (Same (optS (bdatO s dict.data.toList b)) w) := by
  have cS := fun wx => startWI_any s dict wx hli hi
  have cF := fun wx => blockValid_any b.num b.raw b.size b.body wx (by omega)
  unfold bdatO datOk
  cases h1 : fitsB s dict.data.toList
  · rw [h1] at cS
    simp only [Bool.false_eq_true, if_false] at cS
    clear h1 cF
    simp only [Bool.false_and, Bool.false_eq_true, if_false]
    unfold optS
    simp only [setV, blkV, Option.getD_none, Option.isSome_none] at *
    go_enter Try.func13, Try.ntmps13
    go_wp2_with ((go_at_call 31; (with_reducible refine (cS _).mono ?_); rintro e w1 ⟨rfl, U1⟩; have B1 := bcell U1; have Z1 := U1.size; (try simp at Z1); (try rw [Nat.add_one_le_iff] at Z1)))
    go_ret2
    refine ⟨rfl, ?_⟩
    (repeat (first | with_reducible exact Up.refl _ | with_reducible assumption | with_reducible refine Up.set ?_ (by first | exact Nat.le_refl _ | (simp only []; omega) | (simp; omega)) _ | with_reducible refine Up.alloc ?_ _ | with_reducible refine Up.drew ?_ | refine Up.trans ?_ (by with_reducible assumption)))
  · rw [h1] at cS
    simp only [if_true] at cS
    cases h2 : formB b.num b.raw b.size b.body
    · rw [h2] at cF
      clear h1 h2
      simp only [Bool.true_and, Bool.false_eq_true, if_false]
      unfold optS
      simp only [setV, kV, blkV, Option.getD_none, Option.isSome_none] at *
      go_enter Try.func13, Try.ntmps13
      go_wp2_with (first | (go_at_call 31; (with_reducible refine (cS _).mono ?_); rintro e w1 ⟨v1, rfl, ho1, U1⟩; have B1 := bcell U1; have Z1 := U1.size; simp at Z1; (try rw [Nat.add_one_le_iff] at Z1); have Y0 : w.heap.size < w1.heap.size := (by omega); have Y1 : w.heap.size + 1 < w1.heap.size := (by omega); obtain ⟨a1, c1, rfl⟩ := ownsRow_shape ho1; clear ho1) | (go_at_call 32; (with_reducible refine (cF _).mono ?_); rintro e w2 ⟨rfl, U2⟩; have B2 := bcell U2; have Z2 := U2.size; (try simp at Z2); (try rw [Nat.add_one_le_iff] at Z2)))
      go_ret2
      refine ⟨rfl, ?_⟩
      (repeat (first | with_reducible exact Up.refl _ | with_reducible assumption | with_reducible refine Up.set ?_ (by first | exact Nat.le_refl _ | (simp only []; omega) | (simp; omega)) _ | with_reducible refine Up.alloc ?_ _ | with_reducible refine Up.drew ?_ | refine Up.trans ?_ (by with_reducible assumption)))
    · rw [h2] at cF
      rw [datK_eq h1]
      obtain ⟨f1, f2, f3⟩ := fitsB_lits h1
      have hok : (learnK (startK s) dict.data.toList).Ok := learnK_ok (startK_ok f1) f3
      have cD := fun wx v hr => blockDataI_any (learnK (startK s) dict.data.toList) v 0 b wx hok (fun _ => rfl) hr hs
      clear h1 h2 f1 f2 f3 hok
      simp only [Bool.true_and, if_true]
      generalize learnK (startK s) dict.data.toList = kk at *
      generalize datK kk b = oo at *
      unfold optS at *
      simp only [setV, kV, blkV] at *
      go_enter Try.func13, Try.ntmps13
      go_wp2_with (first | (go_at_call 31; (with_reducible refine (cS _).mono ?_); rintro e w1 ⟨v1, rfl, ho1, U1⟩; have B1 := bcell U1; have Z1 := U1.size; simp at Z1; (try rw [Nat.add_one_le_iff] at Z1); have Y0 : w.heap.size < w1.heap.size := (by omega); have Y1 : w.heap.size + 1 < w1.heap.size := (by omega); have HR1 := Lib.hid ((RdP.of_own ho1).low (Nat.zero_le _)); obtain ⟨a1, c1, rfl⟩ := ownsRow_shape ho1; clear ho1) | ((go_at_call 32; (with_reducible refine (cF _).mono ?_); rintro e w2 ⟨rfl, U2⟩; have B2 := bcell U2; have Z2 := U2.size; (try simp at Z2); (try rw [Nat.add_one_le_iff] at Z2)); have Y2 : w.heap.size < w2.heap.size := (by omega); have Y3 : w.heap.size + 1 < w2.heap.size := (by omega); have Y4 : w1.heap.size < w2.heap.size := (by omega)) | (go_at_call 33; (with_reducible refine (cD _ _ (HR1.out.up (by (repeat (first | with_reducible exact Up.refl _ | with_reducible assumption | with_reducible refine Up.set ?_ (by first | exact Nat.le_refl _ | (simp only []; omega) | (simp; omega)) _ | with_reducible refine Up.alloc ?_ _ | with_reducible refine Up.drew ?_ | refine Up.trans ?_ (by with_reducible assumption)))))).mono ?_); rintro e w3 ⟨rfl, U3⟩; have B3 := bcell U3; have Z3 := U3.size; (try simp at Z3); (try rw [Nat.add_one_le_iff] at Z3)))
      go_ret2
      refine ⟨rfl, ?_⟩
      (repeat (first | with_reducible exact Up.refl _ | with_reducible assumption | with_reducible refine Up.set ?_ (by first | exact Nat.le_refl _ | (simp only []; omega) | (simp; omega)) _ | with_reducible refine Up.alloc ?_ _ | with_reducible refine Up.drew ?_ | refine Up.trans ?_ (by with_reducible assumption)))

end Go.Proofs.Ytnbmkoapohjnmaa
