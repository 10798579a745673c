/- Walks of the reference's Decompress, DecompressWith, l5Data, BlockData. Conditions: what is known is valid and can be read; strings are no longer than 2^30 bytes. -/
import Derived.Test.YtekbbnkkninolaaGreatUn1
import Derived.Test.YtekbbnkkninolaaGreatComp
import Derived.Test.YtekbbnkkninolaaGreatBlkOf
namespace Go.Proofs.YtekbbnkkninolaaGreat
set_option linter.unusedVariables false
set_option linter.unusedSimpArgs false
open Go Go.RowKit

theorem RdI.low {lo lo' : Nat} {w : World} {v : Value} {l : List Int} (h : RdI lo w v l) (hl : lo' ≤ lo) : RdI lo' w v l := by
  obtain ⟨a, cap, h1, h2, h3, h4⟩ := h
  exact ⟨a, cap, h1, h2, h3, fun hp => by
    obtain ⟨b, off, e1, e2, e3⟩ := h4 hp
    exact ⟨b, off, e1, Nat.le_trans hl e2, e3⟩⟩
theorem unpK_bd {k : KnD} (h : k.Ok) (s : List UInt8) : (unpK k s).codes.length ≤ 3100 ∧ (unpK k s).fin = (decK k s).fin ∧ (unpK k s).used = (decK k s).used ∧ ((unpK k s).fin ≠ 4 → (walkN k (unpK k s).codes [] []).data = (decK k s).data) ∧ ((unpK k s).fin = 4 → decK k s = ⟨[], 4, 0⟩) := by
  have hf := readS_fin h s
  have hc := hf.cl
  unfold unpK decK
  split
  · refine ⟨by show (readS k s).codes.length ≤ 3100; omega, rfl, rfl, fun _ => hf.walk, fun h9 => ?_⟩
    have := hf.fin
    have h9' : (readS k s).fin = 4 := h9
    omega
  · exact ⟨by simp, rfl, rfl, fun h => absurd rfl h, fun _ => rfl⟩

set_option maxRecDepth 100000 in
set_option maxHeartbeats 4000000 in
theorem decS_any (k : KnD) (v : Value) (lo : Nat) (s : ByteArray) (w : World) (h : k.Ok) (hv : k.last = -1 → k.base = k.ps.length) (hr : RdP lo w v k.ps) (hs : s.size ≤ 1073741824) :
    Calls Tryz.prog 144  #[kV k v, .string s] w (Same (decV (decK k s.data.toList)) w) := by
  have cU := fun wx hr => unpS_any k v lo s wx h hv hr hs
  have hrt := fun (wq : World) (hu : Up w wq) => hr.up hu
  obtain ⟨u1, u2, u3, u4, u5⟩ := unpK_bd h s.data.toList
  unfold UnPost at cU
  unfold decV
  by_cases hf : (unpK k s.data.toList).fin = 4
  · have e := u5 hf
    rw [e]
    rw [hf] at cU
    obtain ⟨a, cap, rfl, -, -, -, -⟩ := hr
    clear h hv u1 u2 u3 u4 u5 hf e
    simp only [kV] at *
    go_enter Tryz.func144, Tryz.ntmps144
    go_wp2_with (go_at_call 174; (with_reducible refine (cU _ (hrt _ (by (repeat (first | with_reducible exact Up.refl _ | with_reducible assumption | with_reducible refine Up.set ?_ (by first | exact Nat.le_refl _ | (simp only []; omega) | (simp; omega)) _ | with_reducible refine Up.alloc ?_ _ | with_reducible refine Up.drew ?_ | refine Up.trans ?_ (by with_reducible assumption)))))).mono ?_); rintro e w1 ⟨v1, rfl, ho1, U1⟩; obtain ⟨a1, c1, rfl⟩ := ownsRow_shape ho1; clear ho1)
    refine bodyPost_ret (v := .tuple #[.string ByteArray.empty, .int .i64 4, .int .i64 0]) (by simp [results, Tryz.results144, go_sem]; try rfl) rfl ⟨rfl, ?_⟩
    (repeat (first | with_reducible exact Up.refl _ | with_reducible assumption | with_reducible refine Up.set ?_ (by first | exact Nat.le_refl _ | (simp only []; omega) | (simp; omega)) _ | with_reducible refine Up.alloc ?_ _ | with_reducible refine Up.drew ?_ | refine Up.trans ?_ (by with_reducible assumption)))
  · have hd := u4 hf
    have hne : ((unpK k s.data.toList).fin == 4) = false := by simpa using hf
    rw [← u2, ← u3, ← hd]
    have cW := fun wx vc hr hc => l2Walk_any k v lo (unpK k s.data.toList).codes vc 0 wx h hr hc (by omega)
    unfold WkPost at cW
    clear u2 u3 u4 u5 hd hf
    generalize unpK k s.data.toList = U at *
    obtain ⟨codes, fin, used⟩ := U
    simp only at u1 hne cU cW ⊢
    generalize walkN k codes [] [] = T at *
    obtain ⟨a, cap, rfl, -, -, -, -⟩ := hr
    clear h hv
    simp only [kV] at *
    go_enter Tryz.func144, Tryz.ntmps144
    go_wp2_with (first | (go_at_call 174; (with_reducible refine (cU _ (hrt _ (by (repeat (first | with_reducible exact Up.refl _ | with_reducible assumption | with_reducible refine Up.set ?_ (by first | exact Nat.le_refl _ | (simp only []; omega) | (simp; omega)) _ | with_reducible refine Up.alloc ?_ _ | with_reducible refine Up.drew ?_ | refine Up.trans ?_ (by with_reducible assumption)))))).mono ?_); rintro e w1 ⟨v1, rfl, ho1, U1⟩; have B1 := bcell U1; have Z1 := U1.size; (try simp at Z1); (try rw [Nat.add_one_le_iff] at Z1); have HI1 := Lib.hid ((RdI.of_own ho1).low (Nat.zero_le _)); obtain ⟨a1, c1, rfl⟩ := ownsRow_shape ho1; clear ho1) | (go_at_call 175; (with_reducible refine (cW _ _ (hrt _ (by (repeat (first | with_reducible exact Up.refl _ | with_reducible assumption | with_reducible refine Up.set ?_ (by first | exact Nat.le_refl _ | (simp only []; omega) | (simp; omega)) _ | with_reducible refine Up.alloc ?_ _ | with_reducible refine Up.drew ?_ | refine Up.trans ?_ (by with_reducible assumption))))) (HI1.out.up (by (repeat (first | with_reducible exact Up.refl _ | with_reducible assumption | with_reducible refine Up.set ?_ (by first | exact Nat.le_refl _ | (simp only []; omega) | (simp; omega)) _ | with_reducible refine Up.alloc ?_ _ | with_reducible refine Up.drew ?_ | refine Up.trans ?_ (by with_reducible assumption)))))).mono ?_); rintro e w2 ⟨kv, vw, rfl, ⟨k3, a3, n3, c3, rfl⟩, ho2, U2⟩; obtain ⟨aw, cw, rfl⟩ := ownsRow_shape ho2; clear ho2))
    refine bodyPost_ret (v := .tuple #[.string (bs T.data), .int .i64 fin, .int .i64 used]) (by simp [results, Tryz.results144, go_sem]; try rfl) rfl ⟨rfl, ?_⟩
    (repeat (first | with_reducible exact Up.refl _ | with_reducible assumption | with_reducible refine Up.set ?_ (by first | exact Nat.le_refl _ | (simp only []; omega) | (simp; omega)) _ | with_reducible refine Up.alloc ?_ _ | with_reducible refine Up.drew ?_ | refine Up.trans ?_ (by with_reducible assumption)))

set_option maxRecDepth 100000 in
set_option maxHeartbeats 4000000 in
theorem decWS_any (s : SetD) (dict st : ByteArray) (w : World) (hi : dict.size ≤ 1073741824) (hs : st.size ≤ 1073741824) :
    Calls Tryz.prog 102  #[setV s, .string dict, .string st] w (Same (decV (decW s dict.data.toList st.data.toList)) w) := by
  have cS := fun wx => startWS_any s dict wx hi
  unfold decW
  cases hf : fitsB s dict.data.toList
  · rw [hf] at cS
    simp only [Bool.false_eq_true, if_false] at cS ⊢
    unfold decV
    clear hf
    simp only [setV] at *
    go_enter Tryz.func102, Tryz.ntmps102
    go_wp2_with ((go_at_call 79; (with_reducible refine (cS _).mono ?_); rintro e w1 ⟨rfl, U1⟩; have B1 := bcell U1; have Z1 := U1.size; (try simp at Z1); (try rw [Nat.add_one_le_iff] at Z1)))
    refine bodyPost_ret (v := .tuple #[.string ByteArray.empty, .int .i64 4, .int .i64 0]) (by simp [results, Tryz.results102, go_sem]; try rfl) rfl ⟨rfl, ?_⟩
    (repeat (first | with_reducible exact Up.refl _ | with_reducible assumption | with_reducible refine Up.set ?_ (by first | exact Nat.le_refl _ | (simp only []; omega) | (simp; omega)) _ | with_reducible refine Up.alloc ?_ _ | with_reducible refine Up.drew ?_ | refine Up.trans ?_ (by with_reducible assumption)))
  · rw [hf] at cS
    simp only [if_true] at cS ⊢
    obtain ⟨h1, h2, h3⟩ := fitsB_lits hf
    have hok : (learnK (startK s) dict.data.toList).Ok := learnK_ok (startK_ok h1) h3
    have cD := fun wx v hr => decS_any (learnK (startK s) dict.data.toList) v 0 st wx hok (fun _ => rfl) hr hs
    clear hf h1 h2 h3 hok
    generalize learnK (startK s) dict.data.toList = kk at *
    unfold decV at *
    generalize decK kk st.data.toList = oo at *
    simp only [setV, kV] at *
    go_enter Tryz.func102, Tryz.ntmps102
    go_wp2_with (first | (go_at_call 79; (with_reducible refine (cS _).mono ?_); rintro e w1 ⟨v1, rfl, ho1, U1⟩; obtain ⟨a1, c1, rfl⟩ := ownsRow_shape ho1; have HO1 := Lib.hid ho1; clear ho1) | (go_at_call 144; (with_reducible refine (cD _ _ (((RdP.of_own HO1.out).up (by (repeat (first | with_reducible exact Up.refl _ | with_reducible assumption | with_reducible refine Up.set ?_ (by first | exact Nat.le_refl _ | (simp only []; omega) | (simp; omega)) _ | with_reducible refine Up.alloc ?_ _ | with_reducible refine Up.drew ?_ | refine Up.trans ?_ (by with_reducible assumption))))).low (Nat.zero_le _))).mono ?_); rintro e w3 ⟨rfl, U3⟩; have B3 := bcell U3; have Z3 := U3.size; (try simp at Z3); (try rw [Nat.add_one_le_iff] at Z3)))
    refine bodyPost_ret (v := .tuple #[.string (bs oo.data), .int .i64 oo.fin, .int .i64 oo.used]) (by simp [results, Tryz.results102, go_sem]; try rfl) rfl ⟨rfl, ?_⟩
    (repeat (first | with_reducible exact Up.refl _ | with_reducible assumption | with_reducible refine Up.set ?_ (by first | exact Nat.le_refl _ | (simp only []; omega) | (simp; omega)) _ | with_reducible refine Up.alloc ?_ _ | with_reducible refine Up.drew ?_ | refine Up.trans ?_ (by with_reducible assumption)))

/-- The data of a block. -/
def dataO (s : SetD) (dict : List UInt8) (b : BlkD) : Option (List UInt8) := if b.raw then some b.body.data.toList else
  if (decW s dict b.body.data.toList).fin = 0 ∧ (decW s dict b.body.data.toList).used = b.body.size ∧ ((decW s dict b.body.data.toList).data.length : Int) = b.size then some (decW s dict b.body.data.toList).data else none
def datOk (s : SetD) (dict : List UInt8) (b : BlkD) : Bool := fitsB s dict && formB b.num b.raw b.size b.body
def bdatO (s : SetD) (dict : List UInt8) (b : BlkD) : Option (List UInt8) := if datOk s dict b then dataO s dict b else none

set_option maxRecDepth 100000 in
set_option maxHeartbeats 8000000 in
theorem l5Data_any (s : SetD) (dict : ByteArray) (b : BlkD) (w : World) (hi : dict.size ≤ 1073741824) (hs : b.body.size ≤ 1073741824) :
    Calls Tryz.prog 123  #[setV s, .string dict, blkV b] w (Same (optS (dataO s dict.data.toList b)) w) := by
  have cD := fun wx => decWS_any s dict b.body wx hi hs
  unfold dataO
  obtain ⟨num, raw, size, body⟩ := b
  simp only at hs cD ⊢
  cases raw
  · simp only [Bool.false_eq_true, if_false]
    obtain ⟨d1, d2, d3, d4⟩ := decW_bd s dict.data.toList body.data.toList
    generalize decW s dict.data.toList body.data.toList = R at *
    obtain ⟨dd, ff, uu⟩ := R
    simp only at d1 d2 d3 d4 ⊢
    unfold decV at cD
    simp only at cD
    have hbz := bs_size dd
    have hbl : uu ≤ body.size := by simpa using d4
    clear d4
    simp only [setV, blkV] at *
    by_cases h1 : ff = 0
    · by_cases h2 : uu = body.size
      · by_cases h3 : (dd.length : Int) = size
        · rw [if_pos ⟨h1, h2, h3⟩]
          unfold optS
          simp only [Option.getD_some, Option.isSome_some]
          subst h1; subst h2; subst h3
          go_enter Tryz.func123, Tryz.ntmps123
          go_wp2_with ((go_at_call 102; (with_reducible refine (cD _).mono ?_); rintro e w1 ⟨rfl, U1⟩; have B1 := bcell U1; have Z1 := U1.size; (try simp at Z1); (try rw [Nat.add_one_le_iff] at Z1)))
          go_ret2
          refine ⟨rfl, ?_⟩
          (repeat (first | with_reducible exact Up.refl _ | with_reducible assumption | with_reducible refine Up.set ?_ (by first | exact Nat.le_refl _ | (simp only []; omega) | (simp; omega)) _ | with_reducible refine Up.alloc ?_ _ | with_reducible refine Up.drew ?_ | refine Up.trans ?_ (by with_reducible assumption)))
        · rw [if_neg (fun h => h3 h.2.2)]
          unfold optS
          simp only [Option.getD_none, Option.isSome_none]
          have hne : ((dd.length : Int) == size) = false := by simpa using h3
          subst h1; subst h2
          clear h3
          go_enter Tryz.func123, Tryz.ntmps123
          go_wp2_with ((go_at_call 102; (with_reducible refine (cD _).mono ?_); rintro e w1 ⟨rfl, U1⟩; have B1 := bcell U1; have Z1 := U1.size; (try simp at Z1); (try rw [Nat.add_one_le_iff] at Z1)))
          go_ret2
          refine ⟨rfl, ?_⟩
          (repeat (first | with_reducible exact Up.refl _ | with_reducible assumption | with_reducible refine Up.set ?_ (by first | exact Nat.le_refl _ | (simp only []; omega) | (simp; omega)) _ | with_reducible refine Up.alloc ?_ _ | with_reducible refine Up.drew ?_ | refine Up.trans ?_ (by with_reducible assumption)))
      · rw [if_neg (fun h => h2 h.2.1)]
        unfold optS
        simp only [Option.getD_none, Option.isSome_none]
        have hne : ((uu : Int) == (body.size : Int)) = false := by simp; omega
        subst h1
        clear h2
        go_enter Tryz.func123, Tryz.ntmps123
        go_wp2_with ((go_at_call 102; (with_reducible refine (cD _).mono ?_); rintro e w1 ⟨rfl, U1⟩; have B1 := bcell U1; have Z1 := U1.size; (try simp at Z1); (try rw [Nat.add_one_le_iff] at Z1)))
        go_ret2
        refine ⟨rfl, ?_⟩
        (repeat (first | with_reducible exact Up.refl _ | with_reducible assumption | with_reducible refine Up.set ?_ (by first | exact Nat.le_refl _ | (simp only []; omega) | (simp; omega)) _ | with_reducible refine Up.alloc ?_ _ | with_reducible refine Up.drew ?_ | refine Up.trans ?_ (by with_reducible assumption)))
    · rw [if_neg (fun h => h1 h.1)]
      unfold optS
      simp only [Option.getD_none, Option.isSome_none]
      go_enter Tryz.func123, Tryz.ntmps123
      go_wp2_with ((go_at_call 102; (with_reducible refine (cD _).mono ?_); rintro e w1 ⟨rfl, U1⟩; have B1 := bcell U1; have Z1 := U1.size; (try simp at Z1); (try rw [Nat.add_one_le_iff] at Z1)))
      go_ret2
      refine ⟨rfl, ?_⟩
      (repeat (first | with_reducible exact Up.refl _ | with_reducible assumption | with_reducible refine Up.set ?_ (by first | exact Nat.le_refl _ | (simp only []; omega) | (simp; omega)) _ | with_reducible refine Up.alloc ?_ _ | with_reducible refine Up.drew ?_ | refine Up.trans ?_ (by with_reducible assumption)))
  · simp only [if_true]
    unfold optS
    simp only [Option.getD_some, Option.isSome_some, bs_self]
    clear cD
    simp only [setV, blkV] at *
    go_enter Tryz.func123, Tryz.ntmps123
    go_wp2
    go_ret2
    refine ⟨rfl, ?_⟩
    (repeat (first | with_reducible exact Up.refl _ | with_reducible assumption | with_reducible refine Up.set ?_ (by first | exact Nat.le_refl _ | (simp only []; omega) | (simp; omega)) _ | with_reducible refine Up.alloc ?_ _ | with_reducible refine Up.drew ?_ | refine Up.trans ?_ (by with_reducible assumption)))

end Go.Proofs.YtekbbnkkninolaaGreat
