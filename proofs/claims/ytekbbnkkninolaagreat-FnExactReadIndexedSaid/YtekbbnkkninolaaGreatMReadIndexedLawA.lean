/- Texts joined into one: the walks and laws that the last text leans on. Conditions: as each says. -/
import Derived.Test.YtekbbnkkninolaaGreatComp
import Derived.Test.YtekbbnkkninolaaGreatBa
import Derived.Test.YtekbbnkkninolaaGreatUn1
import Derived.Test.YtekbbnkkninolaaGreatTree5
import Derived.Test.YtekbbnkkninolaaGreatTree6
import Derived.Test.YtekbbnkkninolaaGreatFu
import Derived.Test.YtekbbnkkninolaaGreatTree7
import Derived.Test.YtekbbnkkninolaaGreatGw
import Derived.Test.YtekbbnkkninolaaGreatWd
import Derived.Test.YtekbbnkkninolaaGreatGlen
import Derived.Test.YtekbbnkkninolaaGreatWc
import Derived.Shelf.Strings.Builder1
import Derived.Test.YtekbbnkkninolaaGreatShelf
import Derived.Test.YtekbbnkkninolaaGreatPlaces
import Derived.Test.YtekbbnkkninolaaGreatSeek4
import Derived.Test.YtekbbnkkninolaaGreatRc2
import Derived.Test.YtekbbnkkninolaaGreatSets
import Derived.Test.YtekbbnkkninolaaGreatSeek1
import Derived.Lib.SmallJoins
import Derived.Deep.SlicePairs

/- Walks of the reference's functions that make blocks and containers. Conditions: as each says; for the outer ones none but the strings' bound. -/
namespace Go.Proofs.YtekbbnkkninolaaGreat
set_option linter.unusedVariables false
set_option linter.unusedSimpArgs false
open Go Go.RowKit

/-- The block of data. -/
def blockD (s : SetD) (dict : List UInt8) (n : Int) (d : ByteArray) : BlkD := match compW s dict d.data.toList with
  | some st => if st.length < d.size then ⟨n, false, d.size, bs st⟩ else ⟨n, true, d.size, d⟩
  | none => ⟨n, true, d.size, d⟩
set_option maxRecDepth 100000 in
set_option maxHeartbeats 1000000 in
theorem l5Ready_any (s : SetD) (d : ByteArray) (w : World) (hd : d.size ≤ 1073741824) :
    Calls Tryz.prog 62  #[setV s, .string d] w (Same (.bool (fitsB s d.data.toList)) w) := by
  have cF := fun wx => fitsS_any s d wx hd
  simp only [setV] at *
  go_enter Tryz.func62, Tryz.ntmps62
  go_wp2_with ((go_at_call 95; (with_reducible refine (cF _).mono ?_); rintro e w1 ⟨rfl, U1⟩; have B1 := bcell U1; have Z1 := U1.size; (try simp at Z1); (try rw [Nat.add_one_le_iff] at Z1)))
  go_ret
  refine ⟨rfl, ?_⟩
  (repeat (first | with_reducible exact Up.refl _ | with_reducible assumption | with_reducible refine Up.set ?_ (by first | exact Nat.le_refl _ | (simp only []; omega) | (simp; omega)) _ | with_reducible refine Up.alloc ?_ _ | with_reducible refine Up.drew ?_ | refine Up.trans ?_ (by with_reducible assumption)))

/-- The bytes of the blocks of data. -/
def textD (b : BlkD) : List UInt8 := (textB b.num b.raw b.size b.body).data.toList
def makeN (s : SetD) (dict : List UInt8) (size : Nat) : Nat → Int → List UInt8 → List UInt8
  | 0, _, _ => []
  | n + 1, f, d => if d = [] then [] else textD (blockD s dict f (bs (d.take size))) ++ makeN s dict size n (f + 1) (d.drop size)
theorem makeN_step {s : SetD} {dict : List UInt8} {size n : Nat} {f : Int} {d : List UInt8} (hd : d ≠ []) : makeN s dict size (n + 1) f d = textD (blockD s dict f (bs (d.take size))) ++ makeN s dict size n (f + 1) (d.drop size) := by rw [makeN, if_neg hd]
structure MkAt (T : List UInt8) (s : SetD) (dict : List UInt8) (size : Nat) (w : World) (m : Nat) (f : Int) (d acc : List UInt8) (n : Nat) (wr : World) : Prop where
  tot : acc ++ makeN s dict size n f d = T
  len : d.length ≤ n
  d2 : d.length ≤ 2000
  num : f = 40 - (m : Int)
  m40 : m ≤ 40
  fit : d.length ≤ m * size
  accl : acc.length + 74 * m ≤ 2960
  set : SetAt w.heap.size s.ord s.lit s.most wr
  up : Up w wr
theorem MkAt.step {T : List UInt8} {s : SetD} {dict : List UInt8} {size : Nat} {w : World} {m : Nat} {f : Int} {d acc : List UInt8} {n : Nat} {wr wq : World} (h : MkAt T s dict size w m f d acc n wr) (hd : d ≠ []) (hm : 1 ≤ m) (hn : 1 ≤ n) (hs : 1 ≤ size) (hu : Up wr wq)
    {td : List UInt8} (ht : td = textD (blockD s dict f (bs (d.take size)))) (htl : td.length ≤ 74) : MkAt T s dict size w (m - 1) (f + 1) (d.drop size) (acc ++ td) (n - 1) wq := by
  obtain ⟨m, rfl⟩ : ∃ m', m = m' + 1 := ⟨m - 1, by omega⟩
  obtain ⟨n, rfl⟩ : ∃ n', n = n' + 1 := ⟨n - 1, by omega⟩
  obtain ⟨h1, h2, h3, h4, h5, h6, h7, h8, h9⟩ := h
  have hl := List.length_pos_iff.2 hd
  refine ⟨?_, by rw [List.length_drop]; omega, by rw [List.length_drop]; omega, by omega, by omega, ?_, by rw [List.length_append]; omega, box_up hu h8, h9.trans hu⟩
  · rw [← h1, makeN_step hd, ht, List.append_assoc]; rfl
  · rw [Nat.succ_mul] at h6
    rw [List.length_drop]
    show _ ≤ m * size
    omega
end Go.Proofs.YtekbbnkkninolaaGreat

/- Walks of the reference's Decompress, DecompressWith, l5Data, BlockData. Conditions: what is known is valid and can be read; strings are no longer than 2^30 bytes. -/
namespace Go.Proofs.YtekbbnkkninolaaGreat
set_option linter.unusedVariables false
set_option linter.unusedSimpArgs false
open Go Go.RowKit

theorem RdI.low {lo lo' : Nat} {w : World} {v : Value} {l : List Int} (h : RdI lo w v l) (hl : lo' ≤ lo) : RdI lo' w v l := by
  obtain ⟨a, cap, h1, h2, h3, h4⟩ := h
  exact ⟨a, cap, h1, h2, h3, fun hp => by
    obtain ⟨b, off, e1, e2, e3⟩ := h4 hp
    exact ⟨b, off, e1, Nat.le_trans hl e2, e3⟩⟩
theorem unpK_bd {k : KnD} (h : k.Ok) (s : List UInt8) : (unpK k s).codes.length ≤ 3100 ∧ (unpK k s).fin = (decK k s).fin ∧ (unpK k s).used = (decK k s).used ∧ ((unpK k s).fin ≠ 4 → (walkN k (unpK k s).codes [] []).data = (decK k s).data) ∧ ((unpK k s).fin = 4 → decK k s = ⟨[], 4, 0⟩) := by
  have hf := readS_fin h s
  have hc := hf.cl
  unfold unpK decK
  split
  · refine ⟨by show (readS k s).codes.length ≤ 3100; omega, rfl, rfl, fun _ => hf.walk, fun h9 => ?_⟩
    have := hf.fin
    have h9' : (readS k s).fin = 4 := h9
    omega
  · exact ⟨by simp, rfl, rfl, fun h => absurd rfl h, fun _ => rfl⟩

set_option maxRecDepth 100000 in
set_option maxHeartbeats 4000000 in
theorem decS_any (k : KnD) (v : Value) (lo : Nat) (s : ByteArray) (w : World) (h : k.Ok) (hv : k.last = -1 → k.base = k.ps.length) (hr : RdP lo w v k.ps) (hs : s.size ≤ 1073741824) :
    Calls Tryz.prog 144  #[kV k v, .string s] w (Same (decV (decK k s.data.toList)) w) := by
  have cU := fun wx hr => unpS_any k v lo s wx h hv hr hs
  have hrt := fun (wq : World) (hu : Up w wq) => hr.up hu
  obtain ⟨u1, u2, u3, u4, u5⟩ := unpK_bd h s.data.toList
  unfold UnPost at cU
  unfold decV
  by_cases hf : (unpK k s.data.toList).fin = 4
  · have e := u5 hf
    rw [e]
    rw [hf] at cU
    obtain ⟨a, cap, rfl, -, -, -, -⟩ := hr
    clear h hv u1 u2 u3 u4 u5 hf e
    simp only [kV] at *
    go_enter Tryz.func144, Tryz.ntmps144
    go_wp2_with (go_at_call 174; (with_reducible refine (cU _ (hrt _ (by (repeat (first | with_reducible exact Up.refl _ | with_reducible assumption | with_reducible refine Up.set ?_ (by first | exact Nat.le_refl _ | (simp only []; omega) | (simp; omega)) _ | with_reducible refine Up.alloc ?_ _ | with_reducible refine Up.drew ?_ | refine Up.trans ?_ (by with_reducible assumption)))))).mono ?_); rintro e w1 ⟨v1, rfl, ho1, U1⟩; obtain ⟨a1, c1, rfl⟩ := ownsRow_shape ho1; clear ho1)
    refine bodyPost_ret (v := .tuple #[.string ByteArray.empty, .int .i64 4, .int .i64 0]) (by simp [results, Tryz.results144, go_sem]; try rfl) rfl ⟨rfl, ?_⟩
    (repeat (first | with_reducible exact Up.refl _ | with_reducible assumption | with_reducible refine Up.set ?_ (by first | exact Nat.le_refl _ | (simp only []; omega) | (simp; omega)) _ | with_reducible refine Up.alloc ?_ _ | with_reducible refine Up.drew ?_ | refine Up.trans ?_ (by with_reducible assumption)))
  · have hd := u4 hf
    have hne : ((unpK k s.data.toList).fin == 4) = false := by simpa using hf
    rw [← u2, ← u3, ← hd]
    have cW := fun wx vc hr hc => l2Walk_any k v lo (unpK k s.data.toList).codes vc 0 wx h hr hc (by omega)
    unfold WkPost at cW
    clear u2 u3 u4 u5 hd hf
    generalize unpK k s.data.toList = U at *
    obtain ⟨codes, fin, used⟩ := U
    simp only at u1 hne cU cW ⊢
    generalize walkN k codes [] [] = T at *
    obtain ⟨a, cap, rfl, -, -, -, -⟩ := hr
    clear h hv
    simp only [kV] at *
    go_enter Tryz.func144, Tryz.ntmps144
    go_wp2_with (first | (go_at_call 174; (with_reducible refine (cU _ (hrt _ (by (repeat (first | with_reducible exact Up.refl _ | with_reducible assumption | with_reducible refine Up.set ?_ (by first | exact Nat.le_refl _ | (simp only []; omega) | (simp; omega)) _ | with_reducible refine Up.alloc ?_ _ | with_reducible refine Up.drew ?_ | refine Up.trans ?_ (by with_reducible assumption)))))).mono ?_); rintro e w1 ⟨v1, rfl, ho1, U1⟩; have B1 := bcell U1; have Z1 := U1.size; (try simp at Z1); (try rw [Nat.add_one_le_iff] at Z1); have HI1 := Lib.hid ((RdI.of_own ho1).low (Nat.zero_le _)); obtain ⟨a1, c1, rfl⟩ := ownsRow_shape ho1; clear ho1) | (go_at_call 175; (with_reducible refine (cW _ _ (hrt _ (by (repeat (first | with_reducible exact Up.refl _ | with_reducible assumption | with_reducible refine Up.set ?_ (by first | exact Nat.le_refl _ | (simp only []; omega) | (simp; omega)) _ | with_reducible refine Up.alloc ?_ _ | with_reducible refine Up.drew ?_ | refine Up.trans ?_ (by with_reducible assumption))))) (HI1.out.up (by (repeat (first | with_reducible exact Up.refl _ | with_reducible assumption | with_reducible refine Up.set ?_ (by first | exact Nat.le_refl _ | (simp only []; omega) | (simp; omega)) _ | with_reducible refine Up.alloc ?_ _ | with_reducible refine Up.drew ?_ | refine Up.trans ?_ (by with_reducible assumption)))))).mono ?_); rintro e w2 ⟨kv, vw, rfl, ⟨k3, a3, n3, c3, rfl⟩, ho2, U2⟩; obtain ⟨aw, cw, rfl⟩ := ownsRow_shape ho2; clear ho2))
    refine bodyPost_ret (v := .tuple #[.string (bs T.data), .int .i64 fin, .int .i64 used]) (by simp [results, Tryz.results144, go_sem]; try rfl) rfl ⟨rfl, ?_⟩
    (repeat (first | with_reducible exact Up.refl _ | with_reducible assumption | with_reducible refine Up.set ?_ (by first | exact Nat.le_refl _ | (simp only []; omega) | (simp; omega)) _ | with_reducible refine Up.alloc ?_ _ | with_reducible refine Up.drew ?_ | refine Up.trans ?_ (by with_reducible assumption)))

set_option maxRecDepth 100000 in
set_option maxHeartbeats 4000000 in
theorem decWS_any (s : SetD) (dict st : ByteArray) (w : World) (hi : dict.size ≤ 1073741824) (hs : st.size ≤ 1073741824) :
    Calls Tryz.prog 102  #[setV s, .string dict, .string st] w (Same (decV (decW s dict.data.toList st.data.toList)) w) := by
  have cS := fun wx => startWS_any s dict wx hi
  unfold decW
  cases hf : fitsB s dict.data.toList
  · rw [hf] at cS
    simp only [Bool.false_eq_true, if_false] at cS ⊢
    unfold decV
    clear hf
    simp only [setV] at *
    go_enter Tryz.func102, Tryz.ntmps102
    go_wp2_with ((go_at_call 79; (with_reducible refine (cS _).mono ?_); rintro e w1 ⟨rfl, U1⟩; have B1 := bcell U1; have Z1 := U1.size; (try simp at Z1); (try rw [Nat.add_one_le_iff] at Z1)))
    refine bodyPost_ret (v := .tuple #[.string ByteArray.empty, .int .i64 4, .int .i64 0]) (by simp [results, Tryz.results102, go_sem]; try rfl) rfl ⟨rfl, ?_⟩
    (repeat (first | with_reducible exact Up.refl _ | with_reducible assumption | with_reducible refine Up.set ?_ (by first | exact Nat.le_refl _ | (simp only []; omega) | (simp; omega)) _ | with_reducible refine Up.alloc ?_ _ | with_reducible refine Up.drew ?_ | refine Up.trans ?_ (by with_reducible assumption)))
  · rw [hf] at cS
    simp only [if_true] at cS ⊢
    obtain ⟨h1, h2, h3⟩ := fitsB_lits hf
    have hok : (learnK (startK s) dict.data.toList).Ok := learnK_ok (startK_ok h1) h3
    have cD := fun wx v hr => decS_any (learnK (startK s) dict.data.toList) v 0 st wx hok (fun _ => rfl) hr hs
    clear hf h1 h2 h3 hok
    generalize learnK (startK s) dict.data.toList = kk at *
    unfold decV at *
    generalize decK kk st.data.toList = oo at *
    simp only [setV, kV] at *
    go_enter Tryz.func102, Tryz.ntmps102
    go_wp2_with (first | (go_at_call 79; (with_reducible refine (cS _).mono ?_); rintro e w1 ⟨v1, rfl, ho1, U1⟩; obtain ⟨a1, c1, rfl⟩ := ownsRow_shape ho1; have HO1 := Lib.hid ho1; clear ho1) | (go_at_call 144; (with_reducible refine (cD _ _ (((RdP.of_own HO1.out).up (by (repeat (first | with_reducible exact Up.refl _ | with_reducible assumption | with_reducible refine Up.set ?_ (by first | exact Nat.le_refl _ | (simp only []; omega) | (simp; omega)) _ | with_reducible refine Up.alloc ?_ _ | with_reducible refine Up.drew ?_ | refine Up.trans ?_ (by with_reducible assumption))))).low (Nat.zero_le _))).mono ?_); rintro e w3 ⟨rfl, U3⟩; have B3 := bcell U3; have Z3 := U3.size; (try simp at Z3); (try rw [Nat.add_one_le_iff] at Z3)))
    refine bodyPost_ret (v := .tuple #[.string (bs oo.data), .int .i64 oo.fin, .int .i64 oo.used]) (by simp [results, Tryz.results102, go_sem]; try rfl) rfl ⟨rfl, ?_⟩
    (repeat (first | with_reducible exact Up.refl _ | with_reducible assumption | with_reducible refine Up.set ?_ (by first | exact Nat.le_refl _ | (simp only []; omega) | (simp; omega)) _ | with_reducible refine Up.alloc ?_ _ | with_reducible refine Up.drew ?_ | refine Up.trans ?_ (by with_reducible assumption)))

/-- The data of a block. -/
def dataO (s : SetD) (dict : List UInt8) (b : BlkD) : Option (List UInt8) := if b.raw then some b.body.data.toList else
  if (decW s dict b.body.data.toList).fin = 0 ∧ (decW s dict b.body.data.toList).used = b.body.size ∧ ((decW s dict b.body.data.toList).data.length : Int) = b.size then some (decW s dict b.body.data.toList).data else none
set_option maxRecDepth 100000 in
set_option maxHeartbeats 8000000 in
theorem l5Data_any (s : SetD) (dict : ByteArray) (b : BlkD) (w : World) (hi : dict.size ≤ 1073741824) (hs : b.body.size ≤ 1073741824) :
    Calls Tryz.prog 123  #[setV s, .string dict, blkV b] w (Same (optS (dataO s dict.data.toList b)) w) := by
  have cD := fun wx => decWS_any s dict b.body wx hi hs
  unfold dataO
  obtain ⟨num, raw, size, body⟩ := b
  simp only at hs cD ⊢
  cases raw
  · simp only [Bool.false_eq_true, if_false]
    obtain ⟨d1, d2, d3, d4⟩ := decW_bd s dict.data.toList body.data.toList
    generalize decW s dict.data.toList body.data.toList = R at *
    obtain ⟨dd, ff, uu⟩ := R
    simp only at d1 d2 d3 d4 ⊢
    unfold decV at cD
    simp only at cD
    have hbz := bs_size dd
    have hbl : uu ≤ body.size := by simpa using d4
    clear d4
    simp only [setV, blkV] at *
    by_cases h1 : ff = 0
    · by_cases h2 : uu = body.size
      · by_cases h3 : (dd.length : Int) = size
        · rw [if_pos ⟨h1, h2, h3⟩]
          unfold optS
          simp only [Option.getD_some, Option.isSome_some]
          subst h1; subst h2; subst h3
          go_enter Tryz.func123, Tryz.ntmps123
          go_wp2_with ((go_at_call 102; (with_reducible refine (cD _).mono ?_); rintro e w1 ⟨rfl, U1⟩; have B1 := bcell U1; have Z1 := U1.size; (try simp at Z1); (try rw [Nat.add_one_le_iff] at Z1)))
          go_ret2
          refine ⟨rfl, ?_⟩
          (repeat (first | with_reducible exact Up.refl _ | with_reducible assumption | with_reducible refine Up.set ?_ (by first | exact Nat.le_refl _ | (simp only []; omega) | (simp; omega)) _ | with_reducible refine Up.alloc ?_ _ | with_reducible refine Up.drew ?_ | refine Up.trans ?_ (by with_reducible assumption)))
        · rw [if_neg (fun h => h3 h.2.2)]
          unfold optS
          simp only [Option.getD_none, Option.isSome_none]
          have hne : ((dd.length : Int) == size) = false := by simpa using h3
          subst h1; subst h2
          clear h3
          go_enter Tryz.func123, Tryz.ntmps123
          go_wp2_with ((go_at_call 102; (with_reducible refine (cD _).mono ?_); rintro e w1 ⟨rfl, U1⟩; have B1 := bcell U1; have Z1 := U1.size; (try simp at Z1); (try rw [Nat.add_one_le_iff] at Z1)))
          go_ret2
          refine ⟨rfl, ?_⟩
          (repeat (first | with_reducible exact Up.refl _ | with_reducible assumption | with_reducible refine Up.set ?_ (by first | exact Nat.le_refl _ | (simp only []; omega) | (simp; omega)) _ | with_reducible refine Up.alloc ?_ _ | with_reducible refine Up.drew ?_ | refine Up.trans ?_ (by with_reducible assumption)))
      · rw [if_neg (fun h => h2 h.2.1)]
        unfold optS
        simp only [Option.getD_none, Option.isSome_none]
        have hne : ((uu : Int) == (body.size : Int)) = false := by simp; omega
        subst h1
        clear h2
        go_enter Tryz.func123, Tryz.ntmps123
        go_wp2_with ((go_at_call 102; (with_reducible refine (cD _).mono ?_); rintro e w1 ⟨rfl, U1⟩; have B1 := bcell U1; have Z1 := U1.size; (try simp at Z1); (try rw [Nat.add_one_le_iff] at Z1)))
        go_ret2
        refine ⟨rfl, ?_⟩
        (repeat (first | with_reducible exact Up.refl _ | with_reducible assumption | with_reducible refine Up.set ?_ (by first | exact Nat.le_refl _ | (simp only []; omega) | (simp; omega)) _ | with_reducible refine Up.alloc ?_ _ | with_reducible refine Up.drew ?_ | refine Up.trans ?_ (by with_reducible assumption)))
    · rw [if_neg (fun h => h1 h.1)]
      unfold optS
      simp only [Option.getD_none, Option.isSome_none]
      go_enter Tryz.func123, Tryz.ntmps123
      go_wp2_with ((go_at_call 102; (with_reducible refine (cD _).mono ?_); rintro e w1 ⟨rfl, U1⟩; have B1 := bcell U1; have Z1 := U1.size; (try simp at Z1); (try rw [Nat.add_one_le_iff] at Z1)))
      go_ret2
      refine ⟨rfl, ?_⟩
      (repeat (first | with_reducible exact Up.refl _ | with_reducible assumption | with_reducible refine Up.set ?_ (by first | exact Nat.le_refl _ | (simp only []; omega) | (simp; omega)) _ | with_reducible refine Up.alloc ?_ _ | with_reducible refine Up.drew ?_ | refine Up.trans ?_ (by with_reducible assumption)))
  · simp only [if_true]
    unfold optS
    simp only [Option.getD_some, Option.isSome_some, bs_self]
    clear cD
    simp only [setV, blkV] at *
    go_enter Tryz.func123, Tryz.ntmps123
    go_wp2
    go_ret2
    refine ⟨rfl, ?_⟩
    (repeat (first | with_reducible exact Up.refl _ | with_reducible assumption | with_reducible refine Up.set ?_ (by first | exact Nat.le_refl _ | (simp only []; omega) | (simp; omega)) _ | with_reducible refine Up.alloc ?_ _ | with_reducible refine Up.drew ?_ | refine Up.trans ?_ (by with_reducible assumption)))

end Go.Proofs.YtekbbnkkninolaaGreat

/- Walk of the program's follow, which goes on behind a code. Conditions: the tree lies in memory, what is known is valid, the code can follow or is the clear code. -/
namespace Go.Proofs.YtekbbnkkninolaaGreat
set_option linter.unusedVariables false
set_option linter.unusedSimpArgs false
open Go Go.RowKit

/-- The last code is stored: nothing else of the tree turns. -/
theorem TreeAt.last {lo tb : Nat} {k k' : KnD} {vp vn vi : Value} {w : World} (h : TreeAt lo tb k vp vn vi w) (x : Int) (hs : k'.set = k.set) (hp : k'.ps = k.ps) (hb : k'.base = k.base) (hl : k'.last = x) : TreeAt lo tb k' vp vn vi (w.setCell ⟨tb, 5, none⟩ (.int .i64 x)) := by
  have ht : k'.tree = k.tree := by unfold KnD.tree KnD.c; rw [hs, hp]
  refine ⟨?_, h.low, ?_, ?_, ?_⟩
  · unfold TrBox
    rw [hs, hb, hl]
    exact box_set h.box 5 (.int .i64 x)
  · rw [hp]; exact ownsRow_setb h.prs (box_ne h.box h.prs (by decide)) 5 _
  · rw [ht]; exact ownsRow_setb h.nod (box_ne h.box h.nod (by decide)) 5 _
  · rw [ht]; exact ownsRow_setb h.idx (box_ne h.box h.idx (by decide)) 5 _
theorem TrPost.last {lo tb : Nat} {k k' : KnD} {vp vn vi : Value} {w w' : World} (h : TrPost lo tb k vp vn vi w w') (x : Int) (hs : k'.set = k.set) (hp : k'.ps = k.ps) (hb : k'.base = k.base) (hl : k'.last = x) : TrPost lo tb k' vp vn vi w (w'.setCell ⟨tb, 5, none⟩ (.int .i64 x)) := by
  obtain ⟨vp', vn', vi', h1, h2, h3⟩ := h
  exact ⟨vp', vn', vi', h1.last x hs hp hb hl, h2.set (p := ⟨tb, 5, none⟩) (.inl (.inl rfl)) _, h3⟩
theorem TrPost.pre {lo tb : Nat} {k : KnD} {vp vn vi : Value} {w w1 w' : World} (hu : Up w w1) (h : TrPost lo tb k vp vn vi w1 w') : TrPost lo tb k vp vn vi w w' := by
  obtain ⟨vp', vn', vi', h1, h2, h3⟩ := h
  exact ⟨vp', vn', vi', h1, (Fr.of _ hu).trans h2 (fun _ h => .inl h), fun b hb => (h3 b hb).imp id (fun h => Nat.le_trans hu.size h)⟩
theorem TrPost.refl {lo tb : Nat} {k : KnD} {vp vn vi : Value} {w : World} (h : TreeAt lo tb k vp vn vi w) : TrPost lo tb k vp vn vi w w := ⟨vp, vn, vi, h, Fr.refl _ _, fun _ h => .inl h⟩

set_option maxRecDepth 100000 in
set_option maxHeartbeats 4000000 in
theorem followC_any (lo tb : Nat) (k : KnD) (vp vn vi : Value) (w : World) (h : TreeAt lo tb k vp vn vi w) (hk : k.Tr) (hb0 : 0 ≤ k.base) (hb1 : k.base ≤ k.ps.length) :
    Calls Tryz.prog 136  #[.pointer (some ⟨tb, 0, none⟩), .int .i64 (k.c : Nat)] w (fun e w' => (∃ v, e = .returned v) ∧ TrPost lo tb k.cleared vp vn vi w w') := by
  have cK := fun w => clearI_any k.set w hk.set
  have cF := fun w hT => forget_any lo tb k vp vn vi w hT hk hb0 hb1
  obtain ⟨c0, c1, c2, c3, c4, c5, c6, c7⟩ := h.cells
  have htb := h.lt
  have ec : k.c = clr k.set := rfl
  have H := Lib.hid h
  rw [ec]
  clear h
  go_enter Tryz.func136, Tryz.ntmps136
  go_wp2_with (first | (go_at_call 137; (with_reducible refine (cK _).mono ?_); rintro e w1 ⟨rfl, U1⟩; have B1 := bcell U1; have Z1 := U1.size; (try simp at Z1); (try rw [Nat.add_one_le_iff] at Z1)) | fail)
  refine (cF _ (H.out.up U1)).mono ?_
  rintro e w2 ⟨⟨v, rfl⟩, hP⟩
  have hP2 := hP.last (k' := k.cleared) (-1) rfl rfl rfl rfl
  obtain ⟨vp', vn', vi', hT2, -, -⟩ := hP
  have htb2 := hT2.lt
  obtain ⟨d0, d1, d2, d3, d4, d5, d6, d7⟩ := hT2.cells
  have hfr2 := box_free hT2.box
  have HP := Lib.hid hP2
  clear hT2 hP2 B1
  go_wp2
  (try simp only [Exit.inBlock, Exit.then]); refine bodyPost_ret (results_none rfl _ _ _) rfl ?_
  exact ⟨⟨_, rfl⟩, HP.out.pre U1⟩

/-- The code whose node has the first byte of a code's word. -/
def KnD.from (k : KnD) (x : Int) : Int := if x = k.next then k.last else x
theorem KnD.from_ok {k : KnD} (hk : k.Ok) {x : Int} (hf : k.follows x = true) : codeOk k.c k.ps.length (k.from x) = true := by
  unfold KnD.from
  rcases KnD.follows_cases hk hf with hc | ⟨_, hx, hl⟩
  · rw [if_neg (by rw [codeOk_iff] at hc; unfold KnD.next; omega)]; exact hc
  · rw [if_pos hx]; exact hl
theorem KnD.from_first {k : KnD} (hk : k.Ok) {x : Int} (hf : k.follows x = true) : (nodAt k.tree.ns (nodeOf k.c k.tree (k.from x))).fir = k.first x := by
  have hT := hk.tree
  have hfr := KnD.from_ok hk hf
  obtain ⟨a1, a2, a3⟩ := hT.node _ hfr
  have h1 := hT.first _ a1
  obtain ⟨-, -, f1, f2⟩ := hT.bytes _ a1
  have hcb := hk.c_bd
  rw [a3] at h1
  have h2 : (k.any x).getD 0 0 = (wordP k.c k.ps (k.from x)).getD 0 0 := by
    unfold KnD.any KnD.from
    split
    · have hl : codeOk k.c k.ps.length k.last = true := by
        have := hfr
        unfold KnD.from at this
        rwa [if_pos (by assumption)] at this
      have hp : 1 ≤ (k.word k.last).length := wordP_pos hk.ps hl
      show (k.word k.last ++ (k.word k.last).take 1).getD 0 0 = (k.word k.last).getD 0 0
      rw [List.getD_eq_getElem?_getD, List.getD_eq_getElem?_getD, List.getElem?_append_left (by omega)]
    · rfl
  unfold KnD.first
  rw [h2, h1, ub_nat f1 (by omega)]

set_option maxRecDepth 100000 in
set_option maxHeartbeats 4000000 in
theorem followW_any (lo tb : Nat) (k : KnD) (vp vn vi : Value) (x : Int) (w : World) (h : TreeAt lo tb k vp vn vi w) (hk : k.Ok) (hx : ¬ x = (k.c : Int)) (hf : k.follows x = true) :
    Calls Tryz.prog 136  #[.pointer (some ⟨tb, 0, none⟩), .int .i64 x] w (fun e w' => (∃ v, e = .returned v) ∧ TrPost lo tb (k.after x) vp vn vi w w') := by
  have hkt := hk.tr
  have cK := fun w => clearI_any k.set w hk.set
  obtain ⟨c0, c1, c2, c3, c4, c5, c6, c7⟩ := h.cells
  have hfr := box_free h.box
  have htb := h.lt
  have ec : k.c = clr k.set := rfl
  have hps : k.ps.length ≤ 100000 := by have := hkt.len; have := hkt.c_bd; omega
  obtain ⟨ap, cp, rfl⟩ := h.shape
  have cG := fun w => growI_any k.set k.base k.last ap k.ps.length cp w hk.set hps
  have cX := fun w => nextI_any k.set k.base k.last ap k.ps.length cp w hk.set hps
  rw [growN_eq] at cG
  simp only [knV] at cG cX
  have H := Lib.hid h
  have hxb : (x == ((clr k.set : Nat) : Int)) = false := by rw [← ec]; simpa using hx
  have en : ((clr k.set : Int) + 2 + k.ps.length) = (k.next : Nat) := by unfold KnD.next KnD.c; omega
  have hgw := htb
  cases hg : k.grow
  · have hA : k.after x = ⟨k.set, k.ps, k.base, x⟩ := by unfold KnD.after; rw [hg]; simp
    rw [hA]
    rw [hg] at cG
    clear h hx hg hA cX en
    go_enter Tryz.func136, Tryz.ntmps136
    go_wp2_with (first | ((go_at_call 137; (with_reducible refine (cK _).mono ?_); rintro e w1 ⟨rfl, U1⟩; have B1 := bcell U1; have Z1 := U1.size; (try simp at Z1); (try rw [Nat.add_one_le_iff] at Z1)); have htb1 := Nat.lt_of_lt_of_le htb U1.size; have hgl1 := Nat.lt_of_lt_of_le hgw U1.size) | ((go_at_call 138; (with_reducible refine (cG _).mono ?_); rintro e w2 ⟨rfl, U2⟩; have B2 := bcell U2; have Z2 := U2.size; (try simp at Z2); (try rw [Nat.add_one_le_iff] at Z2)); have htb2 := Nat.lt_of_lt_of_le htb1 U2.size; have hgl2 := Nat.lt_of_lt_of_le hgl1 U2.size))
    go_end0
    have hT := (H.out.up U1).up U2
    exact ⟨⟨_, rfl⟩, (((TrPost.refl hT).last (k' := ⟨k.set, k.ps, k.base, x⟩) x rfl rfl rfl rfl).pre U2).pre U1⟩
  · have hA : k.after x = ⟨k.set, k.ps ++ [⟨k.last, k.first x⟩], k.base, x⟩ := by unfold KnD.after; rw [hg]; rfl
    have hlast := hk.lastOk hg
    have hnx : k.next ≤ lastC k.set := by
      unfold KnD.grow at hg
      simp only [Bool.and_eq_true, decide_eq_true_eq] at hg
      exact hg.2
    obtain ⟨hf1, hf2⟩ := KnD.first_bd hk hf
    have hf3 : k.first x ≤ 255 := by have := hk.c_bd; omega
    have cL := fun wq hT => learnT_any lo tb k (.slice ap k.ps.length cp) vn vi ⟨k.last, k.first x⟩ wq hT hkt hlast hf1 hf2 hnx
    have cN := fun wq hT => nodeOf_any lo tb k (.slice ap k.ps.length cp) vn vi (k.from x) wq hT hkt (KnD.from_ok hk hf)
    have hfi := KnD.from_first hk hf
    obtain ⟨hn1, -, -⟩ := hk.tree.node _ (KnD.from_ok hk hf)
    generalize nodeOf k.c k.tree (k.from x) = nd at *
    obtain ⟨g, cap, nxx, rfl, hg1, hg2, hg3, hg4, hg5, d0, d1, d2, d3, d4, d5⟩ := h.node1 hkt hn1
    rw [hfi] at d4
    unfold maxLen at hg2
    clear hgw
    have hgw := hg4
    rw [hA]
    rw [hg] at cG
    generalize k.first x = fx at *
    dsimp only at cL
    clear h hx hg hA hf hfi hnx d0 d1 d2 d3 d5 hlast
    by_cases hxn : x = k.next
    · have hfrom : k.from x = k.last := by unfold KnD.from; rw [if_pos hxn]
      rw [hfrom] at cN
      clear hfrom
      rw [en] at cX
      rw [← hxn] at cX
      clear en hxn
      go_enter Tryz.func136, Tryz.ntmps136
      go_wp2_with (first | ((go_at_call 137; (with_reducible refine (cK _).mono ?_); rintro e w1 ⟨rfl, U1⟩; have B1 := bcell U1; have Z1 := U1.size; (try simp at Z1); (try rw [Nat.add_one_le_iff] at Z1)); have htb1 := Nat.lt_of_lt_of_le htb U1.size; have hgl1 := Nat.lt_of_lt_of_le hgw U1.size) | ((go_at_call 138; (with_reducible refine (cG _).mono ?_); rintro e w2 ⟨rfl, U2⟩; have B2 := bcell U2; have Z2 := U2.size; (try simp at Z2); (try rw [Nat.add_one_le_iff] at Z2)); have htb2 := Nat.lt_of_lt_of_le htb1 U2.size; have hgl2 := Nat.lt_of_lt_of_le hgl1 U2.size) | ((go_at_call 168; (with_reducible refine (cX _).mono ?_); rintro e w3 ⟨rfl, U3⟩; have B3 := bcell U3; have Z3 := U3.size; (try simp at Z3); (try rw [Nat.add_one_le_iff] at Z3)); have htb3 := Nat.lt_of_lt_of_le htb2 U3.size; have hgl3 := Nat.lt_of_lt_of_le hgl2 U3.size))
      refine wp_region_upR 18 (by kernel_rfl) (by kernel_rfl) ?_
      simp only [List.take, List.drop]
      repeat (refine wpUp_step (fun K hK => ?_); go_simp; (try simp only [↓IntWalk.iteOmega]); first
        | (refine hK _ _ ?_; clear hK K)
        | (apply stepU_c
           · intro wq hwq; (have hbq := bcell hwq; (repeat (first | refine fills_no (by rfl) ?_ | refine fills_yes (by rfl) (fun vq hvq => ?_))); simp only [List.filter_nil, fills]; unfold upAt; go_simp; (try go_bits); (try simp only [↓IntWalk.iteOmega]); (try (rw [dif_pos (by omega)]; go_simp; try go_bits)); first | exact upOut_value | (apply upOut_call; (go_at_call 169; exact cN _ ((((H.out.up U1).up U2).up U3).up hwq))) | (apply upOut_eq; (go_at_call 169; exact cN _ ((((H.out.up U1).up U2).up U3).up hwq))))
           go_simp; refine hK _ _ ?_; clear hK K))
      refine wpUp_nil (fun wq hwq => ?_)
      simp only [fills]
      have hT := (((H.out.up U1).up U2).up U3).up hwq
      have hUq : Up w wq := ((U1.trans U2).trans U3).trans hwq
      go_wp2_with fail
      with_reducible refine (cL _ hT).mono ?_
      rintro e w5 ⟨⟨v, rfl⟩, hP⟩
      have hP2 := hP.last (k' := ⟨k.set, k.ps ++ [⟨k.last, fx⟩], k.base, x⟩) x rfl rfl rfl rfl
      obtain ⟨vp', vn', vi', hT2, -, -⟩ := hP
      have htb5 := hT2.lt
      obtain ⟨e0, e1, e2, e3, e4, e5, e6, e7⟩ := hT2.cells
      have hfr5 := box_free hT2.box
      have HP := Lib.hid (hP2.pre hUq)
      clear hT2 hP2 B1 B2 B3 hT hUq hwq
      go_wp2
      go_end0
      exact ⟨⟨_, rfl⟩, HP.out⟩
    · have hfrom : k.from x = x := by unfold KnD.from; rw [if_neg hxn]
      rw [hfrom] at cN
      clear hfrom
      have hxn2 : (x == (clr k.set : Int) + 2 + k.ps.length) = false := by rw [en]; simpa using hxn
      clear en hxn
      go_enter Tryz.func136, Tryz.ntmps136
      go_wp2_with (first | ((go_at_call 137; (with_reducible refine (cK _).mono ?_); rintro e w1 ⟨rfl, U1⟩; have B1 := bcell U1; have Z1 := U1.size; (try simp at Z1); (try rw [Nat.add_one_le_iff] at Z1)); have htb1 := Nat.lt_of_lt_of_le htb U1.size; have hgl1 := Nat.lt_of_lt_of_le hgw U1.size) | ((go_at_call 138; (with_reducible refine (cG _).mono ?_); rintro e w2 ⟨rfl, U2⟩; have B2 := bcell U2; have Z2 := U2.size; (try simp at Z2); (try rw [Nat.add_one_le_iff] at Z2)); have htb2 := Nat.lt_of_lt_of_le htb1 U2.size; have hgl2 := Nat.lt_of_lt_of_le hgl1 U2.size) | ((go_at_call 168; (with_reducible refine (cX _).mono ?_); rintro e w3 ⟨rfl, U3⟩; have B3 := bcell U3; have Z3 := U3.size; (try simp at Z3); (try rw [Nat.add_one_le_iff] at Z3)); have htb3 := Nat.lt_of_lt_of_le htb2 U3.size; have hgl3 := Nat.lt_of_lt_of_le hgl2 U3.size))
      refine wp_region_upR 18 (by kernel_rfl) (by kernel_rfl) ?_
      simp only [List.take, List.drop]
      repeat (refine wpUp_step (fun K hK => ?_); go_simp; (try simp only [↓IntWalk.iteOmega]); first
        | (refine hK _ _ ?_; clear hK K)
        | (apply stepU_c
           · intro wq hwq; (have hbq := bcell hwq; (repeat (first | refine fills_no (by rfl) ?_ | refine fills_yes (by rfl) (fun vq hvq => ?_))); simp only [List.filter_nil, fills]; unfold upAt; go_simp; (try go_bits); (try simp only [↓IntWalk.iteOmega]); (try (rw [dif_pos (by omega)]; go_simp; try go_bits)); first | exact upOut_value | (apply upOut_call; (go_at_call 169; exact cN _ ((((H.out.up U1).up U2).up U3).up hwq))) | (apply upOut_eq; (go_at_call 169; exact cN _ ((((H.out.up U1).up U2).up U3).up hwq))))
           go_simp; refine hK _ _ ?_; clear hK K))
      refine wpUp_nil (fun wq hwq => ?_)
      simp only [fills]
      have hT := (((H.out.up U1).up U2).up U3).up hwq
      have hUq : Up w wq := ((U1.trans U2).trans U3).trans hwq
      go_wp2_with fail
      with_reducible refine (cL _ hT).mono ?_
      rintro e w5 ⟨⟨v, rfl⟩, hP⟩
      have hP2 := hP.last (k' := ⟨k.set, k.ps ++ [⟨k.last, fx⟩], k.base, x⟩) x rfl rfl rfl rfl
      obtain ⟨vp', vn', vi', hT2, -, -⟩ := hP
      have htb5 := hT2.lt
      obtain ⟨e0, e1, e2, e3, e4, e5, e6, e7⟩ := hT2.cells
      have hfr5 := box_free hT2.box
      have HP := Lib.hid (hP2.pre hUq)
      clear hT2 hP2 B1 B2 B3 hT hUq hwq
      go_wp2
      go_end0
      exact ⟨⟨_, rfl⟩, HP.out⟩

end Go.Proofs.YtekbbnkkninolaaGreat

/- Walk of the program's newTree. Conditions: what is known is valid and can be read. -/
namespace Go.Proofs.YtekbbnkkninolaaGreat
set_option linter.unusedVariables false
set_option linter.unusedSimpArgs false
open Go Go.RowKit

def litC1 (i : Nat) : List Value := [.int .i64 (-1), .int .i64 (-1), .int .i64 (-1), .int .u8 i, .int .u8 i, .int .i64 i]
def litC (b : Nat) : List Value := (List.range b).flatMap litC1
theorem litC_succ (b : Nat) : litC (b + 1) = litC b ++ litC1 b := by simp [litC, List.range_succ]
theorem litC_one (b : Nat) : ∀ u ∈ litC1 b, u.oneCell' = true := by
  intro u hu
  simp only [litC1, List.mem_cons, List.not_mem_nil, or_false] at hu
  rcases hu with rfl | rfl | rfl | rfl | rfl | rfl <;> rfl
theorem litC_all (c : Nat) : litC c = cellsN (litsN c) := by
  unfold litC cellsN
  rw [litsN_length]
  rw [List.flatMap_def, List.flatMap_def]
  congr 1
  apply List.map_congr_left
  intro i hi
  have hi := List.mem_range.1 hi
  have h1 : lastCh (litsN c) i c = -1 := by
    rcases lastCh_cases (litsN c) i c with ⟨h, _⟩ | ⟨j, hj, _, h3, _⟩
    · exact h
    · rw [litsN_at hj] at h3; simp only [] at h3; omega
  unfold nodC
  rw [litsN_at hi, h1]
  rfl
theorem TreeAt.not_own {lo tb : Nat} {k : KnD} {vp vn vi : Value} {w : World} (h : TreeAt lo tb k vp vn vi w) {b : Nat} {cs : Array Value} {T : TypeId} (hb : w.heap[b]? = some (.cells cs T)) (h1 : T ≠ 160) (h2 : T ≠ 176) (h3 : T ≠ 181) (h4 : T ≠ 3) : ¬ Own tb vp vn vi b := by
  rintro (rfl | e | e | e)
  · have := h.box
    unfold TrBox at this
    rw [hb] at this
    cases this
    exact h1 rfl
  · exact box_ne hb h.prs h2 e.symm
  · exact box_ne hb h.nod h3 e.symm
  · exact box_ne hb h.idx h4 e.symm

/-- What is known, of the first j pairs. -/
def KnD.upto (k : KnD) (j : Nat) : KnD := ⟨k.set, k.ps.take j, k.base, k.last⟩
theorem KnD.upto_tr {k : KnD} (h : k.Tr) (j : Nat) : (k.upto j).Tr := by
  refine ⟨h.set, h.ps.take _, ?_⟩
  have := h.len
  show (k.ps.take j).length + k.c + 1 ≤ lastC k.set
  rw [List.length_take]; omega
theorem KnD.upto_add {k : KnD} {j : Nat} (h : j < k.ps.length) : (k.upto j).add k.ps[j] = k.upto (j + 1) := by
  unfold KnD.upto KnD.add
  rw [List.take_succ_eq_append_getElem h]
theorem KnD.upto_all (k : KnD) : k.upto k.ps.length = k := by unfold KnD.upto; rw [List.take_length]

/-- The first loop: the nodes of the literals. -/
structure Nt1 (k : KnD) (v : Value) (w : World) (b : Nat) (vn : Value) (wr : World) : Prop where
  le : b ≤ clr k.set
  kn : KnAt w.heap.size k v wr
  box : TrBox (w.heap.size + 1) k (.slice none 0 0) vn (.slice none 0 0) wr
  row : wr.ownsRow w.heap.size 181 6 vn b (litC b)
  up : Up w wr
def RelNt1 (k : KnD) (v : Value) (w : World) (i : Value) (wr : World) : Prop := ∃ (b : Nat) (vn : Value), i = .int .i64 b ∧ Nt1 k v w b vn wr
structure Nt2 (k : KnD) (v : Value) (w : World) (j : Nat) (vp vn vi : Value) (wr : World) : Prop where
  le : j ≤ k.ps.length
  kn : KnAt w.heap.size k v wr
  tree : TreeAt w.heap.size (w.heap.size + 1) (k.upto j) vp vn vi wr
  up : Up w wr
def RelNt2 (k : KnD) (v : Value) (w : World) (i : Value) (wr : World) : Prop := ∃ (j : Nat) (vp vn vi : Value), i = .int .i64 j ∧ Nt2 k v w j vp vn vi wr

/-- What newTree leaves. -/
def NewTree (k : KnD) (w : World) (e : Ending) (w' : World) : Prop := ∃ tb vp vn vi, e = .returned (.pointer (some ⟨tb, 0, none⟩)) ∧ TreeAt w.heap.size tb k vp vn vi w' ∧ Up w w'

set_option maxRecDepth 100000 in
set_option maxHeartbeats 8000000 in
theorem newTree_any (k : KnD) (v : Value) (lo : Nat) (w : World) (hk : k.Ok) (hr : RdP lo w v k.ps) :
    Calls Tryz.prog 135  #[kV k v] w (NewTree k w) := by
  obtain ⟨iN, hiN, hzN0, hzN1, hzN2⟩ := info_parts infoNode
  have hkt := hk.tr
  have cK := fun w => clearI_any k.set w hk.set
  obtain ⟨hb2, hb3, hb4⟩ := clr_le hk.set
  have ec : k.c = clr k.set := rfl
  have hpl := hk.len
  have hrt := fun (wq : World) (hu : Up w wq) => hr.up hu
  obtain ⟨a, cap, rfl, hc1, hc2, hc3, hsome⟩ := hr
  unfold maxLen at hc2
  simp only [kV]
  go_enter Tryz.func135, Tryz.ntmps135
  go_wp2_with (first | (go_at_call 137; (with_reducible refine (cK _).mono ?_); rintro e w1 ⟨rfl, U1⟩; have B1 := bcell U1; have Z1 := U1.size; (try simp at Z1); (try rw [Nat.add_one_le_iff] at Z1)) | fail)
  have hkn : KnAt w.heap.size k (.slice a k.ps.length cap) w1 := box_up U1 (box_up ((Up.refl _).alloc _) (MapKept.heap_alloc w _).1)
  have hbx : TrBox (w.heap.size + 1) k (.slice none 0 0) (.slice none 0 0) (.slice none 0 0) w1 := box_up U1 (alloc2 w _ _)
  have hU1 : Up w w1 := by (repeat (first | with_reducible exact Up.refl _ | with_reducible assumption | with_reducible refine Up.set ?_ (by first | exact Nat.le_refl _ | (simp only []; omega) | (simp; omega)) _ | with_reducible refine Up.alloc ?_ _ | with_reducible refine Up.drew ?_ | refine Up.trans ?_ (by with_reducible assumption)))
  clear U1 B1
  go_loopw [17] (fun i wr => RelNt1 k (.slice a k.ps.length cap) w i wr) (fun i _ => clr k.set - (intOf i).toNat)
  case atStart => exact ⟨0, .slice none 0 0, rfl, Nat.zero_le _, hkn, hbx, World.ownsRow_nil _ _ _ _, hU1⟩
  case round =>
    clear hkn hbx hU1
    obtain ⟨b, vn, rfl, hN⟩ := hrel
    obtain ⟨hble, hkn, hbx, hrow, hup⟩ := hN
    obtain ⟨an, cn, rfl⟩ := ownsRow_shape hrow
    have hfr := box_free hbx
    have hfk := box_free hkn
    have htb := (Array.getElem?_eq_some_iff.1 hbx).1
    obtain ⟨k0, q0, q1, q2, q3, q4, q5⟩ := hkn.cells
    have hne1 : ¬ w.heap.size = w.heap.size + 1 := by omega
    have hsz := hup.size
    by_cases hlt : b < clr k.set
    · have hbm : (b : Int) % 256 = b := by omega
      have hb255 : (b : Int) ≤ 255 := by omega
      obtain ⟨c0, c1, c2, c3, c4, c5, c6, c7⟩ := TrBox.cells hbx
      have hneB : some (w.heap.size + 1) ≠ Value.ownBlock (.slice an b cn) := box_ne hbx hrow (by decide)
      have hneK : some w.heap.size ≠ Value.ownBlock (.slice an b cn) := box_ne hkn hrow (by decide)
      have HN := Lib.hid (And.intro hbx (And.intro hkn (And.intro hrow (And.intro hneB hneK))))
      clear hbx hkn hneB hneK
      go_wp2_with (at_builtin; refine wpList_append_own _ rfl _ _ 158 rfl w.heap.size 181 iN (.agg #[.int .i64 0, .int .i64 0, .int .i64 0, .int .u8 0, .int .u8 0, .int .i64 0]) 6 40 Tryz.underlying158 hiN hzN0 hzN1 hzN2 rfl (by decide) _ _ _ rfl (hrow.alloc _) ⟨wr.heap.size, 0, none⟩ 1 1 (litC1 b) rfl rfl (new_cells (litC1 b) _ rfl) (litC_one b) (by unfold maxLen; omega) (by omega) (by simp; omega) ?_; rintro v2 w2 hown2 hgr2 -; obtain ⟨a2, cc2, rfl⟩ := ownsRow_shape hown2; obtain ⟨c0, c1, c2, c3, c4, c5, c6, c7⟩ := TrBox.cells (gbox hgr2 (box_up ((Up.refl _).alloc _) HN.out.1) HN.out.2.2.2.1); have hfr := box_free (gbox hgr2 (box_up ((Up.refl _).alloc _) HN.out.1) HN.out.2.2.2.1); have HO := Lib.hid (And.intro hown2 hgr2); clear hown2 hgr2)
      go_roundw
      case rel =>
        obtain ⟨hown2, hgr2⟩ := HO.out
        have hb2' : TrBox (w.heap.size + 1) k (.slice none 0 0) (.slice an b cn) (.slice none 0 0) w2 := gbox hgr2 (box_up ((Up.refl _).alloc _) HN.out.1) HN.out.2.2.2.1
        refine ⟨b + 1, .slice a2 (b + 1) cc2, by go_num, by omega, ?_, box_set hb2' 6 _, ?_, ?_⟩
        · exact box_oth (gbox hgr2 (box_up ((Up.refl _).alloc _) HN.out.2.1) HN.out.2.2.2.2) (p := ⟨w.heap.size + 1, 6, none⟩) hne1 _
        · rw [litC_succ]; exact ownsRow_setb hown2 (box_ne hb2' hown2 (by decide)) 6 _
        · exact ((hup.alloc _).grown hgr2 (fun x hx => (HN.out.2.2.1.lt x hx).1)).set (p := ⟨w.heap.size + 1, 6, none⟩) (Nat.le_succ _) _
      case measure => simp [intOf]; omega
    · have e : b = clr k.set := by omega
      have hrow' : wr.ownsRow w.heap.size 181 6 (.slice an b cn) (k.upto 0).tree.ns.length (cellsN (k.upto 0).tree.ns) := by
        have e2 : (k.upto 0).tree = ⟨litsN (clr k.set), []⟩ := rfl
        rw [e2]
        show wr.ownsRow _ _ _ _ (litsN (clr k.set)).length _
        rw [litsN_length, ← litC_all, ← e]
        exact hrow
      have hT0 : TreeAt w.heap.size (w.heap.size + 1) (k.upto 0) (.slice none 0 0) (.slice an b cn) (.slice none 0 0) wr := ⟨hbx, Nat.le_succ _, World.ownsRow_nil _ _ _ _, hrow', World.ownsRow_nil _ _ _ _⟩
      have HK := Lib.hid (And.intro hkn (And.intro hT0 hup))
      clear e hrow hrow' hbx hT0 hkn
      go_wp2
      go_loopw [39] (fun i wr => RelNt2 k (.slice a k.ps.length cap) w i wr) (fun i _ => k.ps.length - (intOf i).toNat)
      case atStart => exact ⟨0, _, _, _, rfl, Nat.zero_le _, HK.out.1, HK.out.2.1, HK.out.2.2⟩
      case round =>
        clear HK hup hfr hfk htb k0 q0 q1 q2 q3 q4 q5 hne1 hsz
        obtain ⟨j, vp, vn, vi, rfl, hN⟩ := hrel
        obtain ⟨hjl, hkn, hT, hup⟩ := hN
        by_cases hlt : j < k.ps.length
        · obtain ⟨hpo, hpb0, hpb1⟩ := hk.ps.get hlt
          obtain ⟨bb, off, rfl, hlo, hbl, hcells⟩ := hsome (by omega)
          obtain ⟨q0, q1⟩ := hcells j k.ps[j] (List.getElem?_eq_getElem hlt)
          have r0 := (hup.cell (p := ⟨bb, off + j * 2, none⟩) hbl).trans q0
          have r1 := (hup.cell (p := ⟨bb, off + j * 2 + 1, none⟩) hbl).trans q1
          have hut : (k.upto j).ps.length = j := by unfold KnD.upto; simp only [List.length_take]; omega
          have cL := fun wq hT => learnT_any w.heap.size (w.heap.size + 1) (k.upto j) vp vn vi k.ps[j] wq hT (KnD.upto_tr hkt j) (by rw [hut]; exact hpo) hpb0 hpb1 (by unfold KnD.next; rw [hut]; show k.c + 2 + j ≤ lastC k.set; omega)
          have hadd := KnD.upto_add hlt
          have HT := Lib.hid (And.intro hkn (And.intro hT hup))
          have HADD := Lib.hid hadd
          clear hcells q0 q1 hkn hT hut hadd
          have hbl2 := Nat.lt_of_lt_of_le hbl hup.size
          go_wp2_with fail
          with_reducible refine (cL _ (HT.out.2.1.up (Up.alloc (Up.refl _) _))).mono ?_
          rintro e w2 ⟨⟨vv, rfl⟩, hP⟩
          go_wp2
          go_roundw
          case rel =>
            obtain ⟨hkn, hT, hup⟩ := HT.out
            obtain ⟨vp', vn', vi', hT', hfr', hO'⟩ := hP
            rw [HADD.out] at hT'
            have hTa := hT.up (Up.alloc (Up.refl wr) (.cells #[.int .i64 k.ps[j].pre, .int .i64 k.ps[j].byt] 176))
            have hkna := box_up (Up.alloc (Up.refl wr) (.cells #[.int .i64 k.ps[j].pre, .int .i64 k.ps[j].byt] 176)) hkn
            exact ⟨j + 1, vp', vn', vi', by go_num, by omega, hfr'.box hkna (hTa.not_own hkna (by decide) (by decide) (by decide) (by decide)), hT', Fr.upto (hup.alloc _) hfr' (fun b hb => (hTa.own_lo b hb).1)⟩
          case measure => simp [intOf]; omega
        · have e : j = k.ps.length := by omega
          rw [e, KnD.upto_all] at hT
          have HT := Lib.hid (And.intro hT hup)
          clear hkn hT
          go_wp2
          go_ret
          exact ⟨_, vp, vn, vi, rfl, HT.out.1, HT.out.2⟩

end Go.Proofs.YtekbbnkkninolaaGreat

/- Walk of the program's greedy. Conditions: what is known is valid and can be read; the data fits. -/
namespace Go.Proofs.YtekbbnkkninolaaGreat
set_option linter.unusedVariables false
set_option linter.unusedSimpArgs false
open Go Go.RowKit

theorem TreeAt.base {lo lo' tb : Nat} {k : KnD} {vp vn vi : Value} {w : World} (h : TreeAt lo tb k vp vn vi w) (hl : lo' ≤ lo) : TreeAt lo' tb k vp vn vi w := ⟨h.box, Nat.le_trans hl h.low, ownsRow_base h.prs hl, ownsRow_base h.nod hl, ownsRow_base h.idx hl⟩
/-- The memory of greedy: the tree, and the row of codes. -/
structure GiW (w : World) (tb : Nat) (k : KnD) (vp vn vi vc : Value) (acc : List Int) (wr : World) : Prop where
  tree : TreeAt w.heap.size tb k vp vn vi wr
  own : ownI wr w.heap.size vc acc
  sep : ∀ b, vc.ownBlock = some b → ¬ Own tb vp vn vi b
  up : Up w wr
theorem GiW.upd {w : World} {tb : Nat} {k : KnD} {vp vn vi vc : Value} {acc : List Int} {wr w' : World} (h : GiW w tb k vp vn vi vc acc wr) (hu : Up wr w') : GiW w tb k vp vn vi vc acc w' := ⟨h.tree.up hu, ownsRow_up h.own hu, h.sep, h.up.trans hu⟩
theorem GiW.tr {w : World} {tb : Nat} {k k' : KnD} {vp vn vi vc : Value} {acc : List Int} {wr w' : World} (h : GiW w tb k vp vn vi vc acc wr) (hp : TrPost w.heap.size tb k' vp vn vi wr w') : ∃ vp' vn' vi', GiW w tb k' vp' vn' vi' vc acc w' := by
  obtain ⟨vp', vn', vi', hT, hF, hO⟩ := hp
  refine ⟨vp', vn', vi', hT, hF.row h.own h.sep, ?_, Fr.upto h.up hF (fun b hb => (h.tree.own_lo b hb).1)⟩
  intro b hb ho
  rcases hO b ho with h1 | h1
  · exact h.sep b hb h1
  · have := (h.own.lt b hb).2; omega
/-- The plain state at a round's beginning, and behind the clear code of a round. -/
structure GiD (T : List Int) (k0 : KnD) (m : Nat) (k : KnD) (d : List UInt8) (acc : List Int) : Prop where
  len : d.length ≤ m
  le : d.length ≤ 2000
  sum : acc.length + 2 * d.length ≤ 4001
  tot : acc ++ (if k.full = true ∧ d ≠ [] then (k.c : Int) :: greedyN m k.cleared d else greedyN m k d) = T
  ok : k.Ok
  set : k.set = k0.set
  lit : ∀ b ∈ d, b.toNat < k0.c
structure GiE (T : List Int) (k0 : KnD) (m : Nat) (k : KnD) (d : List UInt8) (acc : List Int) : Prop where
  len : d.length ≤ m
  le : d.length ≤ 2000
  sum : acc.length + 2 * d.length ≤ 4002
  tot : acc ++ greedyN m k d = T
  ok : k.Ok
  set : k.set = k0.set
  lit : ∀ b ∈ d, b.toNat < k0.c
theorem c_of {k k0 : KnD} (h : k.set = k0.set) : k.c = k0.c := by unfold KnD.c; rw [h]
theorem GiD.full {T : List Int} {k0 : KnD} {m : Nat} {k : KnD} {d : List UInt8} {acc : List Int} (h : GiD T k0 m k d acc) (hd : d ≠ []) (hf : k.full = true) : GiE T k0 m k.cleared d (acc ++ [(clr k0.set : Int)]) := by
  have h1 := h.tot
  rw [if_pos ⟨hf, hd⟩, c_of h.set] at h1
  exact ⟨h.len, h.le, by have := h.sum; simp; omega, by rw [List.append_assoc]; exact h1, KnD.cleared_ok h.ok, h.set, h.lit⟩
theorem GiE.step {T : List Int} {k0 : KnD} {m : Nat} {k : KnD} {d : List UInt8} {acc : List Int} (h : GiE T k0 m k d acc) (hd : d ≠ []) :
    k.follows (k.find (k.longest d)) = true ∧ ¬ k.find (k.longest d) = (k.c : Int) ∧ 1 ≤ (k.longest d).length ∧ (k.longest d).length ≤ d.length ∧ GiD T k0 (m - 1) (k.after (k.find (k.longest d))) (d.drop (k.longest d).length) (acc ++ [k.find (k.longest d)]) := by
  have hll := KnD.longest_le (k := k) d
  have hlp := KnD.longest_pos (k := k) hd
  have hl : ∀ b ∈ d, b.toNat < k.c := by rw [c_of h.set]; exact h.lit
  obtain ⟨hfw, -⟩ := KnD.find_any h.ok hd hl
  have hpos : 0 < d.length := List.length_pos_iff.2 hd
  have h1 := h.len; have h2 := h.le; have h3 := h.sum; have h4 := h.tot
  obtain ⟨n, rfl⟩ : ∃ n, m = n + 1 := ⟨m - 1, by omega⟩
  refine ⟨hfw, (KnD.fol_ne h.ok hfw).1, hlp, hll, by rw [List.length_drop]; omega, by rw [List.length_drop]; omega, by rw [List.length_drop, List.length_append]; simp; omega, ?_, KnD.after_ok h.ok hfw, h.set, fun b hb => h.lit b (List.mem_of_mem_drop hb)⟩
  rw [greedyN, if_neg hd] at h4
  rw [← h4, List.append_assoc]
  rfl
theorem GiD.start {k : KnD} {d : List UInt8} (hk : k.Ok) (hd : d.length ≤ 2000) (hl : ∀ b ∈ d, b.toNat < k.c) : GiD (greedy k d) k d.length k.cleared d [(clr k.set : Int)] := by
  have hf : k.cleared.full = false := by
    unfold KnD.full KnD.cleared
    have h0 := hk.base0
    have : ¬ k.base < ((k.ps.take k.base.toNat).length : Int) := by rw [List.length_take]; omega
    rw [Bool.and_eq_false_iff]; right
    exact decide_eq_false this
  refine ⟨Nat.le_refl _, hd, by simp; omega, ?_, KnD.cleared_ok hk, rfl, hl⟩
  rw [if_neg (fun h => by rw [hf] at h; cases h.1)]
  rfl
end Go.Proofs.YtekbbnkkninolaaGreat

/- Walks of the program's learn, LearnKnown, StartWith. Conditions: what is known is valid and can be read. -/
namespace Go.Proofs.YtekbbnkkninolaaGreat
set_option linter.unusedVariables false
set_option linter.unusedSimpArgs false
open Go Go.RowKit

/-- The plain state of learn; its memory. -/
structure LiD (T : KnD) (k0 : KnD) (L : List UInt8) (m : Nat) (k : KnD) (n : Nat) : Prop where
  len : L.length ≤ n + m
  le : n ≤ L.length
  tot : learnN m k (L.drop n) = T
  ok : k.Ok
  set : k.set = k0.set
structure LiW (w : World) (tb : Nat) (k : KnD) (vp vn vi : Value) (wr : World) : Prop where
  tree : TreeAt (w.heap.size + 2) tb k vp vn vi wr
  res : KnAt (w.heap.size + 1) ⟨⟨0, 0, 0⟩, [], 0, 0⟩ (.slice none 0 0) wr
  up : Up w wr
theorem LiW.upd {w : World} {tb : Nat} {k : KnD} {vp vn vi : Value} {wr w' : World} (h : LiW w tb k vp vn vi wr) (hu : Up wr w') : LiW w tb k vp vn vi w' := ⟨h.tree.up hu, h.res.up hu, h.up.trans hu⟩
theorem LiW.tr {w : World} {tb : Nat} {k k' : KnD} {vp vn vi : Value} {wr w' : World} (h : LiW w tb k vp vn vi wr) (hp : TrPost (w.heap.size + 2) tb k' vp vn vi wr w') : ∃ vp' vn' vi', LiW w tb k' vp' vn' vi' w' := by
  obtain ⟨vp', vn', vi', hT, hF, hO⟩ := hp
  exact ⟨vp', vn', vi', hT, hF.box h.res (fun ho => by have := (h.tree.own_lo _ ho).1; omega), Fr.upto h.up hF (fun b hb => by have := (h.tree.own_lo b hb).1; omega)⟩
theorem LiD.step {T k0 : KnD} {L : List UInt8} {m : Nat} {k : KnD} {n : Nat} (h : LiD T k0 L m k n) (hn : n < L.length) (hl : ∀ b ∈ L, b.toNat < k0.c) :
    k.follows (k.find (k.longest (L.drop n))) = true ∧ ¬ k.find (k.longest (L.drop n)) = (k.c : Int) ∧ 1 ≤ (k.longest (L.drop n)).length ∧ n + (k.longest (L.drop n)).length ≤ L.length ∧ LiD T k0 L (m - 1) (k.after (k.find (k.longest (L.drop n)))) (n + (k.longest (L.drop n)).length) := by
  have hde : L.drop n ≠ [] := fun e => by rw [List.drop_eq_nil_iff] at e; omega
  have hll := KnD.longest_le (k := k) (L.drop n)
  have hlp := KnD.longest_pos (k := k) hde
  have hl2 : ∀ b ∈ L.drop n, b.toNat < k.c := fun b hb => by rw [c_of h.set]; exact hl b (List.mem_of_mem_drop hb)
  obtain ⟨hfw, -⟩ := KnD.find_any h.ok hde hl2
  rw [List.length_drop] at hll
  have h1 := h.len; have h4 := h.tot
  obtain ⟨m', rfl⟩ : ∃ m', m = m' + 1 := ⟨m - 1, by omega⟩
  refine ⟨hfw, (KnD.fol_ne h.ok hfw).1, hlp, by omega, by omega, by omega, ?_, KnD.after_ok h.ok hfw, h.set⟩
  rw [learnN_step hde, List.drop_drop] at h4
  exact h4
def RelLi (T k0 : KnD) (L : List UInt8) (tb : Nat) (w : World) (q i : Value) (wr : World) : Prop := ∃ (k : KnD) (n : Nat) (vp vn vi : Value) (m : Nat) (y : Int), q = .int .i64 y ∧ i = .int .i64 n ∧ LiD T k0 L m k n ∧ LiW w tb k vp vn vi wr
def LnPost (k : KnD) (w : World) (e : Ending) (w' : World) : Prop := ∃ v y, e = .returned (.tuple #[kV k v, .int .i64 y]) ∧ ownPr w' w.heap.size v k.ps ∧ Up w w'

set_option maxRecDepth 100000 in
set_option maxHeartbeats 8000000 in
theorem learnI_any (k : KnD) (v : Value) (lo : Nat) (d : ByteArray) (w : World) (hk : k.Ok) (hr : RdP lo w v k.ps) (hd : d.size ≤ 2000) (hl : ∀ b ∈ d.data.toList, b.toNat < k.c) :
    Calls Tryz.prog 84  #[kV k v, .string d] w (LnPost (learnK k d.data.toList) w) := by
  have hkt := hk.tr
  have cK := fun w => clearI_any k.set w hk.set
  have hrt := fun (wq : World) (hu : Up w wq) => hr.up hu
  have cN := fun wq hr => newTree_any k v lo wq hk hr
  have HK := Lib.hid hk
  have hkb := And.intro hk.base0 hk.base1
  obtain ⟨a, cap, rfl, -, -, -, -⟩ := hr
  have HLl := Lib.hid hl
  have hdl := ba_len d
  clear hk hl
  simp only [kV] at *
  go_enter Tryz.func84, Tryz.ntmps84
  go_wp2_with fail
  with_reducible refine (cN _ (hrt _ (by (repeat (first | with_reducible exact Up.refl _ | with_reducible assumption | with_reducible refine Up.set ?_ (by first | exact Nat.le_refl _ | (simp only []; omega) | (simp; omega)) _ | with_reducible refine Up.alloc ?_ _ | with_reducible refine Up.drew ?_ | refine Up.trans ?_ (by with_reducible assumption)))))).mono ?_
  rintro e w2 ⟨tb, vp, vn, vi, rfl, hT2, U2⟩
  have hW2 : LiW w tb k vp vn vi w2 := ⟨hT2.base (by simp), box_up U2 (alloc2 w _ _), by (repeat (first | with_reducible exact Up.refl _ | with_reducible assumption | with_reducible refine Up.set ?_ (by first | exact Nat.le_refl _ | (simp only []; omega) | (simp; omega)) _ | with_reducible refine Up.alloc ?_ _ | with_reducible refine Up.drew ?_ | refine Up.trans ?_ (by with_reducible assumption)))⟩
  obtain ⟨-, r0, r1, r2, r3, r4, r5⟩ := KnAt.cells (b := w.heap.size) (k := k) (v := .slice a k.ps.length cap) (box_up U2 (box_up ((Up.refl _).alloc _) (MapKept.heap_alloc w _).1))
  have HW2 := Lib.hid hW2
  have htb2 := hT2.lt
  clear hT2 U2 hW2 cN hrt
  go_wp2_with (first | (go_at_call 137; (with_reducible refine (cK _).mono ?_); rintro e w3 ⟨rfl, U3⟩; have B3 := bcell U3; have Z3 := U3.size; (try simp at Z3); (try rw [Nat.add_one_le_iff] at Z3)) | fail)
  have cF := followC_any (w.heap.size + 2) tb k vp vn vi w3 (HW2.out.upd U3).tree hkt hkb.1 hkb.2
  rw [show k.c = clr k.set from rfl] at cF
  with_reducible refine cF.mono ?_
  rintro e w4 ⟨⟨vv, rfl⟩, hP4⟩
  obtain ⟨vp4, vn4, vi4, hW4⟩ := (HW2.out.upd U3).tr hP4
  have HW4 := Lib.hid hW4
  clear hP4 hW4 U3 B3 Z3 cF
  have HL : Hid (d = bs d.data.toList) := (bs_self d).symm
  generalize d.data.toList = L at *
  have hLs := bs_size L
  have hd2 : L.length ≤ 2000 := by omega
  rw [HL.out]
  clear hdl hd
  go_wp2
  go_loopw [7, 8] (fun q i wr => RelLi (learnN L.length k.cleared L) k L tb w q i wr) (fun _ i _ => L.length - (intOf i).toNat)
  case atStart => exact ⟨k.cleared, 0, vp4, vn4, vi4, L.length, 0, rfl, rfl, ⟨by omega, Nat.zero_le _, by rw [List.drop_zero], KnD.cleared_ok HK.out, rfl⟩, HW4.out⟩
  case round =>
    obtain ⟨k1, n, vp, vn, vi, m, y, rfl, rfl, hD, hW⟩ := hrel
    have hle := hD.le
    have HD := Lib.hid hD
    have HW := Lib.hid hW
    have hpl1 := hD.ok.nums.2.2.2.1
    obtain ⟨ap, cp, rfl⟩ := hW.tree.shape
    have htb := hW.tree.lt
    obtain ⟨c0, c1, c2, c3, c4, c5, c6, c7⟩ := hW.tree.cells
    by_cases hlt : n < L.length
    · have cG := fun wq => growI_any k1.set k1.base k1.last ap k1.ps.length cp wq hD.ok.set (by omega)
      rw [growN_eq] at cG
      simp only [knV] at cG
      obtain ⟨hfw, hxc, hlp, hll, hD9⟩ := hD.step hlt HLl.out
      have hok2 := hD.ok
      have hset := hD.set
      have cL := fun wq hT => longest_any (w.heap.size + 2) tb k1 (.slice ap k1.ps.length cp) vn vi (bs (L.drop n)) wq hT hok2 (by rw [bs_size, List.length_drop]; omega) (by rw [bs_size, List.length_drop]; omega) (by rw [bs_data, c_of hset]; exact fun b hb => HLl.out b (List.mem_of_mem_drop hb))
      rw [bs_data] at cL
      have cG2 := fun wq hT => followW_any (w.heap.size + 2) tb k1 (.slice ap k1.ps.length cp) vn vi (k1.find (k1.longest (L.drop n))) wq hT hok2 hxc hfw
      have hbd : Hid ((bs L).extract n L.length = bs (L.drop n)) := bs_drop' L n L.length rfl
      have HD9 := Lib.hid hD9
      clear hD9 hfw hxc hok2 hset hD hW
      generalize hx : k1.find (k1.longest (L.drop n)) = x at *
      generalize hnl : (k1.longest (L.drop n)).length = n1 at *
      generalize hka : k1.after x = k9 at *
      clear hx hnl hka
      cases hg : k1.grow
      all_goals
        rw [hg] at cG
        clear hg
        go_wp2_with (first | ((go_at_call 138; (with_reducible refine (cG _).mono ?_); rintro e w5 ⟨rfl, U5⟩; have B5 := bcell U5; have Z5 := U5.size; (try simp at Z5); (try rw [Nat.add_one_le_iff] at Z5))) | fail)
        have htb5 := Nat.lt_of_lt_of_le htb U5.size
        rw [hbd.out]
        with_reducible refine (cL _ (HW.out.upd U5).tree).mono ?_
        rintro e w6 ⟨rfl, U6⟩
        go_wp2_with fail
        with_reducible refine (cG2 _ ((HW.out.upd U5).upd U6).tree).mono ?_
        rintro e w7 ⟨⟨vv, rfl⟩, hP7⟩
        obtain ⟨vp7, vn7, vi7, hW7⟩ := ((HW.out.upd U5).upd U6).tr hP7
        go_wp2
        go_roundw
        case rel => exact ⟨k9, n + n1, vp7, vn7, vi7, m - 1, _, rfl, by go_num, HD9.out, hW7⟩
        case measure => simp [intOf]; omega
    · have e : n = L.length := by omega
      subst e
      have htot := hD.tot
      rw [List.drop_length, learnN_nil] at htot
      have HE : Hid (learnK k L = ⟨k1.set, k1.ps, k1.ps.length, -1⟩) := by unfold Hid learnK; rw [← htot, hD.set]
      have cY := fun wx hr => copyI_any k1 (.slice ap k1.ps.length cp) (w.heap.size + 2) wx hr (by omega)
      have hrd := RdP.of_own hW.tree.prs
      clear htot hD hW HW4 HW2 HD
      simp only [kV] at *
      go_wp2_with (go_at_call 140; (with_reducible refine (cY _ hrd).mono ?_); rintro e w5 ⟨v5, rfl, ho5, U5⟩; obtain ⟨a5, c5, rfl⟩ := ownsRow_shape ho5; obtain ⟨hRl, q0, q1, q2, q3, q4, q5⟩ := (HW.out.upd U5).res.cells; have hfr := box_free (HW.out.upd U5).res; have HO := Lib.hid ho5; clear ho5)
      refine bodyPost_ret (v := .tuple #[kV ⟨k1.set, k1.ps, k1.ps.length, -1⟩ (.slice a5 k1.ps.length c5), .int .i64 y]) (by simp [results, Tryz.results84, go_sem, hRl, q0, q1, q2, q3, q4, q5]) rfl ⟨_, _, by rw [HE.out], ?_, ?_⟩
      · rw [HE.out]
        have hs := HW.out.up.size
        have hs2 := U5.size
        have hs3 := (HW.out.res.cells).1
        refine ownsRow_base (base := w.heap.size + 2) ?_ (by omega)
        repeat (first | (with_reducible refine ownsRow_setne ?_ (by omega) _ _) | (with_reducible refine ownsRow_up ?_ (Up.alloc (Up.refl _) _)))
        with_reducible refine ownsRow_base HO.out ?_
        omega
      · have hUU := HW.out.up
        (repeat (first | with_reducible exact Up.refl _ | with_reducible assumption | with_reducible refine Up.set ?_ (by first | exact Nat.le_refl _ | (simp only []; omega) | (simp; omega)) _ | with_reducible refine Up.alloc ?_ _ | with_reducible refine Up.drew ?_ | refine Up.trans ?_ (by with_reducible assumption)))

set_option maxRecDepth 100000 in
set_option maxHeartbeats 4000000 in
theorem learnKI_any (k : KnD) (v : Value) (lo : Nat) (d : ByteArray) (w : World) (h : k.Ok) (hv : k.last = -1 → k.base = k.ps.length) (hr : RdP lo w v k.ps) (hd : d.size ≤ 1073741824) :
    Calls Tryz.prog 124  #[kV k v, .string d] w (fun e w' => if fitsB k.set d.data.toList then KnPost2 (learnK k d.data.toList) w e w' else Same (.tuple #[noKn, .bool false]) w e w') := by
  have cV := fun wx hr => kvI_any k v lo wx h hv hr
  obtain ⟨-, hlb, -, -⟩ := setOk_bd h.set
  have cF := fun wx => fitsI_any k.set d wx (by omega) hd
  have hrt := fun (wq : World) (hu : Up w wq) => hr.up hu
  have hlen := ba_len d
  cases hf : fitsB k.set d.data.toList
  · rw [hf] at cF
    simp only [Bool.false_eq_true, if_false]
    obtain ⟨a, cap, rfl, -, -, -, -⟩ := hr
    clear h hv hf
    simp only [kV] at *
    go_enter Tryz.func124, Tryz.ntmps124
    go_wp2_with (first | ((go_at_call 150; (with_reducible refine (cV _ (hrt _ (by (repeat (first | with_reducible exact Up.refl _ | with_reducible assumption | with_reducible refine Up.set ?_ (by first | exact Nat.le_refl _ | (simp only []; omega) | (simp; omega)) _ | with_reducible refine Up.alloc ?_ _ | with_reducible refine Up.drew ?_ | refine Up.trans ?_ (by with_reducible assumption)))))).mono ?_); rintro e w1 ⟨rfl, U1⟩; have B1 := bcell U1; have Z1 := U1.size; (try simp at Z1); (try rw [Nat.add_one_le_iff] at Z1)); have Y1 : w.heap.size < w1.heap.size := (by have := U1.size; simp at this; omega)) | ((go_at_call 30; (with_reducible refine (cF _).mono ?_); rintro e w2 ⟨rfl, U2⟩; have B2 := bcell U2; have Z2 := U2.size; (try simp at Z2); (try rw [Nat.add_one_le_iff] at Z2)); obtain ⟨hRl, q0, q1, q2, q3, q4, q5⟩ := KnAt.cells (b := w.heap.size + 1) (k := ⟨⟨0, 0, 0⟩, [], 0, 0⟩) (v := .slice none 0 0) (box_up (U1.trans U2) (alloc2 w _ _)); have hfr := box_free (box_up (U1.trans U2) (alloc2 w _ _))))
    obtain ⟨-, q0, q1, q2, q3, q4, q5⟩ := KnAt.cells (b := w.heap.size + 1) (k := ⟨⟨0, 0, 0⟩, [], 0, 0⟩) (v := .slice none 0 0) (box_up (U1.trans U2) (alloc2 w _ _))
    refine bodyPost_ret (v := .tuple #[noKn, .bool false]) (by simp [results, Tryz.results124, go_sem, q0, q1, q2, q3, q4, q5]) rfl ⟨rfl, ?_⟩
    (repeat (first | with_reducible exact Up.refl _ | with_reducible assumption | with_reducible refine Up.set ?_ (by first | exact Nat.le_refl _ | (simp only []; omega) | (simp; omega)) _ | with_reducible refine Up.alloc ?_ _ | with_reducible refine Up.drew ?_ | refine Up.trans ?_ (by with_reducible assumption)))
  · rw [hf] at cF
    simp only [if_true]
    obtain ⟨-, h2, h3⟩ := fitsB_lits hf
    have cL := fun wx hr => learnI_any k v lo d wx h hr (by omega) h3
    obtain ⟨a, cap, rfl, -, -, -, -⟩ := hr
    clear h hv hf h3
    generalize learnK k d.data.toList = kk at *
    simp only [kV] at *
    go_enter Tryz.func124, Tryz.ntmps124
    go_wp2_with (first | ((go_at_call 150; (with_reducible refine (cV _ (hrt _ (by (repeat (first | with_reducible exact Up.refl _ | with_reducible assumption | with_reducible refine Up.set ?_ (by first | exact Nat.le_refl _ | (simp only []; omega) | (simp; omega)) _ | with_reducible refine Up.alloc ?_ _ | with_reducible refine Up.drew ?_ | refine Up.trans ?_ (by with_reducible assumption)))))).mono ?_); rintro e w1 ⟨rfl, U1⟩; have B1 := bcell U1; have Z1 := U1.size; (try simp at Z1); (try rw [Nat.add_one_le_iff] at Z1)); have Y1 : w.heap.size < w1.heap.size := (by have := U1.size; simp at this; omega)) | (go_at_call 30; (with_reducible refine (cF _).mono ?_); rintro e w2 ⟨rfl, U2⟩; have B2 := bcell U2; have Z2 := U2.size; (try simp at Z2); (try rw [Nat.add_one_le_iff] at Z2)) | (go_at_call 84; (with_reducible refine (cL _ (hrt _ (by (repeat (first | with_reducible exact Up.refl _ | with_reducible assumption | with_reducible refine Up.set ?_ (by first | exact Nat.le_refl _ | (simp only []; omega) | (simp; omega)) _ | with_reducible refine Up.alloc ?_ _ | with_reducible refine Up.drew ?_ | refine Up.trans ?_ (by with_reducible assumption)))))).mono ?_); rintro e w3 ⟨v3, y3, rfl, ho3, U3⟩; obtain ⟨a3, c3, rfl⟩ := ownsRow_shape ho3; have B3 := bcell U3; obtain ⟨hRl, q0, q1, q2, q3, q4, q5⟩ := KnAt.cells (b := w.heap.size + 1) (k := ⟨⟨0, 0, 0⟩, [], 0, 0⟩) (v := .slice none 0 0) (box_up (U1.trans (U2.trans U3)) (alloc2 w _ _)); have hfr := box_free (box_up (U1.trans (U2.trans U3)) (alloc2 w _ _)); have HO := Lib.hid ho3; clear ho3))
    obtain ⟨hRl, q0, q1, q2, q3, q4, q5⟩ := KnAt.cells (b := w.heap.size + 1) (k := ⟨⟨0, 0, 0⟩, [], 0, 0⟩) (v := .slice none 0 0) (box_up (U1.trans (U2.trans U3)) (alloc2 w _ _))
    refine bodyPost_ret (v := .tuple #[kV kk (.slice a3 kk.ps.length c3), .bool true]) (by simp [results, Tryz.results124, go_sem, hRl, q0, q1, q2, q3, q4, q5]) rfl ⟨_, rfl, ?_, ?_⟩
    · have hs := (U1.trans U2).size
      simp at hs
      refine ownsRow_base (base := w.heap.size + 2) ?_ (by omega)
      repeat (first | (with_reducible refine ownsRow_setne ?_ (by omega) _ _) | (with_reducible refine ownsRow_up ?_ (Up.alloc (Up.refl _) _)))
      with_reducible refine ownsRow_base HO.out ?_
      omega
    · (repeat (first | with_reducible exact Up.refl _ | with_reducible assumption | with_reducible refine Up.set ?_ (by first | exact Nat.le_refl _ | (simp only []; omega) | (simp; omega)) _ | with_reducible refine Up.alloc ?_ _ | with_reducible refine Up.drew ?_ | refine Up.trans ?_ (by with_reducible assumption)))

set_option maxRecDepth 100000 in
set_option maxHeartbeats 4000000 in
theorem startWI_any (s : SetD) (d : ByteArray) (w : World) (hl : -9223372036854775808 ≤ s.lit ∧ s.lit ≤ 9223372036854775807) (hd : d.size ≤ 1073741824) :
    Calls Tryz.prog 64  #[setV s, .string d] w (fun e w' => if fitsB s d.data.toList then KnPost2 (learnK (startK s) d.data.toList) w e w' else Same (.tuple #[noKn, .bool false]) w e w') := by
  cases hs : setOk s
  · have hf : fitsB s d.data.toList = false := by unfold fitsB; rw [hs]; rfl
    rw [hf]
    simp only [Bool.false_eq_true, if_false]
    have cS := fun wx => startI_no s wx hl hs
    clear hs hf
    simp only [setV] at *
    go_enter Tryz.func64, Tryz.ntmps64
    go_wp2_with ((go_at_call 83; (with_reducible refine (cS _).mono ?_); rintro e w1 ⟨rfl, U1⟩; have B1 := bcell U1; have Z1 := U1.size; (try simp at Z1); (try rw [Nat.add_one_le_iff] at Z1)); have Y1 : w.heap.size < w1.heap.size := (by have := U1.size; simp at this; omega); obtain ⟨hRl, q0, q1, q2, q3, q4, q5⟩ := KnAt.cells (b := w.heap.size + 1) (k := ⟨⟨0, 0, 0⟩, [], 0, 0⟩) (v := .slice none 0 0) (box_up U1 (alloc2 w _ _)); have hfr := box_free (box_up U1 (alloc2 w _ _)))
    obtain ⟨hRl, q0, q1, q2, q3, q4, q5⟩ := KnAt.cells (b := w.heap.size + 1) (k := ⟨⟨0, 0, 0⟩, [], 0, 0⟩) (v := .slice none 0 0) (box_up U1 (alloc2 w _ _))
    refine bodyPost_ret (v := .tuple #[noKn, .bool false]) (by simp [results, Tryz.results64, go_sem, hRl, q0, q1, q2, q3, q4, q5]) rfl ⟨rfl, ?_⟩
    (repeat (first | with_reducible exact Up.refl _ | with_reducible assumption | with_reducible refine Up.set ?_ (by first | exact Nat.le_refl _ | (simp only []; omega) | (simp; omega)) _ | with_reducible refine Up.alloc ?_ _ | with_reducible refine Up.drew ?_ | refine Up.trans ?_ (by with_reducible assumption)))
  · have cS := fun wx => startI_any s wx hs
    have cL := fun wx hr => learnKI_any (startK s) (.slice none 0 0) wx.heap.size d wx (startK_ok hs) (fun _ => rfl) hr hd
    have hrd : ∀ wx : World, RdP wx.heap.size wx (.slice none 0 0) (startK s).ps := fun wx => ⟨none, 0, rfl, Nat.le_refl _, by unfold maxLen; omega, fun _ => ⟨rfl, rfl⟩, fun h => absurd h (Nat.lt_irrefl _)⟩
    have cL' := fun wx => cL wx (hrd wx)
    have e1 : (startK s).set = s := rfl
    rw [e1] at cL'
    clear cL hrd hs e1
    cases hf : fitsB s d.data.toList
    · rw [hf] at cL'
      simp only [Bool.false_eq_true, if_false] at cL' ⊢
      simp only [setV, kV, startK] at *
      clear hf
      go_enter Tryz.func64, Tryz.ntmps64
      go_wp2_with (first | (go_at_call 83; (with_reducible refine (cS _).mono ?_); rintro e w1 ⟨rfl, U1⟩; have B1 := bcell U1; have Y1 : w.heap.size < w1.heap.size := (by have := U1.size; simp at this; omega); obtain ⟨hRl, q0, q1, q2, q3, q4, q5⟩ := KnAt.cells (b := w.heap.size + 1) (k := ⟨⟨0, 0, 0⟩, [], 0, 0⟩) (v := .slice none 0 0) (box_up U1 (alloc2 w _ _)); have hfr := box_free (box_up U1 (alloc2 w _ _))) | ((go_at_call 124; (with_reducible refine (cL' _).mono ?_); rintro e w2 ⟨rfl, U2⟩; have B2 := bcell U2; have Z2 := U2.size; (try simp at Z2); (try rw [Nat.add_one_le_iff] at Z2)); obtain ⟨hRl, q0, q1, q2, q3, q4, q5⟩ := KnAt.cells (b := w.heap.size + 1) (k := ⟨⟨0, 0, 0⟩, [], 0, 0⟩) (v := .slice none 0 0) (box_up U1 (box_up (Up.refl _) (alloc2 w _ _)) |> fun h => box_up U2 (box_up (Up.alloc (Up.refl _) _) h)); have hfr := box_free (box_up U2 (box_up (Up.alloc (Up.refl _) _) (box_up U1 (alloc2 w _ _))))))
      obtain ⟨hRl, q0, q1, q2, q3, q4, q5⟩ := KnAt.cells (b := w.heap.size + 1) (k := ⟨⟨0, 0, 0⟩, [], 0, 0⟩) (v := .slice none 0 0) (box_up (U1.trans ((Up.alloc (Up.refl _) _).trans U2)) (alloc2 w _ _))
      refine bodyPost_ret (v := .tuple #[noKn, .bool false]) (by simp [results, Tryz.results64, go_sem, hRl, q0, q1, q2, q3, q4, q5]) rfl ⟨rfl, ?_⟩
      (repeat (first | with_reducible exact Up.refl _ | with_reducible assumption | with_reducible refine Up.set ?_ (by first | exact Nat.le_refl _ | (simp only []; omega) | (simp; omega)) _ | with_reducible refine Up.alloc ?_ _ | with_reducible refine Up.drew ?_ | refine Up.trans ?_ (by with_reducible assumption)))
    · rw [hf] at cL'
      simp only [if_true] at cL' ⊢
      clear hf
      have e2 : (startK s).ps = [] := rfl
      generalize learnK (startK s) d.data.toList = kk at *
      simp only [setV, kV, startK] at *
      go_enter Tryz.func64, Tryz.ntmps64
      go_wp2_with (first | (go_at_call 83; (with_reducible refine (cS _).mono ?_); rintro e w1 ⟨rfl, U1⟩; have B1 := bcell U1; have Y1 : w.heap.size < w1.heap.size := (by have := U1.size; simp at this; omega)) | (go_at_call 124; (with_reducible refine (cL' _).mono ?_); rintro e w3 ⟨v3, rfl, ho3, U3⟩; obtain ⟨a3, c3, rfl⟩ := ownsRow_shape ho3; obtain ⟨hRl, q0, q1, q2, q3, q4, q5⟩ := KnAt.cells (b := w.heap.size + 1) (k := ⟨⟨0, 0, 0⟩, [], 0, 0⟩) (v := .slice none 0 0) (box_up (U1.trans ((Up.alloc (Up.refl _) _).trans U3)) (alloc2 w _ _)); have hfr := box_free (box_up (U1.trans ((Up.alloc (Up.refl _) _).trans U3)) (alloc2 w _ _)); have HO := Lib.hid ho3; clear ho3))
      obtain ⟨hRl, q0, q1, q2, q3, q4, q5⟩ := KnAt.cells (b := w.heap.size + 1) (k := ⟨⟨0, 0, 0⟩, [], 0, 0⟩) (v := .slice none 0 0) (box_up (U1.trans ((Up.alloc (Up.refl _) _).trans U3)) (alloc2 w _ _))
      refine bodyPost_ret (v := .tuple #[kV kk (.slice a3 kk.ps.length c3), .bool true]) (by simp [results, Tryz.results64, go_sem, hRl, q0, q1, q2, q3, q4, q5]) rfl ⟨_, rfl, ?_, ?_⟩
      · have hs := U1.size
        simp at hs
        refine ownsRow_base (base := w.heap.size + 2) ?_ (by omega)
        repeat (with_reducible refine ownsRow_setne ?_ (by omega) _ _)
        exact ownsRow_base HO.out (by simp; omega)
      · (repeat (first | with_reducible exact Up.refl _ | with_reducible assumption | with_reducible refine Up.set ?_ (by first | exact Nat.le_refl _ | (simp only []; omega) | (simp; omega)) _ | with_reducible refine Up.alloc ?_ _ | with_reducible refine Up.drew ?_ | refine Up.trans ?_ (by with_reducible assumption)))

end Go.Proofs.YtekbbnkkninolaaGreat

/- Walks of the program's CompressWith, SealStream, makeBlock, BlockOf, and of the reference's SealStream. Conditions: the strings are no longer than 2^30 bytes. -/
namespace Go.Proofs.YtekbbnkkninolaaGreat
set_option linter.unusedVariables false
set_option linter.unusedSimpArgs false
open Go Go.RowKit

/-- The block of data that has been compressed, or not. -/
def mkB (o : Option (List UInt8)) (d : ByteArray) : BlkD := match o with
  | some c => if c.length < d.size then ⟨0, false, d.size, bs c⟩ else ⟨0, true, d.size, d⟩
  | none => ⟨0, true, d.size, d⟩

end Go.Proofs.YtekbbnkkninolaaGreat

/- Walk of the program's makeBlocks. Conditions: what is known is valid and can be read; the data is no longer than 2000 bytes. -/
namespace Go.Proofs.YtekbbnkkninolaaGreat
set_option linter.unusedVariables false
set_option linter.unusedSimpArgs false
open Go Go.RowKit

/-- The blocks of data, all with the number 0. -/
def blksN (k : KnD) (size : Nat) : Nat → List UInt8 → List BlkD
  | 0, _ => []
  | n + 1, d => if d = [] then [] else mkB (compO k (d.take size)) (bs (d.take size)) :: blksN k size n (d.drop size)
abbrev ownB (w : World) (base : Nat) (v : Value) (l : List BlkD) : Prop := w.ownsRow base 61 4 v l.length (cellsB l)
structure MbAt (T : List BlkD) (k : KnD) (v : Value) (size : Nat) (L : List UInt8) (w : World) (f m : Nat) (acc : List BlkD) (vb : Value) (wr : World) : Prop where
  tot : acc ++ blksN k size m (L.drop f) = T
  len : (L.drop f).length ≤ m
  fl : f ≤ 4096
  al : acc.length ≤ f
  kn : KnAt w.heap.size k v wr
  own : ownB wr (w.heap.size + 1) vb acc
  up : Up w wr
end Go.Proofs.YtekbbnkkninolaaGreat

/- strings.Builder: copyCheck and WriteString at a builder that the call has made itself. Conditions: the bytes are fewer than 2^47. -/
namespace Go.Proofs.YtekbbnkkninolaaGreat
set_option linter.unusedVariables false
set_option linter.unusedSimpArgs false
open Go Go.RowKit

abbrev SbAt (B b : Nat) (p : Value) (l : List Value) (w : World) : Prop := Lib.BuilderAt 137 5 B b p l w
abbrev IsSb (B b : Nat) (l : List Value) (w : World) : Prop := Lib.IsBuilder 137 5 B b l w

end Go.Proofs.YtekbbnkkninolaaGreat

/- Walks of the program's makeContainer and MakeContainer. Conditions: as each says. -/
namespace Go.Proofs.YtekbbnkkninolaaGreat
set_option linter.unusedVariables false
set_option linter.unusedSimpArgs false
open Go Go.RowKit

theorem IsSb.up {B b : Nat} {l : List Value} {w w' : World} (h : IsSb B b l w) (hu : Up w w') : IsSb B b l w' := by
  have hs : ∀ p, SbAt B b p l w → SbAt B b p l w' := fun p ⟨h1, v, h2, h3, h4⟩ => ⟨h1, v, box_up hu h2, ownsRow_up h3 hu, h4⟩
  exact h.imp (hs _) (hs _)
theorem IsSb.lt {B b : Nat} {l : List Value} {w : World} (h : IsSb B b l w) : b < w.heap.size := h.elim (fun h => h.lt) (fun h => h.lt)
/-- The bytes of blocks with new numbers. -/
def numbT (i : Nat) : List BlkD → List UInt8
  | [] => []
  | b :: l => (textB i b.raw b.size b.body).data.toList ++ numbT (i + 1) l
/-- Blocks that may stand in a container. -/
structure McOk (l : List BlkD) : Prop where
  acc : accOk l
  sum : sizeSum l ≤ 2000
  form : ∀ (i : Nat) (h : i < l.length), formB (i : Nat) (l[i]).raw (l[i]).size (l[i]).body = true
/-- A row of blocks that can be read. -/
def RdB (w : World) (v : Value) (l : List BlkD) : Prop := ∃ a cap, v = .slice a l.length cap ∧ l.length ≤ cap ∧ cap ≤ maxLen ∧ (0 < l.length → ∃ g, a = some ⟨g, 0, none⟩ ∧ g < w.heap.size ∧ ∀ i (h : i < l.length), w.cell? ⟨g, i * 4, none⟩ = some (.int .i64 (l[i]).num) ∧ w.cell? ⟨g, i * 4 + 1, none⟩ = some (.bool (l[i]).raw) ∧ w.cell? ⟨g, i * 4 + 2, none⟩ = some (.int .i64 (l[i]).size) ∧ w.cell? ⟨g, i * 4 + 3, none⟩ = some (.string (l[i]).body))
theorem RdB.low {w w' : World} {v : Value} {l : List BlkD} (h : RdB w v l) (hb : Below w.heap.size w w') : RdB w' v l := by
  obtain ⟨a, cap, h1, h2, h3, h4⟩ := h
  refine ⟨a, cap, h1, h2, h3, fun hp => ?_⟩
  obtain ⟨g, e1, e2, e3⟩ := h4 hp
  refine ⟨g, e1, Nat.lt_of_lt_of_le e2 hb.size, fun i hi => ?_⟩
  obtain ⟨c0, c1, c2, c3⟩ := e3 i hi
  exact ⟨(hb.cell (p := ⟨g, _, none⟩) e2).trans c0, (hb.cell (p := ⟨g, _, none⟩) e2).trans c1, (hb.cell (p := ⟨g, _, none⟩) e2).trans c2, (hb.cell (p := ⟨g, _, none⟩) e2).trans c3⟩
theorem RdB.of_own {w : World} {base : Nat} {v : Value} {l : List BlkD} (h : ownB w base v l) : RdB w v l := by
  obtain ⟨a, cap, rfl, hm, hsome⟩ := ownsRow_any h
  by_cases hp : 0 < l.length
  · obtain ⟨g, rfl, hnc, hcm, hbg, hg, hcells⟩ := hsome hp
    refine ⟨_, cap, rfl, hnc, hcm, fun _ => ⟨g, rfl, hg, fun i hi => ?_⟩⟩
    exact blk_cells (w := w) hcells hi
  · have hcp := ownsRow_cap h
    exact ⟨_, cap, rfl, hcp.1, by unfold maxLen; exact hcp.2, fun h => absurd h hp⟩

structure McAt (T : List UInt8) (l : List BlkD) (w1 : World) (j : Nat) (acc : List UInt8) (wr : World) : Prop where
  le : j ≤ l.length
  tot : acc ++ numbT j (l.drop j) = T
  al : acc.length ≤ 74 * j
  sb : IsSb w1.heap.size w1.heap.size (Lib.byteCells acc) wr
  up : Up w1 wr
end Go.Proofs.YtekbbnkkninolaaGreat

/- Walks of the reference's l5All, ContainerData and ReadRange. Conditions: the strings are no longer than 2^30 bytes. -/
namespace Go.Proofs.YtekbbnkkninolaaGreat
set_option linter.unusedVariables false
set_option linter.unusedSimpArgs false
open Go Go.RowKit

/-- The data of blocks, one behind the other. -/
def allF (f : BlkD → Option (List UInt8)) : List BlkD → Option (List UInt8)
  | [] => some []
  | b :: l => match f b with
    | none => none
    | some x => (allF f l).map (x ++ ·)
def addO (acc : List UInt8) (o : Option (List UInt8)) : Option (List UInt8) := o.map (acc ++ ·)
theorem dataO_bd {s : SetD} {dict : List UInt8} {b : BlkD} {x : List UInt8} (h : dataO s dict b = some x) (h1 : b.size ≤ 64) (h2 : b.body.size ≤ 64) : x.length ≤ 64 := by
  unfold dataO at h
  split at h
  · cases h
    have := ba_len b.body; omega
  · split at h
    · next h3 =>
      cases h
      have := h3.2.2; omega
    · cases h
theorem addO_nil (o : Option (List UInt8)) : addO [] o = o := by cases o <;> simp [addO]
structure DaAt (T : Option (List UInt8)) (s : SetD) (dict : List UInt8) (l : List BlkD) (w : World) (j : Nat) (acc : List UInt8) (wr : World) : Prop where
  le : j ≤ l.length
  tot : addO acc (allF (dataO s dict) (l.drop j)) = T
  al : acc.length ≤ 64 * j
  set : SetAt w.heap.size s.ord s.lit s.most wr
  up : Up w wr
end Go.Proofs.YtekbbnkkninolaaGreat

/- Plain: a block is parsed from its bytes, whatever is before and behind them, and not without the last one. Conditions: the block's parts fit together. -/
namespace Go.Proofs.YtekbbnkkninolaaGreat
set_option linter.unusedVariables false
set_option linter.unusedSimpArgs false
open Go.RowKit

/-- What the bytes of a block are. -/
structure TextOf (n : Int) (r : Bool) (s : Int) (b T : ByteArray) : Prop where
  size : T.size = b.size + 10
  b0 : byteAt T 0 = 181
  b1 : byteAt T 1 = kindB r
  n2 : numAt T 2 = n
  n4 : numAt T 4 = s
  n6 : numAt T 6 = b.size
  body : T.extract 8 (8 + b.size) = b
  inn : T.extract 1 (8 + b.size) = inner n r s b
  sum : numAt T (8 + b.size) = sumOf (inner n r s b)
end Go.Proofs.YtekbbnkkninolaaGreat

/- Walks of SeekBlock, the program's and the reference's. Conditions: the places can be read. -/
namespace Go.Proofs.YtekbbnkkninolaaGreat
set_option linter.unusedVariables false
set_option linter.unusedSimpArgs false
open Go.RowKit

def seekV (ps : List PlaceD) (o : Int) : Int := if validP ps then seekK ps o ps.length else -1

set_option maxRecDepth 100000 in
set_option maxHeartbeats 1000000 in
theorem seekI_any (ps : List PlaceD) (v : Value) (base : Nat) (o : Int) (w : World) (hown : w.ownsRow base 76 2 v ps.length (cellsP ps)) (hl : ps.length ≤ 1048576) :
    Calls Tryz.prog 72 #[v, .int .i64 o] w (Same (.int .i64 (seekV ps o)) w) := by
  obtain ⟨a, ca, rfl, hm, -⟩ := ownsRow_any hown
  cases hv : validP ps
  · have e : Hid (seekV ps o = -1) := by unfold Hid seekV; rw [hv]; rfl
    have cV := fun w h => validI_any ps (.slice a ps.length ca) base w h hl
    rw [hv] at cV
    rw [e.out]
    clear hv
    go_enter Tryz.func72, Tryz.ntmps72
    go_wp2_with fail
    (with_reducible refine (cV _ hown).mono ?_); rintro e w1 ⟨rfl, U1⟩
    go_wp2
    go_ret
    exact ⟨rfl, U1⟩
  · have e : Hid (seekV ps o = seekK ps o ps.length) := by unfold Hid seekV; rw [hv]; rfl
    have cV := fun w h => validI_any ps (.slice a ps.length ca) base w h hl
    rw [hv] at cV
    rw [e.out]
    clear hv
    go_enter Tryz.func72, Tryz.ntmps72
    go_wp2_with fail
    (with_reducible refine (cV _ hown).mono ?_); rintro e w1 ⟨rfl, U1⟩
    go_wp2
    go_loopw [5, 13] (fun f i wr => RelK ps o w1 f i wr) (fun _ i _ => ps.length - (intOf i).toNat)
    case atStart => exact ⟨0, Nat.zero_le _, rfl, rfl, Up.refl _⟩
    case round =>
      obtain ⟨k, hk, rfl, rfl, hup⟩ := hrel
      by_cases hlt : k < ps.length
      · obtain ⟨g, rfl, hc1, hc2, -, hg⟩ := ownsRow_slot hown (by omega)
        obtain ⟨c0, c1⟩ := plc_cells' (read_cells (ownsRow_up (ownsRow_up hown U1) hup)) hlt
        by_cases hp : ps[k].start ≤ o
        · have HS := Lib.hid (seekK_hit hlt hp)
          go_wp2
          go_roundw
          case rel => exact ⟨k + 1, by omega, by go_num, by rw [HS.out], hup.alloc _⟩
          case measure => simp [intOf]; omega
        · have HS := Lib.hid (seekK_miss hlt hp)
          go_wp2
          go_roundw
          case rel => exact ⟨k + 1, by omega, by go_num, by rw [HS.out], hup.alloc _⟩
          case measure => simp [intOf]; omega
      · have e : k = ps.length := by omega
        subst e
        go_wp2
        go_ret
        exact ⟨rfl, U1.trans hup⟩

end Go.Proofs.YtekbbnkkninolaaGreat

/- Plain: what is read of a container with places. Conditions: as each says. -/
namespace Go.Proofs.YtekbbnkkninolaaGreat
set_option linter.unusedVariables false
set_option linter.unusedSimpArgs false
open Go Go.RowKit

/-- The block to which a place leads, if it is the one asked for. -/
def blkIdx (st : ByteArray) (ps : List PlaceD) (k : Nat) (at' : Int) : Option BlkD := match ps[k]? with
  | none => none
  | some p => if p.start = at' ∧ 0 ≤ p.place ∧ parseOk st p.place.toNat = true ∧ numAt st (p.place.toNat + 2) = k then some (blkAt st p.place.toNat) else none
/-- The data of blocks from place k on till an offset is reached. -/
def needN (f : BlkD → Option (List UInt8)) (st : ByteArray) (ps : List PlaceD) (to : Int) : Nat → Nat → Int → Option (List UInt8)
  | 0, _, at' => if at' < to then none else some []
  | n + 1, k, at' => if at' < to then (blkIdx st ps k at').bind fun b => (f b).bind fun x => (needN f st ps to n (k + 1) (at' + x.length)).map (x ++ ·) else some []
section
variable {f : BlkD → Option (List UInt8)} {st : ByteArray} {ps : List PlaceD} {to : Int} {n k : Nat} {at' : Int}
theorem need_end (h : ¬ at' < to) : needN f st ps to n k at' = some [] := by
  cases n with
  | zero => rw [needN, if_neg h]
  | succ n => rw [needN, if_neg h]
theorem need_out (h : at' < to) (hk : ps.length ≤ k) : needN f st ps to n k at' = none := by
  cases n with
  | zero => rw [needN, if_pos h]
  | succ n => rw [needN, if_pos h, blkIdx, List.getElem?_eq_none hk]; rfl
theorem blkIdx_not {p : PlaceD} (hp : ps[k]? = some p) (h : ¬ (p.start = at' ∧ 0 ≤ p.place ∧ parseOk st p.place.toNat = true ∧ numAt st (p.place.toNat + 2) = k)) : blkIdx st ps k at' = none := by
  unfold blkIdx; rw [hp]; simp only; rw [if_neg h]
theorem blkIdx_yes {p : PlaceD} (hp : ps[k]? = some p) (h : p.start = at' ∧ 0 ≤ p.place ∧ parseOk st p.place.toNat = true ∧ numAt st (p.place.toNat + 2) = k) : blkIdx st ps k at' = some (blkAt st p.place.toNat) := by
  unfold blkIdx; rw [hp]; simp only; rw [if_pos h]
theorem need_none (h : at' < to) (hk : k < ps.length) (hb : blkIdx st ps k at' = none) : needN f st ps to n k at' = none := by
  cases n with
  | zero => rw [needN, if_pos h]
  | succ n => rw [needN, if_pos h, hb]; rfl
theorem need_bad (h : at' < to) {b : BlkD} (hb : blkIdx st ps k at' = some b) (hf : f b = none) : needN f st ps to n k at' = none := by
  cases n with
  | zero => rw [needN, if_pos h]
  | succ n => rw [needN, if_pos h, hb, Option.bind_some, hf]; rfl
theorem need_step (h : at' < to) {b : BlkD} (hb : blkIdx st ps k at' = some b) {x : List UInt8} (hf : f b = some x) : needN f st ps to (n + 1) k at' = (needN f st ps to n (k + 1) (at' + x.length)).map (x ++ ·) := by
  rw [needN, if_pos h, hb, Option.bind_some, hf, Option.bind_some]
theorem need_addO (acc : List UInt8) (h : at' < to) {b : BlkD} (hb : blkIdx st ps k at' = some b) {x : List UInt8} (hf : f b = some x) : addO acc (needN f st ps to (n + 1) k at') = addO (acc ++ x) (needN f st ps to n (k + 1) (at' + x.length)) := by
  rw [need_step h hb hf]
  unfold addO
  cases needN f st ps to n (k + 1) (at' + x.length) <;> simp
end
theorem need_ge {f : BlkD → Option (List UInt8)} {st : ByteArray} {ps : List PlaceD} {to : Int} : ∀ (n k : Nat) (at' : Int) (d : List UInt8), needN f st ps to n k at' = some d → to ≤ at' + d.length
  | 0, k, at', d, h => by
    rw [needN] at h
    split at h
    · cases h
    · cases h; simp; omega
  | n + 1, k, at', d, h => by
    rw [needN] at h
    split at h
    · cases hb : blkIdx st ps k at' with
      | none => rw [hb] at h; cases h
      | some b =>
        rw [hb, Option.bind_some] at h
        cases hf : f b with
        | none => rw [hf] at h; cases h
        | some x =>
          rw [hf, Option.bind_some] at h
          cases hr : needN f st ps to n (k + 1) (at' + x.length) with
          | none => rw [hr] at h; cases h
          | some y =>
            rw [hr] at h; cases h
            have := need_ge n (k + 1) _ y hr
            rw [List.length_append]; omega
    · cases h; simp; omega

theorem seekK_lt {ps : List PlaceD} {o : Int} : ∀ (n : Nat), n ≤ ps.length → seekK ps o n = -1 ∨ ∃ (j : Nat) (h : j < ps.length), j < n ∧ seekK ps o n = j ∧ (ps[j]).start ≤ o
  | 0, _ => .inl rfl
  | n + 1, hn => by
    by_cases hp : (ps[n]'(by omega)).start ≤ o
    · exact .inr ⟨n, by omega, by omega, seekK_hit (by omega) hp, hp⟩
    · rw [seekK_miss (by omega) hp]
      rcases seekK_lt (ps := ps) (o := o) n (by omega) with h | ⟨j, h1, h2, h3, h4⟩
      · exact .inl h
      · exact .inr ⟨j, h1, by omega, h3, h4⟩
theorem validP_at {ps : List PlaceD} (h : validP ps = true) : ps.length ≤ 40 ∧ ∀ j (hj : j < ps.length), 0 ≤ (ps[j]).place ∧ (ps[j]).place ≤ 4000 ∧ 0 ≤ (ps[j]).start ∧ (ps[j]).start ≤ 2000 := by
  unfold validP at h
  rw [Bool.and_eq_true, decide_eq_true_eq, List.all_eq_true] at h
  refine ⟨h.1, fun j hj => ?_⟩
  have := h.2 j (List.mem_range.2 hj)
  unfold plcB at this
  rw [List.getElem?_eq_getElem hj] at this
  simp only [Bool.and_eq_true, decide_eq_true_eq] at this
  exact this.1
/-- What ReadIndexed reads behind its checks. -/
def fromN (f : BlkD → Option (List UInt8)) (st : ByteArray) (ps : List PlaceD) (a b : Int) (k : Nat) (z : Int) : Option (List UInt8) :=
  (needN f st ps b (ps.length - k) k z).map fun d => (d.drop (a - z).toNat).take ((b - z).toNat - (a - z).toNat)
def idxR (f : BlkD → Option (List UInt8)) (st : ByteArray) (ps : List PlaceD) (a b : Int) : Option (List UInt8) :=
  if a = b then some [] else if seekK ps a ps.length < 0 then none else fromN f st ps a b (seekK ps a ps.length).toNat ((ps.getD (seekK ps a ps.length).toNat ⟨0, 0⟩).start)
def idxOk (fit : Bool) (st : ByteArray) (ps : List PlaceD) (a b : Int) : Bool := fit && (validP ps && (decide (st.size ≤ 4000) && (inB a 0 b && inB b 0 2000)))
def idxO (f : BlkD → Option (List UInt8)) (fit : Bool) (st : ByteArray) (ps : List PlaceD) (a b : Int) : Option (List UInt8) := if idxOk fit st ps a b then idxR f st ps a b else none

end Go.Proofs.YtekbbnkkninolaaGreat

/- Walks of the reference's l5Needed and ReadIndexed. Conditions: the places can be read; the strings are no longer than 2^30 bytes. -/
namespace Go.Proofs.YtekbbnkkninolaaGreat
set_option linter.unusedVariables false
set_option linter.unusedSimpArgs false
open Go Go.RowKit

structure NdAt (T : Option (List UInt8)) (s : SetD) (dict : List UInt8) (st : ByteArray) (ps : List PlaceD) (to : Int) (w : World) (k m : Nat) (acc : List UInt8) (z : Int) (wr : World) : Prop where
  fu : k + m = ps.length
  tot : addO acc (needN (dataO s dict) st ps to m k z) = T
  z0 : 0 ≤ z
  z1 : z ≤ 2000 + 64 * k
  al : acc.length ≤ 64 * k
  set : SetAt w.heap.size s.ord s.lit s.most wr
  up : Up w wr
def RelNd (T : Option (List UInt8)) (s : SetD) (dict : List UInt8) (st : ByteArray) (ps : List PlaceD) (to : Int) (w : World) (i o z : Value) (wr : World) : Prop := ∃ (k m : Nat) (acc : List UInt8) (zz : Int), i = .int .i64 k ∧ o = .string (bs acc) ∧ z = .int .i64 zz ∧ NdAt T s dict st ps to w k m acc zz wr
theorem parse_bd {st : ByteArray} {p : Nat} (h : parseOk st p = true) : 1 ≤ (blkAt st p).size ∧ (blkAt st p).size ≤ 64 ∧ (blkAt st p).body.size ≤ 64 := by
  obtain ⟨-, h2, h3⟩ := formB_bd (parseOk_form h).2.2
  exact ⟨h2.1, h2.2, h3⟩

set_option maxRecDepth 100000 in
set_option maxHeartbeats 8000000 in
theorem needS_any (s : SetD) (dict st : ByteArray) (ps : List PlaceD) (v : Value) (base k0 : Nat) (to : Int) (w : World) (hi : dict.size ≤ 1073741824) (hs : st.size ≤ 1073741824) (hown : w.ownsRow base 76 2 v ps.length (cellsP ps)) (hl : ps.length ≤ 40) (hk0 : k0 < ps.length)
    (hpl : ∀ j (hj : j < ps.length), 0 ≤ (ps[j]).place ∧ (ps[j]).place ≤ 4000 ∧ 0 ≤ (ps[j]).start ∧ (ps[j]).start ≤ 2000) :
    Calls Tryz.prog 69  #[setV s, .string dict, .string st, v, .int .i64 k0, .int .i64 to] w (Same (optS (needN (dataO s dict.data.toList) st ps to (ps.length - k0) k0 (ps[k0]).start)) w) := by
  have cD := fun b wx hb => l5Data_any s dict b wx hi hb
  obtain ⟨a, ca, rfl, hm, hsome⟩ := ownsRow_any hown
  obtain ⟨g, rfl, hnc, hcm, -, hg, hcells⟩ := hsome (by omega)
  have HC : Hid (∀ j (hj : j < ps.length), w.cell? ⟨g, j * 2, none⟩ = some (.int .i64 (ps[j]).place) ∧ w.cell? ⟨g, j * 2 + 1, none⟩ = some (.int .i64 (ps[j]).start)) := fun j hj => plc_cells hcells (List.getElem?_eq_getElem hj)
  have HPL := Lib.hid hpl
  obtain ⟨T, HT⟩ : ∃ T, Hid (needN (dataO s dict.data.toList) st ps to (ps.length - k0) k0 (ps[k0]).start = T) := ⟨_, Lib.hid rfl⟩
  rw [HT.out]
  obtain ⟨k1, k2⟩ := HC.out k0 hk0
  obtain ⟨p1, p2, p3, p4⟩ := HPL.out k0 hk0
  unfold maxLen at hcm
  clear hcells hsome hown hpl hm
  generalize hz0 : (ps[k0]).start = z0 at *
  have HZ0 := Lib.hid hz0
  clear hz0
  simp only [setV] at *
  go_enter Tryz.func69, Tryz.ntmps69
  go_wp2
  go_loopw [4, 14, 15] (fun i o z wr => RelNd T s dict.data.toList st ps to w i o z wr) (fun i _ _ _ => ps.length - (intOf i).toNat)
  case atStart => exact ⟨k0, ps.length - k0, [], z0, rfl, rfl, rfl, ⟨by omega, by rw [addO_nil]; exact HT.out, p3, by omega, by simp, (MapKept.heap_alloc w _).1, by (repeat (first | with_reducible exact Up.refl _ | with_reducible assumption | with_reducible refine Up.set ?_ (by first | exact Nat.le_refl _ | (simp only []; omega) | (simp; omega)) _ | with_reducible refine Up.alloc ?_ _ | with_reducible refine Up.drew ?_ | refine Up.trans ?_ (by with_reducible assumption)))⟩⟩
  case round =>
    obtain ⟨k, m, acc, z, rfl, rfl, rfl, hM⟩ := hrel
    have HM := Lib.hid hM
    have hfu := hM.fu
    have hz1 := hM.z0
    have hz2 := hM.z1
    have hal := hM.al
    have hza := bs_size acc
    obtain ⟨hb0, s0, s1, s2⟩ := hM.set.cells
    have hup := hM.up
    clear hM k1 k2 p1 p2 p3 p4
    by_cases hlt : z < to
    · by_cases hkl : k < ps.length
      · obtain ⟨x0, x1⟩ := HC.out k hkl
        have c0 := (hup.cell (p := ⟨g, k * 2, none⟩) hg).trans x0
        have c1 := (hup.cell (p := ⟨g, k * 2 + 1, none⟩) hg).trans x1
        have hgr := Nat.lt_of_lt_of_le hg hup.size
        obtain ⟨p1, p2, p3, p4⟩ := HPL.out k hkl
        have hpk : ps[k]? = some ps[k] := List.getElem?_eq_getElem hkl
        have HNO : Hid (blkIdx st ps k z = none → T = none) := fun h => HM.out.tot.symm.trans (by rw [need_none hlt hkl h]; rfl)
        clear x0 x1 hup
        by_cases hst : (ps[k]).start = z
        · have hpn : (((ps[k]).place.toNat : Nat) : Int) = (ps[k]).place := by omega
          have cP := fun wx => parseS_any st ((ps[k]).place.toNat : Nat) wx hs
          rw [hpn] at cP
          cases hp : parseOk st (ps[k]).place.toNat
          · have HTN : Hid (T = none) := HNO.out (blkIdx_not hpk (fun h => by rw [hp] at h; exact absurd h.2.2.1 (by decide)))
            have e := parseV_not hp
            rw [hpn] at e
            rw [e] at cP
            unfold noBlock at cP
            clear hp e hpk HNO
            generalize (ps[k]).place = P at *
            generalize (ps[k]).start = Z at *
            go_wp2_with (((go_at_call 122; (with_reducible refine (cP _).mono ?_); rintro e w1 ⟨rfl, U1⟩; have B1 := bcell U1; have Z1 := U1.size; (try simp at Z1); (try rw [Nat.add_one_le_iff] at Z1)); (try have Y1a : w.heap.size < w1.heap.size := (by omega)); (try have Y1b : w.heap.size + 1 < w1.heap.size := (by omega)); (try have Y1c : w.heap.size + 1 + 1 < w1.heap.size := (by omega)); (try have Y1d : w.heap.size + 1 + 1 + 1 < w1.heap.size := (by omega)); skip))
            go_ret2
            refine ⟨by rw [HTN.out]; rfl, ?_⟩
            exact HM.out.up.trans (by (repeat (first | with_reducible exact Up.refl _ | with_reducible assumption | with_reducible refine Up.set ?_ (by first | exact Nat.le_refl _ | (simp only []; omega) | (simp; omega)) _ | with_reducible refine Up.alloc ?_ _ | with_reducible refine Up.drew ?_ | refine Up.trans ?_ (by with_reducible assumption))))
          · have hb := parse_bd hp
            have e := parseV_yes hp
            rw [hpn, parsed_blk] at e
            rw [e] at cP
            have hbi := fun (hn : numAt st ((ps[k]).place.toNat + 2) = k) => blkIdx_yes (st := st) (at' := z) hpk ⟨hst, p1, hp, hn⟩
            have hbn := fun (hn : numAt st ((ps[k]).place.toNat + 2) ≠ k) => HNO.out (blkIdx_not (at' := z) hpk (fun h => hn h.2.2.2))
            have hnum : (blkAt st (ps[k]).place.toNat).num = numAt st ((ps[k]).place.toNat + 2) := rfl
            clear hp e hpk HNO hpn
            rw [← hnum] at hbi hbn
            generalize endAt st (ps[k]).place.toNat + 2 = en at *
            generalize blkAt st (ps[k]).place.toNat = b at *
            generalize (ps[k]).place = P at *
            generalize (ps[k]).start = Z at *
            subst hst
            clear hnum
            by_cases hn : b.num = k
            · have hbi2 := hbi hn
              have cD2 := fun wx => cD b wx (by omega)
              obtain ⟨m, rfl⟩ : ∃ q, m = q + 1 := ⟨m - 1, by omega⟩
              cases hdo : dataO s dict.data.toList b with
              | none =>
                have HTN : Hid (T = none) := HM.out.tot.symm.trans (by rw [need_bad hlt hbi2 hdo]; rfl)
                rw [hdo] at cD2
                clear hdo hbi hbn hbi2 cD
                obtain ⟨bn, br, bz, bb⟩ := b
                simp only at hn
                subst hn
                unfold optS at cD2
                simp only [blkV, Option.getD_none, Option.isSome_none] at cD2 cP
                go_wp2_with (first | ((go_at_call 122; (with_reducible refine (cP _).mono ?_); rintro e w1 ⟨rfl, U1⟩; have B1 := bcell U1; have Z1 := U1.size; (try simp at Z1); (try rw [Nat.add_one_le_iff] at Z1)); (try have Y1a : w.heap.size < w1.heap.size := (by omega)); (try have Y1b : w.heap.size + 1 < w1.heap.size := (by omega)); (try have Y1c : w.heap.size + 1 + 1 < w1.heap.size := (by omega)); (try have Y1d : w.heap.size + 1 + 1 + 1 < w1.heap.size := (by omega)); skip) | ((go_at_call 123; (with_reducible refine (cD2 _).mono ?_); rintro e w2 ⟨rfl, U2⟩; have B2 := bcell U2; have Z2 := U2.size; (try simp at Z2); (try rw [Nat.add_one_le_iff] at Z2)); (try have Y2a : w.heap.size < w2.heap.size := (by omega)); (try have Y2b : w.heap.size + 1 < w2.heap.size := (by omega)); (try have Y2c : w.heap.size + 1 + 1 < w2.heap.size := (by omega)); (try have Y2d : w.heap.size + 1 + 1 + 1 < w2.heap.size := (by omega)); skip))
                go_ret2
                refine ⟨by rw [HTN.out]; rfl, ?_⟩
                exact HM.out.up.trans (by (repeat (first | with_reducible exact Up.refl _ | with_reducible assumption | with_reducible refine Up.set ?_ (by first | exact Nat.le_refl _ | (simp only []; omega) | (simp; omega)) _ | with_reducible refine Up.alloc ?_ _ | with_reducible refine Up.drew ?_ | refine Up.trans ?_ (by with_reducible assumption))))
              | some x =>
                have hxl := dataO_bd hdo hb.2.1 hb.2.2
                have hzx := bs_size x
                have HTN : Hid (addO (acc ++ x) (needN (dataO s dict.data.toList) st ps to m (k + 1) (Z + x.length)) = T) := (need_addO acc hlt hbi2 hdo).symm.trans HM.out.tot
                rw [hdo] at cD2
                clear hdo hbi hbn hbi2 cD
                obtain ⟨bn, br, bz, bb⟩ := b
                simp only at hn
                subst hn
                unfold optS at cD2
                simp only [blkV, Option.getD_some, Option.isSome_some] at cD2 cP
                go_wp2_with (first | ((go_at_call 122; (with_reducible refine (cP _).mono ?_); rintro e w1 ⟨rfl, U1⟩; have B1 := bcell U1; have Z1 := U1.size; (try simp at Z1); (try rw [Nat.add_one_le_iff] at Z1)); (try have Y1a : w.heap.size < w1.heap.size := (by omega)); (try have Y1b : w.heap.size + 1 < w1.heap.size := (by omega)); (try have Y1c : w.heap.size + 1 + 1 < w1.heap.size := (by omega)); (try have Y1d : w.heap.size + 1 + 1 + 1 < w1.heap.size := (by omega)); skip) | ((go_at_call 123; (with_reducible refine (cD2 _).mono ?_); rintro e w2 ⟨rfl, U2⟩; have B2 := bcell U2; have Z2 := U2.size; (try simp at Z2); (try rw [Nat.add_one_le_iff] at Z2)); (try have Y2a : w.heap.size < w2.heap.size := (by omega)); (try have Y2b : w.heap.size + 1 < w2.heap.size := (by omega)); (try have Y2c : w.heap.size + 1 + 1 < w2.heap.size := (by omega)); (try have Y2d : w.heap.size + 1 + 1 + 1 < w2.heap.size := (by omega)); skip))
                go_roundw
                case rel => exact ⟨k + 1, m, acc ++ x, Z + x.length, by go_num, congrArg Value.string (bs_app _ _), by (first | rfl | go_num | (rw [hzx])), ⟨by omega, HTN.out, by omega, by omega, by rw [List.length_append]; omega, box_up (by (repeat (first | with_reducible exact Up.refl _ | with_reducible assumption | with_reducible refine Up.set ?_ (by first | exact Nat.le_refl _ | (simp only []; omega) | (simp; omega)) _ | with_reducible refine Up.alloc ?_ _ | with_reducible refine Up.drew ?_ | refine Up.trans ?_ (by with_reducible assumption)))) HM.out.set, HM.out.up.trans (by (repeat (first | with_reducible exact Up.refl _ | with_reducible assumption | with_reducible refine Up.set ?_ (by first | exact Nat.le_refl _ | (simp only []; omega) | (simp; omega)) _ | with_reducible refine Up.alloc ?_ _ | with_reducible refine Up.drew ?_ | refine Up.trans ?_ (by with_reducible assumption))))⟩⟩
                case measure => simp [intOf]; omega
            · have HTN : Hid (T = none) := hbn hn
              clear hbi hbn cD
              obtain ⟨bn, br, bz, bb⟩ := b
              simp only at hn
              simp only [blkV] at cP
              go_wp2_with (((go_at_call 122; (with_reducible refine (cP _).mono ?_); rintro e w1 ⟨rfl, U1⟩; have B1 := bcell U1; have Z1 := U1.size; (try simp at Z1); (try rw [Nat.add_one_le_iff] at Z1)); (try have Y1a : w.heap.size < w1.heap.size := (by omega)); (try have Y1b : w.heap.size + 1 < w1.heap.size := (by omega)); (try have Y1c : w.heap.size + 1 + 1 < w1.heap.size := (by omega)); (try have Y1d : w.heap.size + 1 + 1 + 1 < w1.heap.size := (by omega)); skip))
              go_ret2
              refine ⟨by rw [HTN.out]; rfl, ?_⟩
              exact HM.out.up.trans (by (repeat (first | with_reducible exact Up.refl _ | with_reducible assumption | with_reducible refine Up.set ?_ (by first | exact Nat.le_refl _ | (simp only []; omega) | (simp; omega)) _ | with_reducible refine Up.alloc ?_ _ | with_reducible refine Up.drew ?_ | refine Up.trans ?_ (by with_reducible assumption))))
        · have HTN : Hid (T = none) := HNO.out (blkIdx_not hpk (fun h => hst h.1))
          clear hpk HNO
          generalize (ps[k]).place = P at *
          generalize (ps[k]).start = Z at *
          have hne : (Z == z) = false := by simpa using hst
          have hne2 : (Z != z) = true := by simpa using hst
          have hd2 : decide (ps.length ≤ k) = false := by simpa using hkl
          clear hst
          go_wp2
          go_ret2
          refine ⟨by rw [HTN.out]; rfl, ?_⟩
          exact HM.out.up.trans (by (repeat (first | with_reducible exact Up.refl _ | with_reducible assumption | with_reducible refine Up.set ?_ (by first | exact Nat.le_refl _ | (simp only []; omega) | (simp; omega)) _ | with_reducible refine Up.alloc ?_ _ | with_reducible refine Up.drew ?_ | refine Up.trans ?_ (by with_reducible assumption))))
      · have HTN : Hid (T = none) := HM.out.tot.symm.trans (by rw [need_out hlt (by omega)]; rfl)
        have e : k = ps.length := by omega
        go_wp2
        go_ret2
        refine ⟨by rw [HTN.out]; rfl, ?_⟩
        exact HM.out.up.trans (by (repeat (first | with_reducible exact Up.refl _ | with_reducible assumption | with_reducible refine Up.set ?_ (by first | exact Nat.le_refl _ | (simp only []; omega) | (simp; omega)) _ | with_reducible refine Up.alloc ?_ _ | with_reducible refine Up.drew ?_ | refine Up.trans ?_ (by with_reducible assumption))))
    · have HTN : Hid (T = some acc) := HM.out.tot.symm.trans (by rw [need_end hlt]; simp [addO])
      go_wp2
      go_ret2
      exact ⟨by rw [HTN.out]; rfl, HM.out.up⟩

set_option maxRecDepth 100000 in
set_option maxHeartbeats 8000000 in
theorem idxS_any (s : SetD) (dict st : ByteArray) (ps : List PlaceD) (v : Value) (base : Nat) (f t : Int) (w : World) (hi : dict.size ≤ 1073741824) (hs : st.size ≤ 1073741824) (hown : w.ownsRow base 76 2 v ps.length (cellsP ps)) (hl : ps.length ≤ 1048576) :
    Calls Tryz.prog 23  #[setV s, .string dict, .string st, v, .int .i64 f, .int .i64 t] w (Same (optS (idxO (dataO s dict.data.toList) (fitsB s dict.data.toList) st ps f t)) w) := by
  have cR := fun wx => l5Ready_any s dict wx hi
  have cV := fun wx h => validS_any ps v base wx h hl
  have cI1 := fun wx => l1In_any f 0 t wx
  have cI2 := fun wx => l1In_any t 0 2000 wx
  have hrow := fun (wq : World) (hu : Up w wq) => ownsRow_up hown hu
  have cK := fun wx h => l5Seek_any ps v base f wx h hl
  have HOWN := Lib.hid hown
  obtain ⟨a, ca, rfl, hm, hsome⟩ := ownsRow_any hown
  clear hown
  cases h1 : fitsB s dict.data.toList
  · have HN : Hid (idxO (dataO s dict.data.toList) false st ps f t = none) := rfl
    rw [h1] at cR
    rw [HN.out]
    clear h1 hsome
    simp only [setV] at *
    go_enter Tryz.func23, Tryz.ntmps23
    go_wp2_with (((go_at_call 62; (with_reducible refine (cR _).mono ?_); rintro e w1 ⟨rfl, U1⟩; have B1 := bcell U1; have Z1 := U1.size; (try simp at Z1); (try rw [Nat.add_one_le_iff] at Z1)); (try have Y1a : w.heap.size < w1.heap.size := (by omega)); (try have Y1b : w.heap.size + 1 < w1.heap.size := (by omega)); (try have Y1c : w.heap.size + 1 + 1 < w1.heap.size := (by omega)); (try have Y1d : w.heap.size + 1 + 1 + 1 < w1.heap.size := (by omega)); skip))
    go_ret2
    refine ⟨rfl, ?_⟩
    (repeat (first | with_reducible exact Up.refl _ | with_reducible assumption | with_reducible refine Up.set ?_ (by first | exact Nat.le_refl _ | (simp only []; omega) | (simp; omega)) _ | with_reducible refine Up.alloc ?_ _ | with_reducible refine Up.drew ?_ | refine Up.trans ?_ (by with_reducible assumption)))
  rw [h1] at cR
  cases h2 : validP ps
  · have HN : Hid (idxO (dataO s dict.data.toList) true st ps f t = none) := by unfold Hid idxO idxOk; rw [h2]; rfl
    rw [h2] at cV
    rw [HN.out]
    clear h1 h2 hsome
    simp only [setV] at *
    go_enter Tryz.func23, Tryz.ntmps23
    go_wp2_with (first | ((go_at_call 62; (with_reducible refine (cR _).mono ?_); rintro e w1 ⟨rfl, U1⟩; have B1 := bcell U1; have Z1 := U1.size; (try simp at Z1); (try rw [Nat.add_one_le_iff] at Z1)); (try have Y1a : w.heap.size < w1.heap.size := (by omega)); (try have Y1b : w.heap.size + 1 < w1.heap.size := (by omega)); (try have Y1c : w.heap.size + 1 + 1 < w1.heap.size := (by omega)); (try have Y1d : w.heap.size + 1 + 1 + 1 < w1.heap.size := (by omega)); skip) | ((go_at_call 67; (with_reducible refine (cV _ (hrow _ (by (repeat (first | with_reducible exact Up.refl _ | with_reducible assumption | with_reducible refine Up.set ?_ (by first | exact Nat.le_refl _ | (simp only []; omega) | (simp; omega)) _ | with_reducible refine Up.alloc ?_ _ | with_reducible refine Up.drew ?_ | refine Up.trans ?_ (by with_reducible assumption)))))).mono ?_); rintro e w2 ⟨rfl, U2⟩; have B2 := bcell U2; have Z2 := U2.size; (try simp at Z2); (try rw [Nat.add_one_le_iff] at Z2)); (try have Y2a : w.heap.size < w2.heap.size := (by omega)); (try have Y2b : w.heap.size + 1 < w2.heap.size := (by omega)); (try have Y2c : w.heap.size + 1 + 1 < w2.heap.size := (by omega)); (try have Y2d : w.heap.size + 1 + 1 + 1 < w2.heap.size := (by omega)); skip))
    go_ret2
    refine ⟨rfl, ?_⟩
    (repeat (first | with_reducible exact Up.refl _ | with_reducible assumption | with_reducible refine Up.set ?_ (by first | exact Nat.le_refl _ | (simp only []; omega) | (simp; omega)) _ | with_reducible refine Up.alloc ?_ _ | with_reducible refine Up.drew ?_ | refine Up.trans ?_ (by with_reducible assumption)))
  obtain ⟨hl40, hpl⟩ := validP_at h2
  rw [h2] at cV
  by_cases h3 : 4000 < st.size
  · have HN : Hid (idxO (dataO s dict.data.toList) true st ps f t = none) := by
      unfold Hid idxO idxOk
      rw [show decide (st.size ≤ 4000) = false by simp; omega]; simp
    rw [HN.out]
    have h3' : decide (4000 < st.size) = true := by simpa using h3
    clear h1 h2 hsome
    simp only [setV] at *
    go_enter Tryz.func23, Tryz.ntmps23
    go_wp2_with (first | ((go_at_call 62; (with_reducible refine (cR _).mono ?_); rintro e w1 ⟨rfl, U1⟩; have B1 := bcell U1; have Z1 := U1.size; (try simp at Z1); (try rw [Nat.add_one_le_iff] at Z1)); (try have Y1a : w.heap.size < w1.heap.size := (by omega)); (try have Y1b : w.heap.size + 1 < w1.heap.size := (by omega)); (try have Y1c : w.heap.size + 1 + 1 < w1.heap.size := (by omega)); (try have Y1d : w.heap.size + 1 + 1 + 1 < w1.heap.size := (by omega)); skip) | ((go_at_call 67; (with_reducible refine (cV _ (hrow _ (by (repeat (first | with_reducible exact Up.refl _ | with_reducible assumption | with_reducible refine Up.set ?_ (by first | exact Nat.le_refl _ | (simp only []; omega) | (simp; omega)) _ | with_reducible refine Up.alloc ?_ _ | with_reducible refine Up.drew ?_ | refine Up.trans ?_ (by with_reducible assumption)))))).mono ?_); rintro e w2 ⟨rfl, U2⟩; have B2 := bcell U2; have Z2 := U2.size; (try simp at Z2); (try rw [Nat.add_one_le_iff] at Z2)); (try have Y2a : w.heap.size < w2.heap.size := (by omega)); (try have Y2b : w.heap.size + 1 < w2.heap.size := (by omega)); (try have Y2c : w.heap.size + 1 + 1 < w2.heap.size := (by omega)); (try have Y2d : w.heap.size + 1 + 1 + 1 < w2.heap.size := (by omega)); skip))
    go_ret2
    refine ⟨rfl, ?_⟩
    (repeat (first | with_reducible exact Up.refl _ | with_reducible assumption | with_reducible refine Up.set ?_ (by first | exact Nat.le_refl _ | (simp only []; omega) | (simp; omega)) _ | with_reducible refine Up.alloc ?_ _ | with_reducible refine Up.drew ?_ | refine Up.trans ?_ (by with_reducible assumption)))
  have h3' : st.size ≤ 4000 := by omega
  cases h4 : inB f 0 t
  · have HN : Hid (idxO (dataO s dict.data.toList) true st ps f t = none) := by unfold Hid idxO idxOk; rw [h4]; simp
    rw [h4] at cI1
    rw [HN.out]
    clear h1 h2 h4 hsome
    simp only [setV] at *
    go_enter Tryz.func23, Tryz.ntmps23
    go_wp2_with (first | ((go_at_call 62; (with_reducible refine (cR _).mono ?_); rintro e w1 ⟨rfl, U1⟩; have B1 := bcell U1; have Z1 := U1.size; (try simp at Z1); (try rw [Nat.add_one_le_iff] at Z1)); (try have Y1a : w.heap.size < w1.heap.size := (by omega)); (try have Y1b : w.heap.size + 1 < w1.heap.size := (by omega)); (try have Y1c : w.heap.size + 1 + 1 < w1.heap.size := (by omega)); (try have Y1d : w.heap.size + 1 + 1 + 1 < w1.heap.size := (by omega)); skip) | ((go_at_call 67; (with_reducible refine (cV _ (hrow _ (by (repeat (first | with_reducible exact Up.refl _ | with_reducible assumption | with_reducible refine Up.set ?_ (by first | exact Nat.le_refl _ | (simp only []; omega) | (simp; omega)) _ | with_reducible refine Up.alloc ?_ _ | with_reducible refine Up.drew ?_ | refine Up.trans ?_ (by with_reducible assumption)))))).mono ?_); rintro e w2 ⟨rfl, U2⟩; have B2 := bcell U2; have Z2 := U2.size; (try simp at Z2); (try rw [Nat.add_one_le_iff] at Z2)); (try have Y2a : w.heap.size < w2.heap.size := (by omega)); (try have Y2b : w.heap.size + 1 < w2.heap.size := (by omega)); (try have Y2c : w.heap.size + 1 + 1 < w2.heap.size := (by omega)); (try have Y2d : w.heap.size + 1 + 1 + 1 < w2.heap.size := (by omega)); skip) | (go_at_call 66; (with_reducible refine (cI1 _).mono ?_); rintro e w' ⟨rfl, rfl⟩))
    go_ret2
    refine ⟨rfl, ?_⟩
    (repeat (first | with_reducible exact Up.refl _ | with_reducible assumption | with_reducible refine Up.set ?_ (by first | exact Nat.le_refl _ | (simp only []; omega) | (simp; omega)) _ | with_reducible refine Up.alloc ?_ _ | with_reducible refine Up.drew ?_ | refine Up.trans ?_ (by with_reducible assumption)))
  rw [h4] at cI1
  cases h5 : inB t 0 2000
  · have HN : Hid (idxO (dataO s dict.data.toList) true st ps f t = none) := by unfold Hid idxO idxOk; rw [h5]; simp
    rw [h5] at cI2
    rw [HN.out]
    clear h1 h2 h4 h5 hsome
    simp only [setV] at *
    go_enter Tryz.func23, Tryz.ntmps23
    go_wp2_with (first | ((go_at_call 62; (with_reducible refine (cR _).mono ?_); rintro e w1 ⟨rfl, U1⟩; have B1 := bcell U1; have Z1 := U1.size; (try simp at Z1); (try rw [Nat.add_one_le_iff] at Z1)); (try have Y1a : w.heap.size < w1.heap.size := (by omega)); (try have Y1b : w.heap.size + 1 < w1.heap.size := (by omega)); (try have Y1c : w.heap.size + 1 + 1 < w1.heap.size := (by omega)); (try have Y1d : w.heap.size + 1 + 1 + 1 < w1.heap.size := (by omega)); skip) | ((go_at_call 67; (with_reducible refine (cV _ (hrow _ (by (repeat (first | with_reducible exact Up.refl _ | with_reducible assumption | with_reducible refine Up.set ?_ (by first | exact Nat.le_refl _ | (simp only []; omega) | (simp; omega)) _ | with_reducible refine Up.alloc ?_ _ | with_reducible refine Up.drew ?_ | refine Up.trans ?_ (by with_reducible assumption)))))).mono ?_); rintro e w2 ⟨rfl, U2⟩; have B2 := bcell U2; have Z2 := U2.size; (try simp at Z2); (try rw [Nat.add_one_le_iff] at Z2)); (try have Y2a : w.heap.size < w2.heap.size := (by omega)); (try have Y2b : w.heap.size + 1 < w2.heap.size := (by omega)); (try have Y2c : w.heap.size + 1 + 1 < w2.heap.size := (by omega)); (try have Y2d : w.heap.size + 1 + 1 + 1 < w2.heap.size := (by omega)); skip) | (go_at_call 66; (with_reducible refine (cI1 _).mono ?_); rintro e w' ⟨rfl, rfl⟩) | (go_at_call 66; (with_reducible refine (cI2 _).mono ?_); rintro e w' ⟨rfl, rfl⟩))
    go_ret2
    refine ⟨rfl, ?_⟩
    (repeat (first | with_reducible exact Up.refl _ | with_reducible assumption | with_reducible refine Up.set ?_ (by first | exact Nat.le_refl _ | (simp only []; omega) | (simp; omega)) _ | with_reducible refine Up.alloc ?_ _ | with_reducible refine Up.drew ?_ | refine Up.trans ?_ (by with_reducible assumption)))
  rw [h5] at cI2
  have HN : Hid (idxO (dataO s dict.data.toList) true st ps f t = idxR (dataO s dict.data.toList) st ps f t) := by
    unfold Hid idxO idxOk
    rw [h2, h4, h5, decide_eq_true h3']; rfl
  obtain ⟨f0, f1⟩ := inB_iff.1 h4
  obtain ⟨t0, t1⟩ := inB_iff.1 h5
  rw [HN.out]
  clear h1 h2 h4 h5 HN
  unfold idxR
  by_cases h6 : f = t
  · rw [if_pos h6]
    clear hsome hpl
    subst h6
    simp only [setV] at *
    go_enter Tryz.func23, Tryz.ntmps23
    go_wp2_with (first | ((go_at_call 62; (with_reducible refine (cR _).mono ?_); rintro e w1 ⟨rfl, U1⟩; have B1 := bcell U1; have Z1 := U1.size; (try simp at Z1); (try rw [Nat.add_one_le_iff] at Z1)); (try have Y1a : w.heap.size < w1.heap.size := (by omega)); (try have Y1b : w.heap.size + 1 < w1.heap.size := (by omega)); (try have Y1c : w.heap.size + 1 + 1 < w1.heap.size := (by omega)); (try have Y1d : w.heap.size + 1 + 1 + 1 < w1.heap.size := (by omega)); skip) | ((go_at_call 67; (with_reducible refine (cV _ (hrow _ (by (repeat (first | with_reducible exact Up.refl _ | with_reducible assumption | with_reducible refine Up.set ?_ (by first | exact Nat.le_refl _ | (simp only []; omega) | (simp; omega)) _ | with_reducible refine Up.alloc ?_ _ | with_reducible refine Up.drew ?_ | refine Up.trans ?_ (by with_reducible assumption)))))).mono ?_); rintro e w2 ⟨rfl, U2⟩; have B2 := bcell U2; have Z2 := U2.size; (try simp at Z2); (try rw [Nat.add_one_le_iff] at Z2)); (try have Y2a : w.heap.size < w2.heap.size := (by omega)); (try have Y2b : w.heap.size + 1 < w2.heap.size := (by omega)); (try have Y2c : w.heap.size + 1 + 1 < w2.heap.size := (by omega)); (try have Y2d : w.heap.size + 1 + 1 + 1 < w2.heap.size := (by omega)); skip) | (go_at_call 66; (with_reducible refine (cI1 _).mono ?_); rintro e w' ⟨rfl, rfl⟩) | (go_at_call 66; (with_reducible refine (cI2 _).mono ?_); rintro e w' ⟨rfl, rfl⟩))
    go_ret2
    refine ⟨rfl, ?_⟩
    (repeat (first | with_reducible exact Up.refl _ | with_reducible assumption | with_reducible refine Up.set ?_ (by first | exact Nat.le_refl _ | (simp only []; omega) | (simp; omega)) _ | with_reducible refine Up.alloc ?_ _ | with_reducible refine Up.drew ?_ | refine Up.trans ?_ (by with_reducible assumption)))
  rw [if_neg h6]
  rcases seekK_lt (ps := ps) (o := f) ps.length (Nat.le_refl _) with h7 | ⟨j, j1, -, j3, j4⟩
  · rw [h7, if_pos (by omega)]
    rw [h7] at cK
    clear hsome hpl
    simp only [setV] at *
    go_enter Tryz.func23, Tryz.ntmps23
    go_wp2_with (first | ((go_at_call 62; (with_reducible refine (cR _).mono ?_); rintro e w1 ⟨rfl, U1⟩; have B1 := bcell U1; have Z1 := U1.size; (try simp at Z1); (try rw [Nat.add_one_le_iff] at Z1)); (try have Y1a : w.heap.size < w1.heap.size := (by omega)); (try have Y1b : w.heap.size + 1 < w1.heap.size := (by omega)); (try have Y1c : w.heap.size + 1 + 1 < w1.heap.size := (by omega)); (try have Y1d : w.heap.size + 1 + 1 + 1 < w1.heap.size := (by omega)); skip) | ((go_at_call 67; (with_reducible refine (cV _ (hrow _ (by (repeat (first | with_reducible exact Up.refl _ | with_reducible assumption | with_reducible refine Up.set ?_ (by first | exact Nat.le_refl _ | (simp only []; omega) | (simp; omega)) _ | with_reducible refine Up.alloc ?_ _ | with_reducible refine Up.drew ?_ | refine Up.trans ?_ (by with_reducible assumption)))))).mono ?_); rintro e w2 ⟨rfl, U2⟩; have B2 := bcell U2; have Z2 := U2.size; (try simp at Z2); (try rw [Nat.add_one_le_iff] at Z2)); (try have Y2a : w.heap.size < w2.heap.size := (by omega)); (try have Y2b : w.heap.size + 1 < w2.heap.size := (by omega)); (try have Y2c : w.heap.size + 1 + 1 < w2.heap.size := (by omega)); (try have Y2d : w.heap.size + 1 + 1 + 1 < w2.heap.size := (by omega)); skip) | (go_at_call 66; (with_reducible refine (cI1 _).mono ?_); rintro e w' ⟨rfl, rfl⟩) | (go_at_call 66; (with_reducible refine (cI2 _).mono ?_); rintro e w' ⟨rfl, rfl⟩) | ((go_at_call 68; (with_reducible refine (cK _ (hrow _ (by (repeat (first | with_reducible exact Up.refl _ | with_reducible assumption | with_reducible refine Up.set ?_ (by first | exact Nat.le_refl _ | (simp only []; omega) | (simp; omega)) _ | with_reducible refine Up.alloc ?_ _ | with_reducible refine Up.drew ?_ | refine Up.trans ?_ (by with_reducible assumption)))))).mono ?_); rintro e w3 ⟨rfl, U3⟩; have B3 := bcell U3; have Z3 := U3.size; (try simp at Z3); (try rw [Nat.add_one_le_iff] at Z3)); (try have Y3a : w.heap.size < w3.heap.size := (by omega)); (try have Y3b : w.heap.size + 1 < w3.heap.size := (by omega)); (try have Y3c : w.heap.size + 1 + 1 < w3.heap.size := (by omega)); (try have Y3d : w.heap.size + 1 + 1 + 1 < w3.heap.size := (by omega)); skip))
    go_ret2
    refine ⟨rfl, ?_⟩
    (repeat (first | with_reducible exact Up.refl _ | with_reducible assumption | with_reducible refine Up.set ?_ (by first | exact Nat.le_refl _ | (simp only []; omega) | (simp; omega)) _ | with_reducible refine Up.alloc ?_ _ | with_reducible refine Up.drew ?_ | refine Up.trans ?_ (by with_reducible assumption)))
  · rw [j3, if_neg (by omega), Int.toNat_natCast]
    rw [j3] at cK
    have hgd : ps.getD j ⟨0, 0⟩ = ps[j] := by rw [List.getD_eq_getElem?_getD, List.getElem?_eq_getElem j1]; rfl
    rw [hgd]
    have cN := fun wx h => needS_any s dict st ps (.slice a ps.length ca) base j t wx hi hs h hl40 j1 hpl
    obtain ⟨g, rfl, hnc, hcm, -, hg, hcells⟩ := hsome (by omega)
    obtain ⟨x0, x1⟩ := plc_cells hcells (List.getElem?_eq_getElem j1)
    obtain ⟨-, -, q3, q4⟩ := hpl j j1
    unfold fromN
    have hge : ∀ d, needN (dataO s dict.data.toList) st ps t (ps.length - j) j (ps[j]).start = some d → t ≤ (ps[j]).start + d.length := fun d h => need_ge _ _ _ d h
    unfold maxLen at hcm
    clear hcells hsome hpl j3 hgd
    generalize (ps[j]).start = z at *
    generalize (ps[j]).place = pl at *
    cases hnd : needN (dataO s dict.data.toList) st ps t (ps.length - j) j z with
    | none =>
      rw [hnd] at cN
      unfold optS at cN
      simp only [setV, Option.getD_none, Option.isSome_none, Option.map_none] at *
      clear hnd hge
      go_enter Tryz.func23, Tryz.ntmps23
      go_wp2_with (first | ((go_at_call 62; (with_reducible refine (cR _).mono ?_); rintro e w1 ⟨rfl, U1⟩; have B1 := bcell U1; have Z1 := U1.size; (try simp at Z1); (try rw [Nat.add_one_le_iff] at Z1)); (try have Y1a : w.heap.size < w1.heap.size := (by omega)); (try have Y1b : w.heap.size + 1 < w1.heap.size := (by omega)); (try have Y1c : w.heap.size + 1 + 1 < w1.heap.size := (by omega)); (try have Y1d : w.heap.size + 1 + 1 + 1 < w1.heap.size := (by omega)); skip) | ((go_at_call 67; (with_reducible refine (cV _ (hrow _ (by (repeat (first | with_reducible exact Up.refl _ | with_reducible assumption | with_reducible refine Up.set ?_ (by first | exact Nat.le_refl _ | (simp only []; omega) | (simp; omega)) _ | with_reducible refine Up.alloc ?_ _ | with_reducible refine Up.drew ?_ | refine Up.trans ?_ (by with_reducible assumption)))))).mono ?_); rintro e w2 ⟨rfl, U2⟩; have B2 := bcell U2; have Z2 := U2.size; (try simp at Z2); (try rw [Nat.add_one_le_iff] at Z2)); (try have Y2a : w.heap.size < w2.heap.size := (by omega)); (try have Y2b : w.heap.size + 1 < w2.heap.size := (by omega)); (try have Y2c : w.heap.size + 1 + 1 < w2.heap.size := (by omega)); (try have Y2d : w.heap.size + 1 + 1 + 1 < w2.heap.size := (by omega)); skip) | (go_at_call 66; (with_reducible refine (cI1 _).mono ?_); rintro e w' ⟨rfl, rfl⟩) | (go_at_call 66; (with_reducible refine (cI2 _).mono ?_); rintro e w' ⟨rfl, rfl⟩) | ((go_at_call 68; (with_reducible refine (cK _ (hrow _ (by (repeat (first | with_reducible exact Up.refl _ | with_reducible assumption | with_reducible refine Up.set ?_ (by first | exact Nat.le_refl _ | (simp only []; omega) | (simp; omega)) _ | with_reducible refine Up.alloc ?_ _ | with_reducible refine Up.drew ?_ | refine Up.trans ?_ (by with_reducible assumption)))))).mono ?_); rintro e w3 ⟨rfl, U3⟩; have B3 := bcell U3; have Z3 := U3.size; (try simp at Z3); (try rw [Nat.add_one_le_iff] at Z3)); (try have Y3a : w.heap.size < w3.heap.size := (by omega)); (try have Y3b : w.heap.size + 1 < w3.heap.size := (by omega)); (try have Y3c : w.heap.size + 1 + 1 < w3.heap.size := (by omega)); (try have Y3d : w.heap.size + 1 + 1 + 1 < w3.heap.size := (by omega)); skip) | ((go_at_call 69; (with_reducible refine (cN _ (hrow _ (by (repeat (first | with_reducible exact Up.refl _ | with_reducible assumption | with_reducible refine Up.set ?_ (by first | exact Nat.le_refl _ | (simp only []; omega) | (simp; omega)) _ | with_reducible refine Up.alloc ?_ _ | with_reducible refine Up.drew ?_ | refine Up.trans ?_ (by with_reducible assumption)))))).mono ?_); rintro e w4 ⟨rfl, U4⟩; have B4 := bcell U4; have Z4 := U4.size; (try simp at Z4); (try rw [Nat.add_one_le_iff] at Z4)); (try have Y4a : w.heap.size < w4.heap.size := (by omega)); (try have Y4b : w.heap.size + 1 < w4.heap.size := (by omega)); (try have Y4c : w.heap.size + 1 + 1 < w4.heap.size := (by omega)); (try have Y4d : w.heap.size + 1 + 1 + 1 < w4.heap.size := (by omega)); skip))
      go_ret2
      refine ⟨rfl, ?_⟩
      (repeat (first | with_reducible exact Up.refl _ | with_reducible assumption | with_reducible refine Up.set ?_ (by first | exact Nat.le_refl _ | (simp only []; omega) | (simp; omega)) _ | with_reducible refine Up.alloc ?_ _ | with_reducible refine Up.drew ?_ | refine Up.trans ?_ (by with_reducible assumption)))
    | some d =>
      have hge2 := hge d hnd
      rw [hnd] at cN
      unfold optS at cN
      simp only [setV, Option.getD_some, Option.isSome_some, Option.map_some] at *
      clear hnd hge
      have hzd := bs_size d
      have HX : Hid ((bs d).extract (f - z).toNat (t - z).toNat = bs ((d.drop (f - z).toNat).take ((t - z).toNat - (f - z).toNat))) := bs_ext _ _ _
      go_enter Tryz.func23, Tryz.ntmps23
      go_wp2_with (first | ((go_at_call 62; (with_reducible refine (cR _).mono ?_); rintro e w1 ⟨rfl, U1⟩; have B1 := bcell U1; have Z1 := U1.size; (try simp at Z1); (try rw [Nat.add_one_le_iff] at Z1)); (try have Y1a : w.heap.size < w1.heap.size := (by omega)); (try have Y1b : w.heap.size + 1 < w1.heap.size := (by omega)); (try have Y1c : w.heap.size + 1 + 1 < w1.heap.size := (by omega)); (try have Y1d : w.heap.size + 1 + 1 + 1 < w1.heap.size := (by omega)); skip) | ((go_at_call 67; (with_reducible refine (cV _ (hrow _ (by (repeat (first | with_reducible exact Up.refl _ | with_reducible assumption | with_reducible refine Up.set ?_ (by first | exact Nat.le_refl _ | (simp only []; omega) | (simp; omega)) _ | with_reducible refine Up.alloc ?_ _ | with_reducible refine Up.drew ?_ | refine Up.trans ?_ (by with_reducible assumption)))))).mono ?_); rintro e w2 ⟨rfl, U2⟩; have B2 := bcell U2; have Z2 := U2.size; (try simp at Z2); (try rw [Nat.add_one_le_iff] at Z2)); (try have Y2a : w.heap.size < w2.heap.size := (by omega)); (try have Y2b : w.heap.size + 1 < w2.heap.size := (by omega)); (try have Y2c : w.heap.size + 1 + 1 < w2.heap.size := (by omega)); (try have Y2d : w.heap.size + 1 + 1 + 1 < w2.heap.size := (by omega)); skip) | (go_at_call 66; (with_reducible refine (cI1 _).mono ?_); rintro e w' ⟨rfl, rfl⟩) | (go_at_call 66; (with_reducible refine (cI2 _).mono ?_); rintro e w' ⟨rfl, rfl⟩) | ((go_at_call 68; (with_reducible refine (cK _ (hrow _ (by (repeat (first | with_reducible exact Up.refl _ | with_reducible assumption | with_reducible refine Up.set ?_ (by first | exact Nat.le_refl _ | (simp only []; omega) | (simp; omega)) _ | with_reducible refine Up.alloc ?_ _ | with_reducible refine Up.drew ?_ | refine Up.trans ?_ (by with_reducible assumption)))))).mono ?_); rintro e w3 ⟨rfl, U3⟩; have B3 := bcell U3; have Z3 := U3.size; (try simp at Z3); (try rw [Nat.add_one_le_iff] at Z3)); (try have Y3a : w.heap.size < w3.heap.size := (by omega)); (try have Y3b : w.heap.size + 1 < w3.heap.size := (by omega)); (try have Y3c : w.heap.size + 1 + 1 < w3.heap.size := (by omega)); (try have Y3d : w.heap.size + 1 + 1 + 1 < w3.heap.size := (by omega)); skip) | ((go_at_call 69; (with_reducible refine (cN _ (hrow _ (by (repeat (first | with_reducible exact Up.refl _ | with_reducible assumption | with_reducible refine Up.set ?_ (by first | exact Nat.le_refl _ | (simp only []; omega) | (simp; omega)) _ | with_reducible refine Up.alloc ?_ _ | with_reducible refine Up.drew ?_ | refine Up.trans ?_ (by with_reducible assumption)))))).mono ?_); rintro e w4 ⟨rfl, U4⟩; have B4 := bcell U4; have Z4 := U4.size; (try simp at Z4); (try rw [Nat.add_one_le_iff] at Z4)); (try have Y4a : w.heap.size < w4.heap.size := (by omega)); (try have Y4b : w.heap.size + 1 < w4.heap.size := (by omega)); (try have Y4c : w.heap.size + 1 + 1 < w4.heap.size := (by omega)); (try have Y4d : w.heap.size + 1 + 1 + 1 < w4.heap.size := (by omega)); skip))
      have hU4 : Up w w4 := by (repeat (first | with_reducible exact Up.refl _ | with_reducible assumption | with_reducible refine Up.set ?_ (by first | exact Nat.le_refl _ | (simp only []; omega) | (simp; omega)) _ | with_reducible refine Up.alloc ?_ _ | with_reducible refine Up.drew ?_ | refine Up.trans ?_ (by with_reducible assumption)))
      have c1 := (hU4.cell (p := ⟨g, j * 2 + 1, none⟩) hg).trans x1
      have hg4 := Nat.lt_of_lt_of_le hg hU4.size
      refine wp_region_up 16 (by kernel_rfl) (by kernel_rfl) ?_
      simp only [List.take, List.drop]
      repeat (refine wpUp_step (fun K hK => ?_); go_simp; (try simp only [↓IntWalk.iteOmega]); first
        | (refine hK _ _ ?_; clear hK K)
        | (apply stepU_c
           · intro wq hwq; (have hbq := bcell hwq; (repeat (first | refine fills_no (by rfl) ?_ | refine fills_yes (by rfl) (fun vq hvq => ?_))); simp only [List.filter_nil, fills]; unfold upAt; (try ((have e1 := (hwq.cell (p := ⟨g, j * 2 + 1, none⟩) hg4).trans c1))); go_simp; (try go_bits); (try simp only [↓IntWalk.iteOmega]); (try (rw [dif_pos (by omega)]; go_simp; try go_bits)); first | exact upOut_value)
           go_simp; refine hK _ _ ?_; clear hK K))
      refine wpUp_nil (fun wq hwq => ?_)
      simp only [fills]
      go_wp2
      go_ret2
      refine ⟨by rw [HX.out]; rfl, ?_⟩
      (repeat (first | with_reducible exact Up.refl _ | with_reducible assumption | with_reducible refine Up.set ?_ (by first | exact Nat.le_refl _ | (simp only []; omega) | (simp; omega)) _ | with_reducible refine Up.alloc ?_ _ | with_reducible refine Up.drew ?_ | refine Up.trans ?_ (by with_reducible assumption)))

end Go.Proofs.YtekbbnkkninolaaGreat

/- Walks of the program's unpack, Decompress, DecompressWith, blockData, BlockData. Conditions: what is known is valid and can be read; strings are no longer than 2^30 bytes. -/
namespace Go.Proofs.YtekbbnkkninolaaGreat
set_option linter.unusedVariables false
set_option linter.unusedSimpArgs false
open Go Go.RowKit

/-- What unpack reads, and how many bytes it uses. -/
def upkR (k : KnD) (s : List UInt8) : RdR := if s.length ≤ 4000 then readS k s else ⟨⟨⟨0, 0, 0⟩, [], 0, 0⟩, [], [], 4, 0⟩
def upkU (k : KnD) (s : List UInt8) : Nat := if s.length ≤ 4000 then usedS s (readS k s) else 0
def UpkPost (R : RdR) (used : Nat) (w : World) (e : Ending) (w' : World) : Prop := ∃ a n c vc vd, e = .returned (.tuple #[rgV R.k (.slice a n c) vc vd R.fin R.pos, .int .i64 used]) ∧ ownI w' w.heap.size vc R.codes ∧ ownU w' w.heap.size vd R.data ∧ Up w w'
/-- A reading with rows of its own. -/
def RdO (base : Nat) (R : RdR) (u : Value) (w : World) : Prop := ∃ v vc vd, u = rgV R.k v vc vd R.fin R.pos ∧ ownPr w base v R.k.ps ∧ ownI w base vc R.codes ∧ ownU w base vd R.data
theorem rdO_closed (base : Nat) (R : RdR) : ∀ u, UpClosed (RdO base R u) := fun u w w' ⟨v, vc, vd, h1, h0, h2, h3⟩ hu => ⟨v, vc, vd, h1, ownsRow_up h0 hu, ownsRow_up h2 hu, ownsRow_up h3 hu⟩
theorem upOut_rd {f : FuncId} {args : Array Value} {w : World} {R : RdR} {base : Nat} (h : Calls Tryz.prog f args w (RcPost R w)) (hb : base ≤ w.heap.size) : upOut Tryz.prog (RdO base R) w (.ok (.enter f args) w) :=
  ⟨rfl, h.mono fun e w' ⟨v, vc, vd, he, hp, ho, hd, hu⟩ => ⟨_, he, hu, v, vc, vd, rfl, ownsRow_base hp hb, ownsRow_base ho hb, ownsRow_base hd hb⟩⟩
/-- A new box for a reading. -/
def RgO (base : Nat) (u : Value) (w : World) : Prop := ∃ b, u = .pointer (some ⟨b, 0, none⟩) ∧ base ≤ b ∧ RgAt b ⟨⟨0, 0, 0⟩, [], 0, 0⟩ (.slice none 0 0) (.slice none 0 0) (.slice none 0 0) 0 0 w
theorem rgO_closed (base : Nat) : ∀ u, UpClosed (RgO base u) := fun u w w' ⟨b, h1, h2, h3⟩ hu => ⟨b, h1, h2, box_up hu h3⟩

set_option maxRecDepth 100000 in
set_option maxHeartbeats 8000000 in
theorem upkI_any (k : KnD) (v : Value) (lo : Nat) (s : ByteArray) (w : World) (h : k.Ok) (hv : k.last = -1 → k.base = k.ps.length) (hr : RdP lo w v k.ps) (hs : s.size ≤ 1073741824) :
    Calls Tryz.prog 134  #[kV k v, .string s] w (UpkPost (upkR k s.data.toList) (upkU k s.data.toList) w) := by
  have cV := fun wx hr => kvI_any k v lo wx h hv hr
  have hrt := fun (wq : World) (hu : Up w wq) => hr.up hu
  have hlen := ba_len s
  unfold upkR upkU
  by_cases h4 : s.size ≤ 4000
  case neg =>
    rw [if_neg (by omega), if_neg (by omega)]
    obtain ⟨a, cap, rfl, -, -, -, -⟩ := hr
    have h4' : (4000 : Int) < (s.size : Int) := by omega
    have h4d : decide ((4000 : Int) < (s.size : Int)) = true := decide_eq_true h4'
    clear h hv hlen
    simp only [kV] at *
    go_enter Tryz.func134, Tryz.ntmps134
    go_wp2_with fail
    (with_reducible refine (cV _ (hrt _ (by (repeat (first | with_reducible exact Up.refl _ | with_reducible assumption | with_reducible refine Up.set ?_ (by first | exact Nat.le_refl _ | (simp only []; omega) | (simp; omega)) _ | with_reducible refine Up.alloc ?_ _ | with_reducible refine Up.drew ?_ | refine Up.trans ?_ (by with_reducible assumption)))))).mono ?_); rintro e w1 ⟨rfl, U1⟩
    have hQ1 : RgAt (w.heap.size + 1) ⟨⟨0, 0, 0⟩, [], 0, 0⟩ (.slice none 0 0) (.slice none 0 0) (.slice none 0 0) 0 0 w1 := box_up U1 (alloc2 w _ _)
    have hU1 : Up w w1 := by (repeat (first | with_reducible exact Up.refl _ | with_reducible assumption | with_reducible refine Up.set ?_ (by first | exact Nat.le_refl _ | (simp only []; omega) | (simp; omega)) _ | with_reducible refine Up.alloc ?_ _ | with_reducible refine Up.drew ?_ | refine Up.trans ?_ (by with_reducible assumption)))
    have HQ := Lib.hid hQ1
    have HU := Lib.hid (RgW.up hU1 (show w.heap.size ≤ w.heap.size + 1 by omega) ⟨⟨0, 0, 0⟩, [], 0, 0⟩ (.slice none 0 0) (.slice none 0 0) (.slice none 0 0) 4 0)
    have HS := Lib.hid (RgAt.store hQ1 ⟨⟨0, 0, 0⟩, [], 0, 0⟩ (.slice none 0 0) (.slice none 0 0) (.slice none 0 0) 4 0)
    obtain ⟨hbq, q0, q1, q2, q3, q4, q5, q6, q7, q8, q9⟩ := RgAt.cells (k := ⟨⟨0, 0, 0⟩, [], 0, 0⟩) hQ1
    (try dsimp only at q0 q1 q2 q3 q4 q5)
    have hfq := box_free hQ1
    clear hQ1 hU1 U1
    go_wp2
    rw [show (World.setCell (World.setCell (World.setCell (World.setCell (World.setCell (World.setCell (World.setCell (World.setCell (World.setCell (World.setCell w1 ⟨w.heap.size + 1, 0, none⟩ (.int .i64 0)) ⟨w.heap.size + 1, 1, none⟩ (.int .i64 0)) ⟨w.heap.size + 1, 2, none⟩ (.int .i64 0)) ⟨w.heap.size + 1, 3, none⟩ (.slice none 0 0)) ⟨w.heap.size + 1, 4, none⟩ (.int .i64 0)) ⟨w.heap.size + 1, 5, none⟩ (.int .i64 0)) ⟨w.heap.size + 1, 6, none⟩ (.slice none 0 0)) ⟨w.heap.size + 1, 7, none⟩ (.slice none 0 0)) ⟨w.heap.size + 1, 8, none⟩ (.int .i64 4)) ⟨w.heap.size + 1, 9, none⟩ (.int .i64 0)) = RgW w1 (w.heap.size + 1) ⟨⟨0, 0, 0⟩, [], 0, 0⟩ (.slice none 0 0) (.slice none 0 0) (.slice none 0 0) 4 0 from rfl]
    obtain ⟨hbq, q0, q1, q2, q3, q4, q5, q6, q7, q8, q9⟩ := RgAt.cells (k := ⟨⟨0, 0, 0⟩, [], 0, 0⟩) HS.out
    (try dsimp only at q0 q1 q2 q3 q4 q5)
    refine bodyPost_ret (v := .tuple #[rgV ⟨⟨0, 0, 0⟩, [], 0, 0⟩ (.slice none 0 0) (.slice none 0 0) (.slice none 0 0) 4 0, .int .i64 0]) ?_ rfl ⟨_, _, _, _, _, rfl, World.ownsRow_nil _ _ _ _, World.ownsRow_nil _ _ _ _, ?_⟩
    · simp [results, Tryz.results134, go_sem, q0, q1, q2, q3, q4, q5, q6, q7, q8, q9]
    · exact HU.out
  case pos =>
    rw [if_pos (by omega), if_pos (by omega)]
    have ho := (setOk_bd h.set).1
    have cU := fun wx => unpackBI_any k.set.ord s wx ho h4
    have hul := unpackL_length k.set.ord s.data.toList
    have cR : ∀ wx, RdP lo wx v k.ps → Calls Tryz.prog 164  #[kV k v, .string (bs (unpackL k.set.ord s.data.toList)), .int .i64 0, .int .i64 0] wx (RcPost (readN k.set.ord (unpackL k.set.ord s.data.toList) 0 0 (unpackL k.set.ord s.data.toList).length k 0 [] []) wx) := fun wx hr => readI_any k v lo (unpackL k.set.ord s.data.toList) 0 0 wx h hr (isBits_unpack _ _) (by omega) (by omega) (by omega)
    rw [hul] at cR
    have hfin := readS_fin h s.data.toList
    have hpos := hfin.pos
    rw [hul] at hpos
    have hp2 : (readS k s.data.toList).pos ≤ 32000 := by omega
    have hF := hfin.fin
    have HE : Hid (readN k.set.ord (unpackL k.set.ord s.data.toList) 0 0 (8 * s.data.toList.length) k 0 [] [] = readS k s.data.toList) := rfl
    rw [HE.out] at cR
    obtain ⟨uu, HUU⟩ : ∃ uu, Hid (usedS s.data.toList (readS k s.data.toList) = uu) := ⟨_, rfl⟩
    rw [HUU.out]
    unfold usedS at HUU
    clear hfin HE hul hpos
    generalize readS k s.data.toList = R at *
    generalize unpackL k.set.ord s.data.toList = bits at *
    obtain ⟨kR, codes, dat, fin, pos⟩ := R
    simp only at hp2 hF cR HUU ⊢
    obtain ⟨a, cap, rfl, -, -, -, -⟩ := hr
    clear h hv ho
    simp only [kV] at *
    go_enter Tryz.func134, Tryz.ntmps134
    go_wp2_with ((go_at_call 150; (with_reducible refine (cV _ (hrt _ (by (repeat (first | with_reducible exact Up.refl _ | with_reducible assumption | with_reducible refine Up.set ?_ (by first | exact Nat.le_refl _ | (simp only []; omega) | (simp; omega)) _ | with_reducible refine Up.alloc ?_ _ | with_reducible refine Up.drew ?_ | refine Up.trans ?_ (by with_reducible assumption)))))).mono ?_); rintro e w1 ⟨rfl, U1⟩; have B1 := bcell U1; have Z1 := U1.size; (try simp at Z1); (try rw [Nat.add_one_le_iff] at Z1)))
    have hK1 : KnAt w.heap.size k (.slice a k.ps.length cap) w1 := box_up U1 (box_up ((Up.refl _).alloc _) (MapKept.heap_alloc w _).1)
    have hQ1 : RgAt (w.heap.size + 1) ⟨⟨0, 0, 0⟩, [], 0, 0⟩ (.slice none 0 0) (.slice none 0 0) (.slice none 0 0) 0 0 w1 := box_up U1 (alloc2 w _ _)
    have hU1 : Up w w1 := by (repeat (first | with_reducible exact Up.refl _ | with_reducible assumption | with_reducible refine Up.set ?_ (by first | exact Nat.le_refl _ | (simp only []; omega) | (simp; omega)) _ | with_reducible refine Up.alloc ?_ _ | with_reducible refine Up.drew ?_ | refine Up.trans ?_ (by with_reducible assumption)))
    have hs1 := U1.size
    simp at hs1
    have HK := Lib.hid hK1
    have HQ := Lib.hid hQ1
    have HU := Lib.hid hU1
    clear hK1 hQ1 hU1 U1 B1 Z1
    refine wp_region_upf 8 (by kernel_rfl) (by kernel_rfl) ?_
    simp only [List.take, List.drop]
    repeat (refine wpUp_step (fun K hK => ?_); go_simp; (try simp only [↓IntWalk.iteOmega]); first
      | (refine hK _ _ ?_; clear hK K)
      | (apply stepU_c
         · intro wq hwq; (have hbq := bcell hwq; (repeat (first | refine fills_no (by rfl) ?_ | refine fills_yes (by rfl) (fun vq hvq => ?_))); simp only [List.filter_nil, fills]; unfold upAt; (try ((obtain ⟨hbk, s0, s1, s2, s3, s4, s5⟩ := (HK.out.up hwq).cells))); go_simp; (try go_bits); (try simp only [↓IntWalk.iteOmega]); (try (rw [dif_pos (by omega)]; go_simp; try go_bits)); first | exact upOut_value | (apply upOut_call; (go_at_call 165; exact cU _)) | (apply upOut_eq; (go_at_call 165; exact cU _)))
         go_simp; refine hK _ _ ?_; clear hK K)
      | (refine stepU_m (by kernel_rfl) ((RdO w1.heap.size ⟨kR, codes, dat, fin, pos⟩)) (rdO_closed _ _) (fun wq hwq => ?_) ?_
         · (have hbq := bcell hwq; (repeat (first | refine fills_no (by rfl) ?_ | refine fills_yes (by rfl) (fun vq hvq => ?_))); simp only [List.filter_nil, fills]; unfold upAt; (try ((obtain ⟨hbk, s0, s1, s2, s3, s4, s5⟩ := (HK.out.up hwq).cells))); go_simp; (try go_bits); (try simp only [↓IntWalk.iteOmega]); (try (rw [dif_pos (by omega)]; go_simp; try go_bits)); ((with_reducible refine upOut_rd (base := w1.heap.size) ?_ hwq.size); go_at_call 164; exact cR _ (hrt _ (HU.out.trans hwq))))
         refine hK _ _ ?_; clear hK K)
      | (refine stepU_m (by kernel_rfl) ((RgO w1.heap.size)) (rgO_closed _) (fun wq hwq => ?_) ?_
         · (have hbq := bcell hwq; (repeat (first | refine fills_no (by rfl) ?_ | refine fills_yes (by rfl) (fun vq hvq => ?_))); simp only [List.filter_nil, fills]; unfold upAt; (try ((obtain ⟨hbk, s0, s1, s2, s3, s4, s5⟩ := (HK.out.up hwq).cells))); go_simp; (try go_bits); (try simp only [↓IntWalk.iteOmega]); (try (rw [dif_pos (by omega)]; go_simp; try go_bits)); (exact ⟨(Up.refl _).alloc _, _, rfl, hwq.size, (MapKept.heap_alloc _ _).1⟩))
         refine hK _ _ ?_; clear hK K))
    refine wpUp_nil (fun wq hwq => ?_)
    simp only [fills]
    rintro u1 ⟨b, rfl, hbb, hbx⟩ u2 ⟨vp, vc, vd, rfl, hvp, hvc, hvd⟩
    obtain ⟨ap, cp, rfl⟩ := ownsRow_shape hvp
    obtain ⟨ac, cc, rfl⟩ := ownsRow_shape hvc
    obtain ⟨ad, cd, rfl⟩ := ownsRow_shape hvd
    obtain ⟨hbr, r0, r1, r2, r3, r4, r5, r6, r7, r8, r9⟩ := RgAt.cells (k := ⟨⟨0, 0, 0⟩, [], 0, 0⟩) hbx
    (try dsimp only at r0 r1 r2 r3 r4 r5)
    have hfb := box_free hbx
    have hB5 := RgAt.store hbx kR (.slice ap kR.ps.length cp) (.slice ac codes.length cc) (.slice ad dat.length cd) fin pos
    have hQ5 := (RgW.other (w := wq) (b := b) (show w.heap.size + 1 ≠ b by omega) kR (.slice ap kR.ps.length cp) (.slice ac codes.length cc) (.slice ad dat.length cd) fin pos).trans (box_up hwq HQ.out)
    have hC5 := RgW.own hvc (box_ne hbx hvc (by decide)) kR (.slice ap kR.ps.length cp) (.slice ac codes.length cc) (.slice ad dat.length cd) fin pos
    have hD5 := RgW.own hvd (box_ne hbx hvd (by decide)) kR (.slice ap kR.ps.length cp) (.slice ac codes.length cc) (.slice ad dat.length cd) fin pos
    have hU5 := RgW.up (HU.out.trans hwq) (show w.heap.size ≤ b by have := HU.out.size; omega) kR (.slice ap kR.ps.length cp) (.slice ac codes.length cc) (.slice ad dat.length cd) fin pos
    have HB5 := Lib.hid hB5
    have HC5 := Lib.hid hC5
    have HD5 := Lib.hid hD5
    have HU5 := Lib.hid hU5
    have HQ5 : Hid (RgAt (w.heap.size + 1) ⟨⟨0, 0, 0⟩, [], 0, 0⟩ (.slice none 0 0) (.slice none 0 0) (.slice none 0 0) 0 0 (RgW wq b kR (.slice ap kR.ps.length cp) (.slice ac codes.length cc) (.slice ad dat.length cd) fin pos)) := hQ5
    clear hB5 hC5 hD5 hU5 hQ5 hvp hvc hvd hbx HK HQ HU cU cR hrt cV
    go_wp2
    rw [onlyN_normal]
    rw [show (World.setCell (World.setCell (World.setCell (World.setCell (World.setCell (World.setCell (World.setCell (World.setCell (World.setCell (World.setCell wq ⟨b, 0, none⟩ (.int .i64 kR.set.ord)) ⟨b, 1, none⟩ (.int .i64 kR.set.lit)) ⟨b, 2, none⟩ (.int .i64 kR.set.most)) ⟨b, 3, none⟩ (.slice ap kR.ps.length cp)) ⟨b, 4, none⟩ (.int .i64 kR.base)) ⟨b, 5, none⟩ (.int .i64 kR.last)) ⟨b, 6, none⟩ (.slice ac codes.length cc)) ⟨b, 7, none⟩ (.slice ad dat.length cd)) ⟨b, 8, none⟩ (.int .i64 fin)) ⟨b, 9, none⟩ (.int .i64 pos)) = RgW wq b kR (.slice ap kR.ps.length cp) (.slice ac codes.length cc) (.slice ad dat.length cd) fin pos from rfl]
    generalize RgW wq b kR (.slice ap kR.ps.length cp) (.slice ac codes.length cc) (.slice ad dat.length cd) fin pos = W5 at *
    clear r0 r1 r2 r3 r4 r5 r6 r7 r8 r9 hfb hwq
    obtain ⟨hbr, r0, r1, r2, r3, r4, r5, r6, r7, r8, r9⟩ := HB5.out.cells
    obtain ⟨hbq, q0, q1, q2, q3, q4, q5, q6, q7, q8, q9⟩ := RgAt.cells (k := ⟨⟨0, 0, 0⟩, [], 0, 0⟩) HQ5.out
    (try dsimp only at q0 q1 q2 q3 q4 q5)
    have hfq := box_free HQ5.out
    have HQS := Lib.hid (RgAt.store HQ5.out kR (.slice ap kR.ps.length cp) (.slice ac codes.length cc) (.slice ad dat.length cd) fin pos)
    have HCS := Lib.hid (ownsRow_base (RgW.own HC5.out (low_ne (w := w) HC5.out (show w.heap.size + 1 < w1.heap.size by omega)) kR (.slice ap kR.ps.length cp) (.slice ac codes.length cc) (.slice ad dat.length cd) fin pos) (show w.heap.size ≤ w1.heap.size by omega))
    have HDS := Lib.hid (ownsRow_base (RgW.own HD5.out (low_ne (w := w) HD5.out (show w.heap.size + 1 < w1.heap.size by omega)) kR (.slice ap kR.ps.length cp) (.slice ac codes.length cc) (.slice ad dat.length cd) fin pos) (show w.heap.size ≤ w1.heap.size by omega))
    have HUS := Lib.hid (RgW.up HU5.out (show w.heap.size ≤ w.heap.size + 1 by omega) kR (.slice ap kR.ps.length cp) (.slice ac codes.length cc) (.slice ad dat.length cd) fin pos)
    by_cases hf1 : fin = 1
    · have hne : (fin == 1) = true := by simpa using hf1
      have HU9 : Hid ((uu : Int) = (s.size : Int)) := by unfold Hid; rw [← HUU.out, if_pos hf1, hlen]
      clear hf1
      go_wp2
      rw [show (World.setCell (World.setCell (World.setCell (World.setCell (World.setCell (World.setCell (World.setCell (World.setCell (World.setCell (World.setCell W5 ⟨w.heap.size + 1, 0, none⟩ (.int .i64 kR.set.ord)) ⟨w.heap.size + 1, 1, none⟩ (.int .i64 kR.set.lit)) ⟨w.heap.size + 1, 2, none⟩ (.int .i64 kR.set.most)) ⟨w.heap.size + 1, 3, none⟩ (.slice ap kR.ps.length cp)) ⟨w.heap.size + 1, 4, none⟩ (.int .i64 kR.base)) ⟨w.heap.size + 1, 5, none⟩ (.int .i64 kR.last)) ⟨w.heap.size + 1, 6, none⟩ (.slice ac codes.length cc)) ⟨w.heap.size + 1, 7, none⟩ (.slice ad dat.length cd)) ⟨w.heap.size + 1, 8, none⟩ (.int .i64 fin)) ⟨w.heap.size + 1, 9, none⟩ (.int .i64 pos)) = RgW W5 (w.heap.size + 1) kR (.slice ap kR.ps.length cp) (.slice ac codes.length cc) (.slice ad dat.length cd) fin pos from rfl]
      obtain ⟨hbq, q0, q1, q2, q3, q4, q5, q6, q7, q8, q9⟩ := HQS.out.cells
      refine bodyPost_ret (v := .tuple #[rgV kR (.slice ap kR.ps.length cp) (.slice ac codes.length cc) (.slice ad dat.length cd) fin pos, .int .i64 s.size]) ?_ rfl ⟨_, _, _, _, _, by rw [HU9.out], HCS.out, HDS.out, HUS.out⟩
      simp [results, Tryz.results134, go_sem, q0, q1, q2, q3, q4, q5, q6, q7, q8, q9]
    · have hne : (fin == 1) = false := by simpa using hf1
      have HU9 : Hid ((uu : Int) = ((pos : Int) + 7) / 8) := by unfold Hid; rw [← HUU.out, if_neg hf1]; omega
      go_wp2
      refine wp_region_own 7 5 (some (w.heap.size + 1)) (by kernel_rfl) (by kernel_rfl) ?_
      simp only [List.take, List.drop]
      repeat (refine wpG_step (fun K hK => ?_); go_simp; (try simp only [↓IntWalk.iteOmega]); first
        | (refine hK _ _ ?_; clear hK K)
        | (refine stepG_own (by rfl) (by kernel_rfl) ((fun u w' => RgAt (w.heap.size + 1) kR (.slice ap kR.ps.length cp) (.slice ac codes.length cc) (.slice ad dat.length cd) fin pos w')) ((fun v w w' h hu => box_up hu h)) (fun wq hwq => ?_) ?_
           · ((repeat (first | refine fills_no (by rfl) ?_ | refine fills_yes (by rfl) (fun vq hvq => ?_))); simp only [List.filter_nil, fills]; (obtain ⟨hbq, q0, q1, q2, q3, q4, q5, q6, q7, q8, q9⟩ := RgAt.cells (k := ⟨⟨0, 0, 0⟩, [], 0, 0⟩) (box_up hwq HQ5.out); (try dsimp only at q0 q1 q2 q3 q4 q5); have hfq := box_free (box_up hwq HQ5.out); unfold gAt; go_simp; exact ⟨(grownBy_set (grownBy_set (grownBy_set (grownBy_set (grownBy_set (grownBy_set (grownBy_set (grownBy_set (grownBy_set (grownBy_set (grownBy_refl _ _) _ _) _ _) _ _) _ _) _ _) _ _) _ _) _ _) _ _) _ _), RgAt.store (show RgAt (w.heap.size + 1) ⟨⟨0, 0, 0⟩, [], 0, 0⟩ (.slice none 0 0) (.slice none 0 0) (.slice none 0 0) 0 0 wq from box_up hwq HQ5.out) kR (.slice ap kR.ps.length cp) (.slice ac codes.length cc) (.slice ad dat.length cd) fin pos⟩))
           refine hK _ _ ?_; clear hK K)
        | (refine stepG_c (by rfl) ?_ ?_ ?_
           rotate_left
           · intro wq hwq; (have hbq := gcell hwq; (repeat (first | refine fills_no (by rfl) ?_ | refine fills_yes (by rfl) (fun vq hvq => ?_))); simp only [List.filter_nil, fills]; unfold upAt; (try ((obtain ⟨hbr, r0, r1, r2, r3, r4, r5, r6, r7, r8, r9⟩ := RgAt.cells (gbox hwq HB5.out (by simp; omega))))); go_simp; (try go_bits); (try simp only [↓IntWalk.iteOmega]); (try (rw [dif_pos (by omega)]; go_simp; try go_bits)); first | exact upOut_value)
           go_simp; refine hK _ _ ?_; clear hK K))
      refine wpG_nil (by rfl) (fun wq hwq => ?_)
      simp only [fills]
      rintro u hkr
      have HCT := Lib.hid (ownsRow_base (HC5.out.kept hwq (low_ne' (w := w) HC5.out (show w.heap.size + 1 < w1.heap.size by omega))) (show w.heap.size ≤ w1.heap.size by omega))
      have HDT := Lib.hid (ownsRow_base (HD5.out.kept hwq (low_ne' (w := w) HD5.out (show w.heap.size + 1 < w1.heap.size by omega))) (show w.heap.size ≤ w1.heap.size by omega))
      have HUT := Lib.hid (up_grown' HU5.out hwq (show w.heap.size ≤ w.heap.size + 1 by omega))
      obtain ⟨hbq, q0, q1, q2, q3, q4, q5, q6, q7, q8, q9⟩ := RgAt.cells hkr
      clear hwq hkr
      go_wp2
      refine bodyPost_ret (v := .tuple #[rgV kR (.slice ap kR.ps.length cp) (.slice ac codes.length cc) (.slice ad dat.length cd) fin pos, .int .i64 (((pos : Int) + 7) / 8)]) ?_ rfl ⟨_, _, _, _, _, by rw [HU9.out], HCT.out, HDT.out, HUT.out⟩
      simp [results, Tryz.results134, go_sem, q0, q1, q2, q3, q4, q5, q6, q7, q8, q9]

theorem upk_dec {k : KnD} (s : List UInt8) : (upkR k s).data = (decK k s).data ∧ (upkR k s).fin = (decK k s).fin ∧ upkU k s = (decK k s).used := by
  unfold upkR upkU decK
  split <;> exact ⟨rfl, rfl, rfl⟩

set_option maxRecDepth 100000 in
set_option maxHeartbeats 4000000 in
theorem decI_any (k : KnD) (v : Value) (lo : Nat) (s : ByteArray) (w : World) (h : k.Ok) (hv : k.last = -1 → k.base = k.ps.length) (hr : RdP lo w v k.ps) (hs : s.size ≤ 1073741824) :
    Calls Tryz.prog 82  #[kV k v, .string s] w (Same (decV (decK k s.data.toList)) w) := by
  have cU := fun wx hr => upkI_any k v lo s wx h hv hr hs
  have hrt := fun (wq : World) (hu : Up w wq) => hr.up hu
  obtain ⟨u1, u2, u3⟩ := upk_dec (k := k) s.data.toList
  unfold decV
  rw [← u1, ← u2, ← u3]
  unfold UpkPost at cU
  obtain ⟨a, cap, rfl, -, -, -, -⟩ := hr
  clear h hv u1 u2 u3
  generalize upkR k s.data.toList = R at *
  generalize upkU k s.data.toList = uu at *
  obtain ⟨kR, codes, dat, fin, pos⟩ := R
  simp only [kV] at *
  go_enter Tryz.func82, Tryz.ntmps82
  go_wp2_with (go_at_call 134; (with_reducible refine (cU _ (hrt _ (by (repeat (first | with_reducible exact Up.refl _ | with_reducible assumption | with_reducible refine Up.set ?_ (by first | exact Nat.le_refl _ | (simp only []; omega) | (simp; omega)) _ | with_reducible refine Up.alloc ?_ _ | with_reducible refine Up.drew ?_ | refine Up.trans ?_ (by with_reducible assumption)))))).mono ?_); rintro e w1 ⟨ap, np, cp, vc, vd, rfl, hvc, hvd, U1⟩; obtain ⟨ac, cc, rfl⟩ := ownsRow_shape hvc; obtain ⟨ad, cd, rfl⟩ := ownsRow_shape hvd; have HD := Lib.hid hvd; clear hvc hvd)
  refine wp_region_up 9 (by kernel_rfl) (by kernel_rfl) ?_
  simp only [List.take, List.drop]
  repeat (refine wpUp_step (fun K hK => ?_); go_simp; (try simp only [↓IntWalk.iteOmega]); first
    | (refine hK _ _ ?_; clear hK K)
    | (apply stepU_c
       · intro wq hwq; (have hbq := bcell hwq; (repeat (first | refine fills_no (by rfl) ?_ | refine fills_yes (by rfl) (fun vq hvq => ?_))); simp only [List.filter_nil, fills]; unfold upAt; (try ((have hconv := conv_any (ownsRow_up (ownsRow_up HD.out (Up.alloc (Up.refl _) _)) hwq) rfl; obtain ⟨hbr, r0, r1, r2, r3, r4, r5, r6, r7, r8, r9⟩ := RgAt.cells (k := kR) (box_up hwq (MapKept.heap_alloc w1 _).1)))); go_simp; (try go_bits); (try simp only [↓IntWalk.iteOmega]); (try (rw [dif_pos (by omega)]; go_simp; try go_bits)); first | exact upOut_value)
       go_simp; refine hK _ _ ?_; clear hK K))
  refine wpUp_nil (fun wq hwq => ?_)
  simp only [fills]
  have hU := ((U1.alloc _).trans hwq)
  clear hwq U1
  go_wp2
  refine bodyPost_ret (v := .tuple #[.string (bs dat), .int .i64 fin, .int .i64 uu]) (by simp [results, Tryz.results82, go_sem]; try rfl) rfl ⟨rfl, ?_⟩
  (repeat (first | with_reducible exact Up.refl _ | with_reducible assumption | with_reducible refine Up.set ?_ (by first | exact Nat.le_refl _ | (simp only []; omega) | (simp; omega)) _ | with_reducible refine Up.alloc ?_ _ | with_reducible refine Up.drew ?_ | refine Up.trans ?_ (by with_reducible assumption)))

end Go.Proofs.YtekbbnkkninolaaGreat

/- Walks of the program's blockData and BlockData. Conditions: what is known is valid and can be read; strings are no longer than 2^30 bytes. -/
namespace Go.Proofs.YtekbbnkkninolaaGreat
set_option linter.unusedVariables false
set_option linter.unusedSimpArgs false
open Go Go.RowKit

/-- The data of a block, the words of the dictionary being known. -/
def datK (k : KnD) (b : BlkD) : Option (List UInt8) := if b.raw then some b.body.data.toList else
  if (decK k b.body.data.toList).fin = 0 ∧ (decK k b.body.data.toList).used = b.body.size ∧ ((decK k b.body.data.toList).data.length : Int) = b.size then some (decK k b.body.data.toList).data else none
theorem datK_eq {s : SetD} {dict : List UInt8} (h : fitsB s dict = true) (b : BlkD) : dataO s dict b = datK (learnK (startK s) dict) b := by
  unfold dataO datK decW
  rw [if_pos h]

set_option maxRecDepth 100000 in
set_option maxHeartbeats 8000000 in
theorem blockDataI_any (k : KnD) (v : Value) (lo : Nat) (b : BlkD) (w : World) (h : k.Ok) (hv : k.last = -1 → k.base = k.ps.length) (hr : RdP lo w v k.ps) (hs : b.body.size ≤ 1073741824) :
    Calls Tryz.prog 74  #[kV k v, blkV b] w (Same (optS (datK k b)) w) := by
  have cD := fun wx hr => decI_any k v lo b.body wx h hv hr hs
  have hrt := fun (wq : World) (hu : Up w wq) => hr.up hu
  unfold datK
  obtain ⟨num, raw, size, body⟩ := b
  simp only at hs cD ⊢
  cases raw
  · simp only [Bool.false_eq_true, if_false]
    obtain ⟨d1, d2, d3, d4⟩ := decK_bd h body.data.toList
    generalize decK k body.data.toList = R at *
    obtain ⟨dd, ff, uu⟩ := R
    simp only at d1 d2 d3 d4 ⊢
    unfold decV at cD
    simp only at cD
    have hbz := bs_size dd
    have hbl : uu ≤ body.size := by simpa using d4
    obtain ⟨a, cap, rfl, -, -, -, -⟩ := hr
    clear d4 h hv
    simp only [kV, blkV] at *
    by_cases h1 : ff = 0
    · by_cases h2 : uu = body.size
      · by_cases h3 : (dd.length : Int) = size
        · rw [if_pos ⟨h1, h2, h3⟩]
          unfold optS
          simp only [Option.getD_some, Option.isSome_some]
          subst h1; subst h2; subst h3
          go_enter Tryz.func74, Tryz.ntmps74
          go_wp2_with ((go_at_call 82; (with_reducible refine (cD _ (hrt _ (by (repeat (first | with_reducible exact Up.refl _ | with_reducible assumption | with_reducible refine Up.set ?_ (by first | exact Nat.le_refl _ | (simp only []; omega) | (simp; omega)) _ | with_reducible refine Up.alloc ?_ _ | with_reducible refine Up.drew ?_ | refine Up.trans ?_ (by with_reducible assumption)))))).mono ?_); rintro e w1 ⟨rfl, U1⟩; have B1 := bcell U1; have Z1 := U1.size; (try simp at Z1); (try rw [Nat.add_one_le_iff] at Z1)))
          go_ret2
          refine ⟨rfl, ?_⟩
          (repeat (first | with_reducible exact Up.refl _ | with_reducible assumption | with_reducible refine Up.set ?_ (by first | exact Nat.le_refl _ | (simp only []; omega) | (simp; omega)) _ | with_reducible refine Up.alloc ?_ _ | with_reducible refine Up.drew ?_ | refine Up.trans ?_ (by with_reducible assumption)))
        · rw [if_neg (fun h => h3 h.2.2)]
          unfold optS
          simp only [Option.getD_none, Option.isSome_none]
          have hne : ((dd.length : Int) == size) = false := by simpa using h3
          subst h1; subst h2
          clear h3
          go_enter Tryz.func74, Tryz.ntmps74
          go_wp2_with ((go_at_call 82; (with_reducible refine (cD _ (hrt _ (by (repeat (first | with_reducible exact Up.refl _ | with_reducible assumption | with_reducible refine Up.set ?_ (by first | exact Nat.le_refl _ | (simp only []; omega) | (simp; omega)) _ | with_reducible refine Up.alloc ?_ _ | with_reducible refine Up.drew ?_ | refine Up.trans ?_ (by with_reducible assumption)))))).mono ?_); rintro e w1 ⟨rfl, U1⟩; have B1 := bcell U1; have Z1 := U1.size; (try simp at Z1); (try rw [Nat.add_one_le_iff] at Z1)))
          go_ret2
          refine ⟨rfl, ?_⟩
          (repeat (first | with_reducible exact Up.refl _ | with_reducible assumption | with_reducible refine Up.set ?_ (by first | exact Nat.le_refl _ | (simp only []; omega) | (simp; omega)) _ | with_reducible refine Up.alloc ?_ _ | with_reducible refine Up.drew ?_ | refine Up.trans ?_ (by with_reducible assumption)))
      · rw [if_neg (fun h => h2 h.2.1)]
        unfold optS
        simp only [Option.getD_none, Option.isSome_none]
        have hne : ((uu : Int) == (body.size : Int)) = false := by simp; omega
        subst h1
        clear h2
        go_enter Tryz.func74, Tryz.ntmps74
        go_wp2_with ((go_at_call 82; (with_reducible refine (cD _ (hrt _ (by (repeat (first | with_reducible exact Up.refl _ | with_reducible assumption | with_reducible refine Up.set ?_ (by first | exact Nat.le_refl _ | (simp only []; omega) | (simp; omega)) _ | with_reducible refine Up.alloc ?_ _ | with_reducible refine Up.drew ?_ | refine Up.trans ?_ (by with_reducible assumption)))))).mono ?_); rintro e w1 ⟨rfl, U1⟩; have B1 := bcell U1; have Z1 := U1.size; (try simp at Z1); (try rw [Nat.add_one_le_iff] at Z1)))
        go_ret2
        refine ⟨rfl, ?_⟩
        (repeat (first | with_reducible exact Up.refl _ | with_reducible assumption | with_reducible refine Up.set ?_ (by first | exact Nat.le_refl _ | (simp only []; omega) | (simp; omega)) _ | with_reducible refine Up.alloc ?_ _ | with_reducible refine Up.drew ?_ | refine Up.trans ?_ (by with_reducible assumption)))
    · rw [if_neg (fun h => h1 h.1)]
      unfold optS
      simp only [Option.getD_none, Option.isSome_none]
      go_enter Tryz.func74, Tryz.ntmps74
      go_wp2_with ((go_at_call 82; (with_reducible refine (cD _ (hrt _ (by (repeat (first | with_reducible exact Up.refl _ | with_reducible assumption | with_reducible refine Up.set ?_ (by first | exact Nat.le_refl _ | (simp only []; omega) | (simp; omega)) _ | with_reducible refine Up.alloc ?_ _ | with_reducible refine Up.drew ?_ | refine Up.trans ?_ (by with_reducible assumption)))))).mono ?_); rintro e w1 ⟨rfl, U1⟩; have B1 := bcell U1; have Z1 := U1.size; (try simp at Z1); (try rw [Nat.add_one_le_iff] at Z1)))
      go_ret2
      refine ⟨rfl, ?_⟩
      (repeat (first | with_reducible exact Up.refl _ | with_reducible assumption | with_reducible refine Up.set ?_ (by first | exact Nat.le_refl _ | (simp only []; omega) | (simp; omega)) _ | with_reducible refine Up.alloc ?_ _ | with_reducible refine Up.drew ?_ | refine Up.trans ?_ (by with_reducible assumption)))
  · simp only [if_true]
    unfold optS
    simp only [Option.getD_some, Option.isSome_some, bs_self]
    obtain ⟨a, cap, rfl, -, -, -, -⟩ := hr
    clear cD h hv
    simp only [kV, blkV] at *
    go_enter Tryz.func74, Tryz.ntmps74
    go_wp2
    go_ret2
    refine ⟨rfl, ?_⟩
    (repeat (first | with_reducible exact Up.refl _ | with_reducible assumption | with_reducible refine Up.set ?_ (by first | exact Nat.le_refl _ | (simp only []; omega) | (simp; omega)) _ | with_reducible refine Up.alloc ?_ _ | with_reducible refine Up.drew ?_ | refine Up.trans ?_ (by with_reducible assumption)))

end Go.Proofs.YtekbbnkkninolaaGreat

/- Walk of the program's ReadIndexed. Conditions: the places can be read; the strings are no longer than 2^30 bytes. -/
namespace Go.Proofs.YtekbbnkkninolaaGreat
set_option linter.unusedVariables false
set_option linter.unusedSimpArgs false
open Go Go.RowKit

structure NiAt (T : Option (List UInt8)) (k : KnD) (vk : Value) (st : ByteArray) (ps : List PlaceD) (to z : Int) (w0 w : World) (i m : Nat) (acc : List UInt8) (wr : World) : Prop where
  fu : i + m = ps.length
  tot : addO acc (needN (datK k) st ps to m i (z + acc.length)) = T
  al : acc.length ≤ 64 * i
  kn : KnAt w.heap.size k vk wr
  up : Up w wr
def RelNi (T : Option (List UInt8)) (k : KnD) (vk : Value) (st : ByteArray) (ps : List PlaceD) (to z : Int) (w0 w : World) (x o : Value) (wr : World) : Prop := ∃ (i m : Nat) (acc : List UInt8), x = .int .i64 i ∧ o = .string (bs acc) ∧ NiAt T k vk st ps to z w0 w i m acc wr

set_option maxRecDepth 100000 in
set_option maxHeartbeats 8000000 in
theorem idxI_any (s : SetD) (dict st : ByteArray) (ps : List PlaceD) (v : Value) (base : Nat) (f t : Int) (w : World) (hli : -9223372036854775808 ≤ s.lit ∧ s.lit ≤ 9223372036854775807) (hi : dict.size ≤ 1073741824) (hs : st.size ≤ 1073741824) (hown : w.ownsRow base 76 2 v ps.length (cellsP ps)) (hl : ps.length ≤ 1048576) :
    Calls Tryz.prog 25  #[setV s, .string dict, .string st, v, .int .i64 f, .int .i64 t] w (Same (optS (idxO (dataO s dict.data.toList) (fitsB s dict.data.toList) st ps f t)) w) := by
  have cS := fun wx => startWI_any s dict wx hli hi
  have cV := fun wx h => validI_any ps v base wx h hl
  have hrow := fun (wq : World) (hu : Up w wq) => ownsRow_up hown hu
  have cK := fun wx h => seekI_any ps v base f wx h hl
  obtain ⟨a, ca, rfl, hm, hsome⟩ := ownsRow_any hown
  clear hown
  cases h1 : fitsB s dict.data.toList
  · have HN : Hid (idxO (dataO s dict.data.toList) false st ps f t = none) := rfl
    rw [h1] at cS
    simp only [Bool.false_eq_true, if_false] at cS
    rw [HN.out]
    clear h1 hsome
    simp only [setV] at *
    go_enter Tryz.func25, Tryz.ntmps25
    go_wp2_with (((go_at_call 64; (with_reducible refine (cS _).mono ?_); rintro e w1 ⟨rfl, U1⟩; have B1 := bcell U1; have Z1 := U1.size; (try simp at Z1); (try rw [Nat.add_one_le_iff] at Z1)); (try have Y1a : w.heap.size < w1.heap.size := (by omega)); (try have Y1b : w.heap.size + 1 < w1.heap.size := (by omega)); (try have Y1c : w.heap.size + 1 + 1 < w1.heap.size := (by omega)); (try have Y1d : w.heap.size + 1 + 1 + 1 < w1.heap.size := (by omega)); skip))
    go_ret2
    refine ⟨rfl, ?_⟩
    (repeat (first | with_reducible exact Up.refl _ | with_reducible assumption | with_reducible refine Up.set ?_ (by first | exact Nat.le_refl _ | (simp only []; omega) | (simp; omega)) _ | with_reducible refine Up.alloc ?_ _ | with_reducible refine Up.drew ?_ | refine Up.trans ?_ (by with_reducible assumption)))
  rw [h1] at cS
  simp only [if_true] at cS
  obtain ⟨f1, f2, f3⟩ := fitsB_lits h1
  have hok : (learnK (startK s) dict.data.toList).Ok := learnK_ok (startK_ok f1) f3
  have hdat : dataO s dict.data.toList = datK (learnK (startK s) dict.data.toList) := funext fun b => datK_eq h1 b
  have hbdd := fun (b : BlkD) (x : List UInt8) (h : datK (learnK (startK s) dict.data.toList) b = some x) (h4 : b.size ≤ 64) (h5 : b.body.size ≤ 64) => dataO_bd (s := s) (dict := dict.data.toList) (by rw [datK_eq h1]; exact h) h4 h5
  rw [hdat]
  have cD := fun v b wx hr hs => blockDataI_any (learnK (startK s) dict.data.toList) v 0 b wx hok (fun _ => rfl) hr hs
  clear f1 f2 f3 hok hdat h1
  generalize learnK (startK s) dict.data.toList = kk at *
  cases h2 : validP ps
  · have HN : Hid (idxO (datK kk) true st ps f t = none) := by unfold Hid idxO idxOk; rw [h2]; rfl
    rw [h2] at cV
    rw [HN.out]
    clear h2 hsome
    simp only [setV, kV] at *
    go_enter Tryz.func25, Tryz.ntmps25
    go_wp2_with (first | (go_at_call 64; (with_reducible refine (cS _).mono ?_); rintro e w1 ⟨v1, rfl, ho1, U1⟩; have B1 := bcell U1; have Z1 := U1.size; simp at Z1; (try rw [Nat.add_one_le_iff] at Z1); obtain ⟨a1, c1, rfl⟩ := ownsRow_shape ho1; clear ho1) | ((go_at_call 71; (with_reducible refine (cV _ (hrow _ (by (repeat (first | with_reducible exact Up.refl _ | with_reducible assumption | with_reducible refine Up.set ?_ (by first | exact Nat.le_refl _ | (simp only []; omega) | (simp; omega)) _ | with_reducible refine Up.alloc ?_ _ | with_reducible refine Up.drew ?_ | refine Up.trans ?_ (by with_reducible assumption)))))).mono ?_); rintro e w2 ⟨rfl, U2⟩; have B2 := bcell U2; have Z2 := U2.size; (try simp at Z2); (try rw [Nat.add_one_le_iff] at Z2)); (try have Y2a : w.heap.size < w2.heap.size := (by omega)); (try have Y2b : w.heap.size + 1 < w2.heap.size := (by omega)); (try have Y2c : w.heap.size + 1 + 1 < w2.heap.size := (by omega)); (try have Y2d : w.heap.size + 1 + 1 + 1 < w2.heap.size := (by omega)); skip))
    go_ret2
    refine ⟨rfl, ?_⟩
    (repeat (first | with_reducible exact Up.refl _ | with_reducible assumption | with_reducible refine Up.set ?_ (by first | exact Nat.le_refl _ | (simp only []; omega) | (simp; omega)) _ | with_reducible refine Up.alloc ?_ _ | with_reducible refine Up.drew ?_ | refine Up.trans ?_ (by with_reducible assumption)))
  obtain ⟨hl40, hpl⟩ := validP_at h2
  rw [h2] at cV
  have HSK : Hid (seekV ps f = seekK ps f ps.length) := by unfold Hid seekV; rw [h2]; rfl
  rw [HSK.out] at cK
  by_cases h3 : 4000 < st.size ∨ f < 0 ∨ t < f ∨ 2000 < t
  · have HN : Hid (idxO (datK kk) true st ps f t = none) := by
      unfold Hid idxO idxOk
      have : (decide (st.size ≤ 4000) && (inB f 0 t && inB t 0 2000)) = false := by
        rcases h3 with h | h | h | h
        · rw [show decide (st.size ≤ 4000) = false by simp; omega]; rfl
        · rw [inB_not.2 (Or.inl h)]; simp
        · rw [inB_not.2 (Or.inr h)]; simp
        · rw [inB_not.2 (Or.inr h)]; simp
      rw [this]; simp
    rw [HN.out]
    clear h2 hsome hpl
    simp only [setV, kV] at *
    have h4 : 4000 < st.size ∨ (st.size ≤ 4000 ∧ f < 0) ∨ (st.size ≤ 4000 ∧ 0 ≤ f ∧ t < f) ∨ (st.size ≤ 4000 ∧ 0 ≤ f ∧ f ≤ t ∧ 2000 < t) := by omega
    clear h3
    rcases h4 with h | ⟨ha, h⟩ | ⟨ha, hb, h⟩ | ⟨ha, hb, hc, h⟩
    all_goals
      go_enter Tryz.func25, Tryz.ntmps25
      go_wp2_with (first | (go_at_call 64; (with_reducible refine (cS _).mono ?_); rintro e w1 ⟨v1, rfl, ho1, U1⟩; have B1 := bcell U1; have Z1 := U1.size; simp at Z1; (try rw [Nat.add_one_le_iff] at Z1); obtain ⟨a1, c1, rfl⟩ := ownsRow_shape ho1; clear ho1) | ((go_at_call 71; (with_reducible refine (cV _ (hrow _ (by (repeat (first | with_reducible exact Up.refl _ | with_reducible assumption | with_reducible refine Up.set ?_ (by first | exact Nat.le_refl _ | (simp only []; omega) | (simp; omega)) _ | with_reducible refine Up.alloc ?_ _ | with_reducible refine Up.drew ?_ | refine Up.trans ?_ (by with_reducible assumption)))))).mono ?_); rintro e w2 ⟨rfl, U2⟩; have B2 := bcell U2; have Z2 := U2.size; (try simp at Z2); (try rw [Nat.add_one_le_iff] at Z2)); (try have Y2a : w.heap.size < w2.heap.size := (by omega)); (try have Y2b : w.heap.size + 1 < w2.heap.size := (by omega)); (try have Y2c : w.heap.size + 1 + 1 < w2.heap.size := (by omega)); (try have Y2d : w.heap.size + 1 + 1 + 1 < w2.heap.size := (by omega)); skip))
      go_ret2
      refine ⟨rfl, ?_⟩
      (repeat (first | with_reducible exact Up.refl _ | with_reducible assumption | with_reducible refine Up.set ?_ (by first | exact Nat.le_refl _ | (simp only []; omega) | (simp; omega)) _ | with_reducible refine Up.alloc ?_ _ | with_reducible refine Up.drew ?_ | refine Up.trans ?_ (by with_reducible assumption)))
  obtain ⟨h3, f0, f1, t1⟩ : st.size ≤ 4000 ∧ 0 ≤ f ∧ f ≤ t ∧ t ≤ 2000 := by omega
  have HN : Hid (idxO (datK kk) true st ps f t = idxR (datK kk) st ps f t) := by
    unfold Hid idxO idxOk
    rw [h2, inB_iff.2 ⟨f0, f1⟩, inB_iff.2 ⟨by omega, t1⟩, decide_eq_true h3]; rfl
  rw [HN.out]
  clear h2 HN
  unfold idxR
  by_cases h6 : f = t
  · rw [if_pos h6]
    clear hsome hpl
    subst h6
    simp only [setV, kV] at *
    go_enter Tryz.func25, Tryz.ntmps25
    go_wp2_with (first | (go_at_call 64; (with_reducible refine (cS _).mono ?_); rintro e w1 ⟨v1, rfl, ho1, U1⟩; have B1 := bcell U1; have Z1 := U1.size; simp at Z1; (try rw [Nat.add_one_le_iff] at Z1); obtain ⟨a1, c1, rfl⟩ := ownsRow_shape ho1; clear ho1) | ((go_at_call 71; (with_reducible refine (cV _ (hrow _ (by (repeat (first | with_reducible exact Up.refl _ | with_reducible assumption | with_reducible refine Up.set ?_ (by first | exact Nat.le_refl _ | (simp only []; omega) | (simp; omega)) _ | with_reducible refine Up.alloc ?_ _ | with_reducible refine Up.drew ?_ | refine Up.trans ?_ (by with_reducible assumption)))))).mono ?_); rintro e w2 ⟨rfl, U2⟩; have B2 := bcell U2; have Z2 := U2.size; (try simp at Z2); (try rw [Nat.add_one_le_iff] at Z2)); (try have Y2a : w.heap.size < w2.heap.size := (by omega)); (try have Y2b : w.heap.size + 1 < w2.heap.size := (by omega)); (try have Y2c : w.heap.size + 1 + 1 < w2.heap.size := (by omega)); (try have Y2d : w.heap.size + 1 + 1 + 1 < w2.heap.size := (by omega)); skip))
    go_ret2
    refine ⟨rfl, ?_⟩
    (repeat (first | with_reducible exact Up.refl _ | with_reducible assumption | with_reducible refine Up.set ?_ (by first | exact Nat.le_refl _ | (simp only []; omega) | (simp; omega)) _ | with_reducible refine Up.alloc ?_ _ | with_reducible refine Up.drew ?_ | refine Up.trans ?_ (by with_reducible assumption)))
  rw [if_neg h6]
  rcases seekK_lt (ps := ps) (o := f) ps.length (Nat.le_refl _) with h7 | ⟨j, j1, -, j3, j4⟩
  · rw [h7, if_pos (by omega)]
    rw [h7] at cK
    clear hsome hpl
    simp only [setV, kV] at *
    go_enter Tryz.func25, Tryz.ntmps25
    go_wp2_with (first | (go_at_call 64; (with_reducible refine (cS _).mono ?_); rintro e w1 ⟨v1, rfl, ho1, U1⟩; have B1 := bcell U1; have Z1 := U1.size; simp at Z1; (try rw [Nat.add_one_le_iff] at Z1); obtain ⟨a1, c1, rfl⟩ := ownsRow_shape ho1; clear ho1) | ((go_at_call 71; (with_reducible refine (cV _ (hrow _ (by (repeat (first | with_reducible exact Up.refl _ | with_reducible assumption | with_reducible refine Up.set ?_ (by first | exact Nat.le_refl _ | (simp only []; omega) | (simp; omega)) _ | with_reducible refine Up.alloc ?_ _ | with_reducible refine Up.drew ?_ | refine Up.trans ?_ (by with_reducible assumption)))))).mono ?_); rintro e w2 ⟨rfl, U2⟩; have B2 := bcell U2; have Z2 := U2.size; (try simp at Z2); (try rw [Nat.add_one_le_iff] at Z2)); (try have Y2a : w.heap.size < w2.heap.size := (by omega)); (try have Y2b : w.heap.size + 1 < w2.heap.size := (by omega)); (try have Y2c : w.heap.size + 1 + 1 < w2.heap.size := (by omega)); (try have Y2d : w.heap.size + 1 + 1 + 1 < w2.heap.size := (by omega)); skip) | ((go_at_call 72; (with_reducible refine (cK _ (hrow _ (by (repeat (first | with_reducible exact Up.refl _ | with_reducible assumption | with_reducible refine Up.set ?_ (by first | exact Nat.le_refl _ | (simp only []; omega) | (simp; omega)) _ | with_reducible refine Up.alloc ?_ _ | with_reducible refine Up.drew ?_ | refine Up.trans ?_ (by with_reducible assumption)))))).mono ?_); rintro e w3 ⟨rfl, U3⟩; have B3 := bcell U3; have Z3 := U3.size; (try simp at Z3); (try rw [Nat.add_one_le_iff] at Z3)); (try have Y3a : w.heap.size < w3.heap.size := (by omega)); (try have Y3b : w.heap.size + 1 < w3.heap.size := (by omega)); (try have Y3c : w.heap.size + 1 + 1 < w3.heap.size := (by omega)); (try have Y3d : w.heap.size + 1 + 1 + 1 < w3.heap.size := (by omega)); skip))
    go_ret2
    refine ⟨rfl, ?_⟩
    (repeat (first | with_reducible exact Up.refl _ | with_reducible assumption | with_reducible refine Up.set ?_ (by first | exact Nat.le_refl _ | (simp only []; omega) | (simp; omega)) _ | with_reducible refine Up.alloc ?_ _ | with_reducible refine Up.drew ?_ | refine Up.trans ?_ (by with_reducible assumption)))
  rw [j3, if_neg (by omega), Int.toNat_natCast]
  rw [j3] at cK
  have hgd : ps.getD j ⟨0, 0⟩ = ps[j] := by rw [List.getD_eq_getElem?_getD, List.getElem?_eq_getElem j1]; rfl
  rw [hgd]
  obtain ⟨g, rfl, hnc, hcm, -, hg, hcells⟩ := hsome (by omega)
  have HC : Hid (∀ i (hi : i < ps.length), w.cell? ⟨g, i * 2, none⟩ = some (.int .i64 (ps[i]).place) ∧ w.cell? ⟨g, i * 2 + 1, none⟩ = some (.int .i64 (ps[i]).start)) := fun i hi => plc_cells hcells (List.getElem?_eq_getElem hi)
  obtain ⟨x0, x1⟩ := HC.out j j1
  obtain ⟨-, -, q3, q4⟩ := hpl j j1
  have HPL := Lib.hid hpl
  unfold fromN
  unfold maxLen at hcm
  obtain ⟨T, HT⟩ : ∃ T, Hid (needN (datK kk) st ps t (ps.length - j) j (ps[j]).start = T) := ⟨_, Lib.hid rfl⟩
  have HGE : Hid (∀ d, T = some d → t ≤ (ps[j]).start + d.length) := fun d h => need_ge (ps.length - j) j (ps[j]).start d (HT.out.trans h)
  rw [HT.out]
  clear hcells hsome hpl j3 hgd HSK hm
  generalize (ps[j]).start = z at *
  generalize (ps[j]).place = pl at *
  simp only [setV, kV] at *
  go_enter Tryz.func25, Tryz.ntmps25
  go_wp2_with (first | (go_at_call 64; (with_reducible refine (cS _).mono ?_); rintro e w1 ⟨v1, rfl, ho1, U1⟩; have B1 := bcell U1; have Z1 := U1.size; simp at Z1; (try rw [Nat.add_one_le_iff] at Z1); have HR1 := Lib.hid ((RdP.of_own ho1).low (Nat.zero_le _)); obtain ⟨a1, c1, rfl⟩ := ownsRow_shape ho1; clear ho1; have hg1 : g < w1.heap.size := (by omega)) | (((go_at_call 71; (with_reducible refine (cV _ (hrow _ (by (repeat (first | with_reducible exact Up.refl _ | with_reducible assumption | with_reducible refine Up.set ?_ (by first | exact Nat.le_refl _ | (simp only []; omega) | (simp; omega)) _ | with_reducible refine Up.alloc ?_ _ | with_reducible refine Up.drew ?_ | refine Up.trans ?_ (by with_reducible assumption)))))).mono ?_); rintro e w2 ⟨rfl, U2⟩; have B2 := bcell U2; have Z2 := U2.size; (try simp at Z2); (try rw [Nat.add_one_le_iff] at Z2)); (try have Y2a : w.heap.size < w2.heap.size := (by omega)); (try have Y2b : w.heap.size + 1 < w2.heap.size := (by omega)); (try have Y2c : w.heap.size + 1 + 1 < w2.heap.size := (by omega)); (try have Y2d : w.heap.size + 1 + 1 + 1 < w2.heap.size := (by omega)); skip); have hg2 : g < w2.heap.size := (by omega); have Y2 : w1.heap.size < w2.heap.size := (by omega)) | (((go_at_call 72; (with_reducible refine (cK _ (hrow _ (by (repeat (first | with_reducible exact Up.refl _ | with_reducible assumption | with_reducible refine Up.set ?_ (by first | exact Nat.le_refl _ | (simp only []; omega) | (simp; omega)) _ | with_reducible refine Up.alloc ?_ _ | with_reducible refine Up.drew ?_ | refine Up.trans ?_ (by with_reducible assumption)))))).mono ?_); rintro e w3 ⟨rfl, U3⟩; have B3 := bcell U3; have Z3 := U3.size; (try simp at Z3); (try rw [Nat.add_one_le_iff] at Z3)); (try have Y3a : w.heap.size < w3.heap.size := (by omega)); (try have Y3b : w.heap.size + 1 < w3.heap.size := (by omega)); (try have Y3c : w.heap.size + 1 + 1 < w3.heap.size := (by omega)); (try have Y3d : w.heap.size + 1 + 1 + 1 < w3.heap.size := (by omega)); skip); have hg3 : g < w3.heap.size := (by omega); have Y3 : w1.heap.size < w3.heap.size := (by omega); have hU3 : Up w w3 := (by (repeat (first | with_reducible exact Up.refl _ | with_reducible assumption | with_reducible refine Up.set ?_ (by first | exact Nat.le_refl _ | (simp only []; omega) | (simp; omega)) _ | with_reducible refine Up.alloc ?_ _ | with_reducible refine Up.drew ?_ | refine Up.trans ?_ (by with_reducible assumption)))); have x3 := (hU3.cell (p := ⟨g, j * 2 + 1, none⟩) hg).trans x1))
  have hK3 : KnAt w1.heap.size kk (.slice a1 kk.ps.length c1) w3 := box_up U3 (box_up U2 (MapKept.heap_alloc w1 _).1)
  have HU13 : Hid (Up w1 w3) := by clear hU3; (repeat (first | with_reducible exact Up.refl _ | with_reducible assumption | with_reducible refine Up.set ?_ (by first | exact Nat.le_refl _ | (simp only []; omega) | (simp; omega)) _ | with_reducible refine Up.alloc ?_ _ | with_reducible refine Up.drew ?_ | refine Up.trans ?_ (by with_reducible assumption)))
  go_loopw [16, 18] (fun x o wr => RelNi T kk (.slice a1 kk.ps.length c1) st ps t z w w1 x o wr) (fun x _ _ => ps.length - (intOf x).toNat)
  case atStart => exact ⟨j, ps.length - j, [], rfl, rfl, ⟨by omega, by rw [addO_nil]; simpa using HT.out, by simp, hK3, HU13.out⟩⟩
  case round =>
    obtain ⟨i, m, acc, rfl, rfl, hM⟩ := hrel
    have HM := Lib.hid hM
    have hfu := hM.fu
    have hal := hM.al
    have hza := bs_size acc
    obtain ⟨hb0, r0, r1, r2, r3, r4, r5⟩ := hM.kn.cells
    have hup : Up w wr := Up.trans (by (repeat (first | with_reducible exact Up.refl _ | with_reducible assumption | with_reducible refine Up.set ?_ (by first | exact Nat.le_refl _ | (simp only []; omega) | (simp; omega)) _ | with_reducible refine Up.alloc ?_ _ | with_reducible refine Up.drew ?_ | refine Up.trans ?_ (by with_reducible assumption)))) hM.up
    have HUW := Lib.hid hup
    have hup1 := hM.up
    clear hM hK3 x3 x0 x1 B1 B2 B3 U2 U3 hU3
    by_cases hlt : z + acc.length < t
    · by_cases hkl : i < ps.length
      · obtain ⟨x0, x1⟩ := HC.out i hkl
        have c0 := (hup.cell (p := ⟨g, i * 2, none⟩) hg).trans x0
        have c1' := (hup.cell (p := ⟨g, i * 2 + 1, none⟩) hg).trans x1
        have hgr := Nat.lt_of_lt_of_le hg hup.size
        obtain ⟨p1, p2, p3, p4⟩ := HPL.out i hkl
        have hpk : ps[i]? = some ps[i] := List.getElem?_eq_getElem hkl
        have HNO : Hid (blkIdx st ps i (z + acc.length) = none → T = none) := fun h => HM.out.tot.symm.trans (by rw [need_none hlt hkl h]; rfl)
        clear x0 x1
        by_cases hst : (ps[i]).start = z + acc.length
        · have hpn : (((ps[i]).place.toNat : Nat) : Int) = (ps[i]).place := by omega
          have cP := fun wx => parseI_any st ((ps[i]).place.toNat : Nat) wx hs
          rw [hpn] at cP
          cases hp : parseOk st (ps[i]).place.toNat
          · have HTN : Hid (T = none) := HNO.out (blkIdx_not hpk (fun h => by rw [hp] at h; exact absurd h.2.2.1 (by decide)))
            have e := parseV_not hp
            rw [hpn] at e
            rw [e] at cP
            unfold noBlock at cP
            clear hp e hpk HNO
            generalize (ps[i]).place = P at *
            generalize (ps[i]).start = Z at *
            subst hst
            go_wp2_with ((((go_at_call 73; (with_reducible refine (cP _).mono ?_); rintro e w4 ⟨rfl, U4⟩; have B4 := bcell U4; have Z4 := U4.size; (try simp at Z4); (try rw [Nat.add_one_le_iff] at Z4)); (try have Y4a : w.heap.size < w4.heap.size := (by omega)); (try have Y4b : w.heap.size + 1 < w4.heap.size := (by omega)); (try have Y4c : w.heap.size + 1 + 1 < w4.heap.size := (by omega)); (try have Y4d : w.heap.size + 1 + 1 + 1 < w4.heap.size := (by omega)); skip); have Y4 : w1.heap.size < w4.heap.size := (by omega)))
            go_ret2
            refine ⟨by rw [HTN.out]; rfl, ?_⟩
            exact HUW.out.trans (by (repeat (first | with_reducible exact Up.refl _ | with_reducible assumption | with_reducible refine Up.set ?_ (by first | exact Nat.le_refl _ | (simp only []; omega) | (simp; omega)) _ | with_reducible refine Up.alloc ?_ _ | with_reducible refine Up.drew ?_ | refine Up.trans ?_ (by with_reducible assumption))))
          · have hb := parse_bd hp
            have e := parseV_yes hp
            rw [hpn, parsed_blk] at e
            rw [e] at cP
            have hbi := fun (hn : numAt st ((ps[i]).place.toNat + 2) = i) => blkIdx_yes (st := st) (at' := z + acc.length) hpk ⟨hst, p1, hp, hn⟩
            have hbn := fun (hn : numAt st ((ps[i]).place.toNat + 2) ≠ i) => HNO.out (blkIdx_not (at' := z + acc.length) hpk (fun h => hn h.2.2.2))
            have hnum : (blkAt st (ps[i]).place.toNat).num = numAt st ((ps[i]).place.toNat + 2) := rfl
            clear hp e hpk HNO hpn
            rw [← hnum] at hbi hbn
            generalize endAt st (ps[i]).place.toNat + 2 = en at *
            generalize blkAt st (ps[i]).place.toNat = b at *
            generalize (ps[i]).place = P at *
            generalize (ps[i]).start = Z at *
            subst hst
            clear hnum
            by_cases hn : b.num = i
            · have hbi2 := hbi hn
              have cD2 := fun wx hr => cD (.slice a1 kk.ps.length c1) b wx hr (by omega)
              have hrt := fun (wq : World) (hu : Up wr wq) => HR1.out.up (hup1.trans hu)
              obtain ⟨m, rfl⟩ : ∃ q, m = q + 1 := ⟨m - 1, by omega⟩
              cases hdo : datK kk b with
              | none =>
                have HTN : Hid (T = none) := HM.out.tot.symm.trans (by rw [need_bad hlt hbi2 hdo]; rfl)
                rw [hdo] at cD2
                clear hdo hbi hbn hbi2 cD
                obtain ⟨bn, br, bz, bb⟩ := b
                simp only at hn
                subst hn
                unfold optS at cD2
                simp only [blkV, Option.getD_none, Option.isSome_none] at cD2 cP
                go_wp2_with (first | (((go_at_call 73; (with_reducible refine (cP _).mono ?_); rintro e w4 ⟨rfl, U4⟩; have B4 := bcell U4; have Z4 := U4.size; (try simp at Z4); (try rw [Nat.add_one_le_iff] at Z4)); (try have Y4a : w.heap.size < w4.heap.size := (by omega)); (try have Y4b : w.heap.size + 1 < w4.heap.size := (by omega)); (try have Y4c : w.heap.size + 1 + 1 < w4.heap.size := (by omega)); (try have Y4d : w.heap.size + 1 + 1 + 1 < w4.heap.size := (by omega)); skip); have Y4 : w1.heap.size < w4.heap.size := (by omega)) | (((go_at_call 74; (with_reducible refine (cD2 _ (hrt _ (by (repeat (first | with_reducible exact Up.refl _ | with_reducible assumption | with_reducible refine Up.set ?_ (by first | exact Nat.le_refl _ | (simp only []; omega) | (simp; omega)) _ | with_reducible refine Up.alloc ?_ _ | with_reducible refine Up.drew ?_ | refine Up.trans ?_ (by with_reducible assumption)))))).mono ?_); rintro e w5 ⟨rfl, U5⟩; have B5 := bcell U5; have Z5 := U5.size; (try simp at Z5); (try rw [Nat.add_one_le_iff] at Z5)); (try have Y5a : w.heap.size < w5.heap.size := (by omega)); (try have Y5b : w.heap.size + 1 < w5.heap.size := (by omega)); (try have Y5c : w.heap.size + 1 + 1 < w5.heap.size := (by omega)); (try have Y5d : w.heap.size + 1 + 1 + 1 < w5.heap.size := (by omega)); skip); have Y5 : w1.heap.size < w5.heap.size := (by omega)))
                go_ret2
                refine ⟨by rw [HTN.out]; rfl, ?_⟩
                exact HUW.out.trans (by (repeat (first | with_reducible exact Up.refl _ | with_reducible assumption | with_reducible refine Up.set ?_ (by first | exact Nat.le_refl _ | (simp only []; omega) | (simp; omega)) _ | with_reducible refine Up.alloc ?_ _ | with_reducible refine Up.drew ?_ | refine Up.trans ?_ (by with_reducible assumption))))
              | some x =>
                have hxl := hbdd b x hdo hb.2.1 hb.2.2
                have hzx := bs_size x
                have HTN : Hid (addO (acc ++ x) (needN (datK kk) st ps t m (i + 1) (z + (acc ++ x).length)) = T) := by
                  unfold Hid
                  rw [List.length_append, Int.natCast_add, ← Int.add_assoc]
                  exact (need_addO acc hlt hbi2 hdo).symm.trans HM.out.tot
                rw [hdo] at cD2
                clear hdo hbi hbn hbi2 cD hbdd
                obtain ⟨bn, br, bz, bb⟩ := b
                simp only at hn
                subst hn
                unfold optS at cD2
                simp only [blkV, Option.getD_some, Option.isSome_some] at cD2 cP
                go_wp2_with (first | (((go_at_call 73; (with_reducible refine (cP _).mono ?_); rintro e w4 ⟨rfl, U4⟩; have B4 := bcell U4; have Z4 := U4.size; (try simp at Z4); (try rw [Nat.add_one_le_iff] at Z4)); (try have Y4a : w.heap.size < w4.heap.size := (by omega)); (try have Y4b : w.heap.size + 1 < w4.heap.size := (by omega)); (try have Y4c : w.heap.size + 1 + 1 < w4.heap.size := (by omega)); (try have Y4d : w.heap.size + 1 + 1 + 1 < w4.heap.size := (by omega)); skip); have Y4 : w1.heap.size < w4.heap.size := (by omega)) | (((go_at_call 74; (with_reducible refine (cD2 _ (hrt _ (by (repeat (first | with_reducible exact Up.refl _ | with_reducible assumption | with_reducible refine Up.set ?_ (by first | exact Nat.le_refl _ | (simp only []; omega) | (simp; omega)) _ | with_reducible refine Up.alloc ?_ _ | with_reducible refine Up.drew ?_ | refine Up.trans ?_ (by with_reducible assumption)))))).mono ?_); rintro e w5 ⟨rfl, U5⟩; have B5 := bcell U5; have Z5 := U5.size; (try simp at Z5); (try rw [Nat.add_one_le_iff] at Z5)); (try have Y5a : w.heap.size < w5.heap.size := (by omega)); (try have Y5b : w.heap.size + 1 < w5.heap.size := (by omega)); (try have Y5c : w.heap.size + 1 + 1 < w5.heap.size := (by omega)); (try have Y5d : w.heap.size + 1 + 1 + 1 < w5.heap.size := (by omega)); skip); have Y5 : w1.heap.size < w5.heap.size := (by omega)))
                go_roundw
                case rel => exact ⟨i + 1, m, acc ++ x, by go_num, congrArg Value.string (bs_app _ _), ⟨by omega, HTN.out, by rw [List.length_append]; omega, box_up (by (repeat (first | with_reducible exact Up.refl _ | with_reducible assumption | with_reducible refine Up.set ?_ (by first | exact Nat.le_refl _ | (simp only []; omega) | (simp; omega)) _ | with_reducible refine Up.alloc ?_ _ | with_reducible refine Up.drew ?_ | refine Up.trans ?_ (by with_reducible assumption)))) HM.out.kn, HM.out.up.trans (by (repeat (first | with_reducible exact Up.refl _ | with_reducible assumption | with_reducible refine Up.set ?_ (by first | exact Nat.le_refl _ | (simp only []; omega) | (simp; omega)) _ | with_reducible refine Up.alloc ?_ _ | with_reducible refine Up.drew ?_ | refine Up.trans ?_ (by with_reducible assumption))))⟩⟩
                case measure => simp [intOf]; omega
            · have HTN : Hid (T = none) := hbn hn
              clear hbi hbn cD
              obtain ⟨bn, br, bz, bb⟩ := b
              simp only at hn
              simp only [blkV] at cP
              go_wp2_with ((((go_at_call 73; (with_reducible refine (cP _).mono ?_); rintro e w4 ⟨rfl, U4⟩; have B4 := bcell U4; have Z4 := U4.size; (try simp at Z4); (try rw [Nat.add_one_le_iff] at Z4)); (try have Y4a : w.heap.size < w4.heap.size := (by omega)); (try have Y4b : w.heap.size + 1 < w4.heap.size := (by omega)); (try have Y4c : w.heap.size + 1 + 1 < w4.heap.size := (by omega)); (try have Y4d : w.heap.size + 1 + 1 + 1 < w4.heap.size := (by omega)); skip); have Y4 : w1.heap.size < w4.heap.size := (by omega)))
              go_ret2
              refine ⟨by rw [HTN.out]; rfl, ?_⟩
              exact HUW.out.trans (by (repeat (first | with_reducible exact Up.refl _ | with_reducible assumption | with_reducible refine Up.set ?_ (by first | exact Nat.le_refl _ | (simp only []; omega) | (simp; omega)) _ | with_reducible refine Up.alloc ?_ _ | with_reducible refine Up.drew ?_ | refine Up.trans ?_ (by with_reducible assumption))))
        · have HTN : Hid (T = none) := HNO.out (blkIdx_not hpk (fun h => hst h.1))
          clear hpk HNO
          generalize (ps[i]).place = P at *
          generalize (ps[i]).start = Z at *
          have hne : (Z == z + (acc.length : Int)) = false := by simpa using hst
          have hne2 : (Z != z + (acc.length : Int)) = true := by simpa using hst
          have hd2 : decide (ps.length ≤ i) = false := by simpa using hkl
          clear hst
          go_wp2
          go_ret2
          refine ⟨by rw [HTN.out]; rfl, ?_⟩
          exact HUW.out.trans (by (repeat (first | with_reducible exact Up.refl _ | with_reducible assumption | with_reducible refine Up.set ?_ (by first | exact Nat.le_refl _ | (simp only []; omega) | (simp; omega)) _ | with_reducible refine Up.alloc ?_ _ | with_reducible refine Up.drew ?_ | refine Up.trans ?_ (by with_reducible assumption))))
      · have HTN : Hid (T = none) := HM.out.tot.symm.trans (by rw [need_out hlt (by omega)]; rfl)
        have e : i = ps.length := by omega
        go_wp2
        go_ret2
        refine ⟨by rw [HTN.out]; rfl, ?_⟩
        exact HUW.out.trans (by (repeat (first | with_reducible exact Up.refl _ | with_reducible assumption | with_reducible refine Up.set ?_ (by first | exact Nat.le_refl _ | (simp only []; omega) | (simp; omega)) _ | with_reducible refine Up.alloc ?_ _ | with_reducible refine Up.drew ?_ | refine Up.trans ?_ (by with_reducible assumption))))
    · have HTN : Hid (T = some acc) := HM.out.tot.symm.trans (by rw [need_end hlt]; simp [addO])
      have hge := HGE.out acc HTN.out
      have HX : Hid ((bs acc).extract (f - z).toNat (t - z).toNat = bs ((acc.drop (f - z).toNat).take ((t - z).toNat - (f - z).toNat))) := bs_ext _ _ _
      go_wp2
      go_ret2
      refine ⟨by rw [HTN.out, HX.out]; rfl, HUW.out⟩

end Go.Proofs.YtekbbnkkninolaaGreat

/- Texts joined into one: Eqb, Law. Conditions: as each says. -/

/- Walks of the laws' helpers that take a setting over and compare blocks. Conditions: none. -/
namespace Go.Proofs.YtekbbnkkninolaaGreat
set_option linter.unusedVariables false
set_option linter.unusedSimpArgs false
open Go Go.RowKit

set_option maxRecDepth 100000 in
set_option maxHeartbeats 1000000 in
theorem toSet_any (o l m : Int) (w : World) :
    Calls Tryz.prog 18  #[.agg #[.int .i64 o, .int .i64 l, .int .i64 m]] w (Same (.agg #[.int .i64 o, .int .i64 l, .int .i64 m]) w) := by
  go_enter Tryz.func18, Tryz.ntmps18
  go_wp2
  refine bodyPost_ret (v := .agg #[.int .i64 o, .int .i64 l, .int .i64 m]) (by simp [results, Tryz.results18, go_sem]; try rfl) rfl ⟨rfl, ?_⟩
  (repeat (first | with_reducible exact Up.refl _ | with_reducible assumption | with_reducible refine Up.set ?_ (by first | exact Nat.le_refl _ | (simp only []; omega) | (simp; omega)) _ | with_reducible refine Up.alloc ?_ _ | with_reducible refine Up.drew ?_ | refine Up.trans ?_ (by with_reducible assumption)))
end Go.Proofs.YtekbbnkkninolaaGreat

/- The end of every law's row: the call answers true and nothing that was there has turned. Conditions: those of post_law. -/
namespace Go.Proofs.YtekbbnkkninolaaGreat
set_option linter.unusedVariables false
set_option linter.unusedSimpArgs false
open Go.ChangeShapes Go.WideShapes Go.ChangeAt Go.RowKit

theorem TryzlaidOut : laidOutB Tryz.prog = true := by kernel_rfl
theorem own : ownKnob Tryz.prog.godebug = none := by kernel_rfl

theorem trodAll_up {H : Type} {enc : TypeId × Value → H} {P : Program} (hl : laidOutB P = true) {W W' : World} (hb : Below W.heap.size W W') : ∀ (ts : List TypeId) (vs : List Value) (ds : List (DataW H)) (ps : List MemPlace),
    (∀ t ∈ ts, P.readableRec t = true ∧ t < P.types.size) → (∀ x ∈ ps, x.block < W.heap.size) → DataW.TrodAll enc P W 0 (fun _ => true) true ts vs ds ps → DataW.TrodAll enc P W' 0 (fun b => decide (b < W.heap.size)) true ts vs ds ps
  | [], [], [], _, _, _, h => h
  | t :: ts, v :: vs, d :: ds, ps, ht, hp, h => by
    obtain ⟨p, q, h1, h2, rfl⟩ := h
    refine ⟨p, q, Below.trod hl (ht t (List.mem_cons_self ..)).1 (ht t (List.mem_cons_self ..)).2 h1 hb fun x hx => hp x (List.mem_append_left _ hx), ?_, rfl⟩
    exact trodAll_up hl hb ts vs ds q (fun t h => ht t (List.mem_cons_of_mem _ h)) (fun x hx => hp x (List.mem_append_right _ hx)) h2
  | [], _ :: _, _, _, _, _, h => h.elim
  | _ :: _, [], _, _, _, _, h => h.elim
  | [], [], _ :: _, _, _, _, h => h.elim
  | _ :: _, _ :: _, [], _, _, _, h => h.elim

theorem post_law {H : Type} {enc : TypeId × Value → H} {P : Program} {f : Func} {s : ChangeSpec} {W W' : World} {args : Array Value} {ds gs : List (DataW H)} {before : List MemPlace} {tb : TypeId}
    (hl : laidOutB P = true) (hp : (f.params.all fun t => P.readableRec t && decide (t < P.types.size)) = true) (hrt : f.resultTypes = #[tb]) (htb : P.underlying tb = some .bool) (hvars : s.vars = [])
    (hW : DataW.Whole enc P f.params.toList s.vars false W args.toList ds gs before) (hs : ∀ ds' : List (DataW H), ds' = ds → (s.fn H ds').results = [.lit (.bool true)] ∧ (s.fn H ds').args = ds ∧ (s.fn H ds').vars = []) (hb : Up W W') :
    s.post enc P f false true false false W args (.bool true) W' := by
  have hlt := fun p hp => hW.lt (p := p) hp
  obtain ⟨p, q, hA, hV, rfl, hz, hn⟩ := id hW
  rw [hvars] at hV
  obtain ⟨rfl, rfl⟩ := trodVars_none hV
  obtain ⟨e1, e2, e3⟩ := hs (ds ++ []) (by simp)
  refine ⟨ds, [], p ++ [], [], p, [], hW, ?_, ?_, ?_, ?_, fun h => by cases h⟩
  · rw [e1, hrt]
    exact trodAll_mk1 (shut_bool htb true)
  · rw [e2]
    refine trodAll_up hl hb _ _ _ _ (fun t ht => ?_) (fun x hx => hlt x (by simpa using hx)) hA
    have := Array.all_eq_true_iff_forall_mem.1 hp t (by simpa using ht)
    simpa using this
  · rw [e3, hvars]
    rfl
  · exact hb.frame _

end Go.Proofs.YtekbbnkkninolaaGreat

/- Small lemmas on five and six arguments, and on places that come in. Conditions: none. -/
namespace Go.Proofs.YtekbbnkkninolaaGreat
set_option linter.unusedVariables false
set_option linter.unusedSimpArgs false
open Go.ChangeShapes Go.WideShapes Go.ChangeAt Go.RowKit Go.Joins Go.Deep
open Go.ChangeMaps (open_string shut_string)

theorem trodAll_six {H : Type} {enc : TypeId × Value → H} {P : Program} {w : World} {base : Nat} {spare : Nat → Bool} {held : Bool} {t0 t1 t2 t3 t4 t5 : TypeId} {args : Array Value} {ds : List (DataW H)} {ps : List MemPlace} (h : DataW.TrodAll enc P w base spare held [t0, t1, t2, t3, t4, t5] args.toList ds ps) :
    ∃ v0 v1 v2 v3 v4 v5 d0 d1 d2 d3 d4 d5 p0 p1 p2 p3 p4 p5, args = #[v0, v1, v2, v3, v4, v5] ∧ ds = [d0, d1, d2, d3, d4, d5] ∧ ps = p0 ++ p1 ++ p2 ++ p3 ++ p4 ++ p5 ∧ DataW.Trod enc P w base spare held t0 v0 d0 p0 ∧ DataW.Trod enc P w base spare held t1 v1 d1 p1 ∧ DataW.Trod enc P w base spare held t2 v2 d2 p2 ∧ DataW.Trod enc P w base spare held t3 v3 d3 p3 ∧ DataW.Trod enc P w base spare held t4 v4 d4 p4 ∧ DataW.Trod enc P w base spare held t5 v5 d5 p5 := by
  obtain ⟨v0, vs0, d0, ds0, p0, q0, hargs, rfl, rfl, g0, h0⟩ := trodAll_cons h
  obtain ⟨v1, vs1, d1, ds1, p1, q1, rfl, rfl, rfl, g1, h1⟩ := trodAll_cons h0
  obtain ⟨v2, vs2, d2, ds2, p2, q2, rfl, rfl, rfl, g2, h2⟩ := trodAll_cons h1
  obtain ⟨v3, vs3, d3, ds3, p3, q3, rfl, rfl, rfl, g3, h3⟩ := trodAll_cons h2
  obtain ⟨v4, vs4, d4, ds4, p4, q4, rfl, rfl, rfl, g4, h4⟩ := trodAll_cons h3
  obtain ⟨v5, vs5, d5, ds5, p5, q5, rfl, rfl, rfl, g5, h5⟩ := trodAll_cons h4
  obtain ⟨rfl, rfl, rfl⟩ := trodAll_nil h5
  exact ⟨v0, v1, v2, v3, v4, v5, d0, d1, d2, d3, d4, d5, p0, p1, p2, p3, p4, p5, by cases args; simp_all, rfl, by simp, g0, g1, g2, g3, g4, g5⟩

theorem open_argP {H : Type} {enc : TypeId × Value → H} {W : World} {fuel : Nat} {a0 : Option Addr} {len cap : Nat} {d : DataW H} {p : List MemPlace}
    (h : DataW.trod enc Tryz.prog W 0 (fun _ => true) true fuel 31 [.slice a0 len cap] = some (d, p)) (hlt : ∀ x ∈ p, x.block < W.heap.size) : ∃ ps, ArgP W (.slice a0 len cap) ps := by
  rcases open_slice_pairs Tryz.underlying31 Tryz.underlying93 (by kernel_rfl) rfl rfl (by kernel_rfl) (by kernel_rfl) h with ⟨hc, hx⟩ | ⟨a, len', cap', m, k, V0, V1, D0, D1, P0, P1, hc, _, hl, hm, hmm, hx, hall⟩
  · simp only [List.cons.injEq, and_true] at hc
    cases hc
    exact ⟨[], none, 0, rfl, by simp, fun h => absurd h (Nat.lt_irrefl _)⟩
  · simp only [List.cons.injEq, and_true] at hc
    cases hc
    simp only [if_true] at hmm
    subst hmm
    simp only [Prod.mk.injEq] at hx
    obtain ⟨rfl, rfl⟩ := hx
    have hint : ∀ i, i < m → V0 i = .int .i64 (intOf (V0 i)) ∧ V1 i = .int .i64 (intOf (V1 i)) := fun i hi => by
      obtain ⟨-, -, t0, t1⟩ := hall i hi
      obtain ⟨n0, e0, -, -⟩ := DataW.trod_int Tryz.underlying3 t0
      obtain ⟨n1, e1, -, -⟩ := DataW.trod_int Tryz.underlying3 t1
      simp only [List.cons.injEq, and_true] at e0 e1
      rw [e0, e1]; exact ⟨rfl, rfl⟩
    have hlen : ((List.range len).map fun i => (⟨intOf (V0 i), intOf (V1 i)⟩ : PlaceD)).length = len := by simp
    refine ⟨(List.range len).map fun i => ⟨intOf (V0 i), intOf (V1 i)⟩, some a, m, by rw [hlen], by rw [hlen]; omega, fun hp => ?_⟩
    rw [hlen] at hp
    obtain ⟨b, off, spot⟩ := a
    have hspot : spot = none := by simpa [Addr.add] using World.cell?_spot (hall 0 (by omega)).1
    subst hspot
    refine ⟨b, off, rfl, by rw [hlen]; exact hl, hm, hlt (.cell b off) (List.mem_append_left _ (MemPlace.mem_row.2 ⟨0, by omega, by simp⟩)), fun i q hi => ?_⟩
    have hil : i < len := by
      have := (List.getElem?_eq_some_iff.1 hi).1
      rw [hlen] at this; exact this
    have hq : q = ⟨intOf (V0 i), intOf (V1 i)⟩ := by
      simp [hil] at hi; exact hi.symm
    subst hq
    obtain ⟨x0, x1, -, -⟩ := hall i (by omega)
    obtain ⟨y0, y1⟩ := hint i (by omega)
    rw [add_plain] at x0 x1
    exact ⟨x0.trans (congrArg some y0), (x1.trans (congrArg some y1))⟩

end Go.Proofs.YtekbbnkkninolaaGreat

