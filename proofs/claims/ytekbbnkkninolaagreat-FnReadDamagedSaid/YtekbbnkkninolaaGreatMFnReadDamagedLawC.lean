/- Texts joined into one: the walks and laws that the last text leans on. Conditions: as each says. -/
import Derived.Test.YtekbbnkkninolaaGreatMFnReadDamagedLawB
import Derived.Test.YtekbbnkkninolaaGreatComp
import Derived.Test.YtekbbnkkninolaaGreatBa
import Derived.Test.YtekbbnkkninolaaGreatKV
import Derived.Test.YtekbbnkkninolaaGreatSets

/- Walks of the reference's functions that make blocks and containers. Conditions: as each says; for the outer ones none but the strings' bound. -/
namespace Go.Proofs.YtekbbnkkninolaaGreat
set_option linter.unusedVariables false
set_option linter.unusedSimpArgs false
open Go Go.RowKit

/-- The block of data. -/
def blockD (s : SetD) (dict : List UInt8) (n : Int) (d : ByteArray) : BlkD := match compW s dict d.data.toList with
  | some st => if st.length < d.size then ⟨n, false, d.size, bs st⟩ else ⟨n, true, d.size, d⟩
  | none => ⟨n, true, d.size, d⟩
theorem blockD_bd (s : SetD) (dict : List UInt8) (n : Int) (d : ByteArray) : (blockD s dict n d).num = n ∧ (blockD s dict n d).size = d.size ∧ (blockD s dict n d).body.size ≤ d.size := by
  unfold blockD
  split
  · split
    · exact ⟨rfl, rfl, by rw [bs_size]; omega⟩
    · exact ⟨rfl, rfl, Nat.le_refl _⟩
  · exact ⟨rfl, rfl, Nat.le_refl _⟩
set_option maxRecDepth 100000 in
set_option maxHeartbeats 4000000 in
theorem l5Block_any (s : SetD) (dict : ByteArray) (n : Int) (d : ByteArray) (w : World) (hi : dict.size ≤ 1073741824) (hd : d.size ≤ 1073741824) :
    Calls Tryz.prog 110  #[setV s, .string dict, .int .i64 n, .string d] w (Same (blkV (blockD s dict.data.toList n d)) w) := by
  have cC := fun wx => compWS_any s dict d wx hi hd
  unfold blockD
  cases h : compW s dict.data.toList d.data.toList with
  | none =>
    rw [h] at cC
    unfold optS at cC
    clear h
    simp only [setV, blkV, Option.getD_none, Option.isSome_none] at *
    go_enter Tryz.func110, Tryz.ntmps110
    go_wp2_with ((go_at_call 29; (with_reducible refine (cC _).mono ?_); rintro e w1 ⟨rfl, U1⟩; have B1 := bcell U1; have Z1 := U1.size; (try simp at Z1); (try rw [Nat.add_one_le_iff] at Z1)))
    refine bodyPost_ret (v := .agg #[.int .i64 n, .bool true, .int .i64 d.size, .string d]) (by simp [results, Tryz.results110, go_sem, B1]) rfl ⟨rfl, ?_⟩
    (repeat (first | with_reducible exact Up.refl _ | with_reducible assumption | with_reducible refine Up.set ?_ (by first | exact Nat.le_refl _ | (simp only []; omega) | (simp; omega)) _ | with_reducible refine Up.alloc ?_ _ | with_reducible refine Up.drew ?_ | refine Up.trans ?_ (by with_reducible assumption)))
  | some st =>
    rw [h] at cC
    unfold optS at cC
    have hz := bs_size st
    clear h
    simp only [setV, blkV, Option.getD_some, Option.isSome_some] at *
    by_cases hl : st.length < d.size
    · rw [if_pos hl]
      go_enter Tryz.func110, Tryz.ntmps110
      go_wp2_with ((go_at_call 29; (with_reducible refine (cC _).mono ?_); rintro e w1 ⟨rfl, U1⟩; have B1 := bcell U1; have Z1 := U1.size; (try simp at Z1); (try rw [Nat.add_one_le_iff] at Z1)))
      refine bodyPost_ret (v := .agg #[.int .i64 n, .bool false, .int .i64 d.size, .string (bs st)]) (by simp [results, Tryz.results110, go_sem, B1]) rfl ⟨rfl, ?_⟩
      (repeat (first | with_reducible exact Up.refl _ | with_reducible assumption | with_reducible refine Up.set ?_ (by first | exact Nat.le_refl _ | (simp only []; omega) | (simp; omega)) _ | with_reducible refine Up.alloc ?_ _ | with_reducible refine Up.drew ?_ | refine Up.trans ?_ (by with_reducible assumption)))
    · rw [if_neg hl]
      go_enter Tryz.func110, Tryz.ntmps110
      go_wp2_with ((go_at_call 29; (with_reducible refine (cC _).mono ?_); rintro e w1 ⟨rfl, U1⟩; have B1 := bcell U1; have Z1 := U1.size; (try simp at Z1); (try rw [Nat.add_one_le_iff] at Z1)))
      refine bodyPost_ret (v := .agg #[.int .i64 n, .bool true, .int .i64 d.size, .string d]) (by simp [results, Tryz.results110, go_sem, B1]) rfl ⟨rfl, ?_⟩
      (repeat (first | with_reducible exact Up.refl _ | with_reducible assumption | with_reducible refine Up.set ?_ (by first | exact Nat.le_refl _ | (simp only []; omega) | (simp; omega)) _ | with_reducible refine Up.alloc ?_ _ | with_reducible refine Up.drew ?_ | refine Up.trans ?_ (by with_reducible assumption)))

set_option maxRecDepth 100000 in
set_option maxHeartbeats 1000000 in
theorem l5Ready_any (s : SetD) (d : ByteArray) (w : World) (hd : d.size ≤ 1073741824) :
    Calls Tryz.prog 62  #[setV s, .string d] w (Same (.bool (fitsB s d.data.toList)) w) := by
  have cF := fun wx => fitsS_any s d wx hd
  simp only [setV] at *
  go_enter Tryz.func62, Tryz.ntmps62
  go_wp2_with ((go_at_call 95; (with_reducible refine (cF _).mono ?_); rintro e w1 ⟨rfl, U1⟩; have B1 := bcell U1; have Z1 := U1.size; (try simp at Z1); (try rw [Nat.add_one_le_iff] at Z1)))
  go_ret
  refine ⟨rfl, ?_⟩
  (repeat (first | with_reducible exact Up.refl _ | with_reducible assumption | with_reducible refine Up.set ?_ (by first | exact Nat.le_refl _ | (simp only []; omega) | (simp; omega)) _ | with_reducible refine Up.alloc ?_ _ | with_reducible refine Up.drew ?_ | refine Up.trans ?_ (by with_reducible assumption)))

/-- The bytes of the blocks of data. -/
def textD (b : BlkD) : List UInt8 := (textB b.num b.raw b.size b.body).data.toList
def makeN (s : SetD) (dict : List UInt8) (size : Nat) : Nat → Int → List UInt8 → List UInt8
  | 0, _, _ => []
  | n + 1, f, d => if d = [] then [] else textD (blockD s dict f (bs (d.take size))) ++ makeN s dict size n (f + 1) (d.drop size)
theorem makeN_nil (s : SetD) (dict : List UInt8) (size n : Nat) (f : Int) : makeN s dict size n f [] = [] := by cases n <;> simp [makeN]
theorem makeN_step {s : SetD} {dict : List UInt8} {size n : Nat} {f : Int} {d : List UInt8} (hd : d ≠ []) : makeN s dict size (n + 1) f d = textD (blockD s dict f (bs (d.take size))) ++ makeN s dict size n (f + 1) (d.drop size) := by rw [makeN, if_neg hd]
theorem textD_len (b : BlkD) (h : b.body.size ≤ 64) : (textD b).length ≤ 74 := by
  have e : (textD b).length = (textB b.num b.raw b.size b.body).size := rfl
  rw [e]
  simp [textB, inner, strOfNums_size, two_size]
  omega
structure MkAt (T : List UInt8) (s : SetD) (dict : List UInt8) (size : Nat) (w : World) (m : Nat) (f : Int) (d acc : List UInt8) (n : Nat) (wr : World) : Prop where
  tot : acc ++ makeN s dict size n f d = T
  len : d.length ≤ n
  d2 : d.length ≤ 2000
  num : f = 40 - (m : Int)
  m40 : m ≤ 40
  fit : d.length ≤ m * size
  accl : acc.length + 74 * m ≤ 2960
  set : SetAt w.heap.size s.ord s.lit s.most wr
  up : Up w wr
theorem MkAt.step {T : List UInt8} {s : SetD} {dict : List UInt8} {size : Nat} {w : World} {m : Nat} {f : Int} {d acc : List UInt8} {n : Nat} {wr wq : World} (h : MkAt T s dict size w m f d acc n wr) (hd : d ≠ []) (hm : 1 ≤ m) (hn : 1 ≤ n) (hs : 1 ≤ size) (hu : Up wr wq)
    {td : List UInt8} (ht : td = textD (blockD s dict f (bs (d.take size)))) (htl : td.length ≤ 74) : MkAt T s dict size w (m - 1) (f + 1) (d.drop size) (acc ++ td) (n - 1) wq := by
  obtain ⟨m, rfl⟩ : ∃ m', m = m' + 1 := ⟨m - 1, by omega⟩
  obtain ⟨n, rfl⟩ : ∃ n', n = n' + 1 := ⟨n - 1, by omega⟩
  obtain ⟨h1, h2, h3, h4, h5, h6, h7, h8, h9⟩ := h
  have hl := List.length_pos_iff.2 hd
  refine ⟨?_, by rw [List.length_drop]; omega, by rw [List.length_drop]; omega, by omega, by omega, ?_, by rw [List.length_append]; omega, box_up hu h8, h9.trans hu⟩
  · rw [← h1, makeN_step hd, ht, List.append_assoc]; rfl
  · rw [Nat.succ_mul] at h6
    rw [List.length_drop]
    show _ ≤ m * size
    omega
def RelMkC (T : List UInt8) (s : SetD) (dict : List UInt8) (size : Nat) (w : World) (f t out : Value) (wr : World) : Prop := ∃ (m n : Nat) (g : Int) (d acc : List UInt8), f = .int .i64 g ∧ t = .string (bs d) ∧ out = .string (bs acc) ∧ MkAt T s dict size w m g d acc n wr

set_option maxRecDepth 100000 in
set_option maxHeartbeats 4000000 in
theorem l5Make_any (s : SetD) (dict : ByteArray) (d : ByteArray) (size : Nat) (w : World) (hi : dict.size ≤ 1073741824) (hd : d.size ≤ 2000) (hs1 : 1 ≤ size) (hs2 : size ≤ 64) (hf : d.size ≤ 40 * size) :
    Calls Tryz.prog 115  #[setV s, .string dict, .int .i64 0, .string d, .int .i64 size] w (Same (.string (bs (makeN s dict.data.toList size d.size 0 d.data.toList))) w) := by
  have cB := fun n d wx hd => l5Block_any s dict n d wx hi hd
  have hdl := ba_len d
  have HL : Hid (d = bs d.data.toList) := (bs_self d).symm
  have HDL : Hid (d.data.toList.length = d.size) := hdl
  simp only [setV] at *
  clear hdl
  generalize d.data.toList = L at *
  go_enter Tryz.func115, Tryz.ntmps115
  go_wp2
  go_loopw [2, 3, 11] (fun f t out wr => RelMkC (makeN s dict.data.toList size d.size 0 L) s dict.data.toList size w f t out wr) (fun _ t _ _ => slen t)
  case atStart => exact ⟨40, d.size, 0, L, [], rfl, congrArg Value.string HL.out, rfl, rfl, by rw [HDL.out]; exact Nat.le_refl _, by rw [HDL.out]; exact hd, by omega, by omega, by rw [HDL.out]; exact hf, by simp, (MapKept.heap_alloc w _).1, (Up.refl _).alloc _⟩
  case round =>
    obtain ⟨m, n, g, d', acc, rfl, rfl, rfl, hG⟩ := hrel
    have HG := Lib.hid hG
    obtain ⟨-, s0, s1, s2⟩ := hG.set.cells
    have hd2 := hG.d2
    have hz := bs_size d'
    have hza := bs_size acc
    have hacl := hG.accl
    have hm4 := hG.m40
    have hg := hG.num
    have hwz := (Array.getElem?_eq_some_iff.1 hG.set).1
    clear hG
    by_cases hde : d' = []
    · subst hde
      have HT := Lib.hid HG.out.tot
      rw [makeN_nil, List.append_nil] at HT
      rw [show bs ([] : List UInt8) = (⟨#[]⟩ : ByteArray) from rfl]
      go_wp2
      go_ret
      exact ⟨ret_str (by rw [HT.out]), HG.out.up⟩
    · have HNE : (bs d').toList.isEmpty = false := by rw [Lib.toList_data, bs_data]; cases d' with | nil => exact absurd rfl hde | cons _ _ => rfl
      have hpos : 0 < d'.length := List.length_pos_iff.2 hde
      have hm1 : 1 ≤ m := by
        rcases Nat.eq_zero_or_pos m with e | e
        · have := HG.out.fit
          rw [e, Nat.zero_mul] at this; omega
        · exact e
      have hg0 : 0 ≤ g := by omega
      have hg1 : g ≤ 39 := by omega
      have hn1 : 1 ≤ n := by have := HG.out.len; omega
      have hbd := blockD_bd s dict.data.toList g (bs (d'.take size))
      have hq : ∃ q : Nat, ((size = q ∧ size ≤ d'.length) ∨ (d'.length = q ∧ d'.length < size)) ∧ q ≤ d'.length ∧ 1 ≤ q ∧ q ≤ 64 ∧ Hid ((bs d').extract 0 q = bs (d'.take size)) ∧ Hid ((bs d').extract q d'.length = bs (d'.drop size)) ∧ (d'.take size).length = q := by
        refine ⟨min size d'.length, by omega, by omega, by omega, by omega, ?_, ?_, by rw [List.length_take]⟩
        · unfold Hid
          rw [bs_ext, List.drop_zero, Nat.sub_zero]
          congr 1
          by_cases h : size ≤ d'.length
          · rw [Nat.min_eq_left h]
          · rw [Nat.min_eq_right (by omega), List.take_of_length_le (Nat.le_refl _), List.take_of_length_le (by omega)]
        · unfold Hid
          rw [bs_drop' _ _ _ rfl]
          congr 1
          by_cases h : size ≤ d'.length
          · rw [Nat.min_eq_left h]
          · rw [Nat.min_eq_right (by omega), List.drop_of_length_le (Nat.le_refl _), List.drop_of_length_le (by omega)]
      obtain ⟨q, hqe, hq1, hq2, hq3, HTK, HDR, hq4⟩ := hq
      have hz4 := bs_size (d'.take size)
      have hbd1 := hbd.1
      have hbd2 := hbd.2.1
      have hbd3 := hbd.2.2
      have cB' := fun wx => cB g (bs (d'.take size)) wx (by omega)
      have HBD : Hid (blockD s dict.data.toList g (bs (d'.take size)) = blockD s dict.data.toList g (bs (d'.take size))) := rfl
      rw [hz4, hq4] at hbd2 hbd3
      clear cB hg hbd hf hza
      generalize hbe : blockD s dict.data.toList g (bs (d'.take size)) = bd at *
      have HBE := Lib.hid hbe
      have cT := fun wx => l5Text_any bd.num bd.raw bd.size bd.body wx (by omega) (by omega) (by omega)
      have htl := textD_len bd (by omega)
      have HTD : Hid (textB bd.num bd.raw bd.size bd.body = bs (textD bd)) := (bs_self _).symm
      rw [HTD.out] at cT
      have hzt := bs_size (textD bd)
      have hza := bs_size acc
      simp only [blkV] at cB'
      clear hbe hbd1 hbd2 hbd3 HBD HTD
      have HTD2 : Hid (textD bd = textD (blockD s dict.data.toList g (bs (d'.take size)))) := by unfold Hid; rw [HBE.out]
      generalize textD bd = td at *
      have HQ4 := Lib.hid hq4
      clear hq4 hz4
      rcases hqe with ⟨rfl, hqs⟩ | ⟨rfl, hqs⟩
      all_goals
        go_wp2
        refine wp_region_up 10 (by kernel_rfl) (by kernel_rfl) ?_
        simp only [List.take, List.drop]
        repeat (refine wpUp_step (fun K hK => ?_); go_simp; (try simp only [↓IntWalk.iteOmega]); first
          | (refine hK _ _ ?_; clear hK K)
          | (apply stepU_c
             · intro wq hwq; (have hbq := bcell hwq; (repeat (first | refine fills_no (by rfl) ?_ | refine fills_yes (by rfl) (fun vq hvq => ?_))); simp only [List.filter_nil, fills]; unfold upAt; (try ((rw [HTK.out]))); go_simp; (try go_bits); (try simp only [↓IntWalk.iteOmega]); (try (rw [dif_pos (by omega)]; go_simp; try go_bits)); first | exact upOut_value | (apply upOut_call; (go_at_call 110; exact cB' _)) | (apply upOut_eq; (go_at_call 110; exact cB' _)) | (apply upOut_call; (go_at_call 145; exact cT _)) | (apply upOut_eq; (go_at_call 145; exact cT _)))
             go_simp; refine hK _ _ ?_; clear hK K))
        refine wpUp_nil (fun wq hwq => ?_)
        simp only [fills]
        have HU := Lib.hid hwq
        have HST := Lib.hid (MkAt.step HG.out hde hm1 hn1 hs1 hwq HTD2.out htl)
        clear hwq cT cB'
        go_wp2
        go_roundw
        case rel => exact ⟨m - 1, n - 1, g + 1, d'.drop size, acc ++ td, by go_num, congrArg Value.string (by first | exact HDR.out | (rw [hz]; exact HDR.out) | (rw [List.drop_of_length_le (by omega)]; rfl)), congrArg Value.string (bs_app _ _), HST.out⟩
        case measure => simp [slen, hz]; (first | omega | (rw [bs_ext, bs_size, List.length_take, List.length_drop]; omega))


/-- Whether data can be a container of blocks of a size. -/
def mkOk (s : SetD) (dict : List UInt8) (len : Nat) (size : Int) : Bool := fitsB s dict && (inB size 1 64 && (decide ((len : Int) ≤ size * 40) && decide (len ≤ 2000)))
def mkO (s : SetD) (dict d : List UInt8) (size : Int) : Option (List UInt8) := if mkOk s dict d.length size then some (makeN s dict size.toNat d.length 0 d) else none
theorem mkO_none {s : SetD} {dict d : List UInt8} {size : Int} (h : mkOk s dict d.length size = false) : mkO s dict d size = none := by unfold mkO; rw [h]; rfl
theorem optS_none : optS none = .tuple #[.string ByteArray.empty, .bool false] := rfl

set_option maxRecDepth 100000 in
set_option maxHeartbeats 4000000 in
theorem makeCS_any (s : SetD) (dict : ByteArray) (d : ByteArray) (size : Int) (w : World) (hi : dict.size ≤ 1073741824) (hd : d.size ≤ 1073741824) :
    Calls Tryz.prog 53  #[setV s, .string dict, .string d, .int .i64 size] w (Same (optS (mkO s dict.data.toList d.data.toList size)) w) := by
  have cR := fun wx => l5Ready_any s dict wx hi
  have cI := fun wx => l1In_any size 1 64 wx
  have hdl := ba_len d
  cases h1 : fitsB s dict.data.toList
  · rw [mkO_none (by unfold mkOk; rw [h1]; rfl), optS_none]
    rw [h1] at cR
    clear h1 hdl
    simp only [setV] at *
    go_enter Tryz.func53, Tryz.ntmps53
    go_wp2_with ((go_at_call 62; (with_reducible refine (cR _).mono ?_); rintro e w1 ⟨rfl, U1⟩; have B1 := bcell U1; have Z1 := U1.size; (try simp at Z1); (try rw [Nat.add_one_le_iff] at Z1)))
    go_ret2
    refine ⟨rfl, ?_⟩
    (repeat (first | with_reducible exact Up.refl _ | with_reducible assumption | with_reducible refine Up.set ?_ (by first | exact Nat.le_refl _ | (simp only []; omega) | (simp; omega)) _ | with_reducible refine Up.alloc ?_ _ | with_reducible refine Up.drew ?_ | refine Up.trans ?_ (by with_reducible assumption)))
  · cases h2 : inB size 1 64
    · rw [mkO_none (by unfold mkOk; rw [h1, h2]; rfl), optS_none]
      rw [h1] at cR
      rw [h2] at cI
      clear h1 h2 hdl
      simp only [setV] at *
      go_enter Tryz.func53, Tryz.ntmps53
      go_wp2_with (first | (go_at_call 62; (with_reducible refine (cR _).mono ?_); rintro e w1 ⟨rfl, U1⟩; have B1 := bcell U1; have Z1 := U1.size; (try simp at Z1); (try rw [Nat.add_one_le_iff] at Z1)) | (go_at_call 66; (with_reducible refine (cI _).mono ?_); rintro e w' ⟨rfl, rfl⟩))
      go_ret2
      refine ⟨rfl, ?_⟩
      (repeat (first | with_reducible exact Up.refl _ | with_reducible assumption | with_reducible refine Up.set ?_ (by first | exact Nat.le_refl _ | (simp only []; omega) | (simp; omega)) _ | with_reducible refine Up.alloc ?_ _ | with_reducible refine Up.drew ?_ | refine Up.trans ?_ (by with_reducible assumption)))
    · obtain ⟨b1, b2⟩ := inB_iff.1 h2
      by_cases h3 : (d.size : Int) ≤ size * 40
      · by_cases h4 : d.size ≤ 2000
        · obtain ⟨z, rfl⟩ := Int.eq_ofNat_of_zero_le (by omega : 0 ≤ size)
          have cM := fun wx => l5Make_any s dict d z wx hi h4 (by omega) (by omega) (by omega)
          have HE : Hid (optS (mkO s dict.data.toList d.data.toList (z : Int)) = .tuple #[.string (bs (makeN s dict.data.toList z d.size 0 d.data.toList)), .bool true]) := by
            unfold Hid mkO mkOk
            rw [h1, h2, hdl, decide_eq_true h3, decide_eq_true h4]; rfl
          rw [HE.out]
          rw [h1] at cR
          rw [h2] at cI
          clear h1 h2 hdl HE
          generalize makeN s dict.data.toList z d.size 0 d.data.toList = mk at *
          simp only [setV] at *
          go_enter Tryz.func53, Tryz.ntmps53
          go_wp2_with (first | (go_at_call 62; (with_reducible refine (cR _).mono ?_); rintro e w1 ⟨rfl, U1⟩; have B1 := bcell U1; have Z1 := U1.size; (try simp at Z1); (try rw [Nat.add_one_le_iff] at Z1)) | (go_at_call 66; (with_reducible refine (cI _).mono ?_); rintro e w' ⟨rfl, rfl⟩) | (go_at_call 115; (with_reducible refine (cM _).mono ?_); rintro e w2 ⟨rfl, U2⟩; have B2 := bcell U2; have Z2 := U2.size; (try simp at Z2); (try rw [Nat.add_one_le_iff] at Z2)))
          go_ret2
          refine ⟨rfl, ?_⟩
          (repeat (first | with_reducible exact Up.refl _ | with_reducible assumption | with_reducible refine Up.set ?_ (by first | exact Nat.le_refl _ | (simp only []; omega) | (simp; omega)) _ | with_reducible refine Up.alloc ?_ _ | with_reducible refine Up.drew ?_ | refine Up.trans ?_ (by with_reducible assumption)))
        · rw [mkO_none (by unfold mkOk; rw [h1, h2, hdl, decide_eq_false h4, Bool.and_false]; rfl), optS_none]
          rw [h1] at cR
          rw [h2] at cI
          clear h1 h2 hdl
          simp only [setV] at *
          go_enter Tryz.func53, Tryz.ntmps53
          go_wp2_with (first | (go_at_call 62; (with_reducible refine (cR _).mono ?_); rintro e w1 ⟨rfl, U1⟩; have B1 := bcell U1; have Z1 := U1.size; (try simp at Z1); (try rw [Nat.add_one_le_iff] at Z1)) | (go_at_call 66; (with_reducible refine (cI _).mono ?_); rintro e w' ⟨rfl, rfl⟩))
          go_ret2
          refine ⟨rfl, ?_⟩
          (repeat (first | with_reducible exact Up.refl _ | with_reducible assumption | with_reducible refine Up.set ?_ (by first | exact Nat.le_refl _ | (simp only []; omega) | (simp; omega)) _ | with_reducible refine Up.alloc ?_ _ | with_reducible refine Up.drew ?_ | refine Up.trans ?_ (by with_reducible assumption)))
      · rw [mkO_none (by unfold mkOk; rw [h1, h2, hdl, decide_eq_false h3, Bool.false_and]; rfl), optS_none]
        rw [h1] at cR
        rw [h2] at cI
        clear h1 h2 hdl
        simp only [setV] at *
        go_enter Tryz.func53, Tryz.ntmps53
        go_wp2_with (first | (go_at_call 62; (with_reducible refine (cR _).mono ?_); rintro e w1 ⟨rfl, U1⟩; have B1 := bcell U1; have Z1 := U1.size; (try simp at Z1); (try rw [Nat.add_one_le_iff] at Z1)) | (go_at_call 66; (with_reducible refine (cI _).mono ?_); rintro e w' ⟨rfl, rfl⟩))
        go_ret2
        refine ⟨rfl, ?_⟩
        (repeat (first | with_reducible exact Up.refl _ | with_reducible assumption | with_reducible refine Up.set ?_ (by first | exact Nat.le_refl _ | (simp only []; omega) | (simp; omega)) _ | with_reducible refine Up.alloc ?_ _ | with_reducible refine Up.drew ?_ | refine Up.trans ?_ (by with_reducible assumption)))

end Go.Proofs.YtekbbnkkninolaaGreat

/- Walks of the reference's draws of dictionaries, settings and containers. Conditions: the reader is one (Rdr), its place is bounded; the setting is valid. -/
namespace Go.Proofs.YtekbbnkkninolaaGreat
set_option linter.unusedVariables false
set_option linter.unusedSimpArgs false
open Go Go.RowKit

theorem ext_le (s : ByteArray) (i j : Nat) : (s.extract i j).size ≤ s.size := by
  rw [ByteArray.size_extract]; omega

theorem l1Data_as (m : Int) (n : Nat) (hm : m = n) (rb : Nat) (B : Value) (s : SetD) (w : World) (N : Nat) (h : Rdr rb B w N) (hN : N ≤ 1000000000) (hn : n ≤ 1000) (hs : setOk s = true) :
    Calls Tryz.prog 86  #[.pointer (some ⟨rb, 0, none⟩), setV s, .int .i64 m] w (Drawn rb B 3010 (IsStr n) w) := by subst hm; exact l1Data_any rb B s n w N h hN hn hs
theorem l1Bytes_as (m : Int) (n : Nat) (hm : m = n) (rb : Nat) (B : Value) (w : World) (N : Nat) (h : Rdr rb B w N) (hN : N ≤ 1000000000) (hn : n ≤ 1000) :
    Calls Tryz.prog 98  #[.pointer (some ⟨rb, 0, none⟩), .int .i64 m] w (Drawn rb B 1001 (IsStr n) w) := by subst hm; exact l1Bytes_any rb B n w N h hN hn

set_option maxRecDepth 100000 in
set_option maxHeartbeats 4000000 in
theorem l4Dict_any (rb : Nat) (B : Value) (s : SetD) (d : ByteArray) (w : World) (N : Nat) (h : Rdr rb B w N) (hN : N ≤ 900000000) (hd : d.size ≤ 1000) (hs : setOk s = true) :
    Calls Tryz.prog 88  #[.pointer (some ⟨rb, 0, none⟩), setV s, .string d] w (Drawn rb B 3020 (IsStr 1000) w) := by
  have hlt := h.lt
  have HR := Lib.hid h
  have hne0 : ¬ w.heap.size = rb := by omega
  have hU := RdUp.refl rb B 0 w
  have e1 : w.heap.size < w.heap.size + 1 := by omega
  have cD := fun w N h hN => l1Data_as 20 20 rfl rb B s w N h hN (by omega) hs
  simp only [setV] at *
  clear hs
  by_cases hd0 : 0 < d.size
  all_goals
    go_enter Tryz.func88, Tryz.ntmps88
    go_wp2_with (first | (go_at_call 89; ((with_reducible refine (pick_at (n := 4) HR.out hU (by intro c hU; (repeat (first | with_reducible assumption | refine RdUp.ups ?_ (by with_reducible assumption) | with_reducible refine RdUp.set ?_ (by first | exact Nat.le_refl _ | (simp only []; omega) | (simp; omega)) _ | with_reducible refine RdUp.alloc ?_ _ | with_reducible refine RdUp.drew ?_ | with_reducible exact RdUp.of (Up.refl _)))) (by omega)).mono ?_); rintro e w' ⟨x, rfl, x0, x1, hU, U⟩; have D := gcell U.1; have Z := U.1.size; (try simp at Z); (try have Y0 : w.heap.size < w'.heap.size := (by omega)); (try have Y1 : w.heap.size + 1 < w'.heap.size := (by omega)); (try have Y2 : w.heap.size + 1 + 1 < w'.heap.size := (by omega)); (try have X0 : w.heap.size < w'.heap.size + 1 := (by omega)); (try have X1 : w.heap.size + 1 < w'.heap.size + 1 := (by omega)); (try have X2 : w.heap.size + 1 + 1 < w'.heap.size + 1 := (by omega)); (skip))) | (go_at_call 89; ((with_reducible refine (pick_at (n := (d.size : Int)) HR.out hU (by intro c hU; (repeat (first | with_reducible assumption | refine RdUp.ups ?_ (by with_reducible assumption) | with_reducible refine RdUp.set ?_ (by first | exact Nat.le_refl _ | (simp only []; omega) | (simp; omega)) _ | with_reducible refine RdUp.alloc ?_ _ | with_reducible refine RdUp.drew ?_ | with_reducible exact RdUp.of (Up.refl _)))) (by omega)).mono ?_); rintro e w' ⟨y, rfl, y0, y1, hU, U⟩; have D := gcell U.1; have Z := U.1.size; (try simp at Z); (try have Y0 : w.heap.size < w'.heap.size := (by omega)); (try have Y1 : w.heap.size + 1 < w'.heap.size := (by omega)); (try have Y2 : w.heap.size + 1 + 1 < w'.heap.size := (by omega)); (try have X0 : w.heap.size < w'.heap.size + 1 := (by omega)); (try have X1 : w.heap.size + 1 < w'.heap.size + 1 := (by omega)); (try have X2 : w.heap.size + 1 + 1 < w'.heap.size + 1 := (by omega)); ((obtain ⟨q, rfl⟩ := Int.eq_ofNat_of_zero_le y0); (have hq : q < d.size := (by omega))))) | (go_at_call 86; ((with_reducible refine (draw_at (cD) HR.out hU (by intro c hU; (repeat (first | with_reducible assumption | refine RdUp.ups ?_ (by with_reducible assumption) | with_reducible refine RdUp.set ?_ (by first | exact Nat.le_refl _ | (simp only []; omega) | (simp; omega)) _ | with_reducible refine RdUp.alloc ?_ _ | with_reducible refine RdUp.drew ?_ | with_reducible exact RdUp.of (Up.refl _)))) (by omega)).mono ?_); rintro e w' ⟨v, rfl, ⟨st, rfl, hst⟩, hU, U⟩; have D := gcell U.1; have Z := U.1.size; (try simp at Z); (try have Y0 : w.heap.size < w'.heap.size := (by omega)); (try have Y1 : w.heap.size + 1 < w'.heap.size := (by omega)); (try have Y2 : w.heap.size + 1 + 1 < w'.heap.size := (by omega)); (try have X0 : w.heap.size < w'.heap.size + 1 := (by omega)); (try have X1 : w.heap.size + 1 < w'.heap.size + 1 := (by omega)); (try have X2 : w.heap.size + 1 + 1 < w'.heap.size + 1 := (by omega)))))
    all_goals
      go_ret
      exact ⟨_, rfl, ⟨_, rfl, (by first | omega | exact Nat.zero_le _ | exact Nat.le_trans (ext_le _ _ _) hd)⟩, by exact RdUp.fin hU (by intro c hU; (repeat (first | with_reducible assumption | refine RdUp.ups ?_ (by with_reducible assumption) | with_reducible refine RdUp.set ?_ (by first | exact Nat.le_refl _ | (simp only []; omega) | (simp; omega)) _ | with_reducible refine RdUp.alloc ?_ _ | with_reducible refine RdUp.drew ?_ | with_reducible exact RdUp.of (Up.refl _)))) (by omega)⟩

theorem Rdr.least {rb : Nat} {B : Value} {w : World} {N : Nat} (h : Rdr rb B w N) : ∃ p, p ≤ N ∧ Rdr rb B w p ∧ Hid (∀ N', Rdr rb B w N' → p ≤ N') := by
  obtain ⟨⟨p, h1, h2⟩, h3⟩ := h
  refine ⟨p, h1, ⟨⟨p, Nat.le_refl _, h2⟩, h3⟩, fun N' h' => ?_⟩
  obtain ⟨⟨q, g1, g2⟩, _⟩ := h'
  rw [h2] at g2
  simp at g2
  omega
theorem RdUp.made {rb : Nat} {B : Value} {w w' : World} {p C M : Nat} (hm : Hid (∀ N', Rdr rb B w N' → p ≤ N')) (hg : w.grownBy w' (some rb)) (hr : Rdr rb B w' M) (hM : M ≤ p + C) : RdUp rb B C w w' :=
  ⟨hg, fun N' h' => hr.mono (by have := hm N' h'; omega)⟩
def isSetStr (n : Nat) (v : Value) : Prop := ∃ (s : SetD) (d : ByteArray), v = .tuple #[setV s, .string d] ∧ setOk s = true ∧ d.size ≤ n

set_option maxRecDepth 100000 in
set_option maxHeartbeats 4000000 in
theorem l5Setup_any (rb : Nat) (B : Value) (w : World) (N : Nat) (h : Rdr rb B w N) (hN : N ≤ 800000000) :
    Calls Tryz.prog 103  #[.pointer (some ⟨rb, 0, none⟩)] w (Drawn rb B 25000 (isSetStr 1000) w) := by
  obtain ⟨p, hp, h, HM⟩ := h.least
  have hlt := h.lt
  have HR := Lib.hid h
  have hne0 : ¬ w.heap.size = rb := by omega
  have hU := RdUp.refl rb B 0 w
  have e1 : w.heap.size < w.heap.size + 1 := by omega
  have cS := fun w N h hN => l1Some_any rb B w N h hN
  go_enter Tryz.func103, Tryz.ntmps103
  go_wp2_with ((go_at_call 85; ((with_reducible refine (draw_at (cS) HR.out hU (by intro c hU; (repeat (first | with_reducible assumption | refine RdUp.ups ?_ (by with_reducible assumption) | with_reducible refine RdUp.set ?_ (by first | exact Nat.le_refl _ | (simp only []; omega) | (simp; omega)) _ | with_reducible refine RdUp.alloc ?_ _ | with_reducible refine RdUp.drew ?_ | with_reducible exact RdUp.of (Up.refl _)))) (by omega)).mono ?_); rintro e w' ⟨v, rfl, ⟨s, rfl, hs⟩, hU, U⟩; have D := gcell U.1; have Z := U.1.size; (try simp at Z); (try have Y0 : w.heap.size < w'.heap.size := (by omega)); (try have Y1 : w.heap.size + 1 < w'.heap.size := (by omega)); (try have Y2 : w.heap.size + 1 + 1 < w'.heap.size := (by omega)); (try have X0 : w.heap.size < w'.heap.size + 1 := (by omega)); (try have X1 : w.heap.size + 1 < w'.heap.size + 1 := (by omega)); (try have X2 : w.heap.size + 1 + 1 < w'.heap.size + 1 := (by omega)))))
  have hSB : SetAt w'.heap.size s.ord s.lit s.most (w'.alloc (.cells #[.int .i64 s.ord, .int .i64 s.lit, .int .i64 s.most] 26)) := (MapKept.heap_alloc w' _).1
  have hRB : SetAt w.heap.size 0 0 0 (w'.alloc (.cells #[.int .i64 s.ord, .int .i64 s.lit, .int .i64 s.most] 26)) := box_up ((Up.refl _).alloc _) (gbox U.1 (MapKept.heap_alloc w _).1 (by simp; omega))
  have hU2 : RdUp rb B 5 w (w'.alloc (.cells #[.int .i64 s.ord, .int .i64 s.lit, .int .i64 s.most] 26)) := by exact RdUp.fin hU (by intro c hU; (repeat (first | with_reducible assumption | refine RdUp.ups ?_ (by with_reducible assumption) | with_reducible refine RdUp.set ?_ (by first | exact Nat.le_refl _ | (simp only []; omega) | (simp; omega)) _ | with_reducible refine RdUp.alloc ?_ _ | with_reducible refine RdUp.drew ?_ | with_reducible exact RdUp.of (Up.refl _)))) (by omega)
  generalize (w'.alloc (.cells #[.int .i64 s.ord, .int .i64 s.lit, .int .i64 s.most] 26)) = W at *
  have hr2 := hU2.2 _ h
  have HS := Lib.hid hs
  obtain ⟨hb, s0, s1, s2⟩ := hSB.cells
  obtain ⟨hb0, q0, q1, q2⟩ := hRB.cells
  have hfr := box_free hRB
  have hne1 : ¬ w'.heap.size = rb := by omega
  clear hs U D
  refine wp_region_rd 7 rb B 3100 (p + 5) (by kernel_rfl) (by kernel_rfl) hr2 ?_
  simp only [List.take, List.drop]
  repeat (refine wpR_step (fun K hK => ?_); go_simp; (try simp only [↓IntWalk.iteOmega]); first
    | (refine hK _ _ ?_; clear hK K)
    | (refine stepR_c ?_ ?_ ?_
       rotate_left
       · intro wq hwq hrq; (have hbq := gcell hwq; (repeat (first | refine fills_no (by rfl) ?_ | (refine fills_yes (by rfl) (fun vq hvq => ?_)))); simp only [List.filter_nil, fills]; unfold upAt; (try ((obtain ⟨d, rfl, hd⟩ := hvq))); go_simp; (try go_bits); (try simp only [↓IntWalk.iteOmega]); (try (rw [dif_pos (by omega)]; go_simp; try go_bits)); first | exact upOut_value)
       go_simp; refine hK _ _ ?_; clear hK K)
    | (refine stepR_d (by rfl) (by kernel_rfl) (fun v _ => IsStr 12 v) (fun _ _ _ h _ => h) (fun wq hwq hrq => ?_) ?_
       · (have hbq := gcell hwq; (repeat (first | refine fills_no (by rfl) ?_ | (refine fills_yes (by rfl) (fun vq hvq => ?_)))); simp only [List.filter_nil, fills]; unfold gAt; (try ((obtain ⟨d, rfl, hd⟩ := hvq))); go_simp; (try go_bits); (try simp only [↓IntWalk.iteOmega]); (try (rw [dif_pos (by omega)]; go_simp; try go_bits)); (with_reducible refine gOut_drawn ((l1Data_as 12 12 rfl rb B s wq _ hrq (by omega) (by omega) HS.out)) ?_); decide)
       refine hK _ _ ?_; clear hK K)
    | (refine stepR_d (by rfl) (by kernel_rfl) (fun v _ => IsStr 1000 v) (fun _ _ _ h _ => h) (fun wq hwq hrq => ?_) ?_
       · (have hbq := gcell hwq; (repeat (first | refine fills_no (by rfl) ?_ | (refine fills_yes (by rfl) (fun vq hvq => ?_)))); simp only [List.filter_nil, fills]; unfold gAt; (try ((obtain ⟨d, rfl, hd⟩ := hvq))); go_simp; (try go_bits); (try simp only [↓IntWalk.iteOmega]); (try (rw [dif_pos (by omega)]; go_simp; try go_bits)); (with_reducible refine gOut_drawn ((l4Dict_any rb B s d wq _ hrq (by omega) (by omega) HS.out)) ?_); decide)
       refine hK _ _ ?_; clear hK K))
  refine wpR_nil (fun wq hwq hrq => ?_)
  simp only [fills]
  rintro v ⟨d, rfl, hd⟩ - -
  have D := gcell hwq
  have hU := RdUp.made (C := 25000) HM (grownBy_trans hU2.1 hwq) hrq (by omega)
  go_wp2
  rw [onlyN_normal]
  go_wp2
  refine bodyPost_ret (v := _) (by simp [results, Tryz.results103, go_sem, D, q0, q1, q2, hb0, hne0]; rfl) rfl ?_
  refine ⟨_, rfl, ⟨_, _, rfl, HS.out, hd⟩, ?_⟩
  exact RdUp.fin hU (by intro c hU; (repeat (first | with_reducible assumption | refine RdUp.ups ?_ (by with_reducible assumption) | with_reducible refine RdUp.set ?_ (by first | exact Nat.le_refl _ | (simp only []; omega) | (simp; omega)) _ | with_reducible refine RdUp.alloc ?_ _ | with_reducible refine RdUp.drew ?_ | with_reducible exact RdUp.of (Up.refl _)))) (by omega)

set_option maxRecDepth 100000 in
set_option maxHeartbeats 4000000 in
theorem l5Wild_any (rb : Nat) (B : Value) (s : SetD) (n : Nat) (m : Int) (hm : m = n) (w : World) (N : Nat) (h : Rdr rb B w N) (hN : N ≤ 800000000) (hn : n ≤ 900) (hs : setOk s = true) :
    Calls Tryz.prog 104  #[.pointer (some ⟨rb, 0, none⟩), setV s, .int .i64 m] w (Drawn rb B 4020 (IsStr (n + 6)) w) := by
  have hlt := h.lt
  have HR := Lib.hid h
  have hne0 : ¬ w.heap.size = rb := by omega
  have hU := RdUp.refl rb B 0 w
  have e1 : w.heap.size < w.heap.size + 1 := by omega
  have cD := fun w N h hN => l1Data_as m n hm rb B s w N h hN (by omega) hs
  have cB := fun w N h hN => l1Bytes_as 6 6 rfl rb B w N h hN (by omega)
  simp only [setV] at *
  clear hs hm
  go_enter Tryz.func104, Tryz.ntmps104
  go_wp2_with (first | (go_at_call 89; ((with_reducible refine (pick_at (n := 5) HR.out hU (by intro c hU; (repeat (first | with_reducible assumption | refine RdUp.ups ?_ (by with_reducible assumption) | with_reducible refine RdUp.set ?_ (by first | exact Nat.le_refl _ | (simp only []; omega) | (simp; omega)) _ | with_reducible refine RdUp.alloc ?_ _ | with_reducible refine RdUp.drew ?_ | with_reducible exact RdUp.of (Up.refl _)))) (by omega)).mono ?_); rintro e w' ⟨x, rfl, x0, x1, hU, U⟩; have D := gcell U.1; have Z := U.1.size; (try simp at Z); (try have Y0 : w.heap.size < w'.heap.size := (by omega)); (try have Y1 : w.heap.size + 1 < w'.heap.size := (by omega)); (try have Y2 : w.heap.size + 1 + 1 < w'.heap.size := (by omega)); (try have X0 : w.heap.size < w'.heap.size + 1 := (by omega)); (try have X1 : w.heap.size + 1 < w'.heap.size + 1 := (by omega)); (try have X2 : w.heap.size + 1 + 1 < w'.heap.size + 1 := (by omega)); (skip))) | (go_at_call 86; ((with_reducible refine (draw_at (cD) HR.out hU (by intro c hU; (repeat (first | with_reducible assumption | refine RdUp.ups ?_ (by with_reducible assumption) | with_reducible refine RdUp.set ?_ (by first | exact Nat.le_refl _ | (simp only []; omega) | (simp; omega)) _ | with_reducible refine RdUp.alloc ?_ _ | with_reducible refine RdUp.drew ?_ | with_reducible exact RdUp.of (Up.refl _)))) (by omega)).mono ?_); rintro e w' ⟨v, rfl, ⟨st, rfl, hst⟩, hU, U⟩; have D := gcell U.1; have Z := U.1.size; (try simp at Z); (try have Y0 : w.heap.size < w'.heap.size := (by omega)); (try have Y1 : w.heap.size + 1 < w'.heap.size := (by omega)); (try have Y2 : w.heap.size + 1 + 1 < w'.heap.size := (by omega)); (try have X0 : w.heap.size < w'.heap.size + 1 := (by omega)); (try have X1 : w.heap.size + 1 < w'.heap.size + 1 := (by omega)); (try have X2 : w.heap.size + 1 + 1 < w'.heap.size + 1 := (by omega)))) | (go_at_call 98; ((with_reducible refine (draw_at (cB) HR.out hU (by intro c hU; (repeat (first | with_reducible assumption | refine RdUp.ups ?_ (by with_reducible assumption) | with_reducible refine RdUp.set ?_ (by first | exact Nat.le_refl _ | (simp only []; omega) | (simp; omega)) _ | with_reducible refine RdUp.alloc ?_ _ | with_reducible refine RdUp.drew ?_ | with_reducible exact RdUp.of (Up.refl _)))) (by omega)).mono ?_); rintro e w' ⟨v, rfl, ⟨sb, rfl, hsb⟩, hU, U⟩; have D := gcell U.1; have Z := U.1.size; (try simp at Z); (try have Y0 : w.heap.size < w'.heap.size := (by omega)); (try have Y1 : w.heap.size + 1 < w'.heap.size := (by omega)); (try have Y2 : w.heap.size + 1 + 1 < w'.heap.size := (by omega)); (try have X0 : w.heap.size < w'.heap.size + 1 := (by omega)); (try have X1 : w.heap.size + 1 < w'.heap.size + 1 := (by omega)); (try have X2 : w.heap.size + 1 + 1 < w'.heap.size + 1 := (by omega)))))
  all_goals
    go_ret
    exact ⟨_, rfl, ⟨_, rfl, (by (try rw [ByteArray.size_append]); omega)⟩, by exact RdUp.fin hU (by intro c hU; (repeat (first | with_reducible assumption | refine RdUp.ups ?_ (by with_reducible assumption) | with_reducible refine RdUp.set ?_ (by first | exact Nat.le_refl _ | (simp only []; omega) | (simp; omega)) _ | with_reducible refine RdUp.alloc ?_ _ | with_reducible refine RdUp.drew ?_ | with_reducible exact RdUp.of (Up.refl _)))) (by omega)⟩

def isCont (v : Value) : Prop := ∃ (s : SetD) (d st : ByteArray), v = .tuple #[setV s, .string d, .string st] ∧ setOk s = true ∧ d.size ≤ 1000 ∧ st.size ≤ 5000
theorem makeN_len (s : SetD) (dict : List UInt8) (size : Nat) (h1 : 1 ≤ size) (h2 : size ≤ 64) : ∀ (n : Nat) (f : Int) (d : List UInt8), (makeN s dict size n f d).length ≤ 74 * d.length
  | 0, f, d => by simp [makeN]
  | n + 1, f, d => by
    by_cases hd : d = []
    · subst hd; rw [makeN_nil]; simp
    · rw [makeN_step hd, List.length_append]
      have h3 := makeN_len s dict size h1 h2 n (f + 1) (d.drop size)
      have h4 := blockD_bd s dict f (bs (d.take size))
      have hz := bs_size (d.take size)
      rw [List.length_take] at hz
      have h5 := textD_len (blockD s dict f (bs (d.take size))) (by omega)
      have h6 := List.length_pos_iff.2 hd
      rw [List.length_drop] at h3
      omega

end Go.Proofs.YtekbbnkkninolaaGreat

/- Walks of the reference's draws of containers and blocks. Conditions: the reader is one (Rdr), its place is bounded. -/
namespace Go.Proofs.YtekbbnkkninolaaGreat
set_option linter.unusedVariables false
set_option linter.unusedSimpArgs false
open Go Go.RowKit

theorem upOut_D {P : Program} (D : Value → World → Prop) {w : World} {r : Result Next} (h : upOut P D w r) : upOut P D w r := h
def IsSB (n : Nat) (v : Value) : Prop := ∃ (st : ByteArray) (b : Bool), v = .tuple #[.string st, .bool b] ∧ st.size ≤ n
def IsBool (v : Value) : Prop := ∃ b : Bool, v = .bool b
theorem upOut_same {f : FuncId} {args : Array Value} {w : World} {v : Value} {D : Value → Prop} (h : Calls Tryz.prog f args w (Same v w)) (hd : D v) : upOut Tryz.prog (fun v _ => D v) w (.ok (.enter f args) w) :=
  ⟨rfl, h.mono fun _ _ ⟨he, hu⟩ => ⟨v, he, hu, hd⟩⟩
def IsU (n : Int) (v : Value) : Prop := ∃ i : Int, v = .int .u64 i ∧ 0 ≤ i ∧ i ≤ n
def IsByte (v : Value) : Prop := ∃ i : Int, v = .int .u8 i ∧ 0 ≤ i ∧ i ≤ 255
theorem isByte_any {x : Int} : IsByte (.int .u8 (IntKind.u8.wrap x)) := ⟨_, rfl, by rw [IntKind.wrap_u8]; omega, by rw [IntKind.wrap_u8]; omega⟩
/-- A list of one byte, in another block than rb. -/
def LitR (rb : Nat) (v : Value) (w : World) : Prop := ∃ (b : Nat) (x : Int), v = .slice (some ⟨b, 0, none⟩) 1 1 ∧ b < w.heap.size ∧ b ≠ rb ∧ w.cell? ⟨b, 0, none⟩ = some (.int .u8 x)
theorem litR_closed {rb : Nat} : ∀ (v : Value) (w w' : World), LitR rb v w → w.grownBy w' (some rb) → LitR rb v w' := fun v w w' ⟨b, x, h1, h2, h3, h4⟩ hg =>
  ⟨b, x, h1, Nat.lt_of_lt_of_le h2 hg.size, h3, ((gcell hg).1 b 0 h2 (fun e => h3 (Option.some.inj e))).trans h4⟩
theorem litR_new {rb : Nat} {w : World} {x : Int} (hlt : rb < w.heap.size) (h0 : 0 ≤ x) (h1 : x ≤ 255) : LitR rb (.slice (some ⟨w.heap.size, 0, none⟩) 1 1) (w.alloc (.cells #[.int .u8 x] 5)) :=
  ⟨w.heap.size, x, rfl, by simp, by omega, by rw [box_cell (MapKept.heap_alloc w _).1]; rfl⟩
/-- What a list of one byte becomes. -/
def LitS (v : Value) (w : World) (x : Int) : Prop := (convert 38 9 v).run Tryz.prog w = .ok (.string (strOfNums [x])) w
theorem litR_open {rb : Nat} {v : Value} {w : World} (h : LitR rb v w) : ∃ x, LitS v w x := by
  obtain ⟨b, x, rfl, -, -, h4⟩ := h
  exact ⟨x, conv_one w b x h4⟩
theorem litR_conv {v : Value} {w : World} {x : Int} (h : LitS v w x) : (convert 38 9 v).run Tryz.prog w = .ok (.string (strOfNums [x])) w := h
theorem mkO_size (s : SetD) (dict d : List UInt8) (size : Int) (h : d.length ≤ 66) : IsSB 5000 (optS (mkO s dict d size)) := by
  refine ⟨_, _, rfl, ?_⟩
  rw [bs_size]
  unfold mkO
  split
  · next hk =>
    unfold mkOk at hk
    simp only [Bool.and_eq_true, inB_iff, decide_eq_true_eq] at hk
    have := makeN_len s dict size.toNat (by omega) (by omega) d.length 0 d
    simp only [Option.getD_some]
    omega
  · simp

theorem draw_atM {rb : Nat} {B : Value} {c d N M : Nat} {w0 w1 w : World} {D : Value → Prop} {f : FuncId} {args : Array Value} (hf : ∀ w N, Rdr rb B w N → N ≤ M → Calls Tryz.prog f args w (Drawn rb B d D w)) (h : Rdr rb B w0 N) (hU1 : RdUp rb B c w0 w1) (hx : ∀ c, RdUp rb B c w0 w1 → RdUp rb B c w0 w) (hN : N + c ≤ M) :
    Calls Tryz.prog f args w (fun e w' => ∃ v, e = .returned v ∧ D v ∧ RdUp rb B (c + d) w0 w' ∧ RdUp rb B d w w') :=
  (hf w (N + c) ((hx c hU1).2 N h) hN).mono fun e w' ⟨v, he, h1, hu⟩ => ⟨v, he, h1, (hx c hU1).trans hu, hu⟩

set_option maxRecDepth 100000 in
set_option maxHeartbeats 4000000 in
theorem l5Some_any (rb : Nat) (B : Value) (w : World) (N : Nat) (h : Rdr rb B w N) (hN : N ≤ 700000000) :
    Calls Tryz.prog 117  #[.pointer (some ⟨rb, 0, none⟩)] w (Drawn rb B 40000 isCont w) := by
  obtain ⟨p, hp, h, HM⟩ := h.least
  have hlt := h.lt
  have HR := Lib.hid h
  have hne0 : ¬ w.heap.size = rb := by omega
  have hU := RdUp.refl rb B 0 w
  have e1 : w.heap.size < w.heap.size + 1 := by omega
  have cS := fun w N h hN => l5Setup_any rb B w N h hN
  go_enter Tryz.func117, Tryz.ntmps117
  go_wp2_with ((go_at_call 103; ((with_reducible refine (draw_atM (cS) HR.out hU (by intro c hU; (repeat (first | with_reducible assumption | refine RdUp.ups ?_ (by with_reducible assumption) | with_reducible refine RdUp.set ?_ (by first | exact Nat.le_refl _ | (simp only []; omega) | (simp; omega)) _ | with_reducible refine RdUp.alloc ?_ _ | with_reducible refine RdUp.drew ?_ | with_reducible exact RdUp.of (Up.refl _)))) (by omega)).mono ?_); rintro e w' ⟨v, rfl, ⟨s, dict, rfl, hs, hdi⟩, hU, U⟩; have D := gcell U.1; have Z := U.1.size; (try simp at Z); (try have Y0 : w.heap.size < w'.heap.size := (by omega)); (try have Y1 : w.heap.size + 1 < w'.heap.size := (by omega)); (try have Y2 : w.heap.size + 1 + 1 < w'.heap.size := (by omega)); (try have X0 : w.heap.size < w'.heap.size + 1 := (by omega)); (try have X1 : w.heap.size + 1 < w'.heap.size + 1 := (by omega)); (try have X2 : w.heap.size + 1 + 1 < w'.heap.size + 1 := (by omega)))))
  have cW := fun w N h hN => l5Wild_any rb B s 60 60 rfl w N h hN (by omega) hs
  simp only [setV] at *
  have HS := Lib.hid hs
  clear hs
  have hSB : SetAt w'.heap.size s.ord s.lit s.most (w'.alloc (.cells #[.int .i64 s.ord, .int .i64 s.lit, .int .i64 s.most] 26)) := (MapKept.heap_alloc w' _).1
  have hRB : SetAt w.heap.size 0 0 0 (w'.alloc (.cells #[.int .i64 s.ord, .int .i64 s.lit, .int .i64 s.most] 26)) := box_up ((Up.refl _).alloc _) (gbox U.1 (MapKept.heap_alloc w _).1 (by simp; omega))
  have hU : RdUp rb B 25000 w (w'.alloc (.cells #[.int .i64 s.ord, .int .i64 s.lit, .int .i64 s.most] 26)) := by exact RdUp.fin hU (by intro c hU; (repeat (first | with_reducible assumption | refine RdUp.ups ?_ (by with_reducible assumption) | with_reducible refine RdUp.set ?_ (by first | exact Nat.le_refl _ | (simp only []; omega) | (simp; omega)) _ | with_reducible refine RdUp.alloc ?_ _ | with_reducible refine RdUp.drew ?_ | with_reducible exact RdUp.of (Up.refl _)))) (by omega)
  have hne1 : ¬ w'.heap.size = rb := by omega
  generalize (w'.alloc (.cells #[.int .i64 s.ord, .int .i64 s.lit, .int .i64 s.most] 26)) = W at *
  generalize w'.heap.size = b5 at *
  obtain ⟨hb5, s0, s1, s2⟩ := hSB.cells
  clear D U Y0 X0 Z
  go_wp2_with ((go_at_call 104; ((with_reducible refine (draw_atM (cW) HR.out hU (by intro c hU; (repeat (first | with_reducible assumption | refine RdUp.ups ?_ (by with_reducible assumption) | with_reducible refine RdUp.set ?_ (by first | exact Nat.le_refl _ | (simp only []; omega) | (simp; omega)) _ | with_reducible refine RdUp.alloc ?_ _ | with_reducible refine RdUp.drew ?_ | with_reducible exact RdUp.of (Up.refl _)))) (by omega)).mono ?_); rintro e w' ⟨v, rfl, ⟨d, rfl, hd⟩, hU, U⟩; have D := gcell U.1; have Z := U.1.size; (try simp at Z); (try have Y0 : w.heap.size < w'.heap.size := (by omega)); (try have Y1 : w.heap.size + 1 < w'.heap.size := (by omega)); (try have Y2 : w.heap.size + 1 + 1 < w'.heap.size := (by omega)); (try have X0 : w.heap.size < w'.heap.size + 1 := (by omega)); (try have X1 : w.heap.size + 1 < w'.heap.size + 1 := (by omega)); (try have X2 : w.heap.size + 1 + 1 < w'.heap.size + 1 := (by omega)))))
  have hSB := gbox U.1 hSB (by simp; omega)
  have hRB := gbox U.1 hRB (by simp; omega)
  clear s0 s1 s2 D hb5
  obtain ⟨hb5, s0, s1, s2⟩ := SetAt.cells hSB
  obtain ⟨hb0, q0, q1, q2⟩ := SetAt.cells hRB
  have hfr := box_free hRB
  have hdl := ba_len d
  have hr2 := hU.2 _ h
  have cM := fun i w => makeCS_any s dict d i w (by omega) (by omega)
  have hmk := fun i => mkO_size s dict.data.toList d.data.toList i (by omega)
  simp only [setV] at cM
  refine wp_region_rd 10 rb B 1 (p + (25000 + 4020)) (by kernel_rfl) (by kernel_rfl) hr2 ?_
  simp only [List.take, List.drop]
  repeat (refine wpR_step (fun K hK => ?_); go_simp; (try simp only [↓IntWalk.iteOmega]); first
    | (refine hK _ _ ?_; clear hK K)
    | (refine stepR_c ?_ ?_ ?_
       rotate_left
       · intro wq hwq hrq; (have hbq := gcell hwq; (repeat (first | refine fills_no (by rfl) ?_ | (refine fills_yes (by rfl) (fun vq hvq => ?_); (try ((first | (obtain ⟨i, rfl, hi0, hi1⟩ := hvq) | (obtain ⟨st, bb, rfl, hst⟩ := hvq))))))); simp only [List.filter_nil, fills]; unfold upAt; (try (skip)); go_simp; (try go_bits); (try simp only [↓IntWalk.iteOmega]); (try (rw [dif_pos (by omega)]; go_simp; try go_bits)); first | exact upOut_value)
       go_simp; refine hK _ _ ?_; clear hK K)
    | (refine stepR_m (by kernel_rfl) ?_ ?_ (fun wq hwq hrq => ?_) ?_
       rotate_left 2
       · (have hbq := gcell hwq; (repeat (first | refine fills_no (by rfl) ?_ | (refine fills_yes (by rfl) (fun vq hvq => ?_); (try ((first | (obtain ⟨i, rfl, hi0, hi1⟩ := hvq) | (obtain ⟨st, bb, rfl, hst⟩ := hvq))))))); simp only [List.filter_nil, fills]; unfold upAt; (try (skip)); go_simp; (try go_bits); (try simp only [↓IntWalk.iteOmega]); (try (rw [dif_pos (by omega)]; go_simp; try go_bits)); first | ((with_reducible refine upOut_D (fun v _ => IsInt 2 26 v) ?_); (((with_reducible refine upOut_make (Up.refl _) ?_); exact ⟨_, rfl, by omega, by omega⟩))) | ((with_reducible refine upOut_D (fun v _ => IsSB 5000 v) ?_); ((first | ((with_reducible refine upOut_same (cM _ _) ?_); exact hmk _) | ((with_reducible refine upOut_make (Up.refl _) ?_); exact ⟨_, _, rfl, hst⟩)))) | ((with_reducible refine upOut_D (fun v _ => IsStr 5000 v) ?_); (((with_reducible refine upOut_make (Up.refl _) ?_); exact ⟨_, rfl, hst⟩))) | ((with_reducible refine upOut_D (fun v _ => IsBool v) ?_); (((with_reducible refine upOut_make (Up.refl _) ?_); exact ⟨_, rfl⟩))))
       rotate_left
       · (first | exact (fun _ _ _ h _ => h))
       refine hK _ _ ?_; clear hK K)
    | (refine stepR_d (by rfl) (by kernel_rfl) (fun v _ => pickB 24 v) (fun _ _ _ h _ => h) (fun wq hwq hrq => ?_) ?_
       · (have hbq := gcell hwq; (repeat (first | refine fills_no (by rfl) ?_ | (refine fills_yes (by rfl) (fun vq hvq => ?_); (try ((first | (obtain ⟨i, rfl, hi0, hi1⟩ := hvq) | (obtain ⟨st, bb, rfl, hst⟩ := hvq))))))); simp only [List.filter_nil, fills]; unfold gAt; (try (skip)); go_simp; (try go_bits); (try simp only [↓IntWalk.iteOmega]); (try (rw [dif_pos (by omega)]; go_simp; try go_bits)); (with_reducible refine gOut_drawn ((pick_any rb B 24 wq _ hrq (by omega))) ?_); decide)
       refine hK _ _ ?_; clear hK K))
  refine wpR_nil (fun wq hwq hrq => ?_)
  simp only [fills]
  rintro v9 ⟨bb, rfl⟩ v8 ⟨st, rfl, hst⟩ - - - - - - - -
  have D := gcell hwq
  have hU := RdUp.made (C := 40000) HM (grownBy_trans hU.1 hwq) hrq (by omega)
  clear hwq
  go_wp2
  rw [onlyN_normal]
  go_wp2
  refine bodyPost_ret (v := _) (by simp [results, Tryz.results117, go_sem, D, q0, q1, q2, hb0, hne0]; rfl) rfl ?_
  refine ⟨_, rfl, ⟨_, _, _, rfl, HS.out, hdi, hst⟩, ?_⟩
  exact RdUp.fin hU (by intro c hU; (repeat (first | with_reducible assumption | refine RdUp.ups ?_ (by with_reducible assumption) | with_reducible refine RdUp.set ?_ (by first | exact Nat.le_refl _ | (simp only []; omega) | (simp; omega)) _ | with_reducible refine RdUp.alloc ?_ _ | with_reducible refine RdUp.drew ?_ | with_reducible exact RdUp.of (Up.refl _)))) (by omega)

end Go.Proofs.YtekbbnkkninolaaGreat

/- Walk of the reference's l5Bad. Conditions: the reader is one (Rdr), its place is bounded. -/
namespace Go.Proofs.YtekbbnkkninolaaGreat
set_option linter.unusedVariables false
set_option linter.unusedSimpArgs false
open Go Go.RowKit

set_option maxRecDepth 100000 in
set_option maxHeartbeats 8000000 in
theorem l5Bad_any (rb : Nat) (B : Value) (st : ByteArray) (w : World) (N : Nat) (h : Rdr rb B w N) (hN : N ≤ 700000000) (hs : st.size ≤ 5000) :
    Calls Tryz.prog 120  #[.pointer (some ⟨rb, 0, none⟩), .string st] w (Drawn rb B 12000 (IsStr 10002) w) := by
  obtain ⟨p, hp, h, HM⟩ := h.least
  have hlt := h.lt
  have HR := Lib.hid h
  have hU := RdUp.refl rb B 0 w
  have cB := fun w N h hN => l1Bytes_as 2 2 rfl rb B w N h hN (by omega)
  go_enter Tryz.func120, Tryz.ntmps120
  go_wp2_with (first | (go_at_call 89; ((with_reducible refine (pick_at (n := (st.size : Int) + 1) HR.out hU (by intro c hU; (repeat (first | with_reducible assumption | refine RdUp.ups ?_ (by with_reducible assumption) | with_reducible refine RdUp.set ?_ (by first | exact Nat.le_refl _ | (simp only []; omega) | (simp; omega)) _ | with_reducible refine RdUp.alloc ?_ _ | with_reducible refine RdUp.drew ?_ | with_reducible exact RdUp.of (Up.refl _)))) (by omega)).mono ?_); rintro e w' ⟨k, rfl, k0, k1, hU, U⟩; clear U; ((obtain ⟨kn, rfl⟩ := Int.eq_ofNat_of_zero_le k0); (have hk : kn ≤ st.size := (by omega)); (have hx1 := Nat.le_trans (ext_le st 0 kn) hs); (have hx2 := Nat.le_trans (ext_le st kn st.size) hs)))) | (go_at_call 89; ((with_reducible refine (pick_at (n := 24) HR.out hU (by intro c hU; (repeat (first | with_reducible assumption | refine RdUp.ups ?_ (by with_reducible assumption) | with_reducible refine RdUp.set ?_ (by first | exact Nat.le_refl _ | (simp only []; omega) | (simp; omega)) _ | with_reducible refine RdUp.alloc ?_ _ | with_reducible refine RdUp.drew ?_ | with_reducible exact RdUp.of (Up.refl _)))) (by omega)).mono ?_); rintro e w' ⟨m, rfl, m0, m1, hU, U⟩; clear U; (skip))))
  all_goals first
    | (go_ret
       exact ⟨_, rfl, ⟨_, rfl, (by (try rw [ByteArray.size_append]); first | omega | (have := ext_le st 0 kn; omega))⟩, by exact RdUp.fin hU (by intro c hU; (repeat (first | with_reducible assumption | refine RdUp.ups ?_ (by with_reducible assumption) | with_reducible refine RdUp.set ?_ (by first | exact Nat.le_refl _ | (simp only []; omega) | (simp; omega)) _ | with_reducible refine RdUp.alloc ?_ _ | with_reducible refine RdUp.drew ?_ | with_reducible exact RdUp.of (Up.refl _)))) (by omega)⟩)
    | skip
  · have hr2 := hU.2 _ h
    refine wp_region_rd 10 rb B 1001 (p + (0 + 1 + 1)) (by kernel_rfl) (by kernel_rfl) hr2 ?_
    simp only [List.take, List.drop]
    repeat (refine wpR_step (fun K hK => ?_); go_simp; (try simp only [↓IntWalk.iteOmega]); first
      | (refine hK _ _ ?_; clear hK K)
      | (refine stepR_c ?_ ?_ ?_
         rotate_left
         · intro wq hwq hrq; (have hbq := gcell hwq; (repeat (first | refine fills_no (by rfl) ?_ | (refine fills_yes (by rfl) (fun vq hvq => ?_); (try ((obtain ⟨sb, rfl, hsb⟩ := hvq)))))); simp only [List.filter_nil, fills]; unfold upAt; (try (skip)); go_simp; (try go_bits); (try simp only [↓IntWalk.iteOmega]); (try (rw [dif_pos (by omega)]; go_simp; try go_bits)); first | exact upOut_value)
         go_simp; refine hK _ _ ?_; clear hK K)
      | (refine stepR_m (by kernel_rfl) ?_ ?_ (fun wq hwq hrq => ?_) ?_
         rotate_left 2
         · (have hbq := gcell hwq; (repeat (first | refine fills_no (by rfl) ?_ | (refine fills_yes (by rfl) (fun vq hvq => ?_); (try ((obtain ⟨sb, rfl, hsb⟩ := hvq)))))); simp only [List.filter_nil, fills]; unfold upAt; (try (skip)); go_simp; (try go_bits); (try simp only [↓IntWalk.iteOmega]); (try (rw [dif_pos (by omega)]; go_simp; try go_bits)); first | ((with_reducible refine upOut_D (fun v _ => IsStr 5002 v) ?_); (((with_reducible refine upOut_make (Up.refl _) ?_); exact ⟨_, rfl, by rw [ByteArray.size_append]; omega⟩))) | ((with_reducible refine upOut_D (fun v _ => IsStr 10002 v) ?_); (((with_reducible refine upOut_make (Up.refl _) ?_); exact ⟨_, rfl, by rw [ByteArray.size_append]; omega⟩))))
         rotate_left
         · (first | exact (fun _ _ _ h _ => h))
         refine hK _ _ ?_; clear hK K)
      | (refine stepR_d (by rfl) (by kernel_rfl) (fun v _ => IsStr 2 v) (fun _ _ _ h _ => h) (fun wq hwq hrq => ?_) ?_
         · (have hbq := gcell hwq; (repeat (first | refine fills_no (by rfl) ?_ | (refine fills_yes (by rfl) (fun vq hvq => ?_); (try ((obtain ⟨sb, rfl, hsb⟩ := hvq)))))); simp only [List.filter_nil, fills]; unfold gAt; (try (skip)); go_simp; (try go_bits); (try simp only [↓IntWalk.iteOmega]); (try (rw [dif_pos (by omega)]; go_simp; try go_bits)); (with_reducible refine gOut_drawn ((cB wq _ hrq (by omega))) ?_); decide)
         refine hK _ _ ?_; clear hK K))
    refine wpR_nil (fun wq hwq hrq => ?_)
    simp only [fills]
    rintro v9 ⟨sb, rfl, hsb⟩ - - - -
    have hU := RdUp.made (C := 12000) HM (grownBy_trans hU.1 hwq) hrq (by omega)
    go_wp2
    rw [onlyN_normal]
    go_wp2
    go_ret
    exact ⟨_, rfl, ⟨_, rfl, hsb⟩, by exact RdUp.fin hU (by intro c hU; (repeat (first | with_reducible assumption | refine RdUp.ups ?_ (by with_reducible assumption) | with_reducible refine RdUp.set ?_ (by first | exact Nat.le_refl _ | (simp only []; omega) | (simp; omega)) _ | with_reducible refine RdUp.alloc ?_ _ | with_reducible refine RdUp.drew ?_ | with_reducible exact RdUp.of (Up.refl _)))) (by omega)⟩
  · have hr2 := hU.2 _ h
    have hki : (kn : Int) < (st.size : Int) := by omega
    have hki2 : (kn : Int) + 1 ≤ (st.size : Int) := by omega
    have hki3 : kn + 1 ≤ st.size := by omega
    have hkn : ((kn : Int) + 1).toNat = kn + 1 := by omega
    have hx3 := Nat.le_trans (ext_le st (kn + 1) st.size) hs
    refine wp_region_rd 19 rb B 1 (p + (0 + 1 + 1)) (by kernel_rfl) (by kernel_rfl) hr2 ?_
    simp only [List.take, List.drop]
    repeat (refine wpR_step (fun K hK => ?_); go_simp; (try simp only [↓IntWalk.iteOmega]); first
      | (refine hK _ _ ?_; clear hK K)
      | (refine stepR_c ?_ ?_ ?_
         rotate_left
         · intro wq hwq hrq; (have hbq := gcell hwq; (repeat (first | refine fills_no (by rfl) ?_ | (refine fills_yes (by rfl) (fun vq hvq => ?_); (try ((first | (obtain ⟨i, rfl, hi0, hi1⟩ := hvq) | (obtain ⟨sb, rfl, hsb⟩ := hvq) | (obtain ⟨x, hlv⟩ := litR_open hvq))))))); simp only [List.filter_nil, fills]; unfold upAt; (try (skip)); go_simp; (try go_bits); (try simp only [↓IntWalk.iteOmega]); (try (rw [dif_pos (by omega)]; go_simp; try go_bits)); first | exact upOut_value)
         go_simp; refine hK _ _ ?_; clear hK K)
      | (refine stepR_m (by kernel_rfl) ?_ ?_ (fun wq hwq hrq => ?_) ?_
         rotate_left 2
         · (have hbq := gcell hwq; (repeat (first | refine fills_no (by rfl) ?_ | (refine fills_yes (by rfl) (fun vq hvq => ?_); (try ((first | (obtain ⟨i, rfl, hi0, hi1⟩ := hvq) | (obtain ⟨sb, rfl, hsb⟩ := hvq) | (obtain ⟨x, hlv⟩ := litR_open hvq))))))); simp only [List.filter_nil, fills]; unfold upAt; (try (skip)); go_simp; (try go_bits); (try simp only [↓IntWalk.iteOmega]); (try (rw [dif_pos (by omega)]; go_simp; try go_bits)); first | ((with_reducible refine upOut_D (fun v _ => IsU 7 v) ?_); (((with_reducible refine upOut_make (Up.refl _) ?_); exact ⟨_, rfl, by omega, by omega⟩))) | ((with_reducible refine upOut_D (fun v _ => IsByte v) ?_); (((with_reducible refine upOut_make (Up.refl _) ?_); exact isByte_any))) | ((with_reducible refine upOut_D (LitR rb) ?_); (((with_reducible refine upOut_make ((Up.refl _).alloc _) ?_); exact litR_new hrq.lt hi0 hi1))) | ((with_reducible refine upOut_D (fun v _ => IsStr 1 v) ?_); ((rw [litR_conv hlv]; (try go_simp); (with_reducible refine upOut_make (Up.refl _) ?_); exact ⟨_, rfl, by rw [strOfNums_size]; exact Nat.le_refl _⟩))) | ((with_reducible refine upOut_D (fun v _ => IsStr 5001 v) ?_); (((with_reducible refine upOut_make (Up.refl _) ?_); exact ⟨_, rfl, by rw [ByteArray.size_append]; (with_reducible refine Nat.le_trans (Nat.add_le_add hx1 hsb) ?_); decide⟩))) | ((with_reducible refine upOut_D (fun v _ => IsStr 10002 v) ?_); (((with_reducible refine upOut_make (Up.refl _) ?_); exact ⟨_, rfl, by rw [ByteArray.size_append]; (with_reducible refine Nat.le_trans (Nat.add_le_add hsb hx3) ?_); decide⟩))))
         rotate_left
         · (first | exact (fun _ _ _ h _ => h) | exact (litR_closed))
         refine hK _ _ ?_; clear hK K)
      | (refine stepR_d (by rfl) (by kernel_rfl) (fun v _ => pickB 8 v) (fun _ _ _ h _ => h) (fun wq hwq hrq => ?_) ?_
         · (have hbq := gcell hwq; (repeat (first | refine fills_no (by rfl) ?_ | (refine fills_yes (by rfl) (fun vq hvq => ?_); (try ((first | (obtain ⟨i, rfl, hi0, hi1⟩ := hvq) | (obtain ⟨sb, rfl, hsb⟩ := hvq) | (obtain ⟨x, hlv⟩ := litR_open hvq))))))); simp only [List.filter_nil, fills]; unfold gAt; (try (skip)); go_simp; (try go_bits); (try simp only [↓IntWalk.iteOmega]); (try (rw [dif_pos (by omega)]; go_simp; try go_bits)); (with_reducible refine gOut_drawn ((pick_any rb B 8 wq _ hrq (by omega))) ?_); decide)
         refine hK _ _ ?_; clear hK K))
    refine wpR_nil (fun wq hwq hrq => ?_)
    simp only [fills]
    rintro v9 ⟨sb, rfl, hsb⟩
    intros
    have hU := RdUp.made (C := 12000) HM (grownBy_trans hU.1 hwq) hrq (by omega)
    go_wp2
    rw [onlyN_normal]
    go_wp2
    go_ret
    exact ⟨_, rfl, ⟨_, rfl, hsb⟩, by exact RdUp.fin hU (by intro c hU; (repeat (first | with_reducible assumption | refine RdUp.ups ?_ (by with_reducible assumption) | with_reducible refine RdUp.set ?_ (by first | exact Nat.le_refl _ | (simp only []; omega) | (simp; omega)) _ | with_reducible refine RdUp.alloc ?_ _ | with_reducible refine RdUp.drew ?_ | with_reducible exact RdUp.of (Up.refl _)))) (by omega)⟩

end Go.Proofs.YtekbbnkkninolaaGreat

/- Walks of the reference's draws of a block, from the bytes of an input. Conditions: the bytes can be read. -/
namespace Go.Proofs.YtekbbnkkninolaaGreat
set_option linter.unusedVariables false
set_option linter.unusedSimpArgs false
open Go Go.RowKit

/-- Bytes that are handed in. -/
def ArgU (w : World) (v : Value) (l : List UInt8) : Prop := ∃ (a : Option Addr) (cap : Nat), v = .slice a l.length cap ∧ l.length ≤ cap ∧ cap ≤ maxLen ∧
  (0 < l.length → ∃ b off, a = some ⟨b, off, none⟩ ∧ b < w.heap.size ∧ ∀ i x, l[i]? = some x → w.cell? ⟨b, off + i, none⟩ = some (.int .u8 x.toNat))
theorem ArgU.up {w w' : World} {v : Value} {l : List UInt8} (h : ArgU w v l) (hu : Up w w') : ArgU w' v l := by
  obtain ⟨a, cap, h1, h2, h3, h4⟩ := h
  refine ⟨a, cap, h1, h2, h3, fun hp => ?_⟩
  obtain ⟨b, off, e1, e2, e3⟩ := h4 hp
  exact ⟨b, off, e1, Nat.lt_of_lt_of_le e2 (Below.size hu), fun i x hi => (Below.cell (p := ⟨b, off + i, none⟩) hu e2).trans (e3 i x hi)⟩
theorem open_at {w : World} {v : Value} {l : List UInt8} (h : ArgU w v l) : Calls Tryz.prog 77  #[v] w (fun e w' => ∃ B, e = .returned (.pointer (some ⟨w.heap.size, 0, none⟩)) ∧ Rdr w.heap.size B w' 0 ∧ Up w w') := by
  obtain ⟨a, cap, h1, h2, h3, h4⟩ := h
  exact open_any v l w a cap h1 h2 h3 h4
end Go.Proofs.YtekbbnkkninolaaGreat

/- Texts joined into one: Eqb, Law. Conditions: as each says. -/

/- Walks of the laws' helpers that take a setting over and compare blocks. Conditions: none. -/
namespace Go.Proofs.YtekbbnkkninolaaGreat
set_option linter.unusedVariables false
set_option linter.unusedSimpArgs false
open Go Go.RowKit

end Go.Proofs.YtekbbnkkninolaaGreat

/- The end of every law's row: the call answers true and nothing that was there has turned. Conditions: those of post_law. -/
namespace Go.Proofs.YtekbbnkkninolaaGreat
set_option linter.unusedVariables false
set_option linter.unusedSimpArgs false
open Go.ChangeShapes Go.WideShapes Go.ChangeAt Go.RowKit

theorem TryzlaidOut : laidOutB Tryz.prog = true := by kernel_rfl
theorem own : ownKnob Tryz.prog.godebug = none := by kernel_rfl

theorem trodAll_up {H : Type} {enc : TypeId × Value → H} {P : Program} (hl : laidOutB P = true) {W W' : World} (hb : Below W.heap.size W W') : ∀ (ts : List TypeId) (vs : List Value) (ds : List (DataW H)) (ps : List MemPlace),
    (∀ t ∈ ts, P.readableRec t = true ∧ t < P.types.size) → (∀ x ∈ ps, x.block < W.heap.size) → DataW.TrodAll enc P W 0 (fun _ => true) true ts vs ds ps → DataW.TrodAll enc P W' 0 (fun b => decide (b < W.heap.size)) true ts vs ds ps
  | [], [], [], _, _, _, h => h
  | t :: ts, v :: vs, d :: ds, ps, ht, hp, h => by
    obtain ⟨p, q, h1, h2, rfl⟩ := h
    refine ⟨p, q, Below.trod hl (ht t (List.mem_cons_self ..)).1 (ht t (List.mem_cons_self ..)).2 h1 hb fun x hx => hp x (List.mem_append_left _ hx), ?_, rfl⟩
    exact trodAll_up hl hb ts vs ds q (fun t h => ht t (List.mem_cons_of_mem _ h)) (fun x hx => hp x (List.mem_append_right _ hx)) h2
  | [], _ :: _, _, _, _, _, h => h.elim
  | _ :: _, [], _, _, _, _, h => h.elim
  | [], [], _ :: _, _, _, _, h => h.elim
  | _ :: _, _ :: _, [], _, _, _, h => h.elim

theorem post_law {H : Type} {enc : TypeId × Value → H} {P : Program} {f : Func} {s : ChangeSpec} {W W' : World} {args : Array Value} {ds gs : List (DataW H)} {before : List MemPlace} {tb : TypeId}
    (hl : laidOutB P = true) (hp : (f.params.all fun t => P.readableRec t && decide (t < P.types.size)) = true) (hrt : f.resultTypes = #[tb]) (htb : P.underlying tb = some .bool) (hvars : s.vars = [])
    (hW : DataW.Whole enc P f.params.toList s.vars false W args.toList ds gs before) (hs : ∀ ds' : List (DataW H), ds' = ds → (s.fn H ds').results = [.lit (.bool true)] ∧ (s.fn H ds').args = ds ∧ (s.fn H ds').vars = []) (hb : Up W W') :
    s.post enc P f false true false false W args (.bool true) W' := by
  have hlt := fun p hp => hW.lt (p := p) hp
  obtain ⟨p, q, hA, hV, rfl, hz, hn⟩ := id hW
  rw [hvars] at hV
  obtain ⟨rfl, rfl⟩ := trodVars_none hV
  obtain ⟨e1, e2, e3⟩ := hs (ds ++ []) (by simp)
  refine ⟨ds, [], p ++ [], [], p, [], hW, ?_, ?_, ?_, ?_, fun h => by cases h⟩
  · rw [e1, hrt]
    exact trodAll_mk1 (shut_bool htb true)
  · rw [e2]
    refine trodAll_up hl hb _ _ _ _ (fun t ht => ?_) (fun x hx => hlt x (by simpa using hx)) hA
    have := Array.all_eq_true_iff_forall_mem.1 hp t (by simpa using ht)
    simpa using this
  · rw [e3, hvars]
    rfl
  · exact hb.frame _

end Go.Proofs.YtekbbnkkninolaaGreat

/- Arguments that are slices of bytes, and a string repeated. Conditions: as each says. -/
namespace Go.Proofs.YtekbbnkkninolaaGreat
set_option linter.unusedVariables false
set_option linter.unusedSimpArgs false
open Go.ChangeShapes Go.WideShapes Go.ChangeAt Go.RowKit Go.Joins
open Go.ChangeMaps (open_string shut_string)

theorem open_argU {H : Type} {enc : TypeId × Value → H} {W : World} {fuel : Nat} {a0 : Option Addr} {len cap : Nat} {d : DataW H} {p : List MemPlace}
    (h : DataW.trod enc Tryz.prog W 0 (fun _ => true) true fuel 38 [.slice a0 len cap] = some (d, p)) (hlt : ∀ x ∈ p, x.block < W.heap.size) : ∃ l, ArgU W (.slice a0 len cap) l := by
  rcases open_ints Tryz.underlying38 Tryz.underlying5 (by kernel_rfl) h with ⟨hcs, hx⟩ | ⟨a, len', cap', zs, hcs, _, hl, hm, hz, hx, hcell, hwz⟩
  · simp only [List.cons.injEq, and_true] at hcs
    cases hcs
    exact ⟨[], none, 0, rfl, Nat.le_refl _, by unfold maxLen; omega, fun h => absurd h (Nat.lt_irrefl _)⟩
  · simp only [List.cons.injEq, and_true] at hcs
    cases hcs
    simp only [Prod.mk.injEq] at hx
    obtain ⟨rfl, rfl⟩ := hx
    simp only [if_true] at hz
    have hlen : ((zs.take len).map fun n => UInt8.ofNat n.toNat).length = len := by simp; omega
    refine ⟨(zs.take len).map fun n => UInt8.ofNat n.toNat, some a, cap, by rw [hlen], by rw [hlen]; exact hl, hm, fun hp => ?_⟩
    rw [hlen] at hp
    obtain ⟨b, off, spot⟩ := a
    have hspot : spot = none := by simpa [Addr.add] using World.cell?_spot (hcell 0 (by omega))
    subst hspot
    refine ⟨b, off, rfl, hlt (.cell b off) (by simp only [MemPlace.row, List.mem_map, List.mem_range]; exact ⟨0, by omega, rfl⟩), fun i x hi => ?_⟩
    have hil : i < len := by
      have := (List.getElem?_eq_some_iff.1 hi).1
      rw [hlen] at this; exact this
    have hcj := hcell i (by omega)
    rw [Addr.add_lit] at hcj
    rw [hcj]
    have hb := range_u8 hwz i
    have e : zs.getD i 0 = zs[i]'(by omega) := by simp [List.getD, List.getElem?_eq_getElem (show i < zs.length by omega)]
    rw [List.getD_eq_getElem?_getD] at e ⊢
    rw [e] at hb ⊢
    have hx : x = UInt8.ofNat (zs[i]'(by omega)).toNat := by
      have : i < zs.length := by omega
      simp [List.getElem?_take, hil, this] at hi
      exact hi.symm
    rw [hx]
    congr 2
    simp only [UInt8.toNat_ofNat']
    omega

end Go.Proofs.YtekbbnkkninolaaGreat

/- Walk of the reference's l5Places. Conditions: the blocks are those of a string (accOk) and can be read. -/
namespace Go.Proofs.YtekbbnkkninolaaGreat
set_option linter.unusedVariables false
set_option linter.unusedSimpArgs false
open Go.RowKit

theorem infoPlace : (Tryz.prog.info? 76).map (fun i => (i.zero, i.size, i.bytes)) = some (some (.agg #[.int .i64 0, .int .i64 0]), 2, 16) := by kernel_rfl

structure PlaceD where
  place : Int
  start : Int
def plcC (p : PlaceD) : List Value := [.int .i64 p.place, .int .i64 p.start]
def cellsP (l : List PlaceD) : List Value := l.flatMap plcC
theorem cellsP_length (l : List PlaceD) : (cellsP l).length = l.length * 2 := by
  induction l with
  | nil => rfl
  | cons b l ih => simp only [cellsP, List.flatMap_cons, List.length_append, List.length_cons] at ih ⊢; simp only [plcC, List.length_cons, List.length_nil]; omega
theorem cellsP_snoc (l : List PlaceD) (b : PlaceD) : cellsP (l ++ [b]) = cellsP l ++ plcC b := by simp [cellsP]
theorem cellsP_get (l : List PlaceD) (i j : Nat) (b : PlaceD) (hb : l[i]? = some b) (hj : j < 2) : (cellsP l)[i * 2 + j]? = (plcC b)[j]? := by
  induction l generalizing i with
  | nil => simp at hb
  | cons a l ih =>
    have e : cellsP (a :: l) = plcC a ++ cellsP l := rfl
    rw [e]
    cases i with
    | zero =>
      simp at hb; subst hb
      rw [List.getElem?_append_left (by simp [plcC]; omega)]
      simp
    | succ i =>
      rw [List.getElem?_append_right (by simp [plcC]; omega)]
      rw [← ih i (by simpa using hb)]
      congr 1
      simp [plcC]; omega
theorem plcC_one (b : PlaceD) : ∀ u ∈ plcC b, u.oneCell' = true := by
  intro u hu
  simp only [plcC, List.mem_cons, List.not_mem_nil, or_false] at hu
  rcases hu with rfl | rfl <;> rfl

def bytesSum (l : List BlkD) : Int := (l.map fun b => 10 + (b.body.size : Int)).sum
theorem bytesSum_take {l : List BlkD} {k : Nat} (h : k < l.length) : bytesSum (l.take (k + 1)) = bytesSum (l.take k) + 10 + l[k].body.size := by
  rw [List.take_succ_eq_append_getElem h]; simp only [bytesSum, List.map_append, List.sum_append, List.map_cons, List.map_nil, List.sum_cons, List.sum_nil]; omega
theorem bytesSum_bd {l : List BlkD} (h : accOk l) : 0 ≤ bytesSum l ∧ bytesSum l ≤ 74 * l.length := by
  replace h := h.2
  induction l with
  | nil => simp [bytesSum]
  | cons b l ih =>
    have := h b (List.mem_cons_self ..)
    have := ih fun b hb => h b (List.mem_cons_of_mem _ hb)
    simp only [bytesSum, List.map_cons, List.sum_cons, List.length_cons] at *
    omega
/-- The first k places of blocks. -/
def placesK (l : List BlkD) (k : Nat) : List PlaceD := (List.range k).map fun i => ⟨bytesSum (l.take i), sizeSum (l.take i)⟩
theorem placesK_length (l : List BlkD) (k : Nat) : (placesK l k).length = k := by simp [placesK]
theorem placesK_succ (l : List BlkD) (k : Nat) : placesK l (k + 1) = placesK l k ++ [⟨bytesSum (l.take k), sizeSum (l.take k)⟩] := by simp [placesK, List.range_succ]
theorem placesK_get (l : List BlkD) (n k : Nat) (h : k < n) : (placesK l n)[k]? = some ⟨bytesSum (l.take k), sizeSum (l.take k)⟩ := by simp [placesK, h]
theorem plc_cells {w : World} {l : List PlaceD} {g : Nat} (hc : ∀ j u, (cellsP l)[j]? = some u → w.cell? ⟨g, j, none⟩ = some u) {k : Nat} {p : PlaceD} (hk : l[k]? = some p) :
    w.cell? ⟨g, k * 2, none⟩ = some (.int .i64 p.place) ∧ w.cell? ⟨g, k * 2 + 1, none⟩ = some (.int .i64 p.start) :=
  ⟨hc _ _ (cellsP_get l k 0 _ hk (by omega)), hc _ _ (cellsP_get l k 1 _ hk (by omega))⟩

/-- Rows of different element types lie in different blocks. -/
def RelP (l : List BlkD) (w : World) (v a f i : Value) (wr : World) : Prop := ∃ k : Nat, k ≤ l.length ∧ i = .int .i64 k ∧ a = .int .i64 (bytesSum (l.take k)) ∧ f = .int .i64 (sizeSum (l.take k)) ∧ wr.ownsRow w.heap.size 76 2 v k (cellsP (placesK l k)) ∧ Up w wr

set_option maxRecDepth 100000 in
set_option maxHeartbeats 1000000 in
theorem placesS_any (l : List BlkD) (vb : Value) (base : Nat) (w : World) (hb : w.ownsRow base 61 4 vb l.length (cellsB l)) (hok : accOk l) :
    Calls Tryz.prog 147 #[vb] w (fun e w' => ∃ v, e = .returned v ∧ w'.ownsRow w.heap.size 76 2 v l.length (cellsP (placesK l l.length)) ∧ Up w w') := by
  obtain ⟨i0, hi, hz0, hz1, hz2⟩ := info_parts infoPlace
  have hl40 := hok.1
  obtain ⟨a, cap, rfl, hm, hsome⟩ := ownsRow_any hb
  clear hb
  go_enter Tryz.func147, Tryz.ntmps147
  go_wp2
  go_loopw [3, 4, 5, 6] (fun v a f i wr => RelP l w v a f i wr) (fun _ _ _ i _ => l.length - (intOf i).toNat)
  case atStart => exact ⟨0, Nat.zero_le _, rfl, rfl, rfl, World.ownsRow_made _ _ _ (Nat.le_refl _) (by unfold maxLen; omega) rfl, (Up.refl _).alloc _⟩
  case round =>
    obtain ⟨k, hk, rfl, rfl, rfl, hown, hup⟩ := hrel
    have hsz := hup.size
    have hlen : (l.take k).length ≤ 40 := by simp; omega
    obtain ⟨hb1, hb2⟩ := sizeSum_bd (accOk_take hok k)
    obtain ⟨hd1, hd2⟩ := bytesSum_bd (accOk_take hok k)
    have hb3 : sizeSum (l.take k) ≤ 2560 := by omega
    have hd3 : bytesSum (l.take k) ≤ 2960 := by omega
    clear hb2 hd2 hlen
    by_cases hlt : k < l.length
    · obtain ⟨g, rfl, hnc, hcm, hbg, hg, hcells⟩ := hsome (by omega)
      obtain ⟨hs1, hs2, hs3⟩ := (hok.2 l[k] (List.getElem_mem hlt))
      have HS : Hid (sizeSum (l.take (k + 1)) = sizeSum (l.take k) + l[k].size) := sizeSum_take hlt
      have HD : Hid (bytesSum (l.take (k + 1)) = bytesSum (l.take k) + 10 + l[k].body.size) := bytesSum_take hlt
      have HP : Hid (placesK l (k + 1) = placesK l k ++ [⟨bytesSum (l.take k), sizeSum (l.take k)⟩]) := placesK_succ l k
      have hCC : ∀ w' : World, Up w w' → _ := fun w' hu => blk_cells (w := w') (fun j u hj => (hu.cell (p := ⟨g, j, none⟩) hg).trans (hcells j u hj)) hlt
      clear hcells
      go_wp2_with (at_builtin; refine wpList_append_own _ rfl _ _ 34 rfl w.heap.size 76 i0 (.agg #[.int .i64 0, .int .i64 0]) 2 16 Tryz.underlying34 hi hz0 hz1 hz2 rfl (by decide) _ _ _ rfl (hown.alloc _) ⟨wr.heap.size, 0, none⟩ 1 1 (plcC ⟨bytesSum (l.take k), sizeSum (l.take k)⟩) rfl rfl (new_cells (plcC ⟨bytesSum (l.take k), sizeSum (l.take k)⟩) _ rfl) (plcC_one _) (by unfold maxLen; omega) (by omega) (by simp; omega) ?_; rintro v2 w2 hown2 hgr2 -; have U2 := (hup.alloc _).grown hgr2 (fun x hx => (hown.lt x hx).1); obtain ⟨c0, c1, c2, c3⟩ := hCC _ U2)
      go_roundw
      case rel => exact ⟨k + 1, by omega, by go_num, by rw [HD.out], by rw [HS.out], by rw [HP.out, cellsP_snoc]; exact hown2, U2⟩
      case measure => simp [intOf]; omega
    · have e : k = l.length := by omega
      subst e
      go_wp2
      go_ret
      exact ⟨_, rfl, hown, hup⟩

end Go.Proofs.YtekbbnkkninolaaGreat

/- Walks of the laws' own functions on slices of places and of blocks: equality. Conditions: the rows can be read. -/
namespace Go.Proofs.YtekbbnkkninolaaGreat
set_option linter.unusedVariables false
set_option linter.unusedSimpArgs false
open Go.RowKit

theorem plc_cells' {w : World} {l : List PlaceD} {g : Nat} (hc : ∀ j u, (cellsP l)[j]? = some u → w.cell? ⟨g, j, none⟩ = some u) {k : Nat} (hk : k < l.length) :
    w.cell? ⟨g, k * 2, none⟩ = some (.int .i64 l[k].place) ∧ w.cell? ⟨g, k * 2 + 1, none⟩ = some (.int .i64 l[k].start) := plc_cells hc (List.getElem?_eq_getElem hk)
theorem read_cells {w : World} {base : Nat} {e : TypeId} {size n : Nat} {xs : List Value} {g cap : Nat} (h : w.ownsRow base e size (.slice (some ⟨g, 0, none⟩) n cap) n xs) : ∀ j u, xs[j]? = some u → w.cell? ⟨g, j, none⟩ = some u := fun j u hu => ownsRow_cell h hu

end Go.Proofs.YtekbbnkkninolaaGreat

/- Walks of the laws' own functions on slices of places and of blocks: marks, and the look at them. Conditions: the rows are owned; the numbers are small. -/
namespace Go.Proofs.YtekbbnkkninolaaGreat
set_option linter.unusedVariables false
set_option linter.unusedSimpArgs false
open Go.RowKit

theorem set2 (A B : List Value) (c d x y : Value) (m : Nat) (h : A.length = m) : ((A ++ ([c, d] ++ B)).set m x).set (m + 1) y = A ++ ([x, y] ++ B) := by
  subst h
  rw [List.set_append_right _ _ (Nat.le_refl _), List.set_append_right _ _ (by omega)]
  simp
end Go.Proofs.YtekbbnkkninolaaGreat

/- Walks of IndexOf, the program's and the reference's. Conditions: the string's length is below 2^30. -/
namespace Go.Proofs.YtekbbnkkninolaaGreat
set_option linter.unusedVariables false
set_option linter.unusedSimpArgs false
open Go.RowKit

def midQ (l : List BlkD) (k : Nat) : List PlaceD := placesK l k ++ List.replicate (l.length - k) ⟨0, 0⟩
theorem midQ_all (l : List BlkD) : midQ l l.length = placesK l l.length := by simp [midQ]
theorem midQ_at (l : List BlkD) (k : Nat) (h : k < l.length) : (midQ l k)[k]? = some ⟨0, 0⟩ := by
  rw [midQ, List.getElem?_append_right (by rw [placesK_length]; exact Nat.le_refl _), placesK_length, Nat.sub_self, List.getElem?_replicate, if_pos (by omega)]
theorem midQ_set (l : List BlkD) (k : Nat) (h : k < l.length) : ((cellsP (midQ l k)).set (k * 2) (.int .i64 (bytesSum (l.take k)))).set (k * 2 + 1) (.int .i64 (sizeSum (l.take k))) = cellsP (midQ l (k + 1)) := by
  have e : List.replicate (l.length - k) (⟨0, 0⟩ : PlaceD) = ⟨0, 0⟩ :: List.replicate (l.length - (k + 1)) ⟨0, 0⟩ := by
    rw [show l.length - k = (l.length - (k + 1)) + 1 by omega]; rfl
  rw [midQ, midQ, e, placesK_succ]
  simp only [cellsP, List.flatMap_append, List.flatMap_cons, List.flatMap_nil, List.append_nil, List.append_assoc]
  exact set2 _ _ _ _ _ _ _ (by have := cellsP_length (placesK l k); rw [placesK_length] at this; exact this)
theorem cellsP_zero (n : Nat) : cellsP (List.replicate n ⟨0, 0⟩) = List.replicate (n * 2) (.int .i64 0) := by
  induction n with
  | zero => rfl
  | succ n ih =>
    rw [List.replicate_succ]
    show plcC ⟨0, 0⟩ ++ cellsP (List.replicate n ⟨0, 0⟩) = _
    rw [ih, show (n + 1) * 2 = n * 2 + 1 + 1 by omega, List.replicate_succ, List.replicate_succ]; rfl
theorem made_zero (m : Nat) : (madeCells #[.int .i64 0, .int .i64 0] m).toList = List.replicate m (.int .i64 0) := by
  rw [List.eq_replicate_iff]
  refine ⟨by simp [madeCells], fun b hb => ?_⟩
  simp only [madeCells, Array.toList_map, List.mem_map] at hb
  obtain ⟨i, _, rfl⟩ := hb
  have : i % 2 = 0 ∨ i % 2 = 1 := by omega
  rcases this with e | e <;> simp [e]
theorem made_row (w : World) (base n : Nat) (hb : base ≤ w.heap.size) (hm : n ≤ maxLen) : (w.alloc (.cells (madeCells #[.int .i64 0, .int .i64 0] (n * 2)) 76)).ownsRow base 76 2 (.slice (some ⟨w.heap.size, 0, none⟩) n n) n (cellsP (List.replicate n ⟨0, 0⟩)) := by
  refine ⟨by rw [cellsP_zero]; simp, .inr ⟨_, _, _, rfl, hb, (MapKept.heap_alloc w _).1, Nat.le_refl _, hm, by simp [madeCells], ?_⟩⟩
  rw [made_zero, cellsP_zero, List.take_of_length_le (by simp)]
theorem ownsRow_other {w : World} {base : Nat} {e : TypeId} {size n : Nat} {xs : List Value} {g cap : Nat} (h : w.ownsRow base e size (.slice (some ⟨g, 0, none⟩) n cap) n xs) {p : Addr} (hp : g ≠ p.block) (u : Value) : (w.setCell p u).ownsRow base e size (.slice (some ⟨g, 0, none⟩) n cap) n xs := by
  refine ⟨h.1, ?_⟩
  rcases h.2 with ⟨hn, _⟩ | ⟨g', cap', cur, hv, hb, hg, rest⟩
  · cases hn
  · cases hv
    exact .inr ⟨g, cap, cur, rfl, hb, by rw [Below.heap_setCell _ _ _ _ hp]; exact hg, rest⟩
theorem box_other {w : World} {b : Nat} {o : Obj} (h : w.heap[b]? = some o) {p : Addr} (hp : b ≠ p.block) (u : Value) : (w.setCell p u).heap[b]? = some o := by
  rw [Below.heap_setCell _ _ _ _ hp]; exact h

/-- What IndexOf leaves. -/
def IndexPost (s : ByteArray) (w : World) (e : Ending) (w' : World) : Prop := ∃ v, e = .returned (.tuple #[v, .bool (contBlocks s).isSome]) ∧ w'.ownsRow w.heap.size 76 2 v (placesK ((contBlocks s).getD []) ((contBlocks s).getD []).length).length (cellsP (placesK ((contBlocks s).getD []) ((contBlocks s).getD []).length)) ∧ Up w w'

def RelI (l : List BlkD) (w1 : World) (i : Value) (wr : World) : Prop := ∃ k : Nat, k ≤ l.length ∧ i = .int .i64 k ∧ Up w1 wr ∧ wr.ownsRow w1.heap.size 76 2 (.slice (some ⟨w1.heap.size, 0, none⟩) l.length l.length) l.length (cellsP (midQ l k)) ∧ wr.heap[w1.heap.size + 1]? = some (.cells #[.int .i64 (bytesSum (l.take k)), .int .i64 (sizeSum (l.take k))] 76)

set_option maxRecDepth 100000 in
set_option maxHeartbeats 2000000 in
theorem indexI_any (s : ByteArray) (w : World) (hs : s.size ≤ 1073741824) :
    Calls Tryz.prog 56 #[.string s] w (IndexPost s w) := by
  obtain ⟨i0, hi0, hz0, hz1, hz2⟩ := info_parts infoPlace
  unfold IndexPost
  cases hc : contBlocks s with
  | none =>
    have cP := contI_none hc hs
    clear hc
    go_enter Tryz.func56, Tryz.ntmps56
    go_wp2_with (go_at_call 54; (with_reducible refine (cP _).mono ?_); rintro e w1 ⟨v, rfl, hown, U1⟩)
    go_ret2
    exact ⟨_, rfl, World.ownsRow_nil _ _ _ _, U1⟩
  | some l =>
    have cP := contI_some hc hs
    have hok := contBlocks_ok hc
    have hl40 := hok.1
    clear hc
    have hmk : ∀ w : World, (Instr.makeSlice 34 (.int .i64 (l.length : Int)) (.int .i64 (l.length : Int))).run Tryz.prog w = .ok (.slice (some ⟨w.heap.size, 0, none⟩) l.length l.length) (w.alloc (.cells (madeCells #[.int .i64 0, .int .i64 0] (l.length * 2)) 76)) := fun w => by
      have := run_make (P := Tryz.prog) w 34 76 i0 _ Tryz.underlying34 hi0 hz0 .i64 .i64 l.length l.length (by omega) (Int.le_refl _) (by rw [hz2]; omega) (by omega)
      rw [hz1] at this
      simpa [Value.cells] using this
    clear hz0 hz1 hz2 hi0
    go_enter Tryz.func56, Tryz.ntmps56
    go_wp2_with (go_at_call 54; (with_reducible refine (cP _).mono ?_); rintro e w1 ⟨v, rfl, hownB, U1⟩; obtain ⟨a, cap, rfl, hm, hsome⟩ := ownsRow_any hownB)
    go_loopw [23] (fun i wr => RelI l w1 i wr) (fun i _ => l.length - (intOf i).toNat)
    case atStart => exact ⟨0, Nat.zero_le _, rfl, ((Up.refl _).alloc _).alloc _, by simpa [midQ, placesK] using (made_row w1 w1.heap.size l.length (Nat.le_refl _) hm).alloc _, by simpa [bytesSum, sizeSum] using (MapKept.heap_alloc (w1.alloc (.cells (madeCells #[.int .i64 0, .int .i64 0] (l.length * 2)) 76)) _).1⟩
    case round =>
      obtain ⟨k, hk, rfl, hup, ho, hbx⟩ := hrel
      have hsz := hup.size
      have hlen : (l.take k).length ≤ 40 := by simp; omega
      obtain ⟨hb1, hb2⟩ := sizeSum_bd (accOk_take hok k)
      obtain ⟨hd1, hd2⟩ := bytesSum_bd (accOk_take hok k)
      have hb3 : sizeSum (l.take k) ≤ 2560 := by omega
      have hd3 : bytesSum (l.take k) ≤ 2960 := by omega
      clear hb2 hd2 hlen
      by_cases hlt : k < l.length
      · obtain ⟨g, rfl, hnc, hcm, hbg, hg, hcells⟩ := hsome (by omega)
        obtain ⟨c0, c1, c2, c3⟩ := blk_cells (w := wr) (fun j u hj => (hup.cell (p := ⟨g, j, none⟩) hg).trans (hcells j u hj)) hlt
        obtain ⟨d0, d1⟩ := plc_cells (read_cells ho) (midQ_at l k hlt)
        have f0 := ownsRow_free ho (k * 2)
        have f1 := ownsRow_free ho (k * 2 + 1)
        have n0 := box_cell hbx 0
        have n1 := box_cell hbx 1
        have m0 := box_free hbx 0
        have m1 := box_free hbx 1
        simp at n0 n1
        obtain ⟨hs1, hs2, hs3⟩ := (hok.2 l[k] (List.getElem_mem hlt))
        have HS : Hid (sizeSum (l.take (k + 1)) = sizeSum (l.take k) + l[k].size) := sizeSum_take hlt
        have HD : Hid (bytesSum (l.take (k + 1)) = bytesSum (l.take k) + 10 + l[k].body.size) := bytesSum_take hlt
        have hrl : w1.heap.size < wr.heap.size := (ho.lt _ rfl).2
        have hnl : w1.heap.size + 1 < wr.heap.size := (Array.getElem?_eq_some_iff.1 hbx).1
        have HM := Lib.hid (midQ_set l k hlt)
        have hgne : g ≠ w1.heap.size := by omega
        clear hcells
        go_wp2
        go_roundw
        case rel =>
          refine ⟨k + 1, by omega, by go_num, ((((hup.set (p := ⟨w1.heap.size, k * 2, none⟩) (Nat.le_refl _) _).set (p := ⟨w1.heap.size, k * 2 + 1, none⟩) (Nat.le_refl _) _).set (p := ⟨w1.heap.size + 1, 0, none⟩) (Nat.le_succ _) _).set (p := ⟨w1.heap.size + 1, 1, none⟩) (Nat.le_succ _) _).alloc _, ?_, ?_⟩
          · rw [← HM.out]
            exact (ownsRow_other (ownsRow_other (ownsRow_set (ownsRow_set ho (k * 2) _) (k * 2 + 1) _) (p := ⟨w1.heap.size + 1, 0, none⟩) (Nat.ne_of_lt (Nat.lt_succ_self _)) _) (p := ⟨w1.heap.size + 1, 1, none⟩) (Nat.ne_of_lt (Nat.lt_succ_self _)) _).alloc _
          · rw [HD.out, HS.out, Int.add_assoc]
            exact box_up ((Up.refl _).alloc _) (box_set (box_set (box_other (box_other hbx (p := ⟨w1.heap.size, k * 2, none⟩) (Nat.ne_of_gt (Nat.lt_succ_self _)) _) (p := ⟨w1.heap.size, k * 2 + 1, none⟩) (Nat.ne_of_gt (Nat.lt_succ_self _)) _) 0 _) 1 _)
        case measure => simp [intOf]; omega
      · have e : k = l.length := by omega
        subst e
        rw [midQ_all] at ho
        go_wp2
        go_ret2
        refine ⟨_, rfl, ?_, U1.trans hup⟩
        simp only [Option.getD_some, placesK_length]
        exact ownsRow_base ho U1.size

set_option maxRecDepth 100000 in
set_option maxHeartbeats 2000000 in
theorem indexS_any (s : ByteArray) (w : World) (hs : s.size ≤ 1073741824) :
    Calls Tryz.prog 121 #[.string s] w (IndexPost s w) := by
  unfold IndexPost
  cases hc : contBlocks s with
  | none =>
    have cP := contS_none hc hs
    clear hc
    go_enter Tryz.func121, Tryz.ntmps121
    go_wp2_with (go_at_call 61; (with_reducible refine (cP _).mono ?_); rintro e w1 ⟨v, rfl, hown, U1⟩)
    go_ret2
    exact ⟨_, rfl, World.ownsRow_made w1 #[] 0 U1.size (by unfold maxLen; omega) rfl, U1.alloc _⟩
  | some l =>
    have cP := contS_some hc hs
    have hok := contBlocks_ok hc
    clear hc
    go_enter Tryz.func121, Tryz.ntmps121
    go_wp2_with (first | (go_at_call 61; (with_reducible refine (cP _).mono ?_); rintro e w1 ⟨v, rfl, hownB, U1⟩) | (go_at_call 147; (with_reducible refine (placesS_any l _ _ _ hownB hok).mono ?_); rintro e w2 ⟨vp, rfl, hownP, U2⟩))
    go_ret2
    refine ⟨_, rfl, ?_, U1.trans U2⟩
    simp only [Option.getD_some, placesK_length]
    exact ownsRow_base hownP U1.size

end Go.Proofs.YtekbbnkkninolaaGreat

/- Walks of the reference's draws of strings, places and ranges, from the bytes of an input. Conditions: the bytes can be read. -/
namespace Go.Proofs.YtekbbnkkninolaaGreat
set_option linter.unusedVariables false
set_option linter.unusedSimpArgs false
open Go Go.RowKit

def isInts2 (v : Value) : Prop := ∃ a b : Int, v = .tuple #[.int .i64 a, .int .i64 b]

set_option maxRecDepth 100000 in
set_option maxHeartbeats 4000000 in
theorem l5Range_any (rb : Nat) (B : Value) (n : Int) (w : World) (N : Nat) (h : Rdr rb B w N) (hN : N ≤ 700000000) (hn : n ≤ 100000) (hn0 : -100000 ≤ n) :
    Calls Tryz.prog 118  #[.pointer (some ⟨rb, 0, none⟩), .int .i64 n] w (Drawn rb B 10 isInts2 w) := by
  obtain ⟨p, hp, h, HM⟩ := h.least
  have hlt := h.lt
  have HR := Lib.hid h
  have hU := RdUp.refl rb B 0 w
  by_cases hn1 : n < 0
  all_goals
    go_enter Tryz.func118, Tryz.ntmps118
    go_wp2_with (first | (go_at_call 89; ((with_reducible refine (pick_at HR.out hU (by intro c hU; (repeat (first | with_reducible assumption | refine RdUp.ups ?_ (by with_reducible assumption) | with_reducible refine RdUp.set ?_ (by first | exact Nat.le_refl _ | (simp only []; omega) | (simp; omega)) _ | with_reducible refine RdUp.alloc ?_ _ | with_reducible refine RdUp.drew ?_ | with_reducible exact RdUp.of (Up.refl _)))) (by omega)).mono ?_); rintro e w' ⟨i, rfl, hi0, hi1, hU, U⟩; have D := gcell U.1; have Z := U.1.size; (try simp at Z); (try have Y0 : w.heap.size < w'.heap.size := (by omega)); (try have Y1 : w.heap.size + 1 < w'.heap.size := (by omega)); (try have Y2 : w.heap.size + 1 + 1 < w'.heap.size := (by omega)); (try have X0 : w.heap.size < w'.heap.size + 1 := (by omega)); (try have X1 : w.heap.size + 1 < w'.heap.size + 1 := (by omega)); (try have X2 : w.heap.size + 1 + 1 < w'.heap.size + 1 := (by omega)))) | (go_at_call 105; ((with_reducible refine (num_at ([-1, 9223372036854775807]) HR.out hU (by intro c hU; (repeat (first | with_reducible assumption | refine RdUp.ups ?_ (by with_reducible assumption) | with_reducible refine RdUp.set ?_ (by first | exact Nat.le_refl _ | (simp only []; omega) | (simp; omega)) _ | with_reducible refine RdUp.alloc ?_ _ | with_reducible refine RdUp.drew ?_ | with_reducible exact RdUp.of (Up.refl _)))) (by omega) (by first | rfl | (simp; done) | fail) (by first | rfl | (simp; done) | fail) (by first | rfl | (simp; done) | fail) (by simp) (by simp) (by first | rfl | (simp; done) | fail)).mono ?_); rintro e w' ⟨i, rfl, hi, hU, U⟩; have D := gcell U.1; have Z := U.1.size; (try simp at Z); (try have Y0 : w.heap.size < w'.heap.size := (by omega)); (try have Y1 : w.heap.size + 1 < w'.heap.size := (by omega)); (try have Y2 : w.heap.size + 1 + 1 < w'.heap.size := (by omega)); (try have X0 : w.heap.size < w'.heap.size + 1 := (by omega)); (try have X1 : w.heap.size + 1 < w'.heap.size + 1 := (by omega)); (try have X2 : w.heap.size + 1 + 1 < w'.heap.size + 1 := (by omega)); (skip))) | (go_at_call 105; ((with_reducible refine (num_at ([-1, n + 1, 9223372036854775807]) HR.out hU (by intro c hU; (repeat (first | with_reducible assumption | refine RdUp.ups ?_ (by with_reducible assumption) | with_reducible refine RdUp.set ?_ (by first | exact Nat.le_refl _ | (simp only []; omega) | (simp; omega)) _ | with_reducible refine RdUp.alloc ?_ _ | with_reducible refine RdUp.drew ?_ | with_reducible exact RdUp.of (Up.refl _)))) (by omega) (by first | rfl | (simp; done) | fail) (by first | rfl | (simp; done) | fail) (by first | rfl | (simp; done) | fail) (by simp) (by simp) (by first | rfl | (simp; done) | fail)).mono ?_); rintro e w' ⟨i, rfl, hi, hU, U⟩; have D := gcell U.1; have Z := U.1.size; (try simp at Z); (try have Y0 : w.heap.size < w'.heap.size := (by omega)); (try have Y1 : w.heap.size + 1 < w'.heap.size := (by omega)); (try have Y2 : w.heap.size + 1 + 1 < w'.heap.size := (by omega)); (try have X0 : w.heap.size < w'.heap.size + 1 := (by omega)); (try have X1 : w.heap.size + 1 < w'.heap.size + 1 := (by omega)); (try have X2 : w.heap.size + 1 + 1 < w'.heap.size + 1 := (by omega)); (skip))))
    all_goals
      go_ret2
      exact ⟨_, rfl, ⟨_, _, rfl⟩, by exact RdUp.fin hU (by intro c hU; (repeat (first | with_reducible assumption | refine RdUp.ups ?_ (by with_reducible assumption) | with_reducible refine RdUp.set ?_ (by first | exact Nat.le_refl _ | (simp only []; omega) | (simp; omega)) _ | with_reducible refine RdUp.alloc ?_ _ | with_reducible refine RdUp.drew ?_ | with_reducible exact RdUp.of (Up.refl _)))) (by omega)⟩

end Go.Proofs.YtekbbnkkninolaaGreat

/- Walks of the reference's draws of data that may not fit, of settings that may not be valid, of dictionaries. Conditions: the reader is one (Rdr), its place is bounded. -/
namespace Go.Proofs.YtekbbnkkninolaaGreat
set_option linter.unusedVariables false
set_option linter.unusedSimpArgs false
open Go Go.RowKit

def isSetB (v : Value) : Prop := ∃ s : SetD, v = setV s ∧ (-9223372036854775808 ≤ s.lit ∧ s.lit ≤ 9223372036854775807)
theorem isSetB_mk (a b c : Int) (h : -9223372036854775808 ≤ b ∧ b ≤ 9223372036854775807) : isSetB (.agg #[.int .i64 a, .int .i64 b, .int .i64 c]) := ⟨⟨a, b, c⟩, rfl, h⟩

set_option maxRecDepth 100000 in
set_option maxHeartbeats 4000000 in
theorem l1BadB_any (rb : Nat) (B : Value) (s : SetD) (w : World) (N : Nat) (h : Rdr rb B w N) (hN : N ≤ 1000000000) (hs : setOk s = true) :
    Calls Tryz.prog 91  #[.pointer (some ⟨rb, 0, none⟩), setV s] w (Drawn rb B 2 isSetB w) := by
  have hlt := h.lt
  have HR := Lib.hid h
  have hne0 : ¬ w.heap.size = rb := by omega
  have hne1 : ¬ w.heap.size + 1 = rb := by omega
  have hU := RdUp.refl rb B 0 w
  have e1 : w.heap.size < w.heap.size + 1 := by omega
  have e2 : w.heap.size < w.heap.size + 1 + 1 := by omega
  have e3 : w.heap.size + 1 < w.heap.size + 1 + 1 := by omega
  have hlb := (setOk_bd hs).2.1
  obtain ⟨hlb1, hlb2⟩ := hlb
  clear hs
  simp only [setV]
  go_enter Tryz.func91, Tryz.ntmps91
  go_wp2_with (first | (go_at_call 105; ((with_reducible refine (num_at ([-1, 2]) HR.out hU (by intro c hU; (repeat (first | with_reducible assumption | refine RdUp.ups ?_ (by with_reducible assumption) | with_reducible refine RdUp.set ?_ (by first | exact Nat.le_refl _ | (simp only []; omega) | (simp; omega)) _ | with_reducible refine RdUp.alloc ?_ _ | with_reducible refine RdUp.drew ?_ | with_reducible exact RdUp.of (Up.refl _)))) (by omega) (by first | rfl | (simp; done) | fail) (by first | rfl | (simp; done) | fail) (by first | rfl | (simp; done) | fail) (by simp) (by simp) (by first | rfl | (simp; done) | fail)).mono ?_); rintro e w' ⟨i, rfl, hi, hU, U⟩; have D := gcell U.1; have Z := U.1.size; (try simp at Z); (try have Y0 : w.heap.size < w'.heap.size := (by omega)); (try have Y1 : w.heap.size + 1 < w'.heap.size := (by omega)); (try have Y2 : w.heap.size + 1 + 1 < w'.heap.size := (by omega)); (try have X0 : w.heap.size < w'.heap.size + 1 := (by omega)); (try have X1 : w.heap.size + 1 < w'.heap.size + 1 := (by omega)); (try have X2 : w.heap.size + 1 + 1 < w'.heap.size + 1 := (by omega)); (clear hi))) | (go_at_call 105; ((with_reducible refine (num_at ([0, 9, -1, 9223372036854775807]) HR.out hU (by intro c hU; (repeat (first | with_reducible assumption | refine RdUp.ups ?_ (by with_reducible assumption) | with_reducible refine RdUp.set ?_ (by first | exact Nat.le_refl _ | (simp only []; omega) | (simp; omega)) _ | with_reducible refine RdUp.alloc ?_ _ | with_reducible refine RdUp.drew ?_ | with_reducible exact RdUp.of (Up.refl _)))) (by omega) (by first | rfl | (simp; done) | fail) (by first | rfl | (simp; done) | fail) (by first | rfl | (simp; done) | fail) (by simp) (by simp) (by first | rfl | (simp; done) | fail)).mono ?_); rintro e w' ⟨i, rfl, hi, hU, U⟩; have D := gcell U.1; have Z := U.1.size; (try simp at Z); (try have Y0 : w.heap.size < w'.heap.size := (by omega)); (try have Y1 : w.heap.size + 1 < w'.heap.size := (by omega)); (try have Y2 : w.heap.size + 1 + 1 < w'.heap.size := (by omega)); (try have X0 : w.heap.size < w'.heap.size + 1 := (by omega)); (try have X1 : w.heap.size + 1 < w'.heap.size + 1 := (by omega)); (try have X2 : w.heap.size + 1 + 1 < w'.heap.size + 1 := (by omega)); ((have hlx : -9223372036854775808 ≤ i ∧ i ≤ 9223372036854775807 := (by simp at hi; omega)); clear hi))) | (go_at_call 105; ((with_reducible refine (num_at ([s.lit + 1, 11, -1, -9223372036854775808]) HR.out hU (by intro c hU; (repeat (first | with_reducible assumption | refine RdUp.ups ?_ (by with_reducible assumption) | with_reducible refine RdUp.set ?_ (by first | exact Nat.le_refl _ | (simp only []; omega) | (simp; omega)) _ | with_reducible refine RdUp.alloc ?_ _ | with_reducible refine RdUp.drew ?_ | with_reducible exact RdUp.of (Up.refl _)))) (by omega) (by first | rfl | (simp; done) | fail) (by first | rfl | (simp; done) | fail) (by first | rfl | (simp; done) | fail) (by simp) (by simp) (by first | rfl | (simp; done) | fail)).mono ?_); rintro e w' ⟨i, rfl, hi, hU, U⟩; have D := gcell U.1; have Z := U.1.size; (try simp at Z); (try have Y0 : w.heap.size < w'.heap.size := (by omega)); (try have Y1 : w.heap.size + 1 < w'.heap.size := (by omega)); (try have Y2 : w.heap.size + 1 + 1 < w'.heap.size := (by omega)); (try have X0 : w.heap.size < w'.heap.size + 1 := (by omega)); (try have X1 : w.heap.size + 1 < w'.heap.size + 1 := (by omega)); (try have X2 : w.heap.size + 1 + 1 < w'.heap.size + 1 := (by omega)); (clear hi))) | (go_at_call 89; ((with_reducible refine (pick_at HR.out hU (by intro c hU; (repeat (first | with_reducible assumption | refine RdUp.ups ?_ (by with_reducible assumption) | with_reducible refine RdUp.set ?_ (by first | exact Nat.le_refl _ | (simp only []; omega) | (simp; omega)) _ | with_reducible refine RdUp.alloc ?_ _ | with_reducible refine RdUp.drew ?_ | with_reducible exact RdUp.of (Up.refl _)))) (by omega)).mono ?_); rintro e w' ⟨i, rfl, hi0, hi1, hU, U⟩; have D := gcell U.1; have Z := U.1.size; (try simp at Z); (try have Y0 : w.heap.size < w'.heap.size := (by omega)); (try have Y1 : w.heap.size + 1 < w'.heap.size := (by omega)); (try have Y2 : w.heap.size + 1 + 1 < w'.heap.size := (by omega)); (try have X0 : w.heap.size < w'.heap.size + 1 := (by omega)); (try have X1 : w.heap.size + 1 < w'.heap.size + 1 := (by omega)); (try have X2 : w.heap.size + 1 + 1 < w'.heap.size + 1 := (by omega)))))
  all_goals
    have q0 : w'.cell? ⟨w.heap.size + 1, 0, none⟩ = some (.int .i64 0) := by simp [go_sem, *]
    have q1 : w'.cell? ⟨w.heap.size + 1, 1, none⟩ = some (.int .i64 0) := by simp [go_sem, *]
    have q2 : w'.cell? ⟨w.heap.size + 1, 2, none⟩ = some (.int .i64 0) := by simp [go_sem, *]
    refine bodyPost_ret (v := _) (by simp [results, Tryz.results91, go_sem, q0, q1, q2]; rfl) rfl ?_
    refine ⟨_, rfl, isSetB_mk _ _ _ (by first | omega | assumption), ?_⟩
    exact RdUp.fin hU (by intro c hU; (repeat (first | with_reducible assumption | refine RdUp.ups ?_ (by with_reducible assumption) | with_reducible refine RdUp.set ?_ (by first | exact Nat.le_refl _ | (simp only []; omega) | (simp; omega)) _ | with_reducible refine RdUp.alloc ?_ _ | with_reducible refine RdUp.drew ?_ | with_reducible exact RdUp.of (Up.refl _)))) (by omega)


theorem RdInts.gr {rb : Nat} {w w' : World} {v : Value} {l : List Int} (h : RdInts rb w v l) (hg : w.grownBy w' (some rb)) : RdInts rb w' v l := by
  obtain ⟨b, off, cap, h1, h2, h3, h4, h5, h6⟩ := h
  exact ⟨b, off, cap, h1, h2, h3, Nat.lt_of_lt_of_le h4 hg.size, h5, fun i x hi => ((gcell hg).1 b _ h4 (fun e => h5 (Option.some.inj e))).trans (h6 i x hi)⟩
end Go.Proofs.YtekbbnkkninolaaGreat

/- Walks of the reference's draws of blocks and containers. Conditions: the bytes can be read. -/
namespace Go.Proofs.YtekbbnkkninolaaGreat
set_option linter.unusedVariables false
set_option linter.unusedSimpArgs false
open Go Go.RowKit

abbrev litB (s : SetD) : Prop := -9223372036854775808 ≤ s.lit ∧ s.lit ≤ 9223372036854775807

theorem ownsRow_take {w : World} {base : Nat} {e : TypeId} {size n k cap : Nat} {a : Option Addr} {xs : List Value} (h : w.ownsRow base e size (.slice a n cap) n xs) (hk : k ≤ n) : w.ownsRow base e size (.slice a k cap) k (xs.take (k * size)) := by
  obtain ⟨h1, h2⟩ := h
  have hm := Nat.mul_le_mul_right size hk
  refine ⟨by rw [List.length_take, h1]; omega, ?_⟩
  rcases h2 with ⟨h3, h4⟩ | ⟨g, c, cur, h3, h4, h5, h6, h7, h8, h9⟩
  · cases h3
    exact .inl ⟨by rw [show k = 0 by omega], by omega⟩
  · cases h3
    exact .inr ⟨g, _, cur, rfl, h4, h5, by omega, h7, h8, by rw [← h9, List.take_take, Nat.min_eq_left hm]⟩
theorem cellsP_take (ps : List PlaceD) (k : Nat) : (cellsP ps).take (k * 2) = cellsP (ps.take k) := by
  induction ps generalizing k with
  | nil => simp [cellsP]
  | cons p ps ih =>
    cases k with
    | zero => simp [cellsP]
    | succ k =>
      have := ih k
      unfold cellsP at *
      rw [List.take_succ_cons, List.flatMap_cons, List.flatMap_cons, ← this, show (k + 1) * 2 = k * 2 + 2 by omega, List.take_append]
      rw [show (plcC p).length = 2 from rfl, List.take_of_length_le (by show 2 ≤ _; omega)]
      congr 1

set_option maxRecDepth 100000 in
set_option maxHeartbeats 8000000 in
theorem drawReadIndexed_any (v : Value) (l : List UInt8) (w : World) (h : ArgU w v l) :
    Calls Tryz.prog 59  #[v] w (fun e w' => ∃ (s : SetD) (dict st : ByteArray) (u : Value) (ps : List PlaceD) (a b : Int), e = .returned (.tuple #[setV s, .string dict, .string st, u, .int .i64 a, .int .i64 b]) ∧ litB s ∧ dict.size ≤ 1000 ∧ st.size ≤ 10002 ∧ ps.length ≤ 40 ∧ w'.ownsRow w.heap.size 76 2 u ps.length (cellsP ps) ∧ Up w w') := by
  have cO := fun w' hu => open_at (h.up (w' := w') hu)
  clear h
  go_enter Tryz.func59, Tryz.ntmps59
  go_wp2_with (go_at_call 77; (with_reducible refine (cO _ (by (repeat (first | with_reducible exact Up.refl _ | with_reducible assumption | with_reducible refine Up.set ?_ (by first | exact Nat.le_refl _ | (simp only []; omega) | (simp; omega)) _ | with_reducible refine Up.alloc ?_ _ | with_reducible refine Up.drew ?_ | refine Up.trans ?_ (by with_reducible assumption))))).mono ?_); rintro e w1 ⟨B, rfl, hr, U1⟩)
  have hRB : SetAt w.heap.size 0 0 0 w1 := box_up U1 (MapKept.heap_alloc w _).1
  have hUp : Up w w1 := by (repeat (first | with_reducible exact Up.refl _ | with_reducible assumption | with_reducible refine Up.set ?_ (by first | exact Nat.le_refl _ | (simp only []; omega) | (simp; omega)) _ | with_reducible refine Up.alloc ?_ _ | with_reducible refine Up.drew ?_ | refine Up.trans ?_ (by with_reducible assumption)))
  rw [size_alloc] at hr
  have hrw : w.heap.size < w.heap.size + 1 := by omega
  generalize w.heap.size + 1 = rb at *
  obtain ⟨p, hp, hr, HM⟩ := hr.least
  have hlt := hr.lt
  have HR := Lib.hid hr
  have hU := RdUp.refl rb B 0 w1
  have hne0 : ¬ w.heap.size = rb := by omega
  clear cO U1
  have cS := fun w N h hN => l5Some_any rb B w N h hN
  go_wp2_with ((go_at_call 117; ((with_reducible refine (draw_atM (cS) HR.out hU (by intro c hU; (repeat (first | with_reducible assumption | refine RdUp.ups ?_ (by with_reducible assumption) | with_reducible refine RdUp.set ?_ (by first | exact Nat.le_refl _ | (simp only []; omega) | (simp; omega)) _ | with_reducible refine RdUp.alloc ?_ _ | with_reducible refine RdUp.drew ?_ | with_reducible exact RdUp.of (Up.refl _)))) (by omega)).mono ?_); rintro e w' ⟨v, rfl, ⟨s, dict, st, rfl, hs, hdi, hst⟩, hU, U⟩; have D := gcell U.1; have Z := U.1.size; (try simp at Z); (try have Y0 : w.heap.size < w'.heap.size := (by omega)); (try have Y1 : w.heap.size + 1 < w'.heap.size := (by omega)); (try have Y2 : w.heap.size + 1 + 1 < w'.heap.size := (by omega)); (try have X0 : w.heap.size < w'.heap.size + 1 := (by omega)); (try have X1 : w.heap.size + 1 < w'.heap.size + 1 := (by omega)); (try have X2 : w.heap.size + 1 + 1 < w'.heap.size + 1 := (by omega)))))
  have hSB : SetAt w'.heap.size s.ord s.lit s.most (w'.alloc (.cells #[.int .i64 s.ord, .int .i64 s.lit, .int .i64 s.most] 26)) := (MapKept.heap_alloc w' _).1
  have hRB : SetAt w.heap.size 0 0 0 (w'.alloc (.cells #[.int .i64 s.ord, .int .i64 s.lit, .int .i64 s.most] 26)) := box_up ((Up.refl _).alloc _) (gbox U.1 hRB (by simp; omega))
  have hU : RdUp rb B 40000 w1 (w'.alloc (.cells #[.int .i64 s.ord, .int .i64 s.lit, .int .i64 s.most] 26)) := by exact RdUp.fin hU (by intro c hU; (repeat (first | with_reducible assumption | refine RdUp.ups ?_ (by with_reducible assumption) | with_reducible refine RdUp.set ?_ (by first | exact Nat.le_refl _ | (simp only []; omega) | (simp; omega)) _ | with_reducible refine RdUp.alloc ?_ _ | with_reducible refine RdUp.drew ?_ | with_reducible exact RdUp.of (Up.refl _)))) (by omega)
  have hbr : ¬ w'.heap.size = rb := by omega
  generalize (w'.alloc (.cells #[.int .i64 s.ord, .int .i64 s.lit, .int .i64 s.most] 26)) = W at *
  generalize w'.heap.size = b5 at *
  obtain ⟨hbs, s0, s1, s2⟩ := SetAt.cells hSB
  obtain ⟨hb0, q0, q1, q2⟩ := SetAt.cells hRB
  have hfr := box_free hRB
  clear D U Z
  have cL := fun wx N h hN => l5Bad_any rb B st wx N h hN hst
  have cC := fun wx => csizes_any st wx (by omega)
  have hcs : contSize st ≤ 2560 ∧ -1 ≤ contSize st := by
    unfold contSize
    cases hc : contBlocks st with
    | none => exact ⟨by decide, by decide⟩
    | some l => have := sizeSum_bd (contBlocks_ok hc); have := (contBlocks_ok hc).1; simp only; omega
  have cR := fun wx N h hN => l5Range_any rb B (contSize st) wx N h hN (by omega) (by omega)
  have cB := fun w N h hN => l1BadB_any rb B s w N h hN hs
  have cX := fun wx => indexS_any st wx (by omega)
  unfold IndexPost at cX
  have hL40 : (placesK ((contBlocks st).getD []) ((contBlocks st).getD []).length).length ≤ 40 := by
    rw [placesK_length]
    cases hc : contBlocks st with
    | none => simp
    | some l => exact (contBlocks_ok hc).1
  generalize (contBlocks st).isSome = okX at *
  generalize placesK ((contBlocks st).getD []) ((contBlocks st).getD []).length = L at *
  generalize contSize st = cs at *
  clear hs
  simp only [setV] at *
  go_wp2_with fail
  (with_reducible refine (cX _).mono ?_); rintro e w3 ⟨v3, rfl, h3, U3⟩
  have hSB := box_up U3 hSB
  have hRB := box_up U3 hRB
  clear s0 s1 s2 hbs q0 q1 q2 hb0 hfr
  obtain ⟨hbs, s0, s1, s2⟩ := SetAt.cells hSB
  obtain ⟨hb0, q0, q1, q2⟩ := SetAt.cells hRB
  have hfr := box_free hRB
  have hrbW : rb < W.heap.size := by have := hU.1.size; omega
  have hwW : w.heap.size + 1 ≤ W.heap.size := by omega
  obtain ⟨a3, ca3, rfl, hm3, -⟩ := ownsRow_any h3
  have HO : Hid (∀ (wq : World), w3.grownBy wq (some rb) → wq.ownsRow (w.heap.size + 1) 76 2 (.slice a3 L.length ca3) L.length (cellsP L)) := fun wq hg => ownsRow_base (own_rd h3 hrbW hg) hwW
  obtain ⟨W3, hW3⟩ : ∃ W3, Hid (W3 = w3) := ⟨_, rfl⟩
  rw [← hW3.out] at HO
  have hG : Hid (W3.grownBy w3 (some rb)) := by rw [hW3.out]; exact grownBy_refl _ _
  have hcapL : L.length ≤ ca3 := by
    rcases h3.2 with ⟨e1, e2⟩ | ⟨g, c, cur, e1, -, -, e2, -⟩
    · omega
    · simp only [Value.slice.injEq] at e1; omega
  have hca : ca3 ≤ 9223372036854775807 := by
    rcases h3.2 with ⟨e1, e2⟩ | ⟨g, c, cur, e1, -, -, -, e2, -⟩
    · simp only [Value.slice.injEq] at e1; omega
    · simp only [Value.slice.injEq] at e1; unfold maxLen at e2; omega
  clear h3 cX
  by_cases hL : 0 < L.length
  · go_wp2_with (first | (((go_at_call 119; (with_reducible refine (cC _).mono ?_); rintro e w4 ⟨rfl, U4⟩; have B4 := bcell U4; have Z4 := U4.size; (try simp at Z4); (try rw [Nat.add_one_le_iff] at Z4)); have hG := Lib.hid (grownBy_up hG.out U4)); have hSB := box_up U4 hSB; have hRB := box_up U4 hRB; clear s0 s1 s2 hbs q0 q1 q2 hb0 hfr; obtain ⟨hbs, s0, s1, s2⟩ := SetAt.cells hSB; obtain ⟨hb0, q0, q1, q2⟩ := SetAt.cells hRB; have hfr := box_free hRB) | (((go_at_call 118; ((with_reducible refine (draw_atM (cR) HR.out hU (by intro c hU; (repeat (first | with_reducible assumption | refine RdUp.ups ?_ (by with_reducible assumption) | with_reducible refine RdUp.set ?_ (by first | exact Nat.le_refl _ | (simp only []; omega) | (simp; omega)) _ | with_reducible refine RdUp.alloc ?_ _ | with_reducible refine RdUp.drew ?_ | with_reducible exact RdUp.of (Up.refl _)))) (by omega)).mono ?_); rintro e w' ⟨v, rfl, ⟨ra, rbb, rfl⟩, hU, U⟩; have D := gcell U.1; have Z := U.1.size; (try simp at Z); (try have Y0 : w.heap.size < w'.heap.size := (by omega)); (try have Y1 : w.heap.size + 1 < w'.heap.size := (by omega)); (try have Y2 : w.heap.size + 1 + 1 < w'.heap.size := (by omega)); (try have X0 : w.heap.size < w'.heap.size + 1 := (by omega)); (try have X1 : w.heap.size + 1 < w'.heap.size + 1 := (by omega)); (try have X2 : w.heap.size + 1 + 1 < w'.heap.size + 1 := (by omega)))); have hG := Lib.hid (grownBy_trans hG.out U.1)); have hSB := gbox U.1 hSB (by simp; omega); have hRB := gbox U.1 hRB (by simp; omega); clear s0 s1 s2 hbs q0 q1 q2 hb0 hfr; obtain ⟨hbs, s0, s1, s2⟩ := SetAt.cells hSB; obtain ⟨hb0, q0, q1, q2⟩ := SetAt.cells hRB; have hfr := box_free hRB; clear D U) | (((go_at_call 89; ((with_reducible refine (pick_at (n := (L.length : Int)) HR.out hU (by intro c hU; (repeat (first | with_reducible assumption | refine RdUp.ups ?_ (by with_reducible assumption) | with_reducible refine RdUp.set ?_ (by first | exact Nat.le_refl _ | (simp only []; omega) | (simp; omega)) _ | with_reducible refine RdUp.alloc ?_ _ | with_reducible refine RdUp.drew ?_ | with_reducible exact RdUp.of (Up.refl _)))) (by omega)).mono ?_); rintro e w' ⟨x, rfl, x0, x1, hU, U⟩; have D := gcell U.1; have Z := U.1.size; (try simp at Z); (try have Y0 : w.heap.size < w'.heap.size := (by omega)); (try have Y1 : w.heap.size + 1 < w'.heap.size := (by omega)); (try have Y2 : w.heap.size + 1 + 1 < w'.heap.size := (by omega)); (try have X0 : w.heap.size < w'.heap.size + 1 := (by omega)); (try have X1 : w.heap.size + 1 < w'.heap.size + 1 := (by omega)); (try have X2 : w.heap.size + 1 + 1 < w'.heap.size + 1 := (by omega)); ((obtain ⟨j, rfl⟩ := Int.eq_ofNat_of_zero_le x0; have hj : j < L.length := (by omega))))); have hG := Lib.hid (grownBy_trans hG.out U.1)); have hSB := gbox U.1 hSB (by simp; omega); have hRB := gbox U.1 hRB (by simp; omega); clear s0 s1 s2 hbs q0 q1 q2 hb0 hfr; obtain ⟨hbs, s0, s1, s2⟩ := SetAt.cells hSB; obtain ⟨hb0, q0, q1, q2⟩ := SetAt.cells hRB; have hfr := box_free hRB; clear D U) | (((go_at_call 89; ((with_reducible refine (pick_at (n := 10) HR.out hU (by intro c hU; (repeat (first | with_reducible assumption | refine RdUp.ups ?_ (by with_reducible assumption) | with_reducible refine RdUp.set ?_ (by first | exact Nat.le_refl _ | (simp only []; omega) | (simp; omega)) _ | with_reducible refine RdUp.alloc ?_ _ | with_reducible refine RdUp.drew ?_ | with_reducible exact RdUp.of (Up.refl _)))) (by omega)).mono ?_); rintro e w' ⟨x, rfl, x0, x1, hU, U⟩; have D := gcell U.1; have Z := U.1.size; (try simp at Z); (try have Y0 : w.heap.size < w'.heap.size := (by omega)); (try have Y1 : w.heap.size + 1 < w'.heap.size := (by omega)); (try have Y2 : w.heap.size + 1 + 1 < w'.heap.size := (by omega)); (try have X0 : w.heap.size < w'.heap.size + 1 := (by omega)); (try have X1 : w.heap.size + 1 < w'.heap.size + 1 := (by omega)); (try have X2 : w.heap.size + 1 + 1 < w'.heap.size + 1 := (by omega)); (skip))); have hG := Lib.hid (grownBy_trans hG.out U.1)); have hSB := gbox U.1 hSB (by simp; omega); have hRB := gbox U.1 hRB (by simp; omega); clear s0 s1 s2 hbs q0 q1 q2 hb0 hfr; obtain ⟨hbs, s0, s1, s2⟩ := SetAt.cells hSB; obtain ⟨hb0, q0, q1, q2⟩ := SetAt.cells hRB; have hfr := box_free hRB; clear D U) | (((go_at_call 91; ((with_reducible refine (draw_atM (cB) HR.out hU (by intro c hU; (repeat (first | with_reducible assumption | refine RdUp.ups ?_ (by with_reducible assumption) | with_reducible refine RdUp.set ?_ (by first | exact Nat.le_refl _ | (simp only []; omega) | (simp; omega)) _ | with_reducible refine RdUp.alloc ?_ _ | with_reducible refine RdUp.drew ?_ | with_reducible exact RdUp.of (Up.refl _)))) (by omega)).mono ?_); rintro e w' ⟨v, rfl, ⟨s9, rfl, hs9⟩, hU, U⟩; have D := gcell U.1; have Z := U.1.size; (try simp at Z); (try have Y0 : w.heap.size < w'.heap.size := (by omega)); (try have Y1 : w.heap.size + 1 < w'.heap.size := (by omega)); (try have Y2 : w.heap.size + 1 + 1 < w'.heap.size := (by omega)); (try have X0 : w.heap.size < w'.heap.size + 1 := (by omega)); (try have X1 : w.heap.size + 1 < w'.heap.size + 1 := (by omega)); (try have X2 : w.heap.size + 1 + 1 < w'.heap.size + 1 := (by omega)))); have hG := Lib.hid (grownBy_trans hG.out U.1)); have hSB := gbox U.1 hSB (by simp; omega); have hRB := gbox U.1 hRB (by simp; omega); clear s0 s1 s2 hbs q0 q1 q2 hb0 hfr; obtain ⟨hbs, s0, s1, s2⟩ := SetAt.cells hSB; obtain ⟨hb0, q0, q1, q2⟩ := SetAt.cells hRB; have hfr := box_free hRB; clear D U) | (((go_at_call 120; ((with_reducible refine (draw_atM (cL) HR.out hU (by intro c hU; (repeat (first | with_reducible assumption | refine RdUp.ups ?_ (by with_reducible assumption) | with_reducible refine RdUp.set ?_ (by first | exact Nat.le_refl _ | (simp only []; omega) | (simp; omega)) _ | with_reducible refine RdUp.alloc ?_ _ | with_reducible refine RdUp.drew ?_ | with_reducible exact RdUp.of (Up.refl _)))) (by omega)).mono ?_); rintro e w' ⟨v, rfl, ⟨st2, rfl, hst2⟩, hU, U⟩; have D := gcell U.1; have Z := U.1.size; (try simp at Z); (try have Y0 : w.heap.size < w'.heap.size := (by omega)); (try have Y1 : w.heap.size + 1 < w'.heap.size := (by omega)); (try have Y2 : w.heap.size + 1 + 1 < w'.heap.size := (by omega)); (try have X0 : w.heap.size < w'.heap.size + 1 := (by omega)); (try have X1 : w.heap.size + 1 < w'.heap.size + 1 := (by omega)); (try have X2 : w.heap.size + 1 + 1 < w'.heap.size + 1 := (by omega)))); have hG := Lib.hid (grownBy_trans hG.out U.1)); have hSB := gbox U.1 hSB (by simp; omega); have hRB := gbox U.1 hRB (by simp; omega); clear s0 s1 s2 hbs q0 q1 q2 hb0 hfr; obtain ⟨hbs, s0, s1, s2⟩ := SetAt.cells hSB; obtain ⟨hb0, q0, q1, q2⟩ := SetAt.cells hRB; have hfr := box_free hRB; clear D U))
    · have hUw := up_grownR hUp hU.1 (by omega)
      have hO := ownsRow_take (HO.out _ hG.out) (show j ≤ L.length by omega)
      rw [cellsP_take] at hO
      have hlj : (L.take j).length = j := by rw [List.length_take]; omega
      refine bodyPost_ret (v := _) (by simp [results, Tryz.results59, go_sem, q0, q1, q2, hb0, hne0]; rfl) rfl ?_
      refine ⟨s9, dict, st2, _, L.take j, ra, rbb, rfl, hs9, hdi, hst2, by omega, ?_, ?_⟩
      · rw [hlj]
        refine ownsRow_base (base := w.heap.size + 1) ?_ (by omega)
        repeat (with_reducible refine ownsRow_setne ?_ (by omega) _ _)
        exact hO
      · (repeat (first | with_reducible exact Up.refl _ | with_reducible assumption | with_reducible refine Up.set ?_ (by first | exact Nat.le_refl _ | (simp only []; omega) | (simp; omega)) _ | with_reducible refine Up.alloc ?_ _ | with_reducible refine Up.drew ?_ | refine Up.trans ?_ (by with_reducible assumption)))
    · have hUw := up_grownR hUp hU.1 (by omega)
      have hO := HO.out _ hG.out
      refine bodyPost_ret (v := _) (by simp [results, Tryz.results59, go_sem, q0, q1, q2, hb0, hne0]; rfl) rfl ?_
      refine ⟨s9, dict, st2, _, L, ra, rbb, rfl, hs9, hdi, hst2, hL40, ?_, ?_⟩
      · refine ownsRow_base (base := w.heap.size + 1) ?_ (by omega)
        repeat (with_reducible refine ownsRow_setne ?_ (by omega) _ _)
        exact hO
      · (repeat (first | with_reducible exact Up.refl _ | with_reducible assumption | with_reducible refine Up.set ?_ (by first | exact Nat.le_refl _ | (simp only []; omega) | (simp; omega)) _ | with_reducible refine Up.alloc ?_ _ | with_reducible refine Up.drew ?_ | refine Up.trans ?_ (by with_reducible assumption)))
  · have hL0 : L.length = 0 := by omega
    go_wp2_with (first | (((go_at_call 119; (with_reducible refine (cC _).mono ?_); rintro e w4 ⟨rfl, U4⟩; have B4 := bcell U4; have Z4 := U4.size; (try simp at Z4); (try rw [Nat.add_one_le_iff] at Z4)); have hG := Lib.hid (grownBy_up hG.out U4)); have hSB := box_up U4 hSB; have hRB := box_up U4 hRB; clear s0 s1 s2 hbs q0 q1 q2 hb0 hfr; obtain ⟨hbs, s0, s1, s2⟩ := SetAt.cells hSB; obtain ⟨hb0, q0, q1, q2⟩ := SetAt.cells hRB; have hfr := box_free hRB) | (((go_at_call 118; ((with_reducible refine (draw_atM (cR) HR.out hU (by intro c hU; (repeat (first | with_reducible assumption | refine RdUp.ups ?_ (by with_reducible assumption) | with_reducible refine RdUp.set ?_ (by first | exact Nat.le_refl _ | (simp only []; omega) | (simp; omega)) _ | with_reducible refine RdUp.alloc ?_ _ | with_reducible refine RdUp.drew ?_ | with_reducible exact RdUp.of (Up.refl _)))) (by omega)).mono ?_); rintro e w' ⟨v, rfl, ⟨ra, rbb, rfl⟩, hU, U⟩; have D := gcell U.1; have Z := U.1.size; (try simp at Z); (try have Y0 : w.heap.size < w'.heap.size := (by omega)); (try have Y1 : w.heap.size + 1 < w'.heap.size := (by omega)); (try have Y2 : w.heap.size + 1 + 1 < w'.heap.size := (by omega)); (try have X0 : w.heap.size < w'.heap.size + 1 := (by omega)); (try have X1 : w.heap.size + 1 < w'.heap.size + 1 := (by omega)); (try have X2 : w.heap.size + 1 + 1 < w'.heap.size + 1 := (by omega)))); have hG := Lib.hid (grownBy_trans hG.out U.1)); have hSB := gbox U.1 hSB (by simp; omega); have hRB := gbox U.1 hRB (by simp; omega); clear s0 s1 s2 hbs q0 q1 q2 hb0 hfr; obtain ⟨hbs, s0, s1, s2⟩ := SetAt.cells hSB; obtain ⟨hb0, q0, q1, q2⟩ := SetAt.cells hRB; have hfr := box_free hRB; clear D U) | (((go_at_call 91; ((with_reducible refine (draw_atM (cB) HR.out hU (by intro c hU; (repeat (first | with_reducible assumption | refine RdUp.ups ?_ (by with_reducible assumption) | with_reducible refine RdUp.set ?_ (by first | exact Nat.le_refl _ | (simp only []; omega) | (simp; omega)) _ | with_reducible refine RdUp.alloc ?_ _ | with_reducible refine RdUp.drew ?_ | with_reducible exact RdUp.of (Up.refl _)))) (by omega)).mono ?_); rintro e w' ⟨v, rfl, ⟨s9, rfl, hs9⟩, hU, U⟩; have D := gcell U.1; have Z := U.1.size; (try simp at Z); (try have Y0 : w.heap.size < w'.heap.size := (by omega)); (try have Y1 : w.heap.size + 1 < w'.heap.size := (by omega)); (try have Y2 : w.heap.size + 1 + 1 < w'.heap.size := (by omega)); (try have X0 : w.heap.size < w'.heap.size + 1 := (by omega)); (try have X1 : w.heap.size + 1 < w'.heap.size + 1 := (by omega)); (try have X2 : w.heap.size + 1 + 1 < w'.heap.size + 1 := (by omega)))); have hG := Lib.hid (grownBy_trans hG.out U.1)); have hSB := gbox U.1 hSB (by simp; omega); have hRB := gbox U.1 hRB (by simp; omega); clear s0 s1 s2 hbs q0 q1 q2 hb0 hfr; obtain ⟨hbs, s0, s1, s2⟩ := SetAt.cells hSB; obtain ⟨hb0, q0, q1, q2⟩ := SetAt.cells hRB; have hfr := box_free hRB; clear D U) | (((go_at_call 120; ((with_reducible refine (draw_atM (cL) HR.out hU (by intro c hU; (repeat (first | with_reducible assumption | refine RdUp.ups ?_ (by with_reducible assumption) | with_reducible refine RdUp.set ?_ (by first | exact Nat.le_refl _ | (simp only []; omega) | (simp; omega)) _ | with_reducible refine RdUp.alloc ?_ _ | with_reducible refine RdUp.drew ?_ | with_reducible exact RdUp.of (Up.refl _)))) (by omega)).mono ?_); rintro e w' ⟨v, rfl, ⟨st2, rfl, hst2⟩, hU, U⟩; have D := gcell U.1; have Z := U.1.size; (try simp at Z); (try have Y0 : w.heap.size < w'.heap.size := (by omega)); (try have Y1 : w.heap.size + 1 < w'.heap.size := (by omega)); (try have Y2 : w.heap.size + 1 + 1 < w'.heap.size := (by omega)); (try have X0 : w.heap.size < w'.heap.size + 1 := (by omega)); (try have X1 : w.heap.size + 1 < w'.heap.size + 1 := (by omega)); (try have X2 : w.heap.size + 1 + 1 < w'.heap.size + 1 := (by omega)))); have hG := Lib.hid (grownBy_trans hG.out U.1)); have hSB := gbox U.1 hSB (by simp; omega); have hRB := gbox U.1 hRB (by simp; omega); clear s0 s1 s2 hbs q0 q1 q2 hb0 hfr; obtain ⟨hbs, s0, s1, s2⟩ := SetAt.cells hSB; obtain ⟨hb0, q0, q1, q2⟩ := SetAt.cells hRB; have hfr := box_free hRB; clear D U))
    have hUw := up_grownR hUp hU.1 (by omega)
    have hO := HO.out _ hG.out
    refine bodyPost_ret (v := _) (by simp [results, Tryz.results59, go_sem, q0, q1, q2, hb0, hne0]; rfl) rfl ?_
    refine ⟨s9, dict, st2, _, L, ra, rbb, rfl, hs9, hdi, hst2, hL40, ?_, ?_⟩
    · refine ownsRow_base (base := w.heap.size + 1) ?_ (by omega)
      repeat (with_reducible refine ownsRow_setne ?_ (by omega) _ _)
      simpa only [hL0] using hO
    · (repeat (first | with_reducible exact Up.refl _ | with_reducible assumption | with_reducible refine Up.set ?_ (by first | exact Nat.le_refl _ | (simp only []; omega) | (simp; omega)) _ | with_reducible refine Up.alloc ?_ _ | with_reducible refine Up.drew ?_ | refine Up.trans ?_ (by with_reducible assumption)))

end Go.Proofs.YtekbbnkkninolaaGreat

