/- Walks of the reference's functions that make blocks and containers. Conditions: as each says; for the outer ones none but the strings' bound. -/
import Derived.Test.YtmjpopfacagjhaaDoorComp
import Derived.Test.YtmjpopfacagjhaaDoorBa
namespace Go.Proofs.YtmjpopfacagjhaaDoor
set_option linter.unusedVariables false
set_option linter.unusedSimpArgs false
open Go Go.RowKit

/-- The block of data. -/
def blockD (s : SetD) (dict : List UInt8) (n : Int) (d : ByteArray) : BlkD := match compW s dict d.data.toList with
  | some st => if st.length < d.size then ⟨n, false, d.size, bs st⟩ else ⟨n, true, d.size, d⟩
  | none => ⟨n, true, d.size, d⟩
theorem blockD_bd (s : SetD) (dict : List UInt8) (n : Int) (d : ByteArray) : (blockD s dict n d).num = n ∧ (blockD s dict n d).size = d.size ∧ (blockD s dict n d).body.size ≤ d.size := by
  unfold blockD
  split
  · split
    · exact ⟨rfl, rfl, by rw [bs_size]; omega⟩
    · exact ⟨rfl, rfl, Nat.le_refl _⟩
  · exact ⟨rfl, rfl, Nat.le_refl _⟩
theorem blk_eta (b : BlkD) : blkV b = .agg #[.int .i64 b.num, .bool b.raw, .int .i64 b.size, .string b.body] := rfl

set_option maxRecDepth 100000 in
set_option maxHeartbeats 4000000 in
theorem l5Block_any (s : SetD) (dict : ByteArray) (n : Int) (d : ByteArray) (w : World) (hi : dict.size ≤ 1073741824) (hd : d.size ≤ 1073741824) :
    Calls Tryd.prog 63  #[setV s, .string dict, .int .i64 n, .string d] w (Same (blkV (blockD s dict.data.toList n d)) w) := by
  have cC := fun wx => compWS_any s dict d wx hi hd
  unfold blockD
  cases h : compW s dict.data.toList d.data.toList with
  | none =>
    rw [h] at cC
    unfold optS at cC
    clear h
    simp only [setV, blkV, Option.getD_none, Option.isSome_none] at *
    go_enter Tryd.func63, Tryd.ntmps63
    go_wp2_with ((go_at_call 74; (with_reducible refine (cC _).mono ?_); rintro e w1 ⟨rfl, U1⟩; have B1 := bcell U1; have Z1 := U1.size; (try simp at Z1); (try rw [Nat.add_one_le_iff] at Z1)))
    refine bodyPost_ret (v := .agg #[.int .i64 n, .bool true, .int .i64 d.size, .string d]) (by simp [results, Tryd.results63, go_sem, B1]) rfl ⟨rfl, ?_⟩
    (repeat (first | with_reducible exact Up.refl _ | with_reducible assumption | with_reducible refine Up.set ?_ (by first | exact Nat.le_refl _ | (simp only []; omega) | (simp; omega)) _ | with_reducible refine Up.alloc ?_ _ | with_reducible refine Up.drew ?_ | refine Up.trans ?_ (by with_reducible assumption)))
  | some st =>
    rw [h] at cC
    unfold optS at cC
    have hz := bs_size st
    clear h
    simp only [setV, blkV, Option.getD_some, Option.isSome_some] at *
    by_cases hl : st.length < d.size
    · rw [if_pos hl]
      go_enter Tryd.func63, Tryd.ntmps63
      go_wp2_with ((go_at_call 74; (with_reducible refine (cC _).mono ?_); rintro e w1 ⟨rfl, U1⟩; have B1 := bcell U1; have Z1 := U1.size; (try simp at Z1); (try rw [Nat.add_one_le_iff] at Z1)))
      refine bodyPost_ret (v := .agg #[.int .i64 n, .bool false, .int .i64 d.size, .string (bs st)]) (by simp [results, Tryd.results63, go_sem, B1]) rfl ⟨rfl, ?_⟩
      (repeat (first | with_reducible exact Up.refl _ | with_reducible assumption | with_reducible refine Up.set ?_ (by first | exact Nat.le_refl _ | (simp only []; omega) | (simp; omega)) _ | with_reducible refine Up.alloc ?_ _ | with_reducible refine Up.drew ?_ | refine Up.trans ?_ (by with_reducible assumption)))
    · rw [if_neg hl]
      go_enter Tryd.func63, Tryd.ntmps63
      go_wp2_with ((go_at_call 74; (with_reducible refine (cC _).mono ?_); rintro e w1 ⟨rfl, U1⟩; have B1 := bcell U1; have Z1 := U1.size; (try simp at Z1); (try rw [Nat.add_one_le_iff] at Z1)))
      refine bodyPost_ret (v := .agg #[.int .i64 n, .bool true, .int .i64 d.size, .string d]) (by simp [results, Tryd.results63, go_sem, B1]) rfl ⟨rfl, ?_⟩
      (repeat (first | with_reducible exact Up.refl _ | with_reducible assumption | with_reducible refine Up.set ?_ (by first | exact Nat.le_refl _ | (simp only []; omega) | (simp; omega)) _ | with_reducible refine Up.alloc ?_ _ | with_reducible refine Up.drew ?_ | refine Up.trans ?_ (by with_reducible assumption)))

set_option maxRecDepth 100000 in
set_option maxHeartbeats 1000000 in
theorem l5Ready_any (s : SetD) (d : ByteArray) (w : World) (hd : d.size ≤ 1073741824) :
    Calls Tryd.prog 52  #[setV s, .string d] w (Same (.bool (fitsB s d.data.toList)) w) := by
  have cF := fun wx => fitsS_any s d wx hd
  simp only [setV] at *
  go_enter Tryd.func52, Tryd.ntmps52
  go_wp2_with ((go_at_call 61; (with_reducible refine (cF _).mono ?_); rintro e w1 ⟨rfl, U1⟩; have B1 := bcell U1; have Z1 := U1.size; (try simp at Z1); (try rw [Nat.add_one_le_iff] at Z1)))
  go_ret
  refine ⟨rfl, ?_⟩
  (repeat (first | with_reducible exact Up.refl _ | with_reducible assumption | with_reducible refine Up.set ?_ (by first | exact Nat.le_refl _ | (simp only []; omega) | (simp; omega)) _ | with_reducible refine Up.alloc ?_ _ | with_reducible refine Up.drew ?_ | refine Up.trans ?_ (by with_reducible assumption)))

/-- Whether data can be a block. -/
def blkOk (s : SetD) (dict : List UInt8) (n : Int) (len : Nat) : Bool := fitsB s dict && (inB n 0 39 && inB len 1 64)
def blkO (s : SetD) (dict : List UInt8) (n : Int) (d : ByteArray) : Value := if blkOk s dict n d.size then .tuple #[blkV (blockD s dict n d), .bool true] else .tuple #[blkV ⟨0, false, 0, ByteArray.empty⟩, .bool false]

/-- The bytes of the blocks of data. -/
def textD (b : BlkD) : List UInt8 := (textB b.num b.raw b.size b.body).data.toList
def makeN (s : SetD) (dict : List UInt8) (size : Nat) : Nat → Int → List UInt8 → List UInt8
  | 0, _, _ => []
  | n + 1, f, d => if d = [] then [] else textD (blockD s dict f (bs (d.take size))) ++ makeN s dict size n (f + 1) (d.drop size)
theorem makeN_nil (s : SetD) (dict : List UInt8) (size n : Nat) (f : Int) : makeN s dict size n f [] = [] := by cases n <;> simp [makeN]
theorem makeN_step {s : SetD} {dict : List UInt8} {size n : Nat} {f : Int} {d : List UInt8} (hd : d ≠ []) : makeN s dict size (n + 1) f d = textD (blockD s dict f (bs (d.take size))) ++ makeN s dict size n (f + 1) (d.drop size) := by rw [makeN, if_neg hd]
theorem textD_len (b : BlkD) (h : b.body.size ≤ 64) : (textD b).length ≤ 74 := by
  have e : (textD b).length = (textB b.num b.raw b.size b.body).size := rfl
  rw [e]
  simp [textB, inner, strOfNums_size, two_size]
  omega
structure MkAt (T : List UInt8) (s : SetD) (dict : List UInt8) (size : Nat) (w : World) (m : Nat) (f : Int) (d acc : List UInt8) (n : Nat) (wr : World) : Prop where
  tot : acc ++ makeN s dict size n f d = T
  len : d.length ≤ n
  d2 : d.length ≤ 2000
  num : f = 40 - (m : Int)
  m40 : m ≤ 40
  fit : d.length ≤ m * size
  accl : acc.length + 74 * m ≤ 2960
  set : SetAt w.heap.size s.ord s.lit s.most wr
  up : Up w wr
theorem MkAt.step {T : List UInt8} {s : SetD} {dict : List UInt8} {size : Nat} {w : World} {m : Nat} {f : Int} {d acc : List UInt8} {n : Nat} {wr wq : World} (h : MkAt T s dict size w m f d acc n wr) (hd : d ≠ []) (hm : 1 ≤ m) (hn : 1 ≤ n) (hs : 1 ≤ size) (hu : Up wr wq)
    {td : List UInt8} (ht : td = textD (blockD s dict f (bs (d.take size)))) (htl : td.length ≤ 74) : MkAt T s dict size w (m - 1) (f + 1) (d.drop size) (acc ++ td) (n - 1) wq := by
  obtain ⟨m, rfl⟩ : ∃ m', m = m' + 1 := ⟨m - 1, by omega⟩
  obtain ⟨n, rfl⟩ : ∃ n', n = n' + 1 := ⟨n - 1, by omega⟩
  obtain ⟨h1, h2, h3, h4, h5, h6, h7, h8, h9⟩ := h
  have hl := List.length_pos_iff.2 hd
  refine ⟨?_, by rw [List.length_drop]; omega, by rw [List.length_drop]; omega, by omega, by omega, ?_, by rw [List.length_append]; omega, box_up hu h8, h9.trans hu⟩
  · rw [← h1, makeN_step hd, ht, List.append_assoc]; rfl
  · rw [Nat.succ_mul] at h6
    rw [List.length_drop]
    show _ ≤ m * size
    omega
def RelMkC (T : List UInt8) (s : SetD) (dict : List UInt8) (size : Nat) (w : World) (f t out : Value) (wr : World) : Prop := ∃ (m n : Nat) (g : Int) (d acc : List UInt8), f = .int .i64 g ∧ t = .string (bs d) ∧ out = .string (bs acc) ∧ MkAt T s dict size w m g d acc n wr

set_option maxRecDepth 100000 in
set_option maxHeartbeats 4000000 in
theorem l5Make_any (s : SetD) (dict : ByteArray) (d : ByteArray) (size : Nat) (w : World) (hi : dict.size ≤ 1073741824) (hd : d.size ≤ 2000) (hs1 : 1 ≤ size) (hs2 : size ≤ 64) (hf : d.size ≤ 40 * size) :
    Calls Tryd.prog 53  #[setV s, .string dict, .int .i64 0, .string d, .int .i64 size] w (Same (.string (bs (makeN s dict.data.toList size d.size 0 d.data.toList))) w) := by
  have cB := fun n d wx hd => l5Block_any s dict n d wx hi hd
  have hdl := ba_len d
  have HL : Hid (d = bs d.data.toList) := (bs_self d).symm
  have HDL : Hid (d.data.toList.length = d.size) := hdl
  simp only [setV] at *
  clear hdl
  generalize d.data.toList = L at *
  go_enter Tryd.func53, Tryd.ntmps53
  go_wp2
  go_loopw [2, 3, 11] (fun f t out wr => RelMkC (makeN s dict.data.toList size d.size 0 L) s dict.data.toList size w f t out wr) (fun _ t _ _ => slen t)
  case atStart => exact ⟨40, d.size, 0, L, [], rfl, congrArg Value.string HL.out, rfl, rfl, by rw [HDL.out]; exact Nat.le_refl _, by rw [HDL.out]; exact hd, by omega, by omega, by rw [HDL.out]; exact hf, by simp, (MapKept.heap_alloc w _).1, (Up.refl _).alloc _⟩
  case round =>
    obtain ⟨m, n, g, d', acc, rfl, rfl, rfl, hG⟩ := hrel
    have HG := Lib.hid hG
    obtain ⟨-, s0, s1, s2⟩ := hG.set.cells
    have hd2 := hG.d2
    have hz := bs_size d'
    have hza := bs_size acc
    have hacl := hG.accl
    have hm4 := hG.m40
    have hg := hG.num
    have hwz := (Array.getElem?_eq_some_iff.1 hG.set).1
    clear hG
    by_cases hde : d' = []
    · subst hde
      have HT := Lib.hid HG.out.tot
      rw [makeN_nil, List.append_nil] at HT
      rw [show bs ([] : List UInt8) = (⟨#[]⟩ : ByteArray) from rfl]
      go_wp2
      go_ret
      exact ⟨ret_str (by rw [HT.out]), HG.out.up⟩
    · have HNE : (bs d').toList.isEmpty = false := by rw [Lib.toList_data, bs_data]; cases d' with | nil => exact absurd rfl hde | cons _ _ => rfl
      have hpos : 0 < d'.length := List.length_pos_iff.2 hde
      have hm1 : 1 ≤ m := by
        rcases Nat.eq_zero_or_pos m with e | e
        · have := HG.out.fit
          rw [e, Nat.zero_mul] at this; omega
        · exact e
      have hg0 : 0 ≤ g := by omega
      have hg1 : g ≤ 39 := by omega
      have hn1 : 1 ≤ n := by have := HG.out.len; omega
      have hbd := blockD_bd s dict.data.toList g (bs (d'.take size))
      have hq : ∃ q : Nat, ((size = q ∧ size ≤ d'.length) ∨ (d'.length = q ∧ d'.length < size)) ∧ q ≤ d'.length ∧ 1 ≤ q ∧ q ≤ 64 ∧ Hid ((bs d').extract 0 q = bs (d'.take size)) ∧ Hid ((bs d').extract q d'.length = bs (d'.drop size)) ∧ (d'.take size).length = q := by
        refine ⟨min size d'.length, by omega, by omega, by omega, by omega, ?_, ?_, by rw [List.length_take]⟩
        · unfold Hid
          rw [bs_ext, List.drop_zero, Nat.sub_zero]
          congr 1
          by_cases h : size ≤ d'.length
          · rw [Nat.min_eq_left h]
          · rw [Nat.min_eq_right (by omega), List.take_of_length_le (Nat.le_refl _), List.take_of_length_le (by omega)]
        · unfold Hid
          rw [bs_drop' _ _ _ rfl]
          congr 1
          by_cases h : size ≤ d'.length
          · rw [Nat.min_eq_left h]
          · rw [Nat.min_eq_right (by omega), List.drop_of_length_le (Nat.le_refl _), List.drop_of_length_le (by omega)]
      obtain ⟨q, hqe, hq1, hq2, hq3, HTK, HDR, hq4⟩ := hq
      have hz4 := bs_size (d'.take size)
      have hbd1 := hbd.1
      have hbd2 := hbd.2.1
      have hbd3 := hbd.2.2
      have cB' := fun wx => cB g (bs (d'.take size)) wx (by omega)
      have HBD : Hid (blockD s dict.data.toList g (bs (d'.take size)) = blockD s dict.data.toList g (bs (d'.take size))) := rfl
      rw [hz4, hq4] at hbd2 hbd3
      clear cB hg hbd hf hza
      generalize hbe : blockD s dict.data.toList g (bs (d'.take size)) = bd at *
      have HBE := Lib.hid hbe
      have cT := fun wx => l5Text_any bd.num bd.raw bd.size bd.body wx (by omega) (by omega) (by omega)
      have htl := textD_len bd (by omega)
      have HTD : Hid (textB bd.num bd.raw bd.size bd.body = bs (textD bd)) := (bs_self _).symm
      rw [HTD.out] at cT
      have hzt := bs_size (textD bd)
      have hza := bs_size acc
      simp only [blkV] at cB'
      clear hbe hbd1 hbd2 hbd3 HBD HTD
      have HTD2 : Hid (textD bd = textD (blockD s dict.data.toList g (bs (d'.take size)))) := by unfold Hid; rw [HBE.out]
      generalize textD bd = td at *
      have HQ4 := Lib.hid hq4
      clear hq4 hz4
      rcases hqe with ⟨rfl, hqs⟩ | ⟨rfl, hqs⟩
      all_goals
        go_wp2
        refine wp_region_up 10 (by kernel_rfl) (by kernel_rfl) ?_
        simp only [List.take, List.drop]
        repeat (refine wpUp_step (fun K hK => ?_); go_simp; (try simp only [↓IntWalk.iteOmega]); first
          | (refine hK _ _ ?_; clear hK K)
          | (apply stepU_c
             · intro wq hwq; (have hbq := bcell hwq; (repeat (first | refine fills_no (by rfl) ?_ | refine fills_yes (by rfl) (fun vq hvq => ?_))); simp only [List.filter_nil, fills]; unfold upAt; (try ((rw [HTK.out]))); go_simp; (try go_bits); (try simp only [↓IntWalk.iteOmega]); (try (rw [dif_pos (by omega)]; go_simp; try go_bits)); first | exact upOut_value | (apply upOut_call; (go_at_call 63; exact cB' _)) | (apply upOut_eq; (go_at_call 63; exact cB' _)) | (apply upOut_call; (go_at_call 62; exact cT _)) | (apply upOut_eq; (go_at_call 62; exact cT _)))
             go_simp; refine hK _ _ ?_; clear hK K))
        refine wpUp_nil (fun wq hwq => ?_)
        simp only [fills]
        have HU := Lib.hid hwq
        have HST := Lib.hid (MkAt.step HG.out hde hm1 hn1 hs1 hwq HTD2.out htl)
        clear hwq cT cB'
        go_wp2
        go_roundw
        case rel => exact ⟨m - 1, n - 1, g + 1, d'.drop size, acc ++ td, by go_num, congrArg Value.string (by first | exact HDR.out | (rw [hz]; exact HDR.out) | (rw [List.drop_of_length_le (by omega)]; rfl)), congrArg Value.string (bs_app _ _), HST.out⟩
        case measure => simp [slen, hz]; (first | omega | (rw [bs_ext, bs_size, List.length_take, List.length_drop]; omega))


/-- Whether data can be a container of blocks of a size. -/
def mkOk (s : SetD) (dict : List UInt8) (len : Nat) (size : Int) : Bool := fitsB s dict && (inB size 1 64 && (decide ((len : Int) ≤ size * 40) && decide (len ≤ 2000)))
def mkO (s : SetD) (dict d : List UInt8) (size : Int) : Option (List UInt8) := if mkOk s dict d.length size then some (makeN s dict size.toNat d.length 0 d) else none
theorem mkO_none {s : SetD} {dict d : List UInt8} {size : Int} (h : mkOk s dict d.length size = false) : mkO s dict d size = none := by unfold mkO; rw [h]; rfl
theorem optS_none : optS none = .tuple #[.string ByteArray.empty, .bool false] := rfl

set_option maxRecDepth 100000 in
set_option maxHeartbeats 4000000 in
theorem makeCS_any (s : SetD) (dict : ByteArray) (d : ByteArray) (size : Int) (w : World) (hi : dict.size ≤ 1073741824) (hd : d.size ≤ 1073741824) :
    Calls Tryd.prog 39  #[setV s, .string dict, .string d, .int .i64 size] w (Same (optS (mkO s dict.data.toList d.data.toList size)) w) := by
  have cR := fun wx => l5Ready_any s dict wx hi
  have cI := fun wx => l1In_any size 1 64 wx
  have hdl := ba_len d
  cases h1 : fitsB s dict.data.toList
  · rw [mkO_none (by unfold mkOk; rw [h1]; rfl), optS_none]
    rw [h1] at cR
    clear h1 hdl
    simp only [setV] at *
    go_enter Tryd.func39, Tryd.ntmps39
    go_wp2_with ((go_at_call 52; (with_reducible refine (cR _).mono ?_); rintro e w1 ⟨rfl, U1⟩; have B1 := bcell U1; have Z1 := U1.size; (try simp at Z1); (try rw [Nat.add_one_le_iff] at Z1)))
    go_ret2
    refine ⟨rfl, ?_⟩
    (repeat (first | with_reducible exact Up.refl _ | with_reducible assumption | with_reducible refine Up.set ?_ (by first | exact Nat.le_refl _ | (simp only []; omega) | (simp; omega)) _ | with_reducible refine Up.alloc ?_ _ | with_reducible refine Up.drew ?_ | refine Up.trans ?_ (by with_reducible assumption)))
  · cases h2 : inB size 1 64
    · rw [mkO_none (by unfold mkOk; rw [h1, h2]; rfl), optS_none]
      rw [h1] at cR
      rw [h2] at cI
      clear h1 h2 hdl
      simp only [setV] at *
      go_enter Tryd.func39, Tryd.ntmps39
      go_wp2_with (first | (go_at_call 52; (with_reducible refine (cR _).mono ?_); rintro e w1 ⟨rfl, U1⟩; have B1 := bcell U1; have Z1 := U1.size; (try simp at Z1); (try rw [Nat.add_one_le_iff] at Z1)) | (go_at_call 27; (with_reducible refine (cI _).mono ?_); rintro e w' ⟨rfl, rfl⟩))
      go_ret2
      refine ⟨rfl, ?_⟩
      (repeat (first | with_reducible exact Up.refl _ | with_reducible assumption | with_reducible refine Up.set ?_ (by first | exact Nat.le_refl _ | (simp only []; omega) | (simp; omega)) _ | with_reducible refine Up.alloc ?_ _ | with_reducible refine Up.drew ?_ | refine Up.trans ?_ (by with_reducible assumption)))
    · obtain ⟨b1, b2⟩ := inB_iff.1 h2
      by_cases h3 : (d.size : Int) ≤ size * 40
      · by_cases h4 : d.size ≤ 2000
        · obtain ⟨z, rfl⟩ := Int.eq_ofNat_of_zero_le (by omega : 0 ≤ size)
          have cM := fun wx => l5Make_any s dict d z wx hi h4 (by omega) (by omega) (by omega)
          have HE : Hid (optS (mkO s dict.data.toList d.data.toList (z : Int)) = .tuple #[.string (bs (makeN s dict.data.toList z d.size 0 d.data.toList)), .bool true]) := by
            unfold Hid mkO mkOk
            rw [h1, h2, hdl, decide_eq_true h3, decide_eq_true h4]; rfl
          rw [HE.out]
          rw [h1] at cR
          rw [h2] at cI
          clear h1 h2 hdl HE
          generalize makeN s dict.data.toList z d.size 0 d.data.toList = mk at *
          simp only [setV] at *
          go_enter Tryd.func39, Tryd.ntmps39
          go_wp2_with (first | (go_at_call 52; (with_reducible refine (cR _).mono ?_); rintro e w1 ⟨rfl, U1⟩; have B1 := bcell U1; have Z1 := U1.size; (try simp at Z1); (try rw [Nat.add_one_le_iff] at Z1)) | (go_at_call 27; (with_reducible refine (cI _).mono ?_); rintro e w' ⟨rfl, rfl⟩) | (go_at_call 53; (with_reducible refine (cM _).mono ?_); rintro e w2 ⟨rfl, U2⟩; have B2 := bcell U2; have Z2 := U2.size; (try simp at Z2); (try rw [Nat.add_one_le_iff] at Z2)))
          go_ret2
          refine ⟨rfl, ?_⟩
          (repeat (first | with_reducible exact Up.refl _ | with_reducible assumption | with_reducible refine Up.set ?_ (by first | exact Nat.le_refl _ | (simp only []; omega) | (simp; omega)) _ | with_reducible refine Up.alloc ?_ _ | with_reducible refine Up.drew ?_ | refine Up.trans ?_ (by with_reducible assumption)))
        · rw [mkO_none (by unfold mkOk; rw [h1, h2, hdl, decide_eq_false h4, Bool.and_false]; rfl), optS_none]
          rw [h1] at cR
          rw [h2] at cI
          clear h1 h2 hdl
          simp only [setV] at *
          go_enter Tryd.func39, Tryd.ntmps39
          go_wp2_with (first | (go_at_call 52; (with_reducible refine (cR _).mono ?_); rintro e w1 ⟨rfl, U1⟩; have B1 := bcell U1; have Z1 := U1.size; (try simp at Z1); (try rw [Nat.add_one_le_iff] at Z1)) | (go_at_call 27; (with_reducible refine (cI _).mono ?_); rintro e w' ⟨rfl, rfl⟩))
          go_ret2
          refine ⟨rfl, ?_⟩
          (repeat (first | with_reducible exact Up.refl _ | with_reducible assumption | with_reducible refine Up.set ?_ (by first | exact Nat.le_refl _ | (simp only []; omega) | (simp; omega)) _ | with_reducible refine Up.alloc ?_ _ | with_reducible refine Up.drew ?_ | refine Up.trans ?_ (by with_reducible assumption)))
      · rw [mkO_none (by unfold mkOk; rw [h1, h2, hdl, decide_eq_false h3, Bool.false_and]; rfl), optS_none]
        rw [h1] at cR
        rw [h2] at cI
        clear h1 h2 hdl
        simp only [setV] at *
        go_enter Tryd.func39, Tryd.ntmps39
        go_wp2_with (first | (go_at_call 52; (with_reducible refine (cR _).mono ?_); rintro e w1 ⟨rfl, U1⟩; have B1 := bcell U1; have Z1 := U1.size; (try simp at Z1); (try rw [Nat.add_one_le_iff] at Z1)) | (go_at_call 27; (with_reducible refine (cI _).mono ?_); rintro e w' ⟨rfl, rfl⟩))
        go_ret2
        refine ⟨rfl, ?_⟩
        (repeat (first | with_reducible exact Up.refl _ | with_reducible assumption | with_reducible refine Up.set ?_ (by first | exact Nat.le_refl _ | (simp only []; omega) | (simp; omega)) _ | with_reducible refine Up.alloc ?_ _ | with_reducible refine Up.drew ?_ | refine Up.trans ?_ (by with_reducible assumption)))

end Go.Proofs.YtmjpopfacagjhaaDoor
