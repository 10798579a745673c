/- Texts joined into one: the walks and laws that the last text leans on. Conditions: as each says. -/
import Derived.Test.YtekbbnkkninolaaGreatMFnReadIndexedLawD
import Derived.Test.YtekbbnkkninolaaGreatWc

/- Walks of the program's learn, LearnKnown, StartWith. Conditions: what is known is valid and can be read. -/
namespace Go.Proofs.YtekbbnkkninolaaGreat
set_option linter.unusedVariables false
set_option linter.unusedSimpArgs false
open Go Go.RowKit

/-- The plain state of learn; its memory. -/
structure LiD (T : KnD) (k0 : KnD) (L : List UInt8) (m : Nat) (k : KnD) (n : Nat) : Prop where
  len : L.length ≤ n + m
  le : n ≤ L.length
  tot : learnN m k (L.drop n) = T
  ok : k.Ok
  set : k.set = k0.set
structure LiW (w : World) (tb : Nat) (k : KnD) (vp vn vi : Value) (wr : World) : Prop where
  tree : TreeAt (w.heap.size + 2) tb k vp vn vi wr
  res : KnAt (w.heap.size + 1) ⟨⟨0, 0, 0⟩, [], 0, 0⟩ (.slice none 0 0) wr
  up : Up w wr
theorem LiW.upd {w : World} {tb : Nat} {k : KnD} {vp vn vi : Value} {wr w' : World} (h : LiW w tb k vp vn vi wr) (hu : Up wr w') : LiW w tb k vp vn vi w' := ⟨h.tree.up hu, h.res.up hu, h.up.trans hu⟩
theorem LiW.tr {w : World} {tb : Nat} {k k' : KnD} {vp vn vi : Value} {wr w' : World} (h : LiW w tb k vp vn vi wr) (hp : TrPost (w.heap.size + 2) tb k' vp vn vi wr w') : ∃ vp' vn' vi', LiW w tb k' vp' vn' vi' w' := by
  obtain ⟨vp', vn', vi', hT, hF, hO⟩ := hp
  exact ⟨vp', vn', vi', hT, hF.box h.res (fun ho => by have := (h.tree.own_lo _ ho).1; omega), Fr.upto h.up hF (fun b hb => by have := (h.tree.own_lo b hb).1; omega)⟩
theorem LiD.step {T k0 : KnD} {L : List UInt8} {m : Nat} {k : KnD} {n : Nat} (h : LiD T k0 L m k n) (hn : n < L.length) (hl : ∀ b ∈ L, b.toNat < k0.c) :
    k.follows (k.find (k.longest (L.drop n))) = true ∧ ¬ k.find (k.longest (L.drop n)) = (k.c : Int) ∧ 1 ≤ (k.longest (L.drop n)).length ∧ n + (k.longest (L.drop n)).length ≤ L.length ∧ LiD T k0 L (m - 1) (k.after (k.find (k.longest (L.drop n)))) (n + (k.longest (L.drop n)).length) := by
  have hde : L.drop n ≠ [] := fun e => by rw [List.drop_eq_nil_iff] at e; omega
  have hll := KnD.longest_le (k := k) (L.drop n)
  have hlp := KnD.longest_pos (k := k) hde
  have hl2 : ∀ b ∈ L.drop n, b.toNat < k.c := fun b hb => by rw [c_of h.set]; exact hl b (List.mem_of_mem_drop hb)
  obtain ⟨hfw, -⟩ := KnD.find_any h.ok hde hl2
  rw [List.length_drop] at hll
  have h1 := h.len; have h4 := h.tot
  obtain ⟨m', rfl⟩ : ∃ m', m = m' + 1 := ⟨m - 1, by omega⟩
  refine ⟨hfw, (KnD.fol_ne h.ok hfw).1, hlp, by omega, by omega, by omega, ?_, KnD.after_ok h.ok hfw, h.set⟩
  rw [learnN_step hde, List.drop_drop] at h4
  exact h4
def RelLi (T k0 : KnD) (L : List UInt8) (tb : Nat) (w : World) (q i : Value) (wr : World) : Prop := ∃ (k : KnD) (n : Nat) (vp vn vi : Value) (m : Nat) (y : Int), q = .int .i64 y ∧ i = .int .i64 n ∧ LiD T k0 L m k n ∧ LiW w tb k vp vn vi wr
def LnPost (k : KnD) (w : World) (e : Ending) (w' : World) : Prop := ∃ v y, e = .returned (.tuple #[kV k v, .int .i64 y]) ∧ ownPr w' w.heap.size v k.ps ∧ Up w w'

set_option maxRecDepth 100000 in
set_option maxHeartbeats 8000000 in
theorem learnI_any (k : KnD) (v : Value) (lo : Nat) (d : ByteArray) (w : World) (hk : k.Ok) (hr : RdP lo w v k.ps) (hd : d.size ≤ 2000) (hl : ∀ b ∈ d.data.toList, b.toNat < k.c) :
    Calls Tryz.prog 84  #[kV k v, .string d] w (LnPost (learnK k d.data.toList) w) := by
  have hkt := hk.tr
  have cK := fun w => clearI_any k.set w hk.set
  have hrt := fun (wq : World) (hu : Up w wq) => hr.up hu
  have cN := fun wq hr => newTree_any k v lo wq hk hr
  have HK := Lib.hid hk
  have hkb := And.intro hk.base0 hk.base1
  obtain ⟨a, cap, rfl, -, -, -, -⟩ := hr
  have HLl := Lib.hid hl
  have hdl := ba_len d
  clear hk hl
  simp only [kV] at *
  go_enter Tryz.func84, Tryz.ntmps84
  go_wp2_with fail
  with_reducible refine (cN _ (hrt _ (by (repeat (first | with_reducible exact Up.refl _ | with_reducible assumption | with_reducible refine Up.set ?_ (by first | exact Nat.le_refl _ | (simp only []; omega) | (simp; omega)) _ | with_reducible refine Up.alloc ?_ _ | with_reducible refine Up.drew ?_ | refine Up.trans ?_ (by with_reducible assumption)))))).mono ?_
  rintro e w2 ⟨tb, vp, vn, vi, rfl, hT2, U2⟩
  have hW2 : LiW w tb k vp vn vi w2 := ⟨hT2.base (by simp), box_up U2 (alloc2 w _ _), by (repeat (first | with_reducible exact Up.refl _ | with_reducible assumption | with_reducible refine Up.set ?_ (by first | exact Nat.le_refl _ | (simp only []; omega) | (simp; omega)) _ | with_reducible refine Up.alloc ?_ _ | with_reducible refine Up.drew ?_ | refine Up.trans ?_ (by with_reducible assumption)))⟩
  obtain ⟨-, r0, r1, r2, r3, r4, r5⟩ := KnAt.cells (b := w.heap.size) (k := k) (v := .slice a k.ps.length cap) (box_up U2 (box_up ((Up.refl _).alloc _) (MapKept.heap_alloc w _).1))
  have HW2 := Lib.hid hW2
  have htb2 := hT2.lt
  clear hT2 U2 hW2 cN hrt
  go_wp2_with (first | (go_at_call 137; (with_reducible refine (cK _).mono ?_); rintro e w3 ⟨rfl, U3⟩; have B3 := bcell U3; have Z3 := U3.size; (try simp at Z3); (try rw [Nat.add_one_le_iff] at Z3)) | fail)
  have cF := followC_any (w.heap.size + 2) tb k vp vn vi w3 (HW2.out.upd U3).tree hkt hkb.1 hkb.2
  rw [show k.c = clr k.set from rfl] at cF
  with_reducible refine cF.mono ?_
  rintro e w4 ⟨⟨vv, rfl⟩, hP4⟩
  obtain ⟨vp4, vn4, vi4, hW4⟩ := (HW2.out.upd U3).tr hP4
  have HW4 := Lib.hid hW4
  clear hP4 hW4 U3 B3 Z3 cF
  have HL : Hid (d = bs d.data.toList) := (bs_self d).symm
  generalize d.data.toList = L at *
  have hLs := bs_size L
  have hd2 : L.length ≤ 2000 := by omega
  rw [HL.out]
  clear hdl hd
  go_wp2
  go_loopw [7, 8] (fun q i wr => RelLi (learnN L.length k.cleared L) k L tb w q i wr) (fun _ i _ => L.length - (intOf i).toNat)
  case atStart => exact ⟨k.cleared, 0, vp4, vn4, vi4, L.length, 0, rfl, rfl, ⟨by omega, Nat.zero_le _, by rw [List.drop_zero], KnD.cleared_ok HK.out, rfl⟩, HW4.out⟩
  case round =>
    obtain ⟨k1, n, vp, vn, vi, m, y, rfl, rfl, hD, hW⟩ := hrel
    have hle := hD.le
    have HD := Lib.hid hD
    have HW := Lib.hid hW
    have hpl1 := hD.ok.nums.2.2.2.1
    obtain ⟨ap, cp, rfl⟩ := hW.tree.shape
    have htb := hW.tree.lt
    obtain ⟨c0, c1, c2, c3, c4, c5, c6, c7⟩ := hW.tree.cells
    by_cases hlt : n < L.length
    · have cG := fun wq => growI_any k1.set k1.base k1.last ap k1.ps.length cp wq hD.ok.set (by omega)
      rw [growN_eq] at cG
      simp only [knV] at cG
      obtain ⟨hfw, hxc, hlp, hll, hD9⟩ := hD.step hlt HLl.out
      have hok2 := hD.ok
      have hset := hD.set
      have cL := fun wq hT => longest_any (w.heap.size + 2) tb k1 (.slice ap k1.ps.length cp) vn vi (bs (L.drop n)) wq hT hok2 (by rw [bs_size, List.length_drop]; omega) (by rw [bs_size, List.length_drop]; omega) (by rw [bs_data, c_of hset]; exact fun b hb => HLl.out b (List.mem_of_mem_drop hb))
      rw [bs_data] at cL
      have cG2 := fun wq hT => followW_any (w.heap.size + 2) tb k1 (.slice ap k1.ps.length cp) vn vi (k1.find (k1.longest (L.drop n))) wq hT hok2 hxc hfw
      have hbd : Hid ((bs L).extract n L.length = bs (L.drop n)) := bs_drop' L n L.length rfl
      have HD9 := Lib.hid hD9
      clear hD9 hfw hxc hok2 hset hD hW
      generalize hx : k1.find (k1.longest (L.drop n)) = x at *
      generalize hnl : (k1.longest (L.drop n)).length = n1 at *
      generalize hka : k1.after x = k9 at *
      clear hx hnl hka
      cases hg : k1.grow
      all_goals
        rw [hg] at cG
        clear hg
        go_wp2_with (first | ((go_at_call 138; (with_reducible refine (cG _).mono ?_); rintro e w5 ⟨rfl, U5⟩; have B5 := bcell U5; have Z5 := U5.size; (try simp at Z5); (try rw [Nat.add_one_le_iff] at Z5))) | fail)
        have htb5 := Nat.lt_of_lt_of_le htb U5.size
        rw [hbd.out]
        with_reducible refine (cL _ (HW.out.upd U5).tree).mono ?_
        rintro e w6 ⟨rfl, U6⟩
        go_wp2_with fail
        with_reducible refine (cG2 _ ((HW.out.upd U5).upd U6).tree).mono ?_
        rintro e w7 ⟨⟨vv, rfl⟩, hP7⟩
        obtain ⟨vp7, vn7, vi7, hW7⟩ := ((HW.out.upd U5).upd U6).tr hP7
        go_wp2
        go_roundw
        case rel => exact ⟨k9, n + n1, vp7, vn7, vi7, m - 1, _, rfl, by go_num, HD9.out, hW7⟩
        case measure => simp [intOf]; omega
    · have e : n = L.length := by omega
      subst e
      have htot := hD.tot
      rw [List.drop_length, learnN_nil] at htot
      have HE : Hid (learnK k L = ⟨k1.set, k1.ps, k1.ps.length, -1⟩) := by unfold Hid learnK; rw [← htot, hD.set]
      have cY := fun wx hr => copyI_any k1 (.slice ap k1.ps.length cp) (w.heap.size + 2) wx hr (by omega)
      have hrd := RdP.of_own hW.tree.prs
      clear htot hD hW HW4 HW2 HD
      simp only [kV] at *
      go_wp2_with (go_at_call 140; (with_reducible refine (cY _ hrd).mono ?_); rintro e w5 ⟨v5, rfl, ho5, U5⟩; obtain ⟨a5, c5, rfl⟩ := ownsRow_shape ho5; obtain ⟨hRl, q0, q1, q2, q3, q4, q5⟩ := (HW.out.upd U5).res.cells; have hfr := box_free (HW.out.upd U5).res; have HO := Lib.hid ho5; clear ho5)
      refine bodyPost_ret (v := .tuple #[kV ⟨k1.set, k1.ps, k1.ps.length, -1⟩ (.slice a5 k1.ps.length c5), .int .i64 y]) (by simp [results, Tryz.results84, go_sem, hRl, q0, q1, q2, q3, q4, q5]) rfl ⟨_, _, by rw [HE.out], ?_, ?_⟩
      · rw [HE.out]
        have hs := HW.out.up.size
        have hs2 := U5.size
        have hs3 := (HW.out.res.cells).1
        refine ownsRow_base (base := w.heap.size + 2) ?_ (by omega)
        repeat (first | (with_reducible refine ownsRow_setne ?_ (by omega) _ _) | (with_reducible refine ownsRow_up ?_ (Up.alloc (Up.refl _) _)))
        with_reducible refine ownsRow_base HO.out ?_
        omega
      · have hUU := HW.out.up
        (repeat (first | with_reducible exact Up.refl _ | with_reducible assumption | with_reducible refine Up.set ?_ (by first | exact Nat.le_refl _ | (simp only []; omega) | (simp; omega)) _ | with_reducible refine Up.alloc ?_ _ | with_reducible refine Up.drew ?_ | refine Up.trans ?_ (by with_reducible assumption)))

set_option maxRecDepth 100000 in
set_option maxHeartbeats 4000000 in
theorem learnKI_any (k : KnD) (v : Value) (lo : Nat) (d : ByteArray) (w : World) (h : k.Ok) (hv : k.last = -1 → k.base = k.ps.length) (hr : RdP lo w v k.ps) (hd : d.size ≤ 1073741824) :
    Calls Tryz.prog 124  #[kV k v, .string d] w (fun e w' => if fitsB k.set d.data.toList then KnPost2 (learnK k d.data.toList) w e w' else Same (.tuple #[noKn, .bool false]) w e w') := by
  have cV := fun wx hr => kvI_any k v lo wx h hv hr
  obtain ⟨-, hlb, -, -⟩ := setOk_bd h.set
  have cF := fun wx => fitsI_any k.set d wx (by omega) hd
  have hrt := fun (wq : World) (hu : Up w wq) => hr.up hu
  have hlen := ba_len d
  cases hf : fitsB k.set d.data.toList
  · rw [hf] at cF
    simp only [Bool.false_eq_true, if_false]
    obtain ⟨a, cap, rfl, -, -, -, -⟩ := hr
    clear h hv hf
    simp only [kV] at *
    go_enter Tryz.func124, Tryz.ntmps124
    go_wp2_with (first | ((go_at_call 150; (with_reducible refine (cV _ (hrt _ (by (repeat (first | with_reducible exact Up.refl _ | with_reducible assumption | with_reducible refine Up.set ?_ (by first | exact Nat.le_refl _ | (simp only []; omega) | (simp; omega)) _ | with_reducible refine Up.alloc ?_ _ | with_reducible refine Up.drew ?_ | refine Up.trans ?_ (by with_reducible assumption)))))).mono ?_); rintro e w1 ⟨rfl, U1⟩; have B1 := bcell U1; have Z1 := U1.size; (try simp at Z1); (try rw [Nat.add_one_le_iff] at Z1)); have Y1 : w.heap.size < w1.heap.size := (by have := U1.size; simp at this; omega)) | ((go_at_call 30; (with_reducible refine (cF _).mono ?_); rintro e w2 ⟨rfl, U2⟩; have B2 := bcell U2; have Z2 := U2.size; (try simp at Z2); (try rw [Nat.add_one_le_iff] at Z2)); obtain ⟨hRl, q0, q1, q2, q3, q4, q5⟩ := KnAt.cells (b := w.heap.size + 1) (k := ⟨⟨0, 0, 0⟩, [], 0, 0⟩) (v := .slice none 0 0) (box_up (U1.trans U2) (alloc2 w _ _)); have hfr := box_free (box_up (U1.trans U2) (alloc2 w _ _))))
    obtain ⟨-, q0, q1, q2, q3, q4, q5⟩ := KnAt.cells (b := w.heap.size + 1) (k := ⟨⟨0, 0, 0⟩, [], 0, 0⟩) (v := .slice none 0 0) (box_up (U1.trans U2) (alloc2 w _ _))
    refine bodyPost_ret (v := .tuple #[noKn, .bool false]) (by simp [results, Tryz.results124, go_sem, q0, q1, q2, q3, q4, q5]) rfl ⟨rfl, ?_⟩
    (repeat (first | with_reducible exact Up.refl _ | with_reducible assumption | with_reducible refine Up.set ?_ (by first | exact Nat.le_refl _ | (simp only []; omega) | (simp; omega)) _ | with_reducible refine Up.alloc ?_ _ | with_reducible refine Up.drew ?_ | refine Up.trans ?_ (by with_reducible assumption)))
  · rw [hf] at cF
    simp only [if_true]
    obtain ⟨-, h2, h3⟩ := fitsB_lits hf
    have cL := fun wx hr => learnI_any k v lo d wx h hr (by omega) h3
    obtain ⟨a, cap, rfl, -, -, -, -⟩ := hr
    clear h hv hf h3
    generalize learnK k d.data.toList = kk at *
    simp only [kV] at *
    go_enter Tryz.func124, Tryz.ntmps124
    go_wp2_with (first | ((go_at_call 150; (with_reducible refine (cV _ (hrt _ (by (repeat (first | with_reducible exact Up.refl _ | with_reducible assumption | with_reducible refine Up.set ?_ (by first | exact Nat.le_refl _ | (simp only []; omega) | (simp; omega)) _ | with_reducible refine Up.alloc ?_ _ | with_reducible refine Up.drew ?_ | refine Up.trans ?_ (by with_reducible assumption)))))).mono ?_); rintro e w1 ⟨rfl, U1⟩; have B1 := bcell U1; have Z1 := U1.size; (try simp at Z1); (try rw [Nat.add_one_le_iff] at Z1)); have Y1 : w.heap.size < w1.heap.size := (by have := U1.size; simp at this; omega)) | (go_at_call 30; (with_reducible refine (cF _).mono ?_); rintro e w2 ⟨rfl, U2⟩; have B2 := bcell U2; have Z2 := U2.size; (try simp at Z2); (try rw [Nat.add_one_le_iff] at Z2)) | (go_at_call 84; (with_reducible refine (cL _ (hrt _ (by (repeat (first | with_reducible exact Up.refl _ | with_reducible assumption | with_reducible refine Up.set ?_ (by first | exact Nat.le_refl _ | (simp only []; omega) | (simp; omega)) _ | with_reducible refine Up.alloc ?_ _ | with_reducible refine Up.drew ?_ | refine Up.trans ?_ (by with_reducible assumption)))))).mono ?_); rintro e w3 ⟨v3, y3, rfl, ho3, U3⟩; obtain ⟨a3, c3, rfl⟩ := ownsRow_shape ho3; have B3 := bcell U3; obtain ⟨hRl, q0, q1, q2, q3, q4, q5⟩ := KnAt.cells (b := w.heap.size + 1) (k := ⟨⟨0, 0, 0⟩, [], 0, 0⟩) (v := .slice none 0 0) (box_up (U1.trans (U2.trans U3)) (alloc2 w _ _)); have hfr := box_free (box_up (U1.trans (U2.trans U3)) (alloc2 w _ _)); have HO := Lib.hid ho3; clear ho3))
    obtain ⟨hRl, q0, q1, q2, q3, q4, q5⟩ := KnAt.cells (b := w.heap.size + 1) (k := ⟨⟨0, 0, 0⟩, [], 0, 0⟩) (v := .slice none 0 0) (box_up (U1.trans (U2.trans U3)) (alloc2 w _ _))
    refine bodyPost_ret (v := .tuple #[kV kk (.slice a3 kk.ps.length c3), .bool true]) (by simp [results, Tryz.results124, go_sem, hRl, q0, q1, q2, q3, q4, q5]) rfl ⟨_, rfl, ?_, ?_⟩
    · have hs := (U1.trans U2).size
      simp at hs
      refine ownsRow_base (base := w.heap.size + 2) ?_ (by omega)
      repeat (first | (with_reducible refine ownsRow_setne ?_ (by omega) _ _) | (with_reducible refine ownsRow_up ?_ (Up.alloc (Up.refl _) _)))
      with_reducible refine ownsRow_base HO.out ?_
      omega
    · (repeat (first | with_reducible exact Up.refl _ | with_reducible assumption | with_reducible refine Up.set ?_ (by first | exact Nat.le_refl _ | (simp only []; omega) | (simp; omega)) _ | with_reducible refine Up.alloc ?_ _ | with_reducible refine Up.drew ?_ | refine Up.trans ?_ (by with_reducible assumption)))

set_option maxRecDepth 100000 in
set_option maxHeartbeats 4000000 in
theorem startWI_any (s : SetD) (d : ByteArray) (w : World) (hl : -9223372036854775808 ≤ s.lit ∧ s.lit ≤ 9223372036854775807) (hd : d.size ≤ 1073741824) :
    Calls Tryz.prog 64  #[setV s, .string d] w (fun e w' => if fitsB s d.data.toList then KnPost2 (learnK (startK s) d.data.toList) w e w' else Same (.tuple #[noKn, .bool false]) w e w') := by
  cases hs : setOk s
  · have hf : fitsB s d.data.toList = false := by unfold fitsB; rw [hs]; rfl
    rw [hf]
    simp only [Bool.false_eq_true, if_false]
    have cS := fun wx => startI_no s wx hl hs
    clear hs hf
    simp only [setV] at *
    go_enter Tryz.func64, Tryz.ntmps64
    go_wp2_with ((go_at_call 83; (with_reducible refine (cS _).mono ?_); rintro e w1 ⟨rfl, U1⟩; have B1 := bcell U1; have Z1 := U1.size; (try simp at Z1); (try rw [Nat.add_one_le_iff] at Z1)); have Y1 : w.heap.size < w1.heap.size := (by have := U1.size; simp at this; omega); obtain ⟨hRl, q0, q1, q2, q3, q4, q5⟩ := KnAt.cells (b := w.heap.size + 1) (k := ⟨⟨0, 0, 0⟩, [], 0, 0⟩) (v := .slice none 0 0) (box_up U1 (alloc2 w _ _)); have hfr := box_free (box_up U1 (alloc2 w _ _)))
    obtain ⟨hRl, q0, q1, q2, q3, q4, q5⟩ := KnAt.cells (b := w.heap.size + 1) (k := ⟨⟨0, 0, 0⟩, [], 0, 0⟩) (v := .slice none 0 0) (box_up U1 (alloc2 w _ _))
    refine bodyPost_ret (v := .tuple #[noKn, .bool false]) (by simp [results, Tryz.results64, go_sem, hRl, q0, q1, q2, q3, q4, q5]) rfl ⟨rfl, ?_⟩
    (repeat (first | with_reducible exact Up.refl _ | with_reducible assumption | with_reducible refine Up.set ?_ (by first | exact Nat.le_refl _ | (simp only []; omega) | (simp; omega)) _ | with_reducible refine Up.alloc ?_ _ | with_reducible refine Up.drew ?_ | refine Up.trans ?_ (by with_reducible assumption)))
  · have cS := fun wx => startI_any s wx hs
    have cL := fun wx hr => learnKI_any (startK s) (.slice none 0 0) wx.heap.size d wx (startK_ok hs) (fun _ => rfl) hr hd
    have hrd : ∀ wx : World, RdP wx.heap.size wx (.slice none 0 0) (startK s).ps := fun wx => ⟨none, 0, rfl, Nat.le_refl _, by unfold maxLen; omega, fun _ => ⟨rfl, rfl⟩, fun h => absurd h (Nat.lt_irrefl _)⟩
    have cL' := fun wx => cL wx (hrd wx)
    have e1 : (startK s).set = s := rfl
    rw [e1] at cL'
    clear cL hrd hs e1
    cases hf : fitsB s d.data.toList
    · rw [hf] at cL'
      simp only [Bool.false_eq_true, if_false] at cL' ⊢
      simp only [setV, kV, startK] at *
      clear hf
      go_enter Tryz.func64, Tryz.ntmps64
      go_wp2_with (first | (go_at_call 83; (with_reducible refine (cS _).mono ?_); rintro e w1 ⟨rfl, U1⟩; have B1 := bcell U1; have Y1 : w.heap.size < w1.heap.size := (by have := U1.size; simp at this; omega); obtain ⟨hRl, q0, q1, q2, q3, q4, q5⟩ := KnAt.cells (b := w.heap.size + 1) (k := ⟨⟨0, 0, 0⟩, [], 0, 0⟩) (v := .slice none 0 0) (box_up U1 (alloc2 w _ _)); have hfr := box_free (box_up U1 (alloc2 w _ _))) | ((go_at_call 124; (with_reducible refine (cL' _).mono ?_); rintro e w2 ⟨rfl, U2⟩; have B2 := bcell U2; have Z2 := U2.size; (try simp at Z2); (try rw [Nat.add_one_le_iff] at Z2)); obtain ⟨hRl, q0, q1, q2, q3, q4, q5⟩ := KnAt.cells (b := w.heap.size + 1) (k := ⟨⟨0, 0, 0⟩, [], 0, 0⟩) (v := .slice none 0 0) (box_up U1 (box_up (Up.refl _) (alloc2 w _ _)) |> fun h => box_up U2 (box_up (Up.alloc (Up.refl _) _) h)); have hfr := box_free (box_up U2 (box_up (Up.alloc (Up.refl _) _) (box_up U1 (alloc2 w _ _))))))
      obtain ⟨hRl, q0, q1, q2, q3, q4, q5⟩ := KnAt.cells (b := w.heap.size + 1) (k := ⟨⟨0, 0, 0⟩, [], 0, 0⟩) (v := .slice none 0 0) (box_up (U1.trans ((Up.alloc (Up.refl _) _).trans U2)) (alloc2 w _ _))
      refine bodyPost_ret (v := .tuple #[noKn, .bool false]) (by simp [results, Tryz.results64, go_sem, hRl, q0, q1, q2, q3, q4, q5]) rfl ⟨rfl, ?_⟩
      (repeat (first | with_reducible exact Up.refl _ | with_reducible assumption | with_reducible refine Up.set ?_ (by first | exact Nat.le_refl _ | (simp only []; omega) | (simp; omega)) _ | with_reducible refine Up.alloc ?_ _ | with_reducible refine Up.drew ?_ | refine Up.trans ?_ (by with_reducible assumption)))
    · rw [hf] at cL'
      simp only [if_true] at cL' ⊢
      clear hf
      have e2 : (startK s).ps = [] := rfl
      generalize learnK (startK s) d.data.toList = kk at *
      simp only [setV, kV, startK] at *
      go_enter Tryz.func64, Tryz.ntmps64
      go_wp2_with (first | (go_at_call 83; (with_reducible refine (cS _).mono ?_); rintro e w1 ⟨rfl, U1⟩; have B1 := bcell U1; have Y1 : w.heap.size < w1.heap.size := (by have := U1.size; simp at this; omega)) | (go_at_call 124; (with_reducible refine (cL' _).mono ?_); rintro e w3 ⟨v3, rfl, ho3, U3⟩; obtain ⟨a3, c3, rfl⟩ := ownsRow_shape ho3; obtain ⟨hRl, q0, q1, q2, q3, q4, q5⟩ := KnAt.cells (b := w.heap.size + 1) (k := ⟨⟨0, 0, 0⟩, [], 0, 0⟩) (v := .slice none 0 0) (box_up (U1.trans ((Up.alloc (Up.refl _) _).trans U3)) (alloc2 w _ _)); have hfr := box_free (box_up (U1.trans ((Up.alloc (Up.refl _) _).trans U3)) (alloc2 w _ _)); have HO := Lib.hid ho3; clear ho3))
      obtain ⟨hRl, q0, q1, q2, q3, q4, q5⟩ := KnAt.cells (b := w.heap.size + 1) (k := ⟨⟨0, 0, 0⟩, [], 0, 0⟩) (v := .slice none 0 0) (box_up (U1.trans ((Up.alloc (Up.refl _) _).trans U3)) (alloc2 w _ _))
      refine bodyPost_ret (v := .tuple #[kV kk (.slice a3 kk.ps.length c3), .bool true]) (by simp [results, Tryz.results64, go_sem, hRl, q0, q1, q2, q3, q4, q5]) rfl ⟨_, rfl, ?_, ?_⟩
      · have hs := U1.size
        simp at hs
        refine ownsRow_base (base := w.heap.size + 2) ?_ (by omega)
        repeat (with_reducible refine ownsRow_setne ?_ (by omega) _ _)
        exact ownsRow_base HO.out (by simp; omega)
      · (repeat (first | with_reducible exact Up.refl _ | with_reducible assumption | with_reducible refine Up.set ?_ (by first | exact Nat.le_refl _ | (simp only []; omega) | (simp; omega)) _ | with_reducible refine Up.alloc ?_ _ | with_reducible refine Up.drew ?_ | refine Up.trans ?_ (by with_reducible assumption)))

end Go.Proofs.YtekbbnkkninolaaGreat

