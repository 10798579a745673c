/- Texts joined into one: the walks and laws that the last text leans on. Conditions: as each says. -/
import Derived.Test.YtekbbnkkninolaaGreatMFnReadDamagedLawF
import Derived.Test.YtekbbnkkninolaaGreatWc
import Derived.Test.YtekbbnkkninolaaGreatBa
import Derived.Shelf.Strings.Builder1
import Derived.Test.YtekbbnkkninolaaGreatShelf

/- Walks of the program's learn, LearnKnown, StartWith. Conditions: what is known is valid and can be read. -/
namespace Go.Proofs.YtekbbnkkninolaaGreat
set_option linter.unusedVariables false
set_option linter.unusedSimpArgs false
open Go Go.RowKit

/-- The plain state of learn; its memory. -/
structure LiD (T : KnD) (k0 : KnD) (L : List UInt8) (m : Nat) (k : KnD) (n : Nat) : Prop where
  len : L.length ≤ n + m
  le : n ≤ L.length
  tot : learnN m k (L.drop n) = T
  ok : k.Ok
  set : k.set = k0.set
structure LiW (w : World) (tb : Nat) (k : KnD) (vp vn vi : Value) (wr : World) : Prop where
  tree : TreeAt (w.heap.size + 2) tb k vp vn vi wr
  res : KnAt (w.heap.size + 1) ⟨⟨0, 0, 0⟩, [], 0, 0⟩ (.slice none 0 0) wr
  up : Up w wr
theorem LiW.upd {w : World} {tb : Nat} {k : KnD} {vp vn vi : Value} {wr w' : World} (h : LiW w tb k vp vn vi wr) (hu : Up wr w') : LiW w tb k vp vn vi w' := ⟨h.tree.up hu, h.res.up hu, h.up.trans hu⟩
theorem LiW.tr {w : World} {tb : Nat} {k k' : KnD} {vp vn vi : Value} {wr w' : World} (h : LiW w tb k vp vn vi wr) (hp : TrPost (w.heap.size + 2) tb k' vp vn vi wr w') : ∃ vp' vn' vi', LiW w tb k' vp' vn' vi' w' := by
  obtain ⟨vp', vn', vi', hT, hF, hO⟩ := hp
  exact ⟨vp', vn', vi', hT, hF.box h.res (fun ho => by have := (h.tree.own_lo _ ho).1; omega), Fr.upto h.up hF (fun b hb => by have := (h.tree.own_lo b hb).1; omega)⟩
theorem LiD.step {T k0 : KnD} {L : List UInt8} {m : Nat} {k : KnD} {n : Nat} (h : LiD T k0 L m k n) (hn : n < L.length) (hl : ∀ b ∈ L, b.toNat < k0.c) :
    k.follows (k.find (k.longest (L.drop n))) = true ∧ ¬ k.find (k.longest (L.drop n)) = (k.c : Int) ∧ 1 ≤ (k.longest (L.drop n)).length ∧ n + (k.longest (L.drop n)).length ≤ L.length ∧ LiD T k0 L (m - 1) (k.after (k.find (k.longest (L.drop n)))) (n + (k.longest (L.drop n)).length) := by
  have hde : L.drop n ≠ [] := fun e => by rw [List.drop_eq_nil_iff] at e; omega
  have hll := KnD.longest_le (k := k) (L.drop n)
  have hlp := KnD.longest_pos (k := k) hde
  have hl2 : ∀ b ∈ L.drop n, b.toNat < k.c := fun b hb => by rw [c_of h.set]; exact hl b (List.mem_of_mem_drop hb)
  obtain ⟨hfw, -⟩ := KnD.find_any h.ok hde hl2
  rw [List.length_drop] at hll
  have h1 := h.len; have h4 := h.tot
  obtain ⟨m', rfl⟩ : ∃ m', m = m' + 1 := ⟨m - 1, by omega⟩
  refine ⟨hfw, (KnD.fol_ne h.ok hfw).1, hlp, by omega, by omega, by omega, ?_, KnD.after_ok h.ok hfw, h.set⟩
  rw [learnN_step hde, List.drop_drop] at h4
  exact h4
def RelLi (T k0 : KnD) (L : List UInt8) (tb : Nat) (w : World) (q i : Value) (wr : World) : Prop := ∃ (k : KnD) (n : Nat) (vp vn vi : Value) (m : Nat) (y : Int), q = .int .i64 y ∧ i = .int .i64 n ∧ LiD T k0 L m k n ∧ LiW w tb k vp vn vi wr
def LnPost (k : KnD) (w : World) (e : Ending) (w' : World) : Prop := ∃ v y, e = .returned (.tuple #[kV k v, .int .i64 y]) ∧ ownPr w' w.heap.size v k.ps ∧ Up w w'

set_option maxRecDepth 100000 in
set_option maxHeartbeats 8000000 in
theorem learnI_any (k : KnD) (v : Value) (lo : Nat) (d : ByteArray) (w : World) (hk : k.Ok) (hr : RdP lo w v k.ps) (hd : d.size ≤ 2000) (hl : ∀ b ∈ d.data.toList, b.toNat < k.c) :
    Calls Tryz.prog 84  #[kV k v, .string d] w (LnPost (learnK k d.data.toList) w) := by
  have hkt := hk.tr
  have cK := fun w => clearI_any k.set w hk.set
  have hrt := fun (wq : World) (hu : Up w wq) => hr.up hu
  have cN := fun wq hr => newTree_any k v lo wq hk hr
  have HK := Lib.hid hk
  have hkb := And.intro hk.base0 hk.base1
  obtain ⟨a, cap, rfl, -, -, -, -⟩ := hr
  have HLl := Lib.hid hl
  have hdl := ba_len d
  clear hk hl
  simp only [kV] at *
  go_enter Tryz.func84, Tryz.ntmps84
  go_wp2_with fail
  with_reducible refine (cN _ (hrt _ (by (repeat (first | with_reducible exact Up.refl _ | with_reducible assumption | with_reducible refine Up.set ?_ (by first | exact Nat.le_refl _ | (simp only []; omega) | (simp; omega)) _ | with_reducible refine Up.alloc ?_ _ | with_reducible refine Up.drew ?_ | refine Up.trans ?_ (by with_reducible assumption)))))).mono ?_
  rintro e w2 ⟨tb, vp, vn, vi, rfl, hT2, U2⟩
  have hW2 : LiW w tb k vp vn vi w2 := ⟨hT2.base (by simp), box_up U2 (alloc2 w _ _), by (repeat (first | with_reducible exact Up.refl _ | with_reducible assumption | with_reducible refine Up.set ?_ (by first | exact Nat.le_refl _ | (simp only []; omega) | (simp; omega)) _ | with_reducible refine Up.alloc ?_ _ | with_reducible refine Up.drew ?_ | refine Up.trans ?_ (by with_reducible assumption)))⟩
  obtain ⟨-, r0, r1, r2, r3, r4, r5⟩ := KnAt.cells (b := w.heap.size) (k := k) (v := .slice a k.ps.length cap) (box_up U2 (box_up ((Up.refl _).alloc _) (MapKept.heap_alloc w _).1))
  have HW2 := Lib.hid hW2
  have htb2 := hT2.lt
  clear hT2 U2 hW2 cN hrt
  go_wp2_with (first | (go_at_call 137; (with_reducible refine (cK _).mono ?_); rintro e w3 ⟨rfl, U3⟩; have B3 := bcell U3; have Z3 := U3.size; (try simp at Z3); (try rw [Nat.add_one_le_iff] at Z3)) | fail)
  have cF := followC_any (w.heap.size + 2) tb k vp vn vi w3 (HW2.out.upd U3).tree hkt hkb.1 hkb.2
  rw [show k.c = clr k.set from rfl] at cF
  with_reducible refine cF.mono ?_
  rintro e w4 ⟨⟨vv, rfl⟩, hP4⟩
  obtain ⟨vp4, vn4, vi4, hW4⟩ := (HW2.out.upd U3).tr hP4
  have HW4 := Lib.hid hW4
  clear hP4 hW4 U3 B3 Z3 cF
  have HL : Hid (d = bs d.data.toList) := (bs_self d).symm
  generalize d.data.toList = L at *
  have hLs := bs_size L
  have hd2 : L.length ≤ 2000 := by omega
  rw [HL.out]
  clear hdl hd
  go_wp2
  go_loopw [7, 8] (fun q i wr => RelLi (learnN L.length k.cleared L) k L tb w q i wr) (fun _ i _ => L.length - (intOf i).toNat)
  case atStart => exact ⟨k.cleared, 0, vp4, vn4, vi4, L.length, 0, rfl, rfl, ⟨by omega, Nat.zero_le _, by rw [List.drop_zero], KnD.cleared_ok HK.out, rfl⟩, HW4.out⟩
  case round =>
    obtain ⟨k1, n, vp, vn, vi, m, y, rfl, rfl, hD, hW⟩ := hrel
    have hle := hD.le
    have HD := Lib.hid hD
    have HW := Lib.hid hW
    have hpl1 := hD.ok.nums.2.2.2.1
    obtain ⟨ap, cp, rfl⟩ := hW.tree.shape
    have htb := hW.tree.lt
    obtain ⟨c0, c1, c2, c3, c4, c5, c6, c7⟩ := hW.tree.cells
    by_cases hlt : n < L.length
    · have cG := fun wq => growI_any k1.set k1.base k1.last ap k1.ps.length cp wq hD.ok.set (by omega)
      rw [growN_eq] at cG
      simp only [knV] at cG
      obtain ⟨hfw, hxc, hlp, hll, hD9⟩ := hD.step hlt HLl.out
      have hok2 := hD.ok
      have hset := hD.set
      have cL := fun wq hT => longest_any (w.heap.size + 2) tb k1 (.slice ap k1.ps.length cp) vn vi (bs (L.drop n)) wq hT hok2 (by rw [bs_size, List.length_drop]; omega) (by rw [bs_size, List.length_drop]; omega) (by rw [bs_data, c_of hset]; exact fun b hb => HLl.out b (List.mem_of_mem_drop hb))
      rw [bs_data] at cL
      have cG2 := fun wq hT => followW_any (w.heap.size + 2) tb k1 (.slice ap k1.ps.length cp) vn vi (k1.find (k1.longest (L.drop n))) wq hT hok2 hxc hfw
      have hbd : Hid ((bs L).extract n L.length = bs (L.drop n)) := bs_drop' L n L.length rfl
      have HD9 := Lib.hid hD9
      clear hD9 hfw hxc hok2 hset hD hW
      generalize hx : k1.find (k1.longest (L.drop n)) = x at *
      generalize hnl : (k1.longest (L.drop n)).length = n1 at *
      generalize hka : k1.after x = k9 at *
      clear hx hnl hka
      cases hg : k1.grow
      all_goals
        rw [hg] at cG
        clear hg
        go_wp2_with (first | ((go_at_call 138; (with_reducible refine (cG _).mono ?_); rintro e w5 ⟨rfl, U5⟩; have B5 := bcell U5; have Z5 := U5.size; (try simp at Z5); (try rw [Nat.add_one_le_iff] at Z5))) | fail)
        have htb5 := Nat.lt_of_lt_of_le htb U5.size
        rw [hbd.out]
        with_reducible refine (cL _ (HW.out.upd U5).tree).mono ?_
        rintro e w6 ⟨rfl, U6⟩
        go_wp2_with fail
        with_reducible refine (cG2 _ ((HW.out.upd U5).upd U6).tree).mono ?_
        rintro e w7 ⟨⟨vv, rfl⟩, hP7⟩
        obtain ⟨vp7, vn7, vi7, hW7⟩ := ((HW.out.upd U5).upd U6).tr hP7
        go_wp2
        go_roundw
        case rel => exact ⟨k9, n + n1, vp7, vn7, vi7, m - 1, _, rfl, by go_num, HD9.out, hW7⟩
        case measure => simp [intOf]; omega
    · have e : n = L.length := by omega
      subst e
      have htot := hD.tot
      rw [List.drop_length, learnN_nil] at htot
      have HE : Hid (learnK k L = ⟨k1.set, k1.ps, k1.ps.length, -1⟩) := by unfold Hid learnK; rw [← htot, hD.set]
      have cY := fun wx hr => copyI_any k1 (.slice ap k1.ps.length cp) (w.heap.size + 2) wx hr (by omega)
      have hrd := RdP.of_own hW.tree.prs
      clear htot hD hW HW4 HW2 HD
      simp only [kV] at *
      go_wp2_with (go_at_call 140; (with_reducible refine (cY _ hrd).mono ?_); rintro e w5 ⟨v5, rfl, ho5, U5⟩; obtain ⟨a5, c5, rfl⟩ := ownsRow_shape ho5; obtain ⟨hRl, q0, q1, q2, q3, q4, q5⟩ := (HW.out.upd U5).res.cells; have hfr := box_free (HW.out.upd U5).res; have HO := Lib.hid ho5; clear ho5)
      refine bodyPost_ret (v := .tuple #[kV ⟨k1.set, k1.ps, k1.ps.length, -1⟩ (.slice a5 k1.ps.length c5), .int .i64 y]) (by simp [results, Tryz.results84, go_sem, hRl, q0, q1, q2, q3, q4, q5]) rfl ⟨_, _, by rw [HE.out], ?_, ?_⟩
      · rw [HE.out]
        have hs := HW.out.up.size
        have hs2 := U5.size
        have hs3 := (HW.out.res.cells).1
        refine ownsRow_base (base := w.heap.size + 2) ?_ (by omega)
        repeat (first | (with_reducible refine ownsRow_setne ?_ (by omega) _ _) | (with_reducible refine ownsRow_up ?_ (Up.alloc (Up.refl _) _)))
        with_reducible refine ownsRow_base HO.out ?_
        omega
      · have hUU := HW.out.up
        (repeat (first | with_reducible exact Up.refl _ | with_reducible assumption | with_reducible refine Up.set ?_ (by first | exact Nat.le_refl _ | (simp only []; omega) | (simp; omega)) _ | with_reducible refine Up.alloc ?_ _ | with_reducible refine Up.drew ?_ | refine Up.trans ?_ (by with_reducible assumption)))

set_option maxRecDepth 100000 in
set_option maxHeartbeats 4000000 in
theorem learnKI_any (k : KnD) (v : Value) (lo : Nat) (d : ByteArray) (w : World) (h : k.Ok) (hv : k.last = -1 → k.base = k.ps.length) (hr : RdP lo w v k.ps) (hd : d.size ≤ 1073741824) :
    Calls Tryz.prog 124  #[kV k v, .string d] w (fun e w' => if fitsB k.set d.data.toList then KnPost2 (learnK k d.data.toList) w e w' else Same (.tuple #[noKn, .bool false]) w e w') := by
  have cV := fun wx hr => kvI_any k v lo wx h hv hr
  obtain ⟨-, hlb, -, -⟩ := setOk_bd h.set
  have cF := fun wx => fitsI_any k.set d wx (by omega) hd
  have hrt := fun (wq : World) (hu : Up w wq) => hr.up hu
  have hlen := ba_len d
  cases hf : fitsB k.set d.data.toList
  · rw [hf] at cF
    simp only [Bool.false_eq_true, if_false]
    obtain ⟨a, cap, rfl, -, -, -, -⟩ := hr
    clear h hv hf
    simp only [kV] at *
    go_enter Tryz.func124, Tryz.ntmps124
    go_wp2_with (first | ((go_at_call 150; (with_reducible refine (cV _ (hrt _ (by (repeat (first | with_reducible exact Up.refl _ | with_reducible assumption | with_reducible refine Up.set ?_ (by first | exact Nat.le_refl _ | (simp only []; omega) | (simp; omega)) _ | with_reducible refine Up.alloc ?_ _ | with_reducible refine Up.drew ?_ | refine Up.trans ?_ (by with_reducible assumption)))))).mono ?_); rintro e w1 ⟨rfl, U1⟩; have B1 := bcell U1; have Z1 := U1.size; (try simp at Z1); (try rw [Nat.add_one_le_iff] at Z1)); have Y1 : w.heap.size < w1.heap.size := (by have := U1.size; simp at this; omega)) | ((go_at_call 30; (with_reducible refine (cF _).mono ?_); rintro e w2 ⟨rfl, U2⟩; have B2 := bcell U2; have Z2 := U2.size; (try simp at Z2); (try rw [Nat.add_one_le_iff] at Z2)); obtain ⟨hRl, q0, q1, q2, q3, q4, q5⟩ := KnAt.cells (b := w.heap.size + 1) (k := ⟨⟨0, 0, 0⟩, [], 0, 0⟩) (v := .slice none 0 0) (box_up (U1.trans U2) (alloc2 w _ _)); have hfr := box_free (box_up (U1.trans U2) (alloc2 w _ _))))
    obtain ⟨-, q0, q1, q2, q3, q4, q5⟩ := KnAt.cells (b := w.heap.size + 1) (k := ⟨⟨0, 0, 0⟩, [], 0, 0⟩) (v := .slice none 0 0) (box_up (U1.trans U2) (alloc2 w _ _))
    refine bodyPost_ret (v := .tuple #[noKn, .bool false]) (by simp [results, Tryz.results124, go_sem, q0, q1, q2, q3, q4, q5]) rfl ⟨rfl, ?_⟩
    (repeat (first | with_reducible exact Up.refl _ | with_reducible assumption | with_reducible refine Up.set ?_ (by first | exact Nat.le_refl _ | (simp only []; omega) | (simp; omega)) _ | with_reducible refine Up.alloc ?_ _ | with_reducible refine Up.drew ?_ | refine Up.trans ?_ (by with_reducible assumption)))
  · rw [hf] at cF
    simp only [if_true]
    obtain ⟨-, h2, h3⟩ := fitsB_lits hf
    have cL := fun wx hr => learnI_any k v lo d wx h hr (by omega) h3
    obtain ⟨a, cap, rfl, -, -, -, -⟩ := hr
    clear h hv hf h3
    generalize learnK k d.data.toList = kk at *
    simp only [kV] at *
    go_enter Tryz.func124, Tryz.ntmps124
    go_wp2_with (first | ((go_at_call 150; (with_reducible refine (cV _ (hrt _ (by (repeat (first | with_reducible exact Up.refl _ | with_reducible assumption | with_reducible refine Up.set ?_ (by first | exact Nat.le_refl _ | (simp only []; omega) | (simp; omega)) _ | with_reducible refine Up.alloc ?_ _ | with_reducible refine Up.drew ?_ | refine Up.trans ?_ (by with_reducible assumption)))))).mono ?_); rintro e w1 ⟨rfl, U1⟩; have B1 := bcell U1; have Z1 := U1.size; (try simp at Z1); (try rw [Nat.add_one_le_iff] at Z1)); have Y1 : w.heap.size < w1.heap.size := (by have := U1.size; simp at this; omega)) | (go_at_call 30; (with_reducible refine (cF _).mono ?_); rintro e w2 ⟨rfl, U2⟩; have B2 := bcell U2; have Z2 := U2.size; (try simp at Z2); (try rw [Nat.add_one_le_iff] at Z2)) | (go_at_call 84; (with_reducible refine (cL _ (hrt _ (by (repeat (first | with_reducible exact Up.refl _ | with_reducible assumption | with_reducible refine Up.set ?_ (by first | exact Nat.le_refl _ | (simp only []; omega) | (simp; omega)) _ | with_reducible refine Up.alloc ?_ _ | with_reducible refine Up.drew ?_ | refine Up.trans ?_ (by with_reducible assumption)))))).mono ?_); rintro e w3 ⟨v3, y3, rfl, ho3, U3⟩; obtain ⟨a3, c3, rfl⟩ := ownsRow_shape ho3; have B3 := bcell U3; obtain ⟨hRl, q0, q1, q2, q3, q4, q5⟩ := KnAt.cells (b := w.heap.size + 1) (k := ⟨⟨0, 0, 0⟩, [], 0, 0⟩) (v := .slice none 0 0) (box_up (U1.trans (U2.trans U3)) (alloc2 w _ _)); have hfr := box_free (box_up (U1.trans (U2.trans U3)) (alloc2 w _ _)); have HO := Lib.hid ho3; clear ho3))
    obtain ⟨hRl, q0, q1, q2, q3, q4, q5⟩ := KnAt.cells (b := w.heap.size + 1) (k := ⟨⟨0, 0, 0⟩, [], 0, 0⟩) (v := .slice none 0 0) (box_up (U1.trans (U2.trans U3)) (alloc2 w _ _))
    refine bodyPost_ret (v := .tuple #[kV kk (.slice a3 kk.ps.length c3), .bool true]) (by simp [results, Tryz.results124, go_sem, hRl, q0, q1, q2, q3, q4, q5]) rfl ⟨_, rfl, ?_, ?_⟩
    · have hs := (U1.trans U2).size
      simp at hs
      refine ownsRow_base (base := w.heap.size + 2) ?_ (by omega)
      repeat (first | (with_reducible refine ownsRow_setne ?_ (by omega) _ _) | (with_reducible refine ownsRow_up ?_ (Up.alloc (Up.refl _) _)))
      with_reducible refine ownsRow_base HO.out ?_
      omega
    · (repeat (first | with_reducible exact Up.refl _ | with_reducible assumption | with_reducible refine Up.set ?_ (by first | exact Nat.le_refl _ | (simp only []; omega) | (simp; omega)) _ | with_reducible refine Up.alloc ?_ _ | with_reducible refine Up.drew ?_ | refine Up.trans ?_ (by with_reducible assumption)))

set_option maxRecDepth 100000 in
set_option maxHeartbeats 4000000 in
theorem startWI_any (s : SetD) (d : ByteArray) (w : World) (hl : -9223372036854775808 ≤ s.lit ∧ s.lit ≤ 9223372036854775807) (hd : d.size ≤ 1073741824) :
    Calls Tryz.prog 64  #[setV s, .string d] w (fun e w' => if fitsB s d.data.toList then KnPost2 (learnK (startK s) d.data.toList) w e w' else Same (.tuple #[noKn, .bool false]) w e w') := by
  cases hs : setOk s
  · have hf : fitsB s d.data.toList = false := by unfold fitsB; rw [hs]; rfl
    rw [hf]
    simp only [Bool.false_eq_true, if_false]
    have cS := fun wx => startI_no s wx hl hs
    clear hs hf
    simp only [setV] at *
    go_enter Tryz.func64, Tryz.ntmps64
    go_wp2_with ((go_at_call 83; (with_reducible refine (cS _).mono ?_); rintro e w1 ⟨rfl, U1⟩; have B1 := bcell U1; have Z1 := U1.size; (try simp at Z1); (try rw [Nat.add_one_le_iff] at Z1)); have Y1 : w.heap.size < w1.heap.size := (by have := U1.size; simp at this; omega); obtain ⟨hRl, q0, q1, q2, q3, q4, q5⟩ := KnAt.cells (b := w.heap.size + 1) (k := ⟨⟨0, 0, 0⟩, [], 0, 0⟩) (v := .slice none 0 0) (box_up U1 (alloc2 w _ _)); have hfr := box_free (box_up U1 (alloc2 w _ _)))
    obtain ⟨hRl, q0, q1, q2, q3, q4, q5⟩ := KnAt.cells (b := w.heap.size + 1) (k := ⟨⟨0, 0, 0⟩, [], 0, 0⟩) (v := .slice none 0 0) (box_up U1 (alloc2 w _ _))
    refine bodyPost_ret (v := .tuple #[noKn, .bool false]) (by simp [results, Tryz.results64, go_sem, hRl, q0, q1, q2, q3, q4, q5]) rfl ⟨rfl, ?_⟩
    (repeat (first | with_reducible exact Up.refl _ | with_reducible assumption | with_reducible refine Up.set ?_ (by first | exact Nat.le_refl _ | (simp only []; omega) | (simp; omega)) _ | with_reducible refine Up.alloc ?_ _ | with_reducible refine Up.drew ?_ | refine Up.trans ?_ (by with_reducible assumption)))
  · have cS := fun wx => startI_any s wx hs
    have cL := fun wx hr => learnKI_any (startK s) (.slice none 0 0) wx.heap.size d wx (startK_ok hs) (fun _ => rfl) hr hd
    have hrd : ∀ wx : World, RdP wx.heap.size wx (.slice none 0 0) (startK s).ps := fun wx => ⟨none, 0, rfl, Nat.le_refl _, by unfold maxLen; omega, fun _ => ⟨rfl, rfl⟩, fun h => absurd h (Nat.lt_irrefl _)⟩
    have cL' := fun wx => cL wx (hrd wx)
    have e1 : (startK s).set = s := rfl
    rw [e1] at cL'
    clear cL hrd hs e1
    cases hf : fitsB s d.data.toList
    · rw [hf] at cL'
      simp only [Bool.false_eq_true, if_false] at cL' ⊢
      simp only [setV, kV, startK] at *
      clear hf
      go_enter Tryz.func64, Tryz.ntmps64
      go_wp2_with (first | (go_at_call 83; (with_reducible refine (cS _).mono ?_); rintro e w1 ⟨rfl, U1⟩; have B1 := bcell U1; have Y1 : w.heap.size < w1.heap.size := (by have := U1.size; simp at this; omega); obtain ⟨hRl, q0, q1, q2, q3, q4, q5⟩ := KnAt.cells (b := w.heap.size + 1) (k := ⟨⟨0, 0, 0⟩, [], 0, 0⟩) (v := .slice none 0 0) (box_up U1 (alloc2 w _ _)); have hfr := box_free (box_up U1 (alloc2 w _ _))) | ((go_at_call 124; (with_reducible refine (cL' _).mono ?_); rintro e w2 ⟨rfl, U2⟩; have B2 := bcell U2; have Z2 := U2.size; (try simp at Z2); (try rw [Nat.add_one_le_iff] at Z2)); obtain ⟨hRl, q0, q1, q2, q3, q4, q5⟩ := KnAt.cells (b := w.heap.size + 1) (k := ⟨⟨0, 0, 0⟩, [], 0, 0⟩) (v := .slice none 0 0) (box_up U1 (box_up (Up.refl _) (alloc2 w _ _)) |> fun h => box_up U2 (box_up (Up.alloc (Up.refl _) _) h)); have hfr := box_free (box_up U2 (box_up (Up.alloc (Up.refl _) _) (box_up U1 (alloc2 w _ _))))))
      obtain ⟨hRl, q0, q1, q2, q3, q4, q5⟩ := KnAt.cells (b := w.heap.size + 1) (k := ⟨⟨0, 0, 0⟩, [], 0, 0⟩) (v := .slice none 0 0) (box_up (U1.trans ((Up.alloc (Up.refl _) _).trans U2)) (alloc2 w _ _))
      refine bodyPost_ret (v := .tuple #[noKn, .bool false]) (by simp [results, Tryz.results64, go_sem, hRl, q0, q1, q2, q3, q4, q5]) rfl ⟨rfl, ?_⟩
      (repeat (first | with_reducible exact Up.refl _ | with_reducible assumption | with_reducible refine Up.set ?_ (by first | exact Nat.le_refl _ | (simp only []; omega) | (simp; omega)) _ | with_reducible refine Up.alloc ?_ _ | with_reducible refine Up.drew ?_ | refine Up.trans ?_ (by with_reducible assumption)))
    · rw [hf] at cL'
      simp only [if_true] at cL' ⊢
      clear hf
      have e2 : (startK s).ps = [] := rfl
      generalize learnK (startK s) d.data.toList = kk at *
      simp only [setV, kV, startK] at *
      go_enter Tryz.func64, Tryz.ntmps64
      go_wp2_with (first | (go_at_call 83; (with_reducible refine (cS _).mono ?_); rintro e w1 ⟨rfl, U1⟩; have B1 := bcell U1; have Y1 : w.heap.size < w1.heap.size := (by have := U1.size; simp at this; omega)) | (go_at_call 124; (with_reducible refine (cL' _).mono ?_); rintro e w3 ⟨v3, rfl, ho3, U3⟩; obtain ⟨a3, c3, rfl⟩ := ownsRow_shape ho3; obtain ⟨hRl, q0, q1, q2, q3, q4, q5⟩ := KnAt.cells (b := w.heap.size + 1) (k := ⟨⟨0, 0, 0⟩, [], 0, 0⟩) (v := .slice none 0 0) (box_up (U1.trans ((Up.alloc (Up.refl _) _).trans U3)) (alloc2 w _ _)); have hfr := box_free (box_up (U1.trans ((Up.alloc (Up.refl _) _).trans U3)) (alloc2 w _ _)); have HO := Lib.hid ho3; clear ho3))
      obtain ⟨hRl, q0, q1, q2, q3, q4, q5⟩ := KnAt.cells (b := w.heap.size + 1) (k := ⟨⟨0, 0, 0⟩, [], 0, 0⟩) (v := .slice none 0 0) (box_up (U1.trans ((Up.alloc (Up.refl _) _).trans U3)) (alloc2 w _ _))
      refine bodyPost_ret (v := .tuple #[kV kk (.slice a3 kk.ps.length c3), .bool true]) (by simp [results, Tryz.results64, go_sem, hRl, q0, q1, q2, q3, q4, q5]) rfl ⟨_, rfl, ?_, ?_⟩
      · have hs := U1.size
        simp at hs
        refine ownsRow_base (base := w.heap.size + 2) ?_ (by omega)
        repeat (with_reducible refine ownsRow_setne ?_ (by omega) _ _)
        exact ownsRow_base HO.out (by simp; omega)
      · (repeat (first | with_reducible exact Up.refl _ | with_reducible assumption | with_reducible refine Up.set ?_ (by first | exact Nat.le_refl _ | (simp only []; omega) | (simp; omega)) _ | with_reducible refine Up.alloc ?_ _ | with_reducible refine Up.drew ?_ | refine Up.trans ?_ (by with_reducible assumption)))

end Go.Proofs.YtekbbnkkninolaaGreat

/- Walks of the program's CompressWith, SealStream, makeBlock, BlockOf, and of the reference's SealStream. Conditions: the strings are no longer than 2^30 bytes. -/
namespace Go.Proofs.YtekbbnkkninolaaGreat
set_option linter.unusedVariables false
set_option linter.unusedSimpArgs false
open Go Go.RowKit

/-- The block of data that has been compressed, or not. -/
def mkB (o : Option (List UInt8)) (d : ByteArray) : BlkD := match o with
  | some c => if c.length < d.size then ⟨0, false, d.size, bs c⟩ else ⟨0, true, d.size, d⟩
  | none => ⟨0, true, d.size, d⟩

end Go.Proofs.YtekbbnkkninolaaGreat

/- Walk of the program's makeBlocks. Conditions: what is known is valid and can be read; the data is no longer than 2000 bytes. -/
namespace Go.Proofs.YtekbbnkkninolaaGreat
set_option linter.unusedVariables false
set_option linter.unusedSimpArgs false
open Go Go.RowKit

/-- The blocks of data, all with the number 0. -/
def blksN (k : KnD) (size : Nat) : Nat → List UInt8 → List BlkD
  | 0, _ => []
  | n + 1, d => if d = [] then [] else mkB (compO k (d.take size)) (bs (d.take size)) :: blksN k size n (d.drop size)
abbrev ownB (w : World) (base : Nat) (v : Value) (l : List BlkD) : Prop := w.ownsRow base 61 4 v l.length (cellsB l)
structure MbAt (T : List BlkD) (k : KnD) (v : Value) (size : Nat) (L : List UInt8) (w : World) (f m : Nat) (acc : List BlkD) (vb : Value) (wr : World) : Prop where
  tot : acc ++ blksN k size m (L.drop f) = T
  len : (L.drop f).length ≤ m
  fl : f ≤ 4096
  al : acc.length ≤ f
  kn : KnAt w.heap.size k v wr
  own : ownB wr (w.heap.size + 1) vb acc
  up : Up w wr
end Go.Proofs.YtekbbnkkninolaaGreat

/- strings.Builder: copyCheck and WriteString at a builder that the call has made itself. Conditions: the bytes are fewer than 2^47. -/
namespace Go.Proofs.YtekbbnkkninolaaGreat
set_option linter.unusedVariables false
set_option linter.unusedSimpArgs false
open Go Go.RowKit

theorem infoByteB : (Tryz.prog.info? 5).map (fun i => (i.zero, i.size, i.bytes)) = some (some (.int .u8 0), 1, 1) := by kernel_rfl
theorem sizeSb : (Tryz.prog.info? 137).map (·.size) = some 2 := by kernel_rfl
theorem liesSb : liesAt Tryz.prog Tryz.prog.depth 137 (2 / Tryz.prog.cellsOf 137) 0 137 1 = true := by kernel_rfl
abbrev SbAt (B b : Nat) (p : Value) (l : List Value) (w : World) : Prop := Lib.BuilderAt 137 5 B b p l w
abbrev IsSb (B b : Nat) (l : List Value) (w : World) : Prop := Lib.IsBuilder 137 5 B b l w

set_option maxHeartbeats 1000000 in
set_option maxRecDepth 100000 in
theorem sbCheck_used (b : Nat) (w : World) (h0 : w.cell? ⟨b, 0, none⟩ = some (.pointer (some ⟨b, 0, none⟩))) :
    Calls Tryz.prog 151 #[.pointer (some ⟨b, 0, none⟩)] w fun e w' => e = .returned (.tuple #[]) ∧ w' = w := by
  obtain ⟨j, hj, _⟩ := Option.map_eq_some_iff.1 sizeSb
  go_enter Tryz.func151, Tryz.ntmps151
  go_wp2
  rw [Lib.run_neq_ptr_same w _ Tryz.underlying135 hj]
  go_wp2
  go_end0
  exact ⟨rfl, rfl⟩

set_option maxHeartbeats 1000000 in
set_option maxRecDepth 100000 in
theorem sbCheck_fresh (b : Nat) (w : World) (h0 : w.cell? ⟨b, 0, none⟩ = some (.pointer none)) (hsh : w.shape? b = some (137, 2)) (hfz : w.frozen? ⟨b, 0, none⟩ = false) :
    Calls Tryz.prog 151 #[.pointer (some ⟨b, 0, none⟩)] w fun e w' => e = .returned (.tuple #[]) ∧ w' = w.setCell ⟨b, 0, none⟩ (.pointer (some ⟨b, 0, none⟩)) := by
  obtain ⟨j, hj, hjs⟩ := Option.map_eq_some_iff.1 sizeSb
  go_enter Tryz.func151, Tryz.ntmps151
  go_wp2
  rw [Lib.run_to_unsafe w ⟨b, 0, none⟩ Tryz.underlying135 Tryz.underlying189 hj (by rw [hjs]; decide) hsh (Nat.zero_lt_succ 1)]
  simp only [Result.andThen]
  rw [Oper.upon_value]
  go_wp2
  rw [run_callFunc_extern Tryz.func179 (by kernel_rfl) (by kernel_rfl) (by kernel_rfl) (e := Extern.AbiNoEscape.same) (by kernel_rfl)]
  rw [Lib.run_noEscape]
  simp only [Result.andThen]
  rw [Oper.upon_value]
  go_wp2
  rw [Lib.run_from_unsafe w ⟨b, 0, none⟩ Tryz.underlying189 Tryz.underlying135 hj hsh liesSb]
  simp only [Result.andThen]
  rw [Oper.upon_value]
  go_wp2
  go_end0
  exact ⟨rfl, rfl⟩

theorem sbCheck_any (B b : Nat) (l : List Value) (w : World) (h : IsSb B b l w) :
    Calls Tryz.prog 151 #[.pointer (some ⟨b, 0, none⟩)] w fun e w' => e = .returned (.tuple #[]) ∧ (SbAt B b (.pointer (some ⟨b, 0, none⟩)) l w' ∧ Below B w w') := by
  rcases h with h | h
  · refine (sbCheck_fresh b w h.cell0 h.shape h.frozen0).mono ?_
    rintro e w' ⟨rfl, rfl⟩
    exact ⟨rfl, h.used _, (Below.refl B w).setCell (p := ⟨b, 0, none⟩) h.1 _⟩
  · refine (sbCheck_used b w h.cell0).mono ?_
    rintro e w' ⟨rfl, rfl⟩
    exact ⟨rfl, h, Below.refl B _⟩

set_option maxHeartbeats 2000000 in
set_option maxRecDepth 100000 in
theorem sbWrite_any (B b : Nat) (l : List Value) (s : ByteArray) (w : World) (h : IsSb B b l w) (hlen : l.length + s.size ≤ 140737488355328) (hBw : B ≤ w.heap.size) :
    Calls Tryz.prog 125 #[.pointer (some ⟨b, 0, none⟩), .string s] w fun e w' => e = .returned (.tuple #[.int .i64 s.size, .nilIface]) ∧ (SbAt B b (.pointer (some ⟨b, 0, none⟩)) (l ++ Lib.strCells s) w' ∧ Below B w w') := by
  obtain ⟨i0, hi, hz0, hz1, hz2⟩ := info_parts infoByteB
  have cK := fun wx hx => sbCheck_any B b l wx hx
  go_enter Tryz.func125, Tryz.ntmps125
  go_wp2_with fail
  (with_reducible refine (cK _ h).mono ?_)
  rintro e w1 ⟨rfl, h1, hb1⟩
  obtain ⟨hB, v, hbk, hown, hne⟩ := h1
  have c0 : w1.cell? ⟨b, 0, none⟩ = some (.pointer (some ⟨b, 0, none⟩)) := by rw [Lib.cell_of_heap hbk]; rfl
  have c1 : w1.cell? ⟨b, 1, none⟩ = some v := by rw [Lib.cell_of_heap hbk]; rfl
  go_wp2_with (at_builtin; refine Lib.wpList_append_own_string _ rfl _ _ 38 9 rfl B 5 i0 Tryz.underlying38 Tryz.underlying9 hi hz0 hz1 hz2 _ _ _ rfl hown s rfl ?c3 ?c4 ?c5 ?_)
  case c3 => unfold maxLen; omega
  case c4 => omega
  case c5 => have := hb1.size; omega
  intro v' w2 hown' hgrow _
  have hlt : b < w1.heap.size := by
    rcases Nat.lt_or_ge b w1.heap.size with h' | h'
    · exact h'
    · simp [Array.getElem?_eq_none h'] at hbk
  have hb2 : w2.heap[b]? = some (.cells #[.pointer (some ⟨b, 0, none⟩), v] 137 (0, 0)) := by
    rw [hgrow.block b hlt (fun e => hne e.symm)]
    exact hbk
  have d0 : w2.cell? ⟨b, 0, none⟩ = some (.pointer (some ⟨b, 0, none⟩)) := by rw [Lib.cell_of_heap hb2]; rfl
  have d1 : w2.cell? ⟨b, 1, none⟩ = some v := by rw [Lib.cell_of_heap hb2]; rfl
  have f1 : w2.frozen? ⟨b, 1, none⟩ = false := Lib.frozen_of_heap hb2 1
  obtain ⟨ao, n', cap, rfl⟩ : ∃ ao n' cap, v' = .slice ao n' cap := by
    rcases hown'.2 with ⟨hv, _⟩ | ⟨g, cap, cur, hv, _⟩
    · exact ⟨_, _, _, hv⟩
    · exact ⟨_, _, _, hv⟩
  go_wp2
  go_ret2
  refine ⟨rfl, ?_, ?_⟩
  · exact Lib.BuilderAt.put (T := 137) (e := 5) hB hb2 (bs' := l ++ Lib.strCells s) (by simpa [Lib.strCells_length] using hown') (by decide)
  · exact (hb1.grown hgrow (by have := hb1.size; omega) (fun k hk => (hown.lt k hk).1)).setCell (p := ⟨b, 1, none⟩) hB _

end Go.Proofs.YtekbbnkkninolaaGreat

/- Walks of the program's makeContainer and MakeContainer. Conditions: as each says. -/
namespace Go.Proofs.YtekbbnkkninolaaGreat
set_option linter.unusedVariables false
set_option linter.unusedSimpArgs false
open Go Go.RowKit

theorem IsSb.up {B b : Nat} {l : List Value} {w w' : World} (h : IsSb B b l w) (hu : Up w w') : IsSb B b l w' := by
  have hs : ∀ p, SbAt B b p l w → SbAt B b p l w' := fun p ⟨h1, v, h2, h3, h4⟩ => ⟨h1, v, box_up hu h2, ownsRow_up h3 hu, h4⟩
  exact h.imp (hs _) (hs _)
theorem IsSb.lt {B b : Nat} {l : List Value} {w : World} (h : IsSb B b l w) : b < w.heap.size := h.elim (fun h => h.lt) (fun h => h.lt)
theorem strCells_bs9 (l : List UInt8) : Lib.strCells (bs l) = Lib.byteCells l := by simp [Lib.strCells, Lib.byteCells, bs_data]
theorem byteCells_app (a b : List UInt8) : Lib.byteCells a ++ Lib.byteCells b = Lib.byteCells (a ++ b) := by simp [Lib.byteCells]
theorem isSb_new (w : World) : IsSb w.heap.size w.heap.size (Lib.byteCells []) (w.alloc (.cells #[.pointer none, .slice none 0 0] 137)) :=
  .inl ⟨Nat.le_refl _, _, (MapKept.heap_alloc w _).1, World.ownsRow_nil _ _ _ _, by simp [Value.ownBlock]⟩
/-- What String gives. -/
theorem sbString_any (B b : Nat) (l : List UInt8) (w : World) (h : IsSb B b (Lib.byteCells l) w) (hB : B ≤ w.heap.size) :
    Calls Tryz.prog 126 #[.pointer (some ⟨b, 0, none⟩)] w (fun e w' => e = .returned (.string (bs l)) ∧ Below B w w') :=
  (Tryz.Builder_String_any_f B b l w (Lib.IsBuilderF.of h) hB).mono fun e w' ⟨he, h1, h2⟩ => ⟨he, h2⟩

/-- The bytes of blocks with new numbers. -/
def numbT (i : Nat) : List BlkD → List UInt8
  | [] => []
  | b :: l => (textB i b.raw b.size b.body).data.toList ++ numbT (i + 1) l
/-- Blocks that may stand in a container. -/
structure McOk (l : List BlkD) : Prop where
  acc : accOk l
  sum : sizeSum l ≤ 2000
  form : ∀ (i : Nat) (h : i < l.length), formB (i : Nat) (l[i]).raw (l[i]).size (l[i]).body = true
/-- A row of blocks that can be read. -/
def RdB (w : World) (v : Value) (l : List BlkD) : Prop := ∃ a cap, v = .slice a l.length cap ∧ l.length ≤ cap ∧ cap ≤ maxLen ∧ (0 < l.length → ∃ g, a = some ⟨g, 0, none⟩ ∧ g < w.heap.size ∧ ∀ i (h : i < l.length), w.cell? ⟨g, i * 4, none⟩ = some (.int .i64 (l[i]).num) ∧ w.cell? ⟨g, i * 4 + 1, none⟩ = some (.bool (l[i]).raw) ∧ w.cell? ⟨g, i * 4 + 2, none⟩ = some (.int .i64 (l[i]).size) ∧ w.cell? ⟨g, i * 4 + 3, none⟩ = some (.string (l[i]).body))
theorem RdB.low {w w' : World} {v : Value} {l : List BlkD} (h : RdB w v l) (hb : Below w.heap.size w w') : RdB w' v l := by
  obtain ⟨a, cap, h1, h2, h3, h4⟩ := h
  refine ⟨a, cap, h1, h2, h3, fun hp => ?_⟩
  obtain ⟨g, e1, e2, e3⟩ := h4 hp
  refine ⟨g, e1, Nat.lt_of_lt_of_le e2 hb.size, fun i hi => ?_⟩
  obtain ⟨c0, c1, c2, c3⟩ := e3 i hi
  exact ⟨(hb.cell (p := ⟨g, _, none⟩) e2).trans c0, (hb.cell (p := ⟨g, _, none⟩) e2).trans c1, (hb.cell (p := ⟨g, _, none⟩) e2).trans c2, (hb.cell (p := ⟨g, _, none⟩) e2).trans c3⟩
theorem RdB.of_own {w : World} {base : Nat} {v : Value} {l : List BlkD} (h : ownB w base v l) : RdB w v l := by
  obtain ⟨a, cap, rfl, hm, hsome⟩ := ownsRow_any h
  by_cases hp : 0 < l.length
  · obtain ⟨g, rfl, hnc, hcm, hbg, hg, hcells⟩ := hsome hp
    refine ⟨_, cap, rfl, hnc, hcm, fun _ => ⟨g, rfl, hg, fun i hi => ?_⟩⟩
    exact blk_cells (w := w) hcells hi
  · have hcp := ownsRow_cap h
    exact ⟨_, cap, rfl, hcp.1, by unfold maxLen; exact hcp.2, fun h => absurd h hp⟩

structure McAt (T : List UInt8) (l : List BlkD) (w1 : World) (j : Nat) (acc : List UInt8) (wr : World) : Prop where
  le : j ≤ l.length
  tot : acc ++ numbT j (l.drop j) = T
  al : acc.length ≤ 74 * j
  sb : IsSb w1.heap.size w1.heap.size (Lib.byteCells acc) wr
  up : Up w1 wr
end Go.Proofs.YtekbbnkkninolaaGreat

/- Walks of the reference's l5All, ContainerData and ReadRange. Conditions: the strings are no longer than 2^30 bytes. -/
namespace Go.Proofs.YtekbbnkkninolaaGreat
set_option linter.unusedVariables false
set_option linter.unusedSimpArgs false
open Go Go.RowKit

/-- The data of blocks, one behind the other. -/
def allF (f : BlkD → Option (List UInt8)) : List BlkD → Option (List UInt8)
  | [] => some []
  | b :: l => match f b with
    | none => none
    | some x => (allF f l).map (x ++ ·)
def addO (acc : List UInt8) (o : Option (List UInt8)) : Option (List UInt8) := o.map (acc ++ ·)
theorem dataO_bd {s : SetD} {dict : List UInt8} {b : BlkD} {x : List UInt8} (h : dataO s dict b = some x) (h1 : b.size ≤ 64) (h2 : b.body.size ≤ 64) : x.length ≤ 64 := by
  unfold dataO at h
  split at h
  · cases h
    have := ba_len b.body; omega
  · split at h
    · next h3 =>
      cases h
      have := h3.2.2; omega
    · cases h
theorem addO_step {f : BlkD → Option (List UInt8)} {l : List BlkD} {j : Nat} (hlt : j < l.length) {acc x : List UInt8} (h : f l[j] = some x) : addO acc (allF f (l.drop j)) = addO (acc ++ x) (allF f (l.drop (j + 1))) := by
  rw [List.drop_eq_getElem_cons hlt, allF, h]
  unfold addO
  cases allF f (l.drop (j + 1)) <;> simp
theorem addO_fail {f : BlkD → Option (List UInt8)} {l : List BlkD} {j : Nat} (hlt : j < l.length) {acc : List UInt8} (h : f l[j] = none) : addO acc (allF f (l.drop j)) = none := by
  rw [List.drop_eq_getElem_cons hlt, allF, h]; rfl
theorem addO_end {f : BlkD → Option (List UInt8)} {l : List BlkD} {j : Nat} (h : l.length ≤ j) (acc : List UInt8) : addO acc (allF f (l.drop j)) = some acc := by
  rw [List.drop_of_length_le h]; simp [allF, addO]
theorem addO_nil (o : Option (List UInt8)) : addO [] o = o := by cases o <;> simp [addO]
structure DaAt (T : Option (List UInt8)) (s : SetD) (dict : List UInt8) (l : List BlkD) (w : World) (j : Nat) (acc : List UInt8) (wr : World) : Prop where
  le : j ≤ l.length
  tot : addO acc (allF (dataO s dict) (l.drop j)) = T
  al : acc.length ≤ 64 * j
  set : SetAt w.heap.size s.ord s.lit s.most wr
  up : Up w wr
def conO (s : SetD) (dict : List UInt8) (st : ByteArray) : Option (List UInt8) := if fitsB s dict then (contBlocks st).bind (allF (dataO s dict)) else none
end Go.Proofs.YtekbbnkkninolaaGreat

/- Plain: a block is parsed from its bytes, whatever is before and behind them, and not without the last one. Conditions: the block's parts fit together. -/
namespace Go.Proofs.YtekbbnkkninolaaGreat
set_option linter.unusedVariables false
set_option linter.unusedSimpArgs false
open Go.RowKit

/-- What the bytes of a block are. -/
structure TextOf (n : Int) (r : Bool) (s : Int) (b T : ByteArray) : Prop where
  size : T.size = b.size + 10
  b0 : byteAt T 0 = 181
  b1 : byteAt T 1 = kindB r
  n2 : numAt T 2 = n
  n4 : numAt T 4 = s
  n6 : numAt T 6 = b.size
  body : T.extract 8 (8 + b.size) = b
  inn : T.extract 1 (8 + b.size) = inner n r s b
  sum : numAt T (8 + b.size) = sumOf (inner n r s b)
end Go.Proofs.YtekbbnkkninolaaGreat

/- Plain: where the blocks of a container lie in it. Conditions: the string is a container. -/
namespace Go.Proofs.YtekbbnkkninolaaGreat
set_option linter.unusedVariables false
set_option linter.unusedSimpArgs false
open Go.RowKit

theorem body_size {s : ByteArray} {k : Nat} (h : endAt s k + 2 ≤ s.size) : k + 10 + (bodyAt s k).size = endAt s k + 2 := by
  unfold endAt at *
  unfold bodyAt
  rw [ByteArray.size_extract]; omega
theorem bytesSum_snoc (l : List BlkD) (b : BlkD) : bytesSum (l ++ [b]) = bytesSum l + 10 + b.body.size := by
  simp only [bytesSum, List.map_append, List.sum_append, List.map_cons, List.map_nil, List.sum_cons, List.sum_nil]; omega
/-- Block i of l lies at its place in s. -/
def LiesAt (s : ByteArray) (l : List BlkD) (i : Nat) (b : BlkD) : Prop := ∃ p : Nat, (p : Int) = bytesSum (l.take i) ∧ p < s.size ∧ parseOk s p = true ∧ blkAt s p = b ∧ b.num = i ∧ ((endAt s p + 2 : Nat) : Int) = bytesSum (l.take (i + 1)) ∧ endAt s p + 2 ≤ s.size
theorem goBlocks_lies {s : ByteArray} : ∀ (n k : Nat) (acc l : List BlkD), s.size - k ≤ n → (k : Int) = bytesSum acc → k ≤ s.size → (∀ i b, acc[i]? = some b → LiesAt s acc i b) → goBlocks s k acc = some l → ((s.size : Nat) : Int) = bytesSum l ∧ ∀ i b, l[i]? = some b → LiesAt s l i b := by
  intro n
  induction n with
  | zero =>
    intro k acc l hn hk hks hacc h
    rw [go_end (by omega)] at h; cases h
    exact ⟨by rw [← hk]; omega, hacc⟩
  | succ n ih =>
    intro k acc l hn hk hks hacc h
    by_cases hlt : k < s.size
    · by_cases hp : parseOk s k = true ∧ numAt s (k + 2) = acc.length
      · rw [← go_step hlt hp.1 hp.2] at h
        have hend := (parseOk_form hp.1).2.1
        have hbs := body_size hend
        have hsn := bytesSum_snoc acc (blkAt s k)
        have hbb : (blkAt s k).body = bodyAt s k := rfl
        have hk2 : ((endAt s k + 2 : Nat) : Int) = bytesSum (acc ++ [blkAt s k]) := by rw [hsn, hbb, ← hk]; omega
        refine ih _ _ l (by have := endAt_lt s k; omega) hk2 hend (fun i b hb => ?_) h
        rcases Nat.lt_or_ge i acc.length with hi | hi
        · rw [List.getElem?_append_left hi] at hb
          obtain ⟨p, h1, h2, h3, h4, h5, h6, h7⟩ := hacc i b hb
          exact ⟨p, by rw [List.take_append_of_le_length (by omega)]; exact h1, h2, h3, h4, h5, by rw [List.take_append_of_le_length (by omega)]; exact h6, h7⟩
        · have hie : i = acc.length := by
            have := (List.getElem?_eq_some_iff.1 hb).1
            simp at this; omega
          subst hie
          rw [List.getElem?_append_right (Nat.le_refl _)] at hb
          simp at hb
          subst hb
          exact ⟨k, by rw [List.take_left]; exact hk, hlt, hp.1, rfl, hp.2, by rw [List.take_of_length_le (by simp)]; exact hk2, hend⟩
      · rw [go_fail hlt hp] at h; cases h
    · rw [go_end hlt] at h; cases h
      exact ⟨by rw [← hk]; omega, hacc⟩
theorem cont_lies {s : ByteArray} {l : List BlkD} (h : contBlocks s = some l) : ((s.size : Nat) : Int) = bytesSum l ∧ sizeSum l ≤ 2000 ∧ ∀ i b, l[i]? = some b → LiesAt s l i b := by
  unfold contBlocks at h
  cases hg : goBlocks s 0 [] with
  | none => rw [hg] at h; cases h
  | some l' =>
    rw [hg, Option.bind_some] at h
    split at h
    · next hsz =>
      cases h
      obtain ⟨h1, h2⟩ := goBlocks_lies s.size 0 [] l (by omega) (by simp [bytesSum]) (Nat.zero_le _) (fun i b hb => by simp at hb) hg
      exact ⟨h1, hsz, h2⟩
    · cases h
end Go.Proofs.YtekbbnkkninolaaGreat

/- Walks of the laws' own functions that copy places that came in. Conditions: they can be read, and are at most 2^20. -/
namespace Go.Proofs.YtekbbnkkninolaaGreat
set_option linter.unusedVariables false
set_option linter.unusedSimpArgs false
open Go.RowKit

/-- A slice of places that can be read. -/
def ArgP (w : World) (v : Value) (ps : List PlaceD) : Prop := ∃ a cap, v = .slice a ps.length cap ∧ ps.length ≤ maxLen ∧ (0 < ps.length → ∃ b off, a = some ⟨b, off, none⟩ ∧ ps.length ≤ cap ∧ cap ≤ maxLen ∧ b < w.heap.size ∧ ∀ i p, ps[i]? = some p → w.cell? ⟨b, off + i * 2, none⟩ = some (.int .i64 p.place) ∧ w.cell? ⟨b, off + i * 2 + 1, none⟩ = some (.int .i64 p.start))
theorem ArgP.up {w w' : World} {v : Value} {ps : List PlaceD} (h : ArgP w v ps) (hu : Up w w') : ArgP w' v ps := by
  obtain ⟨a, cap, h1, h2, h3⟩ := h
  refine ⟨a, cap, h1, h2, fun hp => ?_⟩
  obtain ⟨b, off, e1, e2, e3, e4, e5⟩ := h3 hp
  exact ⟨b, off, e1, e2, e3, Nat.lt_of_lt_of_le e4 hu.size, fun i p hi => ⟨(hu.cell (p := ⟨b, _, none⟩) e4).trans (e5 i p hi).1, (hu.cell (p := ⟨b, _, none⟩) e4).trans (e5 i p hi).2⟩⟩

end Go.Proofs.YtekbbnkkninolaaGreat

/- Walk of the reference's l5Seek. Conditions: the places can be read. -/
namespace Go.Proofs.YtekbbnkkninolaaGreat
set_option linter.unusedVariables false
set_option linter.unusedSimpArgs false
open Go.RowKit

/-- The last of the first k places that does not begin behind an offset, or -1. -/
def seekK (ps : List PlaceD) (o : Int) : Nat → Int
  | 0 => -1
  | k + 1 => if ((ps[k]?).map fun p => decide (p.start ≤ o)) = some true then k else seekK ps o k
theorem seekK_hit {ps : List PlaceD} {o : Int} {k : Nat} (h : k < ps.length) (hp : ps[k].start ≤ o) : seekK ps o (k + 1) = k := by
  rw [seekK, if_pos (by rw [List.getElem?_eq_getElem h]; simp [hp])]
theorem seekK_miss {ps : List PlaceD} {o : Int} {k : Nat} (h : k < ps.length) (hp : ¬ ps[k].start ≤ o) : seekK ps o (k + 1) = seekK ps o k := by
  rw [seekK, if_neg (by rw [List.getElem?_eq_getElem h]; simp; omega)]

def RelK (ps : List PlaceD) (o : Int) (w : World) (f i : Value) (wr : World) : Prop := ∃ k : Nat, k ≤ ps.length ∧ i = .int .i64 k ∧ f = .int .i64 (seekK ps o k) ∧ Up w wr

set_option maxRecDepth 100000 in
set_option maxHeartbeats 1000000 in
theorem l5Seek_any (ps : List PlaceD) (v : Value) (base : Nat) (o : Int) (w : World) (hown : w.ownsRow base 76 2 v ps.length (cellsP ps)) (hl : ps.length ≤ 1048576) :
    Calls Tryz.prog 68 #[v, .int .i64 o] w (Same (.int .i64 (seekK ps o ps.length)) w) := by
  obtain ⟨a, ca, rfl, hm, -⟩ := ownsRow_any hown
  go_enter Tryz.func68, Tryz.ntmps68
  go_wp2
  go_loopw [5, 6] (fun f i wr => RelK ps o w f i wr) (fun _ i _ => ps.length - (intOf i).toNat)
  case atStart => exact ⟨0, Nat.zero_le _, rfl, rfl, Up.refl _⟩
  case round =>
    obtain ⟨k, hk, rfl, rfl, hup⟩ := hrel
    by_cases hlt : k < ps.length
    · obtain ⟨g, rfl, hc1, hc2, -, hg⟩ := ownsRow_slot hown (by omega)
      obtain ⟨c0, c1⟩ := plc_cells' (read_cells (ownsRow_up hown hup)) hlt
      by_cases hp : ps[k].start ≤ o
      · have HS := Lib.hid (seekK_hit hlt hp)
        go_wp2
        go_roundw
        case rel => exact ⟨k + 1, by omega, by go_num, by rw [HS.out], hup⟩
        case measure => simp [intOf]; omega
      · have HS := Lib.hid (seekK_miss hlt hp)
        go_wp2
        go_roundw
        case rel => exact ⟨k + 1, by omega, by go_num, by rw [HS.out], hup⟩
        case measure => simp [intOf]; omega
    · have e : k = ps.length := by omega
      subst e
      go_wp2
      go_ret
      exact ⟨rfl, hup⟩

/-- What a place must be at its turn. -/
def plcB (ps : List PlaceD) (i : Nat) : Bool := match ps[i]? with
  | none => false
  | some p => decide (0 ≤ p.place ∧ p.place ≤ 4000 ∧ 0 ≤ p.start ∧ p.start ≤ 2000) && (if i = 0 then decide (p.place = 0 ∧ p.start = 0) else match ps[i - 1]? with
    | none => false
    | some q => decide (q.place < p.place ∧ q.start < p.start))
theorem plcB_zero {ps : List PlaceD} (h : 0 < ps.length) : plcB ps 0 = decide (ps[0].place = 0 ∧ ps[0].start = 0) := by
  unfold plcB
  rw [List.getElem?_eq_getElem h]
  simp only [if_true]
  rw [Bool.eq_iff_iff]; simp; omega
theorem plcB_succ {ps : List PlaceD} {k : Nat} (h : k + 1 < ps.length) : plcB ps (k + 1) = decide ((0 ≤ ps[k + 1].place ∧ ps[k + 1].place ≤ 4000 ∧ 0 ≤ ps[k + 1].start ∧ ps[k + 1].start ≤ 2000) ∧ ps[k].place < ps[k + 1].place ∧ ps[k].start < ps[k + 1].start) := by
  unfold plcB
  rw [List.getElem?_eq_getElem h, Nat.add_sub_cancel, List.getElem?_eq_getElem (by omega : k < ps.length)]
  simp only [Nat.succ_ne_zero, if_false]
  rw [Bool.eq_iff_iff]; simp
def validP (ps : List PlaceD) : Bool := decide (ps.length ≤ 40) && (List.range ps.length).all (plcB ps)
theorem validP_no {ps : List PlaceD} {i : Nat} (h : i < ps.length) (hn : plcB ps i = false) : validP ps = false := by
  have : (List.range ps.length).all (plcB ps) = false := by
    rw [List.all_eq_false]; exact ⟨i, List.mem_range.2 h, by simp [hn]⟩
  unfold validP; rw [this, Bool.and_false]
theorem validP_len {ps : List PlaceD} (h : ¬ ps.length ≤ 40) : validP ps = false := by
  unfold validP; rw [decide_eq_false h, Bool.false_and]
theorem validP_yes {ps : List PlaceD} (h : ps.length ≤ 40) (hh : ∀ i, i < ps.length → plcB ps i = true) : validP ps = true := by
  unfold validP; rw [decide_eq_true h, Bool.true_and, List.all_eq_true]
  exact fun i hi => hh i (List.mem_range.1 hi)

end Go.Proofs.YtekbbnkkninolaaGreat

/- Walk of the program's placesValid. Conditions: the places can be read. -/
namespace Go.Proofs.YtekbbnkkninolaaGreat
set_option linter.unusedVariables false
set_option linter.unusedSimpArgs false
open Go.RowKit

def RelV (ps : List PlaceD) (w : World) (i : Value) (wr : World) : Prop := ∃ k : Nat, k ≤ ps.length ∧ i = .int .i64 k ∧ (∀ j, j < k → plcB ps j = true) ∧ Up w wr

theorem plcB_no1 {ps : List PlaceD} {k : Nat} (h : k < ps.length) (hb : ¬ (0 ≤ ps[k].place ∧ ps[k].place ≤ 4000 ∧ 0 ≤ ps[k].start ∧ ps[k].start ≤ 2000)) : plcB ps k = false := by
  unfold plcB
  rw [List.getElem?_eq_getElem h]
  simp only [decide_eq_false hb, Bool.false_and]

set_option maxRecDepth 100000 in
set_option maxHeartbeats 4000000 in
theorem validI_any (ps : List PlaceD) (v : Value) (base : Nat) (w : World) (hown : w.ownsRow base 76 2 v ps.length (cellsP ps)) (hl : ps.length ≤ 1048576) :
    Calls Tryz.prog 71 #[v] w (Same (.bool (validP ps)) w) := by
  obtain ⟨a, ca, rfl, hm, -⟩ := ownsRow_any hown
  by_cases h40 : (40 : Int) < ps.length
  · have HN : Hid (validP ps = false) := validP_len (by omega)
    rw [HN.out]
    go_enter Tryz.func71, Tryz.ntmps71
    go_wp2
    go_ret
    exact ⟨rfl, Up.refl _⟩
  · go_enter Tryz.func71, Tryz.ntmps71
    go_wp2
    go_loopw [10] (fun i wr => RelV ps w i wr) (fun i _ => ps.length - (intOf i).toNat)
    case atStart => exact ⟨0, Nat.zero_le _, rfl, fun j hj => absurd hj (Nat.not_lt_zero _), Up.refl _⟩
    case round =>
      obtain ⟨k, hk, rfl, hall, hup⟩ := hrel
      have HA := Lib.hid hall
      clear hall
      by_cases hlt : k < ps.length
      · obtain ⟨g, rfl, hc1, hc2, -, hg⟩ := ownsRow_slot hown (by omega)
        have hrd := read_cells (ownsRow_up hown hup)
        obtain ⟨c0, c1⟩ := plc_cells' hrd hlt
        have hgw := Nat.lt_of_lt_of_le hg hup.size
        by_cases hb : 0 ≤ ps[k].place ∧ ps[k].place ≤ 4000 ∧ 0 ≤ ps[k].start ∧ ps[k].start ≤ 2000
        · obtain ⟨q1, q2, q3, q4⟩ := hb
          have nxt : ∀ (hp : plcB ps k = true) (j : Nat), j < k + 1 → plcB ps j = true := fun hp j hj => by
            rcases Nat.lt_or_ge j k with h | h
            · exact HA.out j h
            · have : j = k := by omega
              rw [this]; exact hp
          have NX := Lib.hid nxt
          clear nxt
          cases k with
          | zero =>
            clear hrd
            have HZ := Lib.hid (plcB_zero hlt)
            generalize hx : ps[0].place = x at *
            generalize hy : ps[0].start = y at *
            by_cases e1 : x = 0
            · by_cases e2 : y = 0
              · have HP : Hid (plcB ps 0 = true) := by unfold Hid; rw [HZ.out]; simp [e1, e2]
                subst e1 e2
                clear hx hy
                go_wp2
                refine wp_region_up 24 (by kernel_rfl) (by kernel_rfl) ?_
                simp only [List.take, List.drop]
                repeat (refine wpUp_step (fun K hK => ?_); go_simp; (try simp only [↓IntWalk.iteOmega]); first
                  | (refine hK _ _ ?_; clear hK K)
                  | (apply stepU_c
                     · intro wq hwq; (have hbq := bcell hwq; (repeat (first | refine fills_no (by rfl) ?_ | refine fills_yes (by rfl) (fun vq hvq => ?_))); simp only [List.filter_nil, fills]; unfold upAt; (try (skip)); go_simp; (try go_bits); (try simp only [↓IntWalk.iteOmega]); (try (rw [dif_pos (by omega)]; go_simp; try go_bits)); first | exact upOut_value)
                     go_simp; refine hK _ _ ?_; clear hK K))
                refine wpUp_nil (fun wq hwq => ?_)
                simp only [fills]
                go_wp2
                go_roundw
                case rel => exact ⟨0 + 1, by omega, by go_num, NX.out HP.out, (hup.alloc _).trans hwq⟩
                case measure => simp [intOf]; omega
              · have HN : Hid (validP ps = false) := validP_no hlt (by rw [HZ.out]; simp [e2])
                subst e1
                have e2' : (y == 0) = false := by simpa using e2
                clear hx hy
                go_wp2
                go_ret
                exact ⟨ret_bool HN.out.symm, hup.alloc _⟩
            · have HN : Hid (validP ps = false) := validP_no hlt (by rw [HZ.out]; simp [e1])
              have e1' : (x == 0) = false := by simpa using e1
              clear hx hy
              go_wp2
              go_ret
              exact ⟨ret_bool HN.out.symm, hup.alloc _⟩
          | succ j =>
            obtain ⟨d0, d1⟩ := plc_cells' hrd (show j < ps.length by omega)
            clear hrd
            have HZ := Lib.hid (plcB_succ hlt)
            generalize ps[j + 1].place = x at *
            generalize ps[j + 1].start = y at *
            generalize ps[j].place = x' at *
            generalize ps[j].start = y' at *
            by_cases e1 : x ≤ x'
            · have HN : Hid (validP ps = false) := validP_no hlt (by rw [HZ.out]; simp; omega)
              go_wp2
              refine wp_region_up 24 (by kernel_rfl) (by kernel_rfl) ?_
              simp only [List.take, List.drop]
              repeat (refine wpUp_step (fun K hK => ?_); go_simp; (try simp only [↓IntWalk.iteOmega]); first
                | (refine hK _ _ ?_; clear hK K)
                | (apply stepU_c
                   · intro wq hwq; (have hbq := bcell hwq; (repeat (first | refine fills_no (by rfl) ?_ | refine fills_yes (by rfl) (fun vq hvq => ?_))); simp only [List.filter_nil, fills]; unfold upAt; (try ((have x0 := hbq.1 g (j * 2) (by simp; omega); have x1 := hbq.1 g (j * 2 + 1) (by simp; omega)))); go_simp; (try go_bits); (try simp only [↓IntWalk.iteOmega]); (try (rw [dif_pos (by omega)]; go_simp; try go_bits)); first | exact upOut_value)
                   go_simp; refine hK _ _ ?_; clear hK K))
              refine wpUp_nil (fun wq hwq => ?_)
              simp only [fills]
              go_wp2
              go_ret
              exact ⟨ret_bool HN.out.symm, (hup.alloc _).trans hwq⟩
            · by_cases e2 : y ≤ y'
              · have HN : Hid (validP ps = false) := validP_no hlt (by rw [HZ.out]; simp; omega)
                go_wp2
                refine wp_region_up 24 (by kernel_rfl) (by kernel_rfl) ?_
                simp only [List.take, List.drop]
                repeat (refine wpUp_step (fun K hK => ?_); go_simp; (try simp only [↓IntWalk.iteOmega]); first
                  | (refine hK _ _ ?_; clear hK K)
                  | (apply stepU_c
                     · intro wq hwq; (have hbq := bcell hwq; (repeat (first | refine fills_no (by rfl) ?_ | refine fills_yes (by rfl) (fun vq hvq => ?_))); simp only [List.filter_nil, fills]; unfold upAt; (try ((have x0 := hbq.1 g (j * 2) (by simp; omega); have x1 := hbq.1 g (j * 2 + 1) (by simp; omega)))); go_simp; (try go_bits); (try simp only [↓IntWalk.iteOmega]); (try (rw [dif_pos (by omega)]; go_simp; try go_bits)); first | exact upOut_value)
                     go_simp; refine hK _ _ ?_; clear hK K))
                refine wpUp_nil (fun wq hwq => ?_)
                simp only [fills]
                go_wp2
                go_ret
                exact ⟨ret_bool HN.out.symm, (hup.alloc _).trans hwq⟩
              · have HP : Hid (plcB ps (j + 1) = true) := by unfold Hid; rw [HZ.out]; simp; omega
                go_wp2
                refine wp_region_up 24 (by kernel_rfl) (by kernel_rfl) ?_
                simp only [List.take, List.drop]
                repeat (refine wpUp_step (fun K hK => ?_); go_simp; (try simp only [↓IntWalk.iteOmega]); first
                  | (refine hK _ _ ?_; clear hK K)
                  | (apply stepU_c
                     · intro wq hwq; (have hbq := bcell hwq; (repeat (first | refine fills_no (by rfl) ?_ | refine fills_yes (by rfl) (fun vq hvq => ?_))); simp only [List.filter_nil, fills]; unfold upAt; (try ((have x0 := hbq.1 g (j * 2) (by simp; omega); have x1 := hbq.1 g (j * 2 + 1) (by simp; omega)))); go_simp; (try go_bits); (try simp only [↓IntWalk.iteOmega]); (try (rw [dif_pos (by omega)]; go_simp; try go_bits)); first | exact upOut_value)
                     go_simp; refine hK _ _ ?_; clear hK K))
                refine wpUp_nil (fun wq hwq => ?_)
                simp only [fills]
                go_wp2
                go_roundw
                case rel => exact ⟨j + 1 + 1, by omega, by go_num, NX.out HP.out, (hup.alloc _).trans hwq⟩
                case measure => simp [intOf]; omega
        · have HN : Hid (validP ps = false) := validP_no hlt (plcB_no1 hlt hb)
          clear hrd
          generalize ps[k].place = x at *
          generalize ps[k].start = y at *
          by_cases q1 : x < 0
          · go_wp2
            go_ret
            exact ⟨ret_bool HN.out.symm, hup.alloc _⟩
          · by_cases q2 : 4000 < x
            · go_wp2
              go_ret
              exact ⟨ret_bool HN.out.symm, hup.alloc _⟩
            · by_cases q3 : y < 0
              · go_wp2
                go_ret
                exact ⟨ret_bool HN.out.symm, hup.alloc _⟩
              · have q4 : 2000 < y := by omega
                clear hb
                go_wp2
                go_ret
                exact ⟨ret_bool HN.out.symm, hup.alloc _⟩
      · have e : k = ps.length := by omega
        have HN : Hid (validP ps = true) := validP_yes (by omega) (fun i hi => HA.out i (by omega))
        go_wp2
        go_ret
        exact ⟨ret_bool HN.out.symm, hup⟩

end Go.Proofs.YtekbbnkkninolaaGreat

/- Walk of the reference's l5Index. Conditions: the places can be read. -/
namespace Go.Proofs.YtekbbnkkninolaaGreat
set_option linter.unusedVariables false
set_option linter.unusedSimpArgs false
open Go.RowKit

set_option maxRecDepth 100000 in
set_option maxHeartbeats 4000000 in
theorem validS_any (ps : List PlaceD) (v : Value) (base : Nat) (w : World) (hown : w.ownsRow base 76 2 v ps.length (cellsP ps)) (hl : ps.length ≤ 1048576) :
    Calls Tryz.prog 67 #[v] w (Same (.bool (validP ps)) w) := by
  obtain ⟨a, ca, rfl, hm, -⟩ := ownsRow_any hown
  go_enter Tryz.func67, Tryz.ntmps67
  go_wp2
  go_loopw [3] (fun i wr => RelV ps w i wr) (fun i _ => ps.length - (intOf i).toNat)
  case atStart => exact ⟨0, Nat.zero_le _, rfl, fun j hj => absurd hj (Nat.not_lt_zero _), Up.refl _⟩
  case round =>
    obtain ⟨k, hk, rfl, hall, hup⟩ := hrel
    have HA := Lib.hid hall
    clear hall
    by_cases hlt : k < ps.length
    · obtain ⟨g, rfl, hc1, hc2, -, hg⟩ := ownsRow_slot hown (by omega)
      have hrd := read_cells (ownsRow_up hown hup)
      obtain ⟨c0, c1⟩ := plc_cells' hrd hlt
      have hgw := Nat.lt_of_lt_of_le hg hup.size
      by_cases hb : 0 ≤ ps[k].place ∧ ps[k].place ≤ 4000 ∧ 0 ≤ ps[k].start ∧ ps[k].start ≤ 2000
      · obtain ⟨q1, q2, q3, q4⟩ := hb
        have nxt : ∀ (hp : plcB ps k = true) (j : Nat), j < k + 1 → plcB ps j = true := fun hp j hj => by
          rcases Nat.lt_or_ge j k with h | h
          · exact HA.out j h
          · have : j = k := by omega
            rw [this]; exact hp
        have NX := Lib.hid nxt
        clear nxt
        have I1 : inB ps[k].place 0 4000 = true := inB_iff.2 ⟨q1, q2⟩
        have I2 : inB ps[k].start 0 2000 = true := inB_iff.2 ⟨q3, q4⟩
        cases k with
        | zero =>
          clear hrd
          have HZ := Lib.hid (plcB_zero hlt)
          generalize hx : ps[0].place = x at *
          generalize hy : ps[0].start = y at *
          by_cases e1 : x = 0
          · by_cases e2 : y = 0
            · have HP : Hid (plcB ps 0 = true) := by unfold Hid; rw [HZ.out]; simp [e1, e2]
              subst e1 e2
              clear hx hy
              go_wp2_with (go_at_call 66; (with_reducible refine (l1In_any _ _ _ _).mono ?_); rintro e w' ⟨rfl, rfl⟩)
              refine wp_region_up 38 (by kernel_rfl) (by kernel_rfl) ?_
              simp only [List.take, List.drop]
              repeat (refine wpUp_step (fun K hK => ?_); go_simp; (try simp only [↓IntWalk.iteOmega]); first
                | (refine hK _ _ ?_; clear hK K)
                | (apply stepU_c
                   · intro wq hwq; (have hbq := bcell hwq; (repeat (first | refine fills_no (by rfl) ?_ | refine fills_yes (by rfl) (fun vq hvq => ?_))); simp only [List.filter_nil, fills]; unfold upAt; (try (skip)); go_simp; (try go_bits); (try simp only [↓IntWalk.iteOmega]); (try (rw [dif_pos (by omega)]; go_simp; try go_bits)); first | exact upOut_value)
                   go_simp; refine hK _ _ ?_; clear hK K))
              refine wpUp_nil (fun wq hwq => ?_)
              simp only [fills]
              go_wp2
              go_roundw
              case rel => exact ⟨0 + 1, by omega, by go_num, NX.out HP.out, (hup.alloc _).trans hwq⟩
              case measure => simp [intOf]; omega
            · have HN : Hid (validP ps = false) := validP_no hlt (by rw [HZ.out]; simp [e2])
              subst e1
              have e2' : (y == 0) = false := by simpa using e2
              clear hx hy
              go_wp2_with (go_at_call 66; (with_reducible refine (l1In_any _ _ _ _).mono ?_); rintro e w' ⟨rfl, rfl⟩)
              refine wp_region_up 38 (by kernel_rfl) (by kernel_rfl) ?_
              simp only [List.take, List.drop]
              repeat (refine wpUp_step (fun K hK => ?_); go_simp; (try simp only [↓IntWalk.iteOmega]); first
                | (refine hK _ _ ?_; clear hK K)
                | (apply stepU_c
                   · intro wq hwq; (have hbq := bcell hwq; (repeat (first | refine fills_no (by rfl) ?_ | refine fills_yes (by rfl) (fun vq hvq => ?_))); simp only [List.filter_nil, fills]; unfold upAt; (try (skip)); go_simp; (try go_bits); (try simp only [↓IntWalk.iteOmega]); (try (rw [dif_pos (by omega)]; go_simp; try go_bits)); first | exact upOut_value)
                   go_simp; refine hK _ _ ?_; clear hK K))
              refine wpUp_nil (fun wq hwq => ?_)
              simp only [fills]
              go_wp2
              go_ret
              exact ⟨ret_bool HN.out.symm, (hup.alloc _).trans hwq⟩
          · have HN : Hid (validP ps = false) := validP_no hlt (by rw [HZ.out]; simp [e1])
            have e1' : (x == 0) = false := by simpa using e1
            clear hx hy
            go_wp2_with (go_at_call 66; (with_reducible refine (l1In_any _ _ _ _).mono ?_); rintro e w' ⟨rfl, rfl⟩)
            refine wp_region_up 38 (by kernel_rfl) (by kernel_rfl) ?_
            simp only [List.take, List.drop]
            repeat (refine wpUp_step (fun K hK => ?_); go_simp; (try simp only [↓IntWalk.iteOmega]); first
              | (refine hK _ _ ?_; clear hK K)
              | (apply stepU_c
                 · intro wq hwq; (have hbq := bcell hwq; (repeat (first | refine fills_no (by rfl) ?_ | refine fills_yes (by rfl) (fun vq hvq => ?_))); simp only [List.filter_nil, fills]; unfold upAt; (try (skip)); go_simp; (try go_bits); (try simp only [↓IntWalk.iteOmega]); (try (rw [dif_pos (by omega)]; go_simp; try go_bits)); first | exact upOut_value)
                 go_simp; refine hK _ _ ?_; clear hK K))
            refine wpUp_nil (fun wq hwq => ?_)
            simp only [fills]
            go_wp2
            go_ret
            exact ⟨ret_bool HN.out.symm, (hup.alloc _).trans hwq⟩
        | succ j =>
          obtain ⟨d0, d1⟩ := plc_cells' hrd (show j < ps.length by omega)
          clear hrd
          have HZ := Lib.hid (plcB_succ hlt)
          generalize ps[j + 1].place = x at *
          generalize ps[j + 1].start = y at *
          generalize ps[j].place = x' at *
          generalize ps[j].start = y' at *
          by_cases e1 : x ≤ x'
          · have HN : Hid (validP ps = false) := validP_no hlt (by rw [HZ.out]; simp; omega)
            go_wp2_with (go_at_call 66; (with_reducible refine (l1In_any _ _ _ _).mono ?_); rintro e w' ⟨rfl, rfl⟩)
            refine wp_region_up 38 (by kernel_rfl) (by kernel_rfl) ?_
            simp only [List.take, List.drop]
            repeat (refine wpUp_step (fun K hK => ?_); go_simp; (try simp only [↓IntWalk.iteOmega]); first
              | (refine hK _ _ ?_; clear hK K)
              | (apply stepU_c
                 · intro wq hwq; (have hbq := bcell hwq; (repeat (first | refine fills_no (by rfl) ?_ | refine fills_yes (by rfl) (fun vq hvq => ?_))); simp only [List.filter_nil, fills]; unfold upAt; (try ((have x0 := hbq.1 g (j * 2) (by simp; omega); have x1 := hbq.1 g (j * 2 + 1) (by simp; omega)))); go_simp; (try go_bits); (try simp only [↓IntWalk.iteOmega]); (try (rw [dif_pos (by omega)]; go_simp; try go_bits)); first | exact upOut_value)
                 go_simp; refine hK _ _ ?_; clear hK K))
            refine wpUp_nil (fun wq hwq => ?_)
            simp only [fills]
            go_wp2
            go_ret
            exact ⟨ret_bool HN.out.symm, (hup.alloc _).trans hwq⟩
          · by_cases e2 : y ≤ y'
            · have HN : Hid (validP ps = false) := validP_no hlt (by rw [HZ.out]; simp; omega)
              go_wp2_with (go_at_call 66; (with_reducible refine (l1In_any _ _ _ _).mono ?_); rintro e w' ⟨rfl, rfl⟩)
              refine wp_region_up 38 (by kernel_rfl) (by kernel_rfl) ?_
              simp only [List.take, List.drop]
              repeat (refine wpUp_step (fun K hK => ?_); go_simp; (try simp only [↓IntWalk.iteOmega]); first
                | (refine hK _ _ ?_; clear hK K)
                | (apply stepU_c
                   · intro wq hwq; (have hbq := bcell hwq; (repeat (first | refine fills_no (by rfl) ?_ | refine fills_yes (by rfl) (fun vq hvq => ?_))); simp only [List.filter_nil, fills]; unfold upAt; (try ((have x0 := hbq.1 g (j * 2) (by simp; omega); have x1 := hbq.1 g (j * 2 + 1) (by simp; omega)))); go_simp; (try go_bits); (try simp only [↓IntWalk.iteOmega]); (try (rw [dif_pos (by omega)]; go_simp; try go_bits)); first | exact upOut_value)
                   go_simp; refine hK _ _ ?_; clear hK K))
              refine wpUp_nil (fun wq hwq => ?_)
              simp only [fills]
              go_wp2
              go_ret
              exact ⟨ret_bool HN.out.symm, (hup.alloc _).trans hwq⟩
            · have HP : Hid (plcB ps (j + 1) = true) := by unfold Hid; rw [HZ.out]; simp; omega
              go_wp2_with (go_at_call 66; (with_reducible refine (l1In_any _ _ _ _).mono ?_); rintro e w' ⟨rfl, rfl⟩)
              refine wp_region_up 38 (by kernel_rfl) (by kernel_rfl) ?_
              simp only [List.take, List.drop]
              repeat (refine wpUp_step (fun K hK => ?_); go_simp; (try simp only [↓IntWalk.iteOmega]); first
                | (refine hK _ _ ?_; clear hK K)
                | (apply stepU_c
                   · intro wq hwq; (have hbq := bcell hwq; (repeat (first | refine fills_no (by rfl) ?_ | refine fills_yes (by rfl) (fun vq hvq => ?_))); simp only [List.filter_nil, fills]; unfold upAt; (try ((have x0 := hbq.1 g (j * 2) (by simp; omega); have x1 := hbq.1 g (j * 2 + 1) (by simp; omega)))); go_simp; (try go_bits); (try simp only [↓IntWalk.iteOmega]); (try (rw [dif_pos (by omega)]; go_simp; try go_bits)); first | exact upOut_value)
                   go_simp; refine hK _ _ ?_; clear hK K))
              refine wpUp_nil (fun wq hwq => ?_)
              simp only [fills]
              go_wp2
              go_roundw
              case rel => exact ⟨j + 1 + 1, by omega, by go_num, NX.out HP.out, (hup.alloc _).trans hwq⟩
              case measure => simp [intOf]; omega
      · have HN : Hid (validP ps = false) := validP_no hlt (plcB_no1 hlt hb)
        clear hrd
        generalize ps[k].place = x at *
        generalize ps[k].start = y at *
        by_cases q1 : 0 ≤ x ∧ x ≤ 4000
        · have I1 : inB x 0 4000 = true := inB_iff.2 q1
          have I2 : inB y 0 2000 = false := inB_not.2 (by omega)
          clear hb q1
          go_wp2_with (go_at_call 66; (with_reducible refine (l1In_any _ _ _ _).mono ?_); rintro e w' ⟨rfl, rfl⟩)
          go_ret
          exact ⟨ret_bool HN.out.symm, hup.alloc _⟩
        · have I1 : inB x 0 4000 = false := inB_not.2 (by omega)
          clear hb q1
          go_wp2_with (go_at_call 66; (with_reducible refine (l1In_any _ _ _ _).mono ?_); rintro e w' ⟨rfl, rfl⟩)
          go_ret
          exact ⟨ret_bool HN.out.symm, hup.alloc _⟩
    · have e : k = ps.length := by omega
      by_cases h40 : ps.length ≤ 40
      · have HN : Hid (validP ps = true) := validP_yes h40 (fun i hi => HA.out i (by omega))
        have hd : decide ((ps.length : Int) ≤ 40) = true := decide_eq_true (by omega)
        go_wp2
        go_ret
        exact ⟨ret_bool (by rw [HN.out]), hup⟩
      · have HN : Hid (validP ps = false) := validP_len h40
        have hd : decide ((ps.length : Int) ≤ 40) = false := decide_eq_false (by omega)
        go_wp2
        go_ret
        exact ⟨ret_bool (by rw [HN.out]), hup⟩

end Go.Proofs.YtekbbnkkninolaaGreat

/- Walks of SeekBlock, the program's and the reference's. Conditions: the places can be read. -/
namespace Go.Proofs.YtekbbnkkninolaaGreat
set_option linter.unusedVariables false
set_option linter.unusedSimpArgs false
open Go.RowKit

def seekV (ps : List PlaceD) (o : Int) : Int := if validP ps then seekK ps o ps.length else -1

set_option maxRecDepth 100000 in
set_option maxHeartbeats 1000000 in
theorem seekI_any (ps : List PlaceD) (v : Value) (base : Nat) (o : Int) (w : World) (hown : w.ownsRow base 76 2 v ps.length (cellsP ps)) (hl : ps.length ≤ 1048576) :
    Calls Tryz.prog 72 #[v, .int .i64 o] w (Same (.int .i64 (seekV ps o)) w) := by
  obtain ⟨a, ca, rfl, hm, -⟩ := ownsRow_any hown
  cases hv : validP ps
  · have e : Hid (seekV ps o = -1) := by unfold Hid seekV; rw [hv]; rfl
    have cV := fun w h => validI_any ps (.slice a ps.length ca) base w h hl
    rw [hv] at cV
    rw [e.out]
    clear hv
    go_enter Tryz.func72, Tryz.ntmps72
    go_wp2_with fail
    (with_reducible refine (cV _ hown).mono ?_); rintro e w1 ⟨rfl, U1⟩
    go_wp2
    go_ret
    exact ⟨rfl, U1⟩
  · have e : Hid (seekV ps o = seekK ps o ps.length) := by unfold Hid seekV; rw [hv]; rfl
    have cV := fun w h => validI_any ps (.slice a ps.length ca) base w h hl
    rw [hv] at cV
    rw [e.out]
    clear hv
    go_enter Tryz.func72, Tryz.ntmps72
    go_wp2_with fail
    (with_reducible refine (cV _ hown).mono ?_); rintro e w1 ⟨rfl, U1⟩
    go_wp2
    go_loopw [5, 13] (fun f i wr => RelK ps o w1 f i wr) (fun _ i _ => ps.length - (intOf i).toNat)
    case atStart => exact ⟨0, Nat.zero_le _, rfl, rfl, Up.refl _⟩
    case round =>
      obtain ⟨k, hk, rfl, rfl, hup⟩ := hrel
      by_cases hlt : k < ps.length
      · obtain ⟨g, rfl, hc1, hc2, -, hg⟩ := ownsRow_slot hown (by omega)
        obtain ⟨c0, c1⟩ := plc_cells' (read_cells (ownsRow_up (ownsRow_up hown U1) hup)) hlt
        by_cases hp : ps[k].start ≤ o
        · have HS := Lib.hid (seekK_hit hlt hp)
          go_wp2
          go_roundw
          case rel => exact ⟨k + 1, by omega, by go_num, by rw [HS.out], hup.alloc _⟩
          case measure => simp [intOf]; omega
        · have HS := Lib.hid (seekK_miss hlt hp)
          go_wp2
          go_roundw
          case rel => exact ⟨k + 1, by omega, by go_num, by rw [HS.out], hup.alloc _⟩
          case measure => simp [intOf]; omega
      · have e : k = ps.length := by omega
        subst e
        go_wp2
        go_ret
        exact ⟨rfl, U1.trans hup⟩

end Go.Proofs.YtekbbnkkninolaaGreat

/- Plain: a range within the data of a container touches the blocks from that with its first byte to that with its last byte. Conditions: the blocks are those of a container. -/
namespace Go.Proofs.YtekbbnkkninolaaGreat
set_option linter.unusedVariables false
set_option linter.unusedSimpArgs false
open Go.RowKit

theorem sums_lt {l : List BlkD} (hok : accOk l) {i : Nat} (h : i < l.length) : sizeSum (l.take i) < sizeSum (l.take (i + 1)) := by
  have := (hok.2 l[i] (List.getElem_mem h)).1
  rw [sizeSum_take h]; omega
theorem sums_le {l : List BlkD} (hok : accOk l) {i j : Nat} (h : i ≤ j) (hj : j ≤ l.length) : sizeSum (l.take i) ≤ sizeSum (l.take j) := by
  induction j with
  | zero => rw [show i = 0 by omega]; omega
  | succ j ih =>
    rcases Nat.lt_or_ge i (j + 1) with hl | hl
    · have := sums_lt hok (i := j) (by omega)
      have := ih (by omega) (by omega)
      omega
    · rw [show i = j + 1 by omega]; omega
end Go.Proofs.YtekbbnkkninolaaGreat

/- Plain: what is read of a container with places. Conditions: as each says. -/
namespace Go.Proofs.YtekbbnkkninolaaGreat
set_option linter.unusedVariables false
set_option linter.unusedSimpArgs false
open Go Go.RowKit

/-- The data of blocks is as long as they say. -/
def LenOk (f : BlkD → Option (List UInt8)) (l : List BlkD) : Prop := ∀ b ∈ l, ∀ x, f b = some x → (x.length : Int) = b.size
theorem len_dataO {s : SetD} {dict : List UInt8} {b : BlkD} (hf : formB b.num b.raw b.size b.body = true) {x : List UInt8} (h : dataO s dict b = some x) : (x.length : Int) = b.size := by
  unfold dataO at h
  split at h
  · next hr =>
    cases h
    unfold formB at hf
    simp only [Bool.and_eq_true] at hf
    have h2 := hf.2
    rw [if_pos hr] at h2
    rw [ba_len]
    simpa using h2
  · split at h
    · next h3 => cases h; exact h3.2.2
    · cases h
theorem allF_len {f : BlkD → Option (List UInt8)} : ∀ (l : List BlkD) (D : List UInt8), LenOk f l → allF f l = some D → (D.length : Int) = sizeSum l
  | [], D, _, h => by cases h; rfl
  | b :: l, D, hL, h => by
    rw [allF] at h
    cases h1 : f b with
    | none => rw [h1] at h; cases h
    | some x =>
      rw [h1] at h
      cases h2 : allF f l with
      | none => rw [h2] at h; cases h
      | some y =>
        rw [h2] at h; cases h
        have g1 := hL b (List.mem_cons_self ..) x h1
        have g2 := allF_len l y (fun b hb => hL b (List.mem_cons_of_mem _ hb)) h2
        unfold sizeSum at *
        rw [List.map_cons, List.sum_cons, List.length_append]; omega
theorem allF_cut {f : BlkD → Option (List UInt8)} : ∀ (l : List BlkD) (D : List UInt8) (j : Nat), LenOk f l → allF f l = some D → allF f (l.take j) = some (D.take (sizeSum (l.take j)).toNat) ∧ allF f (l.drop j) = some (D.drop (sizeSum (l.take j)).toNat)
  | [], D, j, _, h => by cases h; simp [allF]
  | b :: l, D, 0, _, h => by simp [sizeSum, allF] at h ⊢; exact h
  | b :: l, D, j + 1, hL, h => by
    rw [allF] at h
    cases h1 : f b with
    | none => rw [h1] at h; cases h
    | some x =>
      rw [h1] at h
      cases h2 : allF f l with
      | none => rw [h2] at h; cases h
      | some y =>
        rw [h2] at h; cases h
        have hL' : LenOk f l := fun b hb => hL b (List.mem_cons_of_mem _ hb)
        have g1 := hL b (List.mem_cons_self ..) x h1
        obtain ⟨i1, i2⟩ := allF_cut l y j hL' h2
        have g3 := allF_len (l.take j) _ (fun b hb => hL' b (List.mem_of_mem_take hb)) i1
        have hs : sizeSum (b :: l.take j) = b.size + sizeSum (l.take j) := by simp [sizeSum]
        have hn : (sizeSum (b :: l.take j)).toNat = x.length + (sizeSum (l.take j)).toNat := by rw [hs]; omega
        rw [List.take_succ_cons, List.drop_succ_cons, hn, allF, h1, i1, i2]
        refine ⟨?_, ?_⟩
        · show some (x ++ y.take (sizeSum (l.take j)).toNat) = some ((x ++ y).take (x.length + (sizeSum (l.take j)).toNat))
          rw [List.take_append, List.take_of_length_le (show x.length ≤ x.length + (sizeSum (l.take j)).toNat by omega), Nat.add_sub_cancel_left]
        · rw [List.drop_append]; simp
theorem allF_at {f : BlkD → Option (List UInt8)} {l : List BlkD} {D : List UInt8} (hL : LenOk f l) (hD : allF f l = some D) {i : Nat} (hi : i < l.length) :
    ∃ x, f l[i] = some x ∧ x = (D.drop (sizeSum (l.take i)).toNat).take x.length ∧ sizeSum (l.take i) + x.length = sizeSum (l.take (i + 1)) ∧ 0 ≤ sizeSum (l.take i) := by
  obtain ⟨i1, i2⟩ := allF_cut l D i hL hD
  have g3 := allF_len (l.take i) _ (fun b hb => hL b (List.mem_of_mem_take hb)) i1
  rw [List.drop_eq_getElem_cons hi, allF] at i2
  cases h1 : f l[i] with
  | none => rw [h1] at i2; cases i2
  | some x =>
    rw [h1] at i2
    cases h2 : allF f (l.drop (i + 1)) with
    | none => rw [h2] at i2; cases i2
    | some y =>
      rw [h2] at i2
      have e : x ++ y = D.drop (sizeSum (l.take i)).toNat := Option.some.inj i2
      refine ⟨x, rfl, by rw [← e, List.take_left], ?_, by omega⟩
      rw [sizeSum_take hi, hL _ (List.getElem_mem hi) x h1]

/-- The block to which a place leads, if it is the one asked for. -/
def blkIdx (st : ByteArray) (ps : List PlaceD) (k : Nat) (at' : Int) : Option BlkD := match ps[k]? with
  | none => none
  | some p => if p.start = at' ∧ 0 ≤ p.place ∧ parseOk st p.place.toNat = true ∧ numAt st (p.place.toNat + 2) = k then some (blkAt st p.place.toNat) else none
/-- The data of blocks from place k on till an offset is reached. -/
def needN (f : BlkD → Option (List UInt8)) (st : ByteArray) (ps : List PlaceD) (to : Int) : Nat → Nat → Int → Option (List UInt8)
  | 0, _, at' => if at' < to then none else some []
  | n + 1, k, at' => if at' < to then (blkIdx st ps k at').bind fun b => (f b).bind fun x => (needN f st ps to n (k + 1) (at' + x.length)).map (x ++ ·) else some []
section
variable {f : BlkD → Option (List UInt8)} {st : ByteArray} {ps : List PlaceD} {to : Int} {n k : Nat} {at' : Int}
theorem need_end (h : ¬ at' < to) : needN f st ps to n k at' = some [] := by
  cases n with
  | zero => rw [needN, if_neg h]
  | succ n => rw [needN, if_neg h]
theorem need_out (h : at' < to) (hk : ps.length ≤ k) : needN f st ps to n k at' = none := by
  cases n with
  | zero => rw [needN, if_pos h]
  | succ n => rw [needN, if_pos h, blkIdx, List.getElem?_eq_none hk]; rfl
theorem blkIdx_not {p : PlaceD} (hp : ps[k]? = some p) (h : ¬ (p.start = at' ∧ 0 ≤ p.place ∧ parseOk st p.place.toNat = true ∧ numAt st (p.place.toNat + 2) = k)) : blkIdx st ps k at' = none := by
  unfold blkIdx; rw [hp]; simp only; rw [if_neg h]
theorem blkIdx_yes {p : PlaceD} (hp : ps[k]? = some p) (h : p.start = at' ∧ 0 ≤ p.place ∧ parseOk st p.place.toNat = true ∧ numAt st (p.place.toNat + 2) = k) : blkIdx st ps k at' = some (blkAt st p.place.toNat) := by
  unfold blkIdx; rw [hp]; simp only; rw [if_pos h]
theorem need_none (h : at' < to) (hk : k < ps.length) (hb : blkIdx st ps k at' = none) : needN f st ps to n k at' = none := by
  cases n with
  | zero => rw [needN, if_pos h]
  | succ n => rw [needN, if_pos h, hb]; rfl
theorem need_bad (h : at' < to) {b : BlkD} (hb : blkIdx st ps k at' = some b) (hf : f b = none) : needN f st ps to n k at' = none := by
  cases n with
  | zero => rw [needN, if_pos h]
  | succ n => rw [needN, if_pos h, hb, Option.bind_some, hf]; rfl
theorem need_step (h : at' < to) {b : BlkD} (hb : blkIdx st ps k at' = some b) {x : List UInt8} (hf : f b = some x) : needN f st ps to (n + 1) k at' = (needN f st ps to n (k + 1) (at' + x.length)).map (x ++ ·) := by
  rw [needN, if_pos h, hb, Option.bind_some, hf, Option.bind_some]
theorem need_addO (acc : List UInt8) (h : at' < to) {b : BlkD} (hb : blkIdx st ps k at' = some b) {x : List UInt8} (hf : f b = some x) : addO acc (needN f st ps to (n + 1) k at') = addO (acc ++ x) (needN f st ps to n (k + 1) (at' + x.length)) := by
  rw [need_step h hb hf]
  unfold addO
  cases needN f st ps to n (k + 1) (at' + x.length) <;> simp
end
theorem need_ge {f : BlkD → Option (List UInt8)} {st : ByteArray} {ps : List PlaceD} {to : Int} : ∀ (n k : Nat) (at' : Int) (d : List UInt8), needN f st ps to n k at' = some d → to ≤ at' + d.length
  | 0, k, at', d, h => by
    rw [needN] at h
    split at h
    · cases h
    · cases h; simp; omega
  | n + 1, k, at', d, h => by
    rw [needN] at h
    split at h
    · cases hb : blkIdx st ps k at' with
      | none => rw [hb] at h; cases h
      | some b =>
        rw [hb, Option.bind_some] at h
        cases hf : f b with
        | none => rw [hf] at h; cases h
        | some x =>
          rw [hf, Option.bind_some] at h
          cases hr : needN f st ps to n (k + 1) (at' + x.length) with
          | none => rw [hr] at h; cases h
          | some y =>
            rw [hr] at h; cases h
            have := need_ge n (k + 1) _ y hr
            rw [List.length_append]; omega
    · cases h; simp; omega

theorem take_join {D : List UInt8} {a n m : Nat} : (D.drop a).take n ++ (D.drop (a + n)).take m = (D.drop a).take (n + m) := by
  rw [List.take_add, List.drop_drop]
/-- What is read with the places of a container is the part of its data. -/
theorem need_sound {f : BlkD → Option (List UInt8)} {st : ByteArray} {l : List BlkD} {D : List UInt8} {ps : List PlaceD} {to : Int} (hb : contBlocks st = some l) (hL : LenOk f l) (hD : allF f l = some D)
    (hp : ∀ i p, ps[i]? = some p → i < l.length ∧ p = ⟨bytesSum (l.take i), sizeSum (l.take i)⟩) : ∀ (n k : Nat) (d : List UInt8), k ≤ l.length → needN f st ps to n k (sizeSum (l.take k)) = some d →
    d = (D.drop (sizeSum (l.take k)).toNat).take d.length ∧ sizeSum (l.take k) + d.length ≤ D.length := by
  have hok := contBlocks_ok hb
  have hlie := (cont_lies hb).2.2
  have hDl := allF_len l D hL hD
  have h0 : ∀ k, k ≤ l.length → sizeSum (l.take k) ≤ D.length := fun k hk => by
    have := sums_le hok hk (Nat.le_refl _)
    rw [List.take_length] at this
    omega
  intro n
  induction n with
  | zero =>
    intro k d hk h
    rw [needN] at h
    split at h
    · cases h
    · cases h
      exact ⟨by simp, by simpa using h0 k hk⟩
  | succ n ih =>
    intro k d hk h
    rw [needN] at h
    split at h
    · cases hbi : blkIdx st ps k (sizeSum (l.take k)) with
      | none => rw [hbi] at h; cases h
      | some b =>
        have hbi2 := hbi
        unfold blkIdx at hbi2
        cases hpk : ps[k]? with
        | none => rw [hpk] at hbi2; cases hbi2
        | some p =>
          rw [hpk] at hbi2
          obtain ⟨hkl, rfl⟩ := hp k p hpk
          obtain ⟨q, q1, q2, q3, q4, q5, -⟩ := hlie k l[k] (List.getElem?_eq_getElem hkl)
          simp only at hbi2
          rw [← q1, Int.toNat_natCast] at hbi2
          split at hbi2
          · have hbl : b = l[k] := by rw [← q4]; exact (Option.some.inj hbi2).symm
            obtain ⟨x, x1, x2, x3, x4⟩ := allF_at hL hD hkl
            rw [hbi, Option.bind_some, hbl, x1, Option.bind_some, x3] at h
            cases hr : needN f st ps to n (k + 1) (sizeSum (l.take (k + 1))) with
            | none => rw [hr] at h; cases h
            | some y =>
              rw [hr] at h; cases h
              obtain ⟨i1, i2⟩ := ih (k + 1) y (by omega) hr
              refine ⟨?_, by rw [List.length_append]; omega⟩
              have e : (sizeSum (l.take (k + 1))).toNat = (sizeSum (l.take k)).toNat + x.length := by omega
              rw [e] at i1
              rw [List.length_append, ← take_join, ← i1, ← x2]
          · cases hbi2
    · cases h
      exact ⟨by simp, by simpa using h0 k hk⟩
theorem seekK_lt {ps : List PlaceD} {o : Int} : ∀ (n : Nat), n ≤ ps.length → seekK ps o n = -1 ∨ ∃ (j : Nat) (h : j < ps.length), j < n ∧ seekK ps o n = j ∧ (ps[j]).start ≤ o
  | 0, _ => .inl rfl
  | n + 1, hn => by
    by_cases hp : (ps[n]'(by omega)).start ≤ o
    · exact .inr ⟨n, by omega, by omega, seekK_hit (by omega) hp, hp⟩
    · rw [seekK_miss (by omega) hp]
      rcases seekK_lt (ps := ps) (o := o) n (by omega) with h | ⟨j, h1, h2, h3, h4⟩
      · exact .inl h
      · exact .inr ⟨j, h1, by omega, h3, h4⟩
theorem validP_at {ps : List PlaceD} (h : validP ps = true) : ps.length ≤ 40 ∧ ∀ j (hj : j < ps.length), 0 ≤ (ps[j]).place ∧ (ps[j]).place ≤ 4000 ∧ 0 ≤ (ps[j]).start ∧ (ps[j]).start ≤ 2000 := by
  unfold validP at h
  rw [Bool.and_eq_true, decide_eq_true_eq, List.all_eq_true] at h
  refine ⟨h.1, fun j hj => ?_⟩
  have := h.2 j (List.mem_range.2 hj)
  unfold plcB at this
  rw [List.getElem?_eq_getElem hj] at this
  simp only [Bool.and_eq_true, decide_eq_true_eq] at this
  exact this.1
/-- What ReadIndexed reads behind its checks. -/
def fromN (f : BlkD → Option (List UInt8)) (st : ByteArray) (ps : List PlaceD) (a b : Int) (k : Nat) (z : Int) : Option (List UInt8) :=
  (needN f st ps b (ps.length - k) k z).map fun d => (d.drop (a - z).toNat).take ((b - z).toNat - (a - z).toNat)
def idxR (f : BlkD → Option (List UInt8)) (st : ByteArray) (ps : List PlaceD) (a b : Int) : Option (List UInt8) :=
  if a = b then some [] else if seekK ps a ps.length < 0 then none else fromN f st ps a b (seekK ps a ps.length).toNat ((ps.getD (seekK ps a ps.length).toNat ⟨0, 0⟩).start)
def idxOk (fit : Bool) (st : ByteArray) (ps : List PlaceD) (a b : Int) : Bool := fit && (validP ps && (decide (st.size ≤ 4000) && (inB a 0 b && inB b 0 2000)))
def idxO (f : BlkD → Option (List UInt8)) (fit : Bool) (st : ByteArray) (ps : List PlaceD) (a b : Int) : Option (List UInt8) := if idxOk fit st ps a b then idxR f st ps a b else none

end Go.Proofs.YtekbbnkkninolaaGreat

/- Walks of the reference's l5Needed and ReadIndexed. Conditions: the places can be read; the strings are no longer than 2^30 bytes. -/
namespace Go.Proofs.YtekbbnkkninolaaGreat
set_option linter.unusedVariables false
set_option linter.unusedSimpArgs false
open Go Go.RowKit

structure NdAt (T : Option (List UInt8)) (s : SetD) (dict : List UInt8) (st : ByteArray) (ps : List PlaceD) (to : Int) (w : World) (k m : Nat) (acc : List UInt8) (z : Int) (wr : World) : Prop where
  fu : k + m = ps.length
  tot : addO acc (needN (dataO s dict) st ps to m k z) = T
  z0 : 0 ≤ z
  z1 : z ≤ 2000 + 64 * k
  al : acc.length ≤ 64 * k
  set : SetAt w.heap.size s.ord s.lit s.most wr
  up : Up w wr
def RelNd (T : Option (List UInt8)) (s : SetD) (dict : List UInt8) (st : ByteArray) (ps : List PlaceD) (to : Int) (w : World) (i o z : Value) (wr : World) : Prop := ∃ (k m : Nat) (acc : List UInt8) (zz : Int), i = .int .i64 k ∧ o = .string (bs acc) ∧ z = .int .i64 zz ∧ NdAt T s dict st ps to w k m acc zz wr
theorem parse_bd {st : ByteArray} {p : Nat} (h : parseOk st p = true) : 1 ≤ (blkAt st p).size ∧ (blkAt st p).size ≤ 64 ∧ (blkAt st p).body.size ≤ 64 := by
  obtain ⟨-, h2, h3⟩ := formB_bd (parseOk_form h).2.2
  exact ⟨h2.1, h2.2, h3⟩

set_option maxRecDepth 100000 in
set_option maxHeartbeats 8000000 in
theorem needS_any (s : SetD) (dict st : ByteArray) (ps : List PlaceD) (v : Value) (base k0 : Nat) (to : Int) (w : World) (hi : dict.size ≤ 1073741824) (hs : st.size ≤ 1073741824) (hown : w.ownsRow base 76 2 v ps.length (cellsP ps)) (hl : ps.length ≤ 40) (hk0 : k0 < ps.length)
    (hpl : ∀ j (hj : j < ps.length), 0 ≤ (ps[j]).place ∧ (ps[j]).place ≤ 4000 ∧ 0 ≤ (ps[j]).start ∧ (ps[j]).start ≤ 2000) :
    Calls Tryz.prog 69  #[setV s, .string dict, .string st, v, .int .i64 k0, .int .i64 to] w (Same (optS (needN (dataO s dict.data.toList) st ps to (ps.length - k0) k0 (ps[k0]).start)) w) := by
  have cD := fun b wx hb => l5Data_any s dict b wx hi hb
  obtain ⟨a, ca, rfl, hm, hsome⟩ := ownsRow_any hown
  obtain ⟨g, rfl, hnc, hcm, -, hg, hcells⟩ := hsome (by omega)
  have HC : Hid (∀ j (hj : j < ps.length), w.cell? ⟨g, j * 2, none⟩ = some (.int .i64 (ps[j]).place) ∧ w.cell? ⟨g, j * 2 + 1, none⟩ = some (.int .i64 (ps[j]).start)) := fun j hj => plc_cells hcells (List.getElem?_eq_getElem hj)
  have HPL := Lib.hid hpl
  obtain ⟨T, HT⟩ : ∃ T, Hid (needN (dataO s dict.data.toList) st ps to (ps.length - k0) k0 (ps[k0]).start = T) := ⟨_, Lib.hid rfl⟩
  rw [HT.out]
  obtain ⟨k1, k2⟩ := HC.out k0 hk0
  obtain ⟨p1, p2, p3, p4⟩ := HPL.out k0 hk0
  unfold maxLen at hcm
  clear hcells hsome hown hpl hm
  generalize hz0 : (ps[k0]).start = z0 at *
  have HZ0 := Lib.hid hz0
  clear hz0
  simp only [setV] at *
  go_enter Tryz.func69, Tryz.ntmps69
  go_wp2
  go_loopw [4, 14, 15] (fun i o z wr => RelNd T s dict.data.toList st ps to w i o z wr) (fun i _ _ _ => ps.length - (intOf i).toNat)
  case atStart => exact ⟨k0, ps.length - k0, [], z0, rfl, rfl, rfl, ⟨by omega, by rw [addO_nil]; exact HT.out, p3, by omega, by simp, (MapKept.heap_alloc w _).1, by (repeat (first | with_reducible exact Up.refl _ | with_reducible assumption | with_reducible refine Up.set ?_ (by first | exact Nat.le_refl _ | (simp only []; omega) | (simp; omega)) _ | with_reducible refine Up.alloc ?_ _ | with_reducible refine Up.drew ?_ | refine Up.trans ?_ (by with_reducible assumption)))⟩⟩
  case round =>
    obtain ⟨k, m, acc, z, rfl, rfl, rfl, hM⟩ := hrel
    have HM := Lib.hid hM
    have hfu := hM.fu
    have hz1 := hM.z0
    have hz2 := hM.z1
    have hal := hM.al
    have hza := bs_size acc
    obtain ⟨hb0, s0, s1, s2⟩ := hM.set.cells
    have hup := hM.up
    clear hM k1 k2 p1 p2 p3 p4
    by_cases hlt : z < to
    · by_cases hkl : k < ps.length
      · obtain ⟨x0, x1⟩ := HC.out k hkl
        have c0 := (hup.cell (p := ⟨g, k * 2, none⟩) hg).trans x0
        have c1 := (hup.cell (p := ⟨g, k * 2 + 1, none⟩) hg).trans x1
        have hgr := Nat.lt_of_lt_of_le hg hup.size
        obtain ⟨p1, p2, p3, p4⟩ := HPL.out k hkl
        have hpk : ps[k]? = some ps[k] := List.getElem?_eq_getElem hkl
        have HNO : Hid (blkIdx st ps k z = none → T = none) := fun h => HM.out.tot.symm.trans (by rw [need_none hlt hkl h]; rfl)
        clear x0 x1 hup
        by_cases hst : (ps[k]).start = z
        · have hpn : (((ps[k]).place.toNat : Nat) : Int) = (ps[k]).place := by omega
          have cP := fun wx => parseS_any st ((ps[k]).place.toNat : Nat) wx hs
          rw [hpn] at cP
          cases hp : parseOk st (ps[k]).place.toNat
          · have HTN : Hid (T = none) := HNO.out (blkIdx_not hpk (fun h => by rw [hp] at h; exact absurd h.2.2.1 (by decide)))
            have e := parseV_not hp
            rw [hpn] at e
            rw [e] at cP
            unfold noBlock at cP
            clear hp e hpk HNO
            generalize (ps[k]).place = P at *
            generalize (ps[k]).start = Z at *
            go_wp2_with (((go_at_call 122; (with_reducible refine (cP _).mono ?_); rintro e w1 ⟨rfl, U1⟩; have B1 := bcell U1; have Z1 := U1.size; (try simp at Z1); (try rw [Nat.add_one_le_iff] at Z1)); (try have Y1a : w.heap.size < w1.heap.size := (by omega)); (try have Y1b : w.heap.size + 1 < w1.heap.size := (by omega)); (try have Y1c : w.heap.size + 1 + 1 < w1.heap.size := (by omega)); (try have Y1d : w.heap.size + 1 + 1 + 1 < w1.heap.size := (by omega)); skip))
            go_ret2
            refine ⟨by rw [HTN.out]; rfl, ?_⟩
            exact HM.out.up.trans (by (repeat (first | with_reducible exact Up.refl _ | with_reducible assumption | with_reducible refine Up.set ?_ (by first | exact Nat.le_refl _ | (simp only []; omega) | (simp; omega)) _ | with_reducible refine Up.alloc ?_ _ | with_reducible refine Up.drew ?_ | refine Up.trans ?_ (by with_reducible assumption))))
          · have hb := parse_bd hp
            have e := parseV_yes hp
            rw [hpn, parsed_blk] at e
            rw [e] at cP
            have hbi := fun (hn : numAt st ((ps[k]).place.toNat + 2) = k) => blkIdx_yes (st := st) (at' := z) hpk ⟨hst, p1, hp, hn⟩
            have hbn := fun (hn : numAt st ((ps[k]).place.toNat + 2) ≠ k) => HNO.out (blkIdx_not (at' := z) hpk (fun h => hn h.2.2.2))
            have hnum : (blkAt st (ps[k]).place.toNat).num = numAt st ((ps[k]).place.toNat + 2) := rfl
            clear hp e hpk HNO hpn
            rw [← hnum] at hbi hbn
            generalize endAt st (ps[k]).place.toNat + 2 = en at *
            generalize blkAt st (ps[k]).place.toNat = b at *
            generalize (ps[k]).place = P at *
            generalize (ps[k]).start = Z at *
            subst hst
            clear hnum
            by_cases hn : b.num = k
            · have hbi2 := hbi hn
              have cD2 := fun wx => cD b wx (by omega)
              obtain ⟨m, rfl⟩ : ∃ q, m = q + 1 := ⟨m - 1, by omega⟩
              cases hdo : dataO s dict.data.toList b with
              | none =>
                have HTN : Hid (T = none) := HM.out.tot.symm.trans (by rw [need_bad hlt hbi2 hdo]; rfl)
                rw [hdo] at cD2
                clear hdo hbi hbn hbi2 cD
                obtain ⟨bn, br, bz, bb⟩ := b
                simp only at hn
                subst hn
                unfold optS at cD2
                simp only [blkV, Option.getD_none, Option.isSome_none] at cD2 cP
                go_wp2_with (first | ((go_at_call 122; (with_reducible refine (cP _).mono ?_); rintro e w1 ⟨rfl, U1⟩; have B1 := bcell U1; have Z1 := U1.size; (try simp at Z1); (try rw [Nat.add_one_le_iff] at Z1)); (try have Y1a : w.heap.size < w1.heap.size := (by omega)); (try have Y1b : w.heap.size + 1 < w1.heap.size := (by omega)); (try have Y1c : w.heap.size + 1 + 1 < w1.heap.size := (by omega)); (try have Y1d : w.heap.size + 1 + 1 + 1 < w1.heap.size := (by omega)); skip) | ((go_at_call 123; (with_reducible refine (cD2 _).mono ?_); rintro e w2 ⟨rfl, U2⟩; have B2 := bcell U2; have Z2 := U2.size; (try simp at Z2); (try rw [Nat.add_one_le_iff] at Z2)); (try have Y2a : w.heap.size < w2.heap.size := (by omega)); (try have Y2b : w.heap.size + 1 < w2.heap.size := (by omega)); (try have Y2c : w.heap.size + 1 + 1 < w2.heap.size := (by omega)); (try have Y2d : w.heap.size + 1 + 1 + 1 < w2.heap.size := (by omega)); skip))
                go_ret2
                refine ⟨by rw [HTN.out]; rfl, ?_⟩
                exact HM.out.up.trans (by (repeat (first | with_reducible exact Up.refl _ | with_reducible assumption | with_reducible refine Up.set ?_ (by first | exact Nat.le_refl _ | (simp only []; omega) | (simp; omega)) _ | with_reducible refine Up.alloc ?_ _ | with_reducible refine Up.drew ?_ | refine Up.trans ?_ (by with_reducible assumption))))
              | some x =>
                have hxl := dataO_bd hdo hb.2.1 hb.2.2
                have hzx := bs_size x
                have HTN : Hid (addO (acc ++ x) (needN (dataO s dict.data.toList) st ps to m (k + 1) (Z + x.length)) = T) := (need_addO acc hlt hbi2 hdo).symm.trans HM.out.tot
                rw [hdo] at cD2
                clear hdo hbi hbn hbi2 cD
                obtain ⟨bn, br, bz, bb⟩ := b
                simp only at hn
                subst hn
                unfold optS at cD2
                simp only [blkV, Option.getD_some, Option.isSome_some] at cD2 cP
                go_wp2_with (first | ((go_at_call 122; (with_reducible refine (cP _).mono ?_); rintro e w1 ⟨rfl, U1⟩; have B1 := bcell U1; have Z1 := U1.size; (try simp at Z1); (try rw [Nat.add_one_le_iff] at Z1)); (try have Y1a : w.heap.size < w1.heap.size := (by omega)); (try have Y1b : w.heap.size + 1 < w1.heap.size := (by omega)); (try have Y1c : w.heap.size + 1 + 1 < w1.heap.size := (by omega)); (try have Y1d : w.heap.size + 1 + 1 + 1 < w1.heap.size := (by omega)); skip) | ((go_at_call 123; (with_reducible refine (cD2 _).mono ?_); rintro e w2 ⟨rfl, U2⟩; have B2 := bcell U2; have Z2 := U2.size; (try simp at Z2); (try rw [Nat.add_one_le_iff] at Z2)); (try have Y2a : w.heap.size < w2.heap.size := (by omega)); (try have Y2b : w.heap.size + 1 < w2.heap.size := (by omega)); (try have Y2c : w.heap.size + 1 + 1 < w2.heap.size := (by omega)); (try have Y2d : w.heap.size + 1 + 1 + 1 < w2.heap.size := (by omega)); skip))
                go_roundw
                case rel => exact ⟨k + 1, m, acc ++ x, Z + x.length, by go_num, congrArg Value.string (bs_app _ _), by (first | rfl | go_num | (rw [hzx])), ⟨by omega, HTN.out, by omega, by omega, by rw [List.length_append]; omega, box_up (by (repeat (first | with_reducible exact Up.refl _ | with_reducible assumption | with_reducible refine Up.set ?_ (by first | exact Nat.le_refl _ | (simp only []; omega) | (simp; omega)) _ | with_reducible refine Up.alloc ?_ _ | with_reducible refine Up.drew ?_ | refine Up.trans ?_ (by with_reducible assumption)))) HM.out.set, HM.out.up.trans (by (repeat (first | with_reducible exact Up.refl _ | with_reducible assumption | with_reducible refine Up.set ?_ (by first | exact Nat.le_refl _ | (simp only []; omega) | (simp; omega)) _ | with_reducible refine Up.alloc ?_ _ | with_reducible refine Up.drew ?_ | refine Up.trans ?_ (by with_reducible assumption))))⟩⟩
                case measure => simp [intOf]; omega
            · have HTN : Hid (T = none) := hbn hn
              clear hbi hbn cD
              obtain ⟨bn, br, bz, bb⟩ := b
              simp only at hn
              simp only [blkV] at cP
              go_wp2_with (((go_at_call 122; (with_reducible refine (cP _).mono ?_); rintro e w1 ⟨rfl, U1⟩; have B1 := bcell U1; have Z1 := U1.size; (try simp at Z1); (try rw [Nat.add_one_le_iff] at Z1)); (try have Y1a : w.heap.size < w1.heap.size := (by omega)); (try have Y1b : w.heap.size + 1 < w1.heap.size := (by omega)); (try have Y1c : w.heap.size + 1 + 1 < w1.heap.size := (by omega)); (try have Y1d : w.heap.size + 1 + 1 + 1 < w1.heap.size := (by omega)); skip))
              go_ret2
              refine ⟨by rw [HTN.out]; rfl, ?_⟩
              exact HM.out.up.trans (by (repeat (first | with_reducible exact Up.refl _ | with_reducible assumption | with_reducible refine Up.set ?_ (by first | exact Nat.le_refl _ | (simp only []; omega) | (simp; omega)) _ | with_reducible refine Up.alloc ?_ _ | with_reducible refine Up.drew ?_ | refine Up.trans ?_ (by with_reducible assumption))))
        · have HTN : Hid (T = none) := HNO.out (blkIdx_not hpk (fun h => hst h.1))
          clear hpk HNO
          generalize (ps[k]).place = P at *
          generalize (ps[k]).start = Z at *
          have hne : (Z == z) = false := by simpa using hst
          have hne2 : (Z != z) = true := by simpa using hst
          have hd2 : decide (ps.length ≤ k) = false := by simpa using hkl
          clear hst
          go_wp2
          go_ret2
          refine ⟨by rw [HTN.out]; rfl, ?_⟩
          exact HM.out.up.trans (by (repeat (first | with_reducible exact Up.refl _ | with_reducible assumption | with_reducible refine Up.set ?_ (by first | exact Nat.le_refl _ | (simp only []; omega) | (simp; omega)) _ | with_reducible refine Up.alloc ?_ _ | with_reducible refine Up.drew ?_ | refine Up.trans ?_ (by with_reducible assumption))))
      · have HTN : Hid (T = none) := HM.out.tot.symm.trans (by rw [need_out hlt (by omega)]; rfl)
        have e : k = ps.length := by omega
        go_wp2
        go_ret2
        refine ⟨by rw [HTN.out]; rfl, ?_⟩
        exact HM.out.up.trans (by (repeat (first | with_reducible exact Up.refl _ | with_reducible assumption | with_reducible refine Up.set ?_ (by first | exact Nat.le_refl _ | (simp only []; omega) | (simp; omega)) _ | with_reducible refine Up.alloc ?_ _ | with_reducible refine Up.drew ?_ | refine Up.trans ?_ (by with_reducible assumption))))
    · have HTN : Hid (T = some acc) := HM.out.tot.symm.trans (by rw [need_end hlt]; simp [addO])
      go_wp2
      go_ret2
      exact ⟨by rw [HTN.out]; rfl, HM.out.up⟩

set_option maxRecDepth 100000 in
set_option maxHeartbeats 8000000 in
theorem idxS_any (s : SetD) (dict st : ByteArray) (ps : List PlaceD) (v : Value) (base : Nat) (f t : Int) (w : World) (hi : dict.size ≤ 1073741824) (hs : st.size ≤ 1073741824) (hown : w.ownsRow base 76 2 v ps.length (cellsP ps)) (hl : ps.length ≤ 1048576) :
    Calls Tryz.prog 23  #[setV s, .string dict, .string st, v, .int .i64 f, .int .i64 t] w (Same (optS (idxO (dataO s dict.data.toList) (fitsB s dict.data.toList) st ps f t)) w) := by
  have cR := fun wx => l5Ready_any s dict wx hi
  have cV := fun wx h => validS_any ps v base wx h hl
  have cI1 := fun wx => l1In_any f 0 t wx
  have cI2 := fun wx => l1In_any t 0 2000 wx
  have hrow := fun (wq : World) (hu : Up w wq) => ownsRow_up hown hu
  have cK := fun wx h => l5Seek_any ps v base f wx h hl
  have HOWN := Lib.hid hown
  obtain ⟨a, ca, rfl, hm, hsome⟩ := ownsRow_any hown
  clear hown
  cases h1 : fitsB s dict.data.toList
  · have HN : Hid (idxO (dataO s dict.data.toList) false st ps f t = none) := rfl
    rw [h1] at cR
    rw [HN.out]
    clear h1 hsome
    simp only [setV] at *
    go_enter Tryz.func23, Tryz.ntmps23
    go_wp2_with (((go_at_call 62; (with_reducible refine (cR _).mono ?_); rintro e w1 ⟨rfl, U1⟩; have B1 := bcell U1; have Z1 := U1.size; (try simp at Z1); (try rw [Nat.add_one_le_iff] at Z1)); (try have Y1a : w.heap.size < w1.heap.size := (by omega)); (try have Y1b : w.heap.size + 1 < w1.heap.size := (by omega)); (try have Y1c : w.heap.size + 1 + 1 < w1.heap.size := (by omega)); (try have Y1d : w.heap.size + 1 + 1 + 1 < w1.heap.size := (by omega)); skip))
    go_ret2
    refine ⟨rfl, ?_⟩
    (repeat (first | with_reducible exact Up.refl _ | with_reducible assumption | with_reducible refine Up.set ?_ (by first | exact Nat.le_refl _ | (simp only []; omega) | (simp; omega)) _ | with_reducible refine Up.alloc ?_ _ | with_reducible refine Up.drew ?_ | refine Up.trans ?_ (by with_reducible assumption)))
  rw [h1] at cR
  cases h2 : validP ps
  · have HN : Hid (idxO (dataO s dict.data.toList) true st ps f t = none) := by unfold Hid idxO idxOk; rw [h2]; rfl
    rw [h2] at cV
    rw [HN.out]
    clear h1 h2 hsome
    simp only [setV] at *
    go_enter Tryz.func23, Tryz.ntmps23
    go_wp2_with (first | ((go_at_call 62; (with_reducible refine (cR _).mono ?_); rintro e w1 ⟨rfl, U1⟩; have B1 := bcell U1; have Z1 := U1.size; (try simp at Z1); (try rw [Nat.add_one_le_iff] at Z1)); (try have Y1a : w.heap.size < w1.heap.size := (by omega)); (try have Y1b : w.heap.size + 1 < w1.heap.size := (by omega)); (try have Y1c : w.heap.size + 1 + 1 < w1.heap.size := (by omega)); (try have Y1d : w.heap.size + 1 + 1 + 1 < w1.heap.size := (by omega)); skip) | ((go_at_call 67; (with_reducible refine (cV _ (hrow _ (by (repeat (first | with_reducible exact Up.refl _ | with_reducible assumption | with_reducible refine Up.set ?_ (by first | exact Nat.le_refl _ | (simp only []; omega) | (simp; omega)) _ | with_reducible refine Up.alloc ?_ _ | with_reducible refine Up.drew ?_ | refine Up.trans ?_ (by with_reducible assumption)))))).mono ?_); rintro e w2 ⟨rfl, U2⟩; have B2 := bcell U2; have Z2 := U2.size; (try simp at Z2); (try rw [Nat.add_one_le_iff] at Z2)); (try have Y2a : w.heap.size < w2.heap.size := (by omega)); (try have Y2b : w.heap.size + 1 < w2.heap.size := (by omega)); (try have Y2c : w.heap.size + 1 + 1 < w2.heap.size := (by omega)); (try have Y2d : w.heap.size + 1 + 1 + 1 < w2.heap.size := (by omega)); skip))
    go_ret2
    refine ⟨rfl, ?_⟩
    (repeat (first | with_reducible exact Up.refl _ | with_reducible assumption | with_reducible refine Up.set ?_ (by first | exact Nat.le_refl _ | (simp only []; omega) | (simp; omega)) _ | with_reducible refine Up.alloc ?_ _ | with_reducible refine Up.drew ?_ | refine Up.trans ?_ (by with_reducible assumption)))
  obtain ⟨hl40, hpl⟩ := validP_at h2
  rw [h2] at cV
  by_cases h3 : 4000 < st.size
  · have HN : Hid (idxO (dataO s dict.data.toList) true st ps f t = none) := by
      unfold Hid idxO idxOk
      rw [show decide (st.size ≤ 4000) = false by simp; omega]; simp
    rw [HN.out]
    have h3' : decide (4000 < st.size) = true := by simpa using h3
    clear h1 h2 hsome
    simp only [setV] at *
    go_enter Tryz.func23, Tryz.ntmps23
    go_wp2_with (first | ((go_at_call 62; (with_reducible refine (cR _).mono ?_); rintro e w1 ⟨rfl, U1⟩; have B1 := bcell U1; have Z1 := U1.size; (try simp at Z1); (try rw [Nat.add_one_le_iff] at Z1)); (try have Y1a : w.heap.size < w1.heap.size := (by omega)); (try have Y1b : w.heap.size + 1 < w1.heap.size := (by omega)); (try have Y1c : w.heap.size + 1 + 1 < w1.heap.size := (by omega)); (try have Y1d : w.heap.size + 1 + 1 + 1 < w1.heap.size := (by omega)); skip) | ((go_at_call 67; (with_reducible refine (cV _ (hrow _ (by (repeat (first | with_reducible exact Up.refl _ | with_reducible assumption | with_reducible refine Up.set ?_ (by first | exact Nat.le_refl _ | (simp only []; omega) | (simp; omega)) _ | with_reducible refine Up.alloc ?_ _ | with_reducible refine Up.drew ?_ | refine Up.trans ?_ (by with_reducible assumption)))))).mono ?_); rintro e w2 ⟨rfl, U2⟩; have B2 := bcell U2; have Z2 := U2.size; (try simp at Z2); (try rw [Nat.add_one_le_iff] at Z2)); (try have Y2a : w.heap.size < w2.heap.size := (by omega)); (try have Y2b : w.heap.size + 1 < w2.heap.size := (by omega)); (try have Y2c : w.heap.size + 1 + 1 < w2.heap.size := (by omega)); (try have Y2d : w.heap.size + 1 + 1 + 1 < w2.heap.size := (by omega)); skip))
    go_ret2
    refine ⟨rfl, ?_⟩
    (repeat (first | with_reducible exact Up.refl _ | with_reducible assumption | with_reducible refine Up.set ?_ (by first | exact Nat.le_refl _ | (simp only []; omega) | (simp; omega)) _ | with_reducible refine Up.alloc ?_ _ | with_reducible refine Up.drew ?_ | refine Up.trans ?_ (by with_reducible assumption)))
  have h3' : st.size ≤ 4000 := by omega
  cases h4 : inB f 0 t
  · have HN : Hid (idxO (dataO s dict.data.toList) true st ps f t = none) := by unfold Hid idxO idxOk; rw [h4]; simp
    rw [h4] at cI1
    rw [HN.out]
    clear h1 h2 h4 hsome
    simp only [setV] at *
    go_enter Tryz.func23, Tryz.ntmps23
    go_wp2_with (first | ((go_at_call 62; (with_reducible refine (cR _).mono ?_); rintro e w1 ⟨rfl, U1⟩; have B1 := bcell U1; have Z1 := U1.size; (try simp at Z1); (try rw [Nat.add_one_le_iff] at Z1)); (try have Y1a : w.heap.size < w1.heap.size := (by omega)); (try have Y1b : w.heap.size + 1 < w1.heap.size := (by omega)); (try have Y1c : w.heap.size + 1 + 1 < w1.heap.size := (by omega)); (try have Y1d : w.heap.size + 1 + 1 + 1 < w1.heap.size := (by omega)); skip) | ((go_at_call 67; (with_reducible refine (cV _ (hrow _ (by (repeat (first | with_reducible exact Up.refl _ | with_reducible assumption | with_reducible refine Up.set ?_ (by first | exact Nat.le_refl _ | (simp only []; omega) | (simp; omega)) _ | with_reducible refine Up.alloc ?_ _ | with_reducible refine Up.drew ?_ | refine Up.trans ?_ (by with_reducible assumption)))))).mono ?_); rintro e w2 ⟨rfl, U2⟩; have B2 := bcell U2; have Z2 := U2.size; (try simp at Z2); (try rw [Nat.add_one_le_iff] at Z2)); (try have Y2a : w.heap.size < w2.heap.size := (by omega)); (try have Y2b : w.heap.size + 1 < w2.heap.size := (by omega)); (try have Y2c : w.heap.size + 1 + 1 < w2.heap.size := (by omega)); (try have Y2d : w.heap.size + 1 + 1 + 1 < w2.heap.size := (by omega)); skip) | (go_at_call 66; (with_reducible refine (cI1 _).mono ?_); rintro e w' ⟨rfl, rfl⟩))
    go_ret2
    refine ⟨rfl, ?_⟩
    (repeat (first | with_reducible exact Up.refl _ | with_reducible assumption | with_reducible refine Up.set ?_ (by first | exact Nat.le_refl _ | (simp only []; omega) | (simp; omega)) _ | with_reducible refine Up.alloc ?_ _ | with_reducible refine Up.drew ?_ | refine Up.trans ?_ (by with_reducible assumption)))
  rw [h4] at cI1
  cases h5 : inB t 0 2000
  · have HN : Hid (idxO (dataO s dict.data.toList) true st ps f t = none) := by unfold Hid idxO idxOk; rw [h5]; simp
    rw [h5] at cI2
    rw [HN.out]
    clear h1 h2 h4 h5 hsome
    simp only [setV] at *
    go_enter Tryz.func23, Tryz.ntmps23
    go_wp2_with (first | ((go_at_call 62; (with_reducible refine (cR _).mono ?_); rintro e w1 ⟨rfl, U1⟩; have B1 := bcell U1; have Z1 := U1.size; (try simp at Z1); (try rw [Nat.add_one_le_iff] at Z1)); (try have Y1a : w.heap.size < w1.heap.size := (by omega)); (try have Y1b : w.heap.size + 1 < w1.heap.size := (by omega)); (try have Y1c : w.heap.size + 1 + 1 < w1.heap.size := (by omega)); (try have Y1d : w.heap.size + 1 + 1 + 1 < w1.heap.size := (by omega)); skip) | ((go_at_call 67; (with_reducible refine (cV _ (hrow _ (by (repeat (first | with_reducible exact Up.refl _ | with_reducible assumption | with_reducible refine Up.set ?_ (by first | exact Nat.le_refl _ | (simp only []; omega) | (simp; omega)) _ | with_reducible refine Up.alloc ?_ _ | with_reducible refine Up.drew ?_ | refine Up.trans ?_ (by with_reducible assumption)))))).mono ?_); rintro e w2 ⟨rfl, U2⟩; have B2 := bcell U2; have Z2 := U2.size; (try simp at Z2); (try rw [Nat.add_one_le_iff] at Z2)); (try have Y2a : w.heap.size < w2.heap.size := (by omega)); (try have Y2b : w.heap.size + 1 < w2.heap.size := (by omega)); (try have Y2c : w.heap.size + 1 + 1 < w2.heap.size := (by omega)); (try have Y2d : w.heap.size + 1 + 1 + 1 < w2.heap.size := (by omega)); skip) | (go_at_call 66; (with_reducible refine (cI1 _).mono ?_); rintro e w' ⟨rfl, rfl⟩) | (go_at_call 66; (with_reducible refine (cI2 _).mono ?_); rintro e w' ⟨rfl, rfl⟩))
    go_ret2
    refine ⟨rfl, ?_⟩
    (repeat (first | with_reducible exact Up.refl _ | with_reducible assumption | with_reducible refine Up.set ?_ (by first | exact Nat.le_refl _ | (simp only []; omega) | (simp; omega)) _ | with_reducible refine Up.alloc ?_ _ | with_reducible refine Up.drew ?_ | refine Up.trans ?_ (by with_reducible assumption)))
  rw [h5] at cI2
  have HN : Hid (idxO (dataO s dict.data.toList) true st ps f t = idxR (dataO s dict.data.toList) st ps f t) := by
    unfold Hid idxO idxOk
    rw [h2, h4, h5, decide_eq_true h3']; rfl
  obtain ⟨f0, f1⟩ := inB_iff.1 h4
  obtain ⟨t0, t1⟩ := inB_iff.1 h5
  rw [HN.out]
  clear h1 h2 h4 h5 HN
  unfold idxR
  by_cases h6 : f = t
  · rw [if_pos h6]
    clear hsome hpl
    subst h6
    simp only [setV] at *
    go_enter Tryz.func23, Tryz.ntmps23
    go_wp2_with (first | ((go_at_call 62; (with_reducible refine (cR _).mono ?_); rintro e w1 ⟨rfl, U1⟩; have B1 := bcell U1; have Z1 := U1.size; (try simp at Z1); (try rw [Nat.add_one_le_iff] at Z1)); (try have Y1a : w.heap.size < w1.heap.size := (by omega)); (try have Y1b : w.heap.size + 1 < w1.heap.size := (by omega)); (try have Y1c : w.heap.size + 1 + 1 < w1.heap.size := (by omega)); (try have Y1d : w.heap.size + 1 + 1 + 1 < w1.heap.size := (by omega)); skip) | ((go_at_call 67; (with_reducible refine (cV _ (hrow _ (by (repeat (first | with_reducible exact Up.refl _ | with_reducible assumption | with_reducible refine Up.set ?_ (by first | exact Nat.le_refl _ | (simp only []; omega) | (simp; omega)) _ | with_reducible refine Up.alloc ?_ _ | with_reducible refine Up.drew ?_ | refine Up.trans ?_ (by with_reducible assumption)))))).mono ?_); rintro e w2 ⟨rfl, U2⟩; have B2 := bcell U2; have Z2 := U2.size; (try simp at Z2); (try rw [Nat.add_one_le_iff] at Z2)); (try have Y2a : w.heap.size < w2.heap.size := (by omega)); (try have Y2b : w.heap.size + 1 < w2.heap.size := (by omega)); (try have Y2c : w.heap.size + 1 + 1 < w2.heap.size := (by omega)); (try have Y2d : w.heap.size + 1 + 1 + 1 < w2.heap.size := (by omega)); skip) | (go_at_call 66; (with_reducible refine (cI1 _).mono ?_); rintro e w' ⟨rfl, rfl⟩) | (go_at_call 66; (with_reducible refine (cI2 _).mono ?_); rintro e w' ⟨rfl, rfl⟩))
    go_ret2
    refine ⟨rfl, ?_⟩
    (repeat (first | with_reducible exact Up.refl _ | with_reducible assumption | with_reducible refine Up.set ?_ (by first | exact Nat.le_refl _ | (simp only []; omega) | (simp; omega)) _ | with_reducible refine Up.alloc ?_ _ | with_reducible refine Up.drew ?_ | refine Up.trans ?_ (by with_reducible assumption)))
  rw [if_neg h6]
  rcases seekK_lt (ps := ps) (o := f) ps.length (Nat.le_refl _) with h7 | ⟨j, j1, -, j3, j4⟩
  · rw [h7, if_pos (by omega)]
    rw [h7] at cK
    clear hsome hpl
    simp only [setV] at *
    go_enter Tryz.func23, Tryz.ntmps23
    go_wp2_with (first | ((go_at_call 62; (with_reducible refine (cR _).mono ?_); rintro e w1 ⟨rfl, U1⟩; have B1 := bcell U1; have Z1 := U1.size; (try simp at Z1); (try rw [Nat.add_one_le_iff] at Z1)); (try have Y1a : w.heap.size < w1.heap.size := (by omega)); (try have Y1b : w.heap.size + 1 < w1.heap.size := (by omega)); (try have Y1c : w.heap.size + 1 + 1 < w1.heap.size := (by omega)); (try have Y1d : w.heap.size + 1 + 1 + 1 < w1.heap.size := (by omega)); skip) | ((go_at_call 67; (with_reducible refine (cV _ (hrow _ (by (repeat (first | with_reducible exact Up.refl _ | with_reducible assumption | with_reducible refine Up.set ?_ (by first | exact Nat.le_refl _ | (simp only []; omega) | (simp; omega)) _ | with_reducible refine Up.alloc ?_ _ | with_reducible refine Up.drew ?_ | refine Up.trans ?_ (by with_reducible assumption)))))).mono ?_); rintro e w2 ⟨rfl, U2⟩; have B2 := bcell U2; have Z2 := U2.size; (try simp at Z2); (try rw [Nat.add_one_le_iff] at Z2)); (try have Y2a : w.heap.size < w2.heap.size := (by omega)); (try have Y2b : w.heap.size + 1 < w2.heap.size := (by omega)); (try have Y2c : w.heap.size + 1 + 1 < w2.heap.size := (by omega)); (try have Y2d : w.heap.size + 1 + 1 + 1 < w2.heap.size := (by omega)); skip) | (go_at_call 66; (with_reducible refine (cI1 _).mono ?_); rintro e w' ⟨rfl, rfl⟩) | (go_at_call 66; (with_reducible refine (cI2 _).mono ?_); rintro e w' ⟨rfl, rfl⟩) | ((go_at_call 68; (with_reducible refine (cK _ (hrow _ (by (repeat (first | with_reducible exact Up.refl _ | with_reducible assumption | with_reducible refine Up.set ?_ (by first | exact Nat.le_refl _ | (simp only []; omega) | (simp; omega)) _ | with_reducible refine Up.alloc ?_ _ | with_reducible refine Up.drew ?_ | refine Up.trans ?_ (by with_reducible assumption)))))).mono ?_); rintro e w3 ⟨rfl, U3⟩; have B3 := bcell U3; have Z3 := U3.size; (try simp at Z3); (try rw [Nat.add_one_le_iff] at Z3)); (try have Y3a : w.heap.size < w3.heap.size := (by omega)); (try have Y3b : w.heap.size + 1 < w3.heap.size := (by omega)); (try have Y3c : w.heap.size + 1 + 1 < w3.heap.size := (by omega)); (try have Y3d : w.heap.size + 1 + 1 + 1 < w3.heap.size := (by omega)); skip))
    go_ret2
    refine ⟨rfl, ?_⟩
    (repeat (first | with_reducible exact Up.refl _ | with_reducible assumption | with_reducible refine Up.set ?_ (by first | exact Nat.le_refl _ | (simp only []; omega) | (simp; omega)) _ | with_reducible refine Up.alloc ?_ _ | with_reducible refine Up.drew ?_ | refine Up.trans ?_ (by with_reducible assumption)))
  · rw [j3, if_neg (by omega), Int.toNat_natCast]
    rw [j3] at cK
    have hgd : ps.getD j ⟨0, 0⟩ = ps[j] := by rw [List.getD_eq_getElem?_getD, List.getElem?_eq_getElem j1]; rfl
    rw [hgd]
    have cN := fun wx h => needS_any s dict st ps (.slice a ps.length ca) base j t wx hi hs h hl40 j1 hpl
    obtain ⟨g, rfl, hnc, hcm, -, hg, hcells⟩ := hsome (by omega)
    obtain ⟨x0, x1⟩ := plc_cells hcells (List.getElem?_eq_getElem j1)
    obtain ⟨-, -, q3, q4⟩ := hpl j j1
    unfold fromN
    have hge : ∀ d, needN (dataO s dict.data.toList) st ps t (ps.length - j) j (ps[j]).start = some d → t ≤ (ps[j]).start + d.length := fun d h => need_ge _ _ _ d h
    unfold maxLen at hcm
    clear hcells hsome hpl j3 hgd
    generalize (ps[j]).start = z at *
    generalize (ps[j]).place = pl at *
    cases hnd : needN (dataO s dict.data.toList) st ps t (ps.length - j) j z with
    | none =>
      rw [hnd] at cN
      unfold optS at cN
      simp only [setV, Option.getD_none, Option.isSome_none, Option.map_none] at *
      clear hnd hge
      go_enter Tryz.func23, Tryz.ntmps23
      go_wp2_with (first | ((go_at_call 62; (with_reducible refine (cR _).mono ?_); rintro e w1 ⟨rfl, U1⟩; have B1 := bcell U1; have Z1 := U1.size; (try simp at Z1); (try rw [Nat.add_one_le_iff] at Z1)); (try have Y1a : w.heap.size < w1.heap.size := (by omega)); (try have Y1b : w.heap.size + 1 < w1.heap.size := (by omega)); (try have Y1c : w.heap.size + 1 + 1 < w1.heap.size := (by omega)); (try have Y1d : w.heap.size + 1 + 1 + 1 < w1.heap.size := (by omega)); skip) | ((go_at_call 67; (with_reducible refine (cV _ (hrow _ (by (repeat (first | with_reducible exact Up.refl _ | with_reducible assumption | with_reducible refine Up.set ?_ (by first | exact Nat.le_refl _ | (simp only []; omega) | (simp; omega)) _ | with_reducible refine Up.alloc ?_ _ | with_reducible refine Up.drew ?_ | refine Up.trans ?_ (by with_reducible assumption)))))).mono ?_); rintro e w2 ⟨rfl, U2⟩; have B2 := bcell U2; have Z2 := U2.size; (try simp at Z2); (try rw [Nat.add_one_le_iff] at Z2)); (try have Y2a : w.heap.size < w2.heap.size := (by omega)); (try have Y2b : w.heap.size + 1 < w2.heap.size := (by omega)); (try have Y2c : w.heap.size + 1 + 1 < w2.heap.size := (by omega)); (try have Y2d : w.heap.size + 1 + 1 + 1 < w2.heap.size := (by omega)); skip) | (go_at_call 66; (with_reducible refine (cI1 _).mono ?_); rintro e w' ⟨rfl, rfl⟩) | (go_at_call 66; (with_reducible refine (cI2 _).mono ?_); rintro e w' ⟨rfl, rfl⟩) | ((go_at_call 68; (with_reducible refine (cK _ (hrow _ (by (repeat (first | with_reducible exact Up.refl _ | with_reducible assumption | with_reducible refine Up.set ?_ (by first | exact Nat.le_refl _ | (simp only []; omega) | (simp; omega)) _ | with_reducible refine Up.alloc ?_ _ | with_reducible refine Up.drew ?_ | refine Up.trans ?_ (by with_reducible assumption)))))).mono ?_); rintro e w3 ⟨rfl, U3⟩; have B3 := bcell U3; have Z3 := U3.size; (try simp at Z3); (try rw [Nat.add_one_le_iff] at Z3)); (try have Y3a : w.heap.size < w3.heap.size := (by omega)); (try have Y3b : w.heap.size + 1 < w3.heap.size := (by omega)); (try have Y3c : w.heap.size + 1 + 1 < w3.heap.size := (by omega)); (try have Y3d : w.heap.size + 1 + 1 + 1 < w3.heap.size := (by omega)); skip) | ((go_at_call 69; (with_reducible refine (cN _ (hrow _ (by (repeat (first | with_reducible exact Up.refl _ | with_reducible assumption | with_reducible refine Up.set ?_ (by first | exact Nat.le_refl _ | (simp only []; omega) | (simp; omega)) _ | with_reducible refine Up.alloc ?_ _ | with_reducible refine Up.drew ?_ | refine Up.trans ?_ (by with_reducible assumption)))))).mono ?_); rintro e w4 ⟨rfl, U4⟩; have B4 := bcell U4; have Z4 := U4.size; (try simp at Z4); (try rw [Nat.add_one_le_iff] at Z4)); (try have Y4a : w.heap.size < w4.heap.size := (by omega)); (try have Y4b : w.heap.size + 1 < w4.heap.size := (by omega)); (try have Y4c : w.heap.size + 1 + 1 < w4.heap.size := (by omega)); (try have Y4d : w.heap.size + 1 + 1 + 1 < w4.heap.size := (by omega)); skip))
      go_ret2
      refine ⟨rfl, ?_⟩
      (repeat (first | with_reducible exact Up.refl _ | with_reducible assumption | with_reducible refine Up.set ?_ (by first | exact Nat.le_refl _ | (simp only []; omega) | (simp; omega)) _ | with_reducible refine Up.alloc ?_ _ | with_reducible refine Up.drew ?_ | refine Up.trans ?_ (by with_reducible assumption)))
    | some d =>
      have hge2 := hge d hnd
      rw [hnd] at cN
      unfold optS at cN
      simp only [setV, Option.getD_some, Option.isSome_some, Option.map_some] at *
      clear hnd hge
      have hzd := bs_size d
      have HX : Hid ((bs d).extract (f - z).toNat (t - z).toNat = bs ((d.drop (f - z).toNat).take ((t - z).toNat - (f - z).toNat))) := bs_ext _ _ _
      go_enter Tryz.func23, Tryz.ntmps23
      go_wp2_with (first | ((go_at_call 62; (with_reducible refine (cR _).mono ?_); rintro e w1 ⟨rfl, U1⟩; have B1 := bcell U1; have Z1 := U1.size; (try simp at Z1); (try rw [Nat.add_one_le_iff] at Z1)); (try have Y1a : w.heap.size < w1.heap.size := (by omega)); (try have Y1b : w.heap.size + 1 < w1.heap.size := (by omega)); (try have Y1c : w.heap.size + 1 + 1 < w1.heap.size := (by omega)); (try have Y1d : w.heap.size + 1 + 1 + 1 < w1.heap.size := (by omega)); skip) | ((go_at_call 67; (with_reducible refine (cV _ (hrow _ (by (repeat (first | with_reducible exact Up.refl _ | with_reducible assumption | with_reducible refine Up.set ?_ (by first | exact Nat.le_refl _ | (simp only []; omega) | (simp; omega)) _ | with_reducible refine Up.alloc ?_ _ | with_reducible refine Up.drew ?_ | refine Up.trans ?_ (by with_reducible assumption)))))).mono ?_); rintro e w2 ⟨rfl, U2⟩; have B2 := bcell U2; have Z2 := U2.size; (try simp at Z2); (try rw [Nat.add_one_le_iff] at Z2)); (try have Y2a : w.heap.size < w2.heap.size := (by omega)); (try have Y2b : w.heap.size + 1 < w2.heap.size := (by omega)); (try have Y2c : w.heap.size + 1 + 1 < w2.heap.size := (by omega)); (try have Y2d : w.heap.size + 1 + 1 + 1 < w2.heap.size := (by omega)); skip) | (go_at_call 66; (with_reducible refine (cI1 _).mono ?_); rintro e w' ⟨rfl, rfl⟩) | (go_at_call 66; (with_reducible refine (cI2 _).mono ?_); rintro e w' ⟨rfl, rfl⟩) | ((go_at_call 68; (with_reducible refine (cK _ (hrow _ (by (repeat (first | with_reducible exact Up.refl _ | with_reducible assumption | with_reducible refine Up.set ?_ (by first | exact Nat.le_refl _ | (simp only []; omega) | (simp; omega)) _ | with_reducible refine Up.alloc ?_ _ | with_reducible refine Up.drew ?_ | refine Up.trans ?_ (by with_reducible assumption)))))).mono ?_); rintro e w3 ⟨rfl, U3⟩; have B3 := bcell U3; have Z3 := U3.size; (try simp at Z3); (try rw [Nat.add_one_le_iff] at Z3)); (try have Y3a : w.heap.size < w3.heap.size := (by omega)); (try have Y3b : w.heap.size + 1 < w3.heap.size := (by omega)); (try have Y3c : w.heap.size + 1 + 1 < w3.heap.size := (by omega)); (try have Y3d : w.heap.size + 1 + 1 + 1 < w3.heap.size := (by omega)); skip) | ((go_at_call 69; (with_reducible refine (cN _ (hrow _ (by (repeat (first | with_reducible exact Up.refl _ | with_reducible assumption | with_reducible refine Up.set ?_ (by first | exact Nat.le_refl _ | (simp only []; omega) | (simp; omega)) _ | with_reducible refine Up.alloc ?_ _ | with_reducible refine Up.drew ?_ | refine Up.trans ?_ (by with_reducible assumption)))))).mono ?_); rintro e w4 ⟨rfl, U4⟩; have B4 := bcell U4; have Z4 := U4.size; (try simp at Z4); (try rw [Nat.add_one_le_iff] at Z4)); (try have Y4a : w.heap.size < w4.heap.size := (by omega)); (try have Y4b : w.heap.size + 1 < w4.heap.size := (by omega)); (try have Y4c : w.heap.size + 1 + 1 < w4.heap.size := (by omega)); (try have Y4d : w.heap.size + 1 + 1 + 1 < w4.heap.size := (by omega)); skip))
      have hU4 : Up w w4 := by (repeat (first | with_reducible exact Up.refl _ | with_reducible assumption | with_reducible refine Up.set ?_ (by first | exact Nat.le_refl _ | (simp only []; omega) | (simp; omega)) _ | with_reducible refine Up.alloc ?_ _ | with_reducible refine Up.drew ?_ | refine Up.trans ?_ (by with_reducible assumption)))
      have c1 := (hU4.cell (p := ⟨g, j * 2 + 1, none⟩) hg).trans x1
      have hg4 := Nat.lt_of_lt_of_le hg hU4.size
      refine wp_region_up 16 (by kernel_rfl) (by kernel_rfl) ?_
      simp only [List.take, List.drop]
      repeat (refine wpUp_step (fun K hK => ?_); go_simp; (try simp only [↓IntWalk.iteOmega]); first
        | (refine hK _ _ ?_; clear hK K)
        | (apply stepU_c
           · intro wq hwq; (have hbq := bcell hwq; (repeat (first | refine fills_no (by rfl) ?_ | refine fills_yes (by rfl) (fun vq hvq => ?_))); simp only [List.filter_nil, fills]; unfold upAt; (try ((have e1 := (hwq.cell (p := ⟨g, j * 2 + 1, none⟩) hg4).trans c1))); go_simp; (try go_bits); (try simp only [↓IntWalk.iteOmega]); (try (rw [dif_pos (by omega)]; go_simp; try go_bits)); first | exact upOut_value)
           go_simp; refine hK _ _ ?_; clear hK K))
      refine wpUp_nil (fun wq hwq => ?_)
      simp only [fills]
      go_wp2
      go_ret2
      refine ⟨by rw [HX.out]; rfl, ?_⟩
      (repeat (first | with_reducible exact Up.refl _ | with_reducible assumption | with_reducible refine Up.set ?_ (by first | exact Nat.le_refl _ | (simp only []; omega) | (simp; omega)) _ | with_reducible refine Up.alloc ?_ _ | with_reducible refine Up.drew ?_ | refine Up.trans ?_ (by with_reducible assumption)))

end Go.Proofs.YtekbbnkkninolaaGreat

