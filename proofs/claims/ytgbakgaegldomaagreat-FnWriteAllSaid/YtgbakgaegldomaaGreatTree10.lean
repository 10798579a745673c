/- Walk of the program's greedy. Conditions: what is known is valid and can be read; the data fits. -/
import Derived.Test.YtgbakgaegldomaaGreatTree9
import Derived.Test.YtgbakgaegldomaaGreatTree7
import Derived.Test.YtgbakgaegldomaaGreatGw
namespace Go.Proofs.YtgbakgaegldomaaGreat
set_option linter.unusedVariables false
set_option linter.unusedSimpArgs false
open Go Go.RowKit

theorem TreeAt.base {lo lo' tb : Nat} {k : KnD} {vp vn vi : Value} {w : World} (h : TreeAt lo tb k vp vn vi w) (hl : lo' ≤ lo) : TreeAt lo' tb k vp vn vi w := ⟨h.box, Nat.le_trans hl h.low, ownsRow_base h.prs hl, ownsRow_base h.nod hl, ownsRow_base h.idx hl⟩
/-- The memory of greedy: the tree, and the row of codes. -/
structure GiW (w : World) (tb : Nat) (k : KnD) (vp vn vi vc : Value) (acc : List Int) (wr : World) : Prop where
  tree : TreeAt w.heap.size tb k vp vn vi wr
  own : ownI wr w.heap.size vc acc
  sep : ∀ b, vc.ownBlock = some b → ¬ Own tb vp vn vi b
  up : Up w wr
theorem GiW.upd {w : World} {tb : Nat} {k : KnD} {vp vn vi vc : Value} {acc : List Int} {wr w' : World} (h : GiW w tb k vp vn vi vc acc wr) (hu : Up wr w') : GiW w tb k vp vn vi vc acc w' := ⟨h.tree.up hu, ownsRow_up h.own hu, h.sep, h.up.trans hu⟩
theorem GiW.tr {w : World} {tb : Nat} {k k' : KnD} {vp vn vi vc : Value} {acc : List Int} {wr w' : World} (h : GiW w tb k vp vn vi vc acc wr) (hp : TrPost w.heap.size tb k' vp vn vi wr w') : ∃ vp' vn' vi', GiW w tb k' vp' vn' vi' vc acc w' := by
  obtain ⟨vp', vn', vi', hT, hF, hO⟩ := hp
  refine ⟨vp', vn', vi', hT, hF.row h.own h.sep, ?_, Fr.upto h.up hF (fun b hb => (h.tree.own_lo b hb).1)⟩
  intro b hb ho
  rcases hO b ho with h1 | h1
  · exact h.sep b hb h1
  · have := (h.own.lt b hb).2; omega
theorem GiW.app {w : World} {tb : Nat} {k : KnD} {vp vn vi vc : Value} {acc : List Int} {wr w' : World} (h : GiW w tb k vp vn vi vc acc wr) {o : Obj} {x : Int} {v' : Value} (hv : w'.ownsRow w.heap.size 3 1 v' (acc.length + 1) (cellsI acc ++ [.int .i64 x])) (hg : (wr.alloc o).grownBy w' vc.ownBlock) (hn : NewOr (wr.alloc o).heap.size vc v') : GiW w tb k vp vn vi v' (acc ++ [x]) w' := by
  have hA := h.upd (Up.alloc (Up.refl wr) o)
  have hFr : Fr (fun b => vc.ownBlock = some b) (wr.alloc o) w' := (Fr.refl _ _).gr hg (fun b hb => .inl hb)
  refine ⟨hA.tree.fr hFr (fun b hb e => hA.sep b e hb), ?_, ?_, hA.up.grown hg (fun b hb => (hA.own.lt b hb).1)⟩
  · rw [← cellsI_snoc] at hv
    exact ownsRow_n hv (by simp)
  · intro b hb ho
    rcases hn b hb with h1 | h1
    · exact hA.sep b h1 ho
    · have := (hA.tree.own_lo b ho).2; omega
/-- The plain state at a round's beginning, and behind the clear code of a round. -/
structure GiD (T : List Int) (k0 : KnD) (m : Nat) (k : KnD) (d : List UInt8) (acc : List Int) : Prop where
  len : d.length ≤ m
  le : d.length ≤ 2000
  sum : acc.length + 2 * d.length ≤ 4001
  tot : acc ++ (if k.full = true ∧ d ≠ [] then (k.c : Int) :: greedyN m k.cleared d else greedyN m k d) = T
  ok : k.Ok
  set : k.set = k0.set
  lit : ∀ b ∈ d, b.toNat < k0.c
structure GiE (T : List Int) (k0 : KnD) (m : Nat) (k : KnD) (d : List UInt8) (acc : List Int) : Prop where
  len : d.length ≤ m
  le : d.length ≤ 2000
  sum : acc.length + 2 * d.length ≤ 4002
  tot : acc ++ greedyN m k d = T
  ok : k.Ok
  set : k.set = k0.set
  lit : ∀ b ∈ d, b.toNat < k0.c
theorem c_of {k k0 : KnD} (h : k.set = k0.set) : k.c = k0.c := by unfold KnD.c; rw [h]
theorem GiD.nil {T : List Int} {k0 : KnD} {m : Nat} {k : KnD} {acc : List Int} (h : GiD T k0 m k [] acc) : acc ++ [(clr k0.set : Int) + 1] = T := by
  have h1 := h.tot
  rw [if_neg (fun h => h.2 rfl), greedyN_nil, c_of h.set] at h1
  exact h1
theorem GiD.full {T : List Int} {k0 : KnD} {m : Nat} {k : KnD} {d : List UInt8} {acc : List Int} (h : GiD T k0 m k d acc) (hd : d ≠ []) (hf : k.full = true) : GiE T k0 m k.cleared d (acc ++ [(clr k0.set : Int)]) := by
  have h1 := h.tot
  rw [if_pos ⟨hf, hd⟩, c_of h.set] at h1
  exact ⟨h.len, h.le, by have := h.sum; simp; omega, by rw [List.append_assoc]; exact h1, KnD.cleared_ok h.ok, h.set, h.lit⟩
theorem GiD.more {T : List Int} {k0 : KnD} {m : Nat} {k : KnD} {d : List UInt8} {acc : List Int} (h : GiD T k0 m k d acc) (hf : k.full = false) : GiE T k0 m k d acc := by
  have h1 := h.tot
  rw [if_neg (fun h => by rw [hf] at h; cases h.1)] at h1
  exact ⟨h.len, h.le, by have := h.sum; omega, h1, h.ok, h.set, h.lit⟩
theorem GiE.step {T : List Int} {k0 : KnD} {m : Nat} {k : KnD} {d : List UInt8} {acc : List Int} (h : GiE T k0 m k d acc) (hd : d ≠ []) :
    k.follows (k.find (k.longest d)) = true ∧ ¬ k.find (k.longest d) = (k.c : Int) ∧ 1 ≤ (k.longest d).length ∧ (k.longest d).length ≤ d.length ∧ GiD T k0 (m - 1) (k.after (k.find (k.longest d))) (d.drop (k.longest d).length) (acc ++ [k.find (k.longest d)]) := by
  have hll := KnD.longest_le (k := k) d
  have hlp := KnD.longest_pos (k := k) hd
  have hl : ∀ b ∈ d, b.toNat < k.c := by rw [c_of h.set]; exact h.lit
  obtain ⟨hfw, -⟩ := KnD.find_any h.ok hd hl
  have hpos : 0 < d.length := List.length_pos_iff.2 hd
  have h1 := h.len; have h2 := h.le; have h3 := h.sum; have h4 := h.tot
  obtain ⟨n, rfl⟩ : ∃ n, m = n + 1 := ⟨m - 1, by omega⟩
  refine ⟨hfw, (KnD.fol_ne h.ok hfw).1, hlp, hll, by rw [List.length_drop]; omega, by rw [List.length_drop]; omega, by rw [List.length_drop, List.length_append]; simp; omega, ?_, KnD.after_ok h.ok hfw, h.set, fun b hb => h.lit b (List.mem_of_mem_drop hb)⟩
  rw [greedyN, if_neg hd] at h4
  rw [← h4, List.append_assoc]
  rfl
theorem GiD.start {k : KnD} {d : List UInt8} (hk : k.Ok) (hd : d.length ≤ 2000) (hl : ∀ b ∈ d, b.toNat < k.c) : GiD (greedy k d) k d.length k.cleared d [(clr k.set : Int)] := by
  have hf : k.cleared.full = false := by
    unfold KnD.full KnD.cleared
    have h0 := hk.base0
    have : ¬ k.base < ((k.ps.take k.base.toNat).length : Int) := by rw [List.length_take]; omega
    rw [Bool.and_eq_false_iff]; right
    exact decide_eq_false this
  refine ⟨Nat.le_refl _, hd, by simp; omega, ?_, KnD.cleared_ok hk, rfl, hl⟩
  rw [if_neg (fun h => by rw [hf] at h; cases h.1)]
  rfl
def RelGi (T : List Int) (k0 : KnD) (tb : Nat) (w : World) (t vc : Value) (wr : World) : Prop := ∃ (k : KnD) (d : List UInt8) (vp vn vi : Value) (m : Nat) (acc : List Int), t = .string (bs d) ∧ GiD T k0 m k d acc ∧ GiW w tb k vp vn vi vc acc wr

set_option maxRecDepth 100000 in
set_option maxHeartbeats 8000000 in
theorem greedy_any (k : KnD) (v : Value) (lo : Nat) (d : ByteArray) (w : World) (hk : k.Ok) (hr : RdP lo w v k.ps) (hd : d.size ≤ 2000) (hl : ∀ b ∈ d.data.toList, b.toNat < k.c) :
    Calls Tryz.prog 88  #[kV k v, .string d] w (IntsPost (greedy k d.data.toList) w) := by
  obtain ⟨i0, hi, hz0, hz1, hz2⟩ := info_parts infoIntG
  have hkt := hk.tr
  have cK := fun w => clearI_any k.set w hk.set
  have cE := fun w => endI_any k.set w hk.set
  obtain ⟨hb2, hb3, hb4⟩ := clr_le hk.set
  have hrt := fun (wq : World) (hu : Up w wq) => hr.up hu
  have cN := fun wq hr => newTree_any k v lo wq hk hr
  have HK := Lib.hid hk
  have hkb := And.intro hk.base0 hk.base1
  obtain ⟨a, cap, rfl, -, -, -, -⟩ := hr
  have HLl := Lib.hid hl
  have hdl := ba_len d
  clear hk hl
  simp only [kV] at *
  go_enter Tryz.func88, Tryz.ntmps88
  go_wp2
  refine wp_region_upf 6 (by kernel_rfl) (by kernel_rfl) ?_
  simp only [List.take, List.drop]
  repeat (refine wpUp_step (fun K hK => ?_); go_simp; (try simp only [↓IntWalk.iteOmega]); first
    | (refine hK _ _ ?_; clear hK K)
    | (apply stepU_c
       · intro wq hwq; (have hbq := bcell hwq; (repeat (first | refine fills_no (by rfl) ?_ | refine fills_yes (by rfl) (fun vq hvq => ?_))); simp only [List.filter_nil, fills]; unfold upAt; go_simp; (try go_bits); (try simp only [↓IntWalk.iteOmega]); (try (rw [dif_pos (by omega)]; go_simp; try go_bits)); first | exact upOut_value | (apply upOut_call; (go_at_call 47; exact cK _)) | (apply upOut_eq; (go_at_call 47; exact cK _)) | (apply upOut_call; (go_at_call 76; exact cE _)) | (apply upOut_eq; (go_at_call 76; exact cE _)))
       go_simp; refine hK _ _ ?_; clear hK K))
  refine wpUp_nil (fun wq hwq => ?_)
  simp only [fills]
  go_wp2
  rw [onlyN_normal]
  have hU0 : Up w wq := by (repeat (first | with_reducible exact Up.refl _ | with_reducible assumption | with_reducible refine Up.set ?_ (by first | exact Nat.le_refl _ | (simp only []; omega) | (simp; omega)) _ | with_reducible refine Up.alloc ?_ _ | with_reducible refine Up.drew ?_ | refine Up.trans ?_ (by with_reducible assumption)))
  have hkn : KnAt w.heap.size k (.slice a k.ps.length cap) wq := box_up hwq (MapKept.heap_alloc w _).1
  obtain ⟨b0, r0, r1, r2, r3, r4, r5⟩ := hkn.cells
  clear hkn hwq
  go_wp2_with fail
  with_reducible refine (cN _ (hrt _ hU0)).mono ?_
  rintro e w2 ⟨tb, vp, vn, vi, rfl, hT2, U2⟩
  have hT2' := hT2.base (lo' := w.heap.size) hU0.size
  have htb2 := hT2.lt
  have hU2 := hU0.trans U2
  have cF := followC_any w.heap.size tb k vp vn vi w2 hT2' hkt hkb.1 hkb.2
  rw [show k.c = clr k.set from rfl] at cF
  have HT2 := Lib.hid (And.intro hT2' hU2)
  clear hT2 hT2' hU2 cN hrt
  go_wp2_with fail
  with_reducible refine cF.mono ?_
  rintro e w3 ⟨⟨vv, rfl⟩, hP3⟩
  obtain ⟨vp3, vn3, vi3, hT3, hF3, -⟩ := hP3
  have hU3 := Fr.upto HT2.out.2 hF3 (fun b hb => (HT2.out.1.own_lo b hb).1)
  have htb3 := hT3.lt
  have hW3 : ∀ (vc : Value), vc = .slice (some ⟨w3.heap.size, 0, none⟩) 1 1 → GiW w tb k.cleared vp3 vn3 vi3 vc [(clr k.set : Int)] (w3.alloc (.cells #[.int .i64 (clr k.set)] 3)) := fun vc e => by
    subst e
    exact ⟨hT3.up (Up.alloc (Up.refl _) _), own_made1 w3 hU3.size, fun b hb ho => by have := (hT3.own_lo b ho).2; simp only [Value.ownBlock, Option.some.injEq] at hb; omega, hU3.alloc _⟩
  have HW3 := Lib.hid (hW3 _ rfl)
  clear hT3 hF3 hU3 hW3
  have HL : Hid (d = bs d.data.toList) := (bs_self d).symm
  generalize d.data.toList = L at *
  go_wp2
  go_loopw [1, 8] (fun t out wr => RelGi (greedy k L) k tb w t out wr) (fun t _ _ => slen t)
  case atStart =>
    exact ⟨k.cleared, L, vp3, vn3, vi3, L.length, _, congrArg Value.string HL.out, GiD.start HK.out (by omega) HLl.out, HW3.out⟩
  case round =>
    clear HL HW3 HT2 HLl hdl hd
    obtain ⟨k1, d, vp, vn, vi, m, acc, rfl, hD, hW⟩ := hrel
    obtain ⟨ac, cc, rfl⟩ := ownsRow_shape hW.own
    have hsum := hD.sum
    have hle := hD.le
    by_cases hde : d = []
    · subst hde
      have HT := Lib.hid hD.nil
      have HW := Lib.hid hW
      clear hD hW
      rw [show bs ([] : List UInt8) = (⟨#[]⟩ : ByteArray) from rfl]
      go_wp2_with (at_builtin; (refine wpList_append2 rfl _ _ 75 rfl w.heap.size 3 i0 (.int .i64 0) 1 8 Tryz.underlying75 hi hz0 hz1 hz2 rfl (by decide) _ _ _ rfl (ownsRow_up (HW.out).own (Up.alloc (Up.refl _) _)) ⟨(wr).heap.size, 0, none⟩ 1 1 [.int .i64 ((clr k.set : Int) + 1)] rfl rfl (new_cells [.int .i64 ((clr k.set : Int) + 1)] _ rfl) (by intro u hu; simp at hu; subst hu; rfl) (by unfold maxLen; omega) (by omega) (by have := (HW.out).up.size; simp; omega) ?_; rintro va wa hva hga hna; obtain ⟨aa, ca, rfl⟩ := ownsRow_shape hva; have HA := Lib.hid (And.intro hva (And.intro hga hna)); clear hva hga hna))
      go_ret
      have h4 := HW.out.app HA.out.1 HA.out.2.1 HA.out.2.2
      exact ⟨_, rfl, (by have := h4.own; rw [HT.out] at this; exact this), h4.up⟩
    · have HNE : (bs d).toList.isEmpty = false := by rw [Lib.toList_data, bs_data]; cases d with | nil => exact absurd rfl hde | cons _ _ => rfl
      have hpos : 0 < d.length := List.length_pos_iff.2 hde
      have hpl1 := hD.ok.nums.2.2.2.1
      obtain ⟨ap, cp, rfl⟩ := hW.tree.shape
      have cQ := fun w => fullI_any k1.set k1.base k1.last ap k1.ps.length cp w hD.ok.set (by omega)
      rw [fullN_eq] at cQ
      simp only [knV] at cQ
      have htb := hW.tree.lt
      obtain ⟨c0, c1, c2, c3, c4, c5, c6, c7⟩ := hW.tree.cells
      have hset := hD.set
      have hkt1 := hD.ok.tr
      have hb01 := And.intro hD.ok.base0 hD.ok.base1
      have HD := Lib.hid hD
      have HW := Lib.hid hW
      have HDE := Lib.hid hde
      clear hD hW hde
      by_cases hf : k1.full = true
      · rw [hf] at cQ
        have cF := fun wq hT => followC_any w.heap.size tb k1 (.slice ap k1.ps.length cp) vn vi wq hT hkt1 hb01.1 hb01.2
        rw [show k1.c = clr k.set from c_of hset] at cF
        have HE := Lib.hid (HD.out.full HDE.out hf)
        clear hf hset
        go_wp2_with (first | (go_at_call 46; (with_reducible refine (cQ _).mono ?_); rintro e w6 ⟨rfl, U6⟩; have B6 := bcell U6; have Z6 := U6.size; (try simp at Z6); (try rw [Nat.add_one_le_iff] at Z6)) | fail)
        with_reducible refine (cF _ (HW.out.upd U6).tree).mono ?_
        rintro e w7 ⟨⟨vv, rfl⟩, hP7⟩
        obtain ⟨vp7, vn7, vi7, hW7⟩ := (HW.out.upd U6).tr hP7
        have HW7 := Lib.hid hW7
        clear hP7 hW7 B6 Z6 c0 c1 c2 c3 c4 c5 c6 c7
        go_wp2_with (at_builtin; (refine wpList_append2 rfl _ _ 75 rfl w.heap.size 3 i0 (.int .i64 0) 1 8 Tryz.underlying75 hi hz0 hz1 hz2 rfl (by decide) _ _ _ rfl (ownsRow_up (HW7.out).own (Up.alloc (Up.refl _) _)) ⟨(w7).heap.size, 0, none⟩ 1 1 [.int .i64 (clr k.set : Int)] rfl rfl (new_cells [.int .i64 (clr k.set : Int)] _ rfl) (by intro u hu; simp at hu; subst hu; rfl) (by unfold maxLen; omega) (by omega) (by have := (HW7.out).up.size; simp; omega) ?_; rintro va wa hva hga hna; obtain ⟨aa, ca, rfl⟩ := ownsRow_shape hva; have HA := Lib.hid (And.intro hva (And.intro hga hna)); clear hva hga hna); have HW8 := Lib.hid (HW7.out.app HA.out.1 HA.out.2.1 HA.out.2.2); clear HA)
        generalize acc ++ [(clr k.set : Int)] = acc2 at *
        obtain ⟨hfw, hxc, hlp, hll, hD9⟩ := HE.out.step HDE.out
        have hok2 := HE.out.ok
        have hle2 := HE.out.le
        have hsum2 := HE.out.sum
        have cL := fun wq hT => longest_any w.heap.size tb k1.cleared vp7 vn7 vi7 (bs d) wq hT hok2 (by rw [bs_size]; omega) (by rw [bs_size]; omega) (by rw [bs_data, c_of HE.out.set]; exact HE.out.lit)
        rw [bs_data] at cL
        have cG := fun wq hT => followW_any w.heap.size tb k1.cleared vp7 vn7 vi7 (k1.cleared.find (k1.cleared.longest d)) wq hT hok2 hxc hfw
        have hbd : (bs d).extract (k1.cleared.longest d).length d.length = bs (d.drop (k1.cleared.longest d).length) := by rw [bs_ext]; congr 1; exact List.take_of_length_le (by rw [List.length_drop]; omega)
        have hsz := bs_size d
        have HD9 := Lib.hid hD9
        have HBD := Lib.hid hbd
        clear hD9 hbd hfw hxc hok2 HE
        generalize hx : k1.cleared.find (k1.cleared.longest d) = x at *
        generalize hnl : (k1.cleared.longest d).length = n1 at *
        generalize hka : k1.cleared.after x = k9 at *
        clear hx hnl hka
        go_wp2_with fail
        with_reducible refine (cL _ HW8.out.tree).mono ?_
        rintro e w9 ⟨rfl, U9⟩
        go_wp2_with fail
        with_reducible refine (cG _ (HW8.out.upd U9).tree).mono ?_
        rintro e w10 ⟨⟨vv, rfl⟩, hP10⟩
        obtain ⟨vp10, vn10, vi10, hW10⟩ := (HW8.out.upd U9).tr hP10
        have HW10 := Lib.hid hW10
        clear hP10 hW10
        go_wp2_with (at_builtin; (refine wpList_append2 rfl _ _ 75 rfl w.heap.size 3 i0 (.int .i64 0) 1 8 Tryz.underlying75 hi hz0 hz1 hz2 rfl (by decide) _ _ _ rfl (ownsRow_up (HW10.out).own (Up.alloc (Up.refl _) _)) ⟨(w10).heap.size, 0, none⟩ 1 1 [.int .i64 x] rfl rfl (new_cells [.int .i64 x] _ rfl) (by intro u hu; simp at hu; subst hu; rfl) (by unfold maxLen; omega) (by omega) (by have := (HW10.out).up.size; simp; omega) ?_; rintro va wa hva hga hna; obtain ⟨aa, ca, rfl⟩ := ownsRow_shape hva; have HA := Lib.hid (And.intro hva (And.intro hga hna)); clear hva hga hna))
        go_roundw
        case rel => exact ⟨k9, d.drop n1, vp10, vn10, vi10, m - 1, acc2 ++ [x], by rw [HBD.out], HD9.out, (HW10.out.app HA.out.1 HA.out.2.1 HA.out.2.2)⟩
        case measure =>
          simp only [slen]
          rw [HBD.out, bs_size, bs_size, List.length_drop]; omega

      · have hff : k1.full = false := by simpa using hf
        rw [hff] at cQ
        have HE := Lib.hid (HD.out.more hff)
        clear hf hset hff
        go_wp2_with (first | ((go_at_call 46; (with_reducible refine (cQ _).mono ?_); rintro e w6 ⟨rfl, U6⟩; have B6 := bcell U6; have Z6 := U6.size; (try simp at Z6); (try rw [Nat.add_one_le_iff] at Z6)); have HW8 := Lib.hid (HW.out.upd U6); clear B6 Z6 c0 c1 c2 c3 c4 c5 c6 c7) | fail)
        obtain ⟨hfw, hxc, hlp, hll, hD9⟩ := HE.out.step HDE.out
        have hok2 := HE.out.ok
        have hle2 := HE.out.le
        have hsum2 := HE.out.sum
        have cL := fun wq hT => longest_any w.heap.size tb k1 (.slice ap k1.ps.length cp) vn vi (bs d) wq hT hok2 (by rw [bs_size]; omega) (by rw [bs_size]; omega) (by rw [bs_data, c_of HE.out.set]; exact HE.out.lit)
        rw [bs_data] at cL
        have cG := fun wq hT => followW_any w.heap.size tb k1 (.slice ap k1.ps.length cp) vn vi (k1.find (k1.longest d)) wq hT hok2 hxc hfw
        have hbd : (bs d).extract (k1.longest d).length d.length = bs (d.drop (k1.longest d).length) := by rw [bs_ext]; congr 1; exact List.take_of_length_le (by rw [List.length_drop]; omega)
        have hsz := bs_size d
        have HD9 := Lib.hid hD9
        have HBD := Lib.hid hbd
        clear hD9 hbd hfw hxc hok2 HE
        generalize hx : k1.find (k1.longest d) = x at *
        generalize hnl : (k1.longest d).length = n1 at *
        generalize hka : k1.after x = k9 at *
        clear hx hnl hka
        go_wp2_with fail
        with_reducible refine (cL _ HW8.out.tree).mono ?_
        rintro e w9 ⟨rfl, U9⟩
        go_wp2_with fail
        with_reducible refine (cG _ (HW8.out.upd U9).tree).mono ?_
        rintro e w10 ⟨⟨vv, rfl⟩, hP10⟩
        obtain ⟨vp10, vn10, vi10, hW10⟩ := (HW8.out.upd U9).tr hP10
        have HW10 := Lib.hid hW10
        clear hP10 hW10
        go_wp2_with (at_builtin; (refine wpList_append2 rfl _ _ 75 rfl w.heap.size 3 i0 (.int .i64 0) 1 8 Tryz.underlying75 hi hz0 hz1 hz2 rfl (by decide) _ _ _ rfl (ownsRow_up (HW10.out).own (Up.alloc (Up.refl _) _)) ⟨(w10).heap.size, 0, none⟩ 1 1 [.int .i64 x] rfl rfl (new_cells [.int .i64 x] _ rfl) (by intro u hu; simp at hu; subst hu; rfl) (by unfold maxLen; omega) (by omega) (by have := (HW10.out).up.size; simp; omega) ?_; rintro va wa hva hga hna; obtain ⟨aa, ca, rfl⟩ := ownsRow_shape hva; have HA := Lib.hid (And.intro hva (And.intro hga hna)); clear hva hga hna))
        go_roundw
        case rel => exact ⟨k9, d.drop n1, vp10, vn10, vi10, m - 1, acc ++ [x], by rw [HBD.out], HD9.out, (HW10.out.app HA.out.1 HA.out.2.1 HA.out.2.2)⟩
        case measure =>
          simp only [slen]
          rw [HBD.out, bs_size, bs_size, List.length_drop]; omega


end Go.Proofs.YtgbakgaegldomaaGreat
