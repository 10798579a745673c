/- Walk of the program's follow, which goes on behind a code. Conditions: the tree lies in memory, what is known is valid, the code can follow or is the clear code. -/
import Derived.Test.YtiiahjnfbhcgmaaGreatDoorTree5
import Derived.Test.YtiiahjnfbhcgmaaGreatDoorTree6
import Derived.Test.YtiiahjnfbhcgmaaGreatDoorFu
namespace Go.Proofs.YtiiahjnfbhcgmaaGreatDoor
set_option linter.unusedVariables false
set_option linter.unusedSimpArgs false
open Go Go.RowKit

/-- The last code is stored: nothing else of the tree turns. -/
theorem TreeAt.last {lo tb : Nat} {k k' : KnD} {vp vn vi : Value} {w : World} (h : TreeAt lo tb k vp vn vi w) (x : Int) (hs : k'.set = k.set) (hp : k'.ps = k.ps) (hb : k'.base = k.base) (hl : k'.last = x) : TreeAt lo tb k' vp vn vi (w.setCell ⟨tb, 5, none⟩ (.int .i64 x)) := by
  have ht : k'.tree = k.tree := by unfold KnD.tree KnD.c; rw [hs, hp]
  refine ⟨?_, h.low, ?_, ?_, ?_⟩
  · unfold TrBox
    rw [hs, hb, hl]
    exact box_set h.box 5 (.int .i64 x)
  · rw [hp]; exact ownsRow_setb h.prs (box_ne h.box h.prs (by decide)) 5 _
  · rw [ht]; exact ownsRow_setb h.nod (box_ne h.box h.nod (by decide)) 5 _
  · rw [ht]; exact ownsRow_setb h.idx (box_ne h.box h.idx (by decide)) 5 _
theorem TrPost.last {lo tb : Nat} {k k' : KnD} {vp vn vi : Value} {w w' : World} (h : TrPost lo tb k vp vn vi w w') (x : Int) (hs : k'.set = k.set) (hp : k'.ps = k.ps) (hb : k'.base = k.base) (hl : k'.last = x) : TrPost lo tb k' vp vn vi w (w'.setCell ⟨tb, 5, none⟩ (.int .i64 x)) := by
  obtain ⟨vp', vn', vi', h1, h2, h3⟩ := h
  exact ⟨vp', vn', vi', h1.last x hs hp hb hl, h2.set (p := ⟨tb, 5, none⟩) (.inl (.inl rfl)) _, h3⟩
theorem TrPost.pre {lo tb : Nat} {k : KnD} {vp vn vi : Value} {w w1 w' : World} (hu : Up w w1) (h : TrPost lo tb k vp vn vi w1 w') : TrPost lo tb k vp vn vi w w' := by
  obtain ⟨vp', vn', vi', h1, h2, h3⟩ := h
  exact ⟨vp', vn', vi', h1, (Fr.of _ hu).trans h2 (fun _ h => .inl h), fun b hb => (h3 b hb).imp id (fun h => Nat.le_trans hu.size h)⟩
theorem TrPost.refl {lo tb : Nat} {k : KnD} {vp vn vi : Value} {w : World} (h : TreeAt lo tb k vp vn vi w) : TrPost lo tb k vp vn vi w w := ⟨vp, vn, vi, h, Fr.refl _ _, fun _ h => .inl h⟩

set_option maxRecDepth 100000 in
set_option maxHeartbeats 4000000 in
theorem followC_any (lo tb : Nat) (k : KnD) (vp vn vi : Value) (w : World) (h : TreeAt lo tb k vp vn vi w) (hk : k.Tr) (hb0 : 0 ≤ k.base) (hb1 : k.base ≤ k.ps.length) :
    Calls Tryz.prog 119  #[.pointer (some ⟨tb, 0, none⟩), .int .i64 (k.c : Nat)] w (fun e w' => (∃ v, e = .returned v) ∧ TrPost lo tb k.cleared vp vn vi w w') := by
  have cK := fun w => clearI_any k.set w hk.set
  have cF := fun w hT => forget_any lo tb k vp vn vi w hT hk hb0 hb1
  obtain ⟨c0, c1, c2, c3, c4, c5, c6, c7⟩ := h.cells
  have htb := h.lt
  have ec : k.c = clr k.set := rfl
  have H := Lib.hid h
  rw [ec]
  clear h
  go_enter Tryz.func119, Tryz.ntmps119
  go_wp2_with (first | (go_at_call 52; (with_reducible refine (cK _).mono ?_); rintro e w1 ⟨rfl, U1⟩; have B1 := bcell U1; have Z1 := U1.size; (try simp at Z1); (try rw [Nat.add_one_le_iff] at Z1)) | fail)
  refine (cF _ (H.out.up U1)).mono ?_
  rintro e w2 ⟨⟨v, rfl⟩, hP⟩
  have hP2 := hP.last (k' := k.cleared) (-1) rfl rfl rfl rfl
  obtain ⟨vp', vn', vi', hT2, -, -⟩ := hP
  have htb2 := hT2.lt
  obtain ⟨d0, d1, d2, d3, d4, d5, d6, d7⟩ := hT2.cells
  have hfr2 := box_free hT2.box
  have HP := Lib.hid hP2
  clear hT2 hP2 B1
  go_wp2
  (try simp only [Exit.inBlock, Exit.then]); refine bodyPost_ret (results_none rfl _ _ _) rfl ?_
  exact ⟨⟨_, rfl⟩, HP.out.pre U1⟩

/-- The code whose node has the first byte of a code's word. -/
def KnD.from (k : KnD) (x : Int) : Int := if x = k.next then k.last else x
theorem KnD.from_ok {k : KnD} (hk : k.Ok) {x : Int} (hf : k.follows x = true) : codeOk k.c k.ps.length (k.from x) = true := by
  unfold KnD.from
  rcases KnD.follows_cases hk hf with hc | ⟨_, hx, hl⟩
  · rw [if_neg (by rw [codeOk_iff] at hc; unfold KnD.next; omega)]; exact hc
  · rw [if_pos hx]; exact hl
theorem KnD.from_first {k : KnD} (hk : k.Ok) {x : Int} (hf : k.follows x = true) : (nodAt k.tree.ns (nodeOf k.c k.tree (k.from x))).fir = k.first x := by
  have hT := hk.tree
  have hfr := KnD.from_ok hk hf
  obtain ⟨a1, a2, a3⟩ := hT.node _ hfr
  have h1 := hT.first _ a1
  obtain ⟨-, -, f1, f2⟩ := hT.bytes _ a1
  have hcb := hk.c_bd
  rw [a3] at h1
  have h2 : (k.any x).getD 0 0 = (wordP k.c k.ps (k.from x)).getD 0 0 := by
    unfold KnD.any KnD.from
    split
    · have hl : codeOk k.c k.ps.length k.last = true := by
        have := hfr
        unfold KnD.from at this
        rwa [if_pos (by assumption)] at this
      have hp : 1 ≤ (k.word k.last).length := wordP_pos hk.ps hl
      show (k.word k.last ++ (k.word k.last).take 1).getD 0 0 = (k.word k.last).getD 0 0
      rw [List.getD_eq_getElem?_getD, List.getD_eq_getElem?_getD, List.getElem?_append_left (by omega)]
    · rfl
  unfold KnD.first
  rw [h2, h1, ub_nat f1 (by omega)]

set_option maxRecDepth 100000 in
set_option maxHeartbeats 4000000 in
theorem followW_any (lo tb : Nat) (k : KnD) (vp vn vi : Value) (x : Int) (w : World) (h : TreeAt lo tb k vp vn vi w) (hk : k.Ok) (hx : ¬ x = (k.c : Int)) (hf : k.follows x = true) :
    Calls Tryz.prog 119  #[.pointer (some ⟨tb, 0, none⟩), .int .i64 x] w (fun e w' => (∃ v, e = .returned v) ∧ TrPost lo tb (k.after x) vp vn vi w w') := by
  have hkt := hk.tr
  have cK := fun w => clearI_any k.set w hk.set
  obtain ⟨c0, c1, c2, c3, c4, c5, c6, c7⟩ := h.cells
  have hfr := box_free h.box
  have htb := h.lt
  have ec : k.c = clr k.set := rfl
  have hps : k.ps.length ≤ 100000 := by have := hkt.len; have := hkt.c_bd; omega
  obtain ⟨ap, cp, rfl⟩ := h.shape
  have cG := fun w => growI_any k.set k.base k.last ap k.ps.length cp w hk.set hps
  have cX := fun w => nextI_any k.set k.base k.last ap k.ps.length cp w hk.set hps
  rw [growN_eq] at cG
  simp only [knV] at cG cX
  have H := Lib.hid h
  have hxb : (x == ((clr k.set : Nat) : Int)) = false := by rw [← ec]; simpa using hx
  have en : ((clr k.set : Int) + 2 + k.ps.length) = (k.next : Nat) := by unfold KnD.next KnD.c; omega
  have hgw := htb
  cases hg : k.grow
  · have hA : k.after x = ⟨k.set, k.ps, k.base, x⟩ := by unfold KnD.after; rw [hg]; simp
    rw [hA]
    rw [hg] at cG
    clear h hx hg hA cX en
    go_enter Tryz.func119, Tryz.ntmps119
    go_wp2_with (first | ((go_at_call 52; (with_reducible refine (cK _).mono ?_); rintro e w1 ⟨rfl, U1⟩; have B1 := bcell U1; have Z1 := U1.size; (try simp at Z1); (try rw [Nat.add_one_le_iff] at Z1)); have htb1 := Nat.lt_of_lt_of_le htb U1.size; have hgl1 := Nat.lt_of_lt_of_le hgw U1.size) | ((go_at_call 115; (with_reducible refine (cG _).mono ?_); rintro e w2 ⟨rfl, U2⟩; have B2 := bcell U2; have Z2 := U2.size; (try simp at Z2); (try rw [Nat.add_one_le_iff] at Z2)); have htb2 := Nat.lt_of_lt_of_le htb1 U2.size; have hgl2 := Nat.lt_of_lt_of_le hgl1 U2.size))
    go_end0
    have hT := (H.out.up U1).up U2
    exact ⟨⟨_, rfl⟩, (((TrPost.refl hT).last (k' := ⟨k.set, k.ps, k.base, x⟩) x rfl rfl rfl rfl).pre U2).pre U1⟩
  · have hA : k.after x = ⟨k.set, k.ps ++ [⟨k.last, k.first x⟩], k.base, x⟩ := by unfold KnD.after; rw [hg]; rfl
    have hlast := hk.lastOk hg
    have hnx : k.next ≤ lastC k.set := by
      unfold KnD.grow at hg
      simp only [Bool.and_eq_true, decide_eq_true_eq] at hg
      exact hg.2
    obtain ⟨hf1, hf2⟩ := KnD.first_bd hk hf
    have hf3 : k.first x ≤ 255 := by have := hk.c_bd; omega
    have cL := fun wq hT => learnT_any lo tb k (.slice ap k.ps.length cp) vn vi ⟨k.last, k.first x⟩ wq hT hkt hlast hf1 hf2 hnx
    have cN := fun wq hT => nodeOf_any lo tb k (.slice ap k.ps.length cp) vn vi (k.from x) wq hT hkt (KnD.from_ok hk hf)
    have hfi := KnD.from_first hk hf
    obtain ⟨hn1, -, -⟩ := hk.tree.node _ (KnD.from_ok hk hf)
    generalize nodeOf k.c k.tree (k.from x) = nd at *
    obtain ⟨g, cap, nxx, rfl, hg1, hg2, hg3, hg4, hg5, d0, d1, d2, d3, d4, d5⟩ := h.node1 hkt hn1
    rw [hfi] at d4
    unfold maxLen at hg2
    clear hgw
    have hgw := hg4
    rw [hA]
    rw [hg] at cG
    generalize k.first x = fx at *
    dsimp only at cL
    clear h hx hg hA hf hfi hnx d0 d1 d2 d3 d5 hlast
    by_cases hxn : x = k.next
    · have hfrom : k.from x = k.last := by unfold KnD.from; rw [if_pos hxn]
      rw [hfrom] at cN
      clear hfrom
      rw [en] at cX
      rw [← hxn] at cX
      clear en hxn
      go_enter Tryz.func119, Tryz.ntmps119
      go_wp2_with (first | ((go_at_call 52; (with_reducible refine (cK _).mono ?_); rintro e w1 ⟨rfl, U1⟩; have B1 := bcell U1; have Z1 := U1.size; (try simp at Z1); (try rw [Nat.add_one_le_iff] at Z1)); have htb1 := Nat.lt_of_lt_of_le htb U1.size; have hgl1 := Nat.lt_of_lt_of_le hgw U1.size) | ((go_at_call 115; (with_reducible refine (cG _).mono ?_); rintro e w2 ⟨rfl, U2⟩; have B2 := bcell U2; have Z2 := U2.size; (try simp at Z2); (try rw [Nat.add_one_le_iff] at Z2)); have htb2 := Nat.lt_of_lt_of_le htb1 U2.size; have hgl2 := Nat.lt_of_lt_of_le hgl1 U2.size) | ((go_at_call 117; (with_reducible refine (cX _).mono ?_); rintro e w3 ⟨rfl, U3⟩; have B3 := bcell U3; have Z3 := U3.size; (try simp at Z3); (try rw [Nat.add_one_le_iff] at Z3)); have htb3 := Nat.lt_of_lt_of_le htb2 U3.size; have hgl3 := Nat.lt_of_lt_of_le hgl2 U3.size))
      refine wp_region_upR 18 (by kernel_rfl) (by kernel_rfl) ?_
      simp only [List.take, List.drop]
      repeat (refine wpUp_step (fun K hK => ?_); go_simp; (try simp only [↓IntWalk.iteOmega]); first
        | (refine hK _ _ ?_; clear hK K)
        | (apply stepU_c
           · intro wq hwq; (have hbq := bcell hwq; (repeat (first | refine fills_no (by rfl) ?_ | refine fills_yes (by rfl) (fun vq hvq => ?_))); simp only [List.filter_nil, fills]; unfold upAt; go_simp; (try go_bits); (try simp only [↓IntWalk.iteOmega]); (try (rw [dif_pos (by omega)]; go_simp; try go_bits)); first | exact upOut_value | (apply upOut_call; (go_at_call 116; exact cN _ ((((H.out.up U1).up U2).up U3).up hwq))) | (apply upOut_eq; (go_at_call 116; exact cN _ ((((H.out.up U1).up U2).up U3).up hwq))))
           go_simp; refine hK _ _ ?_; clear hK K))
      refine wpUp_nil (fun wq hwq => ?_)
      simp only [fills]
      have hT := (((H.out.up U1).up U2).up U3).up hwq
      have hUq : Up w wq := ((U1.trans U2).trans U3).trans hwq
      go_wp2_with fail
      with_reducible refine (cL _ hT).mono ?_
      rintro e w5 ⟨⟨v, rfl⟩, hP⟩
      have hP2 := hP.last (k' := ⟨k.set, k.ps ++ [⟨k.last, fx⟩], k.base, x⟩) x rfl rfl rfl rfl
      obtain ⟨vp', vn', vi', hT2, -, -⟩ := hP
      have htb5 := hT2.lt
      obtain ⟨e0, e1, e2, e3, e4, e5, e6, e7⟩ := hT2.cells
      have hfr5 := box_free hT2.box
      have HP := Lib.hid (hP2.pre hUq)
      clear hT2 hP2 B1 B2 B3 hT hUq hwq
      go_wp2
      go_end0
      exact ⟨⟨_, rfl⟩, HP.out⟩
    · have hfrom : k.from x = x := by unfold KnD.from; rw [if_neg hxn]
      rw [hfrom] at cN
      clear hfrom
      have hxn2 : (x == (clr k.set : Int) + 2 + k.ps.length) = false := by rw [en]; simpa using hxn
      clear en hxn
      go_enter Tryz.func119, Tryz.ntmps119
      go_wp2_with (first | ((go_at_call 52; (with_reducible refine (cK _).mono ?_); rintro e w1 ⟨rfl, U1⟩; have B1 := bcell U1; have Z1 := U1.size; (try simp at Z1); (try rw [Nat.add_one_le_iff] at Z1)); have htb1 := Nat.lt_of_lt_of_le htb U1.size; have hgl1 := Nat.lt_of_lt_of_le hgw U1.size) | ((go_at_call 115; (with_reducible refine (cG _).mono ?_); rintro e w2 ⟨rfl, U2⟩; have B2 := bcell U2; have Z2 := U2.size; (try simp at Z2); (try rw [Nat.add_one_le_iff] at Z2)); have htb2 := Nat.lt_of_lt_of_le htb1 U2.size; have hgl2 := Nat.lt_of_lt_of_le hgl1 U2.size) | ((go_at_call 117; (with_reducible refine (cX _).mono ?_); rintro e w3 ⟨rfl, U3⟩; have B3 := bcell U3; have Z3 := U3.size; (try simp at Z3); (try rw [Nat.add_one_le_iff] at Z3)); have htb3 := Nat.lt_of_lt_of_le htb2 U3.size; have hgl3 := Nat.lt_of_lt_of_le hgl2 U3.size))
      refine wp_region_upR 18 (by kernel_rfl) (by kernel_rfl) ?_
      simp only [List.take, List.drop]
      repeat (refine wpUp_step (fun K hK => ?_); go_simp; (try simp only [↓IntWalk.iteOmega]); first
        | (refine hK _ _ ?_; clear hK K)
        | (apply stepU_c
           · intro wq hwq; (have hbq := bcell hwq; (repeat (first | refine fills_no (by rfl) ?_ | refine fills_yes (by rfl) (fun vq hvq => ?_))); simp only [List.filter_nil, fills]; unfold upAt; go_simp; (try go_bits); (try simp only [↓IntWalk.iteOmega]); (try (rw [dif_pos (by omega)]; go_simp; try go_bits)); first | exact upOut_value | (apply upOut_call; (go_at_call 116; exact cN _ ((((H.out.up U1).up U2).up U3).up hwq))) | (apply upOut_eq; (go_at_call 116; exact cN _ ((((H.out.up U1).up U2).up U3).up hwq))))
           go_simp; refine hK _ _ ?_; clear hK K))
      refine wpUp_nil (fun wq hwq => ?_)
      simp only [fills]
      have hT := (((H.out.up U1).up U2).up U3).up hwq
      have hUq : Up w wq := ((U1.trans U2).trans U3).trans hwq
      go_wp2_with fail
      with_reducible refine (cL _ hT).mono ?_
      rintro e w5 ⟨⟨v, rfl⟩, hP⟩
      have hP2 := hP.last (k' := ⟨k.set, k.ps ++ [⟨k.last, fx⟩], k.base, x⟩) x rfl rfl rfl rfl
      obtain ⟨vp', vn', vi', hT2, -, -⟩ := hP
      have htb5 := hT2.lt
      obtain ⟨e0, e1, e2, e3, e4, e5, e6, e7⟩ := hT2.cells
      have hfr5 := box_free hT2.box
      have HP := Lib.hid (hP2.pre hUq)
      clear hT2 hP2 B1 B2 B3 hT hUq hwq
      go_wp2
      go_end0
      exact ⟨⟨_, rfl⟩, HP.out⟩

end Go.Proofs.YtiiahjnfbhcgmaaGreatDoor
