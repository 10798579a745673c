/- Texts joined into one: the walks and laws that the last text leans on. Conditions: as each says. -/
import Derived.Test.YtgbakgaegldomaaGreatMFnWholeTravelLawD
import Derived.Test.YtgbakgaegldomaaGreatTree6
import Derived.Test.YtgbakgaegldomaaGreatFu
import Derived.Test.YtgbakgaegldomaaGreatTree4
import Derived.Test.YtgbakgaegldomaaGreatGw

set_option linter.unusedVariables false
set_option linter.unusedSimpArgs false
/- Walk of the program's follow, which goes on behind a code. Conditions: the tree lies in memory, what is known is valid, the code can follow or is the clear code. -/
namespace Go.Proofs.YtgbakgaegldomaaGreat
open Go Go.RowKit
theorem TreeAt.last {lo tb : Nat} {k k' : KnD} {vp vn vi : Value} {w : World} (h : TreeAt lo tb k vp vn vi w) (x : Int) (hs : k'.set = k.set) (hp : k'.ps = k.ps) (hb : k'.base = k.base) (hl : k'.last = x) : TreeAt lo tb k' vp vn vi (w.setCell ⟨tb, 5, none⟩ (.int .i64 x)) := by
  have ht : k'.tree = k.tree := by unfold KnD.tree KnD.c; rw [hs, hp]
  refine ⟨?_, h.low, ?_, ?_, ?_⟩
  · unfold TrBox
    rw [hs, hb, hl]
    exact box_set h.box 5 (.int .i64 x)
  · rw [hp]; exact ownsRow_setb h.prs (box_ne h.box h.prs (by decide)) 5 _
  · rw [ht]; exact ownsRow_setb h.nod (box_ne h.box h.nod (by decide)) 5 _
  · rw [ht]; exact ownsRow_setb h.idx (box_ne h.box h.idx (by decide)) 5 _
theorem TrPost.last {lo tb : Nat} {k k' : KnD} {vp vn vi : Value} {w w' : World} (h : TrPost lo tb k vp vn vi w w') (x : Int) (hs : k'.set = k.set) (hp : k'.ps = k.ps) (hb : k'.base = k.base) (hl : k'.last = x) : TrPost lo tb k' vp vn vi w (w'.setCell ⟨tb, 5, none⟩ (.int .i64 x)) := by
  obtain ⟨vp', vn', vi', h1, h2, h3⟩ := h
  exact ⟨vp', vn', vi', h1.last x hs hp hb hl, h2.set (p := ⟨tb, 5, none⟩) (.inl (.inl rfl)) _, h3⟩
theorem TrPost.pre {lo tb : Nat} {k : KnD} {vp vn vi : Value} {w w1 w' : World} (hu : Up w w1) (h : TrPost lo tb k vp vn vi w1 w') : TrPost lo tb k vp vn vi w w' := by
  obtain ⟨vp', vn', vi', h1, h2, h3⟩ := h
  exact ⟨vp', vn', vi', h1, (Fr.of _ hu).trans h2 (fun _ h => .inl h), fun b hb => (h3 b hb).imp id (fun h => Nat.le_trans hu.size h)⟩
theorem TrPost.refl {lo tb : Nat} {k : KnD} {vp vn vi : Value} {w : World} (h : TreeAt lo tb k vp vn vi w) : TrPost lo tb k vp vn vi w w := ⟨vp, vn, vi, h, Fr.refl _ _, fun _ h => .inl h⟩
set_option maxRecDepth 100000 in
set_option maxHeartbeats 4000000 in
theorem followC_any (lo tb : Nat) (k : KnD) (vp vn vi : Value) (w : World) (h : TreeAt lo tb k vp vn vi w) (hk : k.Tr) (hb0 : 0 ≤ k.base) (hb1 : k.base ≤ k.ps.length) :
    Calls Tryz.prog 101  #[.pointer (some ⟨tb, 0, none⟩), .int .i64 (k.c : Nat)] w (fun e w' => (∃ v, e = .returned v) ∧ TrPost lo tb k.cleared vp vn vi w w') := by
  have cK := fun w => clearI_any k.set w hk.set
  have cF := fun w hT => forget_any lo tb k vp vn vi w hT hk hb0 hb1
  obtain ⟨c0, c1, c2, c3, c4, c5, c6, c7⟩ := h.cells
  have htb := h.lt
  have ec : k.c = clr k.set := rfl
  have H := Lib.hid h
  rw [ec]
  clear h
  go_enter Tryz.func101, Tryz.ntmps101
  go_wp2_with (first | (go_at_call 47; (with_reducible refine (cK _).mono ?_); rintro e w1 ⟨rfl, U1⟩; have B1 := bcell U1; have Z1 := U1.size; (try simp at Z1); (try rw [Nat.add_one_le_iff] at Z1)) | fail)
  refine (cF _ (H.out.up U1)).mono ?_
  rintro e w2 ⟨⟨v, rfl⟩, hP⟩
  have hP2 := hP.last (k' := k.cleared) (-1) rfl rfl rfl rfl
  obtain ⟨vp', vn', vi', hT2, -, -⟩ := hP
  have htb2 := hT2.lt
  obtain ⟨d0, d1, d2, d3, d4, d5, d6, d7⟩ := hT2.cells
  have hfr2 := box_free hT2.box
  have HP := Lib.hid hP2
  clear hT2 hP2 B1
  go_wp2
  (try simp only [Exit.inBlock, Exit.then]); refine bodyPost_ret (results_none rfl _ _ _) rfl ?_
  exact ⟨⟨_, rfl⟩, HP.out.pre U1⟩
def KnD.from (k : KnD) (x : Int) : Int := if x = k.next then k.last else x
theorem KnD.from_ok {k : KnD} (hk : k.Ok) {x : Int} (hf : k.follows x = true) : codeOk k.c k.ps.length (k.from x) = true := by
  unfold KnD.from
  rcases KnD.follows_cases hk hf with hc | ⟨_, hx, hl⟩
  · rw [if_neg (by rw [codeOk_iff] at hc; unfold KnD.next; omega)]; exact hc
  · rw [if_pos hx]; exact hl
theorem KnD.from_first {k : KnD} (hk : k.Ok) {x : Int} (hf : k.follows x = true) : (nodAt k.tree.ns (nodeOf k.c k.tree (k.from x))).fir = k.first x := by
  have hT := hk.tree
  have hfr := KnD.from_ok hk hf
  obtain ⟨a1, a2, a3⟩ := hT.node _ hfr
  have h1 := hT.first _ a1
  obtain ⟨-, -, f1, f2⟩ := hT.bytes _ a1
  have hcb := hk.c_bd
  rw [a3] at h1
  have h2 : (k.any x).getD 0 0 = (wordP k.c k.ps (k.from x)).getD 0 0 := by
    unfold KnD.any KnD.from
    split
    · have hl : codeOk k.c k.ps.length k.last = true := by
        have := hfr
        unfold KnD.from at this
        rwa [if_pos (by assumption)] at this
      have hp : 1 ≤ (k.word k.last).length := wordP_pos hk.ps hl
      show (k.word k.last ++ (k.word k.last).take 1).getD 0 0 = (k.word k.last).getD 0 0
      rw [List.getD_eq_getElem?_getD, List.getD_eq_getElem?_getD, List.getElem?_append_left (by omega)]
    · rfl
  unfold KnD.first
  rw [h2, h1, ub_nat f1 (by omega)]
set_option maxRecDepth 100000 in
set_option maxHeartbeats 4000000 in
theorem followW_any (lo tb : Nat) (k : KnD) (vp vn vi : Value) (x : Int) (w : World) (h : TreeAt lo tb k vp vn vi w) (hk : k.Ok) (hx : ¬ x = (k.c : Int)) (hf : k.follows x = true) :
    Calls Tryz.prog 101  #[.pointer (some ⟨tb, 0, none⟩), .int .i64 x] w (fun e w' => (∃ v, e = .returned v) ∧ TrPost lo tb (k.after x) vp vn vi w w') := by
  have hkt := hk.tr
  have cK := fun w => clearI_any k.set w hk.set
  obtain ⟨c0, c1, c2, c3, c4, c5, c6, c7⟩ := h.cells
  have hfr := box_free h.box
  have htb := h.lt
  have ec : k.c = clr k.set := rfl
  have hps : k.ps.length ≤ 100000 := by have := hkt.len; have := hkt.c_bd; omega
  obtain ⟨ap, cp, rfl⟩ := h.shape
  have cG := fun w => growI_any k.set k.base k.last ap k.ps.length cp w hk.set hps
  have cX := fun w => nextI_any k.set k.base k.last ap k.ps.length cp w hk.set hps
  rw [growN_eq] at cG
  simp only [knV] at cG cX
  have H := Lib.hid h
  have hxb : (x == ((clr k.set : Nat) : Int)) = false := by rw [← ec]; simpa using hx
  have en : ((clr k.set : Int) + 2 + k.ps.length) = (k.next : Nat) := by unfold KnD.next KnD.c; omega
  have hgw := htb
  cases hg : k.grow
  · have hA : k.after x = ⟨k.set, k.ps, k.base, x⟩ := by unfold KnD.after; rw [hg]; simp
    rw [hA]
    rw [hg] at cG
    clear h hx hg hA cX en
    go_enter Tryz.func101, Tryz.ntmps101
    go_wp2_with (first | ((go_at_call 47; (with_reducible refine (cK _).mono ?_); rintro e w1 ⟨rfl, U1⟩; have B1 := bcell U1; have Z1 := U1.size; (try simp at Z1); (try rw [Nat.add_one_le_iff] at Z1)); have htb1 := Nat.lt_of_lt_of_le htb U1.size; have hgl1 := Nat.lt_of_lt_of_le hgw U1.size) | ((go_at_call 97; (with_reducible refine (cG _).mono ?_); rintro e w2 ⟨rfl, U2⟩; have B2 := bcell U2; have Z2 := U2.size; (try simp at Z2); (try rw [Nat.add_one_le_iff] at Z2)); have htb2 := Nat.lt_of_lt_of_le htb1 U2.size; have hgl2 := Nat.lt_of_lt_of_le hgl1 U2.size))
    go_end0
    have hT := (H.out.up U1).up U2
    exact ⟨⟨_, rfl⟩, (((TrPost.refl hT).last (k' := ⟨k.set, k.ps, k.base, x⟩) x rfl rfl rfl rfl).pre U2).pre U1⟩
  · have hA : k.after x = ⟨k.set, k.ps ++ [⟨k.last, k.first x⟩], k.base, x⟩ := by unfold KnD.after; rw [hg]; rfl
    have hlast := hk.lastOk hg
    have hnx : k.next ≤ lastC k.set := by
      unfold KnD.grow at hg
      simp only [Bool.and_eq_true, decide_eq_true_eq] at hg
      exact hg.2
    obtain ⟨hf1, hf2⟩ := KnD.first_bd hk hf
    have hf3 : k.first x ≤ 255 := by have := hk.c_bd; omega
    have cL := fun wq hT => learnT_any lo tb k (.slice ap k.ps.length cp) vn vi ⟨k.last, k.first x⟩ wq hT hkt hlast hf1 hf2 hnx
    have cN := fun wq hT => nodeOf_any lo tb k (.slice ap k.ps.length cp) vn vi (k.from x) wq hT hkt (KnD.from_ok hk hf)
    have hfi := KnD.from_first hk hf
    obtain ⟨hn1, -, -⟩ := hk.tree.node _ (KnD.from_ok hk hf)
    generalize nodeOf k.c k.tree (k.from x) = nd at *
    obtain ⟨g, cap, nxx, rfl, hg1, hg2, hg3, hg4, hg5, d0, d1, d2, d3, d4, d5⟩ := h.node1 hkt hn1
    rw [hfi] at d4
    unfold maxLen at hg2
    clear hgw
    have hgw := hg4
    rw [hA]
    rw [hg] at cG
    generalize k.first x = fx at *
    dsimp only at cL
    clear h hx hg hA hf hfi hnx d0 d1 d2 d3 d5 hlast
    by_cases hxn : x = k.next
    · have hfrom : k.from x = k.last := by unfold KnD.from; rw [if_pos hxn]
      rw [hfrom] at cN
      clear hfrom
      rw [en] at cX
      rw [← hxn] at cX
      clear en hxn
      go_enter Tryz.func101, Tryz.ntmps101
      go_wp2_with (first | ((go_at_call 47; (with_reducible refine (cK _).mono ?_); rintro e w1 ⟨rfl, U1⟩; have B1 := bcell U1; have Z1 := U1.size; (try simp at Z1); (try rw [Nat.add_one_le_iff] at Z1)); have htb1 := Nat.lt_of_lt_of_le htb U1.size; have hgl1 := Nat.lt_of_lt_of_le hgw U1.size) | ((go_at_call 97; (with_reducible refine (cG _).mono ?_); rintro e w2 ⟨rfl, U2⟩; have B2 := bcell U2; have Z2 := U2.size; (try simp at Z2); (try rw [Nat.add_one_le_iff] at Z2)); have htb2 := Nat.lt_of_lt_of_le htb1 U2.size; have hgl2 := Nat.lt_of_lt_of_le hgl1 U2.size) | ((go_at_call 99; (with_reducible refine (cX _).mono ?_); rintro e w3 ⟨rfl, U3⟩; have B3 := bcell U3; have Z3 := U3.size; (try simp at Z3); (try rw [Nat.add_one_le_iff] at Z3)); have htb3 := Nat.lt_of_lt_of_le htb2 U3.size; have hgl3 := Nat.lt_of_lt_of_le hgl2 U3.size))
      refine wp_region_upR 18 (by kernel_rfl) (by kernel_rfl) ?_
      simp only [List.take, List.drop]
      repeat (refine wpUp_step (fun K hK => ?_); go_simp; (try simp only [↓IntWalk.iteOmega]); first
        | (refine hK _ _ ?_; clear hK K)
        | (apply stepU_c
           · intro wq hwq; (have hbq := bcell hwq; (repeat (first | refine fills_no (by rfl) ?_ | refine fills_yes (by rfl) (fun vq hvq => ?_))); simp only [List.filter_nil, fills]; unfold upAt; go_simp; (try go_bits); (try simp only [↓IntWalk.iteOmega]); (try (rw [dif_pos (by omega)]; go_simp; try go_bits)); first | exact upOut_value | (apply upOut_call; (go_at_call 98; exact cN _ ((((H.out.up U1).up U2).up U3).up hwq))) | (apply upOut_eq; (go_at_call 98; exact cN _ ((((H.out.up U1).up U2).up U3).up hwq))))
           go_simp; refine hK _ _ ?_; clear hK K))
      refine wpUp_nil (fun wq hwq => ?_)
      simp only [fills]
      have hT := (((H.out.up U1).up U2).up U3).up hwq
      have hUq : Up w wq := ((U1.trans U2).trans U3).trans hwq
      go_wp2_with fail
      with_reducible refine (cL _ hT).mono ?_
      rintro e w5 ⟨⟨v, rfl⟩, hP⟩
      have hP2 := hP.last (k' := ⟨k.set, k.ps ++ [⟨k.last, fx⟩], k.base, x⟩) x rfl rfl rfl rfl
      obtain ⟨vp', vn', vi', hT2, -, -⟩ := hP
      have htb5 := hT2.lt
      obtain ⟨e0, e1, e2, e3, e4, e5, e6, e7⟩ := hT2.cells
      have hfr5 := box_free hT2.box
      have HP := Lib.hid (hP2.pre hUq)
      clear hT2 hP2 B1 B2 B3 hT hUq hwq
      go_wp2
      go_end0
      exact ⟨⟨_, rfl⟩, HP.out⟩
    · have hfrom : k.from x = x := by unfold KnD.from; rw [if_neg hxn]
      rw [hfrom] at cN
      clear hfrom
      have hxn2 : (x == (clr k.set : Int) + 2 + k.ps.length) = false := by rw [en]; simpa using hxn
      clear en hxn
      go_enter Tryz.func101, Tryz.ntmps101
      go_wp2_with (first | ((go_at_call 47; (with_reducible refine (cK _).mono ?_); rintro e w1 ⟨rfl, U1⟩; have B1 := bcell U1; have Z1 := U1.size; (try simp at Z1); (try rw [Nat.add_one_le_iff] at Z1)); have htb1 := Nat.lt_of_lt_of_le htb U1.size; have hgl1 := Nat.lt_of_lt_of_le hgw U1.size) | ((go_at_call 97; (with_reducible refine (cG _).mono ?_); rintro e w2 ⟨rfl, U2⟩; have B2 := bcell U2; have Z2 := U2.size; (try simp at Z2); (try rw [Nat.add_one_le_iff] at Z2)); have htb2 := Nat.lt_of_lt_of_le htb1 U2.size; have hgl2 := Nat.lt_of_lt_of_le hgl1 U2.size) | ((go_at_call 99; (with_reducible refine (cX _).mono ?_); rintro e w3 ⟨rfl, U3⟩; have B3 := bcell U3; have Z3 := U3.size; (try simp at Z3); (try rw [Nat.add_one_le_iff] at Z3)); have htb3 := Nat.lt_of_lt_of_le htb2 U3.size; have hgl3 := Nat.lt_of_lt_of_le hgl2 U3.size))
      refine wp_region_upR 18 (by kernel_rfl) (by kernel_rfl) ?_
      simp only [List.take, List.drop]
      repeat (refine wpUp_step (fun K hK => ?_); go_simp; (try simp only [↓IntWalk.iteOmega]); first
        | (refine hK _ _ ?_; clear hK K)
        | (apply stepU_c
           · intro wq hwq; (have hbq := bcell hwq; (repeat (first | refine fills_no (by rfl) ?_ | refine fills_yes (by rfl) (fun vq hvq => ?_))); simp only [List.filter_nil, fills]; unfold upAt; go_simp; (try go_bits); (try simp only [↓IntWalk.iteOmega]); (try (rw [dif_pos (by omega)]; go_simp; try go_bits)); first | exact upOut_value | (apply upOut_call; (go_at_call 98; exact cN _ ((((H.out.up U1).up U2).up U3).up hwq))) | (apply upOut_eq; (go_at_call 98; exact cN _ ((((H.out.up U1).up U2).up U3).up hwq))))
           go_simp; refine hK _ _ ?_; clear hK K))
      refine wpUp_nil (fun wq hwq => ?_)
      simp only [fills]
      have hT := (((H.out.up U1).up U2).up U3).up hwq
      have hUq : Up w wq := ((U1.trans U2).trans U3).trans hwq
      go_wp2_with fail
      with_reducible refine (cL _ hT).mono ?_
      rintro e w5 ⟨⟨v, rfl⟩, hP⟩
      have hP2 := hP.last (k' := ⟨k.set, k.ps ++ [⟨k.last, fx⟩], k.base, x⟩) x rfl rfl rfl rfl
      obtain ⟨vp', vn', vi', hT2, -, -⟩ := hP
      have htb5 := hT2.lt
      obtain ⟨e0, e1, e2, e3, e4, e5, e6, e7⟩ := hT2.cells
      have hfr5 := box_free hT2.box
      have HP := Lib.hid (hP2.pre hUq)
      clear hT2 hP2 B1 B2 B3 hT hUq hwq
      go_wp2
      go_end0
      exact ⟨⟨_, rfl⟩, HP.out⟩
end Go.Proofs.YtgbakgaegldomaaGreat

/- Walk of the program's newTree. Conditions: what is known is valid and can be read. -/
namespace Go.Proofs.YtgbakgaegldomaaGreat
open Go Go.RowKit
def litC1 (i : Nat) : List Value := [.int .i64 (-1), .int .i64 (-1), .int .i64 (-1), .int .u8 i, .int .u8 i, .int .i64 i]
def litC (b : Nat) : List Value := (List.range b).flatMap litC1
theorem litC_succ (b : Nat) : litC (b + 1) = litC b ++ litC1 b := by simp [litC, List.range_succ]
theorem litC_one (b : Nat) : ∀ u ∈ litC1 b, u.oneCell' = true := by
  intro u hu
  simp only [litC1, List.mem_cons, List.not_mem_nil, or_false] at hu
  rcases hu with rfl | rfl | rfl | rfl | rfl | rfl <;> rfl
theorem litC_all (c : Nat) : litC c = cellsN (litsN c) := by
  unfold litC cellsN
  rw [litsN_length]
  rw [List.flatMap_def, List.flatMap_def]
  congr 1
  apply List.map_congr_left
  intro i hi
  have hi := List.mem_range.1 hi
  have h1 : lastCh (litsN c) i c = -1 := by
    rcases lastCh_cases (litsN c) i c with ⟨h, _⟩ | ⟨j, hj, _, h3, _⟩
    · exact h
    · rw [litsN_at hj] at h3; simp only [] at h3; omega
  unfold nodC
  rw [litsN_at hi, h1]
  rfl
theorem TreeAt.not_own {lo tb : Nat} {k : KnD} {vp vn vi : Value} {w : World} (h : TreeAt lo tb k vp vn vi w) {b : Nat} {cs : Array Value} {T : TypeId} (hb : w.heap[b]? = some (.cells cs T)) (h1 : T ≠ 93) (h2 : T ≠ 118) (h3 : T ≠ 137) (h4 : T ≠ 3) : ¬ Own tb vp vn vi b := by
  rintro (rfl | e | e | e)
  · have := h.box
    unfold TrBox at this
    rw [hb] at this
    cases this
    exact h1 rfl
  · exact box_ne hb h.prs h2 e.symm
  · exact box_ne hb h.nod h3 e.symm
  · exact box_ne hb h.idx h4 e.symm
def KnD.upto (k : KnD) (j : Nat) : KnD := ⟨k.set, k.ps.take j, k.base, k.last⟩
theorem KnD.upto_tr {k : KnD} (h : k.Tr) (j : Nat) : (k.upto j).Tr := by
  refine ⟨h.set, h.ps.take _, ?_⟩
  have := h.len
  show (k.ps.take j).length + k.c + 1 ≤ lastC k.set
  rw [List.length_take]; omega
theorem KnD.upto_add {k : KnD} {j : Nat} (h : j < k.ps.length) : (k.upto j).add k.ps[j] = k.upto (j + 1) := by
  unfold KnD.upto KnD.add
  rw [List.take_succ_eq_append_getElem h]
theorem KnD.upto_all (k : KnD) : k.upto k.ps.length = k := by unfold KnD.upto; rw [List.take_length]
structure Nt1 (k : KnD) (v : Value) (w : World) (b : Nat) (vn : Value) (wr : World) : Prop where
  le : b ≤ clr k.set
  kn : KnAt w.heap.size k v wr
  box : TrBox (w.heap.size + 1) k (.slice none 0 0) vn (.slice none 0 0) wr
  row : wr.ownsRow w.heap.size 137 6 vn b (litC b)
  up : Up w wr
def RelNt1 (k : KnD) (v : Value) (w : World) (i : Value) (wr : World) : Prop := ∃ (b : Nat) (vn : Value), i = .int .i64 b ∧ Nt1 k v w b vn wr
structure Nt2 (k : KnD) (v : Value) (w : World) (j : Nat) (vp vn vi : Value) (wr : World) : Prop where
  le : j ≤ k.ps.length
  kn : KnAt w.heap.size k v wr
  tree : TreeAt w.heap.size (w.heap.size + 1) (k.upto j) vp vn vi wr
  up : Up w wr
def RelNt2 (k : KnD) (v : Value) (w : World) (i : Value) (wr : World) : Prop := ∃ (j : Nat) (vp vn vi : Value), i = .int .i64 j ∧ Nt2 k v w j vp vn vi wr
def NewTree (k : KnD) (w : World) (e : Ending) (w' : World) : Prop := ∃ tb vp vn vi, e = .returned (.pointer (some ⟨tb, 0, none⟩)) ∧ TreeAt w.heap.size tb k vp vn vi w' ∧ Up w w'
set_option maxRecDepth 100000 in
set_option maxHeartbeats 8000000 in
theorem newTree_any (k : KnD) (v : Value) (lo : Nat) (w : World) (hk : k.Ok) (hr : RdP lo w v k.ps) :
    Calls Tryz.prog 95  #[kV k v] w (NewTree k w) := by
  obtain ⟨iN, hiN, hzN0, hzN1, hzN2⟩ := info_parts infoNode
  have hkt := hk.tr
  have cK := fun w => clearI_any k.set w hk.set
  obtain ⟨hb2, hb3, hb4⟩ := clr_le hk.set
  have ec : k.c = clr k.set := rfl
  have hpl := hk.len
  have hrt := fun (wq : World) (hu : Up w wq) => hr.up hu
  obtain ⟨a, cap, rfl, hc1, hc2, hc3, hsome⟩ := hr
  unfold maxLen at hc2
  simp only [kV]
  go_enter Tryz.func95, Tryz.ntmps95
  go_wp2_with (first | (go_at_call 47; (with_reducible refine (cK _).mono ?_); rintro e w1 ⟨rfl, U1⟩; have B1 := bcell U1; have Z1 := U1.size; (try simp at Z1); (try rw [Nat.add_one_le_iff] at Z1)) | fail)
  have hkn : KnAt w.heap.size k (.slice a k.ps.length cap) w1 := box_up U1 (box_up ((Up.refl _).alloc _) (MapKept.heap_alloc w _).1)
  have hbx : TrBox (w.heap.size + 1) k (.slice none 0 0) (.slice none 0 0) (.slice none 0 0) w1 := box_up U1 (alloc2 w _ _)
  have hU1 : Up w w1 := by (repeat (first | with_reducible exact Up.refl _ | with_reducible assumption | with_reducible refine Up.set ?_ (by first | exact Nat.le_refl _ | (simp only []; omega) | (simp; omega)) _ | with_reducible refine Up.alloc ?_ _ | with_reducible refine Up.drew ?_ | refine Up.trans ?_ (by with_reducible assumption)))
  clear U1 B1
  go_loopw [17] (fun i wr => RelNt1 k (.slice a k.ps.length cap) w i wr) (fun i _ => clr k.set - (intOf i).toNat)
  case atStart => exact ⟨0, .slice none 0 0, rfl, Nat.zero_le _, hkn, hbx, World.ownsRow_nil _ _ _ _, hU1⟩
  case round =>
    clear hkn hbx hU1
    obtain ⟨b, vn, rfl, hN⟩ := hrel
    obtain ⟨hble, hkn, hbx, hrow, hup⟩ := hN
    obtain ⟨an, cn, rfl⟩ := ownsRow_shape hrow
    have hfr := box_free hbx
    have hfk := box_free hkn
    have htb := (Array.getElem?_eq_some_iff.1 hbx).1
    obtain ⟨k0, q0, q1, q2, q3, q4, q5⟩ := hkn.cells
    have hne1 : ¬ w.heap.size = w.heap.size + 1 := by omega
    have hsz := hup.size
    by_cases hlt : b < clr k.set
    · have hbm : (b : Int) % 256 = b := by omega
      have hb255 : (b : Int) ≤ 255 := by omega
      obtain ⟨c0, c1, c2, c3, c4, c5, c6, c7⟩ := TrBox.cells hbx
      have hneB : some (w.heap.size + 1) ≠ Value.ownBlock (.slice an b cn) := box_ne hbx hrow (by decide)
      have hneK : some w.heap.size ≠ Value.ownBlock (.slice an b cn) := box_ne hkn hrow (by decide)
      have HN := Lib.hid (And.intro hbx (And.intro hkn (And.intro hrow (And.intro hneB hneK))))
      clear hbx hkn hneB hneK
      go_wp2_with (at_builtin; refine wpList_append_own _ rfl _ _ 91 rfl w.heap.size 137 iN (.agg #[.int .i64 0, .int .i64 0, .int .i64 0, .int .u8 0, .int .u8 0, .int .i64 0]) 6 40 Tryz.underlying91 hiN hzN0 hzN1 hzN2 rfl (by decide) _ _ _ rfl (hrow.alloc _) ⟨wr.heap.size, 0, none⟩ 1 1 (litC1 b) rfl rfl (new_cells (litC1 b) _ rfl) (litC_one b) (by unfold maxLen; omega) (by omega) (by simp; omega) ?_; rintro v2 w2 hown2 hgr2 -; obtain ⟨a2, cc2, rfl⟩ := ownsRow_shape hown2; obtain ⟨c0, c1, c2, c3, c4, c5, c6, c7⟩ := TrBox.cells (gbox hgr2 (box_up ((Up.refl _).alloc _) HN.out.1) HN.out.2.2.2.1); have hfr := box_free (gbox hgr2 (box_up ((Up.refl _).alloc _) HN.out.1) HN.out.2.2.2.1); have HO := Lib.hid (And.intro hown2 hgr2); clear hown2 hgr2)
      go_roundw
      case rel =>
        obtain ⟨hown2, hgr2⟩ := HO.out
        have hb2' : TrBox (w.heap.size + 1) k (.slice none 0 0) (.slice an b cn) (.slice none 0 0) w2 := gbox hgr2 (box_up ((Up.refl _).alloc _) HN.out.1) HN.out.2.2.2.1
        refine ⟨b + 1, .slice a2 (b + 1) cc2, by go_num, by omega, ?_, box_set hb2' 6 _, ?_, ?_⟩
        · exact box_oth (gbox hgr2 (box_up ((Up.refl _).alloc _) HN.out.2.1) HN.out.2.2.2.2) (p := ⟨w.heap.size + 1, 6, none⟩) hne1 _
        · rw [litC_succ]; exact ownsRow_setb hown2 (box_ne hb2' hown2 (by decide)) 6 _
        · exact ((hup.alloc _).grown hgr2 (fun x hx => (HN.out.2.2.1.lt x hx).1)).set (p := ⟨w.heap.size + 1, 6, none⟩) (Nat.le_succ _) _
      case measure => simp [intOf]; omega
    · have e : b = clr k.set := by omega
      have hrow' : wr.ownsRow w.heap.size 137 6 (.slice an b cn) (k.upto 0).tree.ns.length (cellsN (k.upto 0).tree.ns) := by
        have e2 : (k.upto 0).tree = ⟨litsN (clr k.set), []⟩ := rfl
        rw [e2]
        show wr.ownsRow _ _ _ _ (litsN (clr k.set)).length _
        rw [litsN_length, ← litC_all, ← e]
        exact hrow
      have hT0 : TreeAt w.heap.size (w.heap.size + 1) (k.upto 0) (.slice none 0 0) (.slice an b cn) (.slice none 0 0) wr := ⟨hbx, Nat.le_succ _, World.ownsRow_nil _ _ _ _, hrow', World.ownsRow_nil _ _ _ _⟩
      have HK := Lib.hid (And.intro hkn (And.intro hT0 hup))
      clear e hrow hrow' hbx hT0 hkn
      go_wp2
      go_loopw [39] (fun i wr => RelNt2 k (.slice a k.ps.length cap) w i wr) (fun i _ => k.ps.length - (intOf i).toNat)
      case atStart => exact ⟨0, _, _, _, rfl, Nat.zero_le _, HK.out.1, HK.out.2.1, HK.out.2.2⟩
      case round =>
        clear HK hup hfr hfk htb k0 q0 q1 q2 q3 q4 q5 hne1 hsz
        obtain ⟨j, vp, vn, vi, rfl, hN⟩ := hrel
        obtain ⟨hjl, hkn, hT, hup⟩ := hN
        by_cases hlt : j < k.ps.length
        · obtain ⟨hpo, hpb0, hpb1⟩ := hk.ps.get hlt
          obtain ⟨bb, off, rfl, hlo, hbl, hcells⟩ := hsome (by omega)
          obtain ⟨q0, q1⟩ := hcells j k.ps[j] (List.getElem?_eq_getElem hlt)
          have r0 := (hup.cell (p := ⟨bb, off + j * 2, none⟩) hbl).trans q0
          have r1 := (hup.cell (p := ⟨bb, off + j * 2 + 1, none⟩) hbl).trans q1
          have hut : (k.upto j).ps.length = j := by unfold KnD.upto; simp only [List.length_take]; omega
          have cL := fun wq hT => learnT_any w.heap.size (w.heap.size + 1) (k.upto j) vp vn vi k.ps[j] wq hT (KnD.upto_tr hkt j) (by rw [hut]; exact hpo) hpb0 hpb1 (by unfold KnD.next; rw [hut]; show k.c + 2 + j ≤ lastC k.set; omega)
          have hadd := KnD.upto_add hlt
          have HT := Lib.hid (And.intro hkn (And.intro hT hup))
          have HADD := Lib.hid hadd
          clear hcells q0 q1 hkn hT hut hadd
          have hbl2 := Nat.lt_of_lt_of_le hbl hup.size
          go_wp2_with fail
          with_reducible refine (cL _ (HT.out.2.1.up (Up.alloc (Up.refl _) _))).mono ?_
          rintro e w2 ⟨⟨vv, rfl⟩, hP⟩
          go_wp2
          go_roundw
          case rel =>
            obtain ⟨hkn, hT, hup⟩ := HT.out
            obtain ⟨vp', vn', vi', hT', hfr', hO'⟩ := hP
            rw [HADD.out] at hT'
            have hTa := hT.up (Up.alloc (Up.refl wr) (.cells #[.int .i64 k.ps[j].pre, .int .i64 k.ps[j].byt] 118))
            have hkna := box_up (Up.alloc (Up.refl wr) (.cells #[.int .i64 k.ps[j].pre, .int .i64 k.ps[j].byt] 118)) hkn
            exact ⟨j + 1, vp', vn', vi', by go_num, by omega, hfr'.box hkna (hTa.not_own hkna (by decide) (by decide) (by decide) (by decide)), hT', Fr.upto (hup.alloc _) hfr' (fun b hb => (hTa.own_lo b hb).1)⟩
          case measure => simp [intOf]; omega
        · have e : j = k.ps.length := by omega
          rw [e, KnD.upto_all] at hT
          have HT := Lib.hid (And.intro hT hup)
          clear hkn hT
          go_wp2
          go_ret
          exact ⟨_, vp, vn, vi, rfl, HT.out.1, HT.out.2⟩
end Go.Proofs.YtgbakgaegldomaaGreat

/- Walk of the program's longest, which finds the longest word with which data begins. Conditions: the tree lies in memory, what is known is valid, the data are literals. -/
namespace Go.Proofs.YtgbakgaegldomaaGreat
open Go Go.RowKit
structure LgAt (k : KnD) (d : List UInt8) (n size : Nat) : Prop where
  lt : n < k.tree.ns.length
  pos : 1 ≤ size
  le : size ≤ d.length
  word : k.word (nodAt k.tree.ns n).cod = d.take size
def RelLg (k : KnD) (d : List UInt8) (w : World) (x s c : Value) (wr : World) : Prop := ∃ n size : Nat, x = .int .i64 n ∧ s = .int .i64 size ∧ LgAt k d n size ∧ w = wr
theorem LgAt.start {k : KnD} (hk : k.Ok) {d : List UInt8} (hd : d ≠ []) (hl : ∀ b ∈ d, b.toNat < k.c) : LgAt k d (d.getD 0 0).toNat 1 := by
  cases d with
  | nil => exact absurd rfl hd
  | cons b l =>
    have hb := hl b (List.mem_cons_self ..)
    have hT := hk.tree
    have hlo := hT.lo
    simp only [List.getD_cons_zero]
    refine ⟨by omega, Nat.le_refl _, by simp, ?_⟩
    rw [hT.lit _ hb]
    show wordP k.c k.ps (b.toNat : Int) = _
    rw [wordP_lit (by omega), ub_self]
    simp
theorem LgAt.step {k : KnD} (hk : k.Ok) {d : List UInt8} {n size j : Nat} (h : LgAt k d n size) (hs : size < d.length) (hj : findCh k.tree.ns n ((d[size]'hs).toNat : Int) k.tree.ns.length = j) : LgAt k d j (size + 1) := by
  have hT := hk.tree
  rcases findCh_cases k.tree.ns n ((d[size]'hs).toNat : Int) k.tree.ns.length with ⟨h1, _⟩ | ⟨i, h1, h2, h3, h4⟩
  · omega
  · have e : i = j := by omega
    subst e
    have hc : k.c ≤ i := by
      rcases Nat.lt_or_ge i k.c with hl | hl
      · rw [hT.lit i hl] at h3; simp only [] at h3; omega
      · exact hl
    have hw := hT.word i hc h1
    rw [h3, Int.toNat_natCast, h4, ub_self] at hw
    refine ⟨h1, by omega, hs, ?_⟩
    show wordP k.c k.ps (nodAt k.tree.ns i).cod = _
    rw [hw, List.take_succ_eq_append_getElem hs]
    have := h.word
    unfold KnD.word at this
    rw [this]
set_option maxRecDepth 100000 in
set_option maxHeartbeats 8000000 in
theorem longest_any (lo tb : Nat) (k : KnD) (vp vn vi : Value) (s : ByteArray) (w : World) (h : TreeAt lo tb k vp vn vi w) (hk : k.Ok) (hs : 0 < s.size) (hs2 : s.size ≤ 1073741824) (hl : ∀ b ∈ s.data.toList, b.toNat < k.c) :
    Calls Tryz.prog 44  #[.pointer (some ⟨tb, 0, none⟩), .string s] w (Same (.tuple #[.int .i64 (k.find (k.longest s.data.toList)), .int .i64 (k.longest s.data.toList).length]) w) := by
  have hkt := hk.tr
  have cC := fun n b hn => child_any lo tb k vp vn vi n b w h hkt hn
  have hsl := ba_len s
  have hd : s.data.toList ≠ [] := fun e => by rw [e] at hsl; simp at hsl; omega
  have hst := LgAt.start hk hd hl
  have hu0 := u8_bd s[0]
  have e0 : s.data.toList.getD 0 0 = s[0] := by
    rw [List.getD_eq_getElem?_getD, List.getElem?_eq_getElem (by omega)]; rfl
  rw [e0] at hst
  have HL := Lib.hid hl
  have hns : k.tree.ns.length ≤ 2000 := by have := hkt.tree.hi; have := hkt.len; have := hkt.c_bd; omega
  obtain ⟨X, hX⟩ : ∃ X, X = k.find (k.longest s.data.toList) := ⟨_, rfl⟩
  obtain ⟨Y, hY⟩ : ∃ Y : Int, Y = (k.longest s.data.toList).length := ⟨_, rfl⟩
  rw [← hX, ← hY]
  have HX := Lib.hid hX
  have HY := Lib.hid hY
  have hps : k.ps.length ≤ 100000 := by have := hkt.len; have := hkt.c_bd; omega
  clear e0 hd hl hX hY
  go_enter Tryz.func44, Tryz.ntmps44
  go_wp2
  go_loopw [6, 7, 8] (fun x z c wr => RelLg k s.data.toList w x z c wr) (fun _ z _ _ => s.size - (intOf z).toNat)
  case atStart => exact ⟨s[0].toNat, 1, rfl, rfl, hst, rfl⟩
  case round =>
    obtain ⟨n, size, rfl, rfl, hA, rfl⟩ := hrel
    have HA := Lib.hid hA
    obtain ⟨h1, h2, h3, -⟩ := hA
    rw [hsl] at h3
    clear hst
    by_cases hlt : size < s.size
    · have hb := u8_bd s[size]
      have eb : s[size] = s.data.toList[size]'(by rw [hsl]; exact hlt) := rfl
      have cCb := cC n (s[size].toNat : Int) h1
      by_cases hf : findCh k.tree.ns n (s[size].toNat : Int) k.tree.ns.length < 0
      · skip
        obtain ⟨c0, c1, c2, c3, c4, c5, c6, c7⟩ := h.cells
        have hfr := box_free h.box
        have htb := h.lt
        obtain ⟨g, cap, nx, rfl, hg1, hg2, hg3, hg4, hg5, d0, d1, d2, d3, d4, d5⟩ := h.node1 hkt h1
        obtain ⟨ap, cp, rfl⟩ := h.shape
        unfold maxLen at hg2
        have cG := fun w => growI_any k.set k.base k.last ap k.ps.length cp w hk.set (by omega)
        have cX := fun w => nextI_any k.set k.base k.last ap k.ps.length cp w hk.set (by omega)
        rw [growN_eq] at cG
        have cN := fun w hT hl => nodeOf_any lo tb k (.slice ap k.ps.length cp) (.slice (some ⟨g, 0, none⟩) k.tree.ns.length cap) vi k.last w hT hkt hl
        have H := Lib.hid h
        have en : Hid (((clr k.set : Int) + 2 + k.ps.length) = (k.next : Nat)) := by unfold Hid KnD.next KnD.c; omega
        simp only [knV] at cG cX
        clear h
        have hm1 : findCh k.tree.ns n (s[size].toNat : Int) k.tree.ns.length = -1 := by have := findCh_bd k.tree.ns n (s[size].toNat : Int) k.tree.ns.length; omega
        have hgs : s.data.toList[size]? = some s[size] := by rw [List.getElem?_eq_getElem (by rw [hsl]; exact hlt)]; rfl
        have hres := KnD.deep_longest hk HL.out h1 h2 (by rw [hsl]; omega) HA.out.word (.inr ⟨s[size], hgs, hm1⟩)
        rw [hm1] at cCb
        clear hf hm1 eb cC
        have hcf := (hkt.tree.bytes n h1).2.2
        by_cases hg : k.grow = true
        · rw [hg] at cG
          by_cases hno : n = nodeOf k.c k.tree k.last
          · by_cases hfi : (s[size].toNat : Int) = (nodAt k.tree.ns n).fir
            · rw [if_pos ⟨_, hgs, hg, hno, hfi⟩] at hres
              have hx := HX.out.trans hres.1
              have hy := HY.out.trans (congrArg Int.ofNat hres.2)
              rw [← hno] at cN
              rw [← hfi] at d4
              clear hres hgs hfi hno HX HY
              go_wp2_with (first | (go_at_call 96; (with_reducible refine cCb.mono ?_); rintro e w' ⟨rfl, rfl⟩) | fail)
              refine wp_region_up 36 (by kernel_rfl) (by kernel_rfl) ?_
              simp only [List.take, List.drop]
              repeat (refine wpUp_step (fun K hK => ?_); go_simp; (try simp only [↓IntWalk.iteOmega]); first
                | (refine hK _ _ ?_; clear hK K)
                | (apply stepU_c
                   · intro wq hwq; (have hbq := bcell hwq; (repeat (first | refine fills_no (by rfl) ?_ | refine fills_yes (by rfl) (fun vq hvq => ?_))); simp only [List.filter_nil, fills]; unfold upAt; go_simp; (try go_bits); (try simp only [↓IntWalk.iteOmega]); (try (rw [dif_pos (by omega)]; go_simp; try go_bits)); first | exact upOut_value | (apply upOut_call; (go_at_call 97; exact cG _)) | (apply upOut_eq; (go_at_call 97; exact cG _)) | (apply upOut_call; (go_at_call 98; exact cN _ (H.out.up hwq) (hk.lastOk hg))) | (apply upOut_eq; (go_at_call 98; exact cN _ (H.out.up hwq) (hk.lastOk hg))))
                   go_simp; refine hK _ _ ?_; clear hK K))
              refine wpUp_nil (fun wq hwq => ?_)
              simp only [fills]
              have BQ := bcell hwq
              go_wp2_with (first | (go_at_call 99; (with_reducible refine (cX _).mono ?_); rintro e w9 ⟨rfl, U9⟩; have B9 := bcell U9; have Z9 := U9.size; (try simp at Z9); (try rw [Nat.add_one_le_iff] at Z9)) | fail)
              go_ret2
              refine ⟨?_, by (repeat (first | with_reducible exact Up.refl _ | with_reducible assumption | with_reducible refine Up.set ?_ (by first | exact Nat.le_refl _ | (simp only []; omega) | (simp; omega)) _ | with_reducible refine Up.alloc ?_ _ | with_reducible refine Up.drew ?_ | refine Up.trans ?_ (by with_reducible assumption)))⟩
              rw [hx, hy]
              rw [en.out]; rfl
            · rw [if_neg (fun ⟨b, hb1, _, _, hb2⟩ => hfi (by rw [hgs] at hb1; cases hb1; exact hb2))] at hres
              have hx := HX.out.trans hres.1
              have hy := HY.out.trans (congrArg Int.ofNat hres.2)
              rw [← hno] at cN
              clear hres hgs hno HX HY
              go_wp2_with (first | (go_at_call 96; (with_reducible refine cCb.mono ?_); rintro e w' ⟨rfl, rfl⟩) | fail)
              refine wp_region_up 36 (by kernel_rfl) (by kernel_rfl) ?_
              simp only [List.take, List.drop]
              repeat (refine wpUp_step (fun K hK => ?_); go_simp; (try simp only [↓IntWalk.iteOmega]); first
                | (refine hK _ _ ?_; clear hK K)
                | (apply stepU_c
                   · intro wq hwq; (have hbq := bcell hwq; (repeat (first | refine fills_no (by rfl) ?_ | refine fills_yes (by rfl) (fun vq hvq => ?_))); simp only [List.filter_nil, fills]; unfold upAt; go_simp; (try go_bits); (try simp only [↓IntWalk.iteOmega]); (try (rw [dif_pos (by omega)]; go_simp; try go_bits)); first | exact upOut_value | (apply upOut_call; (go_at_call 97; exact cG _)) | (apply upOut_eq; (go_at_call 97; exact cG _)) | (apply upOut_call; (go_at_call 98; exact cN _ (H.out.up hwq) (hk.lastOk hg))) | (apply upOut_eq; (go_at_call 98; exact cN _ (H.out.up hwq) (hk.lastOk hg))))
                   go_simp; refine hK _ _ ?_; clear hK K))
              refine wpUp_nil (fun wq hwq => ?_)
              simp only [fills]
              have BQ := bcell hwq
              go_wp2
              go_ret2
              refine ⟨?_, by (repeat (first | with_reducible exact Up.refl _ | with_reducible assumption | with_reducible refine Up.set ?_ (by first | exact Nat.le_refl _ | (simp only []; omega) | (simp; omega)) _ | with_reducible refine Up.alloc ?_ _ | with_reducible refine Up.drew ?_ | refine Up.trans ?_ (by with_reducible assumption)))⟩
              rw [hx, hy]
              rfl
          · rw [if_neg (fun ⟨b, _, _, hb1, _⟩ => hno hb1)] at hres
            have hx := HX.out.trans hres.1
            have hy := HY.out.trans (congrArg Int.ofNat hres.2)
            have hno2 : ¬ ((n : Nat) : Int) = ((nodeOf k.c k.tree k.last : Nat) : Int) := by omega
            clear hres hgs HX HY
            go_wp2_with (first | (go_at_call 96; (with_reducible refine cCb.mono ?_); rintro e w' ⟨rfl, rfl⟩) | fail)
            refine wp_region_up 36 (by kernel_rfl) (by kernel_rfl) ?_
            simp only [List.take, List.drop]
            repeat (refine wpUp_step (fun K hK => ?_); go_simp; (try simp only [↓IntWalk.iteOmega]); first
              | (refine hK _ _ ?_; clear hK K)
              | (apply stepU_c
                 · intro wq hwq; (have hbq := bcell hwq; (repeat (first | refine fills_no (by rfl) ?_ | refine fills_yes (by rfl) (fun vq hvq => ?_))); simp only [List.filter_nil, fills]; unfold upAt; go_simp; (try go_bits); (try simp only [↓IntWalk.iteOmega]); (try (rw [dif_pos (by omega)]; go_simp; try go_bits)); first | exact upOut_value | (apply upOut_call; (go_at_call 97; exact cG _)) | (apply upOut_eq; (go_at_call 97; exact cG _)) | (apply upOut_call; (go_at_call 98; exact cN _ (H.out.up hwq) (hk.lastOk hg))) | (apply upOut_eq; (go_at_call 98; exact cN _ (H.out.up hwq) (hk.lastOk hg))))
                 go_simp; refine hK _ _ ?_; clear hK K))
            refine wpUp_nil (fun wq hwq => ?_)
            simp only [fills]
            have BQ := bcell hwq
            go_wp2
            go_ret2
            refine ⟨?_, by (repeat (first | with_reducible exact Up.refl _ | with_reducible assumption | with_reducible refine Up.set ?_ (by first | exact Nat.le_refl _ | (simp only []; omega) | (simp; omega)) _ | with_reducible refine Up.alloc ?_ _ | with_reducible refine Up.drew ?_ | refine Up.trans ?_ (by with_reducible assumption)))⟩
            rw [hx, hy]
            rfl
        · rw [if_neg (fun ⟨b, _, hb1, _⟩ => hg hb1)] at hres
          have hx := HX.out.trans hres.1
          have hy := HY.out.trans (congrArg Int.ofNat hres.2)
          have hg2' : k.grow = false := by simpa using hg
          rw [hg2'] at cG
          clear hres hgs HX HY hg
          go_wp2_with (first | (go_at_call 96; (with_reducible refine cCb.mono ?_); rintro e w' ⟨rfl, rfl⟩) | fail)
          refine wp_region_up 36 (by kernel_rfl) (by kernel_rfl) ?_
          simp only [List.take, List.drop]
          repeat (refine wpUp_step (fun K hK => ?_); go_simp; (try simp only [↓IntWalk.iteOmega]); first
            | (refine hK _ _ ?_; clear hK K)
            | (apply stepU_c
               · intro wq hwq; (have hbq := bcell hwq; (repeat (first | refine fills_no (by rfl) ?_ | refine fills_yes (by rfl) (fun vq hvq => ?_))); simp only [List.filter_nil, fills]; unfold upAt; go_simp; (try go_bits); (try simp only [↓IntWalk.iteOmega]); (try (rw [dif_pos (by omega)]; go_simp; try go_bits)); first | exact upOut_value | (apply upOut_call; (go_at_call 97; exact cG _)) | (apply upOut_eq; (go_at_call 97; exact cG _)))
               go_simp; refine hK _ _ ?_; clear hK K))
          refine wpUp_nil (fun wq hwq => ?_)
          simp only [fills]
          have BQ := bcell hwq
          go_wp2
          go_ret2
          refine ⟨?_, by (repeat (first | with_reducible exact Up.refl _ | with_reducible assumption | with_reducible refine Up.set ?_ (by first | exact Nat.le_refl _ | (simp only []; omega) | (simp; omega)) _ | with_reducible refine Up.alloc ?_ _ | with_reducible refine Up.drew ?_ | refine Up.trans ?_ (by with_reducible assumption)))⟩
          rw [hx, hy]
          rfl
      · obtain ⟨j, hj⟩ : ∃ j : Nat, findCh k.tree.ns n (s[size].toNat : Int) k.tree.ns.length = j := ⟨(findCh k.tree.ns n (s[size].toNat : Int) k.tree.ns.length).toNat, by omega⟩
        have HS := Lib.hid (HA.out.step hk (by rw [hsl]; exact hlt) (by rw [← eb]; exact hj))
        rw [hj] at cCb
        clear hf hj eb
        go_wp2_with (go_at_call 96; (with_reducible refine cCb.mono ?_); rintro e w' ⟨rfl, rfl⟩)
        go_roundw
        case rel => exact ⟨j, size + 1, rfl, by go_num, HS.out, rfl⟩
        case measure => simp [intOf]; omega
    · skip
      obtain ⟨c0, c1, c2, c3, c4, c5, c6, c7⟩ := h.cells
      have hfr := box_free h.box
      have htb := h.lt
      obtain ⟨g, cap, nx, rfl, hg1, hg2, hg3, hg4, hg5, d0, d1, d2, d3, d4, d5⟩ := h.node1 hkt h1
      obtain ⟨ap, cp, rfl⟩ := h.shape
      unfold maxLen at hg2
      have cG := fun w => growI_any k.set k.base k.last ap k.ps.length cp w hk.set (by omega)
      have cX := fun w => nextI_any k.set k.base k.last ap k.ps.length cp w hk.set (by omega)
      rw [growN_eq] at cG
      have cN := fun w hT hl => nodeOf_any lo tb k (.slice ap k.ps.length cp) (.slice (some ⟨g, 0, none⟩) k.tree.ns.length cap) vi k.last w hT hkt hl
      have H := Lib.hid h
      have en : Hid (((clr k.set : Int) + 2 + k.ps.length) = (k.next : Nat)) := by unfold Hid KnD.next KnD.c; omega
      simp only [knV] at cG cX
      clear h
      have hse : size = s.size := by omega
      have hres := KnD.deep_longest hk HL.out h1 h2 (by rw [hsl]; omega) HA.out.word (.inl (by rw [hsl]; exact hse))
      rw [if_neg (fun ⟨b, hb1, _⟩ => by have := (List.getElem?_eq_some_iff.1 hb1).1; omega)] at hres
      have hx := HX.out.trans hres.1
      have hy := HY.out.trans (congrArg Int.ofNat hres.2)
      subst hse
      clear hres cC HX HY
      go_wp2
      refine wp_region_up 36 (by kernel_rfl) (by kernel_rfl) ?_
      simp only [List.take, List.drop]
      repeat (refine wpUp_step (fun K hK => ?_); go_simp; (try simp only [↓IntWalk.iteOmega]); first
        | (refine hK _ _ ?_; clear hK K)
        | (apply stepU_c
           · intro wq hwq; (have hbq := bcell hwq; (repeat (first | refine fills_no (by rfl) ?_ | refine fills_yes (by rfl) (fun vq hvq => ?_))); simp only [List.filter_nil, fills]; unfold upAt; go_simp; (try go_bits); (try simp only [↓IntWalk.iteOmega]); (try (rw [dif_pos (by omega)]; go_simp; try go_bits)); first | exact upOut_value)
           go_simp; refine hK _ _ ?_; clear hK K))
      refine wpUp_nil (fun wq hwq => ?_)
      simp only [fills]
      have BQ := bcell hwq
      go_wp2
      go_ret2
      refine ⟨?_, by (repeat (first | with_reducible exact Up.refl _ | with_reducible assumption | with_reducible refine Up.set ?_ (by first | exact Nat.le_refl _ | (simp only []; omega) | (simp; omega)) _ | with_reducible refine Up.alloc ?_ _ | with_reducible refine Up.drew ?_ | refine Up.trans ?_ (by with_reducible assumption)))⟩
      rw [hx, hy]
      rfl
end Go.Proofs.YtgbakgaegldomaaGreat

/- Walk of the program's greedy. Conditions: what is known is valid and can be read; the data fits. -/
namespace Go.Proofs.YtgbakgaegldomaaGreat
open Go Go.RowKit
theorem TreeAt.base {lo lo' tb : Nat} {k : KnD} {vp vn vi : Value} {w : World} (h : TreeAt lo tb k vp vn vi w) (hl : lo' ≤ lo) : TreeAt lo' tb k vp vn vi w := ⟨h.box, Nat.le_trans hl h.low, ownsRow_base h.prs hl, ownsRow_base h.nod hl, ownsRow_base h.idx hl⟩
structure GiW (w : World) (tb : Nat) (k : KnD) (vp vn vi vc : Value) (acc : List Int) (wr : World) : Prop where
  tree : TreeAt w.heap.size tb k vp vn vi wr
  own : ownI wr w.heap.size vc acc
  sep : ∀ b, vc.ownBlock = some b → ¬ Own tb vp vn vi b
  up : Up w wr
theorem GiW.upd {w : World} {tb : Nat} {k : KnD} {vp vn vi vc : Value} {acc : List Int} {wr w' : World} (h : GiW w tb k vp vn vi vc acc wr) (hu : Up wr w') : GiW w tb k vp vn vi vc acc w' := ⟨h.tree.up hu, ownsRow_up h.own hu, h.sep, h.up.trans hu⟩
theorem GiW.tr {w : World} {tb : Nat} {k k' : KnD} {vp vn vi vc : Value} {acc : List Int} {wr w' : World} (h : GiW w tb k vp vn vi vc acc wr) (hp : TrPost w.heap.size tb k' vp vn vi wr w') : ∃ vp' vn' vi', GiW w tb k' vp' vn' vi' vc acc w' := by
  obtain ⟨vp', vn', vi', hT, hF, hO⟩ := hp
  refine ⟨vp', vn', vi', hT, hF.row h.own h.sep, ?_, Fr.upto h.up hF (fun b hb => (h.tree.own_lo b hb).1)⟩
  intro b hb ho
  rcases hO b ho with h1 | h1
  · exact h.sep b hb h1
  · have := (h.own.lt b hb).2; omega
theorem GiW.app {w : World} {tb : Nat} {k : KnD} {vp vn vi vc : Value} {acc : List Int} {wr w' : World} (h : GiW w tb k vp vn vi vc acc wr) {o : Obj} {x : Int} {v' : Value} (hv : w'.ownsRow w.heap.size 3 1 v' (acc.length + 1) (cellsI acc ++ [.int .i64 x])) (hg : (wr.alloc o).grownBy w' vc.ownBlock) (hn : NewOr (wr.alloc o).heap.size vc v') : GiW w tb k vp vn vi v' (acc ++ [x]) w' := by
  have hA := h.upd (Up.alloc (Up.refl wr) o)
  have hFr : Fr (fun b => vc.ownBlock = some b) (wr.alloc o) w' := (Fr.refl _ _).gr hg (fun b hb => .inl hb)
  refine ⟨hA.tree.fr hFr (fun b hb e => hA.sep b e hb), ?_, ?_, hA.up.grown hg (fun b hb => (hA.own.lt b hb).1)⟩
  · rw [← cellsI_snoc] at hv
    exact ownsRow_n hv (by simp)
  · intro b hb ho
    rcases hn b hb with h1 | h1
    · exact hA.sep b h1 ho
    · have := (hA.tree.own_lo b ho).2; omega
structure GiD (T : List Int) (k0 : KnD) (m : Nat) (k : KnD) (d : List UInt8) (acc : List Int) : Prop where
  len : d.length ≤ m
  le : d.length ≤ 2000
  sum : acc.length + 2 * d.length ≤ 4001
  tot : acc ++ (if k.full = true ∧ d ≠ [] then (k.c : Int) :: greedyN m k.cleared d else greedyN m k d) = T
  ok : k.Ok
  set : k.set = k0.set
  lit : ∀ b ∈ d, b.toNat < k0.c
structure GiE (T : List Int) (k0 : KnD) (m : Nat) (k : KnD) (d : List UInt8) (acc : List Int) : Prop where
  len : d.length ≤ m
  le : d.length ≤ 2000
  sum : acc.length + 2 * d.length ≤ 4002
  tot : acc ++ greedyN m k d = T
  ok : k.Ok
  set : k.set = k0.set
  lit : ∀ b ∈ d, b.toNat < k0.c
theorem c_of {k k0 : KnD} (h : k.set = k0.set) : k.c = k0.c := by unfold KnD.c; rw [h]
theorem GiD.nil {T : List Int} {k0 : KnD} {m : Nat} {k : KnD} {acc : List Int} (h : GiD T k0 m k [] acc) : acc ++ [(clr k0.set : Int) + 1] = T := by
  have h1 := h.tot
  rw [if_neg (fun h => h.2 rfl), greedyN_nil, c_of h.set] at h1
  exact h1
theorem GiD.full {T : List Int} {k0 : KnD} {m : Nat} {k : KnD} {d : List UInt8} {acc : List Int} (h : GiD T k0 m k d acc) (hd : d ≠ []) (hf : k.full = true) : GiE T k0 m k.cleared d (acc ++ [(clr k0.set : Int)]) := by
  have h1 := h.tot
  rw [if_pos ⟨hf, hd⟩, c_of h.set] at h1
  exact ⟨h.len, h.le, by have := h.sum; simp; omega, by rw [List.append_assoc]; exact h1, KnD.cleared_ok h.ok, h.set, h.lit⟩
theorem GiD.more {T : List Int} {k0 : KnD} {m : Nat} {k : KnD} {d : List UInt8} {acc : List Int} (h : GiD T k0 m k d acc) (hf : k.full = false) : GiE T k0 m k d acc := by
  have h1 := h.tot
  rw [if_neg (fun h => by rw [hf] at h; cases h.1)] at h1
  exact ⟨h.len, h.le, by have := h.sum; omega, h1, h.ok, h.set, h.lit⟩
theorem GiE.step {T : List Int} {k0 : KnD} {m : Nat} {k : KnD} {d : List UInt8} {acc : List Int} (h : GiE T k0 m k d acc) (hd : d ≠ []) :
    k.follows (k.find (k.longest d)) = true ∧ ¬ k.find (k.longest d) = (k.c : Int) ∧ 1 ≤ (k.longest d).length ∧ (k.longest d).length ≤ d.length ∧ GiD T k0 (m - 1) (k.after (k.find (k.longest d))) (d.drop (k.longest d).length) (acc ++ [k.find (k.longest d)]) := by
  have hll := KnD.longest_le (k := k) d
  have hlp := KnD.longest_pos (k := k) hd
  have hl : ∀ b ∈ d, b.toNat < k.c := by rw [c_of h.set]; exact h.lit
  obtain ⟨hfw, -⟩ := KnD.find_any h.ok hd hl
  have hpos : 0 < d.length := List.length_pos_iff.2 hd
  have h1 := h.len; have h2 := h.le; have h3 := h.sum; have h4 := h.tot
  obtain ⟨n, rfl⟩ : ∃ n, m = n + 1 := ⟨m - 1, by omega⟩
  refine ⟨hfw, (KnD.fol_ne h.ok hfw).1, hlp, hll, by rw [List.length_drop]; omega, by rw [List.length_drop]; omega, by rw [List.length_drop, List.length_append]; simp; omega, ?_, KnD.after_ok h.ok hfw, h.set, fun b hb => h.lit b (List.mem_of_mem_drop hb)⟩
  rw [greedyN, if_neg hd] at h4
  rw [← h4, List.append_assoc]
  rfl
theorem GiD.start {k : KnD} {d : List UInt8} (hk : k.Ok) (hd : d.length ≤ 2000) (hl : ∀ b ∈ d, b.toNat < k.c) : GiD (greedy k d) k d.length k.cleared d [(clr k.set : Int)] := by
  have hf : k.cleared.full = false := by
    unfold KnD.full KnD.cleared
    have h0 := hk.base0
    have : ¬ k.base < ((k.ps.take k.base.toNat).length : Int) := by rw [List.length_take]; omega
    rw [Bool.and_eq_false_iff]; right
    exact decide_eq_false this
  refine ⟨Nat.le_refl _, hd, by simp; omega, ?_, KnD.cleared_ok hk, rfl, hl⟩
  rw [if_neg (fun h => by rw [hf] at h; cases h.1)]
  rfl
def RelGi (T : List Int) (k0 : KnD) (tb : Nat) (w : World) (t vc : Value) (wr : World) : Prop := ∃ (k : KnD) (d : List UInt8) (vp vn vi : Value) (m : Nat) (acc : List Int), t = .string (bs d) ∧ GiD T k0 m k d acc ∧ GiW w tb k vp vn vi vc acc wr
set_option maxRecDepth 100000 in
set_option maxHeartbeats 8000000 in
theorem greedy_any (k : KnD) (v : Value) (lo : Nat) (d : ByteArray) (w : World) (hk : k.Ok) (hr : RdP lo w v k.ps) (hd : d.size ≤ 2000) (hl : ∀ b ∈ d.data.toList, b.toNat < k.c) :
    Calls Tryz.prog 88  #[kV k v, .string d] w (IntsPost (greedy k d.data.toList) w) := by
  obtain ⟨i0, hi, hz0, hz1, hz2⟩ := info_parts infoIntG
  have hkt := hk.tr
  have cK := fun w => clearI_any k.set w hk.set
  have cE := fun w => endI_any k.set w hk.set
  obtain ⟨hb2, hb3, hb4⟩ := clr_le hk.set
  have hrt := fun (wq : World) (hu : Up w wq) => hr.up hu
  have cN := fun wq hr => newTree_any k v lo wq hk hr
  have HK := Lib.hid hk
  have hkb := And.intro hk.base0 hk.base1
  obtain ⟨a, cap, rfl, -, -, -, -⟩ := hr
  have HLl := Lib.hid hl
  have hdl := ba_len d
  clear hk hl
  simp only [kV] at *
  go_enter Tryz.func88, Tryz.ntmps88
  go_wp2
  refine wp_region_upf 6 (by kernel_rfl) (by kernel_rfl) ?_
  simp only [List.take, List.drop]
  repeat (refine wpUp_step (fun K hK => ?_); go_simp; (try simp only [↓IntWalk.iteOmega]); first
    | (refine hK _ _ ?_; clear hK K)
    | (apply stepU_c
       · intro wq hwq; (have hbq := bcell hwq; (repeat (first | refine fills_no (by rfl) ?_ | refine fills_yes (by rfl) (fun vq hvq => ?_))); simp only [List.filter_nil, fills]; unfold upAt; go_simp; (try go_bits); (try simp only [↓IntWalk.iteOmega]); (try (rw [dif_pos (by omega)]; go_simp; try go_bits)); first | exact upOut_value | (apply upOut_call; (go_at_call 47; exact cK _)) | (apply upOut_eq; (go_at_call 47; exact cK _)) | (apply upOut_call; (go_at_call 76; exact cE _)) | (apply upOut_eq; (go_at_call 76; exact cE _)))
       go_simp; refine hK _ _ ?_; clear hK K))
  refine wpUp_nil (fun wq hwq => ?_)
  simp only [fills]
  go_wp2
  rw [onlyN_normal]
  have hU0 : Up w wq := by (repeat (first | with_reducible exact Up.refl _ | with_reducible assumption | with_reducible refine Up.set ?_ (by first | exact Nat.le_refl _ | (simp only []; omega) | (simp; omega)) _ | with_reducible refine Up.alloc ?_ _ | with_reducible refine Up.drew ?_ | refine Up.trans ?_ (by with_reducible assumption)))
  have hkn : KnAt w.heap.size k (.slice a k.ps.length cap) wq := box_up hwq (MapKept.heap_alloc w _).1
  obtain ⟨b0, r0, r1, r2, r3, r4, r5⟩ := hkn.cells
  clear hkn hwq
  go_wp2_with fail
  with_reducible refine (cN _ (hrt _ hU0)).mono ?_
  rintro e w2 ⟨tb, vp, vn, vi, rfl, hT2, U2⟩
  have hT2' := hT2.base (lo' := w.heap.size) hU0.size
  have htb2 := hT2.lt
  have hU2 := hU0.trans U2
  have cF := followC_any w.heap.size tb k vp vn vi w2 hT2' hkt hkb.1 hkb.2
  rw [show k.c = clr k.set from rfl] at cF
  have HT2 := Lib.hid (And.intro hT2' hU2)
  clear hT2 hT2' hU2 cN hrt
  go_wp2_with fail
  with_reducible refine cF.mono ?_
  rintro e w3 ⟨⟨vv, rfl⟩, hP3⟩
  obtain ⟨vp3, vn3, vi3, hT3, hF3, -⟩ := hP3
  have hU3 := Fr.upto HT2.out.2 hF3 (fun b hb => (HT2.out.1.own_lo b hb).1)
  have htb3 := hT3.lt
  have hW3 : ∀ (vc : Value), vc = .slice (some ⟨w3.heap.size, 0, none⟩) 1 1 → GiW w tb k.cleared vp3 vn3 vi3 vc [(clr k.set : Int)] (w3.alloc (.cells #[.int .i64 (clr k.set)] 3)) := fun vc e => by
    subst e
    exact ⟨hT3.up (Up.alloc (Up.refl _) _), own_made1 w3 hU3.size, fun b hb ho => by have := (hT3.own_lo b ho).2; simp only [Value.ownBlock, Option.some.injEq] at hb; omega, hU3.alloc _⟩
  have HW3 := Lib.hid (hW3 _ rfl)
  clear hT3 hF3 hU3 hW3
  have HL : Hid (d = bs d.data.toList) := (bs_self d).symm
  generalize d.data.toList = L at *
  go_wp2
  go_loopw [1, 8] (fun t out wr => RelGi (greedy k L) k tb w t out wr) (fun t _ _ => slen t)
  case atStart =>
    exact ⟨k.cleared, L, vp3, vn3, vi3, L.length, _, congrArg Value.string HL.out, GiD.start HK.out (by omega) HLl.out, HW3.out⟩
  case round =>
    clear HL HW3 HT2 HLl hdl hd
    obtain ⟨k1, d, vp, vn, vi, m, acc, rfl, hD, hW⟩ := hrel
    obtain ⟨ac, cc, rfl⟩ := ownsRow_shape hW.own
    have hsum := hD.sum
    have hle := hD.le
    by_cases hde : d = []
    · subst hde
      have HT := Lib.hid hD.nil
      have HW := Lib.hid hW
      clear hD hW
      rw [show bs ([] : List UInt8) = (⟨#[]⟩ : ByteArray) from rfl]
      go_wp2_with (at_builtin; (refine wpList_append2 rfl _ _ 75 rfl w.heap.size 3 i0 (.int .i64 0) 1 8 Tryz.underlying75 hi hz0 hz1 hz2 rfl (by decide) _ _ _ rfl (ownsRow_up (HW.out).own (Up.alloc (Up.refl _) _)) ⟨(wr).heap.size, 0, none⟩ 1 1 [.int .i64 ((clr k.set : Int) + 1)] rfl rfl (new_cells [.int .i64 ((clr k.set : Int) + 1)] _ rfl) (by intro u hu; simp at hu; subst hu; rfl) (by unfold maxLen; omega) (by omega) (by have := (HW.out).up.size; simp; omega) ?_; rintro va wa hva hga hna; obtain ⟨aa, ca, rfl⟩ := ownsRow_shape hva; have HA := Lib.hid (And.intro hva (And.intro hga hna)); clear hva hga hna))
      go_ret
      have h4 := HW.out.app HA.out.1 HA.out.2.1 HA.out.2.2
      exact ⟨_, rfl, (by have := h4.own; rw [HT.out] at this; exact this), h4.up⟩
    · have HNE : (bs d).toList.isEmpty = false := by rw [Lib.toList_data, bs_data]; cases d with | nil => exact absurd rfl hde | cons _ _ => rfl
      have hpos : 0 < d.length := List.length_pos_iff.2 hde
      have hpl1 := hD.ok.nums.2.2.2.1
      obtain ⟨ap, cp, rfl⟩ := hW.tree.shape
      have cQ := fun w => fullI_any k1.set k1.base k1.last ap k1.ps.length cp w hD.ok.set (by omega)
      rw [fullN_eq] at cQ
      simp only [knV] at cQ
      have htb := hW.tree.lt
      obtain ⟨c0, c1, c2, c3, c4, c5, c6, c7⟩ := hW.tree.cells
      have hset := hD.set
      have hkt1 := hD.ok.tr
      have hb01 := And.intro hD.ok.base0 hD.ok.base1
      have HD := Lib.hid hD
      have HW := Lib.hid hW
      have HDE := Lib.hid hde
      clear hD hW hde
      by_cases hf : k1.full = true
      · rw [hf] at cQ
        have cF := fun wq hT => followC_any w.heap.size tb k1 (.slice ap k1.ps.length cp) vn vi wq hT hkt1 hb01.1 hb01.2
        rw [show k1.c = clr k.set from c_of hset] at cF
        have HE := Lib.hid (HD.out.full HDE.out hf)
        clear hf hset
        go_wp2_with (first | (go_at_call 46; (with_reducible refine (cQ _).mono ?_); rintro e w6 ⟨rfl, U6⟩; have B6 := bcell U6; have Z6 := U6.size; (try simp at Z6); (try rw [Nat.add_one_le_iff] at Z6)) | fail)
        with_reducible refine (cF _ (HW.out.upd U6).tree).mono ?_
        rintro e w7 ⟨⟨vv, rfl⟩, hP7⟩
        obtain ⟨vp7, vn7, vi7, hW7⟩ := (HW.out.upd U6).tr hP7
        have HW7 := Lib.hid hW7
        clear hP7 hW7 B6 Z6 c0 c1 c2 c3 c4 c5 c6 c7
        go_wp2_with (at_builtin; (refine wpList_append2 rfl _ _ 75 rfl w.heap.size 3 i0 (.int .i64 0) 1 8 Tryz.underlying75 hi hz0 hz1 hz2 rfl (by decide) _ _ _ rfl (ownsRow_up (HW7.out).own (Up.alloc (Up.refl _) _)) ⟨(w7).heap.size, 0, none⟩ 1 1 [.int .i64 (clr k.set : Int)] rfl rfl (new_cells [.int .i64 (clr k.set : Int)] _ rfl) (by intro u hu; simp at hu; subst hu; rfl) (by unfold maxLen; omega) (by omega) (by have := (HW7.out).up.size; simp; omega) ?_; rintro va wa hva hga hna; obtain ⟨aa, ca, rfl⟩ := ownsRow_shape hva; have HA := Lib.hid (And.intro hva (And.intro hga hna)); clear hva hga hna); have HW8 := Lib.hid (HW7.out.app HA.out.1 HA.out.2.1 HA.out.2.2); clear HA)
        generalize acc ++ [(clr k.set : Int)] = acc2 at *
        obtain ⟨hfw, hxc, hlp, hll, hD9⟩ := HE.out.step HDE.out
        have hok2 := HE.out.ok
        have hle2 := HE.out.le
        have hsum2 := HE.out.sum
        have cL := fun wq hT => longest_any w.heap.size tb k1.cleared vp7 vn7 vi7 (bs d) wq hT hok2 (by rw [bs_size]; omega) (by rw [bs_size]; omega) (by rw [bs_data, c_of HE.out.set]; exact HE.out.lit)
        rw [bs_data] at cL
        have cG := fun wq hT => followW_any w.heap.size tb k1.cleared vp7 vn7 vi7 (k1.cleared.find (k1.cleared.longest d)) wq hT hok2 hxc hfw
        have hbd : (bs d).extract (k1.cleared.longest d).length d.length = bs (d.drop (k1.cleared.longest d).length) := by rw [bs_ext]; congr 1; exact List.take_of_length_le (by rw [List.length_drop]; omega)
        have hsz := bs_size d
        have HD9 := Lib.hid hD9
        have HBD := Lib.hid hbd
        clear hD9 hbd hfw hxc hok2 HE
        generalize hx : k1.cleared.find (k1.cleared.longest d) = x at *
        generalize hnl : (k1.cleared.longest d).length = n1 at *
        generalize hka : k1.cleared.after x = k9 at *
        clear hx hnl hka
        go_wp2_with fail
        with_reducible refine (cL _ HW8.out.tree).mono ?_
        rintro e w9 ⟨rfl, U9⟩
        go_wp2_with fail
        with_reducible refine (cG _ (HW8.out.upd U9).tree).mono ?_
        rintro e w10 ⟨⟨vv, rfl⟩, hP10⟩
        obtain ⟨vp10, vn10, vi10, hW10⟩ := (HW8.out.upd U9).tr hP10
        have HW10 := Lib.hid hW10
        clear hP10 hW10
        go_wp2_with (at_builtin; (refine wpList_append2 rfl _ _ 75 rfl w.heap.size 3 i0 (.int .i64 0) 1 8 Tryz.underlying75 hi hz0 hz1 hz2 rfl (by decide) _ _ _ rfl (ownsRow_up (HW10.out).own (Up.alloc (Up.refl _) _)) ⟨(w10).heap.size, 0, none⟩ 1 1 [.int .i64 x] rfl rfl (new_cells [.int .i64 x] _ rfl) (by intro u hu; simp at hu; subst hu; rfl) (by unfold maxLen; omega) (by omega) (by have := (HW10.out).up.size; simp; omega) ?_; rintro va wa hva hga hna; obtain ⟨aa, ca, rfl⟩ := ownsRow_shape hva; have HA := Lib.hid (And.intro hva (And.intro hga hna)); clear hva hga hna))
        go_roundw
        case rel => exact ⟨k9, d.drop n1, vp10, vn10, vi10, m - 1, acc2 ++ [x], by rw [HBD.out], HD9.out, (HW10.out.app HA.out.1 HA.out.2.1 HA.out.2.2)⟩
        case measure =>
          simp only [slen]
          rw [HBD.out, bs_size, bs_size, List.length_drop]; omega
      · have hff : k1.full = false := by simpa using hf
        rw [hff] at cQ
        have HE := Lib.hid (HD.out.more hff)
        clear hf hset hff
        go_wp2_with (first | ((go_at_call 46; (with_reducible refine (cQ _).mono ?_); rintro e w6 ⟨rfl, U6⟩; have B6 := bcell U6; have Z6 := U6.size; (try simp at Z6); (try rw [Nat.add_one_le_iff] at Z6)); have HW8 := Lib.hid (HW.out.upd U6); clear B6 Z6 c0 c1 c2 c3 c4 c5 c6 c7) | fail)
        obtain ⟨hfw, hxc, hlp, hll, hD9⟩ := HE.out.step HDE.out
        have hok2 := HE.out.ok
        have hle2 := HE.out.le
        have hsum2 := HE.out.sum
        have cL := fun wq hT => longest_any w.heap.size tb k1 (.slice ap k1.ps.length cp) vn vi (bs d) wq hT hok2 (by rw [bs_size]; omega) (by rw [bs_size]; omega) (by rw [bs_data, c_of HE.out.set]; exact HE.out.lit)
        rw [bs_data] at cL
        have cG := fun wq hT => followW_any w.heap.size tb k1 (.slice ap k1.ps.length cp) vn vi (k1.find (k1.longest d)) wq hT hok2 hxc hfw
        have hbd : (bs d).extract (k1.longest d).length d.length = bs (d.drop (k1.longest d).length) := by rw [bs_ext]; congr 1; exact List.take_of_length_le (by rw [List.length_drop]; omega)
        have hsz := bs_size d
        have HD9 := Lib.hid hD9
        have HBD := Lib.hid hbd
        clear hD9 hbd hfw hxc hok2 HE
        generalize hx : k1.find (k1.longest d) = x at *
        generalize hnl : (k1.longest d).length = n1 at *
        generalize hka : k1.after x = k9 at *
        clear hx hnl hka
        go_wp2_with fail
        with_reducible refine (cL _ HW8.out.tree).mono ?_
        rintro e w9 ⟨rfl, U9⟩
        go_wp2_with fail
        with_reducible refine (cG _ (HW8.out.upd U9).tree).mono ?_
        rintro e w10 ⟨⟨vv, rfl⟩, hP10⟩
        obtain ⟨vp10, vn10, vi10, hW10⟩ := (HW8.out.upd U9).tr hP10
        have HW10 := Lib.hid hW10
        clear hP10 hW10
        go_wp2_with (at_builtin; (refine wpList_append2 rfl _ _ 75 rfl w.heap.size 3 i0 (.int .i64 0) 1 8 Tryz.underlying75 hi hz0 hz1 hz2 rfl (by decide) _ _ _ rfl (ownsRow_up (HW10.out).own (Up.alloc (Up.refl _) _)) ⟨(w10).heap.size, 0, none⟩ 1 1 [.int .i64 x] rfl rfl (new_cells [.int .i64 x] _ rfl) (by intro u hu; simp at hu; subst hu; rfl) (by unfold maxLen; omega) (by omega) (by have := (HW10.out).up.size; simp; omega) ?_; rintro va wa hva hga hna; obtain ⟨aa, ca, rfl⟩ := ownsRow_shape hva; have HA := Lib.hid (And.intro hva (And.intro hga hna)); clear hva hga hna))
        go_roundw
        case rel => exact ⟨k9, d.drop n1, vp10, vn10, vi10, m - 1, acc ++ [x], by rw [HBD.out], HD9.out, (HW10.out.app HA.out.1 HA.out.2.1 HA.out.2.2)⟩
        case measure =>
          simp only [slen]
          rw [HBD.out, bs_size, bs_size, List.length_drop]; omega
end Go.Proofs.YtgbakgaegldomaaGreat

