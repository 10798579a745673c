/- Texts joined into one: the walks and laws that the last text leans on. Conditions: as each says. -/
import Derived.Test.YtgbakgaegldomaaGreatMFnWriterKnownLawXM
import Derived.Test.YtgbakgaegldomaaGreatMFnWriterKnownLawO
import Derived.Test.YtgbakgaegldomaaGreatMFnWriterKnownLawN
import Derived.Test.YtgbakgaegldomaaGreatMFnWriterKnownLawXJ
import Derived.Test.YtgbakgaegldomaaGreatMFnWriterKnownLawXO
import Derived.Test.YtgbakgaegldomaaGreatMFnWriterKnownLawXN
import Derived.Test.YtgbakgaegldomaaGreatMFnWriterKnownLawXF
import Derived.Test.YtgbakgaegldomaaGreatMFnWriterKnownLawXA
import Derived.Test.YtgbakgaegldomaaGreatMFnWriterKnownLawX
import Derived.Test.YtgbakgaegldomaaGreatMFnWriterKnownLawXC

set_option linter.unusedVariables false
set_option linter.unusedSimpArgs false
/- Plain: what WriteData leaves, valid or not, as one value; what szWriter says of the sizes. Conditions: none. -/
namespace Go.Proofs.YtgbakgaegldomaaGreat
open Go Go.RowKit
def oWr (o : Option (WrD × List UInt8)) : WrD := (o.map (·.1)).getD wr0
def oBy (o : Option (WrD × List UInt8)) : List UInt8 := (o.map (·.2)).getD []
theorem ownPr_nil (w : World) (base : Nat) : ownPr w base (.slice none 0 0) [] := ⟨by simp [cellsPr], .inl ⟨rfl, rfl⟩⟩
theorem wdP_all {o : Option (WrD × List UInt8)} {w w' : World} {e : Ending} (h : WdPost o w e w') : ∃ v, e = .returned (.tuple #[wrV (oWr o) v, .string (bs (oBy o)), .bool o.isSome]) ∧ ownPr w' w.heap.size v (oWr o).k.ps ∧ Up w w' := by
  cases o with
  | none => exact ⟨.slice none 0 0, h.1, ownPr_nil _ _, h.2⟩
  | some x => obtain ⟨v, he, ho, hu⟩ := h; exact ⟨v, he, ho, hu⟩
end Go.Proofs.YtgbakgaegldomaaGreat

/- WriteAll of the reference, for what is known of any kind and any parts. Conditions: the parts are at most 2^20, each of at most 2^20 bytes. -/
namespace Go.Proofs.YtgbakgaegldomaaGreat
open Go Go.RowKit
def waW : WrD → List ByteArray → List UInt8 → Option (List UInt8)
  | w, [], out => (wcO w).map (out ++ ·)
  | w, p :: ps, out => match wdO w p.data.toList with
    | none => none
    | some r => waW r.1 ps (out ++ r.2)
def waG (k : KnD) (ps : List ByteArray) : Option (List UInt8) := if validK k then waW ⟨k, [], [], false⟩ ps [] else none
def nwX (k : KnD) : WrD := if validK k then ⟨k, [], [], false⟩ else wr0
theorem nwP_all {k : KnD} {w w' : World} {e : Ending} (h : NwPost k w e w') : ∃ v, e = .returned (.tuple #[wrV (nwX k) v, .bool (validK k)]) ∧ ownPr w' w.heap.size v (nwX k).k.ps ∧ Up w w' := by
  unfold NwPost at h
  unfold nwX
  split at h
  · rename_i hv
    rw [if_pos hv, hv]
    exact h
  · rename_i hv
    rw [if_neg hv, Bool.eq_false_iff.2 hv]
    exact ⟨.slice none 0 0, h.1, ownPr_nil _ _, h.2⟩
theorem wdO_case {x : WrD} {d : List UInt8} : (wdO x d = none ∧ oWr (wdO x d) = wr0 ∧ oBy (wdO x d) = []) ∨ (∃ r, wdO x d = some r ∧ oWr (wdO x d) = r.1 ∧ oBy (wdO x d) = r.2 ∧ wrOk r.1 ∧ r.2.length ≤ 41000) := by
  cases hb : (wrvB x && fitsB x.k.set (x.pend ++ d))
  · left
    rw [wdO_none hb]
    exact ⟨rfl, rfl, rfl⟩
  · right
    obtain ⟨h1, h2⟩ := Bool.and_eq_true_iff.1 hb
    obtain ⟨-, h3, h4⟩ := fitsB_lits h2
    have hx := wrvB_ok h1
    have hl : ∀ b ∈ d, b.toNat < clr x.k.set := fun b hb => h4 b (List.mem_append_right _ hb)
    rw [wdO_some hb]
    refine ⟨x.write d, rfl, rfl, rfl, (wrOk_write hx hl h3).1, ?_⟩
    unfold WrD.write
    split
    · exact Nat.zero_le _
    · rename_i h
      have hs := (WlD.outs _ _ _ _ (WlD.start hx h hl h3)).2
      show (packL _ _).length ≤ 41000
      rw [packL_length, List.length_take]
      have hs' : (x.all d).length ≤ 41000 := hs
      omega
theorem wrOk_new {k : KnD} (h : validK k = true) : wrOk ⟨k, [], [], false⟩ := by
  obtain ⟨h1, h2⟩ := ok_of_valid h
  exact ⟨h1, h2, (fun b hb => absurd hb (List.not_mem_nil)), Nat.zero_le _, (fun b hb => absurd hb (List.not_mem_nil)), Nat.zero_le _, .inl rfl, fun _ => ⟨rfl, rfl⟩⟩
theorem wrOk_bd {x : WrD} (h : wrOk x) : (-9223372036854775808 ≤ x.k.set.lit ∧ x.k.set.lit ≤ 9223372036854775807) ∧ x.k.ps.length ≤ 1048576 ∧ x.pend.length ≤ 1048576 ∧ x.bits.length ≤ 1048576 := by
  have h1 := h.1.nums
  have h2 := h.2.2.2.1
  have h3 := h.2.2.2.2.2.1
  obtain ⟨-, ⟨g1, g2⟩, -, -⟩ := setOk_bd h.1.set
  exact ⟨by omega, by omega, by omega, by omega⟩
theorem close_len {x : WrD} (h : wrOk x) : x.close.length ≤ 1000 := by
  obtain ⟨h1, -⟩ := open_len h
  obtain ⟨hok, -⟩ := WrD.open_ok h.1
  have h7 := h.2.2.2.2.2.1
  by_cases hpe : x.pend = []
  · have := KnD.width_bd hok
    rw [close_nil hpe, packL_length, List.length_append, codeL_length]; omega
  · have hbeg : x.beg = true := by
      cases hb : x.beg
      · exact absurd (h.2.2.2.2.2.2.2 hb).1 hpe
      · rfl
    have hopen : x.open = (x.bits, x.k) := by unfold WrD.open; rw [hbeg]; rfl
    have hlg : x.k.longest x.pend = x.pend := (h.2.2.2.2.2.2.1).resolve_left hpe
    obtain ⟨hfw, -⟩ := KnD.find_any h.1 hpe h.2.2.1
    rw [hlg] at hfw
    have hfb := KnD.find_bd h.1 hfw
    obtain ⟨n, hn⟩ := Int.eq_ofNat_of_zero_le hfb.1
    have hth := KnD.thru_fol h.1 hfw
    have hwd := KnD.width_bd h.1
    have hwa := KnD.width_bd (KnD.after_ok h.1 hfw)
    rw [hn] at hth hwa
    rw [close_word hpe hopen hn hth, packL_length, List.length_append, List.length_append, codeL_length, codeL_length]; omega
structure WaAt (T : Option (List UInt8)) (ps : List ByteArray) (j : Nat) (ok : Bool) (x : WrD) (out : List UInt8) : Prop where
  le : j ≤ ps.length
  len : out.length ≤ 41000 * j
  yes : ok = true → wrOk x ∧ waW x (ps.drop j) out = T
  no : ok = false → x = wr0 ∧ T = none
theorem WaAt.bd {T : Option (List UInt8)} {ps : List ByteArray} {j : Nat} {ok : Bool} {x : WrD} {out : List UInt8} (h : WaAt T ps j ok x out) : (-9223372036854775808 ≤ x.k.set.lit ∧ x.k.set.lit ≤ 9223372036854775807) ∧ x.k.ps.length ≤ 1048576 ∧ x.pend.length ≤ 1048576 ∧ x.bits.length ≤ 1048576 := by
  cases ok
  · rw [(h.no rfl).1]; decide
  · exact wrOk_bd (h.yes rfl).1
theorem WaAt.start (k : KnD) (ps : List ByteArray) : WaAt (waG k ps) ps 0 (validK k) (nwX k) [] := by
  unfold waG nwX
  refine WaAt.mk (Nat.zero_le _) (Nat.zero_le _) (fun h => ?_) (fun h => ?_)
  · rw [if_pos h, if_pos h]
    exact ⟨wrOk_new h, rfl⟩
  · rw [if_neg (by rw [h]; simp), if_neg (by rw [h]; simp)]
    exact ⟨rfl, rfl⟩
theorem WaAt.next {T : Option (List UInt8)} {ps : List ByteArray} {j : Nat} {x : WrD} {out : List UInt8} (h : WaAt T ps j true x out) (hj : j < ps.length) :
    WaAt T ps (j + 1) (wdO x ps[j].data.toList).isSome (oWr (wdO x ps[j].data.toList)) (out ++ oBy (wdO x ps[j].data.toList)) ∧ (oBy (wdO x ps[j].data.toList)).length ≤ 41000 := by
  have hT := (h.yes rfl).2
  rw [List.drop_eq_getElem_cons hj, waW] at hT
  have hl := h.len
  generalize ps[j].data.toList = d at *
  obtain h0 | ⟨r, h1, h2, h3, h4, h5⟩ := wdO_case (x := x) (d := d)
  · obtain ⟨h1, h2, h3⟩ := h0
    rw [h2, h3]
    rw [h1] at hT ⊢
    exact ⟨WaAt.mk hj (by rw [List.append_nil]; omega) (fun e => by cases e) (fun _ => ⟨rfl, hT.symm⟩), Nat.zero_le _⟩
  · rw [h2, h3]
    rw [h1] at hT ⊢
    exact ⟨WaAt.mk hj (by rw [List.length_append]; omega) (fun _ => ⟨h4, hT⟩) (fun e => by cases e), h5⟩
theorem WaAt.fin {T : Option (List UInt8)} {ps : List ByteArray} {j : Nat} {x : WrD} {out : List UInt8} (h : WaAt T ps j true x out) (hj : j = ps.length) : wcO x = some x.close ∧ T = some (out ++ x.close) ∧ x.close.length ≤ 1000 := by
  obtain ⟨h1, h2⟩ := h.yes rfl
  rw [hj, List.drop_length, waW, wcO_some (wrvB_of h1)] at h2
  exact ⟨wcO_some (wrvB_of h1), h2.symm, close_len h1⟩
def RelWs (T : Option (List UInt8)) (ps : List ByteArray) (b : Nat) (w1 : World) (ok out by' i : Value) (wr : World) : Prop := ∃ (j : Nat) (o : Bool) (x : WrD) (v : Value) (out' : List UInt8) (s : ByteArray),
  ok = .bool o ∧ out = .string (bs out') ∧ by' = .string s ∧ i = .int .i64 j ∧ WaAt T ps j o x out' ∧ WrAt b x v wr ∧ RdP 0 wr v x.k.ps ∧ Up w1 wr
def PtO (lo : Nat) (o : Option (WrD × List UInt8)) (u : Value) (w : World) : Prop := ∃ v, u = .tuple #[wrV (oWr o) v, .string (bs (oBy o)), .bool o.isSome] ∧ RdP lo w v (oWr o).k.ps
theorem ptO_closed {lo : Nat} {o : Option (WrD × List UInt8)} : ∀ u, UpClosed (PtO lo o u) := fun u w w' ⟨v, h1, h2⟩ hu => ⟨v, h1, h2.up hu⟩
def WrO' (lo : Nat) (y : WrD) (u : Value) (w : World) : Prop := ∃ v, u = wrV y v ∧ RdP lo w v y.k.ps
theorem wrO'_closed {lo : Nat} {y : WrD} : ∀ u, UpClosed (WrO' lo y u) := fun u w w' ⟨v, h1, h2⟩ hu => ⟨v, h1, h2.up hu⟩
theorem upOut_ptO {f : FuncId} {args : Array Value} {w : World} {o : Option (WrD × List UInt8)} {lo : Nat} (h : Calls Tryz.prog f args w (WdPost o w)) (hb : lo ≤ w.heap.size) : upOut Tryz.prog (PtO lo o) w (.ok (.enter f args) w) :=
  ⟨rfl, h.mono fun e w' hP => by obtain ⟨v, he, ho, hu⟩ := wdP_all hP; exact ⟨_, he, hu, v, rfl, (RdP.of_own ho).low hb⟩⟩
set_option maxRecDepth 100000 in
set_option maxHeartbeats 8000000 in
theorem waS_any (k : KnD) (v vp : Value) (lo : Nat) (ps : List ByteArray) (w : World) (hr : RdP lo w v k.ps) (hps : k.ps.length ≤ 1048576) (hp : ArgS w vp ps) (hn : ps.length ≤ 1048576) (hsz : ∀ s ∈ ps, s.size ≤ 1048576) :
    Calls Tryz.prog 8  #[kV k v, vp] w (Same (optS (waG k ps)) w) := by
  have cN := fun wq hr => nwS_any k v lo wq hr hps
  have hrt := fun (wq : World) (hu : Up w wq) => hr.up hu
  have hpt := fun (wq : World) (hu : Up w wq) => hp.up hu
  have hS := Lib.hid (WaAt.start k ps)
  obtain ⟨a, cap, rfl, -, -, -, -⟩ := id hr
  obtain ⟨ap, cp, rfl, hpm, -, -⟩ := id hp
  obtain ⟨T, hT⟩ : ∃ T, Hid (T = waG k ps) := ⟨_, rfl⟩
  rw [← hT.out] at hS ⊢
  unfold maxLen at hpm
  simp only [kV] at *
  go_enter Tryz.func8, Tryz.ntmps8
  go_wp2_with fail
  (with_reducible refine (cN _ (hrt _ (by (repeat (first | with_reducible exact Up.refl _ | with_reducible assumption | with_reducible refine Up.set ?_ (by first | exact Nat.le_refl _ | (simp only []; omega) | (simp; omega)) _ | with_reducible refine Up.alloc ?_ _ | with_reducible refine Up.drew ?_ | refine Up.trans ?_ (by with_reducible assumption)))))).mono ?_); rintro e w1 hP; obtain ⟨v1, rfl, ho1, U1⟩ := nwP_all hP
  obtain ⟨a1, c1, rfl⟩ := ownsRow_shape ho1
  have hU1 : Up w w1 := by (repeat (first | with_reducible exact Up.refl _ | with_reducible assumption | with_reducible refine Up.set ?_ (by first | exact Nat.le_refl _ | (simp only []; omega) | (simp; omega)) _ | with_reducible refine Up.alloc ?_ _ | with_reducible refine Up.drew ?_ | refine Up.trans ?_ (by with_reducible assumption)))
  generalize nwX k = x0 at *
  generalize validK k = ok0 at *
  clear hP U1 cN hr hp
  unfold wrV
  go_wp2_with fail
  have hX1 : WrAt w1.heap.size x0 (.slice a1 x0.k.ps.length c1) (w1.alloc (.cells #[.int .i64 x0.k.set.ord, .int .i64 x0.k.set.lit, .int .i64 x0.k.set.most, .slice a1 x0.k.ps.length c1, .int .i64 x0.k.base, .int .i64 x0.k.last, .string (bs x0.pend), .string (bs x0.bits), .bool x0.beg] 37)) := (MapKept.heap_alloc w1 _).1
  have hUa : Up w1 (w1.alloc (.cells #[.int .i64 x0.k.set.ord, .int .i64 x0.k.set.lit, .int .i64 x0.k.set.most, .slice a1 x0.k.ps.length c1, .int .i64 x0.k.base, .int .i64 x0.k.last, .string (bs x0.pend), .string (bs x0.bits), .bool x0.beg] 37)) := (Up.refl _).alloc _
  have hr1 : RdP 0 (w1.alloc (.cells #[.int .i64 x0.k.set.ord, .int .i64 x0.k.set.lit, .int .i64 x0.k.set.most, .slice a1 x0.k.ps.length c1, .int .i64 x0.k.base, .int .i64 x0.k.last, .string (bs x0.pend), .string (bs x0.bits), .bool x0.beg] 37)) (.slice a1 x0.k.ps.length c1) x0.k.ps := ((RdP.of_own ho1).low (Nat.zero_le _)).up hUa
  have HL0 := Lib.hid (And.intro hX1 (And.intro hUa hr1))
  clear hX1 hUa hr1 ho1
  generalize (w1.alloc (.cells #[.int .i64 x0.k.set.ord, .int .i64 x0.k.set.lit, .int .i64 x0.k.set.most, .slice a1 x0.k.ps.length c1, .int .i64 x0.k.base, .int .i64 x0.k.last, .string (bs x0.pend), .string (bs x0.bits), .bool x0.beg] 37)) = W at *
  go_loopw [7, 8, 9, 10] (fun ok out by' i wr => RelWs T ps w1.heap.size w1 ok out by' i wr) (fun _ _ _ i _ => ps.length - (intOf i).toNat)
  case atStart => exact ⟨0, ok0, x0, _, [], _, rfl, rfl, rfl, rfl, hS.out, HL0.out.1, HL0.out.2.2, HL0.out.2.1⟩
  case round =>
    clear HL0 hS
    obtain ⟨j, o, x, v, out', s, rfl, rfl, rfl, rfl, hM, hX, hrx, hU⟩ := hrel
    have hUw := hU1.trans hU
    obtain ⟨hb1, hb2, hb3, hb4⟩ := hM.bd
    have hol := hM.len
    have hj := hM.le
    have hos := bs_size out'
    obtain ⟨av, cv, rfl, -⟩ := id hrx
    obtain ⟨hbk, r0, r1, r2, r3, r4, r5, r6, r7, r8⟩ := hX.cells
    cases o
    · obtain ⟨hx0, hT0⟩ := hM.no rfl
      have cC := fun wq h => wcS_any x (.slice av x.k.ps.length cv) 0 wq h hb2 hb3 hb4
      obtain ⟨sa, sb, hsab⟩ : ∃ sa sb, optS (wcO x) = .tuple #[.string sa, .bool sb] := ⟨_, _, rfl⟩
      rw [hsab] at cC
      have HT0 := Lib.hid hT0
      clear hsab hM hx0 hT0
      unfold wrV at cC
      by_cases hlt : j < ps.length
      · go_wp2_with fail
        (with_reducible refine (cC _ hrx).mono ?_); rintro e w7 ⟨rfl, U7⟩
        go_wp2_with fail
        go_ret2
        exact ⟨by rw [HT0.out]; rfl, hUw.trans U7⟩
      · go_wp2_with fail
        (with_reducible refine (cC _ hrx).mono ?_); rintro e w7 ⟨rfl, U7⟩
        go_wp2_with fail
        go_ret2
        exact ⟨by rw [HT0.out]; rfl, hUw.trans U7⟩
    · by_cases hlt : j < ps.length
      · obtain ⟨gb, off, rfl, hgb, hgk, -, hnc, hcm⟩ := (hpt _ hUw).at hlt
        unfold maxLen at hcm
        have hs1 := hsz _ (List.getElem_mem hlt)
        obtain ⟨hN, hNl⟩ := hM.next hlt
        have HN := Lib.hid hN
        have hsl : (ps[j]).data.toList.length = (ps[j]).size := rfl
        have cI1 : ∀ wq v, RdP 0 wq v x.k.ps → Calls Tryz.prog 35  #[wrV x v, .string (ps[j])] wq (WdPost (wdO x (ps[j]).data.toList) wq) := fun wq v h => wdS_any x v 0 (ps[j]).data.toList wq h hb2 hb3 hb4 (by omega)
        clear hN hM hsl
        generalize wdO x (ps[j]).data.toList = X at *
        generalize ps[j] = s1 at *
        have hyl := bs_size (oBy X)
        have hcat : bs out' ++ bs (oBy X) = bs (out' ++ oBy X) := bs_app _ _
        unfold wrV at cI1
        have hgw : gb < wr.heap.size := hgb
        go_wp2_with fail
        refine wp_region_upf 10 (by kernel_rfl) (by kernel_rfl) ?_
        simp only [List.take, List.drop]
        repeat (refine wpUp_step (fun K hK => ?_); go_simp; (try simp only [↓IntWalk.iteOmega]); first
          | (refine hK _ _ ?_; clear hK K)
          | (apply stepU_c
             · intro wq hwq; (have hbq := bcell hwq; (repeat (first | refine fills_no (by rfl) ?_ | refine fills_yes (by rfl) (fun vq hvq => ?_))); simp only [List.filter_nil, fills]; unfold upAt; (try ((obtain ⟨v', rfl, hv'⟩ := hvq))); go_simp; (try go_bits); (try simp only [↓IntWalk.iteOmega]); (try (rw [dif_pos (by omega)]; go_simp; try go_bits)); first | exact upOut_value)
             go_simp; refine hK _ _ ?_; clear hK K)
          | (refine stepU_m (by kernel_rfl) (PtO (w1.heap.size + 1) X) (ptO_closed) (fun wq hwq => ?_) ?_
             · (have hbq := bcell hwq; (repeat (first | refine fills_no (by rfl) ?_ | refine fills_yes (by rfl) (fun vq hvq => ?_))); simp only [List.filter_nil, fills]; unfold upAt; (try ((obtain ⟨v', rfl, hv'⟩ := hvq))); go_simp; (try go_bits); (try simp only [↓IntWalk.iteOmega]); (try (rw [dif_pos (by omega)]; go_simp; try go_bits)); ((with_reducible refine upOut_ptO ?_ (by have := hwq.size; omega)); exact cI1 _ _ (hrx.up hwq)))
             refine hK _ _ ?_; clear hK K)
          | (refine stepU_m (by kernel_rfl) (PtO (w1.heap.size + 1) X) (ptO_closed) (fun wq hwq => ?_) ?_
             · (have hbq := bcell hwq; (repeat (first | refine fills_no (by rfl) ?_ | refine fills_yes (by rfl) (fun vq hvq => ?_))); simp only [List.filter_nil, fills]; unfold upAt; (try ((obtain ⟨v', rfl, hv'⟩ := hvq))); go_simp; (try go_bits); (try simp only [↓IntWalk.iteOmega]); (try (rw [dif_pos (by omega)]; go_simp; try go_bits)); (exact ⟨Up.refl _, v', rfl, hv'⟩))
             refine hK _ _ ?_; clear hK K)
          | (refine stepU_m (by kernel_rfl) (WrO' (w1.heap.size + 1) (oWr X)) (wrO'_closed) (fun wq hwq => ?_) ?_
             · (have hbq := bcell hwq; (repeat (first | refine fills_no (by rfl) ?_ | refine fills_yes (by rfl) (fun vq hvq => ?_))); simp only [List.filter_nil, fills]; unfold upAt; (try ((obtain ⟨v', rfl, hv'⟩ := hvq))); go_simp; (try go_bits); (try simp only [↓IntWalk.iteOmega]); (try (rw [dif_pos (by omega)]; go_simp; try go_bits)); (exact ⟨Up.refl _, v', rfl, hv'⟩))
             refine hK _ _ ?_; clear hK K))
        refine wpUp_nil (fun wq hwq => ?_)
        simp only [fills]
        rintro u1 ⟨v9, rfl, hv9⟩ u2 ⟨v2', rfl, -⟩ u3 ⟨v3', rfl, -⟩
        obtain ⟨a9, c9, rfl, -⟩ := id hv9
        have hXq := hX.up hwq
        generalize oWr X = y1 at *
        have hK2 : WrAt w1.heap.size y1 (.slice a9 y1.k.ps.length c9) (WrW wq w1.heap.size y1 (.slice a9 y1.k.ps.length c9)) := WrAt.store hXq y1 _
        have hr9 : RdP 0 (WrW wq w1.heap.size y1 (.slice a9 y1.k.ps.length c9)) (.slice a9 y1.k.ps.length c9) y1.k.ps := by
          unfold WrW KnW
          refine RdP.low (lo := w1.heap.size + 1) ?_ (Nat.zero_le _)
          (repeat (with_reducible refine RdP.set ?_ (Nat.lt_succ_self _) _ _)); exact hv9
        have hU9 : Up w1 (WrW wq w1.heap.size y1 (.slice a9 y1.k.ps.length c9)) := WrW.up (hU.trans hwq) (Nat.le_refl _) y1 _
        have HH := Lib.hid (And.intro hK2 (And.intro hr9 hU9))
        obtain ⟨hbq, q0, q1, q2, q3, q4, q5, q6, q7, q8⟩ := hXq.cells
        have hfr := box_free hXq
        clear hK2 hr9 hU9 hXq hv9 hrx hX r0 r1 r2 r3 r4 r5 r6 r7 r8
        unfold wrV
        go_simp
        iterate 4 go_step
        rw [show (((((((((wq.setCell ⟨w1.heap.size, 0, none⟩ (.int .i64 y1.k.set.ord)).setCell ⟨w1.heap.size, 1, none⟩ (.int .i64 y1.k.set.lit)).setCell ⟨w1.heap.size, 2, none⟩ (.int .i64 y1.k.set.most)).setCell ⟨w1.heap.size, 3, none⟩ (.slice a9 y1.k.ps.length c9)).setCell ⟨w1.heap.size, 4, none⟩ (.int .i64 y1.k.base)).setCell ⟨w1.heap.size, 5, none⟩ (.int .i64 y1.k.last)).setCell ⟨w1.heap.size, 6, none⟩ (.string (bs y1.pend))).setCell ⟨w1.heap.size, 7, none⟩ (.string (bs y1.bits))).setCell ⟨w1.heap.size, 8, none⟩ (.bool y1.beg)) = WrW wq w1.heap.size y1 (.slice a9 y1.k.ps.length c9) from rfl]
        generalize WrW wq w1.heap.size y1 (.slice a9 y1.k.ps.length c9) = W9 at *
        clear q0 q1 q2 q3 q4 q5 q6 q7 q8 hfr hbq
        go_wp2_with fail
        rw [onlyN_normal]
        go_wp2_with fail
        go_roundw
        case rel => exact ⟨j + 1, _, y1, _, out' ++ oBy X, _, rfl, rfl, rfl, by go_num, HN.out, HH.out.1, HH.out.2.1, HH.out.2.2⟩
        case measure => simp [intOf]; omega
      · obtain ⟨h1, h2, h3⟩ := hM.fin (by omega)
        have cC := fun wq h => wcS_any x (.slice av x.k.ps.length cv) 0 wq h hb2 hb3 hb4
        rw [h1] at cC
        have hcs := bs_size x.close
        have hcat : bs out' ++ bs x.close = bs (out' ++ x.close) := bs_app _ _
        have HT2 := Lib.hid h2
        clear h1 h2 hM
        unfold optS at cC
        simp only [Option.getD_some, Option.isSome_some] at cC
        unfold wrV at cC
        generalize x.close = cl at *
        go_wp2_with fail
        (with_reducible refine (cC _ hrx).mono ?_); rintro e w7 ⟨rfl, U7⟩
        go_wp2_with fail
        go_ret2
        exact ⟨by rw [HT2.out]; rfl, hUw.trans U7⟩
end Go.Proofs.YtgbakgaegldomaaGreat

/- Walks of the program's advance and walkCodes. Conditions: what is known is valid and can be read; the codes can follow, and their data fits. -/
namespace Go.Proofs.YtgbakgaegldomaaGreat
open Go Go.RowKit
def AdvPost (k : KnD) (B : Nat) (v : Value) (w : World) (e : Ending) (w' : World) : Prop := ∃ v', e = .returned (kV k v') ∧ ownPr w' B v' k.ps ∧ Fr (fun b => v.ownBlock = some b) w w'
set_option maxRecDepth 100000 in
set_option maxHeartbeats 4000000 in
theorem advC_any (k : KnD) (v : Value) (B : Nat) (y : Int) (w : World) (h : k.Ok) (hB : B ≤ w.heap.size) (hown : ownPr w B v k.ps) :
    Calls Tryz.prog 105  #[kV k v, .int .i64 (k.c : Nat), .int .u8 y] w (AdvPost k.cleared B v w) := by
  have h0 := h.base0
  have h1 := h.base1
  have hpl := h.nums.2.2.2.1
  have cK := fun w => clearI_any k.set w h.set
  obtain ⟨m, hm⟩ : ∃ m : Nat, k.base = m := ⟨k.base.toNat, by omega⟩
  have hml : m ≤ k.ps.length := by omega
  have e : Hid (k.cleared = ⟨k.set, k.ps.take m, m, -1⟩) := by unfold Hid KnD.cleared; rw [hm]; rfl
  obtain ⟨a, cap, rfl⟩ := ownsRow_shape hown
  have hcp := ownsRow_cap hown
  have hcut := ownsRow_cut hown hml
  rw [cellsPr_take] at hcut
  have hlt : (k.ps.take m).length = m := by rw [List.length_take]; omega
  have HC : Hid (ownPr w B (.slice a m cap) (k.ps.take m)) := by unfold Hid ownPr; rw [hlt]; exact hcut
  have ec : k.c = clr k.set := rfl
  have hnil : a = none → m = 0 ∧ cap = 0 := fun ha => by
    subst ha
    rcases hown.2 with ⟨e1, e2⟩ | ⟨g, cp, cur, e1, _⟩
    · simp only [Value.slice.injEq] at e1; exact ⟨by omega, e1.2.2⟩
    · simp at e1
  have HK0 : KnAt w.heap.size k (.slice a k.ps.length cap) (w.alloc (.cells #[.int .i64 k.set.ord, .int .i64 k.set.lit, .int .i64 k.set.most, .slice a k.ps.length cap, .int .i64 k.base, .int .i64 k.last] 27)) := (MapKept.heap_alloc w _).1
  rw [e.out, ec]
  simp only [kV]
  rw [hm] at HK0 ⊢
  clear h e hown hcut hlt h0 h1 ec
  cases a with
  | none =>
    obtain ⟨e1, e2⟩ := hnil rfl
    subst e1; subst e2
    go_enter Tryz.func105, Tryz.ntmps105
    go_wp2_with ((go_at_call 47; (with_reducible refine (cK _).mono ?_); rintro e w1 ⟨rfl, U1⟩; have B1 := bcell U1; have Z1 := U1.size; (try simp at Z1); (try rw [Nat.add_one_le_iff] at Z1)); obtain ⟨hb0, r0, r1, r2, r3, r4, r5⟩ := box_up U1 (box_up ((Up.refl _).alloc _) (MapKept.heap_alloc w (.cells #[.int .i64 k.set.ord, .int .i64 k.set.lit, .int .i64 k.set.most, .slice none k.ps.length 0, .int .i64 ((0 : Nat) : Int), .int .i64 k.last] 27)).1) |> fun h => KnAt.cells (b := w.heap.size) (k := ⟨k.set, [], ((0 : Nat) : Int), k.last⟩) (v := .slice none k.ps.length 0) h; have hf0 := box_free (box_up U1 (box_up ((Up.refl _).alloc _) (MapKept.heap_alloc w (.cells #[.int .i64 k.set.ord, .int .i64 k.set.lit, .int .i64 k.set.most, .slice none k.ps.length 0, .int .i64 ((0 : Nat) : Int), .int .i64 k.last] 27)).1)); obtain ⟨hb1, q0, q1, q2, q3, q4, q5⟩ := KnAt.cells (b := w.heap.size + 1) (k := ⟨⟨0, 0, 0⟩, [], 0, 0⟩) (v := .slice none 0 0) (box_up U1 (alloc2 w _ _)); have hf1 := box_free (box_up U1 (alloc2 w _ _)))
    refine bodyPost_ret (v := kV ⟨k.set, k.ps.take 0, ((0 : Nat) : Int), -1⟩ (.slice none 0 0)) (by simp [results, Tryz.results105, go_sem, q0, q1, q2, q3, q4, q5]) rfl ⟨_, rfl, ?_, ?_⟩
    · exact World.ownsRow_nil _ _ _ _
    · refine Fr.of _ ?_
      (repeat (first | with_reducible exact Up.refl _ | with_reducible assumption | with_reducible refine Up.set ?_ (by first | exact Nat.le_refl _ | (simp only []; omega) | (simp; omega)) _ | with_reducible refine Up.alloc ?_ _ | with_reducible refine Up.drew ?_ | refine Up.trans ?_ (by with_reducible assumption)))
  | some ad =>
    go_enter Tryz.func105, Tryz.ntmps105
    go_wp2_with ((go_at_call 47; (with_reducible refine (cK _).mono ?_); rintro e w1 ⟨rfl, U1⟩; have B1 := bcell U1; have Z1 := U1.size; (try simp at Z1); (try rw [Nat.add_one_le_iff] at Z1)); obtain ⟨hb0, r0, r1, r2, r3, r4, r5⟩ := KnAt.cells (b := w.heap.size) (k := ⟨k.set, k.ps, (m : Int), k.last⟩) (v := .slice (some ad) k.ps.length cap) (box_up U1 (box_up ((Up.refl _).alloc _) (MapKept.heap_alloc w _).1)); have hf0 := box_free (box_up U1 (box_up ((Up.refl _).alloc _) (MapKept.heap_alloc w (.cells #[.int .i64 k.set.ord, .int .i64 k.set.lit, .int .i64 k.set.most, .slice (some ad) k.ps.length cap, .int .i64 (m : Int), .int .i64 k.last] 27)).1)); obtain ⟨hb1, q0, q1, q2, q3, q4, q5⟩ := KnAt.cells (b := w.heap.size + 1) (k := ⟨⟨0, 0, 0⟩, [], 0, 0⟩) (v := .slice none 0 0) (box_up U1 (alloc2 w _ _)); have hf1 := box_free (box_up U1 (alloc2 w _ _)))
    have hU : Up w w1 := by (repeat (first | with_reducible exact Up.refl _ | with_reducible assumption | with_reducible refine Up.set ?_ (by first | exact Nat.le_refl _ | (simp only []; omega) | (simp; omega)) _ | with_reducible refine Up.alloc ?_ _ | with_reducible refine Up.drew ?_ | refine Up.trans ?_ (by with_reducible assumption)))
    refine bodyPost_ret (v := kV ⟨k.set, k.ps.take m, (m : Int), -1⟩ (.slice (some ad) m cap)) (by simp [results, Tryz.results105, go_sem, q0, q1, q2, q3, q4, q5]) rfl ⟨_, rfl, ?_, ?_⟩
    · refine ownsRow_up HC.out ?_
      (repeat (first | with_reducible exact Up.refl _ | with_reducible assumption | with_reducible refine Up.set ?_ (by first | exact Nat.le_refl _ | (simp only []; omega) | (simp; omega)) _ | with_reducible refine Up.alloc ?_ _ | with_reducible refine Up.drew ?_ | refine Up.trans ?_ (by with_reducible assumption)))
    · refine Fr.of _ ?_
      (repeat (first | with_reducible exact Up.refl _ | with_reducible assumption | with_reducible refine Up.set ?_ (by first | exact Nat.le_refl _ | (simp only []; omega) | (simp; omega)) _ | with_reducible refine Up.alloc ?_ _ | with_reducible refine Up.drew ?_ | refine Up.trans ?_ (by with_reducible assumption)))
set_option maxRecDepth 100000 in
set_option maxHeartbeats 4000000 in
theorem advW_any (k : KnD) (v : Value) (B : Nat) (x : Int) (w : World) (h : k.Ok) (hB : B ≤ w.heap.size) (hown : ownPr w B v k.ps) (hf : k.follows x = true) (hxc : x ≠ (k.c : Int)) :
    Calls Tryz.prog 105  #[kV k v, .int .i64 x, .int .u8 (k.first x)] w (AdvPost (k.after x) B v w) := by
  obtain ⟨i0, hi, hz0, hz1, hz2⟩ := info_parts infoPair
  have hpl := h.nums.2.2.2.1
  have hcb := h.c_bd.2.1
  have cK := fun w => clearI_any k.set w h.set
  obtain ⟨f1, f2⟩ := KnD.first_bd h hf
  obtain ⟨a, cap, rfl⟩ := ownsRow_shape hown
  have cG := fun w => growI_any k.set k.base k.last a k.ps.length cap w h.set (by omega)
  rw [growN_eq] at cG
  have hxb : (x == ((clr k.set : Nat) : Int)) = false := by
    have h2 : ¬ x = ((clr k.set : Nat) : Int) := hxc
    simpa using h2
  have HO := Lib.hid hown
  cases hg : k.grow
  · have e : Hid (k.after x = ⟨k.set, k.ps, k.base, x⟩) := by unfold Hid KnD.after; rw [hg]; simp
    rw [e.out]
    rw [hg] at cG
    generalize k.first x = fx at *
    simp only [kV, knV] at *
    clear h e hg hf hxc hown
    go_enter Tryz.func105, Tryz.ntmps105
    go_wp2_with (first | (go_at_call 47; (with_reducible refine (cK _).mono ?_); rintro e w1 ⟨rfl, U1⟩; have B1 := bcell U1; have Z1 := U1.size; (try simp at Z1); (try rw [Nat.add_one_le_iff] at Z1)) | ((go_at_call 97; (with_reducible refine (cG _).mono ?_); rintro e w2 ⟨rfl, U2⟩; have B2 := bcell U2; have Z2 := U2.size; (try simp at Z2); (try rw [Nat.add_one_le_iff] at Z2)); obtain ⟨hb0, r0, r1, r2, r3, r4, r5⟩ := KnAt.cells (b := w.heap.size) (k := k) (v := .slice a k.ps.length cap) (box_up (U1.trans U2) (box_up ((Up.refl _).alloc _) (MapKept.heap_alloc w _).1)); have hf0 := box_free (box_up (U1.trans U2) (box_up ((Up.refl _).alloc _) (MapKept.heap_alloc w (.cells #[.int .i64 k.set.ord, .int .i64 k.set.lit, .int .i64 k.set.most, .slice a k.ps.length cap, .int .i64 k.base, .int .i64 k.last] 27)).1)); obtain ⟨hb1, q0, q1, q2, q3, q4, q5⟩ := KnAt.cells (b := w.heap.size + 1) (k := ⟨⟨0, 0, 0⟩, [], 0, 0⟩) (v := .slice none 0 0) (box_up (U1.trans U2) (alloc2 w _ _)); have hf1 := box_free (box_up (U1.trans U2) (alloc2 w _ _))))
    refine bodyPost_ret (v := kV ⟨k.set, k.ps, k.base, x⟩ (.slice a k.ps.length cap)) (by simp [results, Tryz.results105, go_sem, q0, q1, q2, q3, q4, q5]) rfl ⟨_, rfl, ?_, ?_⟩
    · refine ownsRow_up HO.out ?_
      (repeat (first | with_reducible exact Up.refl _ | with_reducible assumption | with_reducible refine Up.set ?_ (by first | exact Nat.le_refl _ | (simp only []; omega) | (simp; omega)) _ | with_reducible refine Up.alloc ?_ _ | with_reducible refine Up.drew ?_ | refine Up.trans ?_ (by with_reducible assumption)))
    · refine Fr.of _ ?_
      (repeat (first | with_reducible exact Up.refl _ | with_reducible assumption | with_reducible refine Up.set ?_ (by first | exact Nat.le_refl _ | (simp only []; omega) | (simp; omega)) _ | with_reducible refine Up.alloc ?_ _ | with_reducible refine Up.drew ?_ | refine Up.trans ?_ (by with_reducible assumption)))
  · have e : Hid (k.after x = ⟨k.set, k.ps ++ [⟨k.last, k.first x⟩], k.base, x⟩) := by unfold Hid KnD.after; rw [hg]; rfl
    rw [e.out]
    rw [hg] at cG
    generalize k.first x = fx at *
    have HS : Hid (∀ w' v', w'.ownsRow B 118 2 v' (k.ps.length + 1) (cellsPr k.ps ++ [.int .i64 k.last, .int .i64 fx]) → ownPr w' B v' (k.ps ++ [⟨k.last, fx⟩])) := fun w' v' h' => by
      unfold ownPr
      rw [List.length_append, cellsPr_snoc]
      exact h'
    have hfx : fx < 256 := by omega
    simp only [kV, knV] at *
    clear h e hg hf hxc hown hcb
    go_enter Tryz.func105, Tryz.ntmps105
    go_wp2_with (first | (go_at_call 47; (with_reducible refine (cK _).mono ?_); rintro e w1 ⟨rfl, U1⟩; have B1 := bcell U1; have Z1 := U1.size; (try simp at Z1); (try rw [Nat.add_one_le_iff] at Z1)) | ((go_at_call 97; (with_reducible refine (cG _).mono ?_); rintro e w2 ⟨rfl, U2⟩; have B2 := bcell U2; have Z2 := U2.size; (try simp at Z2); (try rw [Nat.add_one_le_iff] at Z2)); have hK2 : KnAt w.heap.size k (.slice a k.ps.length cap) w2 := box_up (U1.trans U2) (box_up ((Up.refl _).alloc _) (MapKept.heap_alloc w _).1); have hR2 : KnAt (w.heap.size + 1) ⟨⟨0, 0, 0⟩, [], 0, 0⟩ (.slice none 0 0) w2 := box_up (U1.trans U2) (alloc2 w _ _); obtain ⟨hb0, r0, r1, r2, r3, r4, r5⟩ := hK2.cells; have HK2 := Lib.hid hK2; have HR2 := Lib.hid hR2; have hU2 : Up w w2 := (by (repeat (first | with_reducible exact Up.refl _ | with_reducible assumption | with_reducible refine Up.set ?_ (by first | exact Nat.le_refl _ | (simp only []; omega) | (simp; omega)) _ | with_reducible refine Up.alloc ?_ _ | with_reducible refine Up.drew ?_ | refine Up.trans ?_ (by with_reducible assumption)))); have HU2 := Lib.hid hU2; clear hK2 hR2 U1 U2 hU2 B1 B2 Z1) | (at_builtin; refine wpList_append_own _ rfl _ _ 25 rfl B 118 i0 (.agg #[.int .i64 0, .int .i64 0]) 2 16 Tryz.underlying25 hi hz0 hz1 hz2 rfl (by decide) _ _ _ rfl (ownsRow_up (ownsRow_up HO.out HU2.out) (Up.alloc (Up.refl _) _)) ⟨w2.heap.size, 0, none⟩ 1 1 [.int .i64 k.last, .int .i64 fx] rfl rfl (new_cells [.int .i64 k.last, .int .i64 fx] _ rfl) (by intro u hu; simp at hu; rcases hu with rfl | rfl <;> rfl) (by unfold maxLen; omega) (by omega) (by have := HU2.out.size; simp; omega) ?_; rintro v4 w4 hown4 hgr4 -; obtain ⟨a4, c4, rfl⟩ := ownsRow_shape hown4; have hK4 := gbox hgr4 (box_up ((Up.refl _).alloc _) HK2.out) (box_ne HK2.out (ownsRow_up HO.out HU2.out) (by decide)); have hR4 := gbox hgr4 (box_up ((Up.refl _).alloc _) HR2.out) (box_ne HR2.out (ownsRow_up HO.out HU2.out) (by decide)); obtain ⟨hb4, r0, r1, r2, r3, r4, r5⟩ := KnAt.cells (k := k) (v := .slice a k.ps.length cap) hK4; have hf0 := box_free hK4; obtain ⟨hb5, q0, q1, q2, q3, q4, q5⟩ := KnAt.cells (k := ⟨⟨0, 0, 0⟩, [], 0, 0⟩) (v := .slice none 0 0) hR4; have hf1 := box_free hR4; have hFr : Fr (fun b => Value.ownBlock (.slice a k.ps.length cap) = some b) w w4 := ((Fr.of _ HU2.out).alloc _).gr hgr4 (fun b hb => .inl hb); have HV4 := Lib.hid (HS.out _ _ hown4); have HF4 := Lib.hid hFr; have HN1 := Lib.hid (box_ne hK4 hown4 (by decide)); have HN2 := Lib.hid (box_ne hR4 hown4 (by decide)); clear hown4 hgr4 hK4 hR4 hFr))
    refine bodyPost_ret (v := kV ⟨k.set, k.ps ++ [⟨k.last, fx⟩], k.base, x⟩ (.slice a4 (k.ps.length + 1) c4)) (by simp [results, Tryz.results105, go_sem, q0, q1, q2, q3, q4, q5]) rfl ⟨_, rfl, ?_, ?_⟩
    · have hn1 := HN1.out
      have hn2 := HN2.out
      repeat (with_reducible first | refine ownsRow_setb ?_ hn1 _ _ | refine ownsRow_setb ?_ hn2 _ _)
      exact HV4.out
    · repeat (with_reducible refine Fr.set ?_ (.inr (by first | exact Nat.le_refl _ | (simp; done) | (simp; omega))) _)
      exact HF4.out
structure WcB (w : World) (k : KnD) (v : Value) (ws : List Int) (d : List UInt8) (vw vd : Value) (wr : World) : Prop where
  kn : KnAt w.heap.size k v wr
  pr : ownPr wr (w.heap.size + 1) v k.ps
  own : ownI wr (w.heap.size + 1) vw ws
  dat : ownU wr (w.heap.size + 1) vd d
  up : Up w wr
theorem WcB.upd {w : World} {k : KnD} {v : Value} {ws : List Int} {d : List UInt8} {vw vd : Value} {wr w' : World} (h : WcB w k v ws d vw vd wr) (hu : Up wr w') : WcB w k v ws d vw vd w' :=
  ⟨h.kn.up hu, ownsRow_up h.pr hu, ownsRow_up h.own hu, ownsRow_up h.dat hu, h.up.trans hu⟩
theorem WcB.bytes {w : World} {k : KnD} {v : Value} {ws : List Int} {d d' : List UInt8} {vw vd vd' : Value} {wr w' : World} (h : WcB w k v ws d vw vd wr) (hg : wr.grownBy w' vd.ownBlock) (hn : ownU w' (w.heap.size + 1) vd' d') : WcB w k v ws d' vw vd' w' :=
  ⟨h.kn.gr hg (low_ne (w := w) h.dat (by omega)), h.pr.kept hg (rows_ne h.pr h.dat (by decide)), h.own.kept hg (rows_ne h.own h.dat (by decide)), hn, h.up.grown hg fun y hy => by have := (h.dat.lt y hy).1; omega⟩
structure WcAt (T : WkR) (s0 : SetD) (codes : List Int) (w : World) (k : KnD) (v : Value) (i : Nat) (ws : List Int) (d : List UInt8) (vw vd : Value) (wr : World) : Prop where
  le : i ≤ codes.length
  tot : walkN k (codes.drop i) ws d = T
  wl : ws.length = i
  dl : d.length ≤ 2000
  ok : k.Ok
  set : k.set = s0
  mem : WcB w k v ws d vw vd wr
end Go.Proofs.YtgbakgaegldomaaGreat

