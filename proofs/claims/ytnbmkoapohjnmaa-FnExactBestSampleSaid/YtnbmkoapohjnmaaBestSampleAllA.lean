/- Texts joined into one: the walks and laws that the last text leans on. Conditions: as each says. -/
import Derived.Test.YtnbmkoapohjnmaaWa
import Derived.Test.YtnbmkoapohjnmaaWb
import Derived.Test.YtnbmkoapohjnmaaTree6
import Derived.Lib.OwnBridge
import Derived.Test.YtnbmkoapohjnmaaFl
import Derived.Test.YtnbmkoapohjnmaaTree5
import Derived.Test.YtnbmkoapohjnmaaGr
import Derived.Test.YtnbmkoapohjnmaaWk
import Derived.Test.YtnbmkoapohjnmaaTree7
import Derived.SliceStrings
import Derived.Test.YtnbmkoapohjnmaaPack
import Derived.Test.YtnbmkoapohjnmaaStartW
import Derived.Test.YtnbmkoapohjnmaaSet2
import Derived.Test.YtnbmkoapohjnmaaUp

/- Walks of the program's wordText and advance. Conditions: what is known is valid and can be read; the code can follow. -/
namespace Go.Proofs.Ytnbmkoapohjnmaa
set_option linter.unusedVariables false
set_option linter.unusedSimpArgs false
open Go Go.RowKit

/-- slices.Reverse of a row of bytes of the call's own. -/
theorem revI_any (a0 : World) (v : Value) (l : List UInt8) (w : World) (hu : Up a0 w) (h : ownU w a0.heap.size v l) (hl : l.length ≤ 1048576) :
    Calls Try.prog 136 #[v] w (fun e w' => e = .returned (.tuple #[]) ∧ ownU w' a0.heap.size v l.reverse ∧ Up a0 w') := by
  by_cases hn : v = .slice none 0 0
  · subst hn
    have hl0 : l = [] := by
      rcases h.2 with ⟨_, e⟩ | ⟨g, cap, cur, e, _⟩
      · exact List.length_eq_zero_iff.1 e
      · cases e
    subst hl0
    have hc := AnyE.slices_Reverse_empty Try.lRev none 0 w
    change Calls Try.prog 136 _ _ _ at hc
    exact hc.mono fun e w' ⟨he, hw⟩ => by subst hw; exact ⟨he, h, hu⟩
  · obtain ⟨g, cap, rfl, hb, hlt, hnc, hcm, hzl, hH⟩ := Go.Lib.holds_of_ownsRow (enc := fun b : UInt8 => Value.int .u8 (b.toNat : Int)) h hn
    have hc := AnyE.slices_Reverse Try.lRev (fun b : UInt8 => Value.int .u8 (b.toNat : Int)) (fun _ => rfl) g 0 cap l w hH (by omega)
    change Calls Try.prog 136 _ _ _ at hc
    refine hc.mono fun e w' ⟨he, q, hw⟩ => ⟨he, ?_, ?_⟩
    · subst hw
      have h2 := Go.Lib.ownsRow_putRow (q := q) (ys := l.reverse) (k := l.length) h (by simp) (Nat.le_refl _)
      rw [List.take_of_length_le (by simp)] at h2
      have e : l.reverse.length = l.length := by simp
      unfold ownU
      rw [e]
      exact h2
    · subst hw
      exact Go.Lib.below_putRow hu hb

def RelW3 (k : KnD) (x0 : Int) (a0 : World) (x out : Value) (wr : World) : Prop := ∃ (y : Int) (rev : List UInt8), x = .int .i64 y ∧ codeOk k.c k.ps.length y = true ∧ k.word x0 = k.word y ++ rev.reverse ∧ rev.length + y ≤ x0 ∧
  ownU wr a0.heap.size out rev ∧ Up a0 wr

set_option maxRecDepth 100000 in
set_option maxHeartbeats 4000000 in
theorem wordI_any (k : KnD) (v : Value) (lo : Nat) (x0 : Int) (w : World) (h : k.Ok) (hr : RdP lo w v k.ps) (hx : codeOk k.c k.ps.length x0 = true) :
    Calls Try.prog 118  #[kV k v, .int .i64 x0] w (Same (.string (bs (k.word x0))) w) := by
  obtain ⟨i0, hi, hz0, hz1, hz2⟩ := info_parts infoByte
  obtain ⟨hb1, hb2, hb3, hb4, hb5⟩ := h.nums
  have cE := fun w => endI_any k.set w h.set
  have ec : k.c = clr k.set := rfl
  have hx1 := codeOk_iff.1 hx
  have hx0 : x0 ≤ 1023 := by omega
  have hrt := fun (wq : World) (hu : Up w wq) => hr.up hu
  obtain ⟨a, cap, rfl, hc1, hc2, hc3, hsome⟩ := hr
  have cN := fun w => nextI_any k.set k.base k.last a k.ps.length cap w h.set (by omega)
  have hne : (x0 == (clr k.set : Int) + 2 + k.ps.length) = false := by simp; omega
  simp only [kV, knV] at *
  have HK := Lib.hid h
  have HX := Lib.hid hx
  clear h hx
  go_enter Try.func118, Try.ntmps118
  go_wp2_with (first | (go_at_call 111; (with_reducible refine (cN _).mono ?_); rintro e w1 ⟨rfl, U1⟩; have B1 := bcell U1; have Z1 := U1.size; (try simp at Z1); (try rw [Nat.add_one_le_iff] at Z1)) | (go_at_call 80; (with_reducible refine (cE _).mono ?_); rintro e w2 ⟨rfl, U2⟩; have B2 := bcell U2; have Z2 := U2.size; (try simp at Z2); (try rw [Nat.add_one_le_iff] at Z2)))
  have hK2 : KnAt w.heap.size k (.slice a k.ps.length cap) w2 := box_up U2 (box_up U1 (MapKept.heap_alloc w _).1)
  have hU2 : Up w w2 := by (repeat (first | with_reducible exact Up.refl _ | with_reducible assumption | with_reducible refine Up.set ?_ (by first | exact Nat.le_refl _ | (simp only []; omega) | (simp; omega)) _ | with_reducible refine Up.alloc ?_ _ | with_reducible refine Up.drew ?_ | refine Up.trans ?_ (by with_reducible assumption)))
  have hw2 : w.heap.size < w2.heap.size := (Array.getElem?_eq_some_iff.1 hK2).1
  have HK2 := Lib.hid hK2
  clear U1 U2 B1 B2 Z1 Z2 hK2 hrt hx1 hne
  go_loopw [1, 7] (fun x out wr => RelW3 k x0 w2 x out wr) (fun x _ _ => (intOf x).toNat)
  case atStart => exact ⟨x0, [], rfl, HX.out, by simp, by simp, World.ownsRow_nil _ _ _ _, Up.refl _⟩
  case round =>
    obtain ⟨y, rev, rfl, hy, hw, hlen, hown, hup⟩ := hrel
    obtain ⟨b0, r0, r1, r2, r3, r4, r5⟩ := (HK2.out.up hup).cells
    have HW := Lib.hid hw
    have hsz := hup.size
    clear hw
    obtain ⟨a4, c4, rfl⟩ := ownU_shape hown
    have HOW := Lib.hid hown
    have HUP := Lib.hid hup
    by_cases hyc : y < clr k.set
    · have hy0 : 0 ≤ y := by rw [codeOk_iff] at hy; omega
      have HWL : Hid (k.word y = [ub y]) := wordP_lit hyc
      have hub := Lib.hid (ub_nat hy0 (by omega : y < 256))
      have HR : Hid (k.word x0 = (rev ++ [ub y]).reverse) := by unfold Hid; rw [HW.out, HWL.out]; simp
      have hlL : (rev ++ [ub y]).length = rev.length + 1 := by simp
      have HLL := Lib.hid hlL
      clear hy hown hup hlL
      go_wp2_with (first | (at_builtin; refine wpList_append_own _ rfl _ _ 75 rfl w2.heap.size 5 i0 (.int .u8 0) 1 1 Try.underlying75 hi hz0 hz1 hz2 rfl (by decide) _ _ _ rfl (ownsRow_up HOW.out (Up.alloc (Up.refl _) _)) ⟨wr.heap.size, 0, none⟩ 1 1 [.int .u8 y] rfl rfl (new_cells [.int .u8 y] _ rfl) (by intro u hu; simp at hu; subst hu; rfl) (by unfold maxLen; omega) (by omega) (by simp; omega) ?_; rintro v5 w5 hown5 hgr5 -; have hU5 : Up w2 w5 := (HUP.out.alloc _).grown hgr5 (fun b hb => (HOW.out.lt b hb).1); obtain ⟨a5, c5, rfl⟩ := ownsRow_shape hown5; have hO5 : ownU w5 w2.heap.size _ (rev ++ [ub y]) := ownU_snoc hub.out.symm rfl hown5; have HU5 := Lib.hid hU5; have HO5 := Lib.hid hO5; clear hU5 hO5 hown5 hgr5) | (go_at_call 136; (with_reducible refine (revI_any w2 _ _ _ HU5.out HO5.out (by rw [HLL.out]; omega)).mono ?_); rintro e w6 ⟨rfl, hO6, hU6⟩; have hconv := conv_any (ownsRow_n2 hO6 (show (rev ++ [ub y]).reverse.length = rev.length + 1 by simp)) (by simp); have HU6 := Lib.hid hU6; clear hO6 hU6))
      go_ret
      exact ⟨ret_str (by simp [HR.out]), hU2.trans HU6.out⟩
    · obtain ⟨i, rfl⟩ : ∃ i : Nat, y = (clr k.set : Int) + 2 + i := ⟨(y - clr k.set - 2).toNat, by rw [codeOk_iff] at hy; omega⟩
      have hil : i < k.ps.length := by rw [codeOk_iff] at hy; omega
      clear hy
      obtain ⟨p1, p2, p3⟩ := pre_lt HK.out.ps hil
      obtain ⟨-, by1, by2⟩ := HK.out.ps.get hil
      have HWP := Lib.hid (wordP_pair HK.out.ps hil)
      obtain ⟨b, off, rfl, hlo, hbl, hcells⟩ := hsome (by omega)
      obtain ⟨q0, q1⟩ := pair_at hcells hil
      clear hcells hsome hc3
      have e0 := ((hU2.trans hup).cell (p := ⟨b, off + i * 2, none⟩) hbl).trans q0
      have e1 := ((hU2.trans hup).cell (p := ⟨b, off + i * 2 + 1, none⟩) hbl).trans q1
      have hbl2 := Nat.lt_of_lt_of_le hbl (hU2.trans hup).size
      have ei : (clr k.set : Int) + 2 + i - (clr k.set + 1) - 1 = i := by omega
      rw [ec] at by2 p2
      generalize k.ps[i].byt = yb at *
      generalize k.ps[i].pre = yp at *
      have hub := Lib.hid (ub_nat by1 (by omega : yb < 256))
      have HNX : Hid (k.word x0 = k.word yp ++ (rev ++ [ub yb]).reverse) := by
        unfold Hid
        rw [HW.out]
        have := HWP.out
        rw [ec] at this
        unfold KnD.word
        rw [ec, this]; simp
      clear hown hup q0 q1
      go_wp2_with (first | (at_builtin; refine wpList_append_own _ rfl _ _ 75 rfl w2.heap.size 5 i0 (.int .u8 0) 1 1 Try.underlying75 hi hz0 hz1 hz2 rfl (by decide) _ _ _ rfl (ownsRow_up HOW.out (Up.alloc (Up.alloc (Up.refl _) _) _)) ⟨wr.heap.size + 1, 0, none⟩ 1 1 [.int .u8 yb] rfl rfl (new_cells [.int .u8 yb] _ (by simp)) (by intro u hu; simp at hu; subst hu; rfl) (by unfold maxLen; omega) (by omega) (by simp; omega) ?_; rintro v5 w5 hown5 hgr5 -; have hU5 : Up w2 w5 := ((HUP.out.alloc _).alloc _).grown hgr5 (fun b hb => (HOW.out.lt b hb).1); have hO5 : ownU w5 w2.heap.size v5 (rev ++ [ub yb]) := ownU_snoc hub.out.symm rfl hown5; have d0 := hgr5.cell (a := ⟨wr.heap.size, 0, none⟩) (v := .int .i64 yp) (((Up.alloc (Up.refl (wr.alloc _)) _).cell (p := ⟨wr.heap.size, 0, none⟩) (by simp)).trans (box_cell (MapKept.heap_alloc wr (.cells #[.int .i64 yp, .int .i64 yb] 96)).1 0)) (own_ne HOW.out (Nat.le_refl _)); have HU5 := Lib.hid hU5; have HO5 := Lib.hid hO5; clear hU5 hO5 hown5 hgr5))
      go_roundw
      case rel => exact ⟨yp, rev ++ [ub yb], rfl, p3, HNX.out, by simp; omega, HO5.out, HU5.out⟩
      case measure => simp [intOf]; omega

set_option maxRecDepth 100000 in
set_option maxHeartbeats 1000000 in
theorem wordJ_any (k : KnD) (v : Value) (lo : Nat) (x : Int) (w : World) (h : k.Ok) (hr : RdP lo w v k.ps) (hf : k.follows x = true) :
    Calls Try.prog 118  #[kV k v, .int .i64 x] w (Same (.string (bs (k.any x))) w) := by
  rcases KnD.follows_cases h hf with hc | ⟨hg, rfl, hl⟩
  · rw [KnD.any_word hc]
    exact wordI_any k v lo x w h hr hc
  · have hpl := h.nums.2.2.2.1
    have hrt := fun (wq : World) (hu : Up w wq) => hr.up hu
    have cW := fun wx hr => wordI_any k v lo k.last wx h hr hl
    have hE : Hid (bs (k.any k.next) = bs (k.word k.last) ++ (bs (k.word k.last)).extract 0 1) := by
      unfold Hid KnD.any
      rw [if_pos rfl, bs_ext, bs_app]
      simp
    have hp : 1 ≤ (k.word k.last).length := wordP_pos h.ps hl
    have hln : (k.word k.last).length ≤ k.ps.length + 1 := wordP_len h.ps hl
    rw [hE.out]
    have hsz := bs_size (k.word k.last)
    generalize k.word k.last = wl at *
    obtain ⟨a, cap, rfl, -, -, -, -⟩ := hr
    have cN := fun w => nextI_any k.set k.base k.last a k.ps.length cap w h.set (by omega)
    have en : ((k.next : Nat) : Int) = (clr k.set : Int) + 2 + k.ps.length := by unfold KnD.next KnD.c; omega
    rw [en]
    clear en hE
    simp only [kV, knV] at *
    clear h hf
    go_enter Try.func118, Try.ntmps118
    go_wp2_with (first | (go_at_call 111; (with_reducible refine (cN _).mono ?_); rintro e w1 ⟨rfl, U1⟩; have B1 := bcell U1; have Z1 := U1.size; (try simp at Z1); (try rw [Nat.add_one_le_iff] at Z1)) | ((go_at_call 118; (with_reducible refine (cW _ (hrt _ (by (repeat (first | with_reducible exact Up.refl _ | with_reducible assumption | with_reducible refine Up.set ?_ (by first | exact Nat.le_refl _ | (simp only []; omega) | (simp; omega)) _ | with_reducible refine Up.alloc ?_ _ | with_reducible refine Up.drew ?_ | refine Up.trans ?_ (by with_reducible assumption)))))).mono ?_); rintro e w2 ⟨rfl, U2⟩; have B2 := bcell U2; have Z2 := U2.size; (try simp at Z2); (try rw [Nat.add_one_le_iff] at Z2))))
    go_ret
    refine ⟨rfl, ?_⟩
    (repeat (first | with_reducible exact Up.refl _ | with_reducible assumption | with_reducible refine Up.set ?_ (by first | exact Nat.le_refl _ | (simp only []; omega) | (simp; omega)) _ | with_reducible refine Up.alloc ?_ _ | with_reducible refine Up.drew ?_ | refine Up.trans ?_ (by with_reducible assumption)))

end Go.Proofs.Ytnbmkoapohjnmaa

/- As wp_region_up, but the tail's operations may wait for those before them by way of others. Conditions: those of the theorem wp_region_upR. -/
namespace Go.Proofs.Ytnbmkoapohjnmaa
set_option linter.unusedVariables false
set_option linter.unusedSimpArgs false
open Go Go.RowKit

section
variable {P : Program} {ops : Array Oper}
/-- What the region's text must show, by reckoning. -/
def upBR (ops : Array Oper) (n0 : Nat) : Bool :=
  Region.noSelect ops && decide (n0 ≤ ops.size) &&
  ((List.range ops.size).all fun j => match ops[j]? with
    | none => true
    | some o => (o.after.all fun e => !Region.binds .any e || decide (e.on < j)) &&
      ((List.range j).all fun i => match ops[i]? with
        | none => true
        | some x => if j < n0 then (waitsB o i || x.apart ops o) && (match x.dst with | some d => o.dst != some d | none => true) else reachB ops 12 j i))

structure UpTextR (ops : Array Oper) (n0 : Nat) : Prop where
  sel : ∀ (j : Nat) (o : Oper) cs b, ops[j]? = some o → o.op ≠ .select cs b
  le : n0 ≤ ops.size
  lex : ∀ (j : Nat) (o : Oper), ops[j]? = some o → ∀ e ∈ o.after, Region.binds .any e = true → e.on < j
  pair : ∀ (i j : Nat) (x o : Oper), i < j → j < n0 → ops[i]? = some x → ops[j]? = some o → waitsB o i = true ∨ x.apart ops o = true
  dist : ∀ (i j : Nat) (x o : Oper) (d : Tmp), i < j → j < n0 → ops[i]? = some x → ops[j]? = some o → x.dst = some d → o.dst ≠ some d
  tail : ∀ (i j : Nat) (o : Oper), i < j → n0 ≤ j → ops[j]? = some o → reachB ops 12 j i = true

theorem upB_textR {n0 : Nat} (h : upBR ops n0 = true) : UpTextR ops n0 := by
  unfold upBR at h
  simp only [Bool.and_eq_true, decide_eq_true_eq] at h
  obtain ⟨⟨h1, h2⟩, h3⟩ := h
  have h3 := List.all_eq_true.1 h3
  have hj : ∀ (j : Nat) (o : Oper), ops[j]? = some o → (∀ e ∈ o.after, Region.binds .any e = true → e.on < j) ∧ ∀ (i : Nat) (x : Oper), i < j → ops[i]? = some x → (if j < n0 then (waitsB o i || x.apart ops o) && (match x.dst with | some d => o.dst != some d | none => true) else reachB ops 12 j i) = true := by
    intro j o ho
    have hlt : j < ops.size := (Array.getElem?_eq_some_iff.1 ho).1
    have := h3 j (List.mem_range.2 hlt)
    simp only [ho, Bool.and_eq_true] at this
    obtain ⟨ha, hb⟩ := this
    refine ⟨fun e he hb => ?_, fun i x hi hx => ?_⟩
    · have := Array.all_eq_true_iff_forall_mem.1 ha e he
      simpa [hb] using this
    · have := List.all_eq_true.1 hb i (List.mem_range.2 hi)
      simpa only [hx] using this
  refine ⟨fun j o cs b ho => Region.noSelect_spec h1 j o cs b ho, h2, fun j o ho => (hj j o ho).1, fun i j x o hi hn hx ho => ?_, fun i j x o d hi hn hx ho hd => ?_, fun i j o hi hn ho => ?_⟩
  · have := (hj j o ho).2 i x hi hx
    simp only [hn, if_true, Bool.and_eq_true, Bool.or_eq_true] at this
    exact this.1
  · have := (hj j o ho).2 i x hi hx
    simp only [hn, if_true, Bool.and_eq_true, hd] at this
    simpa using this.2
  · have hlt : j < ops.size := (Array.getElem?_eq_some_iff.1 ho).1
    have hx : ops[i]? = some ops[i] := by simp [show i < ops.size by omega]
    have := (hj j o ho).2 i _ hi hx
    simpa only [show ¬ j < n0 by omega, if_false] using this


theorem Desc.fillR {a0 : Act} {n0 : Nat} (T : UpTextR ops n0) {vals : Nat → Value} : ∀ (E : List Mk) (S : Nat → Prop) (a : Act), (∀ i, S i → i < n0) → Desc ops a0 S vals a →
    (∀ m ∈ E, m.1 < n0 ∧ m.2.1 = (ops[m.1]?).bind (·.dst)) → Desc ops a0 (fun i => S i ∨ ∃ m ∈ E, m.1 = i) vals (fillWith vals E a)
  | [], S, a, _, h, _ => h.congr (fun i => by simp) (fun _ _ => rfl)
  | (i, d, D) :: E, S, a, hS, h, hE => by
    obtain ⟨hi, hd⟩ := hE _ (List.mem_cons_self ..)
    have hlt : i < ops.size := Nat.lt_of_lt_of_le hi T.le
    have ho : ops[i]? = some ops[i] := by simp [hlt]
    simp only at hd hi
    rw [ho, Option.bind_some] at hd
    have h1 := h.put (j := i) ho fun i' x d' hi' hne hx hd' => by
      rcases Nat.lt_or_ge i' i with hl | hl
      · exact T.dist i' i x _ d' hl hi hx ho hd'
      · intro e
        exact T.dist i i' _ x d' (by omega) (hS _ hi') ho hx e hd'
    have h2 := Desc.fillR T E _ _ (fun i' hi' => hi'.elim (hS i') (fun e => e ▸ hi)) h1 (fun m hm => hE m (List.mem_cons_of_mem _ hm))
    show Desc ops a0 _ vals (fillWith vals E (a.put d (vals i)))
    rw [hd]
    refine h2.congr (fun i' => ?_) (fun _ _ => rfl)
    simp only [List.mem_cons, exists_eq_or_imp]
    constructor
    · rintro ((h | h) | h)
      · exact .inl h
      · exact .inr (.inl h.symm)
      · exact .inr (.inr h)
    · rintro (h | h | h)
      · exact .inl (.inl h)
      · exact .inl (.inr h.symm)
      · exact .inr h


theorem wpUp_textR {C : World → Prop} {Z : Act → World → Prop} {a0 : Act} {n0 : Nat} (T : UpTextR ops n0) : ∀ (l : List Oper) (k : Nat) (E : List Mk) (a : Act) (Cc : Nat → Prop) (cv : Nat → Value) (D : Nat → Value → World → Prop),
    k + l.length = n0 → (∀ j, j < l.length → l[j]? = ops[k + j]?) → Lex ops a0 k E a Cc cv D → (∀ i, i < k → ∀ v, UpClosed (D i v)) → (∀ j o, j < k → ops[j]? = some o → Turn P ops n0 C a0 D j o) → wpUp P ops C Z l k E a →
    ∃ D' : Nat → Value → World → Prop, (∀ i, i < n0 → ∀ v, UpClosed (D' i v)) ∧ (∀ j o, j < n0 → ops[j]? = some o → Turn P ops n0 C a0 D' j o) ∧
      (∀ (b : Act) (w : World) (vals : Nat → Value), C w → Desc ops a0 (fun i => i < n0) vals b → (∀ i, i < n0 → D' i (vals i) w) → Z b w)
  | [], k, E, a, Cc, cv, D, hk, _, L, hU, hT, h => by
    simp only [List.length_nil, Nat.add_zero] at hk
    subst hk
    refine ⟨D, hU, hT, fun b w vals hC hb hD => ?_⟩
    classical
    have hf := (h w hC).inst (vals := vals) fun m hm => by
      obtain ⟨h1, _, _, h4, _⟩ := L.mem m hm
      rw [h4]; exact hD _ h1
    have hd := L.desc.congr (S' := fun i => i < k ∧ Cc i) (vals' := vals) (fun _ => Iff.rfl) (fun i hi => (L.const i hi.1 hi.2 _ _ (hD i hi.1)).symm)
    have hd := Desc.fillR T E _ a (fun i hi => hi.1) hd (fun m hm => ⟨(L.mem m hm).1, (L.mem m hm).2.2.1⟩)
    have : fillWith vals E a = b := by
      have hag : ∀ t, (fillWith vals E a).tmps[t]? = b.tmps[t]? := fun t => hd.agree hb t fun i o ho hdst => ⟨⟨fun hi => ?_, fun hi => ?_⟩, fun _ => rfl⟩
      · have h1 : (fillWith vals E a).tmps = b.tmps := Array.ext_getElem? hag
        have h2 : (fillWith vals E a).defers = b.defers := hd.defers.trans hb.defers.symm
        cases hx : fillWith vals E a; cases hy : b
        rw [hx, hy] at h1 h2
        simp only at h1 h2
        rw [h1, h2]
      · rcases hi with hi | ⟨m, hm, rfl⟩
        · exact hi.1
        · exact (L.mem m hm).1
      · by_cases hc : Cc i
        · exact .inl ⟨hi, hc⟩
        · exact .inr (L.all i hi hc)
    rw [this] at hf
    exact hf
  | o :: rest, k, E, a, Cc, cv, D, hk, hl, L, hU, hT, h => by
    classical
    simp only [List.length_cons] at hk
    have ho : ops[k]? = some o := by have := hl 0 (by simp); simpa using this.symm
    have hkn : k < n0 := by omega
    have hmemo : o ∈ ops := Array.mem_of_getElem? ho
    -- what the guard sees
    have hwant : ∀ (b : Act) (w : World) (vals : Nat → Value) (S : Nat → Prop), Desc ops a0 S vals b → (∀ i, S i → i < k → D i (vals i) w) → (∀ i, waitsB o i = true → S i) →
        (∀ i x, S i → ops[i]? = some x → i ≠ k ∧ waitsB x k = false) → (∀ i, S i → i < n0) → Region.wanted o (yielded ops b.tmps) = Region.wanted o (yielded ops a.tmps) := by
      intro b w vals S hb hD hw hS hSn
      refine wanted_agree fun g bb t hg hd => hb.agree L.desc t fun i x hx hxd => ?_
      have hlook := guard_looks hg hd
      rcases Nat.lt_trichotomy i k with hik | rfl | hik
      · have hwi : waitsB o i = true := by
          rcases T.pair i k x o hik hkn hx ho with h | h
          · exact h
          · rw [not_apart hxd hlook] at h; cases h
        have hSi := hw i hwi
        have hCc : Cc i := by
          by_cases hc : Cc i
          · exact hc
          · obtain ⟨m, hm, rfl⟩ := L.all i hik hc
            obtain ⟨_, _, _, _, hgf⟩ := L.mem m hm
            exact absurd hd (guardFree_spec hgf (by rw [hx, Option.bind_some, hxd]) hmemo hg)
        exact ⟨⟨fun _ => ⟨hik, hCc⟩, fun _ => hSi⟩, fun _ => L.const i hik hCc _ _ (hD i hSi hik)⟩
      · exact ⟨⟨fun hi => absurd rfl (hS i x hi hx).1, fun hi => absurd hi.1 (Nat.lt_irrefl _)⟩, fun hi => absurd rfl (hS i x hi hx).1⟩
      · have hno : ¬ S i := fun hi => by
          rcases T.pair k i o x hik (hSn i hi) ho hx with h | h
          · rw [(hS i x hi hx).2] at h; cases h
          · rw [not_apart' hxd hlook] at h; cases h
        exact ⟨⟨fun hi => absurd hi hno, fun hi => absurd hi.1 (by omega)⟩, fun hi => absurd hi hno⟩
    have hexec : ∀ (b : Act) (w : World) (vals : Nat → Value) (S : Nat → Prop) (D1 : Value → World → Prop), Desc ops a0 S vals b → (∀ i, S i → i < k → D i (vals i) w) → (∀ i, waitsB o i = true → S i) →
        (∀ i x, S i → ops[i]? = some x → i ≠ k ∧ waitsB x k = false) → (∀ i, S i → i < n0) → fills (E.filter fun m => waitsB o m.1) a w (fun a' => upAt P o a' w D1) → upAt P o b w D1 := by
      intro b w vals S D1 hb hD hw hS hSn hf
      have hf := hf.inst (vals := fun i => if Cc i then cv i else vals i) fun m hm => by
        obtain ⟨hm1, hm2⟩ := List.mem_filter.1 hm
        obtain ⟨h1, h2, _, h4, _⟩ := L.mem m hm1
        rw [h4, if_neg h2]
        exact hD _ (hw _ hm2) h1
      have hd := L.desc.congr (S' := fun i => i < k ∧ Cc i) (vals' := fun i => if Cc i then cv i else vals i) (fun _ => Iff.rfl) (fun i hi => by simp only [hi.2, if_true])
      have hd := Desc.fillR T (E.filter fun m => waitsB o m.1) _ a (fun i hi => Nat.lt_trans hi.1 hkn) hd (fun m hm => by
        obtain ⟨h1, _, h3, _⟩ := L.mem m (List.mem_filter.1 hm).1
        exact ⟨Nat.lt_trans h1 hkn, h3⟩)
      have he : execOp b.eval o = execOp (fillWith (fun i => if Cc i then cv i else vals i) (E.filter fun m => waitsB o m.1) a).eval o := by
        refine exec_agree (ops := ops) (T.sel k o · · ho) fun t hlook => hb.agree hd t fun i x hx hxd => ?_
        rcases Nat.lt_trichotomy i k with hik | rfl | hik
        · have hwi : waitsB o i = true := by
            rcases T.pair i k x o hik hkn hx ho with h | h
            · exact h
            · rw [not_apart hxd hlook] at h; cases h
          have hSi := hw i hwi
          by_cases hc : Cc i
          · exact ⟨⟨fun _ => .inl ⟨hik, hc⟩, fun _ => hSi⟩, fun _ => by simp only [hc, if_true]; exact L.const i hik hc _ _ (hD i hSi hik)⟩
          · obtain ⟨m, hm, rfl⟩ := L.all i hik hc
            exact ⟨⟨fun _ => .inr ⟨m, List.mem_filter.2 ⟨hm, hwi⟩, rfl⟩, fun _ => hSi⟩, fun _ => by simp only [hc, if_false]⟩
        · refine ⟨⟨fun hi => absurd rfl (hS i x hi hx).1, fun hi => ?_⟩, fun hi => absurd rfl (hS i x hi hx).1⟩
          rcases hi with hi | ⟨m, hm, hmi⟩
          · exact absurd hi.1 (Nat.lt_irrefl _)
          · exact absurd (hmi ▸ (L.mem m (List.mem_filter.1 hm).1).1) (Nat.lt_irrefl _)
        · have hno : ¬ S i := fun hi => by
            rcases T.pair k i o x hik (hSn i hi) ho hx with h | h
            · rw [(hS i x hi hx).2] at h; cases h
            · rw [not_apart' hxd hlook] at h; cases h
          refine ⟨⟨fun hi => absurd hi hno, fun hi => ?_⟩, fun hi => absurd hi hno⟩
          rcases hi with hi | ⟨m, hm, rfl⟩
          · exact absurd hi.1 (by omega)
          · exact absurd (L.mem m (List.mem_filter.1 hm).1).1 (by omega)
      unfold upAt at hf ⊢
      rw [he]
      exact hf
    have hrest : k + 1 + rest.length = n0 := by omega
    have hlrest : ∀ j, j < rest.length → rest[j]? = ops[k + 1 + j]? := fun j hj => by
      have := hl (j + 1) (by simp only [List.length_cons]; omega)
      rw [List.getElem?_cons_succ] at this
      rw [this, Nat.add_assoc, Nat.add_comm 1 j]
    have hdst : ∀ (i : Nat) (x : Oper) (d : Tmp), i < k → ops[i]? = some x → x.dst = some d → o.dst ≠ some d := fun i x d hi hx hd => T.dist i k x o d hi hkn hx ho hd
    have hotk : ∀ (Dk : Value → World → Prop) (i : Nat), i < k → (fun i => if i = k then Dk else D i) i = D i := fun Dk i hi => by simp only [show ¬ i = k by omega, if_false]
    have hTurn : ∀ (Dk : Value → World → Prop), Turn P ops n0 C a0 (fun i => if i = k then Dk else D i) k o → ∀ j x, j < k + 1 → ops[j]? = some x → Turn P ops n0 C a0 (fun i => if i = k then Dk else D i) j x := fun Dk h0 j x hj hx => by
      by_cases hjk : j = k
      · subst hjk
        rw [ho] at hx; cases hx
        exact h0
      · intro b w vals S hC hb hSn hD hw hS
        have := hT j x (by omega) hx b w vals S hC hb hSn (fun i hi hij => by have := hD i hi hij; rwa [hotk Dk i (by omega)] at this) hw hS
        rw [hotk Dk j (by omega)]
        exact this
    have hUp : ∀ (Dk : Value → World → Prop), (∀ v, UpClosed (Dk v)) → ∀ i, i < k + 1 → ∀ v, UpClosed ((fun i => if i = k then Dk else D i) i v) := fun Dk h0 i hi v => by
      by_cases hik : i = k
      · simp only [hik, if_true]; exact h0 v
      · rw [hotk Dk i (by omega)]; exact hU i (by omega) v
    have hLexC : ∀ (u : Value), Lex ops a0 (k + 1) E (a.put o.dst u) (fun i => Cc i ∨ i = k) (fun i => if i = k then u else cv i) (fun i => if i = k then (fun v' _ => v' = u) else D i) := fun u => by
      refine ⟨?_, ?_, ?_, ?_⟩
      · have h1 := L.desc.congr (S' := fun i => i < k ∧ Cc i) (vals' := fun i => if i = k then u else cv i) (fun _ => Iff.rfl) (fun i hi => by simp only [show ¬ i = k by omega, if_false])
        have h2 := h1.put (j := k) ho fun i x d hi _ hx hd => hdst i x d hi.1 hx hd
        simp only [if_true] at h2
        refine h2.congr (fun i => ?_) (fun _ _ => rfl)
        constructor
        · rintro (⟨h, h'⟩ | rfl)
          · exact ⟨by omega, .inl h'⟩
          · exact ⟨by omega, .inr rfl⟩
        · rintro ⟨h, h' | rfl⟩
          · by_cases hik : i = k
            · exact .inr hik
            · exact .inl ⟨by omega, h'⟩
          · exact .inr rfl
      · intro i hi hc v w hD
        by_cases hik : i = k
        · simp only [hik, if_true] at hD ⊢; exact hD
        · simp only [hik, if_false] at hD ⊢
          exact L.const i (by omega) (hc.resolve_right hik) v w hD
      · intro m hm
        obtain ⟨h1, h2, h3, h4, h5⟩ := L.mem m hm
        exact ⟨by omega, fun h => h.elim h2 (by omega), h3, by rw [h4]; simp only [show ¬ m.1 = k by omega, if_false], h5⟩
      · intro i hi hc
        exact L.all i (by have : i ≠ k := fun h => hc (.inr h); omega) (fun h => hc (.inl h))
    have hLexM : ∀ (Dk : Value → World → Prop), guardFree ops k = true → Lex ops a0 (k + 1) ((k, o.dst, Dk) :: E) a (fun i => Cc i ∧ i ≠ k) cv (fun i => if i = k then Dk else D i) := fun Dk hg => by
      refine ⟨?_, ?_, ?_, ?_⟩
      · refine L.desc.congr (fun i => ?_) (fun _ _ => rfl)
        constructor
        · rintro ⟨h, h'⟩; exact ⟨by omega, h', by omega⟩
        · rintro ⟨h, h', h''⟩; exact ⟨by omega, h'⟩
      · intro i hi hc v w hD
        simp only [hc.2, if_false] at hD
        exact L.const i (by have := hc.2; omega) hc.1 v w hD
      · intro m hm
        rcases List.mem_cons.1 hm with rfl | hm
        · exact ⟨by simp, fun h => h.2 rfl, by simp only [ho, Option.bind_some], by simp only [if_true], hg⟩
        · obtain ⟨h1, h2, h3, h4, h5⟩ := L.mem m hm
          exact ⟨by omega, fun h => h2 h.1, h3, by rw [h4]; simp only [show ¬ m.1 = k by omega, if_false], h5⟩
      · intro i hi hc
        by_cases hik : i = k
        · exact ⟨_, List.mem_cons_self .., hik.symm⟩
        · obtain ⟨m, hm, hmi⟩ := L.all i (by omega) (fun h => hc ⟨h, hik⟩)
          exact ⟨m, List.mem_cons_of_mem _ hm, hmi⟩
    unfold wpUp at h
    by_cases hwt : Region.wanted o (yielded ops a.tmps) = true
    · simp only [hwt, if_true] at h
      rcases h with ⟨v, h1, h2⟩ | ⟨Dk, hg, hcl, h1, h2⟩
      · refine wpUp_textR T rest (k + 1) E _ _ _ _ hrest hlrest (hLexC v) (hUp _ fun _ _ _ h _ => h) (hTurn _ ?_) h2
        intro b w vals S hC hb hSn hD hw hS
        have hD' : ∀ i, S i → i < k → D i (vals i) w := fun i hi hik => by have := hD i hi hik; rwa [hotk _ i hik] at this
        refine .inl ⟨(hwant b w vals S hb hD' hw hS hSn).trans hwt, ?_⟩
        simp only [if_true]
        exact hexec b w vals S _ hb hD' hw hS hSn (h1 w hC)
      · refine wpUp_textR T rest (k + 1) _ _ _ _ _ hrest hlrest (hLexM Dk hg) (hUp _ hcl) (hTurn _ ?_) h2
        intro b w vals S hC hb hSn hD hw hS
        have hD' : ∀ i, S i → i < k → D i (vals i) w := fun i hi hik => by have := hD i hi hik; rwa [hotk _ i hik] at this
        refine .inl ⟨(hwant b w vals S hb hD' hw hS hSn).trans hwt, ?_⟩
        simp only [if_true]
        exact hexec b w vals S _ hb hD' hw hS hSn (h1 w hC)
    · simp only [hwt] at h
      refine wpUp_textR T rest (k + 1) E _ _ _ _ hrest hlrest (hLexC undef) (hUp _ fun _ _ _ h _ => h) (hTurn _ ?_) h
      intro b w vals S hC hb hSn hD hw hS
      have hD' : ∀ i, S i → i < k → D i (vals i) w := fun i hi hik => by have := hD i hi hik; rwa [hotk _ i hik] at this
      refine .inr ⟨(hwant b w vals S hb hD' hw hS hSn).trans (by simpa using hwt), ?_⟩
      simp only [if_true]


theorem ready_oneR {n0 k : Nat} (T : UpTextR ops n0) {listed : Array Bool} (hk : k < ops.size) (h1 : ∀ i, i < k → listed.getD i false = true) (h2 : ∀ i, k ≤ i → i < ops.size → listed.getD i true = false) (hn : n0 ≤ k) :
    ∀ i, i ∈ Region.ready .any ops listed → i = k := by
  intro i hi
  obtain ⟨hun, o, ho, hall⟩ := mem_ready.1 hi
  have hlt : i < ops.size := (Array.getElem?_eq_some_iff.1 ho).1
  rcases Nat.lt_trichotomy i k with h | h | h
  · have := h1 i h
    have := getD_both hun
    simp_all
  · exact h
  · have hcl : ∀ (j : Nat) (o : Oper), ops[j]? = some o → listed.getD j false = true → ∀ e ∈ o.after, Region.binds .any e = true → listed.getD e.on false = true := fun j x hj hl e he hb => by
      have hjs : j < ops.size := (Array.getElem?_eq_some_iff.1 hj).1
      rcases Nat.lt_or_ge j k with hjk | hjk
      · exact h1 _ (by have := T.lex j x hj e he hb; omega)
      · have := getD_both (h2 j hjk hjs); simp_all
    have hr := reach_listed hcl 12 i k (T.tail k i o h (by omega) ho) (fun o' ho' => by rw [ho] at ho'; cases ho'; exact hall)
    have := getD_both (h2 k (Nat.le_refl _) hk)
    simp_all

theorem wpAny_tailR {n0 : Nat} (T : UpTextR ops n0) {Q : Exit → Act → World → Prop} : ∀ (l : List Oper) (k fuel : Nat) (listed : Array Bool) (a : Act) (w : World), n0 ≤ k → k + l.length = ops.size → l.length ≤ fuel → (∀ j, j < l.length → l[j]? = ops[k + j]?) →
    listed.size = ops.size → (∀ i, i < k → listed.getD i false = true) → (∀ i, k ≤ i → i < ops.size → listed.getD i true = false) → wpList P ops Q l a w → wpAny P .any ops Q fuel listed a w
  | [], k, fuel, listed, a, w, _, hk, _, _, hsz, h1, _, h => by
    simp only [List.length_nil, Nat.add_zero] at hk
    have hr : Region.ready .any ops listed = [] := by
      rcases hx : Region.ready .any ops listed with _ | ⟨i, xs⟩
      · rfl
      · have hi : i ∈ Region.ready .any ops listed := by rw [hx]; exact List.mem_cons_self ..
        obtain ⟨hun, o, ho, _⟩ := mem_ready.1 hi
        have hlt : i < ops.size := (Array.getElem?_eq_some_iff.1 ho).1
        have := h1 i (by omega)
        have := getD_both hun
        simp_all
    cases fuel with
    | zero => exact ⟨hr, h⟩
    | succ f => exact ⟨fun _ => h, fun i hi => by rw [hr] at hi; cases hi⟩
  | o :: l, k, fuel, listed, a, w, hn, hk, hf, hl, hsz, h1, h2, h => by
    simp only [List.length_cons] at hk hf
    obtain ⟨f, rfl⟩ : ∃ f, fuel = f + 1 := ⟨fuel - 1, by omega⟩
    have ho : ops[k]? = some o := by have := hl 0 (by simp); simpa using this.symm
    have hlt : k < ops.size := (Array.getElem?_eq_some_iff.1 ho).1
    have hkr : k ∈ Region.ready .any ops listed := mem_ready.2 ⟨h2 k (Nat.le_refl _) hlt, o, ho, fun e he hb => h1 _ (T.lex k o ho e he hb)⟩
    refine ⟨fun hr => (by rw [hr] at hkr; cases hkr), fun i hi => ?_⟩
    obtain rfl := ready_oneR T hlt h1 h2 hn i hi
    unfold wpList at h
    unfold wpOp
    have hnext : ∀ a w, wpList P ops Q l a w → wpAny P .any ops Q f (listed.setIfInBounds i true) a w := fun a w h => by
      refine wpAny_tailR T l (i + 1) f _ a w (by omega) (by omega) (by omega) (fun j hj => ?_) (by simp [hsz]) (fun j hj => ?_) (fun j hj hjs => ?_) h
      · have := hl (j + 1) (by simp only [List.length_cons]; omega)
        rw [List.getElem?_cons_succ] at this
        rw [this, Nat.add_assoc, Nat.add_comm 1 j]
      · by_cases hji : i = j
        · subst hji; simp [hsz, hlt]
        · exact getD_set_true (h1 j (by omega))
      · rw [getD_set_ne true (by omega)]; exact h2 j (by omega) hjs
    simp only [ho]
    split
    · rename_i hw
      simp only [hw, if_true] at h
      exact h.imp (Oper.wp_mono hnext) id
    · rename_i hw
      simp only [hw] at h
      exact hnext _ _ h

theorem wpAny_upR {C : World → Prop} (hCU : UpClosed C) {a0 : Act} {n0 : Nat} (T : UpTextR ops n0) {D : Nat → Value → World → Prop} {Q : Exit → Act → World → Prop} (hU : ∀ i, i < n0 → ∀ v, UpClosed (D i v)) (hT : ∀ j o, j < n0 → ops[j]? = some o → Turn P ops n0 C a0 D j o)
    (hZ : ∀ (b : Act) (w : World) (vals : Nat → Value), C w → Desc ops a0 (fun i => i < n0) vals b → (∀ i, i < n0 → D i (vals i) w) → wpList P ops Q (ops.toList.drop n0) b w) :
    ∀ (fuel : Nat) (L : List Nat) (listed : Array Bool) (a : Act) (w : World) (vals : Nat → Value), L.length + (ops.size - n0) ≤ fuel → (∀ i, i < n0 → listed.getD i true = false → i ∈ L) → listed.size = ops.size →
      (∀ i, n0 ≤ i → i < ops.size → listed.getD i true = false) → (∀ j o, ops[j]? = some o → listed.getD j false = true → ∀ e ∈ o.after, Region.binds .any e = true → listed.getD e.on false = true) →
      C w → Desc ops a0 (fun i => listed.getD i false = true) vals a → (∀ i, listed.getD i false = true → D i (vals i) w) → wpAny P .any ops Q fuel listed a w := by
  intro fuel
  induction fuel with
  | zero =>
    intro L listed a w vals hL hun hsz htl hcl hC hd hD
    have hL0 : L = [] := List.length_eq_zero_iff.1 (by omega)
    subst hL0
    have hn : n0 = ops.size := by have := T.le; omega
    have hall : ∀ i, i < n0 → listed.getD i false = true := fun i hi => by
      cases h : listed.getD i false with
      | true => rfl
      | false => exact absurd (hun i hi (getD_in (by omega) h)) List.not_mem_nil
    refine wpAny_tailR T (ops.toList.drop n0) n0 0 listed a w (Nat.le_refl _) (by simp; omega) (by simp; omega) (fun j hj => by simp) hsz hall (fun i h1 h2 => by omega) (hZ a w vals hC (hd.congr (fun i => ⟨fun h => ?_, hall i⟩) fun _ _ => rfl) (fun i hi => hD i (hall i hi)))
    rcases Nat.lt_or_ge i n0 with hi | hi
    · exact hi
    · rw [Array.getD_eq_getD_getElem?, Array.getElem?_eq_none (by omega)] at h; cases h
  | succ fuel ih =>
    intro L listed a w vals hL hun hsz htl hcl hC hd hD
    by_cases hall : ∀ i, i < n0 → listed.getD i false = true
    · refine wpAny_tailR T (ops.toList.drop n0) n0 (fuel + 1) listed a w (Nat.le_refl _) (by simp; have := T.le; omega) (by simp; omega) (fun j hj => by simp) hsz hall htl (hZ a w vals hC (hd.congr (fun i => ⟨fun h => ?_, hall i⟩) fun _ _ => rfl) (fun i hi => hD i (hall i hi)))
      rcases Nat.lt_or_ge i n0 with hi | hi
      · exact hi
      · rcases Nat.lt_or_ge i ops.size with his | his
        · have := getD_both (htl i hi his); simp_all
        · rw [Array.getD_eq_getD_getElem?, Array.getElem?_eq_none (by omega)] at h; cases h
    · -- the least one that is not listed is ready
      have hready : Region.ready .any ops listed ≠ [] ∧ ∀ i ∈ Region.ready .any ops listed, i < n0 := by
        obtain ⟨m, hm, hmn, hmin⟩ : ∃ m, m < n0 ∧ listed.getD m false = false ∧ ∀ i, i < m → listed.getD i false = true := by
          have : ∀ d, (∀ i, i < d → listed.getD i false = true) ∨ ∃ m, m < d ∧ listed.getD m false = false ∧ ∀ i, i < m → listed.getD i false = true := by
            intro d
            induction d with
            | zero => exact .inl fun i hi => absurd hi (Nat.not_lt_zero _)
            | succ d ihd =>
              rcases ihd with h | ⟨m, h1, h2⟩
              · cases hx : listed.getD d false with
                | false => exact .inr ⟨d, by omega, hx, h⟩
                | true =>
                  refine .inl fun i hi => ?_
                  rcases Nat.lt_or_ge i d with h' | h'
                  · exact h i h'
                  · have hid : i = d := by omega
                    rw [hid]; exact hx
              · exact .inr ⟨m, by omega, h2⟩
          rcases this n0 with h | h
          · exact absurd h hall
          · exact h
        have hms : m < ops.size := Nat.lt_of_lt_of_le hm T.le
        have hmt : listed.getD m true = false := getD_in (by omega) hmn
        refine ⟨fun hr => ?_, fun i hi => ?_⟩
        · have : m ∈ Region.ready .any ops listed := mem_ready.2 ⟨hmt, ops[m], by simp [hms], fun e he hb => hmin _ (T.lex m _ (by simp [hms]) e he hb)⟩
          rw [hr] at this; cases this
        · obtain ⟨_, o, ho, hal⟩ := mem_ready.1 hi
          rcases Nat.lt_or_ge i n0 with h | h
          · exact h
          · have hr := reach_listed hcl 12 i m (T.tail m i o (by omega) h ho) (fun o' ho' => by rw [ho] at ho'; cases ho'; exact hal)
            rw [hmn] at hr
            cases hr
      refine ⟨fun hr => absurd hr hready.1, fun i hi => ?_⟩
      have hin := hready.2 i hi
      obtain ⟨hunl, o, ho, hal⟩ := mem_ready.1 hi
      have his : i < ops.size := (Array.getElem?_eq_some_iff.1 ho).1
      have hilf : listed.getD i false = false := getD_both hunl
      have hSn : ∀ j, listed.getD j false = true → j < n0 := fun j hj => by
        rcases Nat.lt_or_ge j n0 with h | h
        · exact h
        · rcases Nat.lt_or_ge j ops.size with his | his
          · have := getD_both (htl j h his); simp_all
          · rw [Array.getD_eq_getD_getElem?, Array.getElem?_eq_none (by omega)] at hj; cases hj
      have hturn := hT i o hin ho a w vals (fun j => listed.getD j false = true) hC hd hSn (fun j hj _ => hD j hj) (fun j hj => by
        obtain ⟨e, he, hb⟩ := waitsB_spec hj
        rw [← hb.2]; exact hal e he hb.1) (fun j x hj hx => ⟨fun hji => (by subst hji; rw [hilf] at hj; cases hj), by
        cases hxw : waitsB x i with
        | false => rfl
        | true =>
          obtain ⟨e, he, hb⟩ := waitsB_spec hxw
          have := hcl j x hx hj e he hb.1
          rw [hb.2, hilf] at this
          cases this⟩)
      -- what follows, the value being v, the world w'
      have hnext : ∀ v w', Up w w' → D i v w' → wpAny P .any ops Q fuel (listed.setIfInBounds i true) (a.put o.dst v) w' := by
        intro v w' hu hv
        refine ih (L.erase i) (listed.setIfInBounds i true) _ w' (fun j => if j = i then v else vals j) ?_ ?_ (by simp [hsz]) ?_ ?_ (hCU w w' hC hu) ?_ ?_
        · have hmem := hun i hin hunl
          have := List.length_erase_of_mem hmem
          have hpos : 0 < L.length := List.length_pos_of_mem hmem
          omega
        · intro j hj hjl
          by_cases hji : j = i
          · subst hji; simp [hsz, his] at hjl
          · rw [getD_set_ne true (Ne.symm hji)] at hjl
            exact (List.mem_erase_of_ne hji).2 (hun j hj hjl)
        · intro j hj hjs
          rw [getD_set_ne true (by omega)]; exact htl j hj hjs
        · intro j x hx hjl e he hb
          by_cases hji : j = i
          · subst hji
            rw [ho] at hx; cases hx
            exact getD_set_true (hal e he hb)
          · rw [getD_set_ne false (Ne.symm hji)] at hjl
            exact getD_set_true (hcl j x hx hjl e he hb)
        · have h1 := hd.congr (S' := fun j => listed.getD j false = true) (vals' := fun j => if j = i then v else vals j) (fun _ => Iff.rfl) (fun j hj => by
            have : ¬ j = i := fun h => by subst h; rw [hilf] at hj; cases hj
            simp only [this, if_false])
          have h2 := h1.put (j := i) ho fun j x d hj hne hx hd' => by
            rcases Nat.lt_or_ge j i with hl | hl
            · exact T.dist j i x o d hl hin hx ho hd'
            · intro e
              exact T.dist i j o x d (by omega) (hSn j hj) ho hx e hd'
          simp only [if_true] at h2
          refine h2.congr (fun j => ?_) (fun _ _ => rfl)
          by_cases hji : j = i
          · subst hji; simp [hsz, his]
          · rw [getD_set_ne false (Ne.symm hji)]; simp [hji]
        · intro j hj
          by_cases hji : j = i
          · subst hji; simp only [if_true]; exact hv
          · rw [getD_set_ne false (Ne.symm hji)] at hj
            simp only [hji, if_false]
            exact hU j (hSn j hj) _ _ _ (hD j hj) hu
      unfold wpOp
      simp only [ho]
      rcases hturn with ⟨hw, hat⟩ | ⟨hw, hdu⟩
      · simp only [hw, if_true]
        exact .inl (hat.wp hnext)
      · simp only [hw, Bool.false_eq_true, if_false]
        exact hnext undef w (Up.refl w) hdu


/-- THE THEOREM: the first n0 operations in the order of the text, each in a world of which only 'Up w' is known; then the tail, each of whose operations waits for all before it. -/
theorem wp_region_upR (n0 : Nat) {id : Nat} {Q : Exit → Act → World → Prop} {a : Act} {w : World} {l : List Oper} (hm : P.follows .mixedOrders = true) (hB : upBR l.toArray n0 = true)
    (h : WUp P l.toArray (fun w' => Up w w') (fun a' w' => wpList P l.toArray Q (l.drop n0) a' w') (l.take n0) 0 [] a) : (Code.region id l.toArray true).wp P Q a w := by
  have T := upB_textR hB
  have hle : n0 ≤ l.length := by simpa using T.le
  obtain ⟨D, hU, hT, hZ⟩ := wpUp_textR (C := fun w' => Up w w') (Z := fun a' w' => wpList P l.toArray Q (l.drop n0) a' w') (a0 := a) (n0 := n0) T (l.take n0) 0 [] a (fun _ => False) (fun _ => undef) (fun _ _ _ => False) (by simp [hle]) (fun j hj => by
    simp only [List.length_take] at hj
    simp [show j < n0 by omega]) ⟨(Desc.refl a (fun _ => undef)).congr (fun i => by simp) (fun _ h => h.elim), fun i hi => absurd hi (Nat.not_lt_zero _), fun m hm => (by cases hm), fun i hi => absurd hi (Nat.not_lt_zero _)⟩
    (fun i hi => absurd hi (Nat.not_lt_zero _)) (fun j o hj => absurd hj (Nat.not_lt_zero _)) h.out
  refine wp_region_any hm (wpAny_upR (C := fun w' => Up w w') (fun _ _ h k => Up.trans h k) (a0 := a) T hU hT (by simpa using hZ) _ (List.range n0) _ a _ (fun _ => undef) (by simp; omega) (fun i hi _ => List.mem_range.2 hi) (by simp) (fun i hi his => by
    have : i < l.length := by simpa using his
    simp [this]) (fun j o ho hj => ?_) ?_ ?_ ?_)
  · rw [getD_replicate_false] at hj; cases hj
  · exact ⟨rfl, rfl, rfl, Nat.le_refl _, fun _ _ => rfl⟩
  · exact (Desc.refl a (fun _ => undef)).congr (fun i => by rw [getD_replicate_false]; simp) (fun _ h => h.elim)
  · intro i hi; rw [getD_replicate_false] at hi; cases hi


end
end Go.Proofs.Ytnbmkoapohjnmaa

/- Walk of the program's follow, which goes on behind a code. Conditions: the tree lies in memory, what is known is valid, the code can follow or is the clear code. -/
namespace Go.Proofs.Ytnbmkoapohjnmaa
set_option linter.unusedVariables false
set_option linter.unusedSimpArgs false
open Go Go.RowKit

/-- The last code is stored: nothing else of the tree turns. -/
theorem TreeAt.last {lo tb : Nat} {k k' : KnD} {vp vn vi : Value} {w : World} (h : TreeAt lo tb k vp vn vi w) (x : Int) (hs : k'.set = k.set) (hp : k'.ps = k.ps) (hb : k'.base = k.base) (hl : k'.last = x) : TreeAt lo tb k' vp vn vi (w.setCell ⟨tb, 5, none⟩ (.int .i64 x)) := by
  have ht : k'.tree = k.tree := by unfold KnD.tree KnD.c; rw [hs, hp]
  refine ⟨?_, h.low, ?_, ?_, ?_⟩
  · unfold TrBox
    rw [hs, hb, hl]
    exact box_set h.box 5 (.int .i64 x)
  · rw [hp]; exact ownsRow_setb h.prs (box_ne h.box h.prs (by decide)) 5 _
  · rw [ht]; exact ownsRow_setb h.nod (box_ne h.box h.nod (by decide)) 5 _
  · rw [ht]; exact ownsRow_setb h.idx (box_ne h.box h.idx (by decide)) 5 _
theorem TrPost.last {lo tb : Nat} {k k' : KnD} {vp vn vi : Value} {w w' : World} (h : TrPost lo tb k vp vn vi w w') (x : Int) (hs : k'.set = k.set) (hp : k'.ps = k.ps) (hb : k'.base = k.base) (hl : k'.last = x) : TrPost lo tb k' vp vn vi w (w'.setCell ⟨tb, 5, none⟩ (.int .i64 x)) := by
  obtain ⟨vp', vn', vi', h1, h2, h3⟩ := h
  exact ⟨vp', vn', vi', h1.last x hs hp hb hl, h2.set (p := ⟨tb, 5, none⟩) (.inl (.inl rfl)) _, h3⟩
theorem TrPost.pre {lo tb : Nat} {k : KnD} {vp vn vi : Value} {w w1 w' : World} (hu : Up w w1) (h : TrPost lo tb k vp vn vi w1 w') : TrPost lo tb k vp vn vi w w' := by
  obtain ⟨vp', vn', vi', h1, h2, h3⟩ := h
  exact ⟨vp', vn', vi', h1, (Fr.of _ hu).trans h2 (fun _ h => .inl h), fun b hb => (h3 b hb).imp id (fun h => Nat.le_trans hu.size h)⟩
theorem TrPost.refl {lo tb : Nat} {k : KnD} {vp vn vi : Value} {w : World} (h : TreeAt lo tb k vp vn vi w) : TrPost lo tb k vp vn vi w w := ⟨vp, vn, vi, h, Fr.refl _ _, fun _ h => .inl h⟩

set_option maxRecDepth 100000 in
set_option maxHeartbeats 4000000 in
theorem followC_any (lo tb : Nat) (k : KnD) (vp vn vi : Value) (w : World) (h : TreeAt lo tb k vp vn vi w) (hk : k.Tr) (hb0 : 0 ≤ k.base) (hb1 : k.base ≤ k.ps.length) :
    Calls Try.prog 84  #[.pointer (some ⟨tb, 0, none⟩), .int .i64 (k.c : Nat)] w (fun e w' => (∃ v, e = .returned v) ∧ TrPost lo tb k.cleared vp vn vi w w') := by
  have cK := fun w => clearI_any k.set w hk.set
  have cF := fun w hT => forget_any lo tb k vp vn vi w hT hk hb0 hb1
  obtain ⟨c0, c1, c2, c3, c4, c5, c6, c7⟩ := h.cells
  have htb := h.lt
  have ec : k.c = clr k.set := rfl
  have H := Lib.hid h
  rw [ec]
  clear h
  go_enter Try.func84, Try.ntmps84
  go_wp2_with (first | (go_at_call 82; (with_reducible refine (cK _).mono ?_); rintro e w1 ⟨rfl, U1⟩; have B1 := bcell U1; have Z1 := U1.size; (try simp at Z1); (try rw [Nat.add_one_le_iff] at Z1)) | fail)
  refine (cF _ (H.out.up U1)).mono ?_
  rintro e w2 ⟨⟨v, rfl⟩, hP⟩
  have hP2 := hP.last (k' := k.cleared) (-1) rfl rfl rfl rfl
  obtain ⟨vp', vn', vi', hT2, -, -⟩ := hP
  have htb2 := hT2.lt
  obtain ⟨d0, d1, d2, d3, d4, d5, d6, d7⟩ := hT2.cells
  have hfr2 := box_free hT2.box
  have HP := Lib.hid hP2
  clear hT2 hP2 B1
  go_wp2
  (try simp only [Exit.inBlock, Exit.then]); refine bodyPost_ret (results_none rfl _ _ _) rfl ?_
  exact ⟨⟨_, rfl⟩, HP.out.pre U1⟩

/-- The code whose node has the first byte of a code's word. -/
def KnD.from (k : KnD) (x : Int) : Int := if x = k.next then k.last else x
theorem KnD.from_ok {k : KnD} (hk : k.Ok) {x : Int} (hf : k.follows x = true) : codeOk k.c k.ps.length (k.from x) = true := by
  unfold KnD.from
  rcases KnD.follows_cases hk hf with hc | ⟨_, hx, hl⟩
  · rw [if_neg (by rw [codeOk_iff] at hc; unfold KnD.next; omega)]; exact hc
  · rw [if_pos hx]; exact hl
theorem KnD.from_first {k : KnD} (hk : k.Ok) {x : Int} (hf : k.follows x = true) : (nodAt k.tree.ns (nodeOf k.c k.tree (k.from x))).fir = k.first x := by
  have hT := hk.tree
  have hfr := KnD.from_ok hk hf
  obtain ⟨a1, a2, a3⟩ := hT.node _ hfr
  have h1 := hT.first _ a1
  obtain ⟨-, -, f1, f2⟩ := hT.bytes _ a1
  have hcb := hk.c_bd
  rw [a3] at h1
  have h2 : (k.any x).getD 0 0 = (wordP k.c k.ps (k.from x)).getD 0 0 := by
    unfold KnD.any KnD.from
    split
    · have hl : codeOk k.c k.ps.length k.last = true := by
        have := hfr
        unfold KnD.from at this
        rwa [if_pos (by assumption)] at this
      have hp : 1 ≤ (k.word k.last).length := wordP_pos hk.ps hl
      show (k.word k.last ++ (k.word k.last).take 1).getD 0 0 = (k.word k.last).getD 0 0
      rw [List.getD_eq_getElem?_getD, List.getD_eq_getElem?_getD, List.getElem?_append_left (by omega)]
    · rfl
  unfold KnD.first
  rw [h2, h1, ub_nat f1 (by omega)]

set_option maxRecDepth 100000 in
set_option maxHeartbeats 4000000 in
theorem followW_any (lo tb : Nat) (k : KnD) (vp vn vi : Value) (x : Int) (w : World) (h : TreeAt lo tb k vp vn vi w) (hk : k.Ok) (hx : ¬ x = (k.c : Int)) (hf : k.follows x = true) :
    Calls Try.prog 84  #[.pointer (some ⟨tb, 0, none⟩), .int .i64 x] w (fun e w' => (∃ v, e = .returned v) ∧ TrPost lo tb (k.after x) vp vn vi w w') := by
  have hkt := hk.tr
  have cK := fun w => clearI_any k.set w hk.set
  obtain ⟨c0, c1, c2, c3, c4, c5, c6, c7⟩ := h.cells
  have hfr := box_free h.box
  have htb := h.lt
  have ec : k.c = clr k.set := rfl
  have hps : k.ps.length ≤ 100000 := by have := hkt.len; have := hkt.c_bd; omega
  obtain ⟨ap, cp, rfl⟩ := h.shape
  have cG := fun w => growI_any k.set k.base k.last ap k.ps.length cp w hk.set hps
  have cX := fun w => nextI_any k.set k.base k.last ap k.ps.length cp w hk.set hps
  rw [growN_eq] at cG
  simp only [knV] at cG cX
  have H := Lib.hid h
  have hxb : (x == ((clr k.set : Nat) : Int)) = false := by rw [← ec]; simpa using hx
  have en : ((clr k.set : Int) + 2 + k.ps.length) = (k.next : Nat) := by unfold KnD.next KnD.c; omega
  have hgw := htb
  cases hg : k.grow
  · have hA : k.after x = ⟨k.set, k.ps, k.base, x⟩ := by unfold KnD.after; rw [hg]; simp
    rw [hA]
    rw [hg] at cG
    clear h hx hg hA cX en
    go_enter Try.func84, Try.ntmps84
    go_wp2_with (first | ((go_at_call 82; (with_reducible refine (cK _).mono ?_); rintro e w1 ⟨rfl, U1⟩; have B1 := bcell U1; have Z1 := U1.size; (try simp at Z1); (try rw [Nat.add_one_le_iff] at Z1)); have htb1 := Nat.lt_of_lt_of_le htb U1.size; have hgl1 := Nat.lt_of_lt_of_le hgw U1.size) | ((go_at_call 85; (with_reducible refine (cG _).mono ?_); rintro e w2 ⟨rfl, U2⟩; have B2 := bcell U2; have Z2 := U2.size; (try simp at Z2); (try rw [Nat.add_one_le_iff] at Z2)); have htb2 := Nat.lt_of_lt_of_le htb1 U2.size; have hgl2 := Nat.lt_of_lt_of_le hgl1 U2.size))
    go_end0
    have hT := (H.out.up U1).up U2
    exact ⟨⟨_, rfl⟩, (((TrPost.refl hT).last (k' := ⟨k.set, k.ps, k.base, x⟩) x rfl rfl rfl rfl).pre U2).pre U1⟩
  · have hA : k.after x = ⟨k.set, k.ps ++ [⟨k.last, k.first x⟩], k.base, x⟩ := by unfold KnD.after; rw [hg]; rfl
    have hlast := hk.lastOk hg
    have hnx : k.next ≤ lastC k.set := by
      unfold KnD.grow at hg
      simp only [Bool.and_eq_true, decide_eq_true_eq] at hg
      exact hg.2
    obtain ⟨hf1, hf2⟩ := KnD.first_bd hk hf
    have hf3 : k.first x ≤ 255 := by have := hk.c_bd; omega
    have cL := fun wq hT => learnT_any lo tb k (.slice ap k.ps.length cp) vn vi ⟨k.last, k.first x⟩ wq hT hkt hlast hf1 hf2 hnx
    have cN := fun wq hT => nodeOf_any lo tb k (.slice ap k.ps.length cp) vn vi (k.from x) wq hT hkt (KnD.from_ok hk hf)
    have hfi := KnD.from_first hk hf
    obtain ⟨hn1, -, -⟩ := hk.tree.node _ (KnD.from_ok hk hf)
    generalize nodeOf k.c k.tree (k.from x) = nd at *
    obtain ⟨g, cap, nxx, rfl, hg1, hg2, hg3, hg4, hg5, d0, d1, d2, d3, d4, d5⟩ := h.node1 hkt hn1
    rw [hfi] at d4
    unfold maxLen at hg2
    clear hgw
    have hgw := hg4
    rw [hA]
    rw [hg] at cG
    generalize k.first x = fx at *
    dsimp only at cL
    clear h hx hg hA hf hfi hnx d0 d1 d2 d3 d5 hlast
    by_cases hxn : x = k.next
    · have hfrom : k.from x = k.last := by unfold KnD.from; rw [if_pos hxn]
      rw [hfrom] at cN
      clear hfrom
      rw [en] at cX
      rw [← hxn] at cX
      clear en hxn
      go_enter Try.func84, Try.ntmps84
      go_wp2_with (first | ((go_at_call 82; (with_reducible refine (cK _).mono ?_); rintro e w1 ⟨rfl, U1⟩; have B1 := bcell U1; have Z1 := U1.size; (try simp at Z1); (try rw [Nat.add_one_le_iff] at Z1)); have htb1 := Nat.lt_of_lt_of_le htb U1.size; have hgl1 := Nat.lt_of_lt_of_le hgw U1.size) | ((go_at_call 85; (with_reducible refine (cG _).mono ?_); rintro e w2 ⟨rfl, U2⟩; have B2 := bcell U2; have Z2 := U2.size; (try simp at Z2); (try rw [Nat.add_one_le_iff] at Z2)); have htb2 := Nat.lt_of_lt_of_le htb1 U2.size; have hgl2 := Nat.lt_of_lt_of_le hgl1 U2.size) | ((go_at_call 111; (with_reducible refine (cX _).mono ?_); rintro e w3 ⟨rfl, U3⟩; have B3 := bcell U3; have Z3 := U3.size; (try simp at Z3); (try rw [Nat.add_one_le_iff] at Z3)); have htb3 := Nat.lt_of_lt_of_le htb2 U3.size; have hgl3 := Nat.lt_of_lt_of_le hgl2 U3.size))
      refine wp_region_upR 18 (by kernel_rfl) (by kernel_rfl) ?_
      simp only [List.take, List.drop]
      repeat (refine wpUp_step (fun K hK => ?_); go_simp; (try simp only [↓IntWalk.iteOmega]); first
        | (refine hK _ _ ?_; clear hK K)
        | (apply stepU_c
           · intro wq hwq; (have hbq := bcell hwq; (repeat (first | refine fills_no (by rfl) ?_ | refine fills_yes (by rfl) (fun vq hvq => ?_))); simp only [List.filter_nil, fills]; unfold upAt; go_simp; (try go_bits); (try simp only [↓IntWalk.iteOmega]); (try (rw [dif_pos (by omega)]; go_simp; try go_bits)); first | exact upOut_value | (apply upOut_call; (go_at_call 112; exact cN _ ((((H.out.up U1).up U2).up U3).up hwq))) | (apply upOut_eq; (go_at_call 112; exact cN _ ((((H.out.up U1).up U2).up U3).up hwq))))
           go_simp; refine hK _ _ ?_; clear hK K))
      refine wpUp_nil (fun wq hwq => ?_)
      simp only [fills]
      have hT := (((H.out.up U1).up U2).up U3).up hwq
      have hUq : Up w wq := ((U1.trans U2).trans U3).trans hwq
      go_wp2_with fail
      with_reducible refine (cL _ hT).mono ?_
      rintro e w5 ⟨⟨v, rfl⟩, hP⟩
      have hP2 := hP.last (k' := ⟨k.set, k.ps ++ [⟨k.last, fx⟩], k.base, x⟩) x rfl rfl rfl rfl
      obtain ⟨vp', vn', vi', hT2, -, -⟩ := hP
      have htb5 := hT2.lt
      obtain ⟨e0, e1, e2, e3, e4, e5, e6, e7⟩ := hT2.cells
      have hfr5 := box_free hT2.box
      have HP := Lib.hid (hP2.pre hUq)
      clear hT2 hP2 B1 B2 B3 hT hUq hwq
      go_wp2
      go_end0
      exact ⟨⟨_, rfl⟩, HP.out⟩
    · have hfrom : k.from x = x := by unfold KnD.from; rw [if_neg hxn]
      rw [hfrom] at cN
      clear hfrom
      have hxn2 : (x == (clr k.set : Int) + 2 + k.ps.length) = false := by rw [en]; simpa using hxn
      clear en hxn
      go_enter Try.func84, Try.ntmps84
      go_wp2_with (first | ((go_at_call 82; (with_reducible refine (cK _).mono ?_); rintro e w1 ⟨rfl, U1⟩; have B1 := bcell U1; have Z1 := U1.size; (try simp at Z1); (try rw [Nat.add_one_le_iff] at Z1)); have htb1 := Nat.lt_of_lt_of_le htb U1.size; have hgl1 := Nat.lt_of_lt_of_le hgw U1.size) | ((go_at_call 85; (with_reducible refine (cG _).mono ?_); rintro e w2 ⟨rfl, U2⟩; have B2 := bcell U2; have Z2 := U2.size; (try simp at Z2); (try rw [Nat.add_one_le_iff] at Z2)); have htb2 := Nat.lt_of_lt_of_le htb1 U2.size; have hgl2 := Nat.lt_of_lt_of_le hgl1 U2.size) | ((go_at_call 111; (with_reducible refine (cX _).mono ?_); rintro e w3 ⟨rfl, U3⟩; have B3 := bcell U3; have Z3 := U3.size; (try simp at Z3); (try rw [Nat.add_one_le_iff] at Z3)); have htb3 := Nat.lt_of_lt_of_le htb2 U3.size; have hgl3 := Nat.lt_of_lt_of_le hgl2 U3.size))
      refine wp_region_upR 18 (by kernel_rfl) (by kernel_rfl) ?_
      simp only [List.take, List.drop]
      repeat (refine wpUp_step (fun K hK => ?_); go_simp; (try simp only [↓IntWalk.iteOmega]); first
        | (refine hK _ _ ?_; clear hK K)
        | (apply stepU_c
           · intro wq hwq; (have hbq := bcell hwq; (repeat (first | refine fills_no (by rfl) ?_ | refine fills_yes (by rfl) (fun vq hvq => ?_))); simp only [List.filter_nil, fills]; unfold upAt; go_simp; (try go_bits); (try simp only [↓IntWalk.iteOmega]); (try (rw [dif_pos (by omega)]; go_simp; try go_bits)); first | exact upOut_value | (apply upOut_call; (go_at_call 112; exact cN _ ((((H.out.up U1).up U2).up U3).up hwq))) | (apply upOut_eq; (go_at_call 112; exact cN _ ((((H.out.up U1).up U2).up U3).up hwq))))
           go_simp; refine hK _ _ ?_; clear hK K))
      refine wpUp_nil (fun wq hwq => ?_)
      simp only [fills]
      have hT := (((H.out.up U1).up U2).up U3).up hwq
      have hUq : Up w wq := ((U1.trans U2).trans U3).trans hwq
      go_wp2_with fail
      with_reducible refine (cL _ hT).mono ?_
      rintro e w5 ⟨⟨v, rfl⟩, hP⟩
      have hP2 := hP.last (k' := ⟨k.set, k.ps ++ [⟨k.last, fx⟩], k.base, x⟩) x rfl rfl rfl rfl
      obtain ⟨vp', vn', vi', hT2, -, -⟩ := hP
      have htb5 := hT2.lt
      obtain ⟨e0, e1, e2, e3, e4, e5, e6, e7⟩ := hT2.cells
      have hfr5 := box_free hT2.box
      have HP := Lib.hid (hP2.pre hUq)
      clear hT2 hP2 B1 B2 B3 hT hUq hwq
      go_wp2
      go_end0
      exact ⟨⟨_, rfl⟩, HP.out⟩

end Go.Proofs.Ytnbmkoapohjnmaa

/- Walk of the program's newTree. Conditions: what is known is valid and can be read. -/
namespace Go.Proofs.Ytnbmkoapohjnmaa
set_option linter.unusedVariables false
set_option linter.unusedSimpArgs false
open Go Go.RowKit

def litC1 (i : Nat) : List Value := [.int .i64 (-1), .int .i64 (-1), .int .i64 (-1), .int .u8 i, .int .u8 i, .int .i64 i]
def litC (b : Nat) : List Value := (List.range b).flatMap litC1
theorem litC_succ (b : Nat) : litC (b + 1) = litC b ++ litC1 b := by simp [litC, List.range_succ]
theorem litC_one (b : Nat) : ∀ u ∈ litC1 b, u.oneCell' = true := by
  intro u hu
  simp only [litC1, List.mem_cons, List.not_mem_nil, or_false] at hu
  rcases hu with rfl | rfl | rfl | rfl | rfl | rfl <;> rfl
theorem litC_all (c : Nat) : litC c = cellsN (litsN c) := by
  unfold litC cellsN
  rw [litsN_length]
  rw [List.flatMap_def, List.flatMap_def]
  congr 1
  apply List.map_congr_left
  intro i hi
  have hi := List.mem_range.1 hi
  have h1 : lastCh (litsN c) i c = -1 := by
    rcases lastCh_cases (litsN c) i c with ⟨h, _⟩ | ⟨j, hj, _, h3, _⟩
    · exact h
    · rw [litsN_at hj] at h3; simp only [] at h3; omega
  unfold nodC
  rw [litsN_at hi, h1]
  rfl
theorem TreeAt.not_own {lo tb : Nat} {k : KnD} {vp vn vi : Value} {w : World} (h : TreeAt lo tb k vp vn vi w) {b : Nat} {cs : Array Value} {T : TypeId} (hb : w.heap[b]? = some (.cells cs T)) (h1 : T ≠ 103) (h2 : T ≠ 96) (h3 : T ≠ 124) (h4 : T ≠ 3) : ¬ Own tb vp vn vi b := by
  rintro (rfl | e | e | e)
  · have := h.box
    unfold TrBox at this
    rw [hb] at this
    cases this
    exact h1 rfl
  · exact box_ne hb h.prs h2 e.symm
  · exact box_ne hb h.nod h3 e.symm
  · exact box_ne hb h.idx h4 e.symm

/-- What is known, of the first j pairs. -/
def KnD.upto (k : KnD) (j : Nat) : KnD := ⟨k.set, k.ps.take j, k.base, k.last⟩
theorem KnD.upto_tr {k : KnD} (h : k.Tr) (j : Nat) : (k.upto j).Tr := by
  refine ⟨h.set, h.ps.take _, ?_⟩
  have := h.len
  show (k.ps.take j).length + k.c + 1 ≤ lastC k.set
  rw [List.length_take]; omega
theorem KnD.upto_add {k : KnD} {j : Nat} (h : j < k.ps.length) : (k.upto j).add k.ps[j] = k.upto (j + 1) := by
  unfold KnD.upto KnD.add
  rw [List.take_succ_eq_append_getElem h]
theorem KnD.upto_all (k : KnD) : k.upto k.ps.length = k := by unfold KnD.upto; rw [List.take_length]

/-- The first loop: the nodes of the literals. -/
structure Nt1 (k : KnD) (v : Value) (w : World) (b : Nat) (vn : Value) (wr : World) : Prop where
  le : b ≤ clr k.set
  kn : KnAt w.heap.size k v wr
  box : TrBox (w.heap.size + 1) k (.slice none 0 0) vn (.slice none 0 0) wr
  row : wr.ownsRow w.heap.size 124 6 vn b (litC b)
  up : Up w wr
def RelNt1 (k : KnD) (v : Value) (w : World) (i : Value) (wr : World) : Prop := ∃ (b : Nat) (vn : Value), i = .int .i64 b ∧ Nt1 k v w b vn wr
structure Nt2 (k : KnD) (v : Value) (w : World) (j : Nat) (vp vn vi : Value) (wr : World) : Prop where
  le : j ≤ k.ps.length
  kn : KnAt w.heap.size k v wr
  tree : TreeAt w.heap.size (w.heap.size + 1) (k.upto j) vp vn vi wr
  up : Up w wr
def RelNt2 (k : KnD) (v : Value) (w : World) (i : Value) (wr : World) : Prop := ∃ (j : Nat) (vp vn vi : Value), i = .int .i64 j ∧ Nt2 k v w j vp vn vi wr

/-- What newTree leaves. -/
def NewTree (k : KnD) (w : World) (e : Ending) (w' : World) : Prop := ∃ tb vp vn vi, e = .returned (.pointer (some ⟨tb, 0, none⟩)) ∧ TreeAt w.heap.size tb k vp vn vi w' ∧ Up w w'

set_option maxRecDepth 100000 in
set_option maxHeartbeats 8000000 in
theorem newTree_any (k : KnD) (v : Value) (lo : Nat) (w : World) (hk : k.Ok) (hr : RdP lo w v k.ps) :
    Calls Try.prog 83  #[kV k v] w (NewTree k w) := by
  obtain ⟨iN, hiN, hzN0, hzN1, hzN2⟩ := info_parts infoNode
  have hkt := hk.tr
  have cK := fun w => clearI_any k.set w hk.set
  obtain ⟨hb2, hb3, hb4⟩ := clr_le hk.set
  have ec : k.c = clr k.set := rfl
  have hpl := hk.len
  have hrt := fun (wq : World) (hu : Up w wq) => hr.up hu
  obtain ⟨a, cap, rfl, hc1, hc2, hc3, hsome⟩ := hr
  unfold maxLen at hc2
  simp only [kV]
  go_enter Try.func83, Try.ntmps83
  go_wp2_with (first | (go_at_call 82; (with_reducible refine (cK _).mono ?_); rintro e w1 ⟨rfl, U1⟩; have B1 := bcell U1; have Z1 := U1.size; (try simp at Z1); (try rw [Nat.add_one_le_iff] at Z1)) | fail)
  have hkn : KnAt w.heap.size k (.slice a k.ps.length cap) w1 := box_up U1 (box_up ((Up.refl _).alloc _) (MapKept.heap_alloc w _).1)
  have hbx : TrBox (w.heap.size + 1) k (.slice none 0 0) (.slice none 0 0) (.slice none 0 0) w1 := box_up U1 (alloc2 w _ _)
  have hU1 : Up w w1 := by (repeat (first | with_reducible exact Up.refl _ | with_reducible assumption | with_reducible refine Up.set ?_ (by first | exact Nat.le_refl _ | (simp only []; omega) | (simp; omega)) _ | with_reducible refine Up.alloc ?_ _ | with_reducible refine Up.drew ?_ | refine Up.trans ?_ (by with_reducible assumption)))
  clear U1 B1
  go_loopw [17] (fun i wr => RelNt1 k (.slice a k.ps.length cap) w i wr) (fun i _ => clr k.set - (intOf i).toNat)
  case atStart => exact ⟨0, .slice none 0 0, rfl, Nat.zero_le _, hkn, hbx, World.ownsRow_nil _ _ _ _, hU1⟩
  case round =>
    clear hkn hbx hU1
    obtain ⟨b, vn, rfl, hN⟩ := hrel
    obtain ⟨hble, hkn, hbx, hrow, hup⟩ := hN
    obtain ⟨an, cn, rfl⟩ := ownsRow_shape hrow
    have hfr := box_free hbx
    have hfk := box_free hkn
    have htb := (Array.getElem?_eq_some_iff.1 hbx).1
    obtain ⟨k0, q0, q1, q2, q3, q4, q5⟩ := hkn.cells
    have hne1 : ¬ w.heap.size = w.heap.size + 1 := by omega
    have hsz := hup.size
    by_cases hlt : b < clr k.set
    · have hbm : (b : Int) % 256 = b := by omega
      have hb255 : (b : Int) ≤ 255 := by omega
      obtain ⟨c0, c1, c2, c3, c4, c5, c6, c7⟩ := TrBox.cells hbx
      have hneB : some (w.heap.size + 1) ≠ Value.ownBlock (.slice an b cn) := box_ne hbx hrow (by decide)
      have hneK : some w.heap.size ≠ Value.ownBlock (.slice an b cn) := box_ne hkn hrow (by decide)
      have HN := Lib.hid (And.intro hbx (And.intro hkn (And.intro hrow (And.intro hneB hneK))))
      clear hbx hkn hneB hneK
      go_wp2_with (at_builtin; refine wpList_append_own _ rfl _ _ 101 rfl w.heap.size 124 iN (.agg #[.int .i64 0, .int .i64 0, .int .i64 0, .int .u8 0, .int .u8 0, .int .i64 0]) 6 40 Try.underlying101 hiN hzN0 hzN1 hzN2 rfl (by decide) _ _ _ rfl (hrow.alloc _) ⟨wr.heap.size, 0, none⟩ 1 1 (litC1 b) rfl rfl (new_cells (litC1 b) _ rfl) (litC_one b) (by unfold maxLen; omega) (by omega) (by simp; omega) ?_; rintro v2 w2 hown2 hgr2 -; obtain ⟨a2, cc2, rfl⟩ := ownsRow_shape hown2; obtain ⟨c0, c1, c2, c3, c4, c5, c6, c7⟩ := TrBox.cells (gbox hgr2 (box_up ((Up.refl _).alloc _) HN.out.1) HN.out.2.2.2.1); have hfr := box_free (gbox hgr2 (box_up ((Up.refl _).alloc _) HN.out.1) HN.out.2.2.2.1); have HO := Lib.hid (And.intro hown2 hgr2); clear hown2 hgr2)
      go_roundw
      case rel =>
        obtain ⟨hown2, hgr2⟩ := HO.out
        have hb2' : TrBox (w.heap.size + 1) k (.slice none 0 0) (.slice an b cn) (.slice none 0 0) w2 := gbox hgr2 (box_up ((Up.refl _).alloc _) HN.out.1) HN.out.2.2.2.1
        refine ⟨b + 1, .slice a2 (b + 1) cc2, by go_num, by omega, ?_, box_set hb2' 6 _, ?_, ?_⟩
        · exact box_oth (gbox hgr2 (box_up ((Up.refl _).alloc _) HN.out.2.1) HN.out.2.2.2.2) (p := ⟨w.heap.size + 1, 6, none⟩) hne1 _
        · rw [litC_succ]; exact ownsRow_setb hown2 (box_ne hb2' hown2 (by decide)) 6 _
        · exact ((hup.alloc _).grown hgr2 (fun x hx => (HN.out.2.2.1.lt x hx).1)).set (p := ⟨w.heap.size + 1, 6, none⟩) (Nat.le_succ _) _
      case measure => simp [intOf]; omega
    · have e : b = clr k.set := by omega
      have hrow' : wr.ownsRow w.heap.size 124 6 (.slice an b cn) (k.upto 0).tree.ns.length (cellsN (k.upto 0).tree.ns) := by
        have e2 : (k.upto 0).tree = ⟨litsN (clr k.set), []⟩ := rfl
        rw [e2]
        show wr.ownsRow _ _ _ _ (litsN (clr k.set)).length _
        rw [litsN_length, ← litC_all, ← e]
        exact hrow
      have hT0 : TreeAt w.heap.size (w.heap.size + 1) (k.upto 0) (.slice none 0 0) (.slice an b cn) (.slice none 0 0) wr := ⟨hbx, Nat.le_succ _, World.ownsRow_nil _ _ _ _, hrow', World.ownsRow_nil _ _ _ _⟩
      have HK := Lib.hid (And.intro hkn (And.intro hT0 hup))
      clear e hrow hrow' hbx hT0 hkn
      go_wp2
      go_loopw [39] (fun i wr => RelNt2 k (.slice a k.ps.length cap) w i wr) (fun i _ => k.ps.length - (intOf i).toNat)
      case atStart => exact ⟨0, _, _, _, rfl, Nat.zero_le _, HK.out.1, HK.out.2.1, HK.out.2.2⟩
      case round =>
        clear HK hup hfr hfk htb k0 q0 q1 q2 q3 q4 q5 hne1 hsz
        obtain ⟨j, vp, vn, vi, rfl, hN⟩ := hrel
        obtain ⟨hjl, hkn, hT, hup⟩ := hN
        by_cases hlt : j < k.ps.length
        · obtain ⟨hpo, hpb0, hpb1⟩ := hk.ps.get hlt
          obtain ⟨bb, off, rfl, hlo, hbl, hcells⟩ := hsome (by omega)
          obtain ⟨q0, q1⟩ := hcells j k.ps[j] (List.getElem?_eq_getElem hlt)
          have r0 := (hup.cell (p := ⟨bb, off + j * 2, none⟩) hbl).trans q0
          have r1 := (hup.cell (p := ⟨bb, off + j * 2 + 1, none⟩) hbl).trans q1
          have hut : (k.upto j).ps.length = j := by unfold KnD.upto; simp only [List.length_take]; omega
          have cL := fun wq hT => learnT_any w.heap.size (w.heap.size + 1) (k.upto j) vp vn vi k.ps[j] wq hT (KnD.upto_tr hkt j) (by rw [hut]; exact hpo) hpb0 hpb1 (by unfold KnD.next; rw [hut]; show k.c + 2 + j ≤ lastC k.set; omega)
          have hadd := KnD.upto_add hlt
          have HT := Lib.hid (And.intro hkn (And.intro hT hup))
          have HADD := Lib.hid hadd
          clear hcells q0 q1 hkn hT hut hadd
          have hbl2 := Nat.lt_of_lt_of_le hbl hup.size
          go_wp2_with fail
          with_reducible refine (cL _ (HT.out.2.1.up (Up.alloc (Up.refl _) _))).mono ?_
          rintro e w2 ⟨⟨vv, rfl⟩, hP⟩
          go_wp2
          go_roundw
          case rel =>
            obtain ⟨hkn, hT, hup⟩ := HT.out
            obtain ⟨vp', vn', vi', hT', hfr', hO'⟩ := hP
            rw [HADD.out] at hT'
            have hTa := hT.up (Up.alloc (Up.refl wr) (.cells #[.int .i64 k.ps[j].pre, .int .i64 k.ps[j].byt] 96))
            have hkna := box_up (Up.alloc (Up.refl wr) (.cells #[.int .i64 k.ps[j].pre, .int .i64 k.ps[j].byt] 96)) hkn
            exact ⟨j + 1, vp', vn', vi', by go_num, by omega, hfr'.box hkna (hTa.not_own hkna (by decide) (by decide) (by decide) (by decide)), hT', Fr.upto (hup.alloc _) hfr' (fun b hb => (hTa.own_lo b hb).1)⟩
          case measure => simp [intOf]; omega
        · have e : j = k.ps.length := by omega
          rw [e, KnD.upto_all] at hT
          have HT := Lib.hid (And.intro hT hup)
          clear hkn hT
          go_wp2
          go_ret
          exact ⟨_, vp, vn, vi, rfl, HT.out.1, HT.out.2⟩

end Go.Proofs.Ytnbmkoapohjnmaa

/- Plain: following the codes of the longest words gives the data again, and one width for each code. Conditions: what is known is valid (KnD.Ok), the data fits. -/
namespace Go.Proofs.Ytnbmkoapohjnmaa
set_option linter.unusedVariables false
set_option linter.unusedSimpArgs false
open Go.RowKit

theorem KnD.fol_ne {k : KnD} (h : k.Ok) {x : Int} (hf : k.follows x = true) : x ≠ (k.c : Int) ∧ x ≠ (k.c : Int) + 1 := by
  rcases KnD.follows_cases h hf with hc | ⟨hg, rfl, hl⟩
  · rw [codeOk_iff] at hc; omega
  · unfold KnD.next; omega
theorem walk_greedyN : ∀ (n : Nat) (k : KnD) (d : List UInt8) (ws : List Int) (dat : List UInt8), k.Ok → (∀ b ∈ d, b.toNat < k.c) → d.length ≤ n → dat.length + d.length ≤ 2000 →
    ∃ W : List Int, walkN k (greedyN n k d) ws dat = ⟨ws ++ W, dat ++ d, true⟩ ∧ W.length = (greedyN n k d).length ∧ (∀ w ∈ W, 1 ≤ w ∧ w ≤ 10) ∧ (∀ x ∈ greedyN n k d, 0 ≤ x ∧ x ≤ 1024) := by
  intro n
  induction n with
  | zero =>
    intro k d ws dat hk hl hn hd
    have hb := hk.c_bd
    have hw := KnD.width_bd hk
    have e : d = [] := List.length_eq_zero_iff.1 (by omega)
    subst e
    refine ⟨[(k.width : Int)], ?_, rfl, ?_, ?_⟩
    · show walkN k [(k.c : Int) + 1] ws dat = _
      rw [walkN_end rfl]; simp
    · intro w hw'; simp only [List.mem_singleton] at hw'; subst hw'; omega
    · intro x hx; simp only [greedyN, List.mem_singleton] at hx; subst hx; omega
  | succ n ih =>
    intro k d ws dat hk hl hn hd
    have hb := hk.c_bd
    have hw := KnD.width_bd hk
    by_cases e : d = []
    · subst e
      rw [greedyN_nil]
      refine ⟨[(k.width : Int)], ?_, rfl, ?_, ?_⟩
      · rw [walkN_end rfl]; simp
      · intro w hw'; simp only [List.mem_singleton] at hw'; subst hw'; omega
      · intro x hx; simp only [List.mem_singleton] at hx; subst hx; omega
    · obtain ⟨hf, ha⟩ := KnD.find_any hk e hl
      have hfb := KnD.find_bd hk hf
      obtain ⟨n1, n2⟩ := KnD.fol_ne hk hf
      have hp := KnD.longest_pos (k := k) e
      have hle := KnD.longest_le (k := k) d
      have htk := KnD.longest_take (k := k) d
      have hok2 := KnD.after_ok hk hf
      have hjoin : k.longest d ++ d.drop (k.longest d).length = d := by conv => lhs; arg 1; rw [← htk]
                                                                        exact List.take_append_drop _ _
      have hl2 : ∀ b ∈ d.drop (k.longest d).length, b.toNat < k.c := fun b hb => hl b (List.mem_of_mem_drop hb)
      have hln : (d.drop (k.longest d).length).length ≤ n := by rw [List.length_drop]; omega
      have hd2 : (dat ++ k.longest d).length + (d.drop (k.longest d).length).length ≤ 2000 := by rw [List.length_drop, List.length_append]; omega
      by_cases hfull : (k.after (k.find (k.longest d))).full = true ∧ d.drop (k.longest d).length ≠ []
      · rw [greedyN_full e rfl rfl hfull.1 hfull.2]
        obtain ⟨W, h1, h2, h3, h4⟩ := ih (k.after (k.find (k.longest d))).cleared (d.drop (k.longest d).length) (ws ++ [(k.width : Int)] ++ [((k.after (k.find (k.longest d))).width : Int)]) (dat ++ k.longest d) (KnD.cleared_ok hok2) hl2 hln hd2
        have hw2 := KnD.width_bd hok2
        refine ⟨(k.width : Int) :: ((k.after (k.find (k.longest d))).width : Int) :: W, ?_, by simp [h2], ?_, ?_⟩
        · rw [walkN_word n2 n1 hf (by omega), ha, walkN_clear (k := k.after (k.find (k.longest d))) (x := (k.c : Int)) rfl, h1]
          simp [hjoin]
        · intro w hw'
          simp only [List.mem_cons] at hw'
          rcases hw' with rfl | rfl | hw'
          · omega
          · omega
          · exact h3 w hw'
        · intro x hx
          simp only [List.mem_cons] at hx
          rcases hx with rfl | rfl | hx
          · omega
          · omega
          · exact h4 x hx
      · rw [greedyN_more e rfl rfl hfull]
        obtain ⟨W, h1, h2, h3, h4⟩ := ih (k.after (k.find (k.longest d))) (d.drop (k.longest d).length) (ws ++ [(k.width : Int)]) (dat ++ k.longest d) hok2 hl2 hln hd2
        refine ⟨(k.width : Int) :: W, ?_, by simp [h2], ?_, ?_⟩
        · rw [walkN_word n2 n1 hf (by omega), ha, h1]
          simp [hjoin]
        · intro w hw'
          simp only [List.mem_cons] at hw'
          rcases hw' with rfl | hw'
          · omega
          · exact h3 w hw'
        · intro x hx
          simp only [List.mem_cons] at hx
          rcases hx with rfl | hx
          · omega
          · exact h4 x hx
/-- Following the codes of data. -/
theorem walk_greedy {k : KnD} {d : List UInt8} (hk : k.Ok) (hl : ∀ b ∈ d, b.toNat < k.c) (hd : d.length ≤ 2000) :
    (walkN k (greedy k d) [] []).ws.length = (greedy k d).length ∧ (walkN k (greedy k d) [] []).data = d ∧ (walkN k (greedy k d) [] []).ok = true ∧ (∀ w ∈ (walkN k (greedy k d) [] []).ws, 1 ≤ w ∧ w ≤ 10) ∧ (∀ x ∈ greedy k d, 0 ≤ x ∧ x ≤ 1024) := by
  obtain ⟨W, h1, h2, h3, h4⟩ := walk_greedyN d.length k.cleared d [(k.width : Int)] [] (KnD.cleared_ok hk) hl (Nat.le_refl _) (by simpa using hd)
  have hb := hk.c_bd
  have hw := KnD.width_bd hk
  have e : walkN k (greedy k d) [] [] = ⟨[(k.width : Int)] ++ W, [] ++ d, true⟩ := by
    unfold greedy
    rw [walkN_clear rfl, List.nil_append, h1]
  rw [e]
  refine ⟨by simp [greedy, h2], rfl, rfl, fun w hw' => ?_, fun x hx => ?_⟩
  · simp only [List.cons_append, List.nil_append, List.mem_cons] at hw'
    rcases hw' with rfl | hw'
    · omega
    · exact h3 w hw'
  · unfold greedy at hx
    simp only [List.mem_cons] at hx
    rcases hx with rfl | hx
    · omega
    · exact h4 x hx
theorem greedyN_len : ∀ (n : Nat) (k : KnD) (d : List UInt8), d.length ≤ n → (greedyN n k d).length ≤ 2 * d.length + 1
  | 0, k, d, _ => by simp [greedyN]
  | n + 1, k, d, h => by
    by_cases e : d = []
    · subst e; rw [greedyN_nil]; simp
    · have hp := KnD.longest_pos (k := k) e
      have hle := KnD.longest_le (k := k) d
      have hdl : (d.drop (k.longest d).length).length = d.length - (k.longest d).length := List.length_drop
      by_cases hfull : (k.after (k.find (k.longest d))).full = true ∧ d.drop (k.longest d).length ≠ []
      · rw [greedyN_full e rfl rfl hfull.1 hfull.2]
        have := greedyN_len n (k.after (k.find (k.longest d))).cleared (d.drop (k.longest d).length) (by omega)
        simp only [List.length_cons]; omega
      · rw [greedyN_more e rfl rfl hfull]
        have := greedyN_len n (k.after (k.find (k.longest d))) (d.drop (k.longest d).length) (by omega)
        simp only [List.length_cons]; omega
theorem greedy_len (k : KnD) (d : List UInt8) : (greedy k d).length ≤ 2 * d.length + 2 := by
  have := greedyN_len d.length k.cleared d (Nat.le_refl _)
  unfold greedy; rw [List.length_cons]; omega

end Go.Proofs.Ytnbmkoapohjnmaa

/- Walk of the program's greedy. Conditions: what is known is valid and can be read; the data fits. -/
namespace Go.Proofs.Ytnbmkoapohjnmaa
set_option linter.unusedVariables false
set_option linter.unusedSimpArgs false
open Go Go.RowKit

theorem TreeAt.base {lo lo' tb : Nat} {k : KnD} {vp vn vi : Value} {w : World} (h : TreeAt lo tb k vp vn vi w) (hl : lo' ≤ lo) : TreeAt lo' tb k vp vn vi w := ⟨h.box, Nat.le_trans hl h.low, ownsRow_base h.prs hl, ownsRow_base h.nod hl, ownsRow_base h.idx hl⟩
/-- The memory of greedy: the tree, and the row of codes. -/
structure GiW (w : World) (tb : Nat) (k : KnD) (vp vn vi vc : Value) (acc : List Int) (wr : World) : Prop where
  tree : TreeAt w.heap.size tb k vp vn vi wr
  own : ownI wr w.heap.size vc acc
  sep : ∀ b, vc.ownBlock = some b → ¬ Own tb vp vn vi b
  up : Up w wr
theorem GiW.upd {w : World} {tb : Nat} {k : KnD} {vp vn vi vc : Value} {acc : List Int} {wr w' : World} (h : GiW w tb k vp vn vi vc acc wr) (hu : Up wr w') : GiW w tb k vp vn vi vc acc w' := ⟨h.tree.up hu, ownsRow_up h.own hu, h.sep, h.up.trans hu⟩
theorem GiW.tr {w : World} {tb : Nat} {k k' : KnD} {vp vn vi vc : Value} {acc : List Int} {wr w' : World} (h : GiW w tb k vp vn vi vc acc wr) (hp : TrPost w.heap.size tb k' vp vn vi wr w') : ∃ vp' vn' vi', GiW w tb k' vp' vn' vi' vc acc w' := by
  obtain ⟨vp', vn', vi', hT, hF, hO⟩ := hp
  refine ⟨vp', vn', vi', hT, hF.row h.own h.sep, ?_, Fr.upto h.up hF (fun b hb => (h.tree.own_lo b hb).1)⟩
  intro b hb ho
  rcases hO b ho with h1 | h1
  · exact h.sep b hb h1
  · have := (h.own.lt b hb).2; omega
theorem GiW.app {w : World} {tb : Nat} {k : KnD} {vp vn vi vc : Value} {acc : List Int} {wr w' : World} (h : GiW w tb k vp vn vi vc acc wr) {o : Obj} {x : Int} {v' : Value} (hv : w'.ownsRow w.heap.size 3 1 v' (acc.length + 1) (cellsI acc ++ [.int .i64 x])) (hg : (wr.alloc o).grownBy w' vc.ownBlock) (hn : NewOr (wr.alloc o).heap.size vc v') : GiW w tb k vp vn vi v' (acc ++ [x]) w' := by
  have hA := h.upd (Up.alloc (Up.refl wr) o)
  have hFr : Fr (fun b => vc.ownBlock = some b) (wr.alloc o) w' := (Fr.refl _ _).gr hg (fun b hb => .inl hb)
  refine ⟨hA.tree.fr hFr (fun b hb e => hA.sep b e hb), ?_, ?_, hA.up.grown hg (fun b hb => (hA.own.lt b hb).1)⟩
  · rw [← cellsI_snoc] at hv
    exact ownsRow_n hv (by simp)
  · intro b hb ho
    rcases hn b hb with h1 | h1
    · exact hA.sep b h1 ho
    · have := (hA.tree.own_lo b ho).2; omega
/-- The plain state at a round's beginning, and behind the clear code of a round. -/
structure GiD (T : List Int) (k0 : KnD) (m : Nat) (k : KnD) (d : List UInt8) (acc : List Int) : Prop where
  len : d.length ≤ m
  le : d.length ≤ 2000
  sum : acc.length + 2 * d.length ≤ 4001
  tot : acc ++ (if k.full = true ∧ d ≠ [] then (k.c : Int) :: greedyN m k.cleared d else greedyN m k d) = T
  ok : k.Ok
  set : k.set = k0.set
  lit : ∀ b ∈ d, b.toNat < k0.c
structure GiE (T : List Int) (k0 : KnD) (m : Nat) (k : KnD) (d : List UInt8) (acc : List Int) : Prop where
  len : d.length ≤ m
  le : d.length ≤ 2000
  sum : acc.length + 2 * d.length ≤ 4002
  tot : acc ++ greedyN m k d = T
  ok : k.Ok
  set : k.set = k0.set
  lit : ∀ b ∈ d, b.toNat < k0.c
theorem c_of {k k0 : KnD} (h : k.set = k0.set) : k.c = k0.c := by unfold KnD.c; rw [h]
theorem GiD.nil {T : List Int} {k0 : KnD} {m : Nat} {k : KnD} {acc : List Int} (h : GiD T k0 m k [] acc) : acc ++ [(clr k0.set : Int) + 1] = T := by
  have h1 := h.tot
  rw [if_neg (fun h => h.2 rfl), greedyN_nil, c_of h.set] at h1
  exact h1
theorem GiD.full {T : List Int} {k0 : KnD} {m : Nat} {k : KnD} {d : List UInt8} {acc : List Int} (h : GiD T k0 m k d acc) (hd : d ≠ []) (hf : k.full = true) : GiE T k0 m k.cleared d (acc ++ [(clr k0.set : Int)]) := by
  have h1 := h.tot
  rw [if_pos ⟨hf, hd⟩, c_of h.set] at h1
  exact ⟨h.len, h.le, by have := h.sum; simp; omega, by rw [List.append_assoc]; exact h1, KnD.cleared_ok h.ok, h.set, h.lit⟩
theorem GiD.more {T : List Int} {k0 : KnD} {m : Nat} {k : KnD} {d : List UInt8} {acc : List Int} (h : GiD T k0 m k d acc) (hf : k.full = false) : GiE T k0 m k d acc := by
  have h1 := h.tot
  rw [if_neg (fun h => by rw [hf] at h; cases h.1)] at h1
  exact ⟨h.len, h.le, by have := h.sum; omega, h1, h.ok, h.set, h.lit⟩
theorem GiE.step {T : List Int} {k0 : KnD} {m : Nat} {k : KnD} {d : List UInt8} {acc : List Int} (h : GiE T k0 m k d acc) (hd : d ≠ []) :
    k.follows (k.find (k.longest d)) = true ∧ ¬ k.find (k.longest d) = (k.c : Int) ∧ 1 ≤ (k.longest d).length ∧ (k.longest d).length ≤ d.length ∧ GiD T k0 (m - 1) (k.after (k.find (k.longest d))) (d.drop (k.longest d).length) (acc ++ [k.find (k.longest d)]) := by
  have hll := KnD.longest_le (k := k) d
  have hlp := KnD.longest_pos (k := k) hd
  have hl : ∀ b ∈ d, b.toNat < k.c := by rw [c_of h.set]; exact h.lit
  obtain ⟨hfw, -⟩ := KnD.find_any h.ok hd hl
  have hpos : 0 < d.length := List.length_pos_iff.2 hd
  have h1 := h.len; have h2 := h.le; have h3 := h.sum; have h4 := h.tot
  obtain ⟨n, rfl⟩ : ∃ n, m = n + 1 := ⟨m - 1, by omega⟩
  refine ⟨hfw, (KnD.fol_ne h.ok hfw).1, hlp, hll, by rw [List.length_drop]; omega, by rw [List.length_drop]; omega, by rw [List.length_drop, List.length_append]; simp; omega, ?_, KnD.after_ok h.ok hfw, h.set, fun b hb => h.lit b (List.mem_of_mem_drop hb)⟩
  rw [greedyN, if_neg hd] at h4
  rw [← h4, List.append_assoc]
  rfl
theorem GiD.start {k : KnD} {d : List UInt8} (hk : k.Ok) (hd : d.length ≤ 2000) (hl : ∀ b ∈ d, b.toNat < k.c) : GiD (greedy k d) k d.length k.cleared d [(clr k.set : Int)] := by
  have hf : k.cleared.full = false := by
    unfold KnD.full KnD.cleared
    have h0 := hk.base0
    have : ¬ k.base < ((k.ps.take k.base.toNat).length : Int) := by rw [List.length_take]; omega
    rw [Bool.and_eq_false_iff]; right
    exact decide_eq_false this
  refine ⟨Nat.le_refl _, hd, by simp; omega, ?_, KnD.cleared_ok hk, rfl, hl⟩
  rw [if_neg (fun h => by rw [hf] at h; cases h.1)]
  rfl
def RelGi (T : List Int) (k0 : KnD) (tb : Nat) (w : World) (t vc : Value) (wr : World) : Prop := ∃ (k : KnD) (d : List UInt8) (vp vn vi : Value) (m : Nat) (acc : List Int), t = .string (bs d) ∧ GiD T k0 m k d acc ∧ GiW w tb k vp vn vi vc acc wr

set_option maxRecDepth 100000 in
set_option maxHeartbeats 8000000 in
theorem greedy_any (k : KnD) (v : Value) (lo : Nat) (d : ByteArray) (w : World) (hk : k.Ok) (hr : RdP lo w v k.ps) (hd : d.size ≤ 2000) (hl : ∀ b ∈ d.data.toList, b.toNat < k.c) :
    Calls Try.prog 98  #[kV k v, .string d] w (IntsPost (greedy k d.data.toList) w) := by
  obtain ⟨i0, hi, hz0, hz1, hz2⟩ := info_parts infoIntG
  have hkt := hk.tr
  have cK := fun w => clearI_any k.set w hk.set
  have cE := fun w => endI_any k.set w hk.set
  obtain ⟨hb2, hb3, hb4⟩ := clr_le hk.set
  have hrt := fun (wq : World) (hu : Up w wq) => hr.up hu
  have cN := fun wq hr => newTree_any k v lo wq hk hr
  have HK := Lib.hid hk
  have hkb := And.intro hk.base0 hk.base1
  obtain ⟨a, cap, rfl, -, -, -, -⟩ := hr
  have HLl := Lib.hid hl
  have hdl := ba_len d
  clear hk hl
  simp only [kV] at *
  go_enter Try.func98, Try.ntmps98
  go_wp2
  refine wp_region_upf 6 (by kernel_rfl) (by kernel_rfl) ?_
  simp only [List.take, List.drop]
  repeat (refine wpUp_step (fun K hK => ?_); go_simp; (try simp only [↓IntWalk.iteOmega]); first
    | (refine hK _ _ ?_; clear hK K)
    | (apply stepU_c
       · intro wq hwq; (have hbq := bcell hwq; (repeat (first | refine fills_no (by rfl) ?_ | refine fills_yes (by rfl) (fun vq hvq => ?_))); simp only [List.filter_nil, fills]; unfold upAt; go_simp; (try go_bits); (try simp only [↓IntWalk.iteOmega]); (try (rw [dif_pos (by omega)]; go_simp; try go_bits)); first | exact upOut_value | (apply upOut_call; (go_at_call 82; exact cK _)) | (apply upOut_eq; (go_at_call 82; exact cK _)) | (apply upOut_call; (go_at_call 80; exact cE _)) | (apply upOut_eq; (go_at_call 80; exact cE _)))
       go_simp; refine hK _ _ ?_; clear hK K))
  refine wpUp_nil (fun wq hwq => ?_)
  simp only [fills]
  go_wp2
  rw [onlyN_normal]
  have hU0 : Up w wq := by (repeat (first | with_reducible exact Up.refl _ | with_reducible assumption | with_reducible refine Up.set ?_ (by first | exact Nat.le_refl _ | (simp only []; omega) | (simp; omega)) _ | with_reducible refine Up.alloc ?_ _ | with_reducible refine Up.drew ?_ | refine Up.trans ?_ (by with_reducible assumption)))
  have hkn : KnAt w.heap.size k (.slice a k.ps.length cap) wq := box_up hwq (MapKept.heap_alloc w _).1
  obtain ⟨b0, r0, r1, r2, r3, r4, r5⟩ := hkn.cells
  clear hkn hwq
  go_wp2_with fail
  with_reducible refine (cN _ (hrt _ hU0)).mono ?_
  rintro e w2 ⟨tb, vp, vn, vi, rfl, hT2, U2⟩
  have hT2' := hT2.base (lo' := w.heap.size) hU0.size
  have htb2 := hT2.lt
  have hU2 := hU0.trans U2
  have cF := followC_any w.heap.size tb k vp vn vi w2 hT2' hkt hkb.1 hkb.2
  rw [show k.c = clr k.set from rfl] at cF
  have HT2 := Lib.hid (And.intro hT2' hU2)
  clear hT2 hT2' hU2 cN hrt
  go_wp2_with fail
  with_reducible refine cF.mono ?_
  rintro e w3 ⟨⟨vv, rfl⟩, hP3⟩
  obtain ⟨vp3, vn3, vi3, hT3, hF3, -⟩ := hP3
  have hU3 := Fr.upto HT2.out.2 hF3 (fun b hb => (HT2.out.1.own_lo b hb).1)
  have htb3 := hT3.lt
  have hW3 : ∀ (vc : Value), vc = .slice (some ⟨w3.heap.size, 0, none⟩) 1 1 → GiW w tb k.cleared vp3 vn3 vi3 vc [(clr k.set : Int)] (w3.alloc (.cells #[.int .i64 (clr k.set)] 3)) := fun vc e => by
    subst e
    exact ⟨hT3.up (Up.alloc (Up.refl _) _), own_made1 w3 hU3.size, fun b hb ho => by have := (hT3.own_lo b ho).2; simp only [Value.ownBlock, Option.some.injEq] at hb; omega, hU3.alloc _⟩
  have HW3 := Lib.hid (hW3 _ rfl)
  clear hT3 hF3 hU3 hW3
  have HL : Hid (d = bs d.data.toList) := (bs_self d).symm
  generalize d.data.toList = L at *
  go_wp2
  go_loopw [1, 8] (fun t out wr => RelGi (greedy k L) k tb w t out wr) (fun t _ _ => slen t)
  case atStart =>
    exact ⟨k.cleared, L, vp3, vn3, vi3, L.length, _, congrArg Value.string HL.out, GiD.start HK.out (by omega) HLl.out, HW3.out⟩
  case round =>
    clear HL HW3 HT2 HLl hdl hd
    obtain ⟨k1, d, vp, vn, vi, m, acc, rfl, hD, hW⟩ := hrel
    obtain ⟨ac, cc, rfl⟩ := ownsRow_shape hW.own
    have hsum := hD.sum
    have hle := hD.le
    by_cases hde : d = []
    · subst hde
      have HT := Lib.hid hD.nil
      have HW := Lib.hid hW
      clear hD hW
      rw [show bs ([] : List UInt8) = (⟨#[]⟩ : ByteArray) from rfl]
      go_wp2_with (at_builtin; (refine wpList_append2 rfl _ _ 81 rfl w.heap.size 3 i0 (.int .i64 0) 1 8 Try.underlying81 hi hz0 hz1 hz2 rfl (by decide) _ _ _ rfl (ownsRow_up (HW.out).own (Up.alloc (Up.refl _) _)) ⟨(wr).heap.size, 0, none⟩ 1 1 [.int .i64 ((clr k.set : Int) + 1)] rfl rfl (new_cells [.int .i64 ((clr k.set : Int) + 1)] _ rfl) (by intro u hu; simp at hu; subst hu; rfl) (by unfold maxLen; omega) (by omega) (by have := (HW.out).up.size; simp; omega) ?_; rintro va wa hva hga hna; obtain ⟨aa, ca, rfl⟩ := ownsRow_shape hva; have HA := Lib.hid (And.intro hva (And.intro hga hna)); clear hva hga hna))
      go_ret
      have h4 := HW.out.app HA.out.1 HA.out.2.1 HA.out.2.2
      exact ⟨_, rfl, (by have := h4.own; rw [HT.out] at this; exact this), h4.up⟩
    · have HNE : (bs d).toList.isEmpty = false := by rw [Lib.toList_data, bs_data]; cases d with | nil => exact absurd rfl hde | cons _ _ => rfl
      have hpos : 0 < d.length := List.length_pos_iff.2 hde
      have hpl1 := hD.ok.nums.2.2.2.1
      obtain ⟨ap, cp, rfl⟩ := hW.tree.shape
      have cQ := fun w => fullI_any k1.set k1.base k1.last ap k1.ps.length cp w hD.ok.set (by omega)
      rw [fullN_eq] at cQ
      simp only [knV] at cQ
      have htb := hW.tree.lt
      obtain ⟨c0, c1, c2, c3, c4, c5, c6, c7⟩ := hW.tree.cells
      have hset := hD.set
      have hkt1 := hD.ok.tr
      have hb01 := And.intro hD.ok.base0 hD.ok.base1
      have HD := Lib.hid hD
      have HW := Lib.hid hW
      have HDE := Lib.hid hde
      clear hD hW hde
      by_cases hf : k1.full = true
      · rw [hf] at cQ
        have cF := fun wq hT => followC_any w.heap.size tb k1 (.slice ap k1.ps.length cp) vn vi wq hT hkt1 hb01.1 hb01.2
        rw [show k1.c = clr k.set from c_of hset] at cF
        have HE := Lib.hid (HD.out.full HDE.out hf)
        clear hf hset
        go_wp2_with (first | (go_at_call 126; (with_reducible refine (cQ _).mono ?_); rintro e w6 ⟨rfl, U6⟩; have B6 := bcell U6; have Z6 := U6.size; (try simp at Z6); (try rw [Nat.add_one_le_iff] at Z6)) | fail)
        with_reducible refine (cF _ (HW.out.upd U6).tree).mono ?_
        rintro e w7 ⟨⟨vv, rfl⟩, hP7⟩
        obtain ⟨vp7, vn7, vi7, hW7⟩ := (HW.out.upd U6).tr hP7
        have HW7 := Lib.hid hW7
        clear hP7 hW7 B6 Z6 c0 c1 c2 c3 c4 c5 c6 c7
        go_wp2_with (at_builtin; (refine wpList_append2 rfl _ _ 81 rfl w.heap.size 3 i0 (.int .i64 0) 1 8 Try.underlying81 hi hz0 hz1 hz2 rfl (by decide) _ _ _ rfl (ownsRow_up (HW7.out).own (Up.alloc (Up.refl _) _)) ⟨(w7).heap.size, 0, none⟩ 1 1 [.int .i64 (clr k.set : Int)] rfl rfl (new_cells [.int .i64 (clr k.set : Int)] _ rfl) (by intro u hu; simp at hu; subst hu; rfl) (by unfold maxLen; omega) (by omega) (by have := (HW7.out).up.size; simp; omega) ?_; rintro va wa hva hga hna; obtain ⟨aa, ca, rfl⟩ := ownsRow_shape hva; have HA := Lib.hid (And.intro hva (And.intro hga hna)); clear hva hga hna); have HW8 := Lib.hid (HW7.out.app HA.out.1 HA.out.2.1 HA.out.2.2); clear HA)
        generalize acc ++ [(clr k.set : Int)] = acc2 at *
        obtain ⟨hfw, hxc, hlp, hll, hD9⟩ := HE.out.step HDE.out
        have hok2 := HE.out.ok
        have hle2 := HE.out.le
        have hsum2 := HE.out.sum
        have cL := fun wq hT => longest_any w.heap.size tb k1.cleared vp7 vn7 vi7 (bs d) wq hT hok2 (by rw [bs_size]; omega) (by rw [bs_size]; omega) (by rw [bs_data, c_of HE.out.set]; exact HE.out.lit)
        rw [bs_data] at cL
        have cG := fun wq hT => followW_any w.heap.size tb k1.cleared vp7 vn7 vi7 (k1.cleared.find (k1.cleared.longest d)) wq hT hok2 hxc hfw
        have hbd : (bs d).extract (k1.cleared.longest d).length d.length = bs (d.drop (k1.cleared.longest d).length) := by rw [bs_ext]; congr 1; exact List.take_of_length_le (by rw [List.length_drop]; omega)
        have hsz := bs_size d
        have HD9 := Lib.hid hD9
        have HBD := Lib.hid hbd
        clear hD9 hbd hfw hxc hok2 HE
        generalize hx : k1.cleared.find (k1.cleared.longest d) = x at *
        generalize hnl : (k1.cleared.longest d).length = n1 at *
        generalize hka : k1.cleared.after x = k9 at *
        clear hx hnl hka
        go_wp2_with fail
        with_reducible refine (cL _ HW8.out.tree).mono ?_
        rintro e w9 ⟨rfl, U9⟩
        go_wp2_with fail
        with_reducible refine (cG _ (HW8.out.upd U9).tree).mono ?_
        rintro e w10 ⟨⟨vv, rfl⟩, hP10⟩
        obtain ⟨vp10, vn10, vi10, hW10⟩ := (HW8.out.upd U9).tr hP10
        have HW10 := Lib.hid hW10
        clear hP10 hW10
        go_wp2_with (at_builtin; (refine wpList_append2 rfl _ _ 81 rfl w.heap.size 3 i0 (.int .i64 0) 1 8 Try.underlying81 hi hz0 hz1 hz2 rfl (by decide) _ _ _ rfl (ownsRow_up (HW10.out).own (Up.alloc (Up.refl _) _)) ⟨(w10).heap.size, 0, none⟩ 1 1 [.int .i64 x] rfl rfl (new_cells [.int .i64 x] _ rfl) (by intro u hu; simp at hu; subst hu; rfl) (by unfold maxLen; omega) (by omega) (by have := (HW10.out).up.size; simp; omega) ?_; rintro va wa hva hga hna; obtain ⟨aa, ca, rfl⟩ := ownsRow_shape hva; have HA := Lib.hid (And.intro hva (And.intro hga hna)); clear hva hga hna))
        go_roundw
        case rel => exact ⟨k9, d.drop n1, vp10, vn10, vi10, m - 1, acc2 ++ [x], by rw [HBD.out], HD9.out, (HW10.out.app HA.out.1 HA.out.2.1 HA.out.2.2)⟩
        case measure =>
          simp only [slen]
          rw [HBD.out, bs_size, bs_size, List.length_drop]; omega

      · have hff : k1.full = false := by simpa using hf
        rw [hff] at cQ
        have HE := Lib.hid (HD.out.more hff)
        clear hf hset hff
        go_wp2_with (first | ((go_at_call 126; (with_reducible refine (cQ _).mono ?_); rintro e w6 ⟨rfl, U6⟩; have B6 := bcell U6; have Z6 := U6.size; (try simp at Z6); (try rw [Nat.add_one_le_iff] at Z6)); have HW8 := Lib.hid (HW.out.upd U6); clear B6 Z6 c0 c1 c2 c3 c4 c5 c6 c7) | fail)
        obtain ⟨hfw, hxc, hlp, hll, hD9⟩ := HE.out.step HDE.out
        have hok2 := HE.out.ok
        have hle2 := HE.out.le
        have hsum2 := HE.out.sum
        have cL := fun wq hT => longest_any w.heap.size tb k1 (.slice ap k1.ps.length cp) vn vi (bs d) wq hT hok2 (by rw [bs_size]; omega) (by rw [bs_size]; omega) (by rw [bs_data, c_of HE.out.set]; exact HE.out.lit)
        rw [bs_data] at cL
        have cG := fun wq hT => followW_any w.heap.size tb k1 (.slice ap k1.ps.length cp) vn vi (k1.find (k1.longest d)) wq hT hok2 hxc hfw
        have hbd : (bs d).extract (k1.longest d).length d.length = bs (d.drop (k1.longest d).length) := by rw [bs_ext]; congr 1; exact List.take_of_length_le (by rw [List.length_drop]; omega)
        have hsz := bs_size d
        have HD9 := Lib.hid hD9
        have HBD := Lib.hid hbd
        clear hD9 hbd hfw hxc hok2 HE
        generalize hx : k1.find (k1.longest d) = x at *
        generalize hnl : (k1.longest d).length = n1 at *
        generalize hka : k1.after x = k9 at *
        clear hx hnl hka
        go_wp2_with fail
        with_reducible refine (cL _ HW8.out.tree).mono ?_
        rintro e w9 ⟨rfl, U9⟩
        go_wp2_with fail
        with_reducible refine (cG _ (HW8.out.upd U9).tree).mono ?_
        rintro e w10 ⟨⟨vv, rfl⟩, hP10⟩
        obtain ⟨vp10, vn10, vi10, hW10⟩ := (HW8.out.upd U9).tr hP10
        have HW10 := Lib.hid hW10
        clear hP10 hW10
        go_wp2_with (at_builtin; (refine wpList_append2 rfl _ _ 81 rfl w.heap.size 3 i0 (.int .i64 0) 1 8 Try.underlying81 hi hz0 hz1 hz2 rfl (by decide) _ _ _ rfl (ownsRow_up (HW10.out).own (Up.alloc (Up.refl _) _)) ⟨(w10).heap.size, 0, none⟩ 1 1 [.int .i64 x] rfl rfl (new_cells [.int .i64 x] _ rfl) (by intro u hu; simp at hu; subst hu; rfl) (by unfold maxLen; omega) (by omega) (by have := (HW10.out).up.size; simp; omega) ?_; rintro va wa hva hga hna; obtain ⟨aa, ca, rfl⟩ := ownsRow_shape hva; have HA := Lib.hid (And.intro hva (And.intro hga hna)); clear hva hga hna))
        go_roundw
        case rel => exact ⟨k9, d.drop n1, vp10, vn10, vi10, m - 1, acc ++ [x], by rw [HBD.out], HD9.out, (HW10.out.app HA.out.1 HA.out.2.1 HA.out.2.2)⟩
        case measure =>
          simp only [slen]
          rw [HBD.out, bs_size, bs_size, List.length_drop]; omega


end Go.Proofs.Ytnbmkoapohjnmaa

/- Walks of the program's learn, LearnKnown, StartWith. Conditions: what is known is valid and can be read. -/
namespace Go.Proofs.Ytnbmkoapohjnmaa
set_option linter.unusedVariables false
set_option linter.unusedSimpArgs false
open Go Go.RowKit

/-- The plain state of learn; its memory. -/
structure LiD (T : KnD) (k0 : KnD) (L : List UInt8) (m : Nat) (k : KnD) (n : Nat) : Prop where
  len : L.length ≤ n + m
  le : n ≤ L.length
  tot : learnN m k (L.drop n) = T
  ok : k.Ok
  set : k.set = k0.set
structure LiW (w : World) (tb : Nat) (k : KnD) (vp vn vi : Value) (wr : World) : Prop where
  tree : TreeAt (w.heap.size + 2) tb k vp vn vi wr
  res : KnAt (w.heap.size + 1) ⟨⟨0, 0, 0⟩, [], 0, 0⟩ (.slice none 0 0) wr
  up : Up w wr
theorem LiW.upd {w : World} {tb : Nat} {k : KnD} {vp vn vi : Value} {wr w' : World} (h : LiW w tb k vp vn vi wr) (hu : Up wr w') : LiW w tb k vp vn vi w' := ⟨h.tree.up hu, h.res.up hu, h.up.trans hu⟩
theorem LiW.tr {w : World} {tb : Nat} {k k' : KnD} {vp vn vi : Value} {wr w' : World} (h : LiW w tb k vp vn vi wr) (hp : TrPost (w.heap.size + 2) tb k' vp vn vi wr w') : ∃ vp' vn' vi', LiW w tb k' vp' vn' vi' w' := by
  obtain ⟨vp', vn', vi', hT, hF, hO⟩ := hp
  exact ⟨vp', vn', vi', hT, hF.box h.res (fun ho => by have := (h.tree.own_lo _ ho).1; omega), Fr.upto h.up hF (fun b hb => by have := (h.tree.own_lo b hb).1; omega)⟩
theorem LiD.step {T k0 : KnD} {L : List UInt8} {m : Nat} {k : KnD} {n : Nat} (h : LiD T k0 L m k n) (hn : n < L.length) (hl : ∀ b ∈ L, b.toNat < k0.c) :
    k.follows (k.find (k.longest (L.drop n))) = true ∧ ¬ k.find (k.longest (L.drop n)) = (k.c : Int) ∧ 1 ≤ (k.longest (L.drop n)).length ∧ n + (k.longest (L.drop n)).length ≤ L.length ∧ LiD T k0 L (m - 1) (k.after (k.find (k.longest (L.drop n)))) (n + (k.longest (L.drop n)).length) := by
  have hde : L.drop n ≠ [] := fun e => by rw [List.drop_eq_nil_iff] at e; omega
  have hll := KnD.longest_le (k := k) (L.drop n)
  have hlp := KnD.longest_pos (k := k) hde
  have hl2 : ∀ b ∈ L.drop n, b.toNat < k.c := fun b hb => by rw [c_of h.set]; exact hl b (List.mem_of_mem_drop hb)
  obtain ⟨hfw, -⟩ := KnD.find_any h.ok hde hl2
  rw [List.length_drop] at hll
  have h1 := h.len; have h4 := h.tot
  obtain ⟨m', rfl⟩ : ∃ m', m = m' + 1 := ⟨m - 1, by omega⟩
  refine ⟨hfw, (KnD.fol_ne h.ok hfw).1, hlp, by omega, by omega, by omega, ?_, KnD.after_ok h.ok hfw, h.set⟩
  rw [learnN_step hde, List.drop_drop] at h4
  exact h4
def RelLi (T k0 : KnD) (L : List UInt8) (tb : Nat) (w : World) (q i : Value) (wr : World) : Prop := ∃ (k : KnD) (n : Nat) (vp vn vi : Value) (m : Nat) (y : Int), q = .int .i64 y ∧ i = .int .i64 n ∧ LiD T k0 L m k n ∧ LiW w tb k vp vn vi wr
def LnPost (k : KnD) (w : World) (e : Ending) (w' : World) : Prop := ∃ v y, e = .returned (.tuple #[kV k v, .int .i64 y]) ∧ ownPr w' w.heap.size v k.ps ∧ Up w w'

set_option maxRecDepth 100000 in
set_option maxHeartbeats 8000000 in
theorem learnI_any (k : KnD) (v : Value) (lo : Nat) (d : ByteArray) (w : World) (hk : k.Ok) (hr : RdP lo w v k.ps) (hd : d.size ≤ 2000) (hl : ∀ b ∈ d.data.toList, b.toNat < k.c) :
    Calls Try.prog 66  #[kV k v, .string d] w (LnPost (learnK k d.data.toList) w) := by
  have hkt := hk.tr
  have cK := fun w => clearI_any k.set w hk.set
  have hrt := fun (wq : World) (hu : Up w wq) => hr.up hu
  have cN := fun wq hr => newTree_any k v lo wq hk hr
  have HK := Lib.hid hk
  have hkb := And.intro hk.base0 hk.base1
  obtain ⟨a, cap, rfl, -, -, -, -⟩ := hr
  have HLl := Lib.hid hl
  have hdl := ba_len d
  clear hk hl
  simp only [kV] at *
  go_enter Try.func66, Try.ntmps66
  go_wp2_with fail
  with_reducible refine (cN _ (hrt _ (by (repeat (first | with_reducible exact Up.refl _ | with_reducible assumption | with_reducible refine Up.set ?_ (by first | exact Nat.le_refl _ | (simp only []; omega) | (simp; omega)) _ | with_reducible refine Up.alloc ?_ _ | with_reducible refine Up.drew ?_ | refine Up.trans ?_ (by with_reducible assumption)))))).mono ?_
  rintro e w2 ⟨tb, vp, vn, vi, rfl, hT2, U2⟩
  have hW2 : LiW w tb k vp vn vi w2 := ⟨hT2.base (by simp), box_up U2 (alloc2 w _ _), by (repeat (first | with_reducible exact Up.refl _ | with_reducible assumption | with_reducible refine Up.set ?_ (by first | exact Nat.le_refl _ | (simp only []; omega) | (simp; omega)) _ | with_reducible refine Up.alloc ?_ _ | with_reducible refine Up.drew ?_ | refine Up.trans ?_ (by with_reducible assumption)))⟩
  obtain ⟨-, r0, r1, r2, r3, r4, r5⟩ := KnAt.cells (b := w.heap.size) (k := k) (v := .slice a k.ps.length cap) (box_up U2 (box_up ((Up.refl _).alloc _) (MapKept.heap_alloc w _).1))
  have HW2 := Lib.hid hW2
  have htb2 := hT2.lt
  clear hT2 U2 hW2 cN hrt
  go_wp2_with (first | (go_at_call 82; (with_reducible refine (cK _).mono ?_); rintro e w3 ⟨rfl, U3⟩; have B3 := bcell U3; have Z3 := U3.size; (try simp at Z3); (try rw [Nat.add_one_le_iff] at Z3)) | fail)
  have cF := followC_any (w.heap.size + 2) tb k vp vn vi w3 (HW2.out.upd U3).tree hkt hkb.1 hkb.2
  rw [show k.c = clr k.set from rfl] at cF
  with_reducible refine cF.mono ?_
  rintro e w4 ⟨⟨vv, rfl⟩, hP4⟩
  obtain ⟨vp4, vn4, vi4, hW4⟩ := (HW2.out.upd U3).tr hP4
  have HW4 := Lib.hid hW4
  clear hP4 hW4 U3 B3 Z3 cF
  have HL : Hid (d = bs d.data.toList) := (bs_self d).symm
  generalize d.data.toList = L at *
  have hLs := bs_size L
  have hd2 : L.length ≤ 2000 := by omega
  rw [HL.out]
  clear hdl hd
  go_wp2
  go_loopw [7, 8] (fun q i wr => RelLi (learnN L.length k.cleared L) k L tb w q i wr) (fun _ i _ => L.length - (intOf i).toNat)
  case atStart => exact ⟨k.cleared, 0, vp4, vn4, vi4, L.length, 0, rfl, rfl, ⟨by omega, Nat.zero_le _, by rw [List.drop_zero], KnD.cleared_ok HK.out, rfl⟩, HW4.out⟩
  case round =>
    obtain ⟨k1, n, vp, vn, vi, m, y, rfl, rfl, hD, hW⟩ := hrel
    have hle := hD.le
    have HD := Lib.hid hD
    have HW := Lib.hid hW
    have hpl1 := hD.ok.nums.2.2.2.1
    obtain ⟨ap, cp, rfl⟩ := hW.tree.shape
    have htb := hW.tree.lt
    obtain ⟨c0, c1, c2, c3, c4, c5, c6, c7⟩ := hW.tree.cells
    by_cases hlt : n < L.length
    · have cG := fun wq => growI_any k1.set k1.base k1.last ap k1.ps.length cp wq hD.ok.set (by omega)
      rw [growN_eq] at cG
      simp only [knV] at cG
      obtain ⟨hfw, hxc, hlp, hll, hD9⟩ := hD.step hlt HLl.out
      have hok2 := hD.ok
      have hset := hD.set
      have cL := fun wq hT => longest_any (w.heap.size + 2) tb k1 (.slice ap k1.ps.length cp) vn vi (bs (L.drop n)) wq hT hok2 (by rw [bs_size, List.length_drop]; omega) (by rw [bs_size, List.length_drop]; omega) (by rw [bs_data, c_of hset]; exact fun b hb => HLl.out b (List.mem_of_mem_drop hb))
      rw [bs_data] at cL
      have cG2 := fun wq hT => followW_any (w.heap.size + 2) tb k1 (.slice ap k1.ps.length cp) vn vi (k1.find (k1.longest (L.drop n))) wq hT hok2 hxc hfw
      have hbd : Hid ((bs L).extract n L.length = bs (L.drop n)) := bs_drop' L n L.length rfl
      have HD9 := Lib.hid hD9
      clear hD9 hfw hxc hok2 hset hD hW
      generalize hx : k1.find (k1.longest (L.drop n)) = x at *
      generalize hnl : (k1.longest (L.drop n)).length = n1 at *
      generalize hka : k1.after x = k9 at *
      clear hx hnl hka
      cases hg : k1.grow
      all_goals
        rw [hg] at cG
        clear hg
        go_wp2_with (first | ((go_at_call 85; (with_reducible refine (cG _).mono ?_); rintro e w5 ⟨rfl, U5⟩; have B5 := bcell U5; have Z5 := U5.size; (try simp at Z5); (try rw [Nat.add_one_le_iff] at Z5))) | fail)
        have htb5 := Nat.lt_of_lt_of_le htb U5.size
        rw [hbd.out]
        with_reducible refine (cL _ (HW.out.upd U5).tree).mono ?_
        rintro e w6 ⟨rfl, U6⟩
        go_wp2_with fail
        with_reducible refine (cG2 _ ((HW.out.upd U5).upd U6).tree).mono ?_
        rintro e w7 ⟨⟨vv, rfl⟩, hP7⟩
        obtain ⟨vp7, vn7, vi7, hW7⟩ := ((HW.out.upd U5).upd U6).tr hP7
        go_wp2
        go_roundw
        case rel => exact ⟨k9, n + n1, vp7, vn7, vi7, m - 1, _, rfl, by go_num, HD9.out, hW7⟩
        case measure => simp [intOf]; omega
    · have e : n = L.length := by omega
      subst e
      have htot := hD.tot
      rw [List.drop_length, learnN_nil] at htot
      have HE : Hid (learnK k L = ⟨k1.set, k1.ps, k1.ps.length, -1⟩) := by unfold Hid learnK; rw [← htot, hD.set]
      have cY := fun wx hr => copyI_any k1 (.slice ap k1.ps.length cp) (w.heap.size + 2) wx hr (by omega)
      have hrd := RdP.of_own hW.tree.prs
      clear htot hD hW HW4 HW2 HD
      simp only [kV] at *
      go_wp2_with (go_at_call 87; (with_reducible refine (cY _ hrd).mono ?_); rintro e w5 ⟨v5, rfl, ho5, U5⟩; obtain ⟨a5, c5, rfl⟩ := ownsRow_shape ho5; obtain ⟨hRl, q0, q1, q2, q3, q4, q5⟩ := (HW.out.upd U5).res.cells; have hfr := box_free (HW.out.upd U5).res; have HO := Lib.hid ho5; clear ho5)
      refine bodyPost_ret (v := .tuple #[kV ⟨k1.set, k1.ps, k1.ps.length, -1⟩ (.slice a5 k1.ps.length c5), .int .i64 y]) (by simp [results, Try.results66, go_sem, hRl, q0, q1, q2, q3, q4, q5]) rfl ⟨_, _, by rw [HE.out], ?_, ?_⟩
      · rw [HE.out]
        have hs := HW.out.up.size
        have hs2 := U5.size
        have hs3 := (HW.out.res.cells).1
        refine ownsRow_base (base := w.heap.size + 2) ?_ (by omega)
        repeat (first | (with_reducible refine ownsRow_setne ?_ (by omega) _ _) | (with_reducible refine ownsRow_up ?_ (Up.alloc (Up.refl _) _)))
        with_reducible refine ownsRow_base HO.out ?_
        omega
      · have hUU := HW.out.up
        (repeat (first | with_reducible exact Up.refl _ | with_reducible assumption | with_reducible refine Up.set ?_ (by first | exact Nat.le_refl _ | (simp only []; omega) | (simp; omega)) _ | with_reducible refine Up.alloc ?_ _ | with_reducible refine Up.drew ?_ | refine Up.trans ?_ (by with_reducible assumption)))

set_option maxRecDepth 100000 in
set_option maxHeartbeats 4000000 in
theorem learnKI_any (k : KnD) (v : Value) (lo : Nat) (d : ByteArray) (w : World) (h : k.Ok) (hv : k.last = -1 → k.base = k.ps.length) (hr : RdP lo w v k.ps) (hd : d.size ≤ 1073741824) :
    Calls Try.prog 56  #[kV k v, .string d] w (fun e w' => if fitsB k.set d.data.toList then KnPost2 (learnK k d.data.toList) w e w' else Same (.tuple #[noKn, .bool false]) w e w') := by
  have cV := fun wx hr => kvI_any k v lo wx h hv hr
  obtain ⟨-, hlb, -, -⟩ := setOk_bd h.set
  have cF := fun wx => fitsI_any k.set d wx (by omega) hd
  have hrt := fun (wq : World) (hu : Up w wq) => hr.up hu
  have hlen := ba_len d
  cases hf : fitsB k.set d.data.toList
  · rw [hf] at cF
    simp only [Bool.false_eq_true, if_false]
    obtain ⟨a, cap, rfl, -, -, -, -⟩ := hr
    clear h hv hf
    simp only [kV] at *
    go_enter Try.func56, Try.ntmps56
    go_wp2_with (first | ((go_at_call 65; (with_reducible refine (cV _ (hrt _ (by (repeat (first | with_reducible exact Up.refl _ | with_reducible assumption | with_reducible refine Up.set ?_ (by first | exact Nat.le_refl _ | (simp only []; omega) | (simp; omega)) _ | with_reducible refine Up.alloc ?_ _ | with_reducible refine Up.drew ?_ | refine Up.trans ?_ (by with_reducible assumption)))))).mono ?_); rintro e w1 ⟨rfl, U1⟩; have B1 := bcell U1; have Z1 := U1.size; (try simp at Z1); (try rw [Nat.add_one_le_iff] at Z1)); have Y1 : w.heap.size < w1.heap.size := (by have := U1.size; simp at this; omega)) | ((go_at_call 52; (with_reducible refine (cF _).mono ?_); rintro e w2 ⟨rfl, U2⟩; have B2 := bcell U2; have Z2 := U2.size; (try simp at Z2); (try rw [Nat.add_one_le_iff] at Z2)); obtain ⟨hRl, q0, q1, q2, q3, q4, q5⟩ := KnAt.cells (b := w.heap.size + 1) (k := ⟨⟨0, 0, 0⟩, [], 0, 0⟩) (v := .slice none 0 0) (box_up (U1.trans U2) (alloc2 w _ _)); have hfr := box_free (box_up (U1.trans U2) (alloc2 w _ _))))
    obtain ⟨-, q0, q1, q2, q3, q4, q5⟩ := KnAt.cells (b := w.heap.size + 1) (k := ⟨⟨0, 0, 0⟩, [], 0, 0⟩) (v := .slice none 0 0) (box_up (U1.trans U2) (alloc2 w _ _))
    refine bodyPost_ret (v := .tuple #[noKn, .bool false]) (by simp [results, Try.results56, go_sem, q0, q1, q2, q3, q4, q5]) rfl ⟨rfl, ?_⟩
    (repeat (first | with_reducible exact Up.refl _ | with_reducible assumption | with_reducible refine Up.set ?_ (by first | exact Nat.le_refl _ | (simp only []; omega) | (simp; omega)) _ | with_reducible refine Up.alloc ?_ _ | with_reducible refine Up.drew ?_ | refine Up.trans ?_ (by with_reducible assumption)))
  · rw [hf] at cF
    simp only [if_true]
    obtain ⟨-, h2, h3⟩ := fitsB_lits hf
    have cL := fun wx hr => learnI_any k v lo d wx h hr (by omega) h3
    obtain ⟨a, cap, rfl, -, -, -, -⟩ := hr
    clear h hv hf h3
    generalize learnK k d.data.toList = kk at *
    simp only [kV] at *
    go_enter Try.func56, Try.ntmps56
    go_wp2_with (first | ((go_at_call 65; (with_reducible refine (cV _ (hrt _ (by (repeat (first | with_reducible exact Up.refl _ | with_reducible assumption | with_reducible refine Up.set ?_ (by first | exact Nat.le_refl _ | (simp only []; omega) | (simp; omega)) _ | with_reducible refine Up.alloc ?_ _ | with_reducible refine Up.drew ?_ | refine Up.trans ?_ (by with_reducible assumption)))))).mono ?_); rintro e w1 ⟨rfl, U1⟩; have B1 := bcell U1; have Z1 := U1.size; (try simp at Z1); (try rw [Nat.add_one_le_iff] at Z1)); have Y1 : w.heap.size < w1.heap.size := (by have := U1.size; simp at this; omega)) | (go_at_call 52; (with_reducible refine (cF _).mono ?_); rintro e w2 ⟨rfl, U2⟩; have B2 := bcell U2; have Z2 := U2.size; (try simp at Z2); (try rw [Nat.add_one_le_iff] at Z2)) | (go_at_call 66; (with_reducible refine (cL _ (hrt _ (by (repeat (first | with_reducible exact Up.refl _ | with_reducible assumption | with_reducible refine Up.set ?_ (by first | exact Nat.le_refl _ | (simp only []; omega) | (simp; omega)) _ | with_reducible refine Up.alloc ?_ _ | with_reducible refine Up.drew ?_ | refine Up.trans ?_ (by with_reducible assumption)))))).mono ?_); rintro e w3 ⟨v3, y3, rfl, ho3, U3⟩; obtain ⟨a3, c3, rfl⟩ := ownsRow_shape ho3; have B3 := bcell U3; obtain ⟨hRl, q0, q1, q2, q3, q4, q5⟩ := KnAt.cells (b := w.heap.size + 1) (k := ⟨⟨0, 0, 0⟩, [], 0, 0⟩) (v := .slice none 0 0) (box_up (U1.trans (U2.trans U3)) (alloc2 w _ _)); have hfr := box_free (box_up (U1.trans (U2.trans U3)) (alloc2 w _ _)); have HO := Lib.hid ho3; clear ho3))
    obtain ⟨hRl, q0, q1, q2, q3, q4, q5⟩ := KnAt.cells (b := w.heap.size + 1) (k := ⟨⟨0, 0, 0⟩, [], 0, 0⟩) (v := .slice none 0 0) (box_up (U1.trans (U2.trans U3)) (alloc2 w _ _))
    refine bodyPost_ret (v := .tuple #[kV kk (.slice a3 kk.ps.length c3), .bool true]) (by simp [results, Try.results56, go_sem, hRl, q0, q1, q2, q3, q4, q5]) rfl ⟨_, rfl, ?_, ?_⟩
    · have hs := (U1.trans U2).size
      simp at hs
      refine ownsRow_base (base := w.heap.size + 2) ?_ (by omega)
      repeat (first | (with_reducible refine ownsRow_setne ?_ (by omega) _ _) | (with_reducible refine ownsRow_up ?_ (Up.alloc (Up.refl _) _)))
      with_reducible refine ownsRow_base HO.out ?_
      omega
    · (repeat (first | with_reducible exact Up.refl _ | with_reducible assumption | with_reducible refine Up.set ?_ (by first | exact Nat.le_refl _ | (simp only []; omega) | (simp; omega)) _ | with_reducible refine Up.alloc ?_ _ | with_reducible refine Up.drew ?_ | refine Up.trans ?_ (by with_reducible assumption)))

set_option maxRecDepth 100000 in
set_option maxHeartbeats 4000000 in
theorem startWI_any (s : SetD) (d : ByteArray) (w : World) (hl : -9223372036854775808 ≤ s.lit ∧ s.lit ≤ 9223372036854775807) (hd : d.size ≤ 1073741824) :
    Calls Try.prog 31  #[setV s, .string d] w (fun e w' => if fitsB s d.data.toList then KnPost2 (learnK (startK s) d.data.toList) w e w' else Same (.tuple #[noKn, .bool false]) w e w') := by
  cases hs : setOk s
  · have hf : fitsB s d.data.toList = false := by unfold fitsB; rw [hs]; rfl
    rw [hf]
    simp only [Bool.false_eq_true, if_false]
    have cS := fun wx => startI_no s wx hl hs
    clear hs hf
    simp only [setV] at *
    go_enter Try.func31, Try.ntmps31
    go_wp2_with ((go_at_call 55; (with_reducible refine (cS _).mono ?_); rintro e w1 ⟨rfl, U1⟩; have B1 := bcell U1; have Z1 := U1.size; (try simp at Z1); (try rw [Nat.add_one_le_iff] at Z1)); have Y1 : w.heap.size < w1.heap.size := (by have := U1.size; simp at this; omega); obtain ⟨hRl, q0, q1, q2, q3, q4, q5⟩ := KnAt.cells (b := w.heap.size + 1) (k := ⟨⟨0, 0, 0⟩, [], 0, 0⟩) (v := .slice none 0 0) (box_up U1 (alloc2 w _ _)); have hfr := box_free (box_up U1 (alloc2 w _ _)))
    obtain ⟨hRl, q0, q1, q2, q3, q4, q5⟩ := KnAt.cells (b := w.heap.size + 1) (k := ⟨⟨0, 0, 0⟩, [], 0, 0⟩) (v := .slice none 0 0) (box_up U1 (alloc2 w _ _))
    refine bodyPost_ret (v := .tuple #[noKn, .bool false]) (by simp [results, Try.results31, go_sem, hRl, q0, q1, q2, q3, q4, q5]) rfl ⟨rfl, ?_⟩
    (repeat (first | with_reducible exact Up.refl _ | with_reducible assumption | with_reducible refine Up.set ?_ (by first | exact Nat.le_refl _ | (simp only []; omega) | (simp; omega)) _ | with_reducible refine Up.alloc ?_ _ | with_reducible refine Up.drew ?_ | refine Up.trans ?_ (by with_reducible assumption)))
  · have cS := fun wx => startI_any s wx hs
    have cL := fun wx hr => learnKI_any (startK s) (.slice none 0 0) wx.heap.size d wx (startK_ok hs) (fun _ => rfl) hr hd
    have hrd : ∀ wx : World, RdP wx.heap.size wx (.slice none 0 0) (startK s).ps := fun wx => ⟨none, 0, rfl, Nat.le_refl _, by unfold maxLen; omega, fun _ => ⟨rfl, rfl⟩, fun h => absurd h (Nat.lt_irrefl _)⟩
    have cL' := fun wx => cL wx (hrd wx)
    have e1 : (startK s).set = s := rfl
    rw [e1] at cL'
    clear cL hrd hs e1
    cases hf : fitsB s d.data.toList
    · rw [hf] at cL'
      simp only [Bool.false_eq_true, if_false] at cL' ⊢
      simp only [setV, kV, startK] at *
      clear hf
      go_enter Try.func31, Try.ntmps31
      go_wp2_with (first | (go_at_call 55; (with_reducible refine (cS _).mono ?_); rintro e w1 ⟨rfl, U1⟩; have B1 := bcell U1; have Y1 : w.heap.size < w1.heap.size := (by have := U1.size; simp at this; omega); obtain ⟨hRl, q0, q1, q2, q3, q4, q5⟩ := KnAt.cells (b := w.heap.size + 1) (k := ⟨⟨0, 0, 0⟩, [], 0, 0⟩) (v := .slice none 0 0) (box_up U1 (alloc2 w _ _)); have hfr := box_free (box_up U1 (alloc2 w _ _))) | ((go_at_call 56; (with_reducible refine (cL' _).mono ?_); rintro e w2 ⟨rfl, U2⟩; have B2 := bcell U2; have Z2 := U2.size; (try simp at Z2); (try rw [Nat.add_one_le_iff] at Z2)); obtain ⟨hRl, q0, q1, q2, q3, q4, q5⟩ := KnAt.cells (b := w.heap.size + 1) (k := ⟨⟨0, 0, 0⟩, [], 0, 0⟩) (v := .slice none 0 0) (box_up U1 (box_up (Up.refl _) (alloc2 w _ _)) |> fun h => box_up U2 (box_up (Up.alloc (Up.refl _) _) h)); have hfr := box_free (box_up U2 (box_up (Up.alloc (Up.refl _) _) (box_up U1 (alloc2 w _ _))))))
      obtain ⟨hRl, q0, q1, q2, q3, q4, q5⟩ := KnAt.cells (b := w.heap.size + 1) (k := ⟨⟨0, 0, 0⟩, [], 0, 0⟩) (v := .slice none 0 0) (box_up (U1.trans ((Up.alloc (Up.refl _) _).trans U2)) (alloc2 w _ _))
      refine bodyPost_ret (v := .tuple #[noKn, .bool false]) (by simp [results, Try.results31, go_sem, hRl, q0, q1, q2, q3, q4, q5]) rfl ⟨rfl, ?_⟩
      (repeat (first | with_reducible exact Up.refl _ | with_reducible assumption | with_reducible refine Up.set ?_ (by first | exact Nat.le_refl _ | (simp only []; omega) | (simp; omega)) _ | with_reducible refine Up.alloc ?_ _ | with_reducible refine Up.drew ?_ | refine Up.trans ?_ (by with_reducible assumption)))
    · rw [hf] at cL'
      simp only [if_true] at cL' ⊢
      clear hf
      have e2 : (startK s).ps = [] := rfl
      generalize learnK (startK s) d.data.toList = kk at *
      simp only [setV, kV, startK] at *
      go_enter Try.func31, Try.ntmps31
      go_wp2_with (first | (go_at_call 55; (with_reducible refine (cS _).mono ?_); rintro e w1 ⟨rfl, U1⟩; have B1 := bcell U1; have Y1 : w.heap.size < w1.heap.size := (by have := U1.size; simp at this; omega)) | (go_at_call 56; (with_reducible refine (cL' _).mono ?_); rintro e w3 ⟨v3, rfl, ho3, U3⟩; obtain ⟨a3, c3, rfl⟩ := ownsRow_shape ho3; obtain ⟨hRl, q0, q1, q2, q3, q4, q5⟩ := KnAt.cells (b := w.heap.size + 1) (k := ⟨⟨0, 0, 0⟩, [], 0, 0⟩) (v := .slice none 0 0) (box_up (U1.trans ((Up.alloc (Up.refl _) _).trans U3)) (alloc2 w _ _)); have hfr := box_free (box_up (U1.trans ((Up.alloc (Up.refl _) _).trans U3)) (alloc2 w _ _)); have HO := Lib.hid ho3; clear ho3))
      obtain ⟨hRl, q0, q1, q2, q3, q4, q5⟩ := KnAt.cells (b := w.heap.size + 1) (k := ⟨⟨0, 0, 0⟩, [], 0, 0⟩) (v := .slice none 0 0) (box_up (U1.trans ((Up.alloc (Up.refl _) _).trans U3)) (alloc2 w _ _))
      refine bodyPost_ret (v := .tuple #[kV kk (.slice a3 kk.ps.length c3), .bool true]) (by simp [results, Try.results31, go_sem, hRl, q0, q1, q2, q3, q4, q5]) rfl ⟨_, rfl, ?_, ?_⟩
      · have hs := U1.size
        simp at hs
        refine ownsRow_base (base := w.heap.size + 2) ?_ (by omega)
        repeat (with_reducible refine ownsRow_setne ?_ (by omega) _ _)
        exact ownsRow_base HO.out (by simp; omega)
      · (repeat (first | with_reducible exact Up.refl _ | with_reducible assumption | with_reducible refine Up.set ?_ (by first | exact Nat.le_refl _ | (simp only []; omega) | (simp; omega)) _ | with_reducible refine Up.alloc ?_ _ | with_reducible refine Up.drew ?_ | refine Up.trans ?_ (by with_reducible assumption)))

end Go.Proofs.Ytnbmkoapohjnmaa

/- Slices of strings: those that came in, and the laws' helpers that measure, copy and compare them. Conditions: as each says. -/
namespace Go.Proofs.Ytnbmkoapohjnmaa
set_option linter.unusedVariables false
set_option linter.unusedSimpArgs false
open Go Go.RowKit Go.ChangeShapes

theorem infoStr : (Try.prog.info? 9).map (fun i => (i.zero, i.size, i.bytes)) = some (some (.string ByteArray.empty), 1, 16) := by kernel_rfl
def cellsS (l : List ByteArray) : List Value := l.map Value.string
theorem cellsS_length (l : List ByteArray) : (cellsS l).length = l.length := by simp [cellsS]
/-- A slice of strings that can be read. -/
def ArgS (w : World) (v : Value) (l : List ByteArray) : Prop := ∃ a cap, v = .slice a l.length cap ∧ l.length ≤ maxLen ∧ (∀ s ∈ l, s.size ≤ maxLen) ∧ (0 < l.length → ∃ b off, a = some ⟨b, off, none⟩ ∧ l.length ≤ cap ∧ cap ≤ maxLen ∧ b < w.heap.size ∧ ∀ i s, l[i]? = some s → w.cell? ⟨b, off + i, none⟩ = some (.string s))
theorem ArgS.up {w w' : World} {v : Value} {l : List ByteArray} (h : ArgS w v l) (hu : Up w w') : ArgS w' v l := by
  obtain ⟨a, cap, h1, h2, h2', h3⟩ := h
  refine ⟨a, cap, h1, h2, h2', fun hp => ?_⟩
  obtain ⟨b, off, e1, e2, e3, e4, e5⟩ := h3 hp
  exact ⟨b, off, e1, e2, e3, Nat.lt_of_lt_of_le e4 hu.size, fun i p hi => (hu.cell (p := ⟨b, _, none⟩) e4).trans (e5 i p hi)⟩
def ownS (w : World) (base : Nat) (v : Value) (l : List ByteArray) : Prop := w.ownsRow base 9 1 v l.length (cellsS l)
theorem ArgS.of_own {w : World} {base : Nat} {v : Value} {l : List ByteArray} (h : ownS w base v l) (hs : ∀ s ∈ l, s.size ≤ maxLen) : ArgS w v l := by
  rcases ownsRow_read h with ⟨rfl, h2⟩ | ⟨g, cap, rfl, h1, h2, h3, h4, h5⟩
  · exact ⟨none, 0, by rw [h2], by rw [h2]; exact Nat.zero_le _, hs, fun h => by omega⟩
  · refine ⟨some ⟨g, 0, none⟩, cap, rfl, by omega, hs, fun _ => ⟨g, 0, rfl, h1, h2, h4, fun i x hi => ?_⟩⟩
    rw [Nat.zero_add]
    refine h5 _ _ ?_
    simp [cellsS, hi]
theorem ArgS.at {w : World} {a : Option Addr} {n c : Nat} {l : List ByteArray} (h : ArgS w (.slice a n c) l) {i : Nat} (hi : i < l.length) : ∃ b off, a = some ⟨b, off, none⟩ ∧ b < w.heap.size ∧ w.cell? ⟨b, off + i, none⟩ = some (.string l[i]) ∧ n = l.length ∧ n ≤ c ∧ c ≤ maxLen := by
  obtain ⟨a', c', e, h1, h2, h3⟩ := h
  cases e
  obtain ⟨b, off, e1, e2, e3, e4, e5⟩ := h3 (by omega)
  exact ⟨b, off, e1, e4, e5 i _ (List.getElem?_eq_getElem hi), rfl, e2, e3⟩

theorem open_argS {H : Type} {enc : TypeId × Value → H} {W : World} {fuel : Nat} {a0 : Option Addr} {len cap : Nat} {d : DataW H} {p : List MemPlace}
    (h : DataW.trod enc Try.prog W 0 (fun _ => true) true fuel 40 [.slice a0 len cap] = some (d, p)) (hlt : ∀ x ∈ p, x.block < W.heap.size) : ∃ l, ArgS W (.slice a0 len cap) l := by
  rcases open_strings Try.underlying40 Try.underlying9 (by kernel_rfl) h with ⟨hcs, hx⟩ | ⟨a, len', cap', ss, hcs, _, hl, hm, hz, hx, hcell, hwz⟩
  · simp only [List.cons.injEq, and_true] at hcs
    cases hcs
    exact ⟨[], none, 0, rfl, Nat.zero_le _, by simp, fun h => absurd h (Nat.lt_irrefl _)⟩
  · simp only [List.cons.injEq, and_true] at hcs
    cases hcs
    simp only [Prod.mk.injEq] at hx
    obtain ⟨rfl, rfl⟩ := hx
    simp only [if_true] at hz
    have hlen : (ss.take len).length = len := by rw [List.length_take]; omega
    refine ⟨ss.take len, some a, cap, by rw [hlen], by rw [hlen]; omega, fun s hs => hwz s (List.mem_of_mem_take hs), fun hp => ?_⟩
    rw [hlen] at hp
    obtain ⟨b, off, spot⟩ := a
    have hspot : spot = none := by simpa [Addr.add] using World.cell?_spot (hcell 0 (by omega))
    subst hspot
    refine ⟨b, off, rfl, by rw [hlen]; exact hl, hm, hlt (.cell b off) (by simp only [MemPlace.row, List.mem_map, List.mem_range]; exact ⟨0, by omega, rfl⟩), fun i x hi => ?_⟩
    have hil : i < len := by
      have := (List.getElem?_eq_some_iff.1 hi).1
      rw [hlen] at this; exact this
    have hcj := hcell i (by omega)
    rw [Addr.add_lit] at hcj
    rw [hcj]
    have : i < ss.length := by omega
    simp [List.getElem?_take, hil, this] at hi
    simp [this, hi]

/-- What szStringS counts. -/
def szS (n : Int) : List ByteArray → Int
  | [] => n
  | s :: l => if n - s.size < 0 then -1 else szS (n - s.size) l
theorem szS_ok : ∀ (l : List ByteArray) (n : Int), n ≤ 1048576 → 0 ≤ szS n l → ∀ s ∈ l, s.size ≤ 1048576
  | [], n, _, _, s, hs => by simp at hs
  | x :: l, n, h, h0, s, hs => by
    unfold szS at h0
    split at h0
    · omega
    · rcases List.mem_cons.1 hs with rfl | hs
      · omega
      · exact szS_ok l (n - x.size) (by omega) h0 s hs
def RelSz (T : Int) (l : List ByteArray) (n i : Value) (w wr : World) : Prop := ∃ (y : Int) (j : Nat), n = .int .i64 y ∧ i = .int .i64 j ∧ 0 ≤ y ∧ y ≤ 1048576 ∧ j ≤ l.length ∧ szS y (l.drop j) = T ∧ w = wr

set_option maxRecDepth 100000 in
set_option maxHeartbeats 2000000 in
theorem szStr_any (l : List ByteArray) (v : Value) (w : World) (h : ArgS w v l) :
    Calls Try.prog 19  #[v, .int .i64 1048576] w (fun e w' => w = w' ∧ ∃ r : Int, e = .returned (.int .i64 r) ∧ (0 ≤ r → l.length ≤ 1048576 ∧ ∀ s ∈ l, s.size ≤ 1048576)) := by
  have hat := h
  obtain ⟨a, cap, rfl, hm, hms, -⟩ := h
  unfold maxLen at hm
  by_cases hl : l.length ≤ 1048576
  · have hH : ∃ T, T = szS (1048576 - (l.length : Int)) l := ⟨_, rfl⟩
    obtain ⟨T, hT⟩ := hH
    have HT := Lib.hid hT
    clear hT
    go_enter Try.func19, Try.ntmps19
    go_wp2
    go_loopw [1, 5] (fun n i wr => RelSz T l n i w wr) (fun _ i _ => l.length - (intOf i).toNat)
    case atStart => exact ⟨1048576 - (l.length : Int), 0, rfl, rfl, by omega, by omega, Nat.zero_le _, by rw [List.drop_zero]; exact HT.out.symm, rfl⟩
    case round =>
      obtain ⟨y, j, rfl, rfl, hy0, hy1, hj, htot, rfl⟩ := hrel
      by_cases hlt : j < l.length
      · obtain ⟨b, off, rfl, hbl, hx, -, hnc, hcm⟩ := hat.at hlt
        have hD : l.drop j = l[j] :: l.drop (j + 1) := List.drop_eq_getElem_cons hlt
        rw [hD] at htot
        have hsm := hms _ (List.getElem_mem hlt)
        unfold maxLen at hsm hcm
        have HH := Lib.hid htot
        clear htot hD
        generalize l[j] = s at *
        by_cases hneg : y - s.size < 0
        · go_wp2
          go_ret
          exact ⟨rfl, -1, rfl, fun h => by omega⟩
        · go_wp2
          go_roundw
          case rel => exact ⟨y - s.size, j + 1, rfl, by go_num, by omega, by omega, by omega, by have := HH.out; unfold szS at this; rw [if_neg hneg] at this; exact this, rfl⟩
          case measure => simp [intOf]; omega
      · have e : j = l.length := by omega
        subst e
        rw [List.drop_length] at htot
        go_wp2
        go_ret
        refine ⟨rfl, y, rfl, fun h => ⟨hl, szS_ok l (1048576 - (l.length : Int)) (by omega) ?_⟩⟩
        rw [← HT.out, ← htot]
        exact h
  · go_enter Try.func19, Try.ntmps19
    go_wp2
    go_ret
    exact ⟨rfl, -1, rfl, fun h => by omega⟩

def midS (l : List ByteArray) (k : Nat) : List ByteArray := l.take k ++ List.replicate (l.length - k) ByteArray.empty
theorem midS_all (l : List ByteArray) : midS l l.length = l := by simp [midS]
theorem midS_zero (l : List ByteArray) : midS l 0 = List.replicate l.length ByteArray.empty := by simp [midS]
theorem midS_set (l : List ByteArray) (k : Nat) (h : k < l.length) : (cellsS (midS l k)).set k (.string l[k]) = cellsS (midS l (k + 1)) := by
  have e : List.replicate (l.length - k) ByteArray.empty = ByteArray.empty :: List.replicate (l.length - (k + 1)) ByteArray.empty := by
    rw [show l.length - k = (l.length - (k + 1)) + 1 by omega]; rfl
  rw [midS, midS, e, List.take_succ_eq_append_getElem h]
  unfold cellsS
  simp only [List.map_append, List.map_cons, List.map_nil, List.append_assoc, List.cons_append, List.nil_append]
  rw [List.set_append_right _ _ (by simp; omega)]
  simp [List.length_take, Nat.min_eq_left (Nat.le_of_lt h)]
theorem midS_at (l : List ByteArray) (k : Nat) (h : k < l.length) : (cellsS (midS l k))[k]? = some (.string ByteArray.empty) := by
  unfold cellsS midS
  rw [List.getElem?_map, List.getElem?_append_right (by simp; omega), List.getElem?_replicate, if_pos (by simp; omega)]
  rfl
def RelTS (l : List ByteArray) (w : World) (i : Value) (wr : World) : Prop := ∃ k : Nat, k ≤ l.length ∧ i = .int .i64 k ∧ Up w wr ∧ wr.ownsRow w.heap.size 9 1 (.slice (some ⟨w.heap.size, 0, none⟩) l.length l.length) l.length (cellsS (midS l k))
theorem made_listS (n : Nat) : (madeCells #[Value.string ByteArray.empty] n).toList.take n = List.replicate n (Value.string ByteArray.empty) := by
  apply List.ext_getElem
  · simp [madeCells]
  · intro i h1 h2
    simp [madeCells, Nat.mod_one]
theorem made_strs (w : World) (n : Nat) (hn : n ≤ maxLen) : (w.alloc (.cells (madeCells #[.string ByteArray.empty] n) 9)).ownsRow w.heap.size 9 1 (.slice (some ⟨w.heap.size, 0, none⟩) n n) n (cellsS (List.replicate n ByteArray.empty)) := by
  refine ⟨by simp [cellsS], .inr ⟨w.heap.size, n, _, rfl, Nat.le_refl _, (MapKept.heap_alloc w _).1, Nat.le_refl _, hn, ?_, ?_⟩⟩
  · simp [madeCells]
  · rw [Nat.mul_one, made_listS]; simp [cellsS]

set_option maxRecDepth 100000 in
set_option maxHeartbeats 2000000 in
theorem toStr_any (l : List ByteArray) (v : Value) (w : World) (h : ArgS w v l) (hl : l.length ≤ 1048576) :
    Calls Try.prog 21  #[v] w (fun e w' => ∃ u, e = .returned u ∧ ownS w' w.heap.size u l ∧ Up w w') := by
  obtain ⟨i0, hi0, hz0, hz1, hz2⟩ := info_parts infoStr
  have hmk : ∀ w : World, (Instr.makeSlice 40 (.int .i64 (l.length : Int)) (.int .i64 (l.length : Int))).run Try.prog w = .ok (.slice (some ⟨w.heap.size, 0, none⟩) l.length l.length) (w.alloc (.cells (madeCells #[.string ByteArray.empty] l.length) 9)) := fun w => by
    have := run_make (P := Try.prog) w 40 9 i0 _ Try.underlying40 hi0 hz0 .i64 .i64 l.length l.length (by omega) (Int.le_refl _) (by rw [hz2]; omega) (by omega)
    rw [hz1] at this
    simpa [Value.cells] using this
  clear hz0 hz1 hz2 hi0
  have hat := h
  obtain ⟨a, cap, rfl, hm, hms, -⟩ := h
  go_enter Try.func21, Try.ntmps21
  go_wp2
  go_loopw [4] (fun i wr => RelTS l w i wr) (fun i _ => l.length - (intOf i).toNat)
  case atStart => exact ⟨0, Nat.zero_le _, rfl, (Up.refl _).alloc _, by rw [midS_zero]; exact made_strs w _ hm⟩
  case round =>
    obtain ⟨k, hk, rfl, hup, ho⟩ := hrel
    by_cases hlt : k < l.length
    · obtain ⟨b, off, rfl, hbl, hx, -, hnc, hcm⟩ := (hat.up hup).at hlt
      have d0 := ownsRow_cell ho (midS_at l k hlt)
      have f0 := ownsRow_free ho k
      have HM := Lib.hid (midS_set l k hlt)
      have hrl : w.heap.size < wr.heap.size := (ho.lt _ rfl).2
      have hbn : b < w.heap.size := by
        obtain ⟨a2, c2, e2, _, _, h3⟩ := hat
        cases e2
        obtain ⟨b', off', e3, _, _, e4, _⟩ := h3 (by omega)
        cases e3
        exact e4
      generalize l[k] = s at *
      unfold maxLen at hcm
      go_wp2
      go_roundw
      case rel => exact ⟨k + 1, by omega, by go_num, hup.set (p := ⟨w.heap.size, k, none⟩) (Nat.le_refl _) _, by rw [← HM.out]; exact ownsRow_set ho k _⟩
      case measure => simp [intOf]; omega
    · have e : k = l.length := by omega
      subst e
      rw [midS_all] at ho
      go_wp2
      go_ret
      exact ⟨_, rfl, ho, hup⟩

def RelEqS (n : Nat) (i : Value) (w wr : World) : Prop := ∃ j : Nat, i = .int .i64 j ∧ j ≤ n ∧ Up w wr
set_option maxRecDepth 100000 in
set_option maxHeartbeats 1000000 in
theorem eqStr_any (l : List ByteArray) (va vb : Value) (w : World) (ha : ArgS w va l) (hb : ArgS w vb l) :
    Calls Try.prog 23  #[va, vb] w (Same (.bool true) w) := by
  have hat := ha; have hbt := hb
  obtain ⟨a1, c1, rfl, hm, -, -⟩ := ha
  obtain ⟨a2, c2, rfl, -, -, -⟩ := hb
  unfold maxLen at hm
  go_enter Try.func23, Try.ntmps23
  go_wp2
  go_loopw [5] (fun i wr => RelEqS l.length i w wr) (fun i _ => l.length - (intOf i).toNat)
  case atStart => exact ⟨0, rfl, Nat.zero_le _, Up.refl _⟩
  case round =>
    obtain ⟨j, rfl, hj, hup⟩ := hrel
    by_cases hlt : j < l.length
    · obtain ⟨b1, o1, rfl, hbl1, hx1, -, hn1, hc1⟩ := (hat.up hup).at hlt
      obtain ⟨b2, o2, rfl, hbl2, hx2, -, hn2, hc2⟩ := (hbt.up hup).at hlt
      generalize l[j] = s at *
      unfold maxLen at hc1 hc2
      go_wp2
      refine wp_region_up 9 (by kernel_rfl) (by kernel_rfl) ?_
      simp only [List.take, List.drop]
      repeat (refine wpUp_step (fun K hK => ?_); go_simp; (try simp only [↓IntWalk.iteOmega]); first
        | (refine hK _ _ ?_; clear hK K)
        | (apply stepU_c
           · intro wq hwq; (have hbq := bcell hwq; (repeat (first | refine fills_no (by rfl) ?_ | refine fills_yes (by rfl) (fun vq hvq => ?_))); simp only [List.filter_nil, fills]; unfold upAt; (try ((have hx3 := (hwq.cell (p := ⟨b1, o1 + j, none⟩) hbl1).trans hx1; have hx4 := (hwq.cell (p := ⟨b2, o2 + j, none⟩) hbl2).trans hx2))); go_simp; (try go_bits); (try simp only [↓IntWalk.iteOmega]); (try (rw [dif_pos (by omega)]; go_simp; try go_bits)); first | exact upOut_value)
           go_simp; refine hK _ _ ?_; clear hK K))
      refine wpUp_nil (fun wq hwq => ?_)
      simp only [fills]
      go_wp2
      go_roundw
      case rel => exact ⟨j + 1, by go_num, by omega, by (repeat (first | with_reducible exact Up.refl _ | with_reducible assumption | with_reducible refine Up.set ?_ (by first | exact Nat.le_refl _ | (simp only []; omega) | (simp; omega)) _ | with_reducible refine Up.alloc ?_ _ | with_reducible refine Up.drew ?_ | refine Up.trans ?_ (by with_reducible assumption)))⟩
      case measure => simp [intOf]; omega
    · go_wp2
      go_ret
      exact ⟨rfl, hup⟩

end Go.Proofs.Ytnbmkoapohjnmaa

/- Walk of the reference's l2Pack. Conditions: what is known is valid (KnD.Ok) and can be read; each code has a width. -/
namespace Go.Proofs.Ytnbmkoapohjnmaa
set_option linter.unusedVariables false
set_option linter.unusedSimpArgs false
open Go Go.RowKit

/-- The bits of codes with widths. -/
def packC (o : Int) : List Int → List Int → List UInt8
  | x :: xs, w :: ws => codeL o x.toNat w.toNat ++ packC o xs ws
  | _, _ => []
theorem packC_snoc (o : Int) : ∀ (xs ws : List Int) (x w : Int), xs.length = ws.length → packC o (xs ++ [x]) (ws ++ [w]) = packC o xs ws ++ codeL o x.toNat w.toNat
  | [], [], x, w, _ => by simp [packC]
  | y :: ys, v :: vs, x, w, h => by
    simp only [List.cons_append, packC, List.append_assoc]
    rw [packC_snoc o ys vs x w (by simpa using h)]
  | [], _ :: _, _, _, h => by simp at h
  | _ :: _, [], _, _, h => by simp at h
theorem packC_take (o : Int) {xs ws : List Int} (h : xs.length = ws.length) {i : Nat} (hi : i < xs.length) : packC o (xs.take (i + 1)) (ws.take (i + 1)) = packC o (xs.take i) (ws.take i) ++ codeL o xs[i].toNat (ws[i]'(by omega)).toNat := by
  rw [List.take_succ_eq_append_getElem hi, List.take_succ_eq_append_getElem (by omega : i < ws.length), packC_snoc]
  rw [List.length_take, List.length_take, h]
theorem packC_len (o : Int) : ∀ (xs ws : List Int), (∀ w ∈ ws, 0 ≤ w ∧ w ≤ 16) → (packC o xs ws).length ≤ 16 * ws.length
  | [], ws, _ => by simp [packC]
  | _ :: _, [], _ => by simp [packC]
  | x :: xs, w :: ws, h => by
    simp only [packC, List.length_append, codeL_length, List.length_cons]
    have h1 := h w (List.mem_cons_self ..)
    have h2 := packC_len o xs ws fun v hv => h v (List.mem_cons_of_mem _ hv)
    omega
theorem isBits_packC (o : Int) : ∀ (xs ws : List Int), isBits (packC o xs ws)
  | [], ws => by simp [packC, isBits]
  | _ :: _, [] => by simp [packC, isBits]
  | x :: xs, w :: ws => by simp only [packC]; exact (isBits_code _ _ _).app (isBits_packC o xs ws)

structure PkAt (k : KnD) (v : Value) (codes ws : List Int) (vw : Value) (w : World) (i : Nat) (out : Value) (wr : World) : Prop where
  le : i ≤ codes.length
  kn : KnAt w.heap.size k v wr
  wid : ownI wr (w.heap.size + 1) vw ws
  own : ownU wr (w.heap.size + 1) out (packC k.set.ord (codes.take i) (ws.take i))
  up : Up w wr

def RelPk2 (k : KnD) (v : Value) (codes ws : List Int) (vw : Value) (w : World) (out i : Value) (wr : World) : Prop := ∃ n : Nat, i = .int .i64 n ∧ PkAt k v codes ws vw w n out wr
theorem RdI.at {lo : Nat} {w : World} {a : Option Addr} {n c : Nat} {l : List Int} (h : RdI lo w (.slice a n c) l) {i : Nat} (hi : i < l.length) : ∃ b off, a = some ⟨b, off, none⟩ ∧ b < w.heap.size ∧ w.cell? ⟨b, off + i, none⟩ = some (.int .i64 l[i]) ∧ n = l.length ∧ n ≤ c ∧ c ≤ maxLen ∧ lo ≤ b := by
  obtain ⟨a', c', e, h1, h2, h3⟩ := h
  cases e
  obtain ⟨b, off, e1, e2, e3, e4⟩ := h3 (by omega)
  exact ⟨b, off, e1, e3, e4 i _ (List.getElem?_eq_getElem hi), rfl, h1, h2, e2⟩

set_option maxRecDepth 100000 in
set_option maxHeartbeats 4000000 in
theorem l2Pack_any (k : KnD) (v : Value) (lo : Nat) (codes : List Int) (vc : Value) (lc : Nat) (w : World) (h : k.Ok) (hr : RdP lo w v k.ps) (hc : RdI lc w vc codes) (hl : codes.length ≤ 8192)
    (hw : (walkN k codes [] []).ws.length = codes.length) (hcb : ∀ x ∈ codes, 0 ≤ x ∧ x ≤ 1048576) (hwb : ∀ x ∈ (walkN k codes [] []).ws, 0 ≤ x ∧ x ≤ 16) :
    Calls Try.prog 95  #[kV k v, vc] w (Same (.string (bs (packC k.set.ord codes (walkN k codes [] []).ws))) w) := by
  have cW := fun wx hr hc => l2Walk_any k v lo codes vc lc wx h hr hc (by omega)
  have hrt := fun (wq : World) (hu : Up w wq) => hr.up hu
  have hct := fun (wq : World) (hu : Up w wq) => hc.up hu
  obtain ⟨a, cap, rfl, -, -, -, -⟩ := hr
  obtain ⟨ac, cc, rfl, hcc1, hcc2, -⟩ := id hc
  unfold maxLen at hcc2
  have hpl := packC_len k.set.ord codes _ hwb
  generalize walkN k codes [] [] = T at *
  have HW := Lib.hid hw
  have hwl : T.ws.length ≤ 8192 := by omega
  have HCB := Lib.hid hcb
  have HWB := Lib.hid hwb
  clear h hw hcb hwb
  simp only [kV] at *
  go_enter Try.func95, Try.ntmps95
  go_wp2_with (go_at_call 76; (with_reducible refine (cW _ (hrt _ (by (repeat (first | with_reducible exact Up.refl _ | with_reducible assumption | with_reducible refine Up.set ?_ (by first | exact Nat.le_refl _ | (simp only []; omega) | (simp; omega)) _ | with_reducible refine Up.alloc ?_ _ | with_reducible refine Up.drew ?_ | refine Up.trans ?_ (by with_reducible assumption))))) (hct _ (by (repeat (first | with_reducible exact Up.refl _ | with_reducible assumption | with_reducible refine Up.set ?_ (by first | exact Nat.le_refl _ | (simp only []; omega) | (simp; omega)) _ | with_reducible refine Up.alloc ?_ _ | with_reducible refine Up.drew ?_ | refine Up.trans ?_ (by with_reducible assumption)))))).mono ?_); rintro e w1 ⟨kv, vw, rfl, ⟨k3, a3, n3, c3, rfl⟩, ho1, U1⟩; obtain ⟨aw, cw, rfl⟩ := ownsRow_shape ho1; have B1 := bcell U1; have HO1 := Lib.hid ho1; clear ho1)
  have hU1 : Hid (Up w w1) := by unfold Hid; (repeat (first | with_reducible exact Up.refl _ | with_reducible assumption | with_reducible refine Up.set ?_ (by first | exact Nat.le_refl _ | (simp only []; omega) | (simp; omega)) _ | with_reducible refine Up.alloc ?_ _ | with_reducible refine Up.drew ?_ | refine Up.trans ?_ (by with_reducible assumption)))
  clear hrt
  go_loopw [5, 10] (fun out i wr => RelPk2 k (.slice a k.ps.length cap) codes T.ws (.slice aw T.ws.length cw) w out i wr) (fun _ i _ => codes.length - (intOf i).toNat)
  case atStart =>
    refine ⟨0, rfl, Nat.zero_le _, box_up (Up.alloc (Up.trans (Up.alloc (Up.refl _) _) U1) _) (MapKept.heap_alloc w _).1, ownsRow_base (ownsRow_up HO1.out (Up.alloc (Up.refl _) _)) (by simp), ?_, Up.alloc hU1.out _⟩
    exact ownsRow_up (ownsRow_up (own_mt (by simp) (by simp)) U1) (Up.alloc (Up.refl _) _)
  case round =>
    obtain ⟨n, rfl, hG⟩ := hrel
    have HG := Lib.hid hG
    have hle := hG.le
    obtain ⟨ad, cd, rfl⟩ := ownsRow_shape hG.own
    clear hG
    have hdl : (packC k.set.ord (codes.take n) (T.ws.take n)).length ≤ 131072 := by
      have := packC_len k.set.ord (codes.take n) (T.ws.take n) (fun x hx => HWB.out x (List.mem_of_mem_take hx))
      rw [List.length_take] at this
      omega
    have cv := conv_any HG.out.own rfl
    by_cases hlt : n < codes.length
    · have hlt2 : n < T.ws.length := by have := HW.out; omega
      have hx := fun (wq : World) (hu : Up w wq) => RdI.at (hct wq hu) hlt
      have hy := fun (wq : World) (hu : ownI wq (w.heap.size + 1) (.slice aw T.ws.length cw) T.ws) => RdI.at (RdI.of_own hu) hlt2
      have hb := HCB.out _ (List.getElem_mem hlt)
      have hb2 := HWB.out _ (List.getElem_mem hlt2)
      obtain ⟨xn, hxn⟩ := Int.eq_ofNat_of_zero_le hb.1
      obtain ⟨wn, hwn⟩ := Int.eq_ofNat_of_zero_le hb2.1
      obtain ⟨bc, oc, rfl, hbc1, hbc2, -, -, -, -⟩ := hx _ (Up.refl w)
      obtain ⟨bw, ow, rfl, hbw1, hbw2, -, hbw4, hbw5, -⟩ := hy _ HG.out.wid
      have cC := fun wx => l1Code_any k.set.ord xn wn wx (by omega) (by omega)
      have HS : Hid (packC k.set.ord (codes.take (n + 1)) (T.ws.take (n + 1)) = packC k.set.ord (codes.take n) (T.ws.take n) ++ codeL k.set.ord xn wn) := by
        unfold Hid
        rw [packC_take k.set.ord HW.out.symm hlt, hxn, hwn]; rfl
      rw [hxn] at hbc2
      have HWN := Lib.hid hwn
      clear hbw1 hbw2
      have hcln := codeL_length k.set.ord xn wn
      have hwn16 : wn ≤ 16 := by omega
      have hww : w.heap.size < wr.heap.size := HG.out.kn.cells.1
      unfold maxLen at hbw5
      have hown := HG.out.own
      clear hx hy hb hb2 hxn hwn
      generalize hpc : packC k.set.ord (codes.take n) (T.ws.take n) = pc at *
      generalize hpn : codeL k.set.ord xn wn = pn at *
      have HOW := Lib.hid hown
      clear hpc hpn hown
      go_wp2
      refine wp_region_own 14 13 (Value.slice ad pc.length cd).ownBlock (by kernel_rfl) (by kernel_rfl) ?_
      simp only [List.take, List.drop]
      repeat (refine wpG_step (fun K hK => ?_); go_simp; (try simp only [↓IntWalk.iteOmega]); first
        | (refine hK _ _ ?_; clear hK K)
        | (refine stepG_own (by rfl) (by kernel_rfl) ((fun u w' => ownU w' (w.heap.size + 1) u (pc ++ pn))) ((fun v w w' h hu => ownsRow_up h hu)) (fun wq hwq => ?_) ?_
           · ((repeat (first | refine fills_no (by rfl) ?_ | refine fills_yes (by rfl) (fun vq hvq => ?_))); simp only [List.filter_nil, fills]; (exact gAt_append_str (.tmp 26) (.tmp 38) (by rfl) (w.heap.size + 1) (.slice ad pc.length cd) pc pn (by rfl) (ownsRow_up HOW.out hwq) (by rfl) (by omega) (by omega) (by have := hwq.size; omega) _ rfl))
           refine hK _ _ ?_; clear hK K)
        | (refine stepG_c (by rfl) ?_ ?_ ?_
           rotate_left
           · intro wq hwq; (have hbq := gcell hwq; (repeat (first | refine fills_no (by rfl) ?_ | refine fills_yes (by rfl) (fun vq hvq => ?_))); simp only [List.filter_nil, fills]; unfold upAt; (try ((obtain ⟨-, r0, r1, r2, r3, r4, r5⟩ := (HG.out.kn.gr hwq (low_ne (w := w) HG.out.own (by omega))).cells; have hx := ((gcell hwq).1 bc _ (by omega) (low_ne (w := w) HG.out.own (by omega))).trans ((HG.out.up.cell (p := ⟨bc, oc + n, none⟩) hbc1).trans hbc2); obtain ⟨bw', ow', e, hb1, hy, -⟩ := RdI.at (RdI.of_own (HG.out.wid.kept hwq (rows_ne HG.out.wid HG.out.own (by decide)))) hlt2; cases e; rw [HWN.out] at hy))); go_simp; (try go_bits); (try simp only [↓IntWalk.iteOmega]); (try (rw [dif_pos (by omega)]; go_simp; try go_bits)); first | exact upOut_value | (apply upOut_call; (go_at_call 124; exact cC _)) | (apply upOut_eq; (go_at_call 124; exact cC _)))
           go_simp; refine hK _ _ ?_; clear hK K))
      refine wpG_nil (by rfl) (fun wq hwq => ?_)
      simp only [fills]
      rintro u ho
      obtain ⟨au, cu, rfl⟩ := ownsRow_shape ho
      have hkq := HG.out.kn.gr hwq (low_ne (w := w) HG.out.own (by omega))
      have hwq2 := HG.out.wid.kept hwq (rows_ne HG.out.wid HG.out.own (by decide))
      have huq := Up.grown HG.out.up hwq (fun y hy => by have := (HG.out.own.lt y hy).1; omega)
      have HQ := Lib.hid (And.intro hkq (And.intro hwq2 (And.intro huq ho)))
      clear hkq hwq2 huq ho hwq cC cv
      go_wp2
      go_roundw
      case rel =>
        obtain ⟨g1, g2, g3, g4⟩ := HQ.out
        refine ⟨n + 1, by go_num, by omega, g1, g2, ?_, g3⟩
        have e : (pc ++ pn).length = pc.length + wn := by rw [List.length_append, hcln]
        rw [e] at g4
        rw [HS.out]
        exact g4
      case measure => simp [intOf]; omega
    · have HT : Hid (packC k.set.ord (codes.take n) (T.ws.take n) = packC k.set.ord codes T.ws) := by
        unfold Hid
        rw [List.take_of_length_le (by omega), List.take_of_length_le (by have := HW.out; omega)]
      go_wp2
      go_ret
      exact ⟨ret_str (by rw [HT.out]), HG.out.up⟩

end Go.Proofs.Ytnbmkoapohjnmaa

/- Walks of the reference's l2Compress, Compress and CompressWith. Conditions: what is known is valid and can be read; for CompressWith none but the strings' bound. -/
namespace Go.Proofs.Ytnbmkoapohjnmaa
set_option linter.unusedVariables false
set_option linter.unusedSimpArgs false
open Go Go.RowKit

/-- The stream of data. -/
def compL (k : KnD) (d : List UInt8) : List UInt8 := packL k.set.ord (packC k.set.ord (greedy k d) (walkN k (greedy k d) [] []).ws)
def compO (k : KnD) (d : List UInt8) : Option (List UInt8) := if fitsB k.set d then some (compL k d) else none
/-- The stream of data with a dictionary. -/
def compW (s : SetD) (dict d : List UInt8) : Option (List UInt8) := if fitsB s dict then compO (learnK (startK s) dict) d else none
def optS (o : Option (List UInt8)) : Value := .tuple #[.string (bs (o.getD [])), .bool o.isSome]
theorem upOut_ints {f : FuncId} {args : Array Value} {w : World} {l : List Int} (h : Calls Try.prog f args w (IntsPost l w)) : upOut Try.prog (fun v w' => RdI 0 w' v l) w (.ok (.enter f args) w) :=
  ⟨rfl, h.mono fun e w' ⟨v, he, ho, hu⟩ => ⟨v, he, hu, by
    obtain ⟨a, cap, h1, h2, h3, h4⟩ := RdI.of_own ho
    exact ⟨a, cap, h1, h2, h3, fun hp => by
      obtain ⟨b, off, e1, e2, e3, e4⟩ := h4 hp
      exact ⟨b, off, e1, Nat.zero_le _, e3, e4⟩⟩⟩⟩

set_option maxRecDepth 100000 in
set_option maxHeartbeats 4000000 in
theorem l2Compress_any (k : KnD) (v : Value) (lo : Nat) (d : ByteArray) (w : World) (h : k.Ok) (hr : RdP lo w v k.ps) (hd : d.size ≤ 2000) (hl : ∀ b ∈ d.data.toList, b.toNat < k.c) :
    Calls Try.prog 71  #[kV k v, .string d] w (Same (.string (bs (compL k d.data.toList))) w) := by
  have hdl := ba_len d
  obtain ⟨g1, g2, g3, g4, g5⟩ := walk_greedy h hl (by omega)
  have g6 := greedy_len k d.data.toList
  have cG := fun wx hr => l2Greedy_any k v lo d wx h hr hd hl
  have cP := fun wx vc hr hc => l2Pack_any k v lo (greedy k d.data.toList) vc 0 wx h hr hc (by omega) g1 (fun x hx => ⟨(g5 x hx).1, by have := (g5 x hx).2; omega⟩) (fun x hx => ⟨by have := (g4 x hx).1; omega, by have := (g4 x hx).2; omega⟩)
  have hpc := packC_len k.set.ord (greedy k d.data.toList) (walkN k (greedy k d.data.toList) [] []).ws (fun x hx => ⟨by have := (g4 x hx).1; omega, by have := (g4 x hx).2; omega⟩)
  have hib := isBits_packC k.set.ord (greedy k d.data.toList) (walkN k (greedy k d.data.toList) [] []).ws
  have HE : Hid (compL k d.data.toList = packL k.set.ord (packC k.set.ord (greedy k d.data.toList) (walkN k (greedy k d.data.toList) [] []).ws)) := rfl
  rw [HE.out]
  clear HE g2 g3 g4 g5
  generalize (walkN k (greedy k d.data.toList) [] []).ws = ws at *
  generalize greedy k d.data.toList = codes at *
  generalize packC k.set.ord codes ws = pc at *
  have hbz := bs_size pc
  have cK := fun wx => l1Pack_any k.set.ord (bs pc) wx (by rw [bs_data]; exact hib) (by rw [bs_size]; omega)
  rw [bs_data] at cK
  have hrt := fun (wq : World) (hu : Up w wq) => hr.up hu
  obtain ⟨a, cap, rfl, -, -, -, -⟩ := hr
  clear h hl hib g1 hpc hbz g6 hdl
  simp only [kV] at *
  go_enter Try.func71, Try.ntmps71
  go_wp2
  refine wp_region_up 9 (by kernel_rfl) (by kernel_rfl) ?_
  simp only [List.take, List.drop]
  repeat (refine wpUp_step (fun K hK => ?_); go_simp; (try simp only [↓IntWalk.iteOmega]); first
    | (refine hK _ _ ?_; clear hK K)
    | (apply stepU_c
       · intro wq hwq; (have hbq := bcell hwq; (repeat (first | refine fills_no (by rfl) ?_ | refine fills_yes (by rfl) (fun vq hvq => ?_))); simp only [List.filter_nil, fills]; unfold upAt; (try (skip)); go_simp; (try go_bits); (try simp only [↓IntWalk.iteOmega]); (try (rw [dif_pos (by omega)]; go_simp; try go_bits)); first | exact upOut_value | (apply upOut_call; (go_at_call 95; exact cP _ _ (hrt _ (by (repeat (first | with_reducible exact Up.refl _ | with_reducible assumption | with_reducible refine Up.set ?_ (by first | exact Nat.le_refl _ | (simp only []; omega) | (simp; omega)) _ | with_reducible refine Up.alloc ?_ _ | with_reducible refine Up.drew ?_ | refine Up.trans ?_ (by with_reducible assumption))))) hvq)) | (apply upOut_eq; (go_at_call 95; exact cP _ _ (hrt _ (by (repeat (first | with_reducible exact Up.refl _ | with_reducible assumption | with_reducible refine Up.set ?_ (by first | exact Nat.le_refl _ | (simp only []; omega) | (simp; omega)) _ | with_reducible refine Up.alloc ?_ _ | with_reducible refine Up.drew ?_ | refine Up.trans ?_ (by with_reducible assumption))))) hvq)) | (apply upOut_call; (go_at_call 94; exact cK _)) | (apply upOut_eq; (go_at_call 94; exact cK _)))
       go_simp; refine hK _ _ ?_; clear hK K)
    | (refine stepU_m (by kernel_rfl) ((fun v w' => RdI 0 w' v codes)) ((fun v w w' h hu => RdI.up h hu)) (fun wq hwq => ?_) ?_
       · (have hbq := bcell hwq; (repeat (first | refine fills_no (by rfl) ?_ | refine fills_yes (by rfl) (fun vq hvq => ?_))); simp only [List.filter_nil, fills]; unfold upAt; (try (skip)); go_simp; (try go_bits); (try simp only [↓IntWalk.iteOmega]); (try (rw [dif_pos (by omega)]; go_simp; try go_bits)); (apply upOut_ints; go_at_call 96; exact cG _ (hrt _ (by (repeat (first | with_reducible exact Up.refl _ | with_reducible assumption | with_reducible refine Up.set ?_ (by first | exact Nat.le_refl _ | (simp only []; omega) | (simp; omega)) _ | with_reducible refine Up.alloc ?_ _ | with_reducible refine Up.drew ?_ | refine Up.trans ?_ (by with_reducible assumption)))))))
       refine hK _ _ ?_; clear hK K))
  refine wpUp_nil (fun wq hwq => ?_)
  simp only [fills]
  rintro u -
  go_wp2
  go_ret
  exact ⟨rfl, by (repeat (first | with_reducible exact Up.refl _ | with_reducible assumption | with_reducible refine Up.set ?_ (by first | exact Nat.le_refl _ | (simp only []; omega) | (simp; omega)) _ | with_reducible refine Up.alloc ?_ _ | with_reducible refine Up.drew ?_ | refine Up.trans ?_ (by with_reducible assumption)))⟩

set_option maxRecDepth 100000 in
set_option maxHeartbeats 1000000 in
theorem compS_any (k : KnD) (v : Value) (lo : Nat) (d : ByteArray) (w : World) (h : k.Ok) (hv : k.last = -1 → k.base = k.ps.length) (hr : RdP lo w v k.ps) (hd : d.size ≤ 1073741824) :
    Calls Try.prog 59  #[kV k v, .string d] w (Same (optS (compO k d.data.toList)) w) := by
  have cV := fun wx hr => kvS_any k v lo wx h hv hr
  have cF := fun wx => fitsS_any k.set d wx hd
  have hrt := fun (wq : World) (hu : Up w wq) => hr.up hu
  have hlen := ba_len d
  unfold compO optS
  cases hf : fitsB k.set d.data.toList
  · rw [hf] at cF
    simp only [Bool.false_eq_true, if_false]
    obtain ⟨a, cap, rfl, -, -, -, -⟩ := hr
    clear h hv hf
    simp only [kV] at *
    go_enter Try.func59, Try.ntmps59
    go_wp2_with (first | (go_at_call 70; (with_reducible refine (cV _ (hrt _ (by (repeat (first | with_reducible exact Up.refl _ | with_reducible assumption | with_reducible refine Up.set ?_ (by first | exact Nat.le_refl _ | (simp only []; omega) | (simp; omega)) _ | with_reducible refine Up.alloc ?_ _ | with_reducible refine Up.drew ?_ | refine Up.trans ?_ (by with_reducible assumption)))))).mono ?_); rintro e w1 ⟨rfl, U1⟩; have B1 := bcell U1; have Z1 := U1.size; (try simp at Z1); (try rw [Nat.add_one_le_iff] at Z1)) | (go_at_call 50; (with_reducible refine (cF _).mono ?_); rintro e w2 ⟨rfl, U2⟩; have B2 := bcell U2; have Z2 := U2.size; (try simp at Z2); (try rw [Nat.add_one_le_iff] at Z2)))
    go_ret2
    refine ⟨rfl, ?_⟩
    (repeat (first | with_reducible exact Up.refl _ | with_reducible assumption | with_reducible refine Up.set ?_ (by first | exact Nat.le_refl _ | (simp only []; omega) | (simp; omega)) _ | with_reducible refine Up.alloc ?_ _ | with_reducible refine Up.drew ?_ | refine Up.trans ?_ (by with_reducible assumption)))
  · rw [hf] at cF
    simp only [if_true]
    obtain ⟨-, h2, h3⟩ := fitsB_lits hf
    have cL := fun wx hr => l2Compress_any k v lo d wx h hr (by omega) h3
    obtain ⟨a, cap, rfl, -, -, -, -⟩ := hr
    clear h hv hf h3
    generalize compL k d.data.toList = cl at *
    simp only [kV] at *
    go_enter Try.func59, Try.ntmps59
    go_wp2_with (first | (go_at_call 70; (with_reducible refine (cV _ (hrt _ (by (repeat (first | with_reducible exact Up.refl _ | with_reducible assumption | with_reducible refine Up.set ?_ (by first | exact Nat.le_refl _ | (simp only []; omega) | (simp; omega)) _ | with_reducible refine Up.alloc ?_ _ | with_reducible refine Up.drew ?_ | refine Up.trans ?_ (by with_reducible assumption)))))).mono ?_); rintro e w1 ⟨rfl, U1⟩; have B1 := bcell U1; have Z1 := U1.size; (try simp at Z1); (try rw [Nat.add_one_le_iff] at Z1)) | (go_at_call 50; (with_reducible refine (cF _).mono ?_); rintro e w2 ⟨rfl, U2⟩; have B2 := bcell U2; have Z2 := U2.size; (try simp at Z2); (try rw [Nat.add_one_le_iff] at Z2)) | (go_at_call 71; (with_reducible refine (cL _ (hrt _ (by (repeat (first | with_reducible exact Up.refl _ | with_reducible assumption | with_reducible refine Up.set ?_ (by first | exact Nat.le_refl _ | (simp only []; omega) | (simp; omega)) _ | with_reducible refine Up.alloc ?_ _ | with_reducible refine Up.drew ?_ | refine Up.trans ?_ (by with_reducible assumption)))))).mono ?_); rintro e w3 ⟨rfl, U3⟩; have B3 := bcell U3; have Z3 := U3.size; (try simp at Z3); (try rw [Nat.add_one_le_iff] at Z3)))
    go_ret2
    refine ⟨rfl, ?_⟩
    (repeat (first | with_reducible exact Up.refl _ | with_reducible assumption | with_reducible refine Up.set ?_ (by first | exact Nat.le_refl _ | (simp only []; omega) | (simp; omega)) _ | with_reducible refine Up.alloc ?_ _ | with_reducible refine Up.drew ?_ | refine Up.trans ?_ (by with_reducible assumption)))

set_option maxRecDepth 100000 in
set_option maxHeartbeats 4000000 in
theorem compWS_any (s : SetD) (dict d : ByteArray) (w : World) (hi : dict.size ≤ 1073741824) (hd : d.size ≤ 1073741824) :
    Calls Try.prog 34  #[setV s, .string dict, .string d] w (Same (optS (compW s dict.data.toList d.data.toList)) w) := by
  have cS := fun wx => startWS_any s dict wx hi
  unfold compW
  cases hf : fitsB s dict.data.toList
  · rw [hf] at cS
    simp only [Bool.false_eq_true, if_false] at cS ⊢
    unfold optS
    clear hf
    simp only [setV] at *
    go_enter Try.func34, Try.ntmps34
    go_wp2_with ((go_at_call 58; (with_reducible refine (cS _).mono ?_); rintro e w1 ⟨rfl, U1⟩; have B1 := bcell U1; have Z1 := U1.size; (try simp at Z1); (try rw [Nat.add_one_le_iff] at Z1)))
    go_ret2
    refine ⟨rfl, ?_⟩
    (repeat (first | with_reducible exact Up.refl _ | with_reducible assumption | with_reducible refine Up.set ?_ (by first | exact Nat.le_refl _ | (simp only []; omega) | (simp; omega)) _ | with_reducible refine Up.alloc ?_ _ | with_reducible refine Up.drew ?_ | refine Up.trans ?_ (by with_reducible assumption)))
  · rw [hf] at cS
    simp only [if_true] at cS ⊢
    obtain ⟨h1, h2, h3⟩ := fitsB_lits hf
    have hok : (learnK (startK s) dict.data.toList).Ok := learnK_ok (startK_ok h1) h3
    have cC := fun wx v hr => compS_any (learnK (startK s) dict.data.toList) v 0 d wx hok (fun _ => rfl) hr hd
    clear hf h1 h2 h3 hok
    generalize learnK (startK s) dict.data.toList = kk at *
    unfold optS at *
    generalize compO kk d.data.toList = oo at *
    simp only [setV, kV] at *
    go_enter Try.func34, Try.ntmps34
    go_wp2_with (first | (go_at_call 58; (with_reducible refine (cS _).mono ?_); rintro e w1 ⟨v1, rfl, ho1, U1⟩; obtain ⟨a1, c1, rfl⟩ := ownsRow_shape ho1; have HO1 := Lib.hid ho1; clear ho1) | (go_at_call 59; (with_reducible refine (cC _ _ (((RdP.of_own HO1.out).up (by (repeat (first | with_reducible exact Up.refl _ | with_reducible assumption | with_reducible refine Up.set ?_ (by first | exact Nat.le_refl _ | (simp only []; omega) | (simp; omega)) _ | with_reducible refine Up.alloc ?_ _ | with_reducible refine Up.drew ?_ | refine Up.trans ?_ (by with_reducible assumption))))).low (Nat.zero_le _))).mono ?_); rintro e w3 ⟨rfl, U3⟩; have B3 := bcell U3; have Z3 := U3.size; (try simp at Z3); (try rw [Nat.add_one_le_iff] at Z3)))
    go_ret2
    refine ⟨rfl, ?_⟩
    (repeat (first | with_reducible exact Up.refl _ | with_reducible assumption | with_reducible refine Up.set ?_ (by first | exact Nat.le_refl _ | (simp only []; omega) | (simp; omega)) _ | with_reducible refine Up.alloc ?_ _ | with_reducible refine Up.drew ?_ | refine Up.trans ?_ (by with_reducible assumption)))

end Go.Proofs.Ytnbmkoapohjnmaa

/- Plain laws on the best dictionary; walks of the reference's l4Fits, l4Size, l4Total, BestDict, BestSample. Conditions: the strings can be read and are no longer than 2^20 bytes. -/
namespace Go.Proofs.Ytnbmkoapohjnmaa
set_option linter.unusedVariables false
set_option linter.unusedSimpArgs false
open Go Go.RowKit

/-- The least index with the least value among the indices 0 to n. -/
def bestI (f : Nat → Nat) : Nat → Nat
  | 0 => 0
  | n + 1 => if f (n + 1) < f (bestI f n) then n + 1 else bestI f n
theorem bestI_le (f : Nat → Nat) : ∀ n, bestI f n ≤ n
  | 0 => Nat.le_refl _
  | n + 1 => by
    have := bestI_le f n
    unfold bestI; split <;> omega
theorem bestI_min (f : Nat → Nat) : ∀ n i, i ≤ n → f (bestI f n) ≤ f i ∧ (i < bestI f n → f (bestI f n) < f i)
  | 0, i, h => by
    have : i = 0 := by omega
    subst this; exact ⟨Nat.le_refl _, fun h => absurd h (Nat.lt_irrefl _)⟩
  | n + 1, i, h => by
    have hb := bestI_le f n
    unfold bestI
    split
    · next hlt =>
      rcases Nat.lt_or_ge n i with h1 | h1
      · have : i = n + 1 := by omega
        subst this; exact ⟨Nat.le_refl _, fun h => absurd h (Nat.lt_irrefl _)⟩
      · have := (bestI_min f n i h1).1
        exact ⟨by omega, fun _ => by omega⟩
    · next hlt =>
      rcases Nat.lt_or_ge n i with h1 | h1
      · have : i = n + 1 := by omega
        subst this; exact ⟨by omega, fun h => by omega⟩
      · exact bestI_min f n i h1
/-- The size of the stream of data with a dictionary; of all texts. -/
def szW (s : SetD) (dict d : ByteArray) : Nat := ((compW s dict.data.toList d.data.toList).getD []).length
def totW (s : SetD) (dict : ByteArray) (ts : List ByteArray) : Nat := (ts.map (szW s dict)).sum
def allFitB (s : SetD) (l : List ByteArray) : Bool := decide (1 ≤ l.length) && decide (l.length ≤ 8) && l.all fun t => fitsB s t.data.toList
theorem allFit_iff {s : SetD} {l : List ByteArray} : allFitB s l = true ↔ 1 ≤ l.length ∧ l.length ≤ 8 ∧ ∀ t ∈ l, fitsB s t.data.toList = true := by
  unfold allFitB
  simp only [Bool.and_eq_true, decide_eq_true_eq, List.all_eq_true]
  exact ⟨fun ⟨⟨a, b⟩, c⟩ => ⟨a, b, c⟩, fun ⟨a, b, c⟩ => ⟨⟨a, b⟩, c⟩⟩
theorem allFit_no {s : SetD} {l : List ByteArray} {i : Nat} (h : i < l.length) (hn : fitsB s (l[i]).data.toList = false) : allFitB s l = false := by
  cases e : allFitB s l
  · rfl
  · have := (allFit_iff.1 e).2.2 _ (List.getElem_mem h)
    rw [hn] at this; cases this
theorem compL_len2 {k : KnD} {d : List UInt8} (h : k.Ok) (hl : ∀ b ∈ d, b.toNat < k.c) (hd : d.length ≤ 2000) : (compL k d).length ≤ 10000 := by
  obtain ⟨g1, g2, g3, g4, g5⟩ := walk_greedy h hl hd
  have g6 := greedy_len k d
  have g7 := packC_len k.set.ord (greedy k d) (walkN k (greedy k d) [] []).ws (fun x hx => ⟨by have := (g4 x hx).1; omega, by have := (g4 x hx).2; omega⟩)
  unfold compL
  rw [packL_length]; omega
theorem compW_len2 {s : SetD} {dict d : List UInt8} : ((compW s dict d).getD []).length ≤ 10000 := by
  unfold compW
  split
  · next h1 =>
    obtain ⟨f1, f2, f3⟩ := fitsB_lits h1
    have hok : (learnK (startK s) dict).Ok := learnK_ok (startK_ok f1) f3
    unfold compO
    split
    · next h2 =>
      obtain ⟨e1, e2, e3⟩ := fitsB_lits h2
      exact compL_len2 hok e3 e2
    · simp
  · simp
theorem szW_bd (s : SetD) (dict d : ByteArray) : szW s dict d ≤ 10000 := compW_len2
theorem sum_bd (f : ByteArray → Nat) (h : ∀ x, f x ≤ 10000) : ∀ l : List ByteArray, (l.map f).sum ≤ 10000 * l.length
  | [] => by simp
  | x :: l => by
    have h1 := h x
    have h2 := sum_bd f h l
    simp only [List.map_cons, List.sum_cons, List.length_cons]; omega
theorem sum_take (f : ByteArray → Nat) {l : List ByteArray} {i : Nat} (h : i < l.length) : ((l.take (i + 1)).map f).sum = ((l.take i).map f).sum + f l[i] := by
  rw [List.take_succ_eq_append_getElem h, List.map_append, List.sum_append]; simp

set_option maxRecDepth 100000 in
set_option maxHeartbeats 1000000 in
theorem l4Size_any (s : SetD) (dict d : ByteArray) (w : World) (hi : dict.size ≤ 1073741824) (hd : d.size ≤ 1073741824) :
    Calls Try.prog 51  #[setV s, .string dict, .string d] w (Same (.int .i64 (szW s dict d : Nat)) w) := by
  have cC := fun wx => compWS_any s dict d wx hi hd
  have hz := bs_size ((compW s dict.data.toList d.data.toList).getD [])
  have hsz := szW_bd s dict d
  unfold optS at cC
  unfold szW at hsz ⊢
  generalize (compW s dict.data.toList d.data.toList).isSome = ok at *
  generalize (compW s dict.data.toList d.data.toList).getD [] = c at *
  simp only [setV] at *
  go_enter Try.func51, Try.ntmps51
  go_wp2_with ((go_at_call 34; (with_reducible refine (cC _).mono ?_); rintro e w1 ⟨rfl, U1⟩; have B1 := bcell U1; have Z1 := U1.size; (try simp at Z1); (try rw [Nat.add_one_le_iff] at Z1)))
  go_ret
  refine ⟨rfl, ?_⟩
  (repeat (first | with_reducible exact Up.refl _ | with_reducible assumption | with_reducible refine Up.set ?_ (by first | exact Nat.le_refl _ | (simp only []; omega) | (simp; omega)) _ | with_reducible refine Up.alloc ?_ _ | with_reducible refine Up.drew ?_ | refine Up.trans ?_ (by with_reducible assumption)))

def RelFi (s : SetD) (l : List ByteArray) (w : World) (i : Value) (wr : World) : Prop := ∃ j : Nat, i = .int .i64 j ∧ j ≤ l.length ∧ (∀ q (h : q < l.length), q < j → fitsB s (l[q]).data.toList = true) ∧ SetAt w.heap.size s.ord s.lit s.most wr ∧ Up w wr
theorem fits_set {s : SetD} {d : List UInt8} (h : fitsB s d = true) : setOk s = true := (fitsB_lits h).1

set_option maxRecDepth 100000 in
set_option maxHeartbeats 4000000 in
theorem l4Fits_any (s : SetD) (l : List ByteArray) (v : Value) (w : World) (h : ArgS w v l) (hl : l.length ≤ 1048576) (hs : ∀ t ∈ l, t.size ≤ 1048576) :
    Calls Try.prog 45  #[setV s, v] w (Same (.bool (allFitB s l)) w) := by
  have hat := h
  obtain ⟨a, cap, rfl, hm, hms, -⟩ := h
  obtain ⟨o, li, mo⟩ := s
  have cV := fun w => setS_any o li mo w
  have cI := fun w => l1In_any (l.length : Int) 1 8 w
  simp only [setV] at *
  go_enter Try.func45, Try.ntmps45
  go_wp2
  go_loopw [5] (fun i wr => RelFi ⟨o, li, mo⟩ l w i wr) (fun i _ => l.length - (intOf i).toNat)
  case atStart => exact ⟨0, rfl, Nat.zero_le _, fun q h1 h2 => absurd h2 (Nat.not_lt_zero _), (MapKept.heap_alloc w _).1, by (repeat (first | with_reducible exact Up.refl _ | with_reducible assumption | with_reducible refine Up.set ?_ (by first | exact Nat.le_refl _ | (simp only []; omega) | (simp; omega)) _ | with_reducible refine Up.alloc ?_ _ | with_reducible refine Up.drew ?_ | refine Up.trans ?_ (by with_reducible assumption)))⟩
  case round =>
    obtain ⟨j, rfl, hj, hall, hset, hup⟩ := hrel
    obtain ⟨hb0, s0, s1, s2⟩ := hset.cells
    have HA := Lib.hid hall
    have HSE := Lib.hid hset
    clear hall hset
    by_cases hlt : j < l.length
    · obtain ⟨b, off, rfl, hbl, hx, -, hnc, hcm⟩ := (hat.up hup).at hlt
      have hsj := hs _ (List.getElem_mem hlt)
      have cF := fun wx => fitsS_any ⟨o, li, mo⟩ l[j] wx (by omega)
      unfold maxLen at hcm
      cases hf : fitsB ⟨o, li, mo⟩ (l[j]).data.toList
      · rw [hf] at cF
        have HN : Hid (allFitB ⟨o, li, mo⟩ l = false) := allFit_no hlt hf
        clear hf
        generalize l[j] = t at *
        simp only [setV] at cF
        go_wp2
        refine wp_region_up 7 (by kernel_rfl) (by kernel_rfl) ?_
        simp only [List.take, List.drop]
        repeat (refine wpUp_step (fun K hK => ?_); go_simp; (try simp only [↓IntWalk.iteOmega]); first
          | (refine hK _ _ ?_; clear hK K)
          | (apply stepU_c
             · intro wq hwq; (have hbq := bcell hwq; (repeat (first | refine fills_no (by rfl) ?_ | refine fills_yes (by rfl) (fun vq hvq => ?_))); simp only [List.filter_nil, fills]; unfold upAt; (try ((have hx2 := (hwq.cell (p := ⟨b, off + j, none⟩) hbl).trans hx))); go_simp; (try go_bits); (try simp only [↓IntWalk.iteOmega]); (try (rw [dif_pos (by omega)]; go_simp; try go_bits)); first | exact upOut_value | (apply upOut_call; (go_at_call 50; exact cF _)) | (apply upOut_eq; (go_at_call 50; exact cF _)))
             go_simp; refine hK _ _ ?_; clear hK K))
        refine wpUp_nil (fun wq hwq => ?_)
        simp only [fills]
        go_wp2
        go_ret
        refine ⟨ret_bool HN.out.symm, ?_⟩
        (repeat (first | with_reducible exact Up.refl _ | with_reducible assumption | with_reducible refine Up.set ?_ (by first | exact Nat.le_refl _ | (simp only []; omega) | (simp; omega)) _ | with_reducible refine Up.alloc ?_ _ | with_reducible refine Up.drew ?_ | refine Up.trans ?_ (by with_reducible assumption)))
      · rw [hf] at cF
        have HN : Hid (∀ q (h : q < l.length), q < j + 1 → fitsB ⟨o, li, mo⟩ (l[q]).data.toList = true) := fun q h1 h2 => by
          rcases Nat.lt_or_ge q j with h3 | h3
          · exact HA.out q h1 h3
          · have : q = j := by omega
            subst this; exact hf
        clear hf
        generalize l[j] = t at *
        simp only [setV] at cF
        go_wp2
        refine wp_region_up 7 (by kernel_rfl) (by kernel_rfl) ?_
        simp only [List.take, List.drop]
        repeat (refine wpUp_step (fun K hK => ?_); go_simp; (try simp only [↓IntWalk.iteOmega]); first
          | (refine hK _ _ ?_; clear hK K)
          | (apply stepU_c
             · intro wq hwq; (have hbq := bcell hwq; (repeat (first | refine fills_no (by rfl) ?_ | refine fills_yes (by rfl) (fun vq hvq => ?_))); simp only [List.filter_nil, fills]; unfold upAt; (try ((have hx2 := (hwq.cell (p := ⟨b, off + j, none⟩) hbl).trans hx))); go_simp; (try go_bits); (try simp only [↓IntWalk.iteOmega]); (try (rw [dif_pos (by omega)]; go_simp; try go_bits)); first | exact upOut_value | (apply upOut_call; (go_at_call 50; exact cF _)) | (apply upOut_eq; (go_at_call 50; exact cF _)))
             go_simp; refine hK _ _ ?_; clear hK K))
        refine wpUp_nil (fun wq hwq => ?_)
        simp only [fills]
        go_wp2
        go_roundw
        case rel => exact ⟨j + 1, by go_num, by omega, HN.out, box_up hwq HSE.out, by (repeat (first | with_reducible exact Up.refl _ | with_reducible assumption | with_reducible refine Up.set ?_ (by first | exact Nat.le_refl _ | (simp only []; omega) | (simp; omega)) _ | with_reducible refine Up.alloc ?_ _ | with_reducible refine Up.drew ?_ | refine Up.trans ?_ (by with_reducible assumption)))⟩
        case measure => simp [intOf]; omega
    · have e : j = l.length := by omega
      subst e
      cases hso : setOk ⟨o, li, mo⟩
      · have HN : Hid (allFitB ⟨o, li, mo⟩ l = false) := by
          unfold Hid
          cases e : allFitB ⟨o, li, mo⟩ l
          · rfl
          · obtain ⟨h1, h2, h3⟩ := allFit_iff.1 e
            have := fits_set (h3 l[0] (List.getElem_mem (by omega)))
            rw [hso] at this; cases this
        rw [hso] at cV
        clear hso
        go_wp2_with (first | (go_at_call 61; (with_reducible refine (cV _).mono ?_); rintro e w1 ⟨rfl, U1⟩; have B1 := bcell U1; have Z1 := U1.size; (try simp at Z1); (try rw [Nat.add_one_le_iff] at Z1)))
        go_ret
        refine ⟨ret_bool HN.out.symm, ?_⟩
        (repeat (first | with_reducible exact Up.refl _ | with_reducible assumption | with_reducible refine Up.set ?_ (by first | exact Nat.le_refl _ | (simp only []; omega) | (simp; omega)) _ | with_reducible refine Up.alloc ?_ _ | with_reducible refine Up.drew ?_ | refine Up.trans ?_ (by with_reducible assumption)))
      · have HN : Hid (allFitB ⟨o, li, mo⟩ l = inB (l.length : Int) 1 8) := by
          unfold Hid
          rw [Bool.eq_iff_iff, allFit_iff, inB_iff]
          exact ⟨fun h => by omega, fun h => ⟨by omega, by omega, fun t ht => by
            obtain ⟨q, hq, rfl⟩ := List.mem_iff_getElem.1 ht
            exact HA.out q hq hq⟩⟩
        rw [hso] at cV
        clear hso
        generalize inB (l.length : Int) 1 8 = ib at *
        go_wp2_with (first | (go_at_call 61; (with_reducible refine (cV _).mono ?_); rintro e w1 ⟨rfl, U1⟩; have B1 := bcell U1; have Z1 := U1.size; (try simp at Z1); (try rw [Nat.add_one_le_iff] at Z1)) | (go_at_call 41; (with_reducible refine (cI _).mono ?_); rintro e w' ⟨rfl, rfl⟩))
        go_ret
        refine ⟨ret_bool HN.out.symm, ?_⟩
        (repeat (first | with_reducible exact Up.refl _ | with_reducible assumption | with_reducible refine Up.set ?_ (by first | exact Nat.le_refl _ | (simp only []; omega) | (simp; omega)) _ | with_reducible refine Up.alloc ?_ _ | with_reducible refine Up.drew ?_ | refine Up.trans ?_ (by with_reducible assumption)))

end Go.Proofs.Ytnbmkoapohjnmaa

/- Walks of the reference's l4Total, BestDict, BestSample. Conditions: the strings can be read and are no longer than 2^20 bytes. -/
namespace Go.Proofs.Ytnbmkoapohjnmaa
set_option linter.unusedVariables false
set_option linter.unusedSimpArgs false
open Go Go.RowKit

def RelTt (s : SetD) (dict : ByteArray) (ts : List ByteArray) (w : World) (n i : Value) (wr : World) : Prop := ∃ j : Nat, i = .int .i64 j ∧ j ≤ ts.length ∧ n = .int .i64 ((((ts.take j).map (szW s dict)).sum : Nat) : Int) ∧ SetAt w.heap.size s.ord s.lit s.most wr ∧ Up w wr

set_option maxRecDepth 100000 in
set_option maxHeartbeats 4000000 in
theorem l4Total_any (s : SetD) (dict : ByteArray) (ts : List ByteArray) (v : Value) (w : World) (hi : dict.size ≤ 1073741824) (h : ArgS w v ts) (hl : ts.length ≤ 8) (hs : ∀ t ∈ ts, t.size ≤ 1048576) :
    Calls Try.prog 54  #[setV s, .string dict, v] w (Same (.int .i64 (totW s dict ts : Nat)) w) := by
  have hat := h
  obtain ⟨a, cap, rfl, hm, hms, -⟩ := h
  simp only [setV] at *
  go_enter Try.func54, Try.ntmps54
  go_wp2
  go_loopw [7, 8] (fun n i wr => RelTt s dict ts w n i wr) (fun _ i _ => ts.length - (intOf i).toNat)
  case atStart => exact ⟨0, rfl, Nat.zero_le _, rfl, (MapKept.heap_alloc w _).1, by (repeat (first | with_reducible exact Up.refl _ | with_reducible assumption | with_reducible refine Up.set ?_ (by first | exact Nat.le_refl _ | (simp only []; omega) | (simp; omega)) _ | with_reducible refine Up.alloc ?_ _ | with_reducible refine Up.drew ?_ | refine Up.trans ?_ (by with_reducible assumption)))⟩
  case round =>
    obtain ⟨j, rfl, hj, rfl, hset, hup⟩ := hrel
    obtain ⟨hb0, s0, s1, s2⟩ := hset.cells
    have HSE := Lib.hid hset
    clear hset
    have hsb := sum_bd (szW s dict) (szW_bd s dict) (ts.take j)
    rw [List.length_take] at hsb
    have hsb2 : ((ts.take j).map (szW s dict)).sum ≤ 80000 := by omega
    clear hsb
    by_cases hlt : j < ts.length
    · obtain ⟨b, off, rfl, hbl, hx, -, hnc, hcm⟩ := (hat.up hup).at hlt
      have hsj := hs _ (List.getElem_mem hlt)
      have cC := fun wx => l4Size_any s dict ts[j] wx hi (by omega)
      have hz := szW_bd s dict ts[j]
      have HS : Hid ((((ts.take (j + 1)).map (szW s dict)).sum : Nat) = ((ts.take j).map (szW s dict)).sum + szW s dict ts[j]) := sum_take (szW s dict) hlt
      unfold maxLen at hcm
      generalize szW s dict ts[j] = z at *
      generalize ((ts.take j).map (szW s dict)).sum = q at *
      generalize ts[j] = t at *
      simp only [setV] at cC
      go_wp2
      refine wp_region_up 10 (by kernel_rfl) (by kernel_rfl) ?_
      simp only [List.take, List.drop]
      repeat (refine wpUp_step (fun K hK => ?_); go_simp; (try simp only [↓IntWalk.iteOmega]); first
        | (refine hK _ _ ?_; clear hK K)
        | (apply stepU_c
           · intro wq hwq; (have hbq := bcell hwq; (repeat (first | refine fills_no (by rfl) ?_ | refine fills_yes (by rfl) (fun vq hvq => ?_))); simp only [List.filter_nil, fills]; unfold upAt; (try ((have hx2 := (hwq.cell (p := ⟨b, off + j, none⟩) hbl).trans hx; obtain ⟨hbz, s0, s1, s2⟩ := SetAt.cells (box_up hwq HSE.out)))); go_simp; (try go_bits); (try simp only [↓IntWalk.iteOmega]); (try (rw [dif_pos (by omega)]; go_simp; try go_bits)); first | exact upOut_value | (apply upOut_call; (go_at_call 51; exact cC _)) | (apply upOut_eq; (go_at_call 51; exact cC _)))
           go_simp; refine hK _ _ ?_; clear hK K))
      refine wpUp_nil (fun wq hwq => ?_)
      simp only [fills]
      go_wp2
      go_roundw
      case rel => exact ⟨j + 1, by go_num, by omega, by (rw [HS.out]; try rfl), box_up hwq HSE.out, by (repeat (first | with_reducible exact Up.refl _ | with_reducible assumption | with_reducible refine Up.set ?_ (by first | exact Nat.le_refl _ | (simp only []; omega) | (simp; omega)) _ | with_reducible refine Up.alloc ?_ _ | with_reducible refine Up.drew ?_ | refine Up.trans ?_ (by with_reducible assumption)))⟩
      case measure => simp [intOf]; omega
    · have e : j = ts.length := by omega
      subst e
      have HT : Hid (((ts.take ts.length).map (szW s dict)).sum = totW s dict ts) := by unfold Hid totW; rw [List.take_length]
      go_wp2
      go_ret
      exact ⟨ret_int (by rw [← HT.out]), hup⟩

/-- The index of the best dictionary; -1 if the arguments are not valid. -/
def bestV (s : SetD) (ds ts : List ByteArray) (ok : Bool) : Int := if allFitB s ds && ok then (bestI (fun i => totW s (ds.getD i ByteArray.empty) ts) (ds.length - 1) : Nat) else -1
theorem totW_one (s : SetD) (dict t : ByteArray) : totW s dict [t] = szW s dict t := by simp [totW]
theorem getD_lt {ds : List ByteArray} {i : Nat} (h : i < ds.length) : ds.getD i ByteArray.empty = ds[i] := by rw [List.getD_eq_getElem?_getD, List.getElem?_eq_getElem h]; rfl
def RelBe (f : Nat → Nat) (n : Nat) (s : SetD) (sb : Nat) (w : World) (b i : Value) (wr : World) : Prop := ∃ j : Nat, i = .int .i64 ((j : Int) + 1) ∧ j + 1 ≤ n ∧ b = .int .i64 (bestI f j : Nat) ∧ SetAt sb s.ord s.lit s.most wr ∧ Up w wr

set_option maxRecDepth 100000 in
set_option maxHeartbeats 4000000 in
theorem bestDictS_any (s : SetD) (ds : List ByteArray) (v : Value) (d : ByteArray) (w : World) (h : ArgS w v ds) (hl : ds.length ≤ 1048576) (hs : ∀ t ∈ ds, t.size ≤ 1048576) (hd : d.size ≤ 1048576) :
    Calls Try.prog 24  #[setV s, v, .string d] w (Same (.int .i64 (bestV s ds [d] (fitsB s d.data.toList))) w) := by
  have hat := h
  have cF := fun wx hr => l4Fits_any s ds v wx hr hl hs
  have cD := fun wx => fitsS_any s d wx (by omega)
  have hrt := fun (wq : World) (hu : Up w wq) => h.up hu
  unfold bestV
  cases h1 : allFitB s ds
  · rw [h1] at cF
    simp only [Bool.false_and, Bool.false_eq_true, if_false]
    obtain ⟨a, cap, rfl, hm, hms, -⟩ := h
    clear h1
    simp only [setV] at *
    go_enter Try.func24, Try.ntmps24
    go_wp2_with ((go_at_call 45; (with_reducible refine (cF _ (hrt _ (by (repeat (first | with_reducible exact Up.refl _ | with_reducible assumption | with_reducible refine Up.set ?_ (by first | exact Nat.le_refl _ | (simp only []; omega) | (simp; omega)) _ | with_reducible refine Up.alloc ?_ _ | with_reducible refine Up.drew ?_ | refine Up.trans ?_ (by with_reducible assumption)))))).mono ?_); rintro e w1 ⟨rfl, U1⟩; have B1 := bcell U1; have Z1 := U1.size; (try simp at Z1); (try rw [Nat.add_one_le_iff] at Z1)))
    go_ret
    refine ⟨rfl, ?_⟩
    (repeat (first | with_reducible exact Up.refl _ | with_reducible assumption | with_reducible refine Up.set ?_ (by first | exact Nat.le_refl _ | (simp only []; omega) | (simp; omega)) _ | with_reducible refine Up.alloc ?_ _ | with_reducible refine Up.drew ?_ | refine Up.trans ?_ (by with_reducible assumption)))
  · rw [h1] at cF
    cases h2 : fitsB s d.data.toList
    · rw [h2] at cD
      simp only [Bool.true_and, Bool.false_eq_true, if_false]
      obtain ⟨a, cap, rfl, hm, hms, -⟩ := h
      clear h1 h2
      simp only [setV] at *
      go_enter Try.func24, Try.ntmps24
      go_wp2_with (first | ((go_at_call 45; (with_reducible refine (cF _ (hrt _ (by (repeat (first | with_reducible exact Up.refl _ | with_reducible assumption | with_reducible refine Up.set ?_ (by first | exact Nat.le_refl _ | (simp only []; omega) | (simp; omega)) _ | with_reducible refine Up.alloc ?_ _ | with_reducible refine Up.drew ?_ | refine Up.trans ?_ (by with_reducible assumption)))))).mono ?_); rintro e w1 ⟨rfl, U1⟩; have B1 := bcell U1; have Z1 := U1.size; (try simp at Z1); (try rw [Nat.add_one_le_iff] at Z1)); (try have Y1a : w.heap.size < w1.heap.size := (by omega)); (try have Y1b : w.heap.size + 1 < w1.heap.size := (by omega)); (try have Y1c : w.heap.size + 1 + 1 < w1.heap.size := (by omega)); (try have Y1d : w.heap.size + 1 + 1 + 1 < w1.heap.size := (by omega)); skip) | (go_at_call 50; (with_reducible refine (cD _).mono ?_); rintro e w2 ⟨rfl, U2⟩; have B2 := bcell U2; have Z2 := U2.size; (try simp at Z2); (try rw [Nat.add_one_le_iff] at Z2)))
      go_ret
      refine ⟨rfl, ?_⟩
      (repeat (first | with_reducible exact Up.refl _ | with_reducible assumption | with_reducible refine Up.set ?_ (by first | exact Nat.le_refl _ | (simp only []; omega) | (simp; omega)) _ | with_reducible refine Up.alloc ?_ _ | with_reducible refine Up.drew ?_ | refine Up.trans ?_ (by with_reducible assumption)))
    · rw [h2] at cD
      simp only [Bool.true_and, if_true]
      obtain ⟨l1, l2, l3⟩ := allFit_iff.1 h1
      obtain ⟨a, cap, rfl, hm, hms, -⟩ := h
      clear h1 h2 l3
      simp only [setV] at *
      go_enter Try.func24, Try.ntmps24
      go_wp2_with (first | ((go_at_call 45; (with_reducible refine (cF _ (hrt _ (by (repeat (first | with_reducible exact Up.refl _ | with_reducible assumption | with_reducible refine Up.set ?_ (by first | exact Nat.le_refl _ | (simp only []; omega) | (simp; omega)) _ | with_reducible refine Up.alloc ?_ _ | with_reducible refine Up.drew ?_ | refine Up.trans ?_ (by with_reducible assumption)))))).mono ?_); rintro e w1 ⟨rfl, U1⟩; have B1 := bcell U1; have Z1 := U1.size; (try simp at Z1); (try rw [Nat.add_one_le_iff] at Z1)); (try have Y1a : w.heap.size < w1.heap.size := (by omega)); (try have Y1b : w.heap.size + 1 < w1.heap.size := (by omega)); (try have Y1c : w.heap.size + 1 + 1 < w1.heap.size := (by omega)); (try have Y1d : w.heap.size + 1 + 1 + 1 < w1.heap.size := (by omega)); skip) | (go_at_call 50; (with_reducible refine (cD _).mono ?_); rintro e w2 ⟨rfl, U2⟩; have B2 := bcell U2; have Z2 := U2.size; (try simp at Z2); (try rw [Nat.add_one_le_iff] at Z2)))
      have hSE : SetAt w.heap.size s.ord s.lit s.most w2 := box_up U2 (box_up U1 (MapKept.heap_alloc w _).1)
      have hUU : Up w w2 := by (repeat (first | with_reducible exact Up.refl _ | with_reducible assumption | with_reducible refine Up.set ?_ (by first | exact Nat.le_refl _ | (simp only []; omega) | (simp; omega)) _ | with_reducible refine Up.alloc ?_ _ | with_reducible refine Up.drew ?_ | refine Up.trans ?_ (by with_reducible assumption)))
      go_loopw [7, 8] (fun b i wr => RelBe (fun i => totW s (ds.getD i ByteArray.empty) [d]) ds.length s w.heap.size w b i wr) (fun _ i _ => ds.length - (intOf i).toNat)
      case atStart => exact ⟨0, rfl, by omega, rfl, hSE, hUU⟩
      case round =>
        clear hSE hUU U1 U2
        obtain ⟨j, rfl, hj, rfl, hset, hup⟩ := hrel
        obtain ⟨hb0, s0, s1, s2⟩ := hset.cells
        have HSE := Lib.hid hset
        clear hset
        have hbl9 := bestI_le (fun i => totW s (ds.getD i ByteArray.empty) [d]) j
        have hjn : j < ds.length := by omega
        by_cases hlt : j + 1 < ds.length
        · obtain ⟨b, off, rfl, hbl, hx, -, hnc, hcm⟩ := (hat.up hup).at hlt
          obtain ⟨b', off', e, -, hy, -, -, -⟩ := (hat.up hup).at (show bestI (fun i => totW s (ds.getD i ByteArray.empty) [d]) j < ds.length by omega)
          cases e
          have hs1 := hs _ (List.getElem_mem hlt)
          have hs2 := hs _ (List.getElem_mem (show bestI (fun i => totW s (ds.getD i ByteArray.empty) [d]) j < ds.length by omega))
          have c1 := fun wx => l4Size_any s ds[j + 1] d wx (by omega) (by omega)
          have c2 := fun wx => l4Size_any s (ds[bestI (fun i => totW s (ds.getD i ByteArray.empty) [d]) j]'(by omega)) d wx (by omega) (by omega)
          have e1 : totW s (ds.getD (j + 1) ByteArray.empty) [d] = szW s ds[j + 1] d := by rw [totW_one, getD_lt hlt]
          have e2 : totW s (ds.getD (bestI (fun i => totW s (ds.getD i ByteArray.empty) [d]) j) ByteArray.empty) [d] = szW s (ds[bestI (fun i => totW s (ds.getD i ByteArray.empty) [d]) j]'(by omega)) d := by rw [totW_one, getD_lt (by omega)]
          have hB : bestI (fun i => totW s (ds.getD i ByteArray.empty) [d]) (j + 1) = if szW s ds[j + 1] d < szW s (ds[bestI (fun i => totW s (ds.getD i ByteArray.empty) [d]) j]'(by omega)) d then j + 1 else bestI (fun i => totW s (ds.getD i ByteArray.empty) [d]) j := by
            rw [← e1, ← e2]; rfl
          have HB := Lib.hid hB
          clear e1 e2 hB
          unfold maxLen at hcm
          generalize (ds[bestI (fun i => totW s (ds.getD i ByteArray.empty) [d]) j]'(by omega)) = t2 at *
          generalize ds[j + 1] = t1 at *
          generalize hqb : bestI (fun i => totW s (ds.getD i ByteArray.empty) [d]) j = q at *
          clear hqb
          simp only [setV] at c1 c2
          by_cases hcmp : szW s t1 d < szW s t2 d
          · have HR : Hid (bestI (fun i => totW s (ds.getD i ByteArray.empty) [d]) (j + 1) = j + 1) := HB.out.trans (if_pos hcmp)
            go_wp2
            refine wp_region_up 15 (by kernel_rfl) (by kernel_rfl) ?_
            simp only [List.take, List.drop]
            repeat (refine wpUp_step (fun K hK => ?_); go_simp; (try simp only [↓IntWalk.iteOmega]); first
              | (refine hK _ _ ?_; clear hK K)
              | (apply stepU_c
                 · intro wq hwq; (have hbq := bcell hwq; (repeat (first | refine fills_no (by rfl) ?_ | refine fills_yes (by rfl) (fun vq hvq => ?_))); simp only [List.filter_nil, fills]; unfold upAt; (try ((have hx2 := (hwq.cell (p := ⟨b, off + (j + 1), none⟩) hbl).trans hx; have hy2 := (hwq.cell (p := ⟨b, off + q, none⟩) hbl).trans hy; obtain ⟨hbz, s0, s1, s2⟩ := SetAt.cells (box_up hwq HSE.out)))); go_simp; (try go_bits); (try simp only [↓IntWalk.iteOmega]); (try (rw [dif_pos (by omega)]; go_simp; try go_bits)); first | exact upOut_value | (apply upOut_call; (go_at_call 51; with_reducible exact c1 _)) | (apply upOut_eq; (go_at_call 51; with_reducible exact c1 _)) | (apply upOut_call; (go_at_call 51; with_reducible exact c2 _)) | (apply upOut_eq; (go_at_call 51; with_reducible exact c2 _)))
                 go_simp; refine hK _ _ ?_; clear hK K))
            refine wpUp_nil (fun wq hwq => ?_)
            simp only [fills]
            go_wp2
            go_roundw
            case rel => exact ⟨j + 1, by go_num, by omega, by (rw [HR.out]; try go_num), box_up hwq HSE.out, by (repeat (first | with_reducible exact Up.refl _ | with_reducible assumption | with_reducible refine Up.set ?_ (by first | exact Nat.le_refl _ | (simp only []; omega) | (simp; omega)) _ | with_reducible refine Up.alloc ?_ _ | with_reducible refine Up.drew ?_ | refine Up.trans ?_ (by with_reducible assumption)))⟩
            case measure => simp [intOf]; omega
          · have HR : Hid (bestI (fun i => totW s (ds.getD i ByteArray.empty) [d]) (j + 1) = q) := HB.out.trans (if_neg hcmp)
            go_wp2
            refine wp_region_up 15 (by kernel_rfl) (by kernel_rfl) ?_
            simp only [List.take, List.drop]
            repeat (refine wpUp_step (fun K hK => ?_); go_simp; (try simp only [↓IntWalk.iteOmega]); first
              | (refine hK _ _ ?_; clear hK K)
              | (apply stepU_c
                 · intro wq hwq; (have hbq := bcell hwq; (repeat (first | refine fills_no (by rfl) ?_ | refine fills_yes (by rfl) (fun vq hvq => ?_))); simp only [List.filter_nil, fills]; unfold upAt; (try ((have hx2 := (hwq.cell (p := ⟨b, off + (j + 1), none⟩) hbl).trans hx; have hy2 := (hwq.cell (p := ⟨b, off + q, none⟩) hbl).trans hy; obtain ⟨hbz, s0, s1, s2⟩ := SetAt.cells (box_up hwq HSE.out)))); go_simp; (try go_bits); (try simp only [↓IntWalk.iteOmega]); (try (rw [dif_pos (by omega)]; go_simp; try go_bits)); first | exact upOut_value | (apply upOut_call; (go_at_call 51; with_reducible exact c1 _)) | (apply upOut_eq; (go_at_call 51; with_reducible exact c1 _)) | (apply upOut_call; (go_at_call 51; with_reducible exact c2 _)) | (apply upOut_eq; (go_at_call 51; with_reducible exact c2 _)))
                 go_simp; refine hK _ _ ?_; clear hK K))
            refine wpUp_nil (fun wq hwq => ?_)
            simp only [fills]
            go_wp2
            go_roundw
            case rel => exact ⟨j + 1, by go_num, by omega, by (rw [HR.out]; try go_num), box_up hwq HSE.out, by (repeat (first | with_reducible exact Up.refl _ | with_reducible assumption | with_reducible refine Up.set ?_ (by first | exact Nat.le_refl _ | (simp only []; omega) | (simp; omega)) _ | with_reducible refine Up.alloc ?_ _ | with_reducible refine Up.drew ?_ | refine Up.trans ?_ (by with_reducible assumption)))⟩
            case measure => simp [intOf]; omega
        · have HJ : Hid (j = ds.length - 1) := by unfold Hid; omega
          go_wp2
          go_ret
          exact ⟨ret_int (by rw [← HJ.out]), hup⟩

end Go.Proofs.Ytnbmkoapohjnmaa

/- Plain law: following codes that can follow only adds data. Conditions: as each says. -/
namespace Go.Proofs.Ytnbmkoapohjnmaa
set_option linter.unusedVariables false
set_option linter.unusedSimpArgs false
open Go Go.RowKit

theorem walkN_pre : ∀ (xs : List Int) (k : KnD) (ws : List Int) (d : List UInt8), (walkN k xs ws d).ok = true → d.length ≤ (walkN k xs ws d).data.length := by
  intro xs
  induction xs with
  | nil => intro k ws d h; exact Nat.le_refl _
  | cons x xs ih =>
    intro k ws d h
    rw [walkN] at h ⊢
    split at h
    · next h1 => rw [if_pos h1]; exact Nat.le_refl _
    · next h1 =>
      rw [if_neg h1]
      split at h
      · next h2 => rw [if_pos h2]; exact ih _ _ _ h
      · next h2 =>
        rw [if_neg h2]
        split at h
        · cases h
        · next h3 =>
          rw [if_neg h3]
          have := ih _ _ _ h
          rw [List.length_append] at this; omega
/-- A code that can follow, and what is left to follow. -/
theorem walkN_ok {k : KnD} {x : Int} {xs ws : List Int} {d : List UInt8} {T : WkR} (h : walkN k (x :: xs) ws d = T) (hT : T.ok = true) :
    (x = (k.c : Int) + 1 ∧ xs = [] ∧ T = ⟨ws ++ [(k.width : Int)], d, true⟩) ∨ (x = (k.c : Int) ∧ walkN k.cleared xs (ws ++ [(k.width : Int)]) d = T) ∨
    (x ≠ (k.c : Int) + 1 ∧ x ≠ (k.c : Int) ∧ k.follows x = true ∧ walkN (k.after x) xs (ws ++ [(k.width : Int)]) (d ++ k.any x) = T ∧ d.length + (k.any x).length ≤ T.data.length) := by
  by_cases h1 : x = (k.c : Int) + 1
  · rw [walkN_end h1] at h
    subst h
    have : xs = [] := by simpa using hT
    exact .inl ⟨h1, this, by subst this; rfl⟩
  · by_cases h2 : x = (k.c : Int)
    · rw [walkN_clear h2] at h
      exact .inr (.inl ⟨h2, h⟩)
    · by_cases h3 : k.follows x = false ∨ 2000 < d.length
      · rw [walkN_bad h1 h2 h3] at h
        subst h; cases hT
      · have h4 : k.follows x = true := by
          cases e : k.follows x
          · exact absurd (.inl e) h3
          · rfl
        rw [walkN_word h1 h2 h4 (by omega)] at h
        refine .inr (.inr ⟨h1, h2, h4, h, ?_⟩)
        have := walkN_pre xs (k.after x) (ws ++ [(k.width : Int)]) (d ++ k.any x) (by rw [h]; exact hT)
        rw [h, List.length_append] at this
        exact this

end Go.Proofs.Ytnbmkoapohjnmaa

/- Walks of the program's advance and walkCodes. Conditions: what is known is valid and can be read; the codes can follow, and their data fits. -/
namespace Go.Proofs.Ytnbmkoapohjnmaa
set_option linter.unusedVariables false
set_option linter.unusedSimpArgs false
open Go Go.RowKit

/-- What advance leaves: what is known, its pairs in the row that was there or in a new one. -/
def AdvPost (k : KnD) (B : Nat) (v : Value) (w : World) (e : Ending) (w' : World) : Prop := ∃ v', e = .returned (kV k v') ∧ ownPr w' B v' k.ps ∧ Fr (fun b => v.ownBlock = some b) w w'

set_option maxRecDepth 100000 in
set_option maxHeartbeats 4000000 in
theorem advC_any (k : KnD) (v : Value) (B : Nat) (y : Int) (w : World) (h : k.Ok) (hB : B ≤ w.heap.size) (hown : ownPr w B v k.ps) :
    Calls Try.prog 117  #[kV k v, .int .i64 (k.c : Nat), .int .u8 y] w (AdvPost k.cleared B v w) := by
  have h0 := h.base0
  have h1 := h.base1
  have hpl := h.nums.2.2.2.1
  have cK := fun w => clearI_any k.set w h.set
  obtain ⟨m, hm⟩ : ∃ m : Nat, k.base = m := ⟨k.base.toNat, by omega⟩
  have hml : m ≤ k.ps.length := by omega
  have e : Hid (k.cleared = ⟨k.set, k.ps.take m, m, -1⟩) := by unfold Hid KnD.cleared; rw [hm]; rfl
  obtain ⟨a, cap, rfl⟩ := ownsRow_shape hown
  have hcp := ownsRow_cap hown
  have hcut := ownsRow_cut hown hml
  rw [cellsPr_take] at hcut
  have hlt : (k.ps.take m).length = m := by rw [List.length_take]; omega
  have HC : Hid (ownPr w B (.slice a m cap) (k.ps.take m)) := by unfold Hid ownPr; rw [hlt]; exact hcut
  have ec : k.c = clr k.set := rfl
  have hnil : a = none → m = 0 ∧ cap = 0 := fun ha => by
    subst ha
    rcases hown.2 with ⟨e1, e2⟩ | ⟨g, cp, cur, e1, _⟩
    · simp only [Value.slice.injEq] at e1; exact ⟨by omega, e1.2.2⟩
    · simp at e1
  have HK0 : KnAt w.heap.size k (.slice a k.ps.length cap) (w.alloc (.cells #[.int .i64 k.set.ord, .int .i64 k.set.lit, .int .i64 k.set.most, .slice a k.ps.length cap, .int .i64 k.base, .int .i64 k.last] 54)) := (MapKept.heap_alloc w _).1
  rw [e.out, ec]
  simp only [kV]
  rw [hm] at HK0 ⊢
  clear h e hown hcut hlt h0 h1 ec
  cases a with
  | none =>
    obtain ⟨e1, e2⟩ := hnil rfl
    subst e1; subst e2
    go_enter Try.func117, Try.ntmps117
    go_wp2_with ((go_at_call 82; (with_reducible refine (cK _).mono ?_); rintro e w1 ⟨rfl, U1⟩; have B1 := bcell U1; have Z1 := U1.size; (try simp at Z1); (try rw [Nat.add_one_le_iff] at Z1)); obtain ⟨hb0, r0, r1, r2, r3, r4, r5⟩ := box_up U1 (box_up ((Up.refl _).alloc _) (MapKept.heap_alloc w (.cells #[.int .i64 k.set.ord, .int .i64 k.set.lit, .int .i64 k.set.most, .slice none k.ps.length 0, .int .i64 ((0 : Nat) : Int), .int .i64 k.last] 54)).1) |> fun h => KnAt.cells (b := w.heap.size) (k := ⟨k.set, [], ((0 : Nat) : Int), k.last⟩) (v := .slice none k.ps.length 0) h; have hf0 := box_free (box_up U1 (box_up ((Up.refl _).alloc _) (MapKept.heap_alloc w (.cells #[.int .i64 k.set.ord, .int .i64 k.set.lit, .int .i64 k.set.most, .slice none k.ps.length 0, .int .i64 ((0 : Nat) : Int), .int .i64 k.last] 54)).1)); obtain ⟨hb1, q0, q1, q2, q3, q4, q5⟩ := KnAt.cells (b := w.heap.size + 1) (k := ⟨⟨0, 0, 0⟩, [], 0, 0⟩) (v := .slice none 0 0) (box_up U1 (alloc2 w _ _)); have hf1 := box_free (box_up U1 (alloc2 w _ _)))
    refine bodyPost_ret (v := kV ⟨k.set, k.ps.take 0, ((0 : Nat) : Int), -1⟩ (.slice none 0 0)) (by simp [results, Try.results117, go_sem, q0, q1, q2, q3, q4, q5]) rfl ⟨_, rfl, ?_, ?_⟩
    · exact World.ownsRow_nil _ _ _ _
    · refine Fr.of _ ?_
      (repeat (first | with_reducible exact Up.refl _ | with_reducible assumption | with_reducible refine Up.set ?_ (by first | exact Nat.le_refl _ | (simp only []; omega) | (simp; omega)) _ | with_reducible refine Up.alloc ?_ _ | with_reducible refine Up.drew ?_ | refine Up.trans ?_ (by with_reducible assumption)))
  | some ad =>
    go_enter Try.func117, Try.ntmps117
    go_wp2_with ((go_at_call 82; (with_reducible refine (cK _).mono ?_); rintro e w1 ⟨rfl, U1⟩; have B1 := bcell U1; have Z1 := U1.size; (try simp at Z1); (try rw [Nat.add_one_le_iff] at Z1)); obtain ⟨hb0, r0, r1, r2, r3, r4, r5⟩ := KnAt.cells (b := w.heap.size) (k := ⟨k.set, k.ps, (m : Int), k.last⟩) (v := .slice (some ad) k.ps.length cap) (box_up U1 (box_up ((Up.refl _).alloc _) (MapKept.heap_alloc w _).1)); have hf0 := box_free (box_up U1 (box_up ((Up.refl _).alloc _) (MapKept.heap_alloc w (.cells #[.int .i64 k.set.ord, .int .i64 k.set.lit, .int .i64 k.set.most, .slice (some ad) k.ps.length cap, .int .i64 (m : Int), .int .i64 k.last] 54)).1)); obtain ⟨hb1, q0, q1, q2, q3, q4, q5⟩ := KnAt.cells (b := w.heap.size + 1) (k := ⟨⟨0, 0, 0⟩, [], 0, 0⟩) (v := .slice none 0 0) (box_up U1 (alloc2 w _ _)); have hf1 := box_free (box_up U1 (alloc2 w _ _)))
    have hU : Up w w1 := by (repeat (first | with_reducible exact Up.refl _ | with_reducible assumption | with_reducible refine Up.set ?_ (by first | exact Nat.le_refl _ | (simp only []; omega) | (simp; omega)) _ | with_reducible refine Up.alloc ?_ _ | with_reducible refine Up.drew ?_ | refine Up.trans ?_ (by with_reducible assumption)))
    refine bodyPost_ret (v := kV ⟨k.set, k.ps.take m, (m : Int), -1⟩ (.slice (some ad) m cap)) (by simp [results, Try.results117, go_sem, q0, q1, q2, q3, q4, q5]) rfl ⟨_, rfl, ?_, ?_⟩
    · refine ownsRow_up HC.out ?_
      (repeat (first | with_reducible exact Up.refl _ | with_reducible assumption | with_reducible refine Up.set ?_ (by first | exact Nat.le_refl _ | (simp only []; omega) | (simp; omega)) _ | with_reducible refine Up.alloc ?_ _ | with_reducible refine Up.drew ?_ | refine Up.trans ?_ (by with_reducible assumption)))
    · refine Fr.of _ ?_
      (repeat (first | with_reducible exact Up.refl _ | with_reducible assumption | with_reducible refine Up.set ?_ (by first | exact Nat.le_refl _ | (simp only []; omega) | (simp; omega)) _ | with_reducible refine Up.alloc ?_ _ | with_reducible refine Up.drew ?_ | refine Up.trans ?_ (by with_reducible assumption)))

set_option maxRecDepth 100000 in
set_option maxHeartbeats 4000000 in
theorem advW_any (k : KnD) (v : Value) (B : Nat) (x : Int) (w : World) (h : k.Ok) (hB : B ≤ w.heap.size) (hown : ownPr w B v k.ps) (hf : k.follows x = true) (hxc : x ≠ (k.c : Int)) :
    Calls Try.prog 117  #[kV k v, .int .i64 x, .int .u8 (k.first x)] w (AdvPost (k.after x) B v w) := by
  obtain ⟨i0, hi, hz0, hz1, hz2⟩ := info_parts infoPair
  have hpl := h.nums.2.2.2.1
  have hcb := h.c_bd.2.1
  have cK := fun w => clearI_any k.set w h.set
  obtain ⟨f1, f2⟩ := KnD.first_bd h hf
  obtain ⟨a, cap, rfl⟩ := ownsRow_shape hown
  have cG := fun w => growI_any k.set k.base k.last a k.ps.length cap w h.set (by omega)
  rw [growN_eq] at cG
  have hxb : (x == ((clr k.set : Nat) : Int)) = false := by
    have h2 : ¬ x = ((clr k.set : Nat) : Int) := hxc
    simpa using h2
  have HO := Lib.hid hown
  cases hg : k.grow
  · have e : Hid (k.after x = ⟨k.set, k.ps, k.base, x⟩) := by unfold Hid KnD.after; rw [hg]; simp
    rw [e.out]
    rw [hg] at cG
    generalize k.first x = fx at *
    simp only [kV, knV] at *
    clear h e hg hf hxc hown
    go_enter Try.func117, Try.ntmps117
    go_wp2_with (first | (go_at_call 82; (with_reducible refine (cK _).mono ?_); rintro e w1 ⟨rfl, U1⟩; have B1 := bcell U1; have Z1 := U1.size; (try simp at Z1); (try rw [Nat.add_one_le_iff] at Z1)) | ((go_at_call 85; (with_reducible refine (cG _).mono ?_); rintro e w2 ⟨rfl, U2⟩; have B2 := bcell U2; have Z2 := U2.size; (try simp at Z2); (try rw [Nat.add_one_le_iff] at Z2)); obtain ⟨hb0, r0, r1, r2, r3, r4, r5⟩ := KnAt.cells (b := w.heap.size) (k := k) (v := .slice a k.ps.length cap) (box_up (U1.trans U2) (box_up ((Up.refl _).alloc _) (MapKept.heap_alloc w _).1)); have hf0 := box_free (box_up (U1.trans U2) (box_up ((Up.refl _).alloc _) (MapKept.heap_alloc w (.cells #[.int .i64 k.set.ord, .int .i64 k.set.lit, .int .i64 k.set.most, .slice a k.ps.length cap, .int .i64 k.base, .int .i64 k.last] 54)).1)); obtain ⟨hb1, q0, q1, q2, q3, q4, q5⟩ := KnAt.cells (b := w.heap.size + 1) (k := ⟨⟨0, 0, 0⟩, [], 0, 0⟩) (v := .slice none 0 0) (box_up (U1.trans U2) (alloc2 w _ _)); have hf1 := box_free (box_up (U1.trans U2) (alloc2 w _ _))))
    refine bodyPost_ret (v := kV ⟨k.set, k.ps, k.base, x⟩ (.slice a k.ps.length cap)) (by simp [results, Try.results117, go_sem, q0, q1, q2, q3, q4, q5]) rfl ⟨_, rfl, ?_, ?_⟩
    · refine ownsRow_up HO.out ?_
      (repeat (first | with_reducible exact Up.refl _ | with_reducible assumption | with_reducible refine Up.set ?_ (by first | exact Nat.le_refl _ | (simp only []; omega) | (simp; omega)) _ | with_reducible refine Up.alloc ?_ _ | with_reducible refine Up.drew ?_ | refine Up.trans ?_ (by with_reducible assumption)))
    · refine Fr.of _ ?_
      (repeat (first | with_reducible exact Up.refl _ | with_reducible assumption | with_reducible refine Up.set ?_ (by first | exact Nat.le_refl _ | (simp only []; omega) | (simp; omega)) _ | with_reducible refine Up.alloc ?_ _ | with_reducible refine Up.drew ?_ | refine Up.trans ?_ (by with_reducible assumption)))
  · have e : Hid (k.after x = ⟨k.set, k.ps ++ [⟨k.last, k.first x⟩], k.base, x⟩) := by unfold Hid KnD.after; rw [hg]; rfl
    rw [e.out]
    rw [hg] at cG
    generalize k.first x = fx at *
    have HS : Hid (∀ w' v', w'.ownsRow B 96 2 v' (k.ps.length + 1) (cellsPr k.ps ++ [.int .i64 k.last, .int .i64 fx]) → ownPr w' B v' (k.ps ++ [⟨k.last, fx⟩])) := fun w' v' h' => by
      unfold ownPr
      rw [List.length_append, cellsPr_snoc]
      exact h'
    have hfx : fx < 256 := by omega
    simp only [kV, knV] at *
    clear h e hg hf hxc hown hcb
    go_enter Try.func117, Try.ntmps117
    go_wp2_with (first | (go_at_call 82; (with_reducible refine (cK _).mono ?_); rintro e w1 ⟨rfl, U1⟩; have B1 := bcell U1; have Z1 := U1.size; (try simp at Z1); (try rw [Nat.add_one_le_iff] at Z1)) | ((go_at_call 85; (with_reducible refine (cG _).mono ?_); rintro e w2 ⟨rfl, U2⟩; have B2 := bcell U2; have Z2 := U2.size; (try simp at Z2); (try rw [Nat.add_one_le_iff] at Z2)); have hK2 : KnAt w.heap.size k (.slice a k.ps.length cap) w2 := box_up (U1.trans U2) (box_up ((Up.refl _).alloc _) (MapKept.heap_alloc w _).1); have hR2 : KnAt (w.heap.size + 1) ⟨⟨0, 0, 0⟩, [], 0, 0⟩ (.slice none 0 0) w2 := box_up (U1.trans U2) (alloc2 w _ _); obtain ⟨hb0, r0, r1, r2, r3, r4, r5⟩ := hK2.cells; have HK2 := Lib.hid hK2; have HR2 := Lib.hid hR2; have hU2 : Up w w2 := (by (repeat (first | with_reducible exact Up.refl _ | with_reducible assumption | with_reducible refine Up.set ?_ (by first | exact Nat.le_refl _ | (simp only []; omega) | (simp; omega)) _ | with_reducible refine Up.alloc ?_ _ | with_reducible refine Up.drew ?_ | refine Up.trans ?_ (by with_reducible assumption)))); have HU2 := Lib.hid hU2; clear hK2 hR2 U1 U2 hU2 B1 B2 Z1) | (at_builtin; refine wpList_append_own _ rfl _ _ 52 rfl B 96 i0 (.agg #[.int .i64 0, .int .i64 0]) 2 16 Try.underlying52 hi hz0 hz1 hz2 rfl (by decide) _ _ _ rfl (ownsRow_up (ownsRow_up HO.out HU2.out) (Up.alloc (Up.refl _) _)) ⟨w2.heap.size, 0, none⟩ 1 1 [.int .i64 k.last, .int .i64 fx] rfl rfl (new_cells [.int .i64 k.last, .int .i64 fx] _ rfl) (by intro u hu; simp at hu; rcases hu with rfl | rfl <;> rfl) (by unfold maxLen; omega) (by omega) (by have := HU2.out.size; simp; omega) ?_; rintro v4 w4 hown4 hgr4 -; obtain ⟨a4, c4, rfl⟩ := ownsRow_shape hown4; have hK4 := gbox hgr4 (box_up ((Up.refl _).alloc _) HK2.out) (box_ne HK2.out (ownsRow_up HO.out HU2.out) (by decide)); have hR4 := gbox hgr4 (box_up ((Up.refl _).alloc _) HR2.out) (box_ne HR2.out (ownsRow_up HO.out HU2.out) (by decide)); obtain ⟨hb4, r0, r1, r2, r3, r4, r5⟩ := KnAt.cells (k := k) (v := .slice a k.ps.length cap) hK4; have hf0 := box_free hK4; obtain ⟨hb5, q0, q1, q2, q3, q4, q5⟩ := KnAt.cells (k := ⟨⟨0, 0, 0⟩, [], 0, 0⟩) (v := .slice none 0 0) hR4; have hf1 := box_free hR4; have hFr : Fr (fun b => Value.ownBlock (.slice a k.ps.length cap) = some b) w w4 := ((Fr.of _ HU2.out).alloc _).gr hgr4 (fun b hb => .inl hb); have HV4 := Lib.hid (HS.out _ _ hown4); have HF4 := Lib.hid hFr; have HN1 := Lib.hid (box_ne hK4 hown4 (by decide)); have HN2 := Lib.hid (box_ne hR4 hown4 (by decide)); clear hown4 hgr4 hK4 hR4 hFr))
    refine bodyPost_ret (v := kV ⟨k.set, k.ps ++ [⟨k.last, fx⟩], k.base, x⟩ (.slice a4 (k.ps.length + 1) c4)) (by simp [results, Try.results117, go_sem, q0, q1, q2, q3, q4, q5]) rfl ⟨_, rfl, ?_, ?_⟩
    · have hn1 := HN1.out
      have hn2 := HN2.out
      repeat (with_reducible first | refine ownsRow_setb ?_ hn1 _ _ | refine ownsRow_setb ?_ hn2 _ _)
      exact HV4.out
    · repeat (with_reducible refine Fr.set ?_ (.inr (by first | exact Nat.le_refl _ | (simp; done) | (simp; omega))) _)
      exact HF4.out

/-- The memory of walkCodes: what is known in its box, its pairs, the widths, the data. -/
structure WcB (w : World) (k : KnD) (v : Value) (ws : List Int) (d : List UInt8) (vw vd : Value) (wr : World) : Prop where
  kn : KnAt w.heap.size k v wr
  pr : ownPr wr (w.heap.size + 1) v k.ps
  own : ownI wr (w.heap.size + 1) vw ws
  dat : ownU wr (w.heap.size + 1) vd d
  up : Up w wr
theorem WcB.upd {w : World} {k : KnD} {v : Value} {ws : List Int} {d : List UInt8} {vw vd : Value} {wr w' : World} (h : WcB w k v ws d vw vd wr) (hu : Up wr w') : WcB w k v ws d vw vd w' :=
  ⟨h.kn.up hu, ownsRow_up h.pr hu, ownsRow_up h.own hu, ownsRow_up h.dat hu, h.up.trans hu⟩
theorem WcB.ints {w : World} {k : KnD} {v : Value} {ws ws' : List Int} {d : List UInt8} {vw vd vw' : Value} {wr w' : World} (h : WcB w k v ws d vw vd wr) (hg : wr.grownBy w' vw.ownBlock) (hn : ownI w' (w.heap.size + 1) vw' ws') : WcB w k v ws' d vw' vd w' :=
  ⟨h.kn.gr hg (low_ne (w := w) h.own (by omega)), h.pr.kept hg (rows_ne h.pr h.own (by decide)), hn, h.dat.kept hg (rows_ne h.dat h.own (by decide)), h.up.grown hg fun y hy => by have := (h.own.lt y hy).1; omega⟩
theorem WcB.bytes {w : World} {k : KnD} {v : Value} {ws : List Int} {d d' : List UInt8} {vw vd vd' : Value} {wr w' : World} (h : WcB w k v ws d vw vd wr) (hg : wr.grownBy w' vd.ownBlock) (hn : ownU w' (w.heap.size + 1) vd' d') : WcB w k v ws d' vw vd' w' :=
  ⟨h.kn.gr hg (low_ne (w := w) h.dat (by omega)), h.pr.kept hg (rows_ne h.pr h.dat (by decide)), h.own.kept hg (rows_ne h.own h.dat (by decide)), hn, h.up.grown hg fun y hy => by have := (h.dat.lt y hy).1; omega⟩
theorem some_ne {a b : Option Nat} (h : a = none ∨ a ≠ b) : ∀ x, a = some x → ¬ b = some x := fun x hx hb => by
  rcases h with h | h
  · rw [h] at hx; cases hx
  · exact h (hx.trans hb.symm)
theorem WcB.adv {w : World} {k k' : KnD} {v v' : Value} {ws : List Int} {d : List UInt8} {vw vd : Value} {wr w' : World} (h : WcB w k v ws d vw vd wr) (hp : ownPr w' (w.heap.size + 1) v' k'.ps) (hf : Fr (fun b => v.ownBlock = some b) wr w') : WcB w k' v' ws d vw vd (KnW w' w.heap.size k' v') :=
  have hk : KnAt w.heap.size k v w' := hf.box h.kn (fun e => low_ne (w := w) h.pr (Nat.lt_succ_self _) e.symm)
  ⟨KnAt.store hk k' v', KnW.own hp (low_ne (w := w) hp (Nat.lt_succ_self _)) k' v', KnW.own (hf.row h.own (some_ne (rows_ne h.own h.pr (by decide)))) (low_ne (w := w) h.own (Nat.lt_succ_self _)) k' v',
    KnW.own (hf.row h.dat (some_ne (rows_ne h.dat h.pr (by decide)))) (low_ne (w := w) h.dat (Nat.lt_succ_self _)) k' v', KnW.up (Fr.upto h.up hf (fun b hb => by have := (h.pr.lt b hb).1; omega)) (Nat.le_refl _) k' v'⟩
structure WcAt (T : WkR) (s0 : SetD) (codes : List Int) (w : World) (k : KnD) (v : Value) (i : Nat) (ws : List Int) (d : List UInt8) (vw vd : Value) (wr : World) : Prop where
  le : i ≤ codes.length
  tot : walkN k (codes.drop i) ws d = T
  wl : ws.length = i
  dl : d.length ≤ 2000
  ok : k.Ok
  set : k.set = s0
  mem : WcB w k v ws d vw vd wr
def RelWc (T : WkR) (s0 : SetD) (codes : List Int) (w : World) (vw vd i : Value) (wr : World) : Prop := ∃ k v n ws d, i = .int .i64 (n : Nat) ∧ WcAt T s0 codes w k v n ws d vw vd wr
def WcPost (T : WkR) (w : World) (e : Ending) (w' : World) : Prop := ∃ vw, e = .returned (.tuple #[vw, .string (bs T.data), .bool true]) ∧ ownI w' w.heap.size vw T.ws ∧ Up w w'

set_option maxRecDepth 100000 in
set_option maxHeartbeats 8000000 in
theorem walkI_any (k : KnD) (v : Value) (lo : Nat) (codes : List Int) (vc : Value) (lc : Nat) (w : World) (h : k.Ok) (hv : k.last = -1 → k.base = k.ps.length) (hr : RdP lo w v k.ps) (hc : RdI lc w vc codes) (hl : codes.length ≤ 3100) (hT : (walkN k codes [] []).ok = true) (hD : (walkN k codes [] []).data.length ≤ 2000) :
    Calls Try.prog 99  #[kV k v, vc] w (WcPost (walkN k codes [] []) w) := by
  obtain ⟨i0, hi, hz0, hz1, hz2⟩ := info_parts infoIntG
  have cV := fun wx hr => kvI_any k v lo wx h hv hr
  have hpl0 := h.nums.2.2.2.1
  have cY := fun wx hr => copyI_any k v lo wx hr (by omega)
  have cK0 := fun wx => clearI_any k.set wx h.set
  have cE0 := fun wx => endI_any k.set wx h.set
  have hrt := fun (wq : World) (hu : Up w wq) => hr.up hu
  have HKT := Lib.hid h
  obtain ⟨T, HTT⟩ : ∃ T, Hid (T = walkN k codes [] []) := ⟨_, rfl⟩
  rw [← HTT.out] at hT hD ⊢
  have hset0 : Hid (k.set = k.set) := rfl
  obtain ⟨a, cap, rfl, -, -, -, -⟩ := hr
  obtain ⟨ac, cc, rfl, hcc, hcm, hcells⟩ := hc
  unfold maxLen at hcm
  simp only [kV] at *
  clear h hv
  go_enter Try.func99, Try.ntmps99
  go_wp2_with (first | ((go_at_call 65; (with_reducible refine (cV _ (hrt _ (by (repeat (first | with_reducible exact Up.refl _ | with_reducible assumption | with_reducible refine Up.set ?_ (by first | exact Nat.le_refl _ | (simp only []; omega) | (simp; omega)) _ | with_reducible refine Up.alloc ?_ _ | with_reducible refine Up.drew ?_ | refine Up.trans ?_ (by with_reducible assumption)))))).mono ?_); rintro e w1 ⟨rfl, U1⟩; have B1 := bcell U1; have Z1 := U1.size; (try simp at Z1); (try rw [Nat.add_one_le_iff] at Z1))) | (go_at_call 87; (with_reducible refine (cY _ (hrt _ (by (repeat (first | with_reducible exact Up.refl _ | with_reducible assumption | with_reducible refine Up.set ?_ (by first | exact Nat.le_refl _ | (simp only []; omega) | (simp; omega)) _ | with_reducible refine Up.alloc ?_ _ | with_reducible refine Up.drew ?_ | refine Up.trans ?_ (by with_reducible assumption)))))).mono ?_); rintro e w2 ⟨v2, rfl, ho2, U2⟩; obtain ⟨a2, c2, rfl⟩ := ownsRow_shape ho2; have hk2 : KnAt w.heap.size k (.slice a k.ps.length cap) w2 := box_up U2 (box_up U1 (MapKept.heap_alloc w _).1); have hU2 : Up w w2 := (by (repeat (first | with_reducible exact Up.refl _ | with_reducible assumption | with_reducible refine Up.set ?_ (by first | exact Nat.le_refl _ | (simp only []; omega) | (simp; omega)) _ | with_reducible refine Up.alloc ?_ _ | with_reducible refine Up.drew ?_ | refine Up.trans ?_ (by with_reducible assumption)))); have hs1 := U1.size; simp at hs1; have hm2 : WcB w k (.slice a2 k.ps.length c2) [] [] (.slice none 0 0) (.slice none 0 0) (KnW w2 w.heap.size k (.slice a2 k.ps.length c2)) := ⟨KnAt.store hk2 k _, KnW.own (ownsRow_base ho2 (by omega)) (fun e => by have := (ho2.lt _ e.symm).1; omega) k _, World.ownsRow_nil _ _ _ _, World.ownsRow_nil _ _ _ _, KnW.up hU2 (Nat.le_refl _) k _⟩; have HM2 := Lib.hid hm2; obtain ⟨hb2, r0, r1, r2, r3, r4, r5⟩ := hk2.cells; have hf2 := box_free hk2; clear ho2 hk2 hm2))
  rw [show (World.setCell (World.setCell (World.setCell (World.setCell (World.setCell (World.setCell w2 ⟨w.heap.size, 0, none⟩ (.int .i64 k.set.ord)) ⟨w.heap.size, 1, none⟩ (.int .i64 k.set.lit)) ⟨w.heap.size, 2, none⟩ (.int .i64 k.set.most)) ⟨w.heap.size, 3, none⟩ (.slice a2 k.ps.length c2)) ⟨w.heap.size, 4, none⟩ (.int .i64 k.base)) ⟨w.heap.size, 5, none⟩ (.int .i64 k.last)) = KnW w2 w.heap.size k (.slice a2 k.ps.length c2) from rfl]
  clear r0 r1 r2 r3 r4 r5 hf2 U2 U1 B1 Z1 hs1 hb2 hU2
  generalize KnW w2 w.heap.size k (.slice a2 k.ps.length c2) = W at HM2 ⊢
  obtain ⟨-, r0, r1, r2, r3, r4, r5⟩ := HM2.out.kn.cells
  refine wp_region_upf 6 (by kernel_rfl) (by kernel_rfl) ?_
  simp only [List.take, List.drop]
  repeat (refine wpUp_step (fun K hK => ?_); go_simp; (try simp only [↓IntWalk.iteOmega]); first
    | (refine hK _ _ ?_; clear hK K)
    | (apply stepU_c
       · intro wq hwq; (have hbq := bcell hwq; (repeat (first | refine fills_no (by rfl) ?_ | refine fills_yes (by rfl) (fun vq hvq => ?_))); simp only [List.filter_nil, fills]; unfold upAt; (try ((obtain ⟨-, r0, r1, r2, r3, r4, r5⟩ := (HM2.out.kn.up hwq).cells))); go_simp; (try go_bits); (try simp only [↓IntWalk.iteOmega]); (try (rw [dif_pos (by omega)]; go_simp; try go_bits)); first | exact upOut_value | (apply upOut_call; (go_at_call 82; exact cK0 _)) | (apply upOut_eq; (go_at_call 82; exact cK0 _)) | (apply upOut_call; (go_at_call 80; exact cE0 _)) | (apply upOut_eq; (go_at_call 80; exact cE0 _)))
       go_simp; refine hK _ _ ?_; clear hK K))
  refine wpUp_nil (fun wq hwq => ?_)
  simp only [fills]
  have HM3 := Lib.hid (HM2.out.upd hwq)
  clear r0 r1 r2 r3 r4 r5 hwq
  go_wp2
  rw [onlyN_normal]
  go_wp2
  go_loopw [9, 10, 32] (fun vw vd i wr => RelWc T k.set codes w vw vd i wr) (fun _ _ i _ => codes.length - (intOf i).toNat)
  case atStart => exact ⟨k, _, 0, [], [], rfl, Nat.zero_le _, HTT.out.symm, rfl, by simp, HKT.out, rfl, HM3.out⟩
  case round =>
    clear HM2 HM3 cV cY hrt hset0
    obtain ⟨k', v', n, ws, d, rfl, hG⟩ := hrel
    have hle := hG.le
    have hwl := hG.wl
    have hdl := hG.dl
    have hok := hG.ok
    obtain ⟨a', c', rfl⟩ := ownsRow_shape hG.mem.pr
    obtain ⟨aw, cw, rfl⟩ := ownsRow_shape hG.mem.own
    obtain ⟨ad, cd, rfl⟩ := ownsRow_shape hG.mem.dat
    have HG := Lib.hid hG
    have HB := Lib.hid hG.mem
    obtain ⟨bk, r0, r1, r2, r3, r4, r5⟩ := hG.mem.kn.cells
    have hrd := fun (wq : World) (hu : Up wr wq) => (RdP.of_own hG.mem.pr).up hu
    have hups := hG.mem.up.size
    clear hG
    by_cases hlt : n < codes.length
    · have hD9 : codes.drop n = codes[n] :: codes.drop (n + 1) := List.drop_eq_getElem_cons hlt
      have htot := HG.out.tot
      rw [hD9] at htot
      have hW := walkN_ok htot hT
      obtain ⟨b, off, rfl, hlo, hbl, hx9⟩ := hcells (by omega)
      have hxw := hx9 n codes[n] (List.getElem?_eq_getElem hlt)
      have hx := (HB.out.up.cell (p := ⟨b, off + n, none⟩) hbl).trans hxw
      have hbl2 := Nat.lt_of_lt_of_le hbl hups
      have hset := HG.out.set
      have hsc : k'.c = clr k.set := by unfold KnD.c; rw [hset]
      have htop := KnD.top_bd hok
      have hcb := hok.nums
      have cWd := fun wq hr => widthI_any k' (.slice a' k'.ps.length c') (w.heap.size + 1) wq hok hr
      have hwl2 : ws.length ≤ 3100 := by omega
      have HWL := Lib.hid hwl
      clear hwl hx9 hcells hD9 htot hxw
      generalize codes[n] = x at *
      rcases hW with ⟨hxe, hxs, hTe⟩ | ⟨hxc, hrest⟩ | ⟨hx1, hx2, hf, hrest, hlen⟩
      · have hcan : decide (x ≤ ((k'.top : Nat) : Int)) = true := by rw [decide_eq_true_iff]; omega
        have cCan := fun wq hr => canI_any k' (.slice a' k'.ps.length c') (w.heap.size + 1) x wq hok hr (by omega)
        rw [hcan] at cCan
        have hnl : ¬ (n : Int) < (codes.length : Int) - 1 := by rw [List.drop_eq_nil_iff] at hxs; omega
        have hxe2 : x = (clr k.set : Int) + 1 := by rw [hxe, hsc]
        have hrest : walkN k' (codes.drop (n + 1)) (ws ++ [(k'.width : Int)]) d = T := by
          rw [hxs, hTe]
          show (⟨_, _, _⟩ : WkR) = _
          rw [decide_eq_true hdl]
        have HR := Lib.hid hrest
        subst hxe2
        simp only [kV] at *
        clear hxe hxs hTe hcan hrest hset hsc htop hcb
        go_wp2_with (first | (go_at_call 116; (with_reducible refine (cCan _ (hrd _ (by (repeat (first | with_reducible exact Up.refl _ | with_reducible assumption | with_reducible refine Up.set ?_ (by first | exact Nat.le_refl _ | (simp only []; omega) | (simp; omega)) _ | with_reducible refine Up.alloc ?_ _ | with_reducible refine Up.drew ?_ | refine Up.trans ?_ (by with_reducible assumption)))))).mono ?_); rintro e w5 ⟨rfl, U5⟩; have B5 := bcell U5; have Z5 := U5.size; (try simp at Z5); (try rw [Nat.add_one_le_iff] at Z5)) | (go_at_call 114; (with_reducible refine (cWd _ (hrd _ (by (repeat (first | with_reducible exact Up.refl _ | with_reducible assumption | with_reducible refine Up.set ?_ (by first | exact Nat.le_refl _ | (simp only []; omega) | (simp; omega)) _ | with_reducible refine Up.alloc ?_ _ | with_reducible refine Up.drew ?_ | refine Up.trans ?_ (by with_reducible assumption)))))).mono ?_); rintro e w6 ⟨rfl, U6⟩; have B6 := bcell U6; have Z6 := U6.size; (try simp at Z6); (try rw [Nat.add_one_le_iff] at Z6)) | (at_builtin; refine wpList_append_own _ rfl _ _ 81 rfl (w.heap.size + 1) 3 i0 (.int .i64 0) 1 8 Try.underlying81 hi hz0 hz1 hz2 rfl (by decide) _ _ _ rfl (ownsRow_up (HB.out.upd (U5.trans U6)).own (Up.alloc (Up.refl _) _)) ⟨w6.heap.size, 0, none⟩ 1 1 [.int .i64 (k'.width : Nat)] rfl rfl (new_cells [.int .i64 (k'.width : Nat)] _ rfl) (by intro u hu; simp at hu; subst hu; rfl) (by unfold maxLen; omega) (by omega) (by have := (HB.out.upd (U5.trans U6)).up.size; have := (HB.out.upd (U5.trans U6)).kn.cells.1; simp; omega) ?_; rintro v7 w7 hown7 hgr7 -; obtain ⟨a7, c7, rfl⟩ := ownsRow_shape hown7; have hb7 := ((HB.out.upd (U5.trans U6)).upd (Up.alloc (Up.refl _) _)).ints hgr7 (ownI_snoc hown7); obtain ⟨-, r0, r1, r2, r3, r4, r5⟩ := hb7.kn.cells; have HB7 := Lib.hid hb7; clear hb7 hown7 hgr7))
        go_roundw
        case rel => exact ⟨k', _, n + 1, ws ++ [(k'.width : Int)], d, by go_num, by omega, HR.out, by simp [HWL.out], hdl, HG.out.ok, HG.out.set, HB7.out⟩
        case measure => simp [intOf]; omega
      · have hcan : decide (x ≤ ((k'.top : Nat) : Int)) = true := by rw [decide_eq_true_iff]; omega
        have cCan := fun wq hr => canI_any k' (.slice a' k'.ps.length c') (w.heap.size + 1) x wq hok hr (by omega)
        rw [hcan] at cCan
        have cAC := fun wq hB hp => advC_any k' (.slice a' k'.ps.length c') (w.heap.size + 1) 0 wq hok hB hp
        rw [hsc] at cAC
        have hxe2 : x = (clr k.set : Int) := by rw [hxc, hsc]
        have hne : ((clr k.set : Int) == (clr k.set : Int) + 1) = false := by simp; omega
        have HR := Lib.hid hrest
        subst hxe2
        simp only [kV] at *
        clear hxc hcan hrest hset hsc htop hcb
        go_wp2_with (first | (go_at_call 116; (with_reducible refine (cCan _ (hrd _ (by (repeat (first | with_reducible exact Up.refl _ | with_reducible assumption | with_reducible refine Up.set ?_ (by first | exact Nat.le_refl _ | (simp only []; omega) | (simp; omega)) _ | with_reducible refine Up.alloc ?_ _ | with_reducible refine Up.drew ?_ | refine Up.trans ?_ (by with_reducible assumption)))))).mono ?_); rintro e w5 ⟨rfl, U5⟩; have B5 := bcell U5; have Z5 := U5.size; (try simp at Z5); (try rw [Nat.add_one_le_iff] at Z5)) | (go_at_call 114; (with_reducible refine (cWd _ (hrd _ (by (repeat (first | with_reducible exact Up.refl _ | with_reducible assumption | with_reducible refine Up.set ?_ (by first | exact Nat.le_refl _ | (simp only []; omega) | (simp; omega)) _ | with_reducible refine Up.alloc ?_ _ | with_reducible refine Up.drew ?_ | refine Up.trans ?_ (by with_reducible assumption)))))).mono ?_); rintro e w6 ⟨rfl, U6⟩; have B6 := bcell U6; have Z6 := U6.size; (try simp at Z6); (try rw [Nat.add_one_le_iff] at Z6)) | (at_builtin; refine wpList_append_own _ rfl _ _ 81 rfl (w.heap.size + 1) 3 i0 (.int .i64 0) 1 8 Try.underlying81 hi hz0 hz1 hz2 rfl (by decide) _ _ _ rfl (ownsRow_up (HB.out.upd (U5.trans U6)).own (Up.alloc (Up.refl _) _)) ⟨w6.heap.size, 0, none⟩ 1 1 [.int .i64 (k'.width : Nat)] rfl rfl (new_cells [.int .i64 (k'.width : Nat)] _ rfl) (by intro u hu; simp at hu; subst hu; rfl) (by unfold maxLen; omega) (by omega) (by have := (HB.out.upd (U5.trans U6)).up.size; have := (HB.out.upd (U5.trans U6)).kn.cells.1; simp; omega) ?_; rintro v7 w7 hown7 hgr7 -; obtain ⟨a7, c7, rfl⟩ := ownsRow_shape hown7; have hb7 := ((HB.out.upd (U5.trans U6)).upd (Up.alloc (Up.refl _) _)).ints hgr7 (ownI_snoc hown7); obtain ⟨-, r0, r1, r2, r3, r4, r5⟩ := hb7.kn.cells; have HB7 := Lib.hid hb7; clear hb7 hown7 hgr7) | (go_at_call 117; (with_reducible refine (cAC _ (by have := HB7.out.kn.cells.1; omega) HB7.out.pr).mono ?_); rintro e w9 ⟨v9, rfl, ho9, hF9⟩; obtain ⟨a9, c9, rfl⟩ := ownsRow_shape ho9; have hm9 := HB7.out.adv ho9 hF9; have hk9 := hF9.box HB7.out.kn (fun e => low_ne (w := w) HB7.out.pr (Nat.lt_succ_self _) e.symm); obtain ⟨hb9, r0, r1, r2, r3, r4, r5⟩ := KnAt.cells (k := k') (v := .slice a' k'.ps.length c') hk9; have hf9 := box_free hk9; have HM9 := Lib.hid hm9; clear hm9 hk9 ho9 hF9))
        rw [show (World.setCell (World.setCell (World.setCell (World.setCell (World.setCell (World.setCell w9 ⟨w.heap.size, 0, none⟩ (.int .i64 k'.cleared.set.ord)) ⟨w.heap.size, 1, none⟩ (.int .i64 k'.cleared.set.lit)) ⟨w.heap.size, 2, none⟩ (.int .i64 k'.cleared.set.most)) ⟨w.heap.size, 3, none⟩ (.slice a9 k'.cleared.ps.length c9)) ⟨w.heap.size, 4, none⟩ (.int .i64 k'.cleared.base)) ⟨w.heap.size, 5, none⟩ (.int .i64 k'.cleared.last)) = KnW w9 w.heap.size k'.cleared (.slice a9 k'.cleared.ps.length c9) from rfl]
        generalize KnW w9 w.heap.size k'.cleared (.slice a9 k'.cleared.ps.length c9) = W9 at HM9 ⊢
        go_roundw
        case rel => exact ⟨k'.cleared, _, n + 1, ws ++ [(k'.width : Int)], d, by go_num, by omega, HR.out, by simp [HWL.out], hdl, KnD.cleared_ok HG.out.ok, HG.out.set, HM9.out⟩
        case measure => simp [intOf]; omega
      · have htp : x ≤ ((k'.top : Nat) : Int) := by
          rcases KnD.follows_cases hok hf with hc | ⟨hg, hxn, _⟩
          · rw [codeOk_iff] at hc
            have : k'.next ≤ k'.top + 1 := by unfold KnD.top; split <;> omega
            unfold KnD.next at this; omega
          · unfold KnD.top; rw [if_pos hg]; omega
        have hx0 := (KnD.find_bd hok hf).1
        have hcan : decide (x ≤ ((k'.top : Nat) : Int)) = true := by rw [decide_eq_true_iff]; exact htp
        have cCan := fun wq hr => canI_any k' (.slice a' k'.ps.length c') (w.heap.size + 1) x wq hok hr hx0
        rw [hcan] at cCan
        have cWJ := fun wq hr => wordJ_any k' (.slice a' k'.ps.length c') (w.heap.size + 1) x wq hok hr hf
        have cAW := fun wq hB hp => advW_any k' (.slice a' k'.ps.length c') (w.heap.size + 1) x wq hok hB hp hf hx2
        have hwp := KnD.any_pos hok hf
        have hok9 := Lib.hid (KnD.after_ok hok hf)
        have hne1 : (x == (clr k.set : Int) + 1) = false := by simpa [hsc] using hx1
        have hne2 : (x == (clr k.set : Int)) = false := by simpa [hsc] using hx2
        have HFX : Hid (∀ h, (((bs (k'.any x))[0]'h).toNat : Int) = k'.first x) := fun h => by rw [bs_get0]; rfl
        have hset9 : Hid ((k'.after x).set = k.set) := hset
        have hfb := KnD.first_bd hok hf
        have hsz := bs_size (k'.any x)
        have HR := Lib.hid hrest
        have hlen2 : d.length + (k'.any x).length ≤ 2000 := by omega
        clear hcan hrest hset hsc htp hx1 hx2 hlen
        generalize hwl9 : k'.any x = wl at *
        clear hwl9
        have hfx := HFX.out (by rw [bs_size]; omega)
        simp only [kV] at *
        clear htop hcb
        go_wp2_with (first | (go_at_call 116; (with_reducible refine (cCan _ (hrd _ (by (repeat (first | with_reducible exact Up.refl _ | with_reducible assumption | with_reducible refine Up.set ?_ (by first | exact Nat.le_refl _ | (simp only []; omega) | (simp; omega)) _ | with_reducible refine Up.alloc ?_ _ | with_reducible refine Up.drew ?_ | refine Up.trans ?_ (by with_reducible assumption)))))).mono ?_); rintro e w5 ⟨rfl, U5⟩; have B5 := bcell U5; have Z5 := U5.size; (try simp at Z5); (try rw [Nat.add_one_le_iff] at Z5)) | (go_at_call 114; (with_reducible refine (cWd _ (hrd _ (by (repeat (first | with_reducible exact Up.refl _ | with_reducible assumption | with_reducible refine Up.set ?_ (by first | exact Nat.le_refl _ | (simp only []; omega) | (simp; omega)) _ | with_reducible refine Up.alloc ?_ _ | with_reducible refine Up.drew ?_ | refine Up.trans ?_ (by with_reducible assumption)))))).mono ?_); rintro e w6 ⟨rfl, U6⟩; have B6 := bcell U6; have Z6 := U6.size; (try simp at Z6); (try rw [Nat.add_one_le_iff] at Z6)) | (at_builtin; refine wpList_append_own _ rfl _ _ 81 rfl (w.heap.size + 1) 3 i0 (.int .i64 0) 1 8 Try.underlying81 hi hz0 hz1 hz2 rfl (by decide) _ _ _ rfl (ownsRow_up (HB.out.upd (U5.trans U6)).own (Up.alloc (Up.refl _) _)) ⟨w6.heap.size, 0, none⟩ 1 1 [.int .i64 (k'.width : Nat)] rfl rfl (new_cells [.int .i64 (k'.width : Nat)] _ rfl) (by intro u hu; simp at hu; subst hu; rfl) (by unfold maxLen; omega) (by omega) (by have := (HB.out.upd (U5.trans U6)).up.size; have := (HB.out.upd (U5.trans U6)).kn.cells.1; simp; omega) ?_; rintro v7 w7 hown7 hgr7 -; obtain ⟨a7, c7, rfl⟩ := ownsRow_shape hown7; have hb7 := ((HB.out.upd (U5.trans U6)).upd (Up.alloc (Up.refl _) _)).ints hgr7 (ownI_snoc hown7); obtain ⟨-, r0, r1, r2, r3, r4, r5⟩ := hb7.kn.cells; have HB7 := Lib.hid hb7; clear hb7 hown7 hgr7) | ((go_at_call 118; (with_reducible refine (cWJ _ (RdP.of_own HB7.out.pr)).mono ?_); rintro e w8 ⟨rfl, U8⟩; have B8 := bcell U8; have Z8 := U8.size; (try simp at Z8); (try rw [Nat.add_one_le_iff] at Z8)); obtain ⟨-, r0, r1, r2, r3, r4, r5⟩ := (HB7.out.upd U8).kn.cells) | (at_builtin; refine wpList_append_str rfl _ _ rfl (w.heap.size + 1) _ d wl rfl (HB7.out.upd U8).dat rfl (by omega) (by omega) (by have := (HB7.out.upd U8).kn.cells.1; omega) ?_; rintro v9 w9 ho9 hg9; obtain ⟨a9, c9, rfl⟩ := ownsRow_shape (ownsRow_n2 (n' := d.length + wl.length) ho9 (by simp)); have hb9 := (HB7.out.upd U8).bytes hg9 ho9; obtain ⟨-, r0, r1, r2, r3, r4, r5⟩ := hb9.kn.cells; have HB9 := Lib.hid hb9; clear hb9 ho9 hg9))
        refine wp_region_upR 4 (by kernel_rfl) (by kernel_rfl) ?_
        simp only [List.take, List.drop]
        repeat (refine wpUp_step (fun K hK => ?_); go_simp; (try simp only [↓IntWalk.iteOmega]); first
          | (refine hK _ _ ?_; clear hK K)
          | (apply stepU_c
             · intro wq hwq; (have hbq := bcell hwq; (repeat (first | refine fills_no (by rfl) ?_ | refine fills_yes (by rfl) (fun vq hvq => ?_))); simp only [List.filter_nil, fills]; unfold upAt; (try ((obtain ⟨-, r0, r1, r2, r3, r4, r5⟩ := (HB9.out.kn.up hwq).cells))); go_simp; (try go_bits); (try simp only [↓IntWalk.iteOmega]); (try (rw [dif_pos (by omega)]; go_simp; try go_bits)); first | exact upOut_value)
             go_simp; refine hK _ _ ?_; clear hK K))
        refine wpUp_nil (fun wq hwq => ?_)
        simp only [fills]
        have HBq := Lib.hid (HB9.out.upd hwq)
        (try rw [hfx])
        clear hwq r0 r1 r2 r3 r4 r5
        go_wp2_with fail
        with_reducible refine (cAW _ (by have := HBq.out.kn.cells.1; omega) HBq.out.pr).mono ?_
        rintro e w10 ⟨v10, rfl, ho10, hF10⟩
        obtain ⟨a10, c10, rfl⟩ := ownsRow_shape ho10
        have hm10 := HBq.out.adv ho10 hF10
        have hk10 := hF10.box HBq.out.kn (fun e => low_ne (w := w) HBq.out.pr (Nat.lt_succ_self _) e.symm)
        obtain ⟨hb10, r0, r1, r2, r3, r4, r5⟩ := KnAt.cells (k := k') (v := .slice a' k'.ps.length c') hk10
        have hf10 := box_free hk10
        have HM10 := Lib.hid hm10
        clear hm10 hk10 ho10 hF10
        go_wp2
        rw [show (World.setCell (World.setCell (World.setCell (World.setCell (World.setCell (World.setCell w10 ⟨w.heap.size, 0, none⟩ (.int .i64 (k'.after x).set.ord)) ⟨w.heap.size, 1, none⟩ (.int .i64 (k'.after x).set.lit)) ⟨w.heap.size, 2, none⟩ (.int .i64 (k'.after x).set.most)) ⟨w.heap.size, 3, none⟩ (.slice a10 (k'.after x).ps.length c10)) ⟨w.heap.size, 4, none⟩ (.int .i64 (k'.after x).base)) ⟨w.heap.size, 5, none⟩ (.int .i64 (k'.after x).last)) = KnW w10 w.heap.size (k'.after x) (.slice a10 (k'.after x).ps.length c10) from rfl]
        generalize KnW w10 w.heap.size (k'.after x) (.slice a10 (k'.after x).ps.length c10) = W10 at HM10 ⊢
        go_roundw
        case rel => exact ⟨k'.after x, _, n + 1, ws ++ [(k'.width : Int)], d ++ wl, by go_num, by omega, HR.out, by simp [HWL.out], by rw [List.length_append]; exact hlen2, hok9.out, hset9.out, HM10.out⟩
        case measure => simp [intOf]; omega
    · have e : n = codes.length := by omega
      subst e
      have hfin := HG.out.tot
      rw [List.drop_length] at hfin
      have hws : T.ws = ws := by rw [← hfin]; rfl
      have hda : T.data = d := by rw [← hfin]; rfl
      have HF := Lib.hid (And.intro hws hda)
      clear hfin hrd hok hws hda hwl r0 r1 r2 r3 r4 r5
      go_wp2
      refine wp_region_up 6 (by kernel_rfl) (by kernel_rfl) ?_
      simp only [List.take, List.drop]
      repeat (refine wpUp_step (fun K hK => ?_); go_simp; (try simp only [↓IntWalk.iteOmega]); first
        | (refine hK _ _ ?_; clear hK K)
        | (apply stepU_c
           · intro wq hwq; (have hbq := bcell hwq; (repeat (first | refine fills_no (by rfl) ?_ | refine fills_yes (by rfl) (fun vq hvq => ?_))); simp only [List.filter_nil, fills]; unfold upAt; (try ((have hconv := conv_any (ownsRow_up HB.out.dat hwq) rfl))); go_simp; (try go_bits); (try simp only [↓IntWalk.iteOmega]); (try (rw [dif_pos (by omega)]; go_simp; try go_bits)); first | exact upOut_value)
           go_simp; refine hK _ _ ?_; clear hK K))
      refine wpUp_nil (fun wq hwq => ?_)
      simp only [fills]
      go_wp2
      refine bodyPost_ret (v := .tuple #[.slice aw ws.length cw, .string (bs d), .bool true]) (by simp [results, Try.results99, go_sem]) rfl ?_
      have hB := HB.out.upd hwq
      exact ⟨_, by rw [HF.out.2], by rw [HF.out.1]; exact ownsRow_base hB.own (Nat.le_succ _), hB.up⟩

end Go.Proofs.Ytnbmkoapohjnmaa

/- Plain law: data that fits has no more than 3002 greedy codes. Conditions: what is known is valid, and the data has only literals. -/
namespace Go.Proofs.Ytnbmkoapohjnmaa
set_option linter.unusedVariables false
set_option linter.unusedSimpArgs false
open Go Go.RowKit

theorem KnD.cleared_len {k : KnD} (h : k.Ok) : ((k.cleared.ps.length : Nat) : Int) = k.base := by
  have h0 := h.base0; have h1 := h.base1
  show ((k.ps.take k.base.toNat).length : Int) = k.base
  rw [List.length_take]; omega
theorem greedyN_tight : ∀ (n : Nat) (k : KnD) (d : List UInt8), k.Ok → (∀ b ∈ d, b.toNat < k.c) → d.length ≤ n → (k.last = -1 → (k.ps.length : Int) = k.base) →
    2 * (greedyN n k d).length ≤ 3 * d.length + 2 + (if k.last = -1 then 0 else 1) := by
  intro n
  induction n with
  | zero =>
    intro k d hk hl hd hb
    have : d = [] := List.length_eq_zero_iff.1 (by omega)
    subst this
    simp [greedyN]
  | succ n ih =>
    intro k d hk hl hd hb
    by_cases hde : d = []
    · subst hde; rw [greedyN_nil]; simp
    · have hlp := KnD.longest_pos (k := k) hde
      have hll := KnD.longest_le (k := k) d
      obtain ⟨hfw, -⟩ := KnD.find_any hk hde hl
      have hx := KnD.find_bd hk hfw
      rw [greedyN, if_neg hde]
      generalize k.find (k.longest d) = x at *
      generalize (k.longest d).length = n1 at *
      have hok := KnD.after_ok hk hfw
      have hl2 : ∀ b ∈ d.drop n1, b.toNat < (k.after x).c := fun b hb => hl b (List.mem_of_mem_drop hb)
      have hdl : (d.drop n1).length = d.length - n1 := List.length_drop
      have hla : (k.after x).last = x := rfl
      split
      · next hf =>
        have hne : ¬ k.last = -1 := by
          intro e
          have h1 := hf.1
          unfold KnD.full at h1
          simp only [Bool.and_eq_true, decide_eq_true_eq] at h1
          have hg : k.grow = false := by unfold KnD.grow; rw [e]; rfl
          have h2 : (k.after x).ps = k.ps := by unfold KnD.after; rw [hg]; simp
          have h3 := h1.2
          rw [h2] at h3
          have h4 := hb e
          have h5 : (k.after x).base = k.base := rfl
          omega
        have := ih (k.after x).cleared (d.drop n1) (KnD.cleared_ok hok) hl2 (by omega) (fun _ => KnD.cleared_len hok)
        rw [if_pos (show (k.after x).cleared.last = -1 from rfl)] at this
        rw [if_neg hne, List.length_cons, List.length_cons]
        omega
      · next hf =>
        have := ih (k.after x) (d.drop n1) hok hl2 (by omega) (fun e => by omega)
        rw [if_neg (by omega)] at this
        rw [List.length_cons]
        split <;> omega
theorem greedy_tight {k : KnD} {d : List UInt8} (hk : k.Ok) (hl : ∀ b ∈ d, b.toNat < k.c) (hd : d.length ≤ 2000) : (greedy k d).length ≤ 3002 := by
  have h := greedyN_tight d.length k.cleared d (KnD.cleared_ok hk) hl (Nat.le_refl _) (fun _ => KnD.cleared_len hk)
  rw [if_pos (show k.cleared.last = -1 from rfl)] at h
  unfold greedy
  rw [List.length_cons]; omega

end Go.Proofs.Ytnbmkoapohjnmaa

/- Walks of the program's PackCodes, GreedyCodes, Compress. Conditions: what is known is valid and can be read. -/
namespace Go.Proofs.Ytnbmkoapohjnmaa
set_option linter.unusedVariables false
set_option linter.unusedSimpArgs false
open Go Go.RowKit

theorem packC_len10 (o : Int) : ∀ (xs ws : List Int), (∀ w ∈ ws, 0 ≤ w ∧ w ≤ 10) → (packC o xs ws).length ≤ 10 * ws.length
  | [], ws, _ => by simp [packC]
  | _ :: _, [], _ => by simp [packC]
  | x :: xs, w :: ws, h => by
    simp only [packC, List.length_append, codeL_length, List.length_cons]
    have h1 := h w (List.mem_cons_self ..)
    have h2 := packC_len10 o xs ws fun v hv => h v (List.mem_cons_of_mem _ hv)
    omega

set_option maxRecDepth 100000 in
set_option maxHeartbeats 1000000 in
theorem packBI_any (o : Int) (s : ByteArray) (w : World) (ho : o = 0 ∨ o = 1) (hb : isBits s.data.toList) (hs : s.size ≤ 32000) :
    Calls Try.prog 101  #[.int .i64 o, .string s] w (Same (.tuple #[.string (bs (packL o s.data.toList)), .bool true]) w) := by
  have cO := fun w => orderI_any o w
  have cV := fun w => bitsVI_any s w hb hs
  have cP := fun w => packI_any o s w ho hb (by omega)
  have ho1 : (o == 0 || o == 1) = true := by rcases ho with rfl | rfl <;> rfl
  rw [ho1] at cO
  clear hb ho ho1
  go_enter Try.func101, Try.ntmps101
  go_wp2_with (first | (go_at_call 78; (with_reducible refine (cO _).mono ?_); rintro e w' ⟨rfl, rfl⟩) | (go_at_call 128; (with_reducible refine (cV _).mono ?_); rintro e w' ⟨rfl, rfl⟩) | (go_at_call 129; (with_reducible refine (cP _).mono ?_); rintro e w3 ⟨rfl, U3⟩; have B3 := bcell U3; have Z3 := U3.size; (try simp at Z3); (try rw [Nat.add_one_le_iff] at Z3)))
  go_ret2
  exact ⟨rfl, U3⟩

theorem nil_row {w : World} {base : Nat} {e : TypeId} {size n c : Nat} {a : Option Addr} {xs : List Value} (h : w.ownsRow base e size (.slice a n c) n xs) : a = none → n = 0 ∧ c = 0 := fun ha => by
  subst ha
  rcases h.2 with ⟨e1, _⟩ | ⟨g, cp, cur, e1, _⟩
  · simpa using e1
  · simp at e1
theorem clipI_any (a : Option Addr) (n c : Nat) (w : World) (h : n ≤ c) (hc : c ≤ 9223372036854775807) (ha : a = none → n = 0 ∧ c = 0) :
    Calls Try.prog 97 #[.slice a n c] w (fun e w' => e = .returned (.slice a n n) ∧ w = w') := by
  cases a with
  | none =>
    obtain ⟨h1, h2⟩ := ha rfl
    subst h1; subst h2
    go_enter Try.func97, Try.ntmps97
    go_wp2
    go_ret
    exact ⟨rfl, rfl⟩
  | some ad =>
    clear ha
    go_enter Try.func97, Try.ntmps97
    go_wp2
    go_ret
    exact ⟨rfl, rfl⟩

def RelPc (o : Int) (codes ws : List Int) (a0 : World) (out i : Value) (wr : World) : Prop := ∃ n : Nat, i = .int .i64 n ∧ n ≤ codes.length ∧ ownU wr a0.heap.size out (packC o (codes.take n) (ws.take n)) ∧ Up a0 wr

set_option maxRecDepth 100000 in
set_option maxHeartbeats 8000000 in
theorem packCI_any (k : KnD) (v : Value) (lo : Nat) (codes : List Int) (vc : Value) (lc : Nat) (w : World) (h : k.Ok) (hv : k.last = -1 → k.base = k.ps.length) (hr : RdP lo w v k.ps) (hc : RdI lc w vc codes) (hl : codes.length ≤ 3100) (hT : (walkN k codes [] []).ok = true) (hD : (walkN k codes [] []).data.length ≤ 2000)
    (hw : (walkN k codes [] []).ws.length = codes.length) (hcb : ∀ x ∈ codes, 0 ≤ x ∧ x ≤ 1048576) (hwb : ∀ x ∈ (walkN k codes [] []).ws, 0 ≤ x ∧ x ≤ 10) :
    Calls Try.prog 73  #[kV k v, vc] w (Same (.tuple #[.string (bs (packL k.set.ord (packC k.set.ord codes (walkN k codes [] []).ws))), .bool true]) w) := by
  have cW := fun wx hr hc => walkI_any k v lo codes vc lc wx h hv hr hc hl hT hD
  have hrt := fun (wq : World) (hu : Up w wq) => hr.up hu
  have hct := fun (wq : World) (hu : Up w wq) => hc.up hu
  have ho := (setOk_bd h.set).1
  obtain ⟨a, cap, rfl, -, -, -, -⟩ := hr
  obtain ⟨ac, cc, rfl, hcc1, hcc2, -⟩ := id hc
  unfold maxLen at hcc2
  have hpl := packC_len10 k.set.ord codes _ hwb
  have hib := isBits_packC k.set.ord codes (walkN k codes [] []).ws
  clear hT hD
  generalize walkN k codes [] [] = T at *
  have hwl : T.ws.length ≤ 3100 := by omega
  have cP := fun wx => packBI_any k.set.ord (bs (packC k.set.ord codes T.ws)) wx ho (by rw [bs_data]; exact hib) (by rw [bs_size]; omega)
  rw [bs_data] at cP
  have HW := Lib.hid hw
  have HCB := Lib.hid hcb
  have HWB := Lib.hid hwb
  clear h hv hw hcb hwb hib
  simp only [kV] at *
  go_enter Try.func73, Try.ntmps73
  go_wp2_with (go_at_call 99; (with_reducible refine (cW _ (hrt _ (by (repeat (first | with_reducible exact Up.refl _ | with_reducible assumption | with_reducible refine Up.set ?_ (by first | exact Nat.le_refl _ | (simp only []; omega) | (simp; omega)) _ | with_reducible refine Up.alloc ?_ _ | with_reducible refine Up.drew ?_ | refine Up.trans ?_ (by with_reducible assumption))))) (hct _ (by (repeat (first | with_reducible exact Up.refl _ | with_reducible assumption | with_reducible refine Up.set ?_ (by first | exact Nat.le_refl _ | (simp only []; omega) | (simp; omega)) _ | with_reducible refine Up.alloc ?_ _ | with_reducible refine Up.drew ?_ | refine Up.trans ?_ (by with_reducible assumption)))))).mono ?_); rintro e w1 ⟨vw, rfl, ho1, U1⟩; obtain ⟨aw, cw, rfl⟩ := ownsRow_shape ho1; have B1 := bcell U1; have HO1 := Lib.hid ho1; clear ho1)
  have hU1 : Up w w1 := by (repeat (first | with_reducible exact Up.refl _ | with_reducible assumption | with_reducible refine Up.set ?_ (by first | exact Nat.le_refl _ | (simp only []; omega) | (simp; omega)) _ | with_reducible refine Up.alloc ?_ _ | with_reducible refine Up.drew ?_ | refine Up.trans ?_ (by with_reducible assumption)))
  have HK1 : KnAt w.heap.size k (.slice a k.ps.length cap) w1 := box_up U1 (MapKept.heap_alloc w _).1
  have HK := Lib.hid HK1
  clear hrt HK1 U1 B1 cW
  go_loopw [9, 23] (fun out i wr => RelPc k.set.ord codes T.ws w1 out i wr) (fun _ i _ => codes.length - (intOf i).toNat)
  case atStart => exact ⟨0, rfl, Nat.zero_le _, World.ownsRow_nil _ _ _ _, Up.refl _⟩
  case round =>
    obtain ⟨n, rfl, hle, hown, hup⟩ := hrel
    have hdl : (packC k.set.ord (codes.take n) (T.ws.take n)).length ≤ 131072 := by
      have := packC_len10 k.set.ord (codes.take n) (T.ws.take n) (fun x hx => HWB.out x (List.mem_of_mem_take hx))
      rw [List.length_take] at this
      omega
    obtain ⟨-, r0, r1, r2, r3, r4, r5⟩ := (HK.out.up hup).cells
    obtain ⟨ad, cd, rfl⟩ := ownsRow_shape hown
    have HOW := Lib.hid hown
    have HUP := Lib.hid hup
    by_cases hlt : n < codes.length
    · have hlt2 : n < T.ws.length := by have := HW.out; omega
      obtain ⟨bc, oc, rfl, hbc1, hbc2, -, -, -, -⟩ := RdI.at (hct _ (hU1.trans hup)) hlt
      obtain ⟨bw, ow, rfl, hbw1, hbw2, -, hbw4, hbw5, -⟩ := RdI.at (RdI.of_own (ownsRow_up HO1.out hup)) hlt2
      have hb := HCB.out _ (List.getElem_mem hlt)
      have hb2 := HWB.out _ (List.getElem_mem hlt2)
      obtain ⟨xn, hxn⟩ := Int.eq_ofNat_of_zero_le hb.1
      obtain ⟨wn, hwn⟩ := Int.eq_ofNat_of_zero_le hb2.1
      have cB := fun wq hu hown => bitsI_any w1 k.set.ord xn wn (.slice ad (packC k.set.ord (codes.take n) (T.ws.take n)).length cd) (packC k.set.ord (codes.take n) (T.ws.take n)) wq ho (by omega) (by omega) (by omega) hu hown
      have HS : Hid (packC k.set.ord (codes.take (n + 1)) (T.ws.take (n + 1)) = packC k.set.ord (codes.take n) (T.ws.take n) ++ codeL k.set.ord xn wn) := by
        unfold Hid
        rw [packC_take k.set.ord HW.out.symm hlt, hxn, hwn]; rfl
      rw [hxn] at hbc2
      rw [hwn] at hbw2
      unfold maxLen at hbw5
      generalize packC k.set.ord (codes.take n) (T.ws.take n) = dn at *
      clear hb hb2 hxn hwn hown hup
      go_wp2
      refine wp_region_upR 9 (by kernel_rfl) (by kernel_rfl) ?_
      simp only [List.take, List.drop]
      repeat (refine wpUp_step (fun K hK => ?_); go_simp; (try simp only [↓IntWalk.iteOmega]); first
        | (refine hK _ _ ?_; clear hK K)
        | (apply stepU_c
           · intro wq hwq; (have hbq := bcell hwq; (repeat (first | refine fills_no (by rfl) ?_ | refine fills_yes (by rfl) (fun vq hvq => ?_))); simp only [List.filter_nil, fills]; unfold upAt; (try ((obtain ⟨-, r0, r1, r2, r3, r4, r5⟩ := (HK.out.up (HUP.out.trans hwq)).cells; have hbw3 := (hwq.cell (p := ⟨bw, ow + n, none⟩) hbw1).trans hbw2))); go_simp; (try go_bits); (try simp only [↓IntWalk.iteOmega]); (try (rw [dif_pos (by omega)]; go_simp; try go_bits)); first | exact upOut_value)
           go_simp; refine hK _ _ ?_; clear hK K))
      refine wpUp_nil (fun wq hwq => ?_)
      simp only [fills]
      go_wp2_with fail
      with_reducible refine (cB _ (HUP.out.trans hwq) (ownsRow_up HOW.out hwq)).mono ?_
      rintro e w5 ⟨v5, rfl, ho5, hU5⟩
      obtain ⟨a5, c5, rfl⟩ := ownsRow_shape (ownsRow_n2 (n' := dn.length + (codeL k.set.ord xn wn).length) ho5 (by simp))
      have HO5 := Lib.hid ho5
      clear ho5
      go_wp2
      go_roundw
      case rel => exact ⟨n + 1, by go_num, by omega, by rw [HS.out]; exact HO5.out, hU5⟩
      case measure => simp [intOf]; omega
    · have e : n = codes.length := by omega
      subst e
      have ht1 : codes.take codes.length = codes := List.take_length
      have ht2 : T.ws.take codes.length = T.ws := by rw [← HW.out]; exact List.take_length
      rw [ht1, ht2] at hown hdl ⊢
      have cv := conv_any hown rfl
      clear hown ht1 ht2 HOW
      generalize packC k.set.ord codes T.ws = dn at *
      go_wp2_with ((go_at_call 101; (with_reducible refine (cP _).mono ?_); rintro e w5 ⟨rfl, U5⟩; have B5 := bcell U5; have Z5 := U5.size; (try simp at Z5); (try rw [Nat.add_one_le_iff] at Z5)))
      go_ret2
      exact ⟨rfl, hU1.trans (hup.trans U5)⟩

/-- What GreedyCodes gives. -/
def GcPost (l : List Int) (w : World) (e : Ending) (w' : World) : Prop := ∃ v, e = .returned (.tuple #[v, .bool true]) ∧ RdI 0 w' v l ∧ Up w w'

set_option maxRecDepth 100000 in
set_option maxHeartbeats 4000000 in
theorem gcodesI_any (k : KnD) (v : Value) (lo : Nat) (d : ByteArray) (w : World) (h : k.Ok) (hv : k.last = -1 → k.base = k.ps.length) (hr : RdP lo w v k.ps) (hd : d.size ≤ 1073741824) :
    Calls Try.prog 72  #[kV k v, .string d] w (fun e w' => if fitsB k.set d.data.toList then GcPost (greedy k d.data.toList) w e w' else Same (.tuple #[.slice none 0 0, .bool false]) w e w') := by
  have cV := fun wx hr => kvI_any k v lo wx h hv hr
  obtain ⟨-, hlb, -, -⟩ := setOk_bd h.set
  have cF := fun wx => fitsI_any k.set d wx (by omega) hd
  have hrt := fun (wq : World) (hu : Up w wq) => hr.up hu
  have hlen := ba_len d
  cases hf : fitsB k.set d.data.toList
  · rw [hf] at cF
    simp only [Bool.false_eq_true, if_false]
    obtain ⟨a, cap, rfl, -, -, -, -⟩ := hr
    clear h hv hf
    simp only [kV] at *
    go_enter Try.func72, Try.ntmps72
    go_wp2_with (first | (go_at_call 65; (with_reducible refine (cV _ (hrt _ (by (repeat (first | with_reducible exact Up.refl _ | with_reducible assumption | with_reducible refine Up.set ?_ (by first | exact Nat.le_refl _ | (simp only []; omega) | (simp; omega)) _ | with_reducible refine Up.alloc ?_ _ | with_reducible refine Up.drew ?_ | refine Up.trans ?_ (by with_reducible assumption)))))).mono ?_); rintro e w1 ⟨rfl, U1⟩; have B1 := bcell U1; have Z1 := U1.size; (try simp at Z1); (try rw [Nat.add_one_le_iff] at Z1)) | (go_at_call 52; (with_reducible refine (cF _).mono ?_); rintro e w2 ⟨rfl, U2⟩; have B2 := bcell U2; have Z2 := U2.size; (try simp at Z2); (try rw [Nat.add_one_le_iff] at Z2)))
    go_ret2
    refine ⟨rfl, ?_⟩
    (repeat (first | with_reducible exact Up.refl _ | with_reducible assumption | with_reducible refine Up.set ?_ (by first | exact Nat.le_refl _ | (simp only []; omega) | (simp; omega)) _ | with_reducible refine Up.alloc ?_ _ | with_reducible refine Up.drew ?_ | refine Up.trans ?_ (by with_reducible assumption)))
  · rw [hf] at cF
    simp only [if_true]
    obtain ⟨-, h2, h3⟩ := fitsB_lits hf
    have cG := fun wx hr => greedy_any k v lo d wx h hr (by omega) h3
    obtain ⟨a, cap, rfl, -, -, -, -⟩ := hr
    clear h hv hf h3
    generalize greedy k d.data.toList = codes at *
    simp only [kV] at *
    go_enter Try.func72, Try.ntmps72
    go_wp2_with (first | (go_at_call 65; (with_reducible refine (cV _ (hrt _ (by (repeat (first | with_reducible exact Up.refl _ | with_reducible assumption | with_reducible refine Up.set ?_ (by first | exact Nat.le_refl _ | (simp only []; omega) | (simp; omega)) _ | with_reducible refine Up.alloc ?_ _ | with_reducible refine Up.drew ?_ | refine Up.trans ?_ (by with_reducible assumption)))))).mono ?_); rintro e w1 ⟨rfl, U1⟩; have B1 := bcell U1; have Z1 := U1.size; (try simp at Z1); (try rw [Nat.add_one_le_iff] at Z1)) | (go_at_call 52; (with_reducible refine (cF _).mono ?_); rintro e w2 ⟨rfl, U2⟩; have B2 := bcell U2; have Z2 := U2.size; (try simp at Z2); (try rw [Nat.add_one_le_iff] at Z2)) | (go_at_call 98; (with_reducible refine (cG _ (hrt _ (by (repeat (first | with_reducible exact Up.refl _ | with_reducible assumption | with_reducible refine Up.set ?_ (by first | exact Nat.le_refl _ | (simp only []; omega) | (simp; omega)) _ | with_reducible refine Up.alloc ?_ _ | with_reducible refine Up.drew ?_ | refine Up.trans ?_ (by with_reducible assumption)))))).mono ?_); rintro e w3 ⟨v3, rfl, ho3, U3⟩; have hrd3 := RdI.of_own ho3; obtain ⟨a3, c3, rfl⟩ := ownsRow_shape ho3; have hcp3 := ownsRow_cap ho3; have hn3 := nil_row ho3; have HRD := Lib.hid hrd3; clear hrd3 ho3) | (go_at_call 97; (with_reducible refine (clipI_any _ _ _ _ hcp3.1 hcp3.2 hn3).mono ?_); rintro e w' ⟨rfl, rfl⟩))
    go_ret2
    refine ⟨_, rfl, ?_, by (repeat (first | with_reducible exact Up.refl _ | with_reducible assumption | with_reducible refine Up.set ?_ (by first | exact Nat.le_refl _ | (simp only []; omega) | (simp; omega)) _ | with_reducible refine Up.alloc ?_ _ | with_reducible refine Up.drew ?_ | refine Up.trans ?_ (by with_reducible assumption)))⟩
    obtain ⟨a', cap', e1, e2, e3, e4⟩ := HRD.out
    cases e1
    exact ⟨_, _, rfl, Nat.le_refl _, by omega, fun hp => by
      obtain ⟨b, off, f1, f2, f3, f4⟩ := e4 hp
      exact ⟨b, off, f1, Nat.zero_le _, f3, f4⟩⟩

set_option maxRecDepth 100000 in
set_option maxHeartbeats 4000000 in
theorem compI_any (k : KnD) (v : Value) (lo : Nat) (d : ByteArray) (w : World) (h : k.Ok) (hv : k.last = -1 → k.base = k.ps.length) (hr : RdP lo w v k.ps) (hd : d.size ≤ 1073741824) :
    Calls Try.prog 60  #[kV k v, .string d] w (Same (optS (compO k d.data.toList)) w) := by
  have cG := fun wx hr => gcodesI_any k v lo d wx h hv hr hd
  have hrt := fun (wq : World) (hu : Up w wq) => hr.up hu
  have hlen := ba_len d
  unfold compO optS
  cases hf : fitsB k.set d.data.toList
  · rw [hf] at cG
    simp only [Bool.false_eq_true, if_false] at cG ⊢
    obtain ⟨a, cap, rfl, -, -, -, -⟩ := hr
    clear h hv hf
    simp only [kV] at *
    go_enter Try.func60, Try.ntmps60
    go_wp2_with ((go_at_call 72; (with_reducible refine (cG _ (hrt _ (by (repeat (first | with_reducible exact Up.refl _ | with_reducible assumption | with_reducible refine Up.set ?_ (by first | exact Nat.le_refl _ | (simp only []; omega) | (simp; omega)) _ | with_reducible refine Up.alloc ?_ _ | with_reducible refine Up.drew ?_ | refine Up.trans ?_ (by with_reducible assumption)))))).mono ?_); rintro e w1 ⟨rfl, U1⟩; have B1 := bcell U1; have Z1 := U1.size; (try simp at Z1); (try rw [Nat.add_one_le_iff] at Z1)))
    go_ret2
    refine ⟨rfl, ?_⟩
    (repeat (first | with_reducible exact Up.refl _ | with_reducible assumption | with_reducible refine Up.set ?_ (by first | exact Nat.le_refl _ | (simp only []; omega) | (simp; omega)) _ | with_reducible refine Up.alloc ?_ _ | with_reducible refine Up.drew ?_ | refine Up.trans ?_ (by with_reducible assumption)))
  · rw [hf] at cG
    simp only [if_true] at cG ⊢
    obtain ⟨-, h2, h3⟩ := fitsB_lits hf
    obtain ⟨g1, g2, g3, g4, g5⟩ := walk_greedy h h3 (by omega)
    have g6 := greedy_tight h h3 (by omega)
    have cP := fun wx vc hr hc => packCI_any k v lo (greedy k d.data.toList) vc 0 wx h hv hr hc (by omega) g3 (by rw [g2]; omega) g1 (fun x hx => ⟨(g5 x hx).1, by have := (g5 x hx).2; omega⟩) (fun x hx => ⟨by have := (g4 x hx).1; omega, (g4 x hx).2⟩)
    have HE : Hid (compL k d.data.toList = packL k.set.ord (packC k.set.ord (greedy k d.data.toList) (walkN k (greedy k d.data.toList) [] []).ws)) := rfl
    simp only [Option.getD_some, Option.isSome_some]
    rw [HE.out]
    generalize packL k.set.ord (packC k.set.ord (greedy k d.data.toList) (walkN k (greedy k d.data.toList) [] []).ws) = cl at *
    clear g1 g2 g3 g4 g5 g6 HE hf h3
    generalize greedy k d.data.toList = codes at *
    obtain ⟨a, cap, rfl, -, -, -, -⟩ := hr
    clear h hv
    simp only [kV] at *
    go_enter Try.func60, Try.ntmps60
    go_wp2_with (first | (go_at_call 72; (with_reducible refine (cG _ (hrt _ (by (repeat (first | with_reducible exact Up.refl _ | with_reducible assumption | with_reducible refine Up.set ?_ (by first | exact Nat.le_refl _ | (simp only []; omega) | (simp; omega)) _ | with_reducible refine Up.alloc ?_ _ | with_reducible refine Up.drew ?_ | refine Up.trans ?_ (by with_reducible assumption)))))).mono ?_); rintro e w1 ⟨v1, rfl, hr1, U1⟩; have B1 := bcell U1; have HR1 := Lib.hid hr1; obtain ⟨a1, c1, rfl, -, -, -⟩ := hr1) | (go_at_call 73; (with_reducible refine (cP _ _ (hrt _ (by (repeat (first | with_reducible exact Up.refl _ | with_reducible assumption | with_reducible refine Up.set ?_ (by first | exact Nat.le_refl _ | (simp only []; omega) | (simp; omega)) _ | with_reducible refine Up.alloc ?_ _ | with_reducible refine Up.drew ?_ | refine Up.trans ?_ (by with_reducible assumption))))) HR1.out).mono ?_); rintro e w2 ⟨rfl, U2⟩; have B2 := bcell U2; have Z2 := U2.size; (try simp at Z2); (try rw [Nat.add_one_le_iff] at Z2)))
    go_ret2
    refine ⟨rfl, ?_⟩
    (repeat (first | with_reducible exact Up.refl _ | with_reducible assumption | with_reducible refine Up.set ?_ (by first | exact Nat.le_refl _ | (simp only []; omega) | (simp; omega)) _ | with_reducible refine Up.alloc ?_ _ | with_reducible refine Up.drew ?_ | refine Up.trans ?_ (by with_reducible assumption)))

end Go.Proofs.Ytnbmkoapohjnmaa

/- Walks of the program's allFit, bestOf, BestDict, BestSample. Conditions: the strings can be read and are no longer than 2^20 bytes. -/
namespace Go.Proofs.Ytnbmkoapohjnmaa
set_option linter.unusedVariables false
set_option linter.unusedSimpArgs false
open Go Go.RowKit

set_option maxRecDepth 100000 in
set_option maxHeartbeats 4000000 in
theorem allFitI_any (s : SetD) (l : List ByteArray) (v : Value) (w : World) (hli : -9223372036854775808 ≤ s.lit ∧ s.lit ≤ 9223372036854775807) (h : ArgS w v l) (hl : l.length ≤ 1048576) (hs : ∀ t ∈ l, t.size ≤ 1048576) :
    Calls Try.prog 47  #[setV s, v] w (Same (.bool (allFitB s l)) w) := by
  have hat := h
  obtain ⟨a, cap, rfl, hm, hms, -⟩ := h
  obtain ⟨o, li, mo⟩ := s
  simp only [setV] at *
  by_cases h0 : l.length < 1
  · have HN : Hid (allFitB ⟨o, li, mo⟩ l = false) := by
      unfold Hid allFitB; rw [decide_eq_false (by omega)]; rfl
    go_enter Try.func47, Try.ntmps47
    go_wp2
    go_ret
    refine ⟨ret_bool HN.out.symm, ?_⟩
    (repeat (first | with_reducible exact Up.refl _ | with_reducible assumption | with_reducible refine Up.set ?_ (by first | exact Nat.le_refl _ | (simp only []; omega) | (simp; omega)) _ | with_reducible refine Up.alloc ?_ _ | with_reducible refine Up.drew ?_ | refine Up.trans ?_ (by with_reducible assumption)))
  · by_cases h8 : 8 < l.length
    · have HN : Hid (allFitB ⟨o, li, mo⟩ l = false) := by
        unfold Hid allFitB; rw [decide_eq_false (show ¬ l.length ≤ 8 by omega), Bool.and_false]; rfl
      go_enter Try.func47, Try.ntmps47
      go_wp2
      go_ret
      refine ⟨ret_bool HN.out.symm, ?_⟩
      (repeat (first | with_reducible exact Up.refl _ | with_reducible assumption | with_reducible refine Up.set ?_ (by first | exact Nat.le_refl _ | (simp only []; omega) | (simp; omega)) _ | with_reducible refine Up.alloc ?_ _ | with_reducible refine Up.drew ?_ | refine Up.trans ?_ (by with_reducible assumption)))
    · go_enter Try.func47, Try.ntmps47
      go_wp2
      go_loopw [17] (fun i wr => RelFi ⟨o, li, mo⟩ l w i wr) (fun i _ => l.length - (intOf i).toNat)
      case atStart => exact ⟨0, rfl, Nat.zero_le _, fun q h1 h2 => absurd h2 (Nat.not_lt_zero _), (MapKept.heap_alloc w _).1, by (repeat (first | with_reducible exact Up.refl _ | with_reducible assumption | with_reducible refine Up.set ?_ (by first | exact Nat.le_refl _ | (simp only []; omega) | (simp; omega)) _ | with_reducible refine Up.alloc ?_ _ | with_reducible refine Up.drew ?_ | refine Up.trans ?_ (by with_reducible assumption)))⟩
      case round =>
        obtain ⟨j, rfl, hj, hall, hset, hup⟩ := hrel
        obtain ⟨hb0, s0, s1, s2⟩ := hset.cells
        have HA := Lib.hid hall
        have HSE := Lib.hid hset
        clear hall hset
        by_cases hlt : j < l.length
        · obtain ⟨b, off, rfl, hbl, hx, -, hnc, hcm⟩ := (hat.up hup).at hlt
          have hsj := hs _ (List.getElem_mem hlt)
          have cF := fun wx => fitsI_any ⟨o, li, mo⟩ l[j] wx hli (by omega)
          unfold maxLen at hcm
          cases hf : fitsB ⟨o, li, mo⟩ (l[j]).data.toList
          · rw [hf] at cF
            have HN : Hid (allFitB ⟨o, li, mo⟩ l = false) := allFit_no hlt hf
            clear hf
            generalize l[j] = t at *
            simp only [setV] at cF
            go_wp2_with ((go_at_call 52; (with_reducible refine (cF _).mono ?_); rintro e w3 ⟨rfl, U3⟩; have B3 := bcell U3; have Z3 := U3.size; (try simp at Z3); (try rw [Nat.add_one_le_iff] at Z3)))
            go_ret
            refine ⟨ret_bool HN.out.symm, ?_⟩
            (repeat (first | with_reducible exact Up.refl _ | with_reducible assumption | with_reducible refine Up.set ?_ (by first | exact Nat.le_refl _ | (simp only []; omega) | (simp; omega)) _ | with_reducible refine Up.alloc ?_ _ | with_reducible refine Up.drew ?_ | refine Up.trans ?_ (by with_reducible assumption)))
          · rw [hf] at cF
            have HN : Hid (∀ q (h : q < l.length), q < j + 1 → fitsB ⟨o, li, mo⟩ (l[q]).data.toList = true) := fun q h1 h2 => by
              rcases Nat.lt_or_ge q j with h3 | h3
              · exact HA.out q h1 h3
              · have : q = j := by omega
                subst this; exact hf
            clear hf
            generalize l[j] = t at *
            simp only [setV] at cF
            go_wp2_with ((go_at_call 52; (with_reducible refine (cF _).mono ?_); rintro e w3 ⟨rfl, U3⟩; have B3 := bcell U3; have Z3 := U3.size; (try simp at Z3); (try rw [Nat.add_one_le_iff] at Z3)))
            go_roundw
            case rel => exact ⟨j + 1, by go_num, by omega, HN.out, box_up U3 HSE.out, by (repeat (first | with_reducible exact Up.refl _ | with_reducible assumption | with_reducible refine Up.set ?_ (by first | exact Nat.le_refl _ | (simp only []; omega) | (simp; omega)) _ | with_reducible refine Up.alloc ?_ _ | with_reducible refine Up.drew ?_ | refine Up.trans ?_ (by with_reducible assumption)))⟩
            case measure => simp [intOf]; omega
        · have e : j = l.length := by omega
          subst e
          have HN : Hid (allFitB ⟨o, li, mo⟩ l = true) := allFit_iff.2 ⟨by omega, by omega, fun t ht => by
            obtain ⟨q, hq, rfl⟩ := List.mem_iff_getElem.1 ht
            exact HA.out q hq hq⟩
          go_wp2
          go_ret
          refine ⟨ret_bool HN.out.symm, ?_⟩
          (repeat (first | with_reducible exact Up.refl _ | with_reducible assumption | with_reducible refine Up.set ?_ (by first | exact Nat.le_refl _ | (simp only []; omega) | (simp; omega)) _ | with_reducible refine Up.alloc ?_ _ | with_reducible refine Up.drew ?_ | refine Up.trans ?_ (by with_reducible assumption)))

theorem szW_fit {s : SetD} {dict d : ByteArray} (h1 : fitsB s dict.data.toList = true) (h2 : fitsB s d.data.toList = true) : compO (learnK (startK s) dict.data.toList) d.data.toList = some (compL (learnK (startK s) dict.data.toList) d.data.toList) ∧ szW s dict d = (compL (learnK (startK s) dict.data.toList) d.data.toList).length := by
  have h3 : compO (learnK (startK s) dict.data.toList) d.data.toList = some (compL (learnK (startK s) dict.data.toList) d.data.toList) := by
    unfold compO
    rw [if_pos (show fitsB (learnK (startK s) dict.data.toList).set d.data.toList = true from h2)]
  refine ⟨h3, ?_⟩
  unfold szW compW
  rw [if_pos h1, h3]; rfl
/-- The outer loop of bestOf; the inner one. -/
def RelBo (f : Nat → Nat) (n : Nat) (s : SetD) (w : World) (b z i : Value) (wr : World) : Prop := ∃ j : Nat, i = .int .i64 j ∧ j ≤ n ∧ ((j = 0 ∧ b = .int .i64 (-1) ∧ z = .int .i64 0) ∨ ∃ q : Nat, j = q + 1 ∧ b = .int .i64 (bestI f q : Nat) ∧ z = .int .i64 (f (bestI f q) : Nat)) ∧ SetAt w.heap.size s.ord s.lit s.most wr ∧ Up w wr
def RelBi (s : SetD) (dict : ByteArray) (ts : List ByteArray) (kk : KnD) (vk : Value) (w1 : World) (z a i : Value) (wr : World) : Prop := ∃ j : Nat, i = .int .i64 j ∧ j ≤ ts.length ∧ z = .int .i64 ((((ts.take j).map (szW s dict)).sum : Nat) : Int) ∧ a = .bool true ∧ KnAt w1.heap.size kk vk wr ∧ Up w1 wr

set_option maxRecDepth 100000 in
set_option maxHeartbeats 8000000 in
theorem bestOf_any (s : SetD) (ds ts : List ByteArray) (vd vt : Value) (w : World) (hli : -9223372036854775808 ≤ s.lit ∧ s.lit ≤ 9223372036854775807) (hd : ArgS w vd ds) (ht : ArgS w vt ts) (f1 : ∀ x ∈ ds, fitsB s x.data.toList = true) (f2 : ∀ x ∈ ts, fitsB s x.data.toList = true) (h1 : 1 ≤ ds.length) (h8 : ds.length ≤ 8) (h8' : ts.length ≤ 8)
    (hsd : ∀ t ∈ ds, t.size ≤ 1048576) (hst : ∀ t ∈ ts, t.size ≤ 1048576) :
    Calls Try.prog 53  #[setV s, vd, vt] w (Same (.int .i64 (bestI (fun i => totW s (ds.getD i ByteArray.empty) ts) (ds.length - 1) : Nat)) w) := by
  have hdt := hd
  have htt := ht
  obtain ⟨a, cap, rfl, hm, hms, -⟩ := hd
  obtain ⟨at', cat, rfl, hmt, hmst, -⟩ := ht
  have HF1 := Lib.hid f1
  have HF2 := Lib.hid f2
  clear f1 f2
  obtain ⟨F, HFD⟩ : ∃ F : Nat → Nat, Hid (F = fun i => totW s (ds.getD i ByteArray.empty) ts) := ⟨_, rfl⟩
  rw [← HFD.out]
  simp only [setV] at *
  go_enter Try.func53, Try.ntmps53
  go_wp2
  go_loopw [7, 8, 21] (fun b z i wr => RelBo F ds.length s w b z i wr) (fun _ _ i _ => ds.length - (intOf i).toNat)
  case atStart => exact ⟨0, rfl, Nat.zero_le _, .inl ⟨rfl, rfl, rfl⟩, (MapKept.heap_alloc w _).1, by (repeat (first | with_reducible exact Up.refl _ | with_reducible assumption | with_reducible refine Up.set ?_ (by first | exact Nat.le_refl _ | (simp only []; omega) | (simp; omega)) _ | with_reducible refine Up.alloc ?_ _ | with_reducible refine Up.drew ?_ | refine Up.trans ?_ (by with_reducible assumption)))⟩
  case round =>
    obtain ⟨j, rfl, hj, hbz, hset, hup⟩ := hrel
    obtain ⟨hb0, s0, s1, s2⟩ := hset.cells
    have HSE := Lib.hid hset
    have HBZ := Lib.hid hbz
    clear hset hbz
    by_cases hlt : j < ds.length
    · obtain ⟨b, off, rfl, hbl, hx, -, hnc, hcm⟩ := (hdt.up hup).at hlt
      have hsj := hsd _ (List.getElem_mem hlt)
      have hfj := HF1.out _ (List.getElem_mem hlt)
      have cS := fun wx => startWI_any s ds[j] wx hli (by omega)
      rw [hfj] at cS
      simp only [if_true] at cS
      obtain ⟨g1, g2, g3⟩ := fitsB_lits hfj
      have hok : (learnK (startK s) (ds[j]).data.toList).Ok := learnK_ok (startK_ok g1) g3
      have cC := fun (wx : World) (v : Value) (d : ByteArray) (hr : RdP 0 wx v (learnK (startK s) (ds[j]'hlt).data.toList).ps) (hd : d.size ≤ 1073741824) => compI_any (learnK (startK s) (ds[j]).data.toList) v 0 d wx hok (fun _ => rfl) hr hd
      have HSZ : Hid (∀ d : ByteArray, fitsB s d.data.toList = true → compO (learnK (startK s) (ds[j]).data.toList) d.data.toList = some (compL (learnK (startK s) (ds[j]).data.toList) d.data.toList) ∧ szW s ds[j] d = (compL (learnK (startK s) (ds[j]).data.toList) d.data.toList).length) := fun d hd => szW_fit hfj hd
      have HFJ : Hid (F j = totW s ds[j] ts) := by unfold Hid; rw [HFD.out]; show totW s (ds.getD j ByteArray.empty) ts = _; rw [getD_lt hlt]
      have hFb : F j ≤ 80000 := by rw [HFJ.out]; have := sum_bd (szW s ds[j]) (szW_bd s ds[j]) ts; unfold totW; omega
      unfold maxLen at hcm
      clear g1 g2 g3 hok hfj
      generalize learnK (startK s) (ds[j]).data.toList = kk at *
      generalize ds[j] = dict at *
      simp only [setV, kV] at cS cC
      go_wp2_with (go_at_call 31; (with_reducible refine (cS _).mono ?_); rintro e w1 ⟨v1, rfl, ho1, U1⟩; obtain ⟨a1, c1, rfl⟩ := ownsRow_shape ho1; have HO1 := Lib.hid ho1; clear ho1)
      go_loopw [13, 14, 34] (fun z a i wr => RelBi s dict ts kk (.slice a1 kk.ps.length c1) w1 z a i wr) (fun _ _ i _ => ts.length - (intOf i).toNat)
      case atStart => exact ⟨0, rfl, Nat.zero_le _, rfl, rfl, (MapKept.heap_alloc w1 _).1, by (repeat (first | with_reducible exact Up.refl _ | with_reducible assumption | with_reducible refine Up.set ?_ (by first | exact Nat.le_refl _ | (simp only []; omega) | (simp; omega)) _ | with_reducible refine Up.alloc ?_ _ | with_reducible refine Up.drew ?_ | refine Up.trans ?_ (by with_reducible assumption)))⟩
      case round =>
        obtain ⟨n, rfl, hn, rfl, rfl, hkn, hup2⟩ := hrel
        obtain ⟨hk0, r0, r1, r2, r3, r4, r5⟩ := hkn.cells
        have HKN := Lib.hid hkn
        clear hkn
        have hsb := sum_bd (szW s dict) (szW_bd s dict) (ts.take n)
        rw [List.length_take] at hsb
        have hsb2 : ((ts.take n).map (szW s dict)).sum ≤ 80000 := by omega
        clear hsb
        by_cases hlt2 : n < ts.length
        · obtain ⟨b2, off2, rfl, hbl2, hx2, -, hnc2, hcm2⟩ := (htt.up ((hup.trans U1).trans hup2)).at hlt2
          have hsn := hst _ (List.getElem_mem hlt2)
          obtain ⟨z1, z2⟩ := HSZ.out _ (HF2.out _ (List.getElem_mem hlt2))
          have cC2 := fun wx hr => cC wx (.slice a1 kk.ps.length c1) ts[n] hr (by omega)
          rw [z1] at cC2
          have hz := szW_bd s dict ts[n]
          rw [z2] at hz
          have HS : Hid ((((ts.take (n + 1)).map (szW s dict)).sum : Nat) = ((ts.take n).map (szW s dict)).sum + (compL kk (ts[n]).data.toList).length) := by unfold Hid; rw [sum_take (szW s dict) hlt2, z2]
          unfold maxLen at hcm2
          clear z1 z2
          generalize compL kk (ts[n]).data.toList = cl at *
          generalize ts[n] = t at *
          have hcz := bs_size cl
          generalize ((ts.take n).map (szW s dict)).sum = q at *
          unfold optS at cC2
          simp only [Option.getD_some, Option.isSome_some] at cC2
          go_wp2_with (go_at_call 60; (with_reducible refine (cC2 _ (((RdP.of_own HO1.out).up hup2).low (Nat.zero_le _))).mono ?_); rintro e w3 ⟨rfl, U3⟩)
          go_roundw
          case rel => exact ⟨n + 1, by go_num, by omega, by (rw [HS.out]; try go_num), rfl, box_up U3 HKN.out, by (repeat (first | with_reducible exact Up.refl _ | with_reducible assumption | with_reducible refine Up.set ?_ (by first | exact Nat.le_refl _ | (simp only []; omega) | (simp; omega)) _ | with_reducible refine Up.alloc ?_ _ | with_reducible refine Up.drew ?_ | refine Up.trans ?_ (by with_reducible assumption)))⟩
          case measure => simp [intOf]; omega
        · have e : n = ts.length := by omega
          subst e
          have HT : Hid (((ts.take ts.length).map (szW s dict)).sum = F j) := by unfold Hid; rw [HFJ.out]; unfold totW; rw [List.take_length]
          rw [HT.out] at hsb2 ⊢
          have hUU : Up w wr := by (repeat (first | with_reducible exact Up.refl _ | with_reducible assumption | with_reducible refine Up.set ?_ (by first | exact Nat.le_refl _ | (simp only []; omega) | (simp; omega)) _ | with_reducible refine Up.alloc ?_ _ | with_reducible refine Up.drew ?_ | refine Up.trans ?_ (by with_reducible assumption)))
          have HSE2 := Lib.hid (box_up (U1.trans hup2) HSE.out)
          clear hup2 U1 cC HKN HT
          rcases HBZ.out with ⟨rfl, rfl, rfl⟩ | ⟨q, rfl, rfl, rfl⟩
          · go_wp2
            go_roundw
            case rel => exact ⟨1, by go_num, by omega, .inr ⟨0, rfl, rfl, rfl⟩, HSE2.out, hUU⟩
            case measure => simp [intOf]; omega
          · have hbn : ¬ ((bestI F q : Nat) : Int) < 0 := by omega
            by_cases hc : F (q + 1) < F (bestI F q)
            · have HB : Hid (bestI F (q + 1) = q + 1) := if_pos hc
              go_wp2
              go_roundw
              case rel => exact ⟨q + 2, by go_num, by omega, .inr ⟨q + 1, rfl, by (rw [HB.out]; try go_num), by (rw [HB.out])⟩, HSE2.out, hUU⟩
              case measure => simp [intOf]; omega
            · have HB : Hid (bestI F (q + 1) = bestI F q) := if_neg hc
              go_wp2
              go_roundw
              case rel => exact ⟨q + 2, by go_num, by omega, .inr ⟨q + 1, rfl, by (rw [HB.out]), by (rw [HB.out])⟩, HSE2.out, hUU⟩
              case measure => simp [intOf]; omega
    · have e : j = ds.length := by omega
      rcases HBZ.out with ⟨hj0, -, -⟩ | ⟨q, hq, rfl, rfl⟩
      · omega
      · have HQ : Hid (q = ds.length - 1) := by unfold Hid; omega
        clear hq e
        go_wp2
        go_ret
        exact ⟨ret_int (by rw [← HQ.out]), hup⟩

end Go.Proofs.Ytnbmkoapohjnmaa

/- Walks of the program's BestDict and BestSample, and of the reference's BestSample. Conditions: the strings can be read and are no longer than 2^20 bytes. -/
namespace Go.Proofs.Ytnbmkoapohjnmaa
set_option linter.unusedVariables false
set_option linter.unusedSimpArgs false
open Go Go.RowKit

theorem argS_one (w : World) (d : ByteArray) (hd : d.size ≤ maxLen) : ArgS (w.alloc (.cells #[.string d] 9)) (.slice (some ⟨w.heap.size, 0, none⟩) 1 1) [d] :=
  ⟨_, _, rfl, by unfold maxLen; simp, fun s hs => by simp at hs; rw [hs]; exact hd, fun _ => ⟨_, 0, rfl, Nat.le_refl _, by unfold maxLen; omega, by simp, fun i s hi => by
    have : i = 0 := by
      have := (List.getElem?_eq_some_iff.1 hi).1
      simp at this; exact this
    subst this
    simp at hi
    subst hi
    simp⟩⟩

set_option maxRecDepth 100000 in
set_option maxHeartbeats 4000000 in
theorem bestDictI_any (s : SetD) (ds : List ByteArray) (v : Value) (d : ByteArray) (w : World) (hli : -9223372036854775808 ≤ s.lit ∧ s.lit ≤ 9223372036854775807) (h : ArgS w v ds) (hl : ds.length ≤ 1048576) (hs : ∀ t ∈ ds, t.size ≤ 1048576) (hd : d.size ≤ 1048576) :
    Calls Try.prog 25  #[setV s, v, .string d] w (Same (.int .i64 (bestV s ds [d] (fitsB s d.data.toList))) w) := by
  have cF := fun wx hr => allFitI_any s ds v wx hli hr hl hs
  have cD := fun wx => fitsI_any s d wx hli (by omega)
  have hrt := fun (wq : World) (hu : Up w wq) => h.up hu
  unfold bestV
  cases h1 : allFitB s ds
  · rw [h1] at cF
    simp only [Bool.false_and, Bool.false_eq_true, if_false]
    obtain ⟨a, cap, rfl, hm, hms, -⟩ := h
    clear h1
    simp only [setV] at *
    go_enter Try.func25, Try.ntmps25
    go_wp2_with ((go_at_call 47; (with_reducible refine (cF _ (hrt _ (by (repeat (first | with_reducible exact Up.refl _ | with_reducible assumption | with_reducible refine Up.set ?_ (by first | exact Nat.le_refl _ | (simp only []; omega) | (simp; omega)) _ | with_reducible refine Up.alloc ?_ _ | with_reducible refine Up.drew ?_ | refine Up.trans ?_ (by with_reducible assumption)))))).mono ?_); rintro e w1 ⟨rfl, U1⟩; have B1 := bcell U1; have Z1 := U1.size; (try simp at Z1); (try rw [Nat.add_one_le_iff] at Z1)))
    go_ret
    refine ⟨rfl, ?_⟩
    (repeat (first | with_reducible exact Up.refl _ | with_reducible assumption | with_reducible refine Up.set ?_ (by first | exact Nat.le_refl _ | (simp only []; omega) | (simp; omega)) _ | with_reducible refine Up.alloc ?_ _ | with_reducible refine Up.drew ?_ | refine Up.trans ?_ (by with_reducible assumption)))
  · rw [h1] at cF
    cases h2 : fitsB s d.data.toList
    · rw [h2] at cD
      simp only [Bool.true_and, Bool.false_eq_true, if_false]
      obtain ⟨a, cap, rfl, hm, hms, -⟩ := h
      clear h1 h2
      simp only [setV] at *
      go_enter Try.func25, Try.ntmps25
      go_wp2_with (first | ((go_at_call 47; (with_reducible refine (cF _ (hrt _ (by (repeat (first | with_reducible exact Up.refl _ | with_reducible assumption | with_reducible refine Up.set ?_ (by first | exact Nat.le_refl _ | (simp only []; omega) | (simp; omega)) _ | with_reducible refine Up.alloc ?_ _ | with_reducible refine Up.drew ?_ | refine Up.trans ?_ (by with_reducible assumption)))))).mono ?_); rintro e w1 ⟨rfl, U1⟩; have B1 := bcell U1; have Z1 := U1.size; (try simp at Z1); (try rw [Nat.add_one_le_iff] at Z1)); (try have Y1a : w.heap.size < w1.heap.size := (by omega)); (try have Y1b : w.heap.size + 1 < w1.heap.size := (by omega)); (try have Y1c : w.heap.size + 1 + 1 < w1.heap.size := (by omega)); (try have Y1d : w.heap.size + 1 + 1 + 1 < w1.heap.size := (by omega)); skip) | (go_at_call 52; (with_reducible refine (cD _).mono ?_); rintro e w2 ⟨rfl, U2⟩; have B2 := bcell U2; have Z2 := U2.size; (try simp at Z2); (try rw [Nat.add_one_le_iff] at Z2)))
      go_ret
      refine ⟨rfl, ?_⟩
      (repeat (first | with_reducible exact Up.refl _ | with_reducible assumption | with_reducible refine Up.set ?_ (by first | exact Nat.le_refl _ | (simp only []; omega) | (simp; omega)) _ | with_reducible refine Up.alloc ?_ _ | with_reducible refine Up.drew ?_ | refine Up.trans ?_ (by with_reducible assumption)))
    · rw [h2] at cD
      simp only [Bool.true_and, if_true]
      obtain ⟨l1, l2, l3⟩ := allFit_iff.1 h1
      have cB := fun wx vt hr ht => bestOf_any s ds [d] v vt wx hli hr ht l3 (fun x hx => by simp at hx; rw [hx]; exact h2) l1 l2 (by simp) hs (fun x hx => by simp at hx; rw [hx]; exact hd)
      generalize bestI (fun i => totW s (ds.getD i ByteArray.empty) [d]) (ds.length - 1) = r at *
      obtain ⟨a, cap, rfl, hm, hms, -⟩ := h
      have hdm : d.size ≤ maxLen := by unfold maxLen; omega
      clear h1 h2 l3
      simp only [setV] at *
      go_enter Try.func25, Try.ntmps25
      go_wp2_with (first | ((go_at_call 47; (with_reducible refine (cF _ (hrt _ (by (repeat (first | with_reducible exact Up.refl _ | with_reducible assumption | with_reducible refine Up.set ?_ (by first | exact Nat.le_refl _ | (simp only []; omega) | (simp; omega)) _ | with_reducible refine Up.alloc ?_ _ | with_reducible refine Up.drew ?_ | refine Up.trans ?_ (by with_reducible assumption)))))).mono ?_); rintro e w1 ⟨rfl, U1⟩; have B1 := bcell U1; have Z1 := U1.size; (try simp at Z1); (try rw [Nat.add_one_le_iff] at Z1)); (try have Y1a : w.heap.size < w1.heap.size := (by omega)); (try have Y1b : w.heap.size + 1 < w1.heap.size := (by omega)); (try have Y1c : w.heap.size + 1 + 1 < w1.heap.size := (by omega)); (try have Y1d : w.heap.size + 1 + 1 + 1 < w1.heap.size := (by omega)); skip) | ((go_at_call 52; (with_reducible refine (cD _).mono ?_); rintro e w2 ⟨rfl, U2⟩; have B2 := bcell U2; have Z2 := U2.size; (try simp at Z2); (try rw [Nat.add_one_le_iff] at Z2)); (try have Y2a : w.heap.size < w2.heap.size := (by omega)); (try have Y2b : w.heap.size + 1 < w2.heap.size := (by omega)); (try have Y2c : w.heap.size + 1 + 1 < w2.heap.size := (by omega)); (try have Y2d : w.heap.size + 1 + 1 + 1 < w2.heap.size := (by omega)); skip) | (go_at_call 53; (with_reducible refine (cB _ _ (hrt _ (by (repeat (first | with_reducible exact Up.refl _ | with_reducible assumption | with_reducible refine Up.set ?_ (by first | exact Nat.le_refl _ | (simp only []; omega) | (simp; omega)) _ | with_reducible refine Up.alloc ?_ _ | with_reducible refine Up.drew ?_ | refine Up.trans ?_ (by with_reducible assumption))))) (argS_one _ d hdm)).mono ?_); rintro e w3 ⟨rfl, U3⟩; have B3 := bcell U3; have Z3 := U3.size; (try simp at Z3); (try rw [Nat.add_one_le_iff] at Z3)))
      go_ret
      refine ⟨rfl, ?_⟩
      (repeat (first | with_reducible exact Up.refl _ | with_reducible assumption | with_reducible refine Up.set ?_ (by first | exact Nat.le_refl _ | (simp only []; omega) | (simp; omega)) _ | with_reducible refine Up.alloc ?_ _ | with_reducible refine Up.drew ?_ | refine Up.trans ?_ (by with_reducible assumption)))

set_option maxRecDepth 100000 in
set_option maxHeartbeats 4000000 in
theorem bestSampleI_any (s : SetD) (ds : List ByteArray) (v : Value) (w : World) (hli : -9223372036854775808 ≤ s.lit ∧ s.lit ≤ 9223372036854775807) (h : ArgS w v ds) (hl : ds.length ≤ 1048576) (hs : ∀ t ∈ ds, t.size ≤ 1048576) :
    Calls Try.prog 27  #[setV s, v] w (Same (.int .i64 (bestV s ds ds true)) w) := by
  have cF := fun wx hr => allFitI_any s ds v wx hli hr hl hs
  have hrt := fun (wq : World) (hu : Up w wq) => h.up hu
  unfold bestV
  cases h1 : allFitB s ds
  · rw [h1] at cF
    simp only [Bool.false_and, Bool.false_eq_true, if_false]
    obtain ⟨a, cap, rfl, hm, hms, -⟩ := h
    clear h1
    simp only [setV] at *
    go_enter Try.func27, Try.ntmps27
    go_wp2_with ((go_at_call 47; (with_reducible refine (cF _ (hrt _ (by (repeat (first | with_reducible exact Up.refl _ | with_reducible assumption | with_reducible refine Up.set ?_ (by first | exact Nat.le_refl _ | (simp only []; omega) | (simp; omega)) _ | with_reducible refine Up.alloc ?_ _ | with_reducible refine Up.drew ?_ | refine Up.trans ?_ (by with_reducible assumption)))))).mono ?_); rintro e w1 ⟨rfl, U1⟩; have B1 := bcell U1; have Z1 := U1.size; (try simp at Z1); (try rw [Nat.add_one_le_iff] at Z1)))
    go_ret
    refine ⟨rfl, ?_⟩
    (repeat (first | with_reducible exact Up.refl _ | with_reducible assumption | with_reducible refine Up.set ?_ (by first | exact Nat.le_refl _ | (simp only []; omega) | (simp; omega)) _ | with_reducible refine Up.alloc ?_ _ | with_reducible refine Up.drew ?_ | refine Up.trans ?_ (by with_reducible assumption)))
  · rw [h1] at cF
    simp only [Bool.true_and, if_true]
    obtain ⟨l1, l2, l3⟩ := allFit_iff.1 h1
    have cB := fun wx hr ht => bestOf_any s ds ds v v wx hli hr ht l3 l3 l1 l2 l2 hs hs
    generalize bestI (fun i => totW s (ds.getD i ByteArray.empty) ds) (ds.length - 1) = r at *
    obtain ⟨a, cap, rfl, hm, hms, -⟩ := h
    clear h1 l3
    simp only [setV] at *
    go_enter Try.func27, Try.ntmps27
    go_wp2_with (first | ((go_at_call 47; (with_reducible refine (cF _ (hrt _ (by (repeat (first | with_reducible exact Up.refl _ | with_reducible assumption | with_reducible refine Up.set ?_ (by first | exact Nat.le_refl _ | (simp only []; omega) | (simp; omega)) _ | with_reducible refine Up.alloc ?_ _ | with_reducible refine Up.drew ?_ | refine Up.trans ?_ (by with_reducible assumption)))))).mono ?_); rintro e w1 ⟨rfl, U1⟩; have B1 := bcell U1; have Z1 := U1.size; (try simp at Z1); (try rw [Nat.add_one_le_iff] at Z1)); (try have Y1a : w.heap.size < w1.heap.size := (by omega)); (try have Y1b : w.heap.size + 1 < w1.heap.size := (by omega)); (try have Y1c : w.heap.size + 1 + 1 < w1.heap.size := (by omega)); (try have Y1d : w.heap.size + 1 + 1 + 1 < w1.heap.size := (by omega)); skip) | (go_at_call 53; (with_reducible refine (cB _ (hrt _ (by (repeat (first | with_reducible exact Up.refl _ | with_reducible assumption | with_reducible refine Up.set ?_ (by first | exact Nat.le_refl _ | (simp only []; omega) | (simp; omega)) _ | with_reducible refine Up.alloc ?_ _ | with_reducible refine Up.drew ?_ | refine Up.trans ?_ (by with_reducible assumption))))) (hrt _ (by (repeat (first | with_reducible exact Up.refl _ | with_reducible assumption | with_reducible refine Up.set ?_ (by first | exact Nat.le_refl _ | (simp only []; omega) | (simp; omega)) _ | with_reducible refine Up.alloc ?_ _ | with_reducible refine Up.drew ?_ | refine Up.trans ?_ (by with_reducible assumption)))))).mono ?_); rintro e w3 ⟨rfl, U3⟩; have B3 := bcell U3; have Z3 := U3.size; (try simp at Z3); (try rw [Nat.add_one_le_iff] at Z3)))
    go_ret
    refine ⟨rfl, ?_⟩
    (repeat (first | with_reducible exact Up.refl _ | with_reducible assumption | with_reducible refine Up.set ?_ (by first | exact Nat.le_refl _ | (simp only []; omega) | (simp; omega)) _ | with_reducible refine Up.alloc ?_ _ | with_reducible refine Up.drew ?_ | refine Up.trans ?_ (by with_reducible assumption)))

set_option maxRecDepth 100000 in
set_option maxHeartbeats 4000000 in
theorem bestSampleS_any (s : SetD) (ds : List ByteArray) (v : Value) (w : World) (h : ArgS w v ds) (hl : ds.length ≤ 1048576) (hs : ∀ t ∈ ds, t.size ≤ 1048576) :
    Calls Try.prog 26  #[setV s, v] w (Same (.int .i64 (bestV s ds ds true)) w) := by
  have hat := h
  have cF := fun wx hr => l4Fits_any s ds v wx hr hl hs
  have hrt := fun (wq : World) (hu : Up w wq) => h.up hu
  unfold bestV
  cases h1 : allFitB s ds
  · rw [h1] at cF
    simp only [Bool.false_and, Bool.false_eq_true, if_false]
    obtain ⟨a, cap, rfl, hm, hms, -⟩ := h
    clear h1
    simp only [setV] at *
    go_enter Try.func26, Try.ntmps26
    go_wp2_with ((go_at_call 45; (with_reducible refine (cF _ (hrt _ (by (repeat (first | with_reducible exact Up.refl _ | with_reducible assumption | with_reducible refine Up.set ?_ (by first | exact Nat.le_refl _ | (simp only []; omega) | (simp; omega)) _ | with_reducible refine Up.alloc ?_ _ | with_reducible refine Up.drew ?_ | refine Up.trans ?_ (by with_reducible assumption)))))).mono ?_); rintro e w1 ⟨rfl, U1⟩; have B1 := bcell U1; have Z1 := U1.size; (try simp at Z1); (try rw [Nat.add_one_le_iff] at Z1)))
    go_ret
    refine ⟨rfl, ?_⟩
    (repeat (first | with_reducible exact Up.refl _ | with_reducible assumption | with_reducible refine Up.set ?_ (by first | exact Nat.le_refl _ | (simp only []; omega) | (simp; omega)) _ | with_reducible refine Up.alloc ?_ _ | with_reducible refine Up.drew ?_ | refine Up.trans ?_ (by with_reducible assumption)))
  · rw [h1] at cF
    simp only [Bool.true_and, if_true]
    obtain ⟨l1, l2, l3⟩ := allFit_iff.1 h1
    have c0 := fun (wx : World) (t : ByteArray) (ht : t.size ≤ 1073741824) hr => l4Total_any s t ds v wx ht hr l2 hs
    obtain ⟨a, cap, rfl, hm, hms, -⟩ := h
    clear h1 l3
    simp only [setV] at *
    go_enter Try.func26, Try.ntmps26
    go_wp2_with (((go_at_call 45; (with_reducible refine (cF _ (hrt _ (by (repeat (first | with_reducible exact Up.refl _ | with_reducible assumption | with_reducible refine Up.set ?_ (by first | exact Nat.le_refl _ | (simp only []; omega) | (simp; omega)) _ | with_reducible refine Up.alloc ?_ _ | with_reducible refine Up.drew ?_ | refine Up.trans ?_ (by with_reducible assumption)))))).mono ?_); rintro e w1 ⟨rfl, U1⟩; have B1 := bcell U1; have Z1 := U1.size; (try simp at Z1); (try rw [Nat.add_one_le_iff] at Z1)); (try have Y1a : w.heap.size < w1.heap.size := (by omega)); (try have Y1b : w.heap.size + 1 < w1.heap.size := (by omega)); (try have Y1c : w.heap.size + 1 + 1 < w1.heap.size := (by omega)); (try have Y1d : w.heap.size + 1 + 1 + 1 < w1.heap.size := (by omega)); skip))
    have hSE : SetAt w.heap.size s.ord s.lit s.most w1 := box_up U1 (MapKept.heap_alloc w _).1
    have hUU : Up w w1 := by (repeat (first | with_reducible exact Up.refl _ | with_reducible assumption | with_reducible refine Up.set ?_ (by first | exact Nat.le_refl _ | (simp only []; omega) | (simp; omega)) _ | with_reducible refine Up.alloc ?_ _ | with_reducible refine Up.drew ?_ | refine Up.trans ?_ (by with_reducible assumption)))
    go_loopw [5, 6] (fun b i wr => RelBe (fun i => totW s (ds.getD i ByteArray.empty) ds) ds.length s w.heap.size w b i wr) (fun _ i _ => ds.length - (intOf i).toNat)
    case atStart => exact ⟨0, rfl, by omega, rfl, hSE, hUU⟩
    case round =>
      clear hSE hUU U1
      obtain ⟨j, rfl, hj, rfl, hset, hup⟩ := hrel
      obtain ⟨hb0, s0, s1, s2⟩ := hset.cells
      have HSE := Lib.hid hset
      clear hset
      have hbl9 := bestI_le (fun i => totW s (ds.getD i ByteArray.empty) ds) j
      have hjn : j < ds.length := by omega
      by_cases hlt : j + 1 < ds.length
      · have hqb : bestI (fun i => totW s (ds.getD i ByteArray.empty) ds) j < ds.length := by omega
        have HB : Hid (bestI (fun i => totW s (ds.getD i ByteArray.empty) ds) (j + 1) = if totW s (ds[j + 1]'hlt) ds < totW s (ds[bestI (fun i => totW s (ds.getD i ByteArray.empty) ds) j]'hqb) ds then j + 1 else bestI (fun i => totW s (ds.getD i ByteArray.empty) ds) j) := by
          unfold Hid
          rw [← getD_lt hlt, ← getD_lt hqb]; rfl
        generalize bestI (fun i => totW s (ds.getD i ByteArray.empty) ds) j = q at *
        obtain ⟨b, off, rfl, hbl, hx, -, hnc, hcm⟩ := (hat.up hup).at hlt
        obtain ⟨b', off', e, -, hy, -, -, -⟩ := (hat.up hup).at hqb
        cases e
        have hs1 := hs _ (List.getElem_mem hlt)
        have hs2 := hs _ (List.getElem_mem hqb)
        have c1 := fun (wx : World) hr => c0 wx (ds[j + 1]'hlt) (by omega) hr
        have c2 := fun (wx : World) hr => c0 wx (ds[q]'hqb) (by omega) hr
        unfold maxLen at hcm
        generalize (ds[q]'hqb) = t2 at *
        generalize (ds[j + 1]'hlt) = t1 at *
        by_cases hcmp : totW s t1 ds < totW s t2 ds
        · have HR : Hid (bestI (fun i => totW s (ds.getD i ByteArray.empty) ds) (j + 1) = j + 1) := HB.out.trans (if_pos hcmp)
          generalize totW s t1 ds = y1 at *
          generalize totW s t2 ds = y2 at *
          go_wp2
          refine wp_region_up 15 (by kernel_rfl) (by kernel_rfl) ?_
          simp only [List.take, List.drop]
          repeat (refine wpUp_step (fun K hK => ?_); go_simp; (try simp only [↓IntWalk.iteOmega]); first
            | (refine hK _ _ ?_; clear hK K)
            | (apply stepU_c
               · intro wq hwq; (have hbq := bcell hwq; (repeat (first | refine fills_no (by rfl) ?_ | refine fills_yes (by rfl) (fun vq hvq => ?_))); simp only [List.filter_nil, fills]; unfold upAt; (try ((have hx2 := (hwq.cell (p := ⟨b, off + (j + 1), none⟩) hbl).trans hx; have hy2 := (hwq.cell (p := ⟨b, off + q, none⟩) hbl).trans hy; obtain ⟨hbz, s0, s1, s2⟩ := SetAt.cells (box_up hwq HSE.out)))); go_simp; (try go_bits); (try simp only [↓IntWalk.iteOmega]); (try (rw [dif_pos (by omega)]; go_simp; try go_bits)); first | exact upOut_value | (apply upOut_call; (go_at_call 54; with_reducible exact c1 _ (hrt _ (hup.trans hwq)))) | (apply upOut_eq; (go_at_call 54; with_reducible exact c1 _ (hrt _ (hup.trans hwq)))) | (apply upOut_call; (go_at_call 54; with_reducible exact c2 _ (hrt _ (hup.trans hwq)))) | (apply upOut_eq; (go_at_call 54; with_reducible exact c2 _ (hrt _ (hup.trans hwq)))))
               go_simp; refine hK _ _ ?_; clear hK K))
          refine wpUp_nil (fun wq hwq => ?_)
          simp only [fills]
          go_wp2
          go_roundw
          case rel => exact ⟨j + 1, by go_num, by omega, by (rw [HR.out]; try go_num), box_up hwq HSE.out, by (repeat (first | with_reducible exact Up.refl _ | with_reducible assumption | with_reducible refine Up.set ?_ (by first | exact Nat.le_refl _ | (simp only []; omega) | (simp; omega)) _ | with_reducible refine Up.alloc ?_ _ | with_reducible refine Up.drew ?_ | refine Up.trans ?_ (by with_reducible assumption)))⟩
          case measure => simp [intOf]; omega
        · have HR : Hid (bestI (fun i => totW s (ds.getD i ByteArray.empty) ds) (j + 1) = q) := HB.out.trans (if_neg hcmp)
          generalize totW s t1 ds = y1 at *
          generalize totW s t2 ds = y2 at *
          go_wp2
          refine wp_region_up 15 (by kernel_rfl) (by kernel_rfl) ?_
          simp only [List.take, List.drop]
          repeat (refine wpUp_step (fun K hK => ?_); go_simp; (try simp only [↓IntWalk.iteOmega]); first
            | (refine hK _ _ ?_; clear hK K)
            | (apply stepU_c
               · intro wq hwq; (have hbq := bcell hwq; (repeat (first | refine fills_no (by rfl) ?_ | refine fills_yes (by rfl) (fun vq hvq => ?_))); simp only [List.filter_nil, fills]; unfold upAt; (try ((have hx2 := (hwq.cell (p := ⟨b, off + (j + 1), none⟩) hbl).trans hx; have hy2 := (hwq.cell (p := ⟨b, off + q, none⟩) hbl).trans hy; obtain ⟨hbz, s0, s1, s2⟩ := SetAt.cells (box_up hwq HSE.out)))); go_simp; (try go_bits); (try simp only [↓IntWalk.iteOmega]); (try (rw [dif_pos (by omega)]; go_simp; try go_bits)); first | exact upOut_value | (apply upOut_call; (go_at_call 54; with_reducible exact c1 _ (hrt _ (hup.trans hwq)))) | (apply upOut_eq; (go_at_call 54; with_reducible exact c1 _ (hrt _ (hup.trans hwq)))) | (apply upOut_call; (go_at_call 54; with_reducible exact c2 _ (hrt _ (hup.trans hwq)))) | (apply upOut_eq; (go_at_call 54; with_reducible exact c2 _ (hrt _ (hup.trans hwq)))))
               go_simp; refine hK _ _ ?_; clear hK K))
          refine wpUp_nil (fun wq hwq => ?_)
          simp only [fills]
          go_wp2
          go_roundw
          case rel => exact ⟨j + 1, by go_num, by omega, by (rw [HR.out]; try go_num), box_up hwq HSE.out, by (repeat (first | with_reducible exact Up.refl _ | with_reducible assumption | with_reducible refine Up.set ?_ (by first | exact Nat.le_refl _ | (simp only []; omega) | (simp; omega)) _ | with_reducible refine Up.alloc ?_ _ | with_reducible refine Up.drew ?_ | refine Up.trans ?_ (by with_reducible assumption)))⟩
          case measure => simp [intOf]; omega
      · have HJ : Hid (j = ds.length - 1) := by unfold Hid; omega
        go_wp2
        go_ret
        exact ⟨ret_int (by rw [← HJ.out]), hup⟩

end Go.Proofs.Ytnbmkoapohjnmaa

/- Walks of the laws' helpers that take a setting over and compare blocks. Conditions: none. -/
namespace Go.Proofs.Ytnbmkoapohjnmaa
set_option linter.unusedVariables false
set_option linter.unusedSimpArgs false
open Go Go.RowKit

set_option maxRecDepth 100000 in
set_option maxHeartbeats 1000000 in
theorem toSet_any (o l m : Int) (w : World) :
    Calls Try.prog 11  #[.agg #[.int .i64 o, .int .i64 l, .int .i64 m]] w (Same (.agg #[.int .i64 o, .int .i64 l, .int .i64 m]) w) := by
  go_enter Try.func11, Try.ntmps11
  go_wp2
  refine bodyPost_ret (v := .agg #[.int .i64 o, .int .i64 l, .int .i64 m]) (by simp [results, Try.results11, go_sem]; try rfl) rfl ⟨rfl, ?_⟩
  (repeat (first | with_reducible exact Up.refl _ | with_reducible assumption | with_reducible refine Up.set ?_ (by first | exact Nat.le_refl _ | (simp only []; omega) | (simp; omega)) _ | with_reducible refine Up.alloc ?_ _ | with_reducible refine Up.drew ?_ | refine Up.trans ?_ (by with_reducible assumption)))
set_option maxRecDepth 100000 in
set_option maxHeartbeats 1000000 in
theorem eqBlk_any (n : Int) (r : Bool) (z : Int) (b : ByteArray) (w : World) :
    Calls Try.prog 18  #[.agg #[.int .i64 n, .bool r, .int .i64 z, .string b], .agg #[.int .i64 n, .bool r, .int .i64 z, .string b]] w (Same (.bool true) w) := by
  go_enter Try.func18, Try.ntmps18
  go_wp2
  go_ret
  refine ⟨rfl, ?_⟩
  (repeat (first | with_reducible exact Up.refl _ | with_reducible assumption | with_reducible refine Up.set ?_ (by first | exact Nat.le_refl _ | (simp only []; omega) | (simp; omega)) _ | with_reducible refine Up.alloc ?_ _ | with_reducible refine Up.drew ?_ | refine Up.trans ?_ (by with_reducible assumption)))

end Go.Proofs.Ytnbmkoapohjnmaa

/- The end of every law's row: the call answers true and nothing that was there has turned. Conditions: those of post_law. -/
namespace Go.Proofs.Ytnbmkoapohjnmaa
set_option linter.unusedVariables false
set_option linter.unusedSimpArgs false
open Go.ChangeShapes Go.WideShapes Go.ChangeAt Go.RowKit

theorem TrylaidOut : laidOutB Try.prog = true := by kernel_rfl
theorem own : ownKnob Try.prog.godebug = none := by kernel_rfl

theorem trodAll_up {H : Type} {enc : TypeId × Value → H} {P : Program} (hl : laidOutB P = true) {W W' : World} (hb : Below W.heap.size W W') : ∀ (ts : List TypeId) (vs : List Value) (ds : List (DataW H)) (ps : List MemPlace),
    (∀ t ∈ ts, P.readableRec t = true ∧ t < P.types.size) → (∀ x ∈ ps, x.block < W.heap.size) → DataW.TrodAll enc P W 0 (fun _ => true) true ts vs ds ps → DataW.TrodAll enc P W' 0 (fun b => decide (b < W.heap.size)) true ts vs ds ps
  | [], [], [], _, _, _, h => h
  | t :: ts, v :: vs, d :: ds, ps, ht, hp, h => by
    obtain ⟨p, q, h1, h2, rfl⟩ := h
    refine ⟨p, q, Below.trod hl (ht t (List.mem_cons_self ..)).1 (ht t (List.mem_cons_self ..)).2 h1 hb fun x hx => hp x (List.mem_append_left _ hx), ?_, rfl⟩
    exact trodAll_up hl hb ts vs ds q (fun t h => ht t (List.mem_cons_of_mem _ h)) (fun x hx => hp x (List.mem_append_right _ hx)) h2
  | [], _ :: _, _, _, _, _, h => h.elim
  | _ :: _, [], _, _, _, _, h => h.elim
  | [], [], _ :: _, _, _, _, h => h.elim
  | _ :: _, _ :: _, [], _, _, _, h => h.elim

theorem post_law {H : Type} {enc : TypeId × Value → H} {P : Program} {f : Func} {s : ChangeSpec} {W W' : World} {args : Array Value} {ds gs : List (DataW H)} {before : List MemPlace} {tb : TypeId}
    (hl : laidOutB P = true) (hp : (f.params.all fun t => P.readableRec t && decide (t < P.types.size)) = true) (hrt : f.resultTypes = #[tb]) (htb : P.underlying tb = some .bool) (hvars : s.vars = [])
    (hW : DataW.Whole enc P f.params.toList s.vars false W args.toList ds gs before) (hs : ∀ ds' : List (DataW H), ds' = ds → (s.fn H ds').results = [.lit (.bool true)] ∧ (s.fn H ds').args = ds ∧ (s.fn H ds').vars = []) (hb : Up W W') :
    s.post enc P f false true false false W args (.bool true) W' := by
  have hlt := fun p hp => hW.lt (p := p) hp
  obtain ⟨p, q, hA, hV, rfl, hz, hn⟩ := id hW
  rw [hvars] at hV
  obtain ⟨rfl, rfl⟩ := trodVars_none hV
  obtain ⟨e1, e2, e3⟩ := hs (ds ++ []) (by simp)
  refine ⟨ds, [], p ++ [], [], p, [], hW, ?_, ?_, ?_, ?_, fun h => by cases h⟩
  · rw [e1, hrt]
    exact trodAll_mk1 (shut_bool htb true)
  · rw [e2]
    refine trodAll_up hl hb _ _ _ _ (fun t ht => ?_) (fun x hx => hlt x (by simpa using hx)) hA
    have := Array.all_eq_true_iff_forall_mem.1 hp t (by simpa using ht)
    simpa using this
  · rw [e3, hvars]
    rfl
  · exact hb.frame _

end Go.Proofs.Ytnbmkoapohjnmaa
