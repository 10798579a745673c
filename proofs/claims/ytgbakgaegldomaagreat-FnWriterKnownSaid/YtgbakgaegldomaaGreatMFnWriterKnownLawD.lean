/- Texts joined into one: the walks and laws that the last text leans on. Conditions: as each says. -/
import Derived.Test.YtgbakgaegldomaaGreatMFnWriterKnownLawC

set_option linter.unusedVariables false
set_option linter.unusedSimpArgs false
/- A region whose order is open, whose calls draw from the reader (they write its place alone) or only make memory: walked once in the order of the text. Conditions: those of the theorem wp_region_rd. -/
namespace Go.Proofs.YtgbakgaegldomaaGreat
open Go Go.RowKit
def RdBy (rb : Nat) (w : World) (v : Value) : Prop := ∃ (l : List UInt8) (a : Option Addr) (cap : Nat), v = .slice a l.length cap ∧ l.length ≤ 2000 ∧ l.length ≤ cap ∧ cap ≤ maxLen ∧
  (0 < l.length → ∃ b off, a = some ⟨b, off, none⟩ ∧ b < w.heap.size ∧ b ≠ rb ∧ ∀ i x, l[i]? = some x → w.cell? ⟨b, off + i, none⟩ = some (.int .u8 x.toNat))
def Rdr (rb : Nat) (B : Value) (w : World) (N : Nat) : Prop := (∃ p : Nat, p ≤ N ∧ w.heap[rb]? = some (.cells #[B, .int .i64 p] 109)) ∧ RdBy rb w B
theorem RdBy.gr {rb : Nat} {w w' : World} {v : Value} (h : RdBy rb w v) (hg : w.grownBy w' (some rb)) : RdBy rb w' v := by
  obtain ⟨l, a, cap, h1, h2, h3, h4, h5⟩ := h
  refine ⟨l, a, cap, h1, h2, h3, h4, fun hp => ?_⟩
  obtain ⟨b, off, e1, e2, e3, e4⟩ := h5 hp
  exact ⟨b, off, e1, Nat.lt_of_lt_of_le e2 hg.size, e3, fun i x hi => ((gcell hg).1 b _ e2 (fun e => e3 (Option.some.inj e))).trans (e4 i x hi)⟩
theorem Rdr.lt {rb : Nat} {B : Value} {w : World} {N : Nat} (h : Rdr rb B w N) : rb < w.heap.size := by
  obtain ⟨⟨p, _, h1⟩, _⟩ := h
  exact (Array.getElem?_eq_some_iff.1 h1).1
theorem Rdr.up {rb : Nat} {B : Value} {w w' : World} {N : Nat} (h : Rdr rb B w N) (hu : Up w w') : Rdr rb B w' N := by
  obtain ⟨⟨p, h1, h2⟩, h3⟩ := h
  exact ⟨⟨p, h1, box_up hu h2⟩, h3.gr (up_grownBy hu _)⟩
theorem Rdr.mono {rb : Nat} {B : Value} {w : World} {N M : Nat} (h : Rdr rb B w N) (hn : N ≤ M) : Rdr rb B w M := by
  obtain ⟨⟨p, h1, h2⟩, h3⟩ := h
  exact ⟨⟨p, Nat.le_trans h1 hn, h2⟩, h3⟩
def RdUp (rb : Nat) (B : Value) (c : Nat) (w w' : World) : Prop := w.grownBy w' (some rb) ∧ ∀ N, Rdr rb B w N → Rdr rb B w' (N + c)
theorem RdUp.refl (rb : Nat) (B : Value) (c : Nat) (w : World) : RdUp rb B c w w := ⟨grownBy_refl _ _, fun N h => h.mono (by omega)⟩
theorem RdUp.trans {rb : Nat} {B : Value} {c d : Nat} {w1 w2 w3 : World} (h : RdUp rb B c w1 w2) (k : RdUp rb B d w2 w3) : RdUp rb B (c + d) w1 w3 :=
  ⟨grownBy_trans h.1 k.1, fun N hN => (k.2 _ (h.2 N hN)).mono (by omega)⟩
theorem RdUp.of {rb : Nat} {B : Value} {c : Nat} {w w' : World} (h : Up w w') : RdUp rb B c w w' := ⟨up_grownBy h _, fun N hN => (hN.up h).mono (by omega)⟩
theorem RdUp.mono {rb : Nat} {B : Value} {c d : Nat} {w w' : World} (h : RdUp rb B c w w') (hc : c ≤ d) : RdUp rb B d w w' := ⟨h.1, fun N hN => (h.2 N hN).mono (by omega)⟩
theorem up_grownR {a w w' : World} (h : Up a w) {b : Nat} (hg : w.grownBy w' (some b)) (hb : a.heap.size ≤ b) : Up a w' := Below.grown h hg h.size (fun k hk => by cases hk; exact hb)
theorem RdUp.up {rb : Nat} {B : Value} {c : Nat} {w0 w w' : World} (h : RdUp rb B c w w') (hu : Up w0 w) (hr : w0.heap.size ≤ rb) : Up w0 w' := up_grownR hu h.1 hr
open Classical in
noncomputable def unS : Nat → (Nat → Prop) → Nat
  | 0, _ => 0
  | n + 1, S => unS n S + if S n then 0 else 1
open Classical in
theorem unS_same {n : Nat} {S : Nat → Prop} {j : Nat} (h : n ≤ j) : unS n (fun i => S i ∨ i = j) = unS n S := by
  induction n with
  | zero => rfl
  | succ n ih =>
    have hne : ¬ n = j := by omega
    simp only [unS, ih (by omega), hne, or_false]
open Classical in
theorem unS_less {n : Nat} {S : Nat → Prop} {j : Nat} (h : j < n) (hj : ¬ S j) : unS n (fun i => S i ∨ i = j) + 1 = unS n S := by
  induction n with
  | zero => omega
  | succ n ih =>
    by_cases e : n = j
    · subst e
      simp only [unS, unS_same (Nat.le_refl _), or_true, if_true, hj, if_false]
    · have := ih (by omega)
      simp only [unS, e, or_false]
      omega
theorem unS_le (n : Nat) (S : Nat → Prop) : unS n S ≤ n := by
  induction n with
  | zero => exact Nat.le_refl _
  | succ n ih =>
    simp only [unS]
    split <;> omega
def rC (wr : World) (rb : Nat) (B : Value) (M : Nat) (j : Nat) (w : World) : Prop := wr.grownBy w (some rb) ∧ Rdr rb B w M
def rR (rb : Nat) (B : Value) (n0 c : Nat) (j : Nat) (w w' : World) : Prop := RdUp rb B (if j < n0 then c else 0) w w'
def rK (rb : Nat) (j : Nat) (w w' : World) : Prop := w.grownBy w' (some rb)
section
variable {P : Program} {ops : Array Oper}
structure WR (P : Program) (ops : Array Oper) (wr : World) (rb : Nat) (B : Value) (n0 c M : Nat) (Z : Act → World → Prop) (l : List Oper) (k : Nat) (E : List Mk) (a : Act) : Prop where
  out : wpG P ops (rR rb B n0 c) (rK rb) (rC wr rb B M) Z l k E a
theorem wp_region_rd (n0 rb : Nat) (B : Value) (c N0 : Nat) {id : Nat} {Q : Exit → Act → World → Prop} {a : Act} {w : World} {l : List Oper} (hm : P.follows .mixedOrders = true) (hB : flB l.toArray n0 = true) (hr : Rdr rb B w N0)
    (h : WR P l.toArray w rb B n0 c (N0 + c * n0) (fun a' w' => wpList P l.toArray (onlyN Q) (l.drop n0) a' w') (l.take n0) 0 [] a) : (Code.region id l.toArray true).wp P Q a w := by
  have T := flB_text hB
  have hle : n0 ≤ l.length := by simpa using T.le
  obtain ⟨D, hU, hT, hZ⟩ := wpF_text (R := rR rb B n0 c) (Kc := rK rb) (C := rC w rb B (N0 + c * n0)) (Z := fun a' w' => wpList P l.toArray (onlyN Q) (l.drop n0) a' w') (a0 := a) (n0 := n0) T (l.take n0) 0 [] a (fun _ => False) (fun _ => undef) (fun _ _ _ => False) (by simp [hle]) (fun j hj => by
    simp only [List.length_take] at hj
    simp [show j < n0 by omega]) ⟨(Desc.refl a (fun _ => undef)).congr (fun i => by simp) (fun _ h => h.elim), fun i hi => absurd hi (Nat.not_lt_zero _), fun m hm => (by cases hm), fun i hi => absurd hi (Nat.not_lt_zero _)⟩
    (fun i hi => absurd hi (Nat.not_lt_zero _)) (fun j o hj => absurd hj (Nat.not_lt_zero _)) h.out
  refine wp_region_any hm (wpAny_gf (R := rR rb B n0 c) (Kc := rK rb) (C := rC w rb B (N0 + c * n0)) (I := fun S w' => w.grownBy w' (some rb) ∧ ∃ N, Rdr rb B w' N ∧ N + c * unS n0 S ≤ N0 + c * n0) (fun S w' j hI hS => ?_) (fun S w1 w2 j hI hS hR => ?_) (fun j w' => ?_) (fun k j w1 w2 hne hR => ?_) (a0 := a) (Q := Q) (Q' := onlyN Q) T (fun _ _ h => h) (fun _ _ _ h => h) onlyN_out hU hT (by simpa using hZ) _ (List.range n0) _ a _ (fun _ => undef) (by simp; omega) (fun i hi _ => List.mem_range.2 hi) (fun i hi => ?_) (by simp) (fun i hi his => by
    have : i < l.length := by simpa using his
    simp [this]) (fun j o ho hj => ?_) ?_ ?_ ?_)
  · obtain ⟨h1, N, h2, h3⟩ := hI
    exact ⟨h1, h2.mono (by omega)⟩
  · obtain ⟨h1, N, h2, h3⟩ := hI
    unfold rR at hR
    refine ⟨grownBy_trans h1 hR.1, _, hR.2 N h2, ?_⟩
    by_cases hj : j < n0
    · rw [if_pos hj]
      have := unS_less hj hS
      rw [← this, Nat.mul_add, Nat.mul_one] at h3
      omega
    · rw [if_neg hj, unS_same (by omega)]
      omega
  · unfold rR
    exact RdUp.refl _ _ _ _
  · exact hR.1
  · have hin := List.mem_range.1 hi
    have : i < l.length := by omega
    exact ⟨hin, by simp [this]⟩
  · rw [getD_replicate_false] at hj; cases hj
  · have hu := Up.drew (Up.refl w)
    have := unS_le n0 (fun i => ((Array.replicate l.toArray.size false).getD i false = true))
    refine ⟨up_grownBy hu _, N0, hr.up hu, ?_⟩
    have := Nat.mul_le_mul_left c this
    omega
  · exact (Desc.refl a (fun _ => undef)).congr (fun i => by rw [getD_replicate_false]; simp) (fun _ h => h.elim)
  · intro i hi; rw [getD_replicate_false] at hi; cases hi
section
variable {wr : World} {rb : Nat} {B : Value} {n0 c M : Nat} {Z : Act → World → Prop} {o : Oper} {rest : List Oper} {k : Nat} {E : List Mk} {a : Act}
def stepR (P : Program) (ops : Array Oper) (wr : World) (rb : Nat) (B : Value) (n0 c M : Nat) (E : List Mk) (k : Nat) (o : Oper) (a : Act) (K : List Mk → Act → Prop) : Prop :=
  (∃ v, (∀ w, rC wr rb B M k w → fills (E.filter fun m => waitsB o m.1) a w (fun a' => gAt P (rR rb B n0 c k) o a' w (fun v' _ => v' = v))) ∧ K E (a.put o.dst v)) ∨
  (∃ D, guardFree ops k = true ∧ (∀ v w w', D v w → rK rb k w w' → D v w') ∧ (∀ w, rC wr rb B M k w → fills (E.filter fun m => waitsB o m.1) a w (fun a' => gAt P (rR rb B n0 c k) o a' w D)) ∧ K ((k, o.dst, D) :: E) a)
theorem wpR_step (h : ∀ K : List Mk → Act → Prop, (∀ E a, WR P ops wr rb B n0 c M Z rest (k + 1) E a → K E a) → if Region.wanted o (yielded ops a.tmps) then stepR P ops wr rb B n0 c M E k o a K else K E (a.put o.dst undef)) : WR P ops wr rb B n0 c M Z (o :: rest) k E a := by
  have := h (fun E a => wpG P ops (rR rb B n0 c) (rK rb) (rC wr rb B M) Z rest (k + 1) E a) fun _ _ h => h.out
  refine ⟨?_⟩
  unfold wpG
  exact this
theorem gAt_rd {o : Oper} {a : Act} {w : World} {D : Value → World → Prop} {R R' : World → World → Prop} (hR : ∀ w', R w w' → R' w w') (h : gAt P R o a w D) : gAt P R' o a w D := by
  unfold gAt at *
  generalize (execOp a.eval o).run P w = r at *
  cases r with
  | ok n w' =>
    cases n with
    | value v => exact ⟨hR _ h.1, h.2⟩
    | skip => exact ⟨hR _ h.1, h.2⟩
    | enter f args => exact ⟨h.1, h.2.mono fun e w'' ⟨v, he, h1, h2⟩ => ⟨v, he, hR _ h1, h2⟩⟩
    | _ => exact h
  | halt x w' => exact h
theorem stepR_c {K : List Mk → Act → Prop} (v : Value) (h1 : ∀ w, wr.grownBy w (some rb) → Rdr rb B w M → fills (E.filter fun m => waitsB o m.1) a w (fun a' => upAt P o a' w (fun v' _ => v' = v))) (h2 : K E (a.put o.dst v)) : stepR P ops wr rb B n0 c M E k o a K :=
  .inl ⟨v, fun w hC => fills_mono (fun a' h => gAt_rd (fun w' h => RdUp.of h) (gAt_up h)) (h1 w hC.1 hC.2), h2⟩
theorem stepR_m {K : List Mk → Act → Prop} (hg : guardFree ops k = true) (D : Value → World → Prop) (hD : ∀ v w w', D v w → w.grownBy w' (some rb) → D v w')
    (h1 : ∀ w, wr.grownBy w (some rb) → Rdr rb B w M → fills (E.filter fun m => waitsB o m.1) a w (fun a' => upAt P o a' w D)) (h2 : K ((k, o.dst, D) :: E) a) : stepR P ops wr rb B n0 c M E k o a K :=
  .inr ⟨D, hg, hD, fun w hC => fills_mono (fun a' h => gAt_rd (fun w' h => RdUp.of h) (gAt_up h)) (h1 w hC.1 hC.2), h2⟩
theorem stepR_d {K : List Mk → Act → Prop} (hk : decide (k < n0) = true) (hg : guardFree ops k = true) (D : Value → World → Prop) (hD : ∀ v w w', D v w → w.grownBy w' (some rb) → D v w')
    (h1 : ∀ w, wr.grownBy w (some rb) → Rdr rb B w M → fills (E.filter fun m => waitsB o m.1) a w (fun a' => gAt P (RdUp rb B c) o a' w D)) (h2 : K ((k, o.dst, D) :: E) a) : stepR P ops wr rb B n0 c M E k o a K := by
  refine .inr ⟨D, hg, hD, fun w hC => ?_, h2⟩
  have e : rR rb B n0 c k = RdUp rb B c := by
    funext w w'; unfold rR; rw [if_pos (of_decide_eq_true hk)]
  rw [e]
  exact h1 w hC.1 hC.2
theorem wpR_nil (h : ∀ w, wr.grownBy w (some rb) → Rdr rb B w M → fills E a w (fun a' => Z a' w)) : WR P ops wr rb B n0 c M Z [] k E a := ⟨fun w hC => h w hC.1 hC.2⟩
end
end
def Drawn (rb : Nat) (B : Value) (c : Nat) (D : Value → Prop) (w : World) (e : Ending) (w' : World) : Prop := ∃ v, e = .returned v ∧ D v ∧ RdUp rb B c w w'
theorem gOut_drawn {P : Program} {rb : Nat} {B : Value} {c c' : Nat} {D : Value → Prop} {w : World} {f : FuncId} {args : Array Value} (h : Calls P f args w (Drawn rb B c' D w)) (hc : c' ≤ c) : gOut P (RdUp rb B c) (fun v _ => D v) w (.ok (.enter f args) w) :=
  ⟨rfl, h.mono fun e w' ⟨v, h1, h2, h3⟩ => ⟨v, h1, h3.mono hc, h2⟩⟩
def IsStr (n : Nat) (v : Value) : Prop := ∃ s : ByteArray, v = .string s ∧ s.size ≤ n
end Go.Proofs.YtgbakgaegldomaaGreat

/- Walks of the reference's reader. Conditions: the reader is one (Rdr), its place is bounded. -/
namespace Go.Proofs.YtgbakgaegldomaaGreat
open Go Go.RowKit
theorem xor_nat (a b : Nat) (ha : a < 2 ^ 62) (hb : b < 2 ^ 62) : bits .xor .i64 (a : Int) (b : Int) = ((a ^^^ b : Nat) : Int) := by
  have hp : (2 : Nat) ^ 62 ≤ 2 ^ IntKind.i64.bits := by decide
  have ha' : a % 2 ^ IntKind.i64.bits = a := Nat.mod_eq_of_lt (Nat.lt_of_lt_of_le ha hp)
  have hb' : b % 2 ^ IntKind.i64.bits = b := Nat.mod_eq_of_lt (Nat.lt_of_lt_of_le hb hp)
  have hx := Nat.xor_lt_two_pow ha hb
  simp only [bits, BitVec.ofInt_natCast, BitVec.toNat_xor, BitVec.toNat_ofNat, ha', hb']
  exact IntWalk.i64_in _ (by omega)
theorem xor_ok (x : Int) (h0 : 0 ≤ x) (h1 : x ≤ 4611686018427387903) : 0 ≤ bits .xor .i64 x (x / 64) := by
  obtain ⟨a, rfl⟩ := Int.eq_ofNat_of_zero_le h0
  have e : ((a : Int) / 64) = ((a / 64 : Nat) : Int) := by omega
  rw [e, xor_nat a (a / 64) (by omega) (by omega)]
  exact Int.natCast_nonneg _
def pickB (n : Int) (v : Value) : Prop := ∃ i : Int, v = .int .i64 i ∧ 0 ≤ i ∧ (i < n ∨ i = 0)
theorem Rdr.set {rb : Nat} {B : Value} {w : World} {p : Nat} (h : w.heap[rb]? = some (.cells #[B, .int .i64 p] 109)) : RdUp rb B 1 w (w.setCell ⟨rb, 1, none⟩ (.int .i64 (p + 1))) := by
  have hg : w.grownBy (w.setCell ⟨rb, 1, none⟩ (.int .i64 (p + 1))) (some rb) := grownBy_set (grownBy_refl w (some rb)) 1 _
  refine ⟨hg, fun N hN => ⟨⟨p + 1, ?_, ?_⟩, hN.2.gr hg⟩⟩
  · obtain ⟨⟨q, h1, h2⟩, _⟩ := hN
    rw [h] at h2
    simp at h2
    omega
  · have := box_set h 1 (.int .i64 (p + 1))
    simpa using this
set_option maxRecDepth 100000 in
set_option maxHeartbeats 2000000 in
theorem pick_any (rb : Nat) (B : Value) (n : Int) (w : World) (N : Nat) (h : Rdr rb B w N) (hN : N ≤ 1099511627776) :
    Calls Tryz.prog 28  #[.pointer (some ⟨rb, 0, none⟩), .int .i64 n] w (Drawn rb B 1 (pickB n) w) := by
  have hlt := h.lt
  obtain ⟨⟨p, hp, hh⟩, l, a, cap, rfl, hl1, hl2, hl3, hcells⟩ := h
  have r0 := box_cell hh 0
  have r1 := box_cell hh 1
  have hfr := box_free hh
  have HU := Lib.hid (Rdr.set hh)
  simp at r0 r1
  unfold maxLen at hl3
  clear hh
  by_cases h1 : n < 1
  · go_enter Tryz.func28, Tryz.ntmps28
    go_wp2
    go_ret
    exact ⟨_, rfl, ⟨0, rfl, Int.le_refl _, .inr rfl⟩, HU.out⟩
  · have hcl : ∀ q (hq : q < l.length), ∃ b off, a = some ⟨b, off, none⟩ ∧ b < w.heap.size ∧ (w.setCell ⟨rb, 1, none⟩ (.int .i64 (p + 1))).cell? ⟨b, off + q, none⟩ = some (.int .u8 l[q].toNat) := fun q hq => by
      obtain ⟨b, off, e1, e2, e3, e4⟩ := hcells (by omega)
      exact ⟨b, off, e1, e2, ((gcell HU.out.1).1 b _ e2 (fun e => e3 (Option.some.inj e))).trans (e4 q _ (List.getElem?_eq_getElem hq))⟩
    clear hcells
    by_cases h2 : l.length = 0
    · have h2' : (((l.length : Nat) : Int) == 0) = true := by simp [h2]
      have HZ := Lib.hid h2
      clear h2
      go_enter Tryz.func28, Tryz.ntmps28
      go_wp2
      go_ret
      exact ⟨_, rfl, ⟨0, rfl, Int.le_refl _, .inr rfl⟩, HU.out⟩
    · have h2' : (((l.length : Nat) : Int) == 0) = false := by simpa using h2
      have hl0 : 0 < l.length := by omega
      by_cases h3 : p < l.length
      · obtain ⟨b, off, rfl, hbl, hx⟩ := hcl p h3
        have hx1 := u8_bd l[p]
        have hx0 : (0 : Int) ≤ (l[p].toNat : Int) := Int.natCast_nonneg _
        generalize (l[p].toNat : Int) = x at *
        have hm0 : 0 ≤ x % n := Int.emod_nonneg _ (by omega)
        have hm1 : x % n < n := Int.emod_lt_of_pos _ (by omega)
        clear hcl
        go_enter Tryz.func28, Tryz.ntmps28
        go_wp2
        go_ret
        exact ⟨_, rfl, ⟨_, rfl, hm0, .inl hm1⟩, HU.out⟩
      · obtain ⟨b, off, rfl, hbl, hx⟩ := hcl (p % l.length) (Nat.mod_lt _ hl0)
        obtain ⟨b', off', e, hbl', hy⟩ := hcl ((p * 7 + 3) % l.length) (Nat.mod_lt _ hl0)
        cases e
        have hx1 := u8_bd (l[p % l.length]'(Nat.mod_lt _ hl0))
        have hx0 : (0 : Int) ≤ ((l[p % l.length]'(Nat.mod_lt _ hl0)).toNat : Int) := Int.natCast_nonneg _
        have hy1 := u8_bd (l[(p * 7 + 3) % l.length]'(Nat.mod_lt _ hl0))
        have hy0 : (0 : Int) ≤ ((l[(p * 7 + 3) % l.length]'(Nat.mod_lt _ hl0)).toNat : Int) := Int.natCast_nonneg _
        generalize ((l[p % l.length]'(Nat.mod_lt _ hl0)).toNat : Int) = x at *
        generalize ((l[(p * 7 + 3) % l.length]'(Nat.mod_lt _ hl0)).toNat : Int) = y at *
        have em : ((p : Int) % (l.length : Int)) = ((p % l.length : Nat) : Int) := by omega
        have hz : ∀ z : Nat, ((z : Int) % (l.length : Int)) = ((z % l.length : Nat) : Int) := fun z => by omega
        have em2 : (((p : Int) * 7 + 3) % (l.length : Int)) = (((p * 7 + 3) % l.length : Nat) : Int) := by rw [show ((p : Int) * 7 + 3) = ((p * 7 + 3 : Nat) : Int) by omega]; exact hz _
        clear hz
        have hq1 := Nat.mod_lt p hl0
        have hq2 := Nat.mod_lt (p * 7 + 3) hl0
        have hd : p / l.length ≤ p := Nat.div_le_self _ _
        have ed : ((p : Int) / (l.length : Int)) = ((p / l.length : Nat) : Int) := by omega
        generalize p % l.length = q1 at *
        generalize (p * 7 + 3) % l.length = q2 at *
        generalize p / l.length = q3 at *
        have hs0 : 0 ≤ x * 131 + y * 1117 + (p : Int) * 29 + (q3 : Int) * 53 := by omega
        have hs1 : x * 131 + y * 1117 + (p : Int) * 29 + (q3 : Int) * 53 ≤ 4611686018427387903 := by omega
        have hxo := xor_ok _ hs0 hs1
        clear hcl
        go_enter Tryz.func28, Tryz.ntmps28
        go_wp2
        refine wp_region_up 45 (by kernel_rfl) (by kernel_rfl) ?_
        simp only [List.take, List.drop]
        repeat (refine wpUp_step (fun K hK => ?_); go_simp; (try simp only [↓IntWalk.iteOmega]); first
          | (refine hK _ _ ?_; clear hK K)
          | (apply stepU_c
             · intro wq hwq; (have hbq := bcell hwq; (repeat (first | refine fills_no (by rfl) ?_ | refine fills_yes (by rfl) (fun vq hvq => ?_))); simp only [List.filter_nil, fills]; unfold upAt; go_simp; (try go_bits); (try simp only [↓IntWalk.iteOmega]); (try (rw [dif_pos (by omega)]; go_simp; try go_bits)); first | exact upOut_value)
             go_simp; refine hK _ _ ?_; clear hK K))
        refine wpUp_nil (fun wq hwq => ?_)
        simp only [fills]
        go_wp2
        go_ret
        exact ⟨_, rfl, ⟨_, rfl, Int.emod_nonneg _ (by omega), .inl (Int.emod_lt_of_pos _ (by omega))⟩, HU.out.trans (RdUp.of (c := 0) hwq)⟩
def RdInts (rb : Nat) (w : World) (v : Value) (l : List Int) : Prop := ∃ b off cap, v = .slice (some ⟨b, off, none⟩) l.length cap ∧ l.length ≤ cap ∧ cap ≤ maxLen ∧ b < w.heap.size ∧ b ≠ rb ∧ ∀ i x, l[i]? = some x → w.cell? ⟨b, off + i, none⟩ = some (.int .i64 x)
def oneOf (l : List Int) (v : Value) : Prop := ∃ i : Int, v = .int .i64 i ∧ i ∈ l
set_option maxRecDepth 100000 in
set_option maxHeartbeats 2000000 in
theorem num_any (rb : Nat) (B : Value) (l : List Int) (v : Value) (w : World) (N : Nat) (h : Rdr rb B w N) (hN : N ≤ 1099511627776) (hr : RdInts rb w v l) (hl : 0 < l.length) :
    Calls Tryz.prog 68  #[.pointer (some ⟨rb, 0, none⟩), v] w (Drawn rb B 1 (oneOf l) w) := by
  obtain ⟨b, off, cap, rfl, h1, h2, h3, h4, h5⟩ := hr
  have cP := fun wx h => pick_any rb B (l.length : Int) wx N h hN
  unfold maxLen at h2
  go_enter Tryz.func68, Tryz.ntmps68
  go_wp2_with (go_at_call 28; (with_reducible refine (cP _ h).mono ?_); rintro e w1 ⟨v1, rfl, ⟨i, rfl, hi0, hi1⟩, U1⟩; obtain ⟨j, rfl⟩ := Int.eq_ofNat_of_zero_le hi0; have hjl : j < l.length := (by omega); have hx := ((gcell U1.1).1 b (off + j) h3 (fun e => h4 (Option.some.inj e))).trans (h5 j l[j] (List.getElem?_eq_getElem hjl)))
  go_ret
  exact ⟨_, rfl, ⟨_, rfl, List.getElem_mem hjl⟩, U1⟩
set_option maxRecDepth 100000 in
theorem open_any (v : Value) (l : List UInt8) (w : World) (a : Option Addr) (cap : Nat) (hv : v = .slice a l.length cap) (h1 : l.length ≤ cap) (h2 : cap ≤ maxLen)
    (h3 : 0 < l.length → ∃ b off, a = some ⟨b, off, none⟩ ∧ b < w.heap.size ∧ ∀ i x, l[i]? = some x → w.cell? ⟨b, off + i, none⟩ = some (.int .u8 x.toNat)) :
    Calls Tryz.prog 24  #[v] w (fun e w' => ∃ B, e = .returned (.pointer (some ⟨w.heap.size, 0, none⟩)) ∧ Rdr w.heap.size B w' 0 ∧ Up w w') := by
  subst hv
  unfold maxLen at h2
  have HC := Lib.hid h3
  clear h3
  by_cases hl : l.length ≤ 2000
  · go_enter Tryz.func24, Tryz.ntmps24
    go_wp2
    go_ret
    refine ⟨.slice a l.length cap, rfl, ⟨⟨0, Nat.le_refl _, (MapKept.heap_alloc w _).1⟩, l, a, cap, rfl, hl, h1, by unfold maxLen; omega, fun hp => ?_⟩, (Up.refl _).alloc _⟩
    obtain ⟨b, off, e1, e2, e3⟩ := HC.out hp
    exact ⟨b, off, e1, by simp; omega, by omega, fun i x hi => ((Up.alloc (Up.refl w) _).cell (p := ⟨b, off + i, none⟩) e2).trans (e3 i x hi)⟩
  · have hlt : (l.take 2000).length = 2000 := by rw [List.length_take]; omega
    go_enter Tryz.func24, Tryz.ntmps24
    go_wp2
    go_ret
    refine ⟨.slice a 2000 cap, rfl, ⟨⟨0, Nat.le_refl _, (MapKept.heap_alloc w _).1⟩, l.take 2000, a, cap, by rw [hlt], by omega, by omega, by unfold maxLen; omega, fun hp => ?_⟩, (Up.refl _).alloc _⟩
    obtain ⟨b, off, e1, e2, e3⟩ := HC.out (by omega)
    refine ⟨b, off, e1, by simp; omega, by omega, fun i x hi => ((Up.alloc (Up.refl w) _).cell (p := ⟨b, off + i, none⟩) e2).trans (e3 i x ?_)⟩
    rw [List.getElem?_take] at hi
    split at hi
    · exact hi
    · cases hi
theorem RdUp.step {rb : Nat} {B : Value} {c : Nat} {w0 w w' : World} (h : RdUp rb B c w0 w) (hg : w0.grownBy w' (some rb)) (hrb : rb < w0.heap.size → w'.heap[rb]? = w.heap[rb]?) : RdUp rb B c w0 w' :=
  ⟨hg, fun N hN => by
    obtain ⟨p, h1, h2⟩ := (h.2 N hN).1
    exact ⟨⟨p, h1, (hrb hN.lt).trans h2⟩, hN.2.gr hg⟩⟩
theorem RdUp.alloc {rb : Nat} {B : Value} {c : Nat} {w0 w : World} (h : RdUp rb B c w0 w) (o : Obj) : RdUp rb B c w0 (w.alloc o) :=
  h.trans (d := 0) (RdUp.of ((Up.refl w).alloc o))
theorem RdUp.drew {rb : Nat} {B : Value} {c : Nat} {w0 w : World} (h : RdUp rb B c w0 w) : RdUp rb B c w0 w.drew :=
  h.trans (d := 0) (RdUp.of ((Up.refl w).drew))
theorem RdUp.ups {rb : Nat} {B : Value} {c : Nat} {w0 w w' : World} (h : RdUp rb B c w0 w) (hu : Up w w') : RdUp rb B c w0 w' := h.trans (d := 0) (RdUp.of hu)
theorem RdUp.set {rb : Nat} {B : Value} {c : Nat} {w0 w : World} (h : RdUp rb B c w0 w) {p : Addr} (hp : w0.heap.size ≤ p.block) (u : Value) : RdUp rb B c w0 (w.setCell p u) :=
  h.step ⟨h.1.os, h.1.tape, h.1.output, by simpa [World.setCell] using h.1.size, fun k hk hne => (Below.heap_setCell w p u k (by omega)).trans (h.1.block k hk hne)⟩ (fun hr => Below.heap_setCell w p u rb (by omega))
theorem RdUp.gr {rb : Nat} {B : Value} {c : Nat} {w0 w w' : World} (h : RdUp rb B c w0 w) {row : Option Nat} (hg : w.grownBy w' row) (hr : ∀ k, row = some k → w0.heap.size ≤ k) : RdUp rb B c w0 w' :=
  h.step ⟨hg.os.trans h.1.os, hg.tape.trans h.1.tape, hg.output.trans h.1.output, Nat.le_trans h.1.size hg.size, fun k hk hne => (hg.block k (Nat.lt_of_lt_of_le hk h.1.size) (fun e => by have := hr k e.symm; omega)).trans (h.1.block k hk hne)⟩
    (fun hlt => hg.block rb (Nat.lt_of_lt_of_le hlt h.1.size) (fun e => by have := hr rb e.symm; omega))
theorem RdUp.fin {rb : Nat} {B : Value} {c d : Nat} {w0 w1 w : World} (hU : RdUp rb B c w0 w1) (hx : ∀ c, RdUp rb B c w0 w1 → RdUp rb B c w0 w) (hc : c ≤ d) : RdUp rb B d w0 w := (hx c hU).mono hc
theorem pick_at {rb : Nat} {B : Value} {c N : Nat} {w0 w1 w : World} {n : Int} (h : Rdr rb B w0 N) (hU1 : RdUp rb B c w0 w1) (hx : ∀ c, RdUp rb B c w0 w1 → RdUp rb B c w0 w) (hN : N + c ≤ 1099511627776) :
    Calls Tryz.prog 28  #[.pointer (some ⟨rb, 0, none⟩), .int .i64 n] w (fun e w' => ∃ i : Int, e = .returned (.int .i64 i) ∧ 0 ≤ i ∧ (i < n ∨ i = 0) ∧ RdUp rb B (c + 1) w0 w' ∧ RdUp rb B 1 w w') :=
  (pick_any rb B n w (N + c) ((hx c hU1).2 N h) hN).mono fun e w' ⟨v, he, ⟨i, hv, h1, h2⟩, hu⟩ => ⟨i, by rw [he, hv], h1, h2, (hx c hU1).trans hu, hu⟩
theorem draw_at {rb : Nat} {B : Value} {c d N : Nat} {w0 w1 w : World} {D : Value → Prop} {f : FuncId} {args : Array Value} (hf : ∀ w N, Rdr rb B w N → N ≤ 1000000000 → Calls Tryz.prog f args w (Drawn rb B d D w)) (h : Rdr rb B w0 N) (hU1 : RdUp rb B c w0 w1) (hx : ∀ c, RdUp rb B c w0 w1 → RdUp rb B c w0 w) (hN : N + c ≤ 1000000000) :
    Calls Tryz.prog f args w (fun e w' => ∃ v, e = .returned v ∧ D v ∧ RdUp rb B (c + d) w0 w' ∧ RdUp rb B d w w') :=
  (hf w (N + c) ((hx c hU1).2 N h) hN).mono fun e w' ⟨v, he, h1, hu⟩ => ⟨v, he, h1, (hx c hU1).trans hu, hu⟩
theorem num_at {rb : Nat} {B : Value} {c N : Nat} {w0 w : World} {g n cap : Nat} {cs : Array Value} {T : TypeId} (l : List Int) (h : Rdr rb B w0 N) {w1 : World} (hU1 : RdUp rb B c w0 w1) (hx : ∀ c, RdUp rb B c w0 w1 → RdUp rb B c w0 w) (hN : N + c ≤ 1099511627776) (hg : g = w.heap.size) (hn : n = l.length) (hc : cap = n) (hl : 0 < l.length) (hl2 : l.length ≤ 100) (hcs : cs = (l.map (Value.int .i64)).toArray) :
    Calls Tryz.prog 68  #[.pointer (some ⟨rb, 0, none⟩), .slice (some ⟨g, 0, none⟩) n cap] (w.alloc (.cells cs T)) (fun e w' => ∃ i : Int, e = .returned (.int .i64 i) ∧ i ∈ l ∧ RdUp rb B (c + 1) w0 w' ∧ RdUp rb B 1 (w.alloc (.cells cs T)) w') := by
  subst hg hn hc hcs
  have hU := hx c hU1
  have hr := hU.2 N h
  have hlt := hr.lt
  refine (num_any rb B l (.slice (some ⟨w.heap.size, 0, none⟩) l.length l.length) (w.alloc (.cells (l.map (Value.int .i64)).toArray T)) (N + c) ((hU.alloc _).2 N h) hN ⟨w.heap.size, 0, l.length, rfl, Nat.le_refl _, by unfold maxLen; omega, by simp, by omega, fun i x hi => ?_⟩ hl).mono fun e w' ⟨v, he, ⟨i, hv, h1⟩, hu⟩ => ⟨i, by rw [he, hv], h1, (hU.alloc _).trans hu, hu⟩
  rw [box_cell (MapKept.heap_alloc w _).1, Nat.zero_add]
  simp [hi]
end Go.Proofs.YtgbakgaegldomaaGreat

