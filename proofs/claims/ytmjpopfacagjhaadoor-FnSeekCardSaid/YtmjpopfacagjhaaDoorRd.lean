/- A region whose order is open, whose calls draw from the reader (they write its place alone) or only make memory: walked once in the order of the text. Conditions: those of the theorem wp_region_rd. -/
import Derived.Test.YtmjpopfacagjhaaDoorFl
namespace Go.Proofs.YtmjpopfacagjhaaDoor
set_option linter.unusedVariables false
set_option linter.unusedSimpArgs false
open Go Go.RowKit

/-- Bytes that can be read, in another block than rb. -/
def RdBy (rb : Nat) (w : World) (v : Value) : Prop := ∃ (l : List UInt8) (a : Option Addr) (cap : Nat), v = .slice a l.length cap ∧ l.length ≤ 2000 ∧ l.length ≤ cap ∧ cap ≤ maxLen ∧
  (0 < l.length → ∃ b off, a = some ⟨b, off, none⟩ ∧ b < w.heap.size ∧ b ≠ rb ∧ ∀ i x, l[i]? = some x → w.cell? ⟨b, off + i, none⟩ = some (.int .u8 x.toNat))
/-- The reader lies in block rb, its bytes are B, its place is at most N. -/
def Rdr (rb : Nat) (B : Value) (w : World) (N : Nat) : Prop := (∃ p : Nat, p ≤ N ∧ w.heap[rb]? = some (.cells #[B, .int .i64 p] 61)) ∧ RdBy rb w B
theorem RdBy.gr {rb : Nat} {w w' : World} {v : Value} (h : RdBy rb w v) (hg : w.grownBy w' (some rb)) : RdBy rb w' v := by
  obtain ⟨l, a, cap, h1, h2, h3, h4, h5⟩ := h
  refine ⟨l, a, cap, h1, h2, h3, h4, fun hp => ?_⟩
  obtain ⟨b, off, e1, e2, e3, e4⟩ := h5 hp
  exact ⟨b, off, e1, Nat.lt_of_lt_of_le e2 hg.size, e3, fun i x hi => ((gcell hg).1 b _ e2 (fun e => e3 (Option.some.inj e))).trans (e4 i x hi)⟩
theorem Rdr.lt {rb : Nat} {B : Value} {w : World} {N : Nat} (h : Rdr rb B w N) : rb < w.heap.size := by
  obtain ⟨⟨p, _, h1⟩, _⟩ := h
  exact (Array.getElem?_eq_some_iff.1 h1).1
theorem Rdr.up {rb : Nat} {B : Value} {w w' : World} {N : Nat} (h : Rdr rb B w N) (hu : Up w w') : Rdr rb B w' N := by
  obtain ⟨⟨p, h1, h2⟩, h3⟩ := h
  exact ⟨⟨p, h1, box_up hu h2⟩, h3.gr (up_grownBy hu _)⟩
theorem Rdr.mono {rb : Nat} {B : Value} {w : World} {N M : Nat} (h : Rdr rb B w N) (hn : N ≤ M) : Rdr rb B w M := by
  obtain ⟨⟨p, h1, h2⟩, h3⟩ := h
  exact ⟨⟨p, Nat.le_trans h1 hn, h2⟩, h3⟩
/-- Nothing old has turned but the reader's place, by at most c. -/
def RdUp (rb : Nat) (B : Value) (c : Nat) (w w' : World) : Prop := w.grownBy w' (some rb) ∧ ∀ N, Rdr rb B w N → Rdr rb B w' (N + c)
theorem RdUp.refl (rb : Nat) (B : Value) (c : Nat) (w : World) : RdUp rb B c w w := ⟨grownBy_refl _ _, fun N h => h.mono (by omega)⟩
theorem RdUp.trans {rb : Nat} {B : Value} {c d : Nat} {w1 w2 w3 : World} (h : RdUp rb B c w1 w2) (k : RdUp rb B d w2 w3) : RdUp rb B (c + d) w1 w3 :=
  ⟨grownBy_trans h.1 k.1, fun N hN => (k.2 _ (h.2 N hN)).mono (by omega)⟩
theorem RdUp.of {rb : Nat} {B : Value} {c : Nat} {w w' : World} (h : Up w w') : RdUp rb B c w w' := ⟨up_grownBy h _, fun N hN => (hN.up h).mono (by omega)⟩
theorem RdUp.mono {rb : Nat} {B : Value} {c d : Nat} {w w' : World} (h : RdUp rb B c w w') (hc : c ≤ d) : RdUp rb B d w w' := ⟨h.1, fun N hN => (h.2 N hN).mono (by omega)⟩
theorem up_grownR {a w w' : World} (h : Up a w) {b : Nat} (hg : w.grownBy w' (some b)) (hb : a.heap.size ≤ b) : Up a w' := Below.grown h hg h.size (fun k hk => by cases hk; exact hb)
theorem RdUp.up {rb : Nat} {B : Value} {c : Nat} {w0 w w' : World} (h : RdUp rb B c w w') (hu : Up w0 w) (hr : w0.heap.size ≤ rb) : Up w0 w' := up_grownR hu h.1 hr

open Classical in
noncomputable def unS : Nat → (Nat → Prop) → Nat
  | 0, _ => 0
  | n + 1, S => unS n S + if S n then 0 else 1
open Classical in
theorem unS_same {n : Nat} {S : Nat → Prop} {j : Nat} (h : n ≤ j) : unS n (fun i => S i ∨ i = j) = unS n S := by
  induction n with
  | zero => rfl
  | succ n ih =>
    have hne : ¬ n = j := by omega
    simp only [unS, ih (by omega), hne, or_false]
open Classical in
theorem unS_less {n : Nat} {S : Nat → Prop} {j : Nat} (h : j < n) (hj : ¬ S j) : unS n (fun i => S i ∨ i = j) + 1 = unS n S := by
  induction n with
  | zero => omega
  | succ n ih =>
    by_cases e : n = j
    · subst e
      simp only [unS, unS_same (Nat.le_refl _), or_true, if_true, hj, if_false]
    · have := ih (by omega)
      simp only [unS, e, or_false]
      omega
theorem unS_le (n : Nat) (S : Nat → Prop) : unS n S ≤ n := by
  induction n with
  | zero => exact Nat.le_refl _
  | succ n ih =>
    simp only [unS]
    split <;> omega

def rC (wr : World) (rb : Nat) (B : Value) (M : Nat) (j : Nat) (w : World) : Prop := wr.grownBy w (some rb) ∧ Rdr rb B w M
def rR (rb : Nat) (B : Value) (n0 c : Nat) (j : Nat) (w w' : World) : Prop := RdUp rb B (if j < n0 then c else 0) w w'
def rK (rb : Nat) (j : Nat) (w w' : World) : Prop := w.grownBy w' (some rb)
section
variable {P : Program} {ops : Array Oper}
/-- The lexical walk, behind a name that nothing unfolds. -/
structure WR (P : Program) (ops : Array Oper) (wr : World) (rb : Nat) (B : Value) (n0 c M : Nat) (Z : Act → World → Prop) (l : List Oper) (k : Nat) (E : List Mk) (a : Act) : Prop where
  out : wpG P ops (rR rb B n0 c) (rK rb) (rC wr rb B M) Z l k E a

/-- THE THEOREM: each of the first n0 operations draws at most c times, or only makes memory; stores, moves and assignments follow. -/
theorem wp_region_rd (n0 rb : Nat) (B : Value) (c N0 : Nat) {id : Nat} {Q : Exit → Act → World → Prop} {a : Act} {w : World} {l : List Oper} (hm : P.follows .mixedOrders = true) (hB : flB l.toArray n0 = true) (hr : Rdr rb B w N0)
    (h : WR P l.toArray w rb B n0 c (N0 + c * n0) (fun a' w' => wpList P l.toArray (onlyN Q) (l.drop n0) a' w') (l.take n0) 0 [] a) : (Code.region id l.toArray true).wp P Q a w := by
  have T := flB_text hB
  have hle : n0 ≤ l.length := by simpa using T.le
  obtain ⟨D, hU, hT, hZ⟩ := wpG_text (R := rR rb B n0 c) (Kc := rK rb) (C := rC w rb B (N0 + c * n0)) (Z := fun a' w' => wpList P l.toArray (onlyN Q) (l.drop n0) a' w') (a0 := a) (n0 := n0) T.c (l.take n0) 0 [] a (fun _ => False) (fun _ => undef) (fun _ _ _ => False) (by simp [hle]) (fun j hj => by
    simp only [List.length_take] at hj
    simp [show j < n0 by omega]) ⟨(Desc.refl a (fun _ => undef)).congr (fun i => by simp) (fun _ h => h.elim), fun i hi => absurd hi (Nat.not_lt_zero _), fun m hm => (by cases hm), fun i hi => absurd hi (Nat.not_lt_zero _)⟩
    (fun i hi => absurd hi (Nat.not_lt_zero _)) (fun j o hj => absurd hj (Nat.not_lt_zero _)) h.out
  refine wp_region_any hm (wpAny_gf (R := rR rb B n0 c) (Kc := rK rb) (C := rC w rb B (N0 + c * n0)) (I := fun S w' => w.grownBy w' (some rb) ∧ ∃ N, Rdr rb B w' N ∧ N + c * unS n0 S ≤ N0 + c * n0) (fun S w' j hI hS => ?_) (fun S w1 w2 j hI hS hR => ?_) (fun j w' => ?_) (fun k j w1 w2 hne hR => ?_) (a0 := a) (Q := Q) (Q' := onlyN Q) T (fun _ _ h => h) (fun _ _ _ h => h) onlyN_out hU hT (by simpa using hZ) _ (List.range n0) _ a _ (fun _ => undef) (by simp; omega) (fun i hi _ => List.mem_range.2 hi) (fun i hi => ?_) (by simp) (fun i hi his => by
    have : i < l.length := by simpa using his
    simp [this]) (fun j o ho hj => ?_) ?_ ?_ ?_)
  · obtain ⟨h1, N, h2, h3⟩ := hI
    exact ⟨h1, h2.mono (by omega)⟩
  · obtain ⟨h1, N, h2, h3⟩ := hI
    unfold rR at hR
    refine ⟨grownBy_trans h1 hR.1, _, hR.2 N h2, ?_⟩
    by_cases hj : j < n0
    · rw [if_pos hj]
      have := unS_less hj hS
      rw [← this, Nat.mul_add, Nat.mul_one] at h3
      omega
    · rw [if_neg hj, unS_same (by omega)]
      omega
  · unfold rR
    exact RdUp.refl _ _ _ _
  · exact hR.1
  · have hin := List.mem_range.1 hi
    have : i < l.length := by omega
    exact ⟨hin, by simp [this]⟩
  · rw [getD_replicate_false] at hj; cases hj
  · have hu := Up.drew (Up.refl w)
    have := unS_le n0 (fun i => ((Array.replicate l.toArray.size false).getD i false = true))
    refine ⟨up_grownBy hu _, N0, hr.up hu, ?_⟩
    have := Nat.mul_le_mul_left c this
    omega
  · exact (Desc.refl a (fun _ => undef)).congr (fun i => by rw [getD_replicate_false]; simp) (fun _ h => h.elim)
  · intro i hi; rw [getD_replicate_false] at hi; cases hi

section
variable {wr : World} {rb : Nat} {B : Value} {n0 c M : Nat} {Z : Act → World → Prop} {o : Oper} {rest : List Oper} {k : Nat} {E : List Mk} {a : Act}
/-- One operation's step, behind a name. -/
def stepR (P : Program) (ops : Array Oper) (wr : World) (rb : Nat) (B : Value) (n0 c M : Nat) (E : List Mk) (k : Nat) (o : Oper) (a : Act) (K : List Mk → Act → Prop) : Prop :=
  (∃ v, (∀ w, rC wr rb B M k w → fills (E.filter fun m => waitsB o m.1) a w (fun a' => gAt P (rR rb B n0 c k) o a' w (fun v' _ => v' = v))) ∧ K E (a.put o.dst v)) ∨
  (∃ D, guardFree ops k = true ∧ (∀ v w w', D v w → rK rb k w w' → D v w') ∧ (∀ w, rC wr rb B M k w → fills (E.filter fun m => waitsB o m.1) a w (fun a' => gAt P (rR rb B n0 c k) o a' w D)) ∧ K ((k, o.dst, D) :: E) a)
theorem wpR_step (h : ∀ K : List Mk → Act → Prop, (∀ E a, WR P ops wr rb B n0 c M Z rest (k + 1) E a → K E a) → if Region.wanted o (yielded ops a.tmps) then stepR P ops wr rb B n0 c M E k o a K else K E (a.put o.dst undef)) : WR P ops wr rb B n0 c M Z (o :: rest) k E a := by
  have := h (fun E a => wpG P ops (rR rb B n0 c) (rK rb) (rC wr rb B M) Z rest (k + 1) E a) fun _ _ h => h.out
  refine ⟨?_⟩
  unfold wpG
  exact this
theorem gAt_rd {o : Oper} {a : Act} {w : World} {D : Value → World → Prop} {R R' : World → World → Prop} (hR : ∀ w', R w w' → R' w w') (h : gAt P R o a w D) : gAt P R' o a w D := by
  unfold gAt at *
  generalize (execOp a.eval o).run P w = r at *
  cases r with
  | ok n w' =>
    cases n with
    | value v => exact ⟨hR _ h.1, h.2⟩
    | skip => exact ⟨hR _ h.1, h.2⟩
    | enter f args => exact ⟨h.1, h.2.mono fun e w'' ⟨v, he, h1, h2⟩ => ⟨v, he, hR _ h1, h2⟩⟩
    | _ => exact h
  | halt x w' => exact h
theorem stepR_c {K : List Mk → Act → Prop} (v : Value) (h1 : ∀ w, wr.grownBy w (some rb) → Rdr rb B w M → fills (E.filter fun m => waitsB o m.1) a w (fun a' => upAt P o a' w (fun v' _ => v' = v))) (h2 : K E (a.put o.dst v)) : stepR P ops wr rb B n0 c M E k o a K :=
  .inl ⟨v, fun w hC => fills_mono (fun a' h => gAt_rd (fun w' h => RdUp.of h) (gAt_up h)) (h1 w hC.1 hC.2), h2⟩
theorem stepR_m {K : List Mk → Act → Prop} (hg : guardFree ops k = true) (D : Value → World → Prop) (hD : ∀ v w w', D v w → w.grownBy w' (some rb) → D v w')
    (h1 : ∀ w, wr.grownBy w (some rb) → Rdr rb B w M → fills (E.filter fun m => waitsB o m.1) a w (fun a' => upAt P o a' w D)) (h2 : K ((k, o.dst, D) :: E) a) : stepR P ops wr rb B n0 c M E k o a K :=
  .inr ⟨D, hg, hD, fun w hC => fills_mono (fun a' h => gAt_rd (fun w' h => RdUp.of h) (gAt_up h)) (h1 w hC.1 hC.2), h2⟩
theorem stepR_d {K : List Mk → Act → Prop} (hk : decide (k < n0) = true) (hg : guardFree ops k = true) (D : Value → World → Prop) (hD : ∀ v w w', D v w → w.grownBy w' (some rb) → D v w')
    (h1 : ∀ w, wr.grownBy w (some rb) → Rdr rb B w M → fills (E.filter fun m => waitsB o m.1) a w (fun a' => gAt P (RdUp rb B c) o a' w D)) (h2 : K ((k, o.dst, D) :: E) a) : stepR P ops wr rb B n0 c M E k o a K := by
  refine .inr ⟨D, hg, hD, fun w hC => ?_, h2⟩
  have e : rR rb B n0 c k = RdUp rb B c := by
    funext w w'; unfold rR; rw [if_pos (of_decide_eq_true hk)]
  rw [e]
  exact h1 w hC.1 hC.2
theorem wpR_nil (h : ∀ w, wr.grownBy w (some rb) → Rdr rb B w M → fills E a w (fun a' => Z a' w)) : WR P ops wr rb B n0 c M Z [] k E a := ⟨fun w hC => h w hC.1 hC.2⟩
end
end

/-- The contract of a function that draws. -/
def Drawn (rb : Nat) (B : Value) (c : Nat) (D : Value → Prop) (w : World) (e : Ending) (w' : World) : Prop := ∃ v, e = .returned v ∧ D v ∧ RdUp rb B c w w'
theorem gOut_drawn {P : Program} {rb : Nat} {B : Value} {c c' : Nat} {D : Value → Prop} {w : World} {f : FuncId} {args : Array Value} (h : Calls P f args w (Drawn rb B c' D w)) (hc : c' ≤ c) : gOut P (RdUp rb B c) (fun v _ => D v) w (.ok (.enter f args) w) :=
  ⟨rfl, h.mono fun e w' ⟨v, h1, h2, h3⟩ => ⟨v, h1, h3.mono hc, h2⟩⟩
def IsInt (lo hi : Int) (v : Value) : Prop := ∃ i : Int, v = .int .i64 i ∧ lo ≤ i ∧ i ≤ hi
def IsStr (n : Nat) (v : Value) : Prop := ∃ s : ByteArray, v = .string s ∧ s.size ≤ n
end Go.Proofs.YtmjpopfacagjhaaDoor
