/- Walks of the reference's reader. Conditions: the reader is one (Rdr), its place is bounded. -/
import Derived.Test.YtmjpopfacagjhaaDoorRd
namespace Go.Proofs.YtmjpopfacagjhaaDoor
set_option linter.unusedVariables false
set_option linter.unusedSimpArgs false
open Go Go.RowKit

theorem xor_nat (a b : Nat) (ha : a < 2 ^ 62) (hb : b < 2 ^ 62) : bits .xor .i64 (a : Int) (b : Int) = ((a ^^^ b : Nat) : Int) := by
  have hp : (2 : Nat) ^ 62 ≤ 2 ^ IntKind.i64.bits := by decide
  have ha' : a % 2 ^ IntKind.i64.bits = a := Nat.mod_eq_of_lt (Nat.lt_of_lt_of_le ha hp)
  have hb' : b % 2 ^ IntKind.i64.bits = b := Nat.mod_eq_of_lt (Nat.lt_of_lt_of_le hb hp)
  have hx := Nat.xor_lt_two_pow ha hb
  simp only [bits, BitVec.ofInt_natCast, BitVec.toNat_xor, BitVec.toNat_ofNat, ha', hb']
  exact IntWalk.i64_in _ (by omega)
/-- What the reader makes of a sum that is not negative. -/
theorem xor_ok (x : Int) (h0 : 0 ≤ x) (h1 : x ≤ 4611686018427387903) : 0 ≤ bits .xor .i64 x (x / 64) := by
  obtain ⟨a, rfl⟩ := Int.eq_ofNat_of_zero_le h0
  have e : ((a : Int) / 64) = ((a / 64 : Nat) : Int) := by omega
  rw [e, xor_nat a (a / 64) (by omega) (by omega)]
  exact Int.natCast_nonneg _
def pickB (n : Int) (v : Value) : Prop := ∃ i : Int, v = .int .i64 i ∧ 0 ≤ i ∧ (i < n ∨ i = 0)
theorem Rdr.set {rb : Nat} {B : Value} {w : World} {p : Nat} (h : w.heap[rb]? = some (.cells #[B, .int .i64 p] 61)) : RdUp rb B 1 w (w.setCell ⟨rb, 1, none⟩ (.int .i64 (p + 1))) := by
  have hg : w.grownBy (w.setCell ⟨rb, 1, none⟩ (.int .i64 (p + 1))) (some rb) := grownBy_set (grownBy_refl w (some rb)) 1 _
  refine ⟨hg, fun N hN => ⟨⟨p + 1, ?_, ?_⟩, hN.2.gr hg⟩⟩
  · obtain ⟨⟨q, h1, h2⟩, _⟩ := hN
    rw [h] at h2
    simp at h2
    omega
  · have := box_set h 1 (.int .i64 (p + 1))
    simpa using this

set_option maxRecDepth 100000 in
set_option maxHeartbeats 2000000 in
theorem pick_any (rb : Nat) (B : Value) (n : Int) (w : World) (N : Nat) (h : Rdr rb B w N) (hN : N ≤ 1099511627776) :
    Calls Tryd.prog 23  #[.pointer (some ⟨rb, 0, none⟩), .int .i64 n] w (Drawn rb B 1 (pickB n) w) := by
  have hlt := h.lt
  obtain ⟨⟨p, hp, hh⟩, l, a, cap, rfl, hl1, hl2, hl3, hcells⟩ := h
  have r0 := box_cell hh 0
  have r1 := box_cell hh 1
  have hfr := box_free hh
  have HU := Lib.hid (Rdr.set hh)
  simp at r0 r1
  unfold maxLen at hl3
  clear hh
  by_cases h1 : n < 1
  · go_enter Tryd.func23, Tryd.ntmps23
    go_wp2
    go_ret
    exact ⟨_, rfl, ⟨0, rfl, Int.le_refl _, .inr rfl⟩, HU.out⟩
  · have hcl : ∀ q (hq : q < l.length), ∃ b off, a = some ⟨b, off, none⟩ ∧ b < w.heap.size ∧ (w.setCell ⟨rb, 1, none⟩ (.int .i64 (p + 1))).cell? ⟨b, off + q, none⟩ = some (.int .u8 l[q].toNat) := fun q hq => by
      obtain ⟨b, off, e1, e2, e3, e4⟩ := hcells (by omega)
      exact ⟨b, off, e1, e2, ((gcell HU.out.1).1 b _ e2 (fun e => e3 (Option.some.inj e))).trans (e4 q _ (List.getElem?_eq_getElem hq))⟩
    clear hcells
    by_cases h2 : l.length = 0
    · have h2' : (((l.length : Nat) : Int) == 0) = true := by simp [h2]
      have HZ := Lib.hid h2
      clear h2
      go_enter Tryd.func23, Tryd.ntmps23
      go_wp2
      go_ret
      exact ⟨_, rfl, ⟨0, rfl, Int.le_refl _, .inr rfl⟩, HU.out⟩
    · have h2' : (((l.length : Nat) : Int) == 0) = false := by simpa using h2
      have hl0 : 0 < l.length := by omega
      by_cases h3 : p < l.length
      · obtain ⟨b, off, rfl, hbl, hx⟩ := hcl p h3
        have hx1 := u8_bd l[p]
        have hx0 : (0 : Int) ≤ (l[p].toNat : Int) := Int.natCast_nonneg _
        generalize (l[p].toNat : Int) = x at *
        have hm0 : 0 ≤ x % n := Int.emod_nonneg _ (by omega)
        have hm1 : x % n < n := Int.emod_lt_of_pos _ (by omega)
        clear hcl
        go_enter Tryd.func23, Tryd.ntmps23
        go_wp2
        go_ret
        exact ⟨_, rfl, ⟨_, rfl, hm0, .inl hm1⟩, HU.out⟩
      · obtain ⟨b, off, rfl, hbl, hx⟩ := hcl (p % l.length) (Nat.mod_lt _ hl0)
        obtain ⟨b', off', e, hbl', hy⟩ := hcl ((p * 7 + 3) % l.length) (Nat.mod_lt _ hl0)
        cases e
        have hx1 := u8_bd (l[p % l.length]'(Nat.mod_lt _ hl0))
        have hx0 : (0 : Int) ≤ ((l[p % l.length]'(Nat.mod_lt _ hl0)).toNat : Int) := Int.natCast_nonneg _
        have hy1 := u8_bd (l[(p * 7 + 3) % l.length]'(Nat.mod_lt _ hl0))
        have hy0 : (0 : Int) ≤ ((l[(p * 7 + 3) % l.length]'(Nat.mod_lt _ hl0)).toNat : Int) := Int.natCast_nonneg _
        generalize ((l[p % l.length]'(Nat.mod_lt _ hl0)).toNat : Int) = x at *
        generalize ((l[(p * 7 + 3) % l.length]'(Nat.mod_lt _ hl0)).toNat : Int) = y at *
        have em : ((p : Int) % (l.length : Int)) = ((p % l.length : Nat) : Int) := by omega
        have hz : ∀ z : Nat, ((z : Int) % (l.length : Int)) = ((z % l.length : Nat) : Int) := fun z => by omega
        have em2 : (((p : Int) * 7 + 3) % (l.length : Int)) = (((p * 7 + 3) % l.length : Nat) : Int) := by rw [show ((p : Int) * 7 + 3) = ((p * 7 + 3 : Nat) : Int) by omega]; exact hz _
        clear hz
        have hq1 := Nat.mod_lt p hl0
        have hq2 := Nat.mod_lt (p * 7 + 3) hl0
        have hd : p / l.length ≤ p := Nat.div_le_self _ _
        have ed : ((p : Int) / (l.length : Int)) = ((p / l.length : Nat) : Int) := by omega
        generalize p % l.length = q1 at *
        generalize (p * 7 + 3) % l.length = q2 at *
        generalize p / l.length = q3 at *
        have hs0 : 0 ≤ x * 131 + y * 1117 + (p : Int) * 29 + (q3 : Int) * 53 := by omega
        have hs1 : x * 131 + y * 1117 + (p : Int) * 29 + (q3 : Int) * 53 ≤ 4611686018427387903 := by omega
        have hxo := xor_ok _ hs0 hs1
        clear hcl
        go_enter Tryd.func23, Tryd.ntmps23
        go_wp2
        refine wp_region_up 45 (by kernel_rfl) (by kernel_rfl) ?_
        simp only [List.take, List.drop]
        repeat (refine wpUp_step (fun K hK => ?_); go_simp; (try simp only [↓IntWalk.iteOmega]); first
          | (refine hK _ _ ?_; clear hK K)
          | (apply stepU_c
             · intro wq hwq; (have hbq := bcell hwq; (repeat (first | refine fills_no (by rfl) ?_ | refine fills_yes (by rfl) (fun vq hvq => ?_))); simp only [List.filter_nil, fills]; unfold upAt; go_simp; (try go_bits); (try simp only [↓IntWalk.iteOmega]); (try (rw [dif_pos (by omega)]; go_simp; try go_bits)); first | exact upOut_value)
             go_simp; refine hK _ _ ?_; clear hK K))
        refine wpUp_nil (fun wq hwq => ?_)
        simp only [fills]
        go_wp2
        go_ret
        exact ⟨_, rfl, ⟨_, rfl, Int.emod_nonneg _ (by omega), .inl (Int.emod_lt_of_pos _ (by omega))⟩, HU.out.trans (RdUp.of (c := 0) hwq)⟩


/-- A list of numbers that can be read, in another block than rb. -/
def RdInts (rb : Nat) (w : World) (v : Value) (l : List Int) : Prop := ∃ b off cap, v = .slice (some ⟨b, off, none⟩) l.length cap ∧ l.length ≤ cap ∧ cap ≤ maxLen ∧ b < w.heap.size ∧ b ≠ rb ∧ ∀ i x, l[i]? = some x → w.cell? ⟨b, off + i, none⟩ = some (.int .i64 x)
def oneOf (l : List Int) (v : Value) : Prop := ∃ i : Int, v = .int .i64 i ∧ i ∈ l

set_option maxRecDepth 100000 in
set_option maxHeartbeats 2000000 in
theorem num_any (rb : Nat) (B : Value) (l : List Int) (v : Value) (w : World) (N : Nat) (h : Rdr rb B w N) (hN : N ≤ 1099511627776) (hr : RdInts rb w v l) (hl : 0 < l.length) :
    Calls Tryd.prog 24  #[.pointer (some ⟨rb, 0, none⟩), v] w (Drawn rb B 1 (oneOf l) w) := by
  obtain ⟨b, off, cap, rfl, h1, h2, h3, h4, h5⟩ := hr
  have cP := fun wx h => pick_any rb B (l.length : Int) wx N h hN
  unfold maxLen at h2
  go_enter Tryd.func24, Tryd.ntmps24
  go_wp2_with (go_at_call 23; (with_reducible refine (cP _ h).mono ?_); rintro e w1 ⟨v1, rfl, ⟨i, rfl, hi0, hi1⟩, U1⟩; obtain ⟨j, rfl⟩ := Int.eq_ofNat_of_zero_le hi0; have hjl : j < l.length := (by omega); have hx := ((gcell U1.1).1 b (off + j) h3 (fun e => h4 (Option.some.inj e))).trans (h5 j l[j] (List.getElem?_eq_getElem hjl)))
  go_ret
  exact ⟨_, rfl, ⟨_, rfl, List.getElem_mem hjl⟩, U1⟩

set_option maxRecDepth 100000 in
theorem open_any (v : Value) (l : List UInt8) (w : World) (a : Option Addr) (cap : Nat) (hv : v = .slice a l.length cap) (h1 : l.length ≤ cap) (h2 : cap ≤ maxLen)
    (h3 : 0 < l.length → ∃ b off, a = some ⟨b, off, none⟩ ∧ b < w.heap.size ∧ ∀ i x, l[i]? = some x → w.cell? ⟨b, off + i, none⟩ = some (.int .u8 x.toNat)) :
    Calls Tryd.prog 22  #[v] w (fun e w' => ∃ B, e = .returned (.pointer (some ⟨w.heap.size, 0, none⟩)) ∧ Rdr w.heap.size B w' 0 ∧ Up w w') := by
  subst hv
  unfold maxLen at h2
  have HC := Lib.hid h3
  clear h3
  by_cases hl : l.length ≤ 2000
  · go_enter Tryd.func22, Tryd.ntmps22
    go_wp2
    go_ret
    refine ⟨.slice a l.length cap, rfl, ⟨⟨0, Nat.le_refl _, (MapKept.heap_alloc w _).1⟩, l, a, cap, rfl, hl, h1, by unfold maxLen; omega, fun hp => ?_⟩, (Up.refl _).alloc _⟩
    obtain ⟨b, off, e1, e2, e3⟩ := HC.out hp
    exact ⟨b, off, e1, by simp; omega, by omega, fun i x hi => ((Up.alloc (Up.refl w) _).cell (p := ⟨b, off + i, none⟩) e2).trans (e3 i x hi)⟩
  · have hlt : (l.take 2000).length = 2000 := by rw [List.length_take]; omega
    go_enter Tryd.func22, Tryd.ntmps22
    go_wp2
    go_ret
    refine ⟨.slice a 2000 cap, rfl, ⟨⟨0, Nat.le_refl _, (MapKept.heap_alloc w _).1⟩, l.take 2000, a, cap, by rw [hlt], by omega, by omega, by unfold maxLen; omega, fun hp => ?_⟩, (Up.refl _).alloc _⟩
    obtain ⟨b, off, e1, e2, e3⟩ := HC.out (by omega)
    refine ⟨b, off, e1, by simp; omega, by omega, fun i x hi => ((Up.alloc (Up.refl w) _).cell (p := ⟨b, off + i, none⟩) e2).trans (e3 i x ?_)⟩
    rw [List.getElem?_take] at hi
    split at hi
    · exact hi
    · cases hi

/-- What has been drawn and made since a call's begin, step by step. -/
theorem RdUp.step {rb : Nat} {B : Value} {c : Nat} {w0 w w' : World} (h : RdUp rb B c w0 w) (hg : w0.grownBy w' (some rb)) (hrb : rb < w0.heap.size → w'.heap[rb]? = w.heap[rb]?) : RdUp rb B c w0 w' :=
  ⟨hg, fun N hN => by
    obtain ⟨p, h1, h2⟩ := (h.2 N hN).1
    exact ⟨⟨p, h1, (hrb hN.lt).trans h2⟩, hN.2.gr hg⟩⟩
theorem RdUp.alloc {rb : Nat} {B : Value} {c : Nat} {w0 w : World} (h : RdUp rb B c w0 w) (o : Obj) : RdUp rb B c w0 (w.alloc o) :=
  h.trans (d := 0) (RdUp.of ((Up.refl w).alloc o))
theorem RdUp.drew {rb : Nat} {B : Value} {c : Nat} {w0 w : World} (h : RdUp rb B c w0 w) : RdUp rb B c w0 w.drew :=
  h.trans (d := 0) (RdUp.of ((Up.refl w).drew))
theorem RdUp.ups {rb : Nat} {B : Value} {c : Nat} {w0 w w' : World} (h : RdUp rb B c w0 w) (hu : Up w w') : RdUp rb B c w0 w' := h.trans (d := 0) (RdUp.of hu)
theorem RdUp.set {rb : Nat} {B : Value} {c : Nat} {w0 w : World} (h : RdUp rb B c w0 w) {p : Addr} (hp : w0.heap.size ≤ p.block) (u : Value) : RdUp rb B c w0 (w.setCell p u) :=
  h.step ⟨h.1.os, h.1.tape, h.1.output, by simpa [World.setCell] using h.1.size, fun k hk hne => (Below.heap_setCell w p u k (by omega)).trans (h.1.block k hk hne)⟩ (fun hr => Below.heap_setCell w p u rb (by omega))
theorem RdUp.gr {rb : Nat} {B : Value} {c : Nat} {w0 w w' : World} (h : RdUp rb B c w0 w) {row : Option Nat} (hg : w.grownBy w' row) (hr : ∀ k, row = some k → w0.heap.size ≤ k) : RdUp rb B c w0 w' :=
  h.step ⟨hg.os.trans h.1.os, hg.tape.trans h.1.tape, hg.output.trans h.1.output, Nat.le_trans h.1.size hg.size, fun k hk hne => (hg.block k (Nat.lt_of_lt_of_le hk h.1.size) (fun e => by have := hr k e.symm; omega)).trans (h.1.block k hk hne)⟩
    (fun hlt => hg.block rb (Nat.lt_of_lt_of_le hlt h.1.size) (fun e => by have := hr rb e.symm; omega))

theorem RdUp.fin {rb : Nat} {B : Value} {c d : Nat} {w0 w1 w : World} (hU : RdUp rb B c w0 w1) (hx : ∀ c, RdUp rb B c w0 w1 → RdUp rb B c w0 w) (hc : c ≤ d) : RdUp rb B d w0 w := (hx c hU).mono hc
theorem pick_at {rb : Nat} {B : Value} {c N : Nat} {w0 w1 w : World} {n : Int} (h : Rdr rb B w0 N) (hU1 : RdUp rb B c w0 w1) (hx : ∀ c, RdUp rb B c w0 w1 → RdUp rb B c w0 w) (hN : N + c ≤ 1099511627776) :
    Calls Tryd.prog 23  #[.pointer (some ⟨rb, 0, none⟩), .int .i64 n] w (fun e w' => ∃ i : Int, e = .returned (.int .i64 i) ∧ 0 ≤ i ∧ (i < n ∨ i = 0) ∧ RdUp rb B (c + 1) w0 w' ∧ RdUp rb B 1 w w') :=
  (pick_any rb B n w (N + c) ((hx c hU1).2 N h) hN).mono fun e w' ⟨v, he, ⟨i, hv, h1, h2⟩, hu⟩ => ⟨i, by rw [he, hv], h1, h2, (hx c hU1).trans hu, hu⟩
theorem draw_at {rb : Nat} {B : Value} {c d N : Nat} {w0 w1 w : World} {D : Value → Prop} {f : FuncId} {args : Array Value} (hf : ∀ w N, Rdr rb B w N → N ≤ 1000000000 → Calls Tryd.prog f args w (Drawn rb B d D w)) (h : Rdr rb B w0 N) (hU1 : RdUp rb B c w0 w1) (hx : ∀ c, RdUp rb B c w0 w1 → RdUp rb B c w0 w) (hN : N + c ≤ 1000000000) :
    Calls Tryd.prog f args w (fun e w' => ∃ v, e = .returned v ∧ D v ∧ RdUp rb B (c + d) w0 w' ∧ RdUp rb B d w w') :=
  (hf w (N + c) ((hx c hU1).2 N h) hN).mono fun e w' ⟨v, he, h1, hu⟩ => ⟨v, he, h1, (hx c hU1).trans hu, hu⟩
theorem num_at {rb : Nat} {B : Value} {c N : Nat} {w0 w : World} {g n cap : Nat} {cs : Array Value} {T : TypeId} (l : List Int) (h : Rdr rb B w0 N) {w1 : World} (hU1 : RdUp rb B c w0 w1) (hx : ∀ c, RdUp rb B c w0 w1 → RdUp rb B c w0 w) (hN : N + c ≤ 1099511627776) (hg : g = w.heap.size) (hn : n = l.length) (hc : cap = n) (hl : 0 < l.length) (hl2 : l.length ≤ 100) (hcs : cs = (l.map (Value.int .i64)).toArray) :
    Calls Tryd.prog 24  #[.pointer (some ⟨rb, 0, none⟩), .slice (some ⟨g, 0, none⟩) n cap] (w.alloc (.cells cs T)) (fun e w' => ∃ i : Int, e = .returned (.int .i64 i) ∧ i ∈ l ∧ RdUp rb B (c + 1) w0 w' ∧ RdUp rb B 1 (w.alloc (.cells cs T)) w') := by
  subst hg hn hc hcs
  have hU := hx c hU1
  have hr := hU.2 N h
  have hlt := hr.lt
  refine (num_any rb B l (.slice (some ⟨w.heap.size, 0, none⟩) l.length l.length) (w.alloc (.cells (l.map (Value.int .i64)).toArray T)) (N + c) ((hU.alloc _).2 N h) hN ⟨w.heap.size, 0, l.length, rfl, Nat.le_refl _, by unfold maxLen; omega, by simp, by omega, fun i x hi => ?_⟩ hl).mono fun e w' ⟨v, he, ⟨i, hv, h1⟩, hu⟩ => ⟨i, by rw [he, hv], h1, (hU.alloc _).trans hu, hu⟩
  rw [box_cell (MapKept.heap_alloc w _).1, Nat.zero_add]
  simp [hi]

end Go.Proofs.YtmjpopfacagjhaaDoor
