/- Texts joined into one: the walks and laws that the last text leans on. Conditions: as each says. -/
import Derived.Test.YtgbakgaegldomaaGreatMFnWriterKnownLawXJ
import Derived.Test.YtgbakgaegldomaaGreatMFnWriterKnownLawJ

set_option linter.unusedVariables false
set_option linter.unusedSimpArgs false
/- Walks of the reference's l9OwnKnown, l3Copy, l9OwnWriter, BitsValid, WriterValid, NewWriter. Conditions: the pairs can be read. -/
namespace Go.Proofs.YtgbakgaegldomaaGreat
open Go Go.RowKit
theorem wpList_copyE {ops : Array Oper} {rest : List Oper} {o : Oper} {a : Act} {w : World} {Q : Exit → Act → World → Prop} (hgd : o.guard = none) (s x : Operand)
    (ho : o.op = .call { callee := .builtin .append, args := #[s, x], argTypes := #[25, 25] }) (base lo : Nat) {vs vx : Value} (hs : a.eval s = vs) (hx : a.eval x = vx) {g : Nat} (hvs : vs = .slice (some ⟨g, 0, none⟩) 0 0) (hown : w.ownsRow base 118 2 vs 0 []) (ps : List PairD) (hr : RdP lo w vx ps) (hl : ps.length ≤ 1048576) (hbase : base ≤ w.heap.size)
    (h : ∀ v' w', ownPr w' base v' ps → Up w w' → wpList Tryz.prog ops Q rest (a.put o.dst v') w') : wpList Tryz.prog ops Q (o :: rest) a w :=
  wpList_plain hgd fun _ hK => (gAt_up (upAt_copy s x ho base lo hs hx hvs hown ps hr hl hbase)).wp (fun v' w' hu hD => hK _ _ (h v' w' hD hu))
theorem own_empty2 (w : World) (A B : Obj) : (((w.alloc A).alloc B).alloc (.cells #[] 118)).ownsRow (w.heap.size + 2) 118 2 (.slice (some ⟨w.heap.size + 1 + 1, 0, none⟩) 0 0) 0 [] := by
  have h := World.ownsRow_made (base := w.heap.size + 2) (e := 118) (size := 2) ((w.alloc A).alloc B) #[] 0 (by simp) (by unfold maxLen; omega) (by simp)
  simpa using h
theorem own_empty3 (w : World) (A B C : Obj) : ((((w.alloc A).alloc B).alloc C).alloc (.cells #[] 118)).ownsRow (w.heap.size + 3) 118 2 (.slice (some ⟨w.heap.size + 1 + 1 + 1, 0, none⟩) 0 0) 0 [] := by
  have h := World.ownsRow_made (base := w.heap.size + 3) (e := 118) (size := 2) (((w.alloc A).alloc B).alloc C) #[] 0 (by simp) (by unfold maxLen; omega) (by simp)
  simpa using h
set_option maxRecDepth 100000 in
set_option maxHeartbeats 4000000 in
theorem ownKS_any (k : KnD) (v : Value) (lo : Nat) (w : World) (hr : RdP lo w v k.ps) (hl : k.ps.length ≤ 1048576) :
    Calls Tryz.prog 120  #[kV k v] w (KnPost k w) := by
  have hrt := fun (wq : World) (hu : Up w wq) => hr.up hu
  obtain ⟨a, cap, rfl, -, -, -, -⟩ := hr
  simp only [kV]
  have hn2 : w.heap.size + 2 ≤ ((w.alloc (.cells #[.int .i64 k.set.ord, .int .i64 k.set.lit, .int .i64 k.set.most, .slice a k.ps.length cap, .int .i64 k.base, .int .i64 k.last] 27)).alloc (.cells #[.int .i64 0, .int .i64 0, .int .i64 0, .slice none 0 0, .int .i64 0, .int .i64 0] 27)).heap.size := by simp
  go_enter Tryz.func120, Tryz.ntmps120
  go_wp2_with (at_builtin; refine wpList_copyE rfl _ _ rfl (w.heap.size + 2) lo rfl rfl rfl (own_empty2 w _ _) k.ps (hrt _ (by (repeat (first | with_reducible exact Up.refl _ | with_reducible assumption | with_reducible refine Up.set ?_ (by first | exact Nat.le_refl _ | (simp only []; omega) | (simp; omega)) _ | with_reducible refine Up.alloc ?_ _ | with_reducible refine Up.drew ?_ | refine Up.trans ?_ (by with_reducible assumption))))) hl (by simp) ?_; rintro v2 w2 hv2 hU2; obtain ⟨a2, c2, rfl⟩ := ownsRow_shape hv2; obtain ⟨hb0, r0, r1, r2, r3, r4, r5⟩ := KnAt.cells (b := w.heap.size) (k := k) (v := .slice a k.ps.length cap) (box_up hU2 (box_up (((Up.refl _).alloc _).alloc _) (MapKept.heap_alloc w _).1)); have hf0 := box_free (box_up hU2 (box_up (((Up.refl _).alloc _).alloc _) (MapKept.heap_alloc w _).1)); obtain ⟨hb1, q0, q1, q2, q3, q4, q5⟩ := KnAt.cells (b := w.heap.size + 1) (k := ⟨⟨0, 0, 0⟩, [], 0, 0⟩) (v := .slice none 0 0) (box_up hU2 (alloc3 w _ _ _)); have hf1 := box_free (box_up hU2 (alloc3 w _ _ _)); have HV := Lib.hid hv2; clear hv2)
  refine bodyPost_ret (v := kV k (.slice a2 k.ps.length c2)) (by simp [results, Tryz.results120, go_sem, q0, q1, q2, q3, q4, q5]) rfl ⟨_, rfl, ?_, ?_⟩
  · refine ownsRow_base (base := w.heap.size + 2) ?_ (by omega)
    repeat (with_reducible refine ownsRow_setne ?_ (by omega) _ _)
    exact HV.out
  · (repeat (first | with_reducible exact Up.refl _ | with_reducible assumption | with_reducible refine Up.set ?_ (by first | exact Nat.le_refl _ | (simp only []; omega) | (simp; omega)) _ | with_reducible refine Up.alloc ?_ _ | with_reducible refine Up.drew ?_ | refine Up.trans ?_ (by with_reducible assumption)))
theorem alloc3c (w : World) (A B C : Obj) : (((w.alloc A).alloc B).alloc C).heap[w.heap.size + 1 + 1]? = some C := by
  have h := (MapKept.heap_alloc ((w.alloc A).alloc B) C).1
  rw [size_alloc, size_alloc] at h
  exact h
set_option maxRecDepth 100000 in
set_option maxHeartbeats 4000000 in
theorem copyS_any (k : KnD) (v : Value) (lo : Nat) (w : World) (hr : RdP lo w v k.ps) (hl : k.ps.length ≤ 1048576) :
    Calls Tryz.prog 78  #[kV k v] w (KnPost k w) := by
  have hrt := fun (wq : World) (hu : Up w wq) => hr.up hu
  obtain ⟨a, cap, rfl, -, -, -, -⟩ := hr
  simp only [kV]
  have hn2 : w.heap.size + 2 ≤ ((w.alloc (.cells #[.int .i64 k.set.ord, .int .i64 k.set.lit, .int .i64 k.set.most, .slice a k.ps.length cap, .int .i64 k.base, .int .i64 k.last] 27)).alloc (.cells #[.int .i64 0, .int .i64 0, .int .i64 0, .slice none 0 0, .int .i64 0, .int .i64 0] 27)).heap.size := by simp
  go_enter Tryz.func78, Tryz.ntmps78
  go_wp2_with (at_builtin; refine wpList_copyE rfl _ _ rfl (w.heap.size + 3) lo rfl rfl rfl (own_empty3 w _ _ _) k.ps (hrt _ (by (repeat (first | with_reducible exact Up.refl _ | with_reducible assumption | with_reducible refine Up.set ?_ (by first | exact Nat.le_refl _ | (simp only []; omega) | (simp; omega)) _ | with_reducible refine Up.alloc ?_ _ | with_reducible refine Up.drew ?_ | refine Up.trans ?_ (by with_reducible assumption))))) hl (by simp) ?_; rintro v2 w2 hv2 hU2; obtain ⟨a2, c2, rfl⟩ := ownsRow_shape hv2; obtain ⟨hb1, q0, q1, q2, q3, q4, q5⟩ := KnAt.cells (b := w.heap.size + 1) (k := ⟨⟨0, 0, 0⟩, [], 0, 0⟩) (v := .slice none 0 0) (box_up hU2 (box_up ((Up.refl _).alloc _) (alloc3 w _ _ _))); have hf1 := box_free (box_up hU2 (box_up ((Up.refl _).alloc _) (alloc3 w _ _ _))); obtain ⟨hb2, s0, s1, s2, s3, s4, s5⟩ := KnAt.cells (b := w.heap.size + 1 + 1) (k := k) (v := .slice a k.ps.length cap) (box_up hU2 (box_up ((Up.refl _).alloc _) (alloc3c w _ _ _))); have hf2 := box_free (box_up hU2 (box_up ((Up.refl _).alloc _) (alloc3c w _ _ _))); have HV := Lib.hid hv2; clear hv2)
  refine bodyPost_ret (v := kV k (.slice a2 k.ps.length c2)) (by simp [results, Tryz.results78, go_sem, q0, q1, q2, q3, q4, q5]) rfl ⟨_, rfl, ?_, ?_⟩
  · refine ownsRow_base (base := w.heap.size + 3) ?_ (by omega)
    repeat (with_reducible refine ownsRow_setne ?_ (by omega) _ _)
    exact HV.out
  · (repeat (first | with_reducible exact Up.refl _ | with_reducible assumption | with_reducible refine Up.set ?_ (by first | exact Nat.le_refl _ | (simp only []; omega) | (simp; omega)) _ | with_reducible refine Up.alloc ?_ _ | with_reducible refine Up.drew ?_ | refine Up.trans ?_ (by with_reducible assumption)))
def WoPost (x : WrD) (w : World) (e : Ending) (w' : World) : Prop := ∃ v, e = .returned (wrV x v) ∧ ownPr w' w.heap.size v x.k.ps ∧ Up w w'
set_option maxRecDepth 100000 in
set_option maxHeartbeats 4000000 in
theorem ownWS_any (x : WrD) (v : Value) (lo : Nat) (w : World) (hr : RdP lo w v x.k.ps) (hl : x.k.ps.length ≤ 1048576) :
    Calls Tryz.prog 79  #[wrV x v] w (WoPost x w) := by
  have hrt := fun (wq : World) (hu : Up w wq) => hr.up hu
  have cO := fun wq hr => ownKS_any x.k v lo wq hr hl
  obtain ⟨a, cap, rfl, -, -, -, -⟩ := hr
  unfold wrV
  simp only [kV] at *
  go_enter Tryz.func79, Tryz.ntmps79
  go_wp2_with (first | (go_at_call 120; (with_reducible refine (cO _ (hrt _ (by (repeat (first | with_reducible exact Up.refl _ | with_reducible assumption | with_reducible refine Up.set ?_ (by first | exact Nat.le_refl _ | (simp only []; omega) | (simp; omega)) _ | with_reducible refine Up.alloc ?_ _ | with_reducible refine Up.drew ?_ | refine Up.trans ?_ (by with_reducible assumption)))))).mono ?_); rintro e w2 ⟨v2, rfl, ho2, U2⟩; obtain ⟨a2, c2, rfl⟩ := ownsRow_shape ho2; simp only [kV]; obtain ⟨hbz, q0, q1, q2, q3, q4, q5, q6, q7, q8⟩ := WrAt.cells (WrAt.zero (box_up U2 (alloc2 w _ _))); simp only [wr0] at q0 q1 q2 q3 q4 q5 q6 q7 q8; have hfz := box_free (box_up U2 (alloc2 w _ _)); have hx2 : WrAt w.heap.size x (.slice a x.k.ps.length cap) w2 := box_up U2 (box_up ((Up.refl _).alloc _) (MapKept.heap_alloc w _).1); obtain ⟨hbx, r0, r1, r2, r3, r4, r5, r6, r7, r8⟩ := WrAt.cells hx2; have hfx := box_free hx2; have HO := Lib.hid ho2; have HU := Lib.hid (show Up w w2 by (repeat (first | with_reducible exact Up.refl _ | with_reducible assumption | with_reducible refine Up.set ?_ (by first | exact Nat.le_refl _ | (simp only []; omega) | (simp; omega)) _ | with_reducible refine Up.alloc ?_ _ | with_reducible refine Up.drew ?_ | refine Up.trans ?_ (by with_reducible assumption)))); clear ho2 hx2) | fail)
  refine bodyPost_ret (v := wrV x (.slice a2 x.k.ps.length c2)) (by simp [results, Tryz.results79, go_sem, q0, q1, q2, q3, q4, q5, q6, q7, q8]; rfl) rfl ⟨_, rfl, ?_, ?_⟩
  · have ho := ownsRow_base (base' := w.heap.size + 2) HO.out (by simp)
    refine ownsRow_base (base := w.heap.size + 2) ?_ (by omega)
    repeat (with_reducible refine ownsRow_setne ?_ (by omega) _ _)
    exact ho
  · exact WrW.up (KnW.up HU.out (Nat.le_refl _) x.k _) (Nat.le_succ _) x _
set_option maxRecDepth 100000 in
set_option maxHeartbeats 1000000 in
theorem bvS_any (s : ByteArray) (w : World) (hs : s.size ≤ 1073741824) :
    Calls Tryz.prog 121  #[.string s] w (fun e w' => e = .returned (.bool (bvB s.data.toList)) ∧ w = w') := by
  have hlen := ba_len s
  go_enter Tryz.func121, Tryz.ntmps121
  go_wp2
  go_loopw [3] (fun i wr => RelBg s i w wr) (fun i _ => s.size - (intOf i).toNat)
  case atStart => exact ⟨0, rfl, Nat.zero_le _, fun q _ h => absurd h (Nat.not_lt_zero _), rfl⟩
  case round =>
    obtain ⟨j, rfl, hj, hall, rfl⟩ := hrel
    have HA := Lib.hid hall
    clear hall
    by_cases hlt : j < s.size
    · have HN : Hid ((s[j].toNat = 48 ∨ s[j].toNat = 49) → ∀ q (hq : q < s.size), q < j + 1 → s[q].toNat = 48 ∨ s[q].toNat = 49) := fun h q hq hqj => by
        rcases Nat.lt_or_ge q j with h' | h'
        · exact HA.out q hq h'
        · have : q = j := by omega
          subst this; exact h
      by_cases h1 : s[j].toNat = 48
      · have HN' := Lib.hid (HN.out (.inl h1))
        clear HN HA
        go_wp2
        go_roundw
        case rel => exact ⟨j + 1, by go_num, by omega, HN'.out, rfl⟩
        case measure => simp [intOf]; omega
      · by_cases h2 : s[j].toNat = 49
        · have HN' := Lib.hid (HN.out (.inr h2))
          clear HN HA
          go_wp2
          go_roundw
          case rel => exact ⟨j + 1, by go_num, by omega, HN'.out, rfl⟩
          case measure => simp [intOf]; omega
        · have HB : Hid (bitsB s.data.toList = false) := bitsB_no hlt (fun h => h.elim h1 h2)
          have HV : Hid (bvB s.data.toList = false) := by unfold Hid bvB; rw [HB.out, Bool.and_false]
          have hb1 : ((s[j].toNat : Int) != 48) = true := by simp; omega
          have hb2 : ((s[j].toNat : Int) != 49) = true := by simp; omega
          clear HN HA
          go_wp2
          go_ret
          exact ⟨ret_bool HV.out.symm, rfl⟩
    · have HB : Hid (bitsB s.data.toList = true) := bitsB_yes fun q hq => HA.out q hq (by omega)
      have HV : Hid (bvB s.data.toList = decide ((s.size : Int) ≤ 32000)) := by
        unfold Hid bvB
        rw [HB.out, hlen, Bool.and_true]
        by_cases h4 : s.size ≤ 32000
        · rw [decide_eq_true h4, decide_eq_true (by omega)]
        · rw [decide_eq_false h4, decide_eq_false (by omega)]
      go_wp2
      go_ret
      exact ⟨ret_bool HV.out.symm, rfl⟩
set_option maxRecDepth 100000 in
set_option maxHeartbeats 8000000 in
theorem wvS_any (x : WrD) (v : Value) (lo : Nat) (w : World) (hr : RdP lo w v x.k.ps) (hps : x.k.ps.length ≤ 1073741824) (hp : x.pend.length ≤ 1073741824) (hb : x.bits.length ≤ 1073741824) :
    Calls Tryz.prog 80  #[wrV x v] w (Same (.bool (wrvB x)) w) := by
  have cV := fun wq hr => kvS_gen x.k v lo wq hr hps
  have hrt := fun (wq : World) (hu : Up w wq) => hr.up hu
  have hsp := bs_size x.pend
  have hsb := bs_size x.bits
  have cF := fun wq => fitsS_any x.k.set (bs x.pend) wq (by omega)
  have cB := fun wq => bvS_any (bs x.bits) wq (by omega)
  rw [bs_data] at cF cB
  obtain ⟨a, cap, rfl, -, -, -, -⟩ := id hr
  unfold wrV
  cases h1 : validK x.k
  · rw [wrvB_k h1]
    rw [h1] at cV
    clear h1 hr
    simp only [kV] at *
    go_enter Tryz.func80, Tryz.ntmps80
    go_wp2_with (first | (go_at_call 77; (with_reducible refine (cV _ (hrt _ (by (repeat (first | with_reducible exact Up.refl _ | with_reducible assumption | with_reducible refine Up.set ?_ (by first | exact Nat.le_refl _ | (simp only []; omega) | (simp; omega)) _ | with_reducible refine Up.alloc ?_ _ | with_reducible refine Up.drew ?_ | refine Up.trans ?_ (by with_reducible assumption)))))).mono ?_); rintro e w1 ⟨rfl, U1⟩; have B1 := bcell U1; have Z1 := U1.size; (try simp at Z1); (try rw [Nat.add_one_le_iff] at Z1)) | (go_at_call 81; (with_reducible refine (cF _).mono ?_); rintro e w2 ⟨rfl, U2⟩; have B2 := bcell U2; have Z2 := U2.size; (try simp at Z2); (try rw [Nat.add_one_le_iff] at Z2)) | (go_at_call 121; (with_reducible refine (cB _).mono ?_); rintro e w' ⟨rfl, rfl⟩) | fail)
    go_ret
    refine ⟨rfl, ?_⟩
    (repeat (first | with_reducible exact Up.refl _ | with_reducible assumption | with_reducible refine Up.set ?_ (by first | exact Nat.le_refl _ | (simp only []; omega) | (simp; omega)) _ | with_reducible refine Up.alloc ?_ _ | with_reducible refine Up.drew ?_ | refine Up.trans ?_ (by with_reducible assumption)))
  rw [h1] at cV
  cases h2 : fitsB x.k.set x.pend
  · rw [wrvB_f h2]
    rw [h2] at cF
    clear h1 h2 hr
    simp only [kV, setV] at *
    go_enter Tryz.func80, Tryz.ntmps80
    go_wp2_with (first | (go_at_call 77; (with_reducible refine (cV _ (hrt _ (by (repeat (first | with_reducible exact Up.refl _ | with_reducible assumption | with_reducible refine Up.set ?_ (by first | exact Nat.le_refl _ | (simp only []; omega) | (simp; omega)) _ | with_reducible refine Up.alloc ?_ _ | with_reducible refine Up.drew ?_ | refine Up.trans ?_ (by with_reducible assumption)))))).mono ?_); rintro e w1 ⟨rfl, U1⟩; have B1 := bcell U1; have Z1 := U1.size; (try simp at Z1); (try rw [Nat.add_one_le_iff] at Z1)) | (go_at_call 81; (with_reducible refine (cF _).mono ?_); rintro e w2 ⟨rfl, U2⟩; have B2 := bcell U2; have Z2 := U2.size; (try simp at Z2); (try rw [Nat.add_one_le_iff] at Z2)) | (go_at_call 121; (with_reducible refine (cB _).mono ?_); rintro e w' ⟨rfl, rfl⟩) | fail)
    go_ret
    refine ⟨rfl, ?_⟩
    (repeat (first | with_reducible exact Up.refl _ | with_reducible assumption | with_reducible refine Up.set ?_ (by first | exact Nat.le_refl _ | (simp only []; omega) | (simp; omega)) _ | with_reducible refine Up.alloc ?_ _ | with_reducible refine Up.drew ?_ | refine Up.trans ?_ (by with_reducible assumption)))
  rw [h2] at cF
  cases h3 : bvB x.bits
  · rw [wrvB_b h3]
    rw [h3] at cB
    clear h1 h2 h3 hr
    simp only [kV, setV] at *
    go_enter Tryz.func80, Tryz.ntmps80
    go_wp2_with (first | (go_at_call 77; (with_reducible refine (cV _ (hrt _ (by (repeat (first | with_reducible exact Up.refl _ | with_reducible assumption | with_reducible refine Up.set ?_ (by first | exact Nat.le_refl _ | (simp only []; omega) | (simp; omega)) _ | with_reducible refine Up.alloc ?_ _ | with_reducible refine Up.drew ?_ | refine Up.trans ?_ (by with_reducible assumption)))))).mono ?_); rintro e w1 ⟨rfl, U1⟩; have B1 := bcell U1; have Z1 := U1.size; (try simp at Z1); (try rw [Nat.add_one_le_iff] at Z1)) | (go_at_call 81; (with_reducible refine (cF _).mono ?_); rintro e w2 ⟨rfl, U2⟩; have B2 := bcell U2; have Z2 := U2.size; (try simp at Z2); (try rw [Nat.add_one_le_iff] at Z2)) | (go_at_call 121; (with_reducible refine (cB _).mono ?_); rintro e w' ⟨rfl, rfl⟩) | fail)
    go_ret
    refine ⟨rfl, ?_⟩
    (repeat (first | with_reducible exact Up.refl _ | with_reducible assumption | with_reducible refine Up.set ?_ (by first | exact Nat.le_refl _ | (simp only []; omega) | (simp; omega)) _ | with_reducible refine Up.alloc ?_ _ | with_reducible refine Up.drew ?_ | refine Up.trans ?_ (by with_reducible assumption)))
  rw [h3] at cB
  by_cases h4 : x.bits.length ≤ 7
  case neg =>
    rw [wrvB_7 h4]
    clear h1 h2 h3 hr
    have h4' : ((x.bits.length : Nat) : Int) > 7 := by omega
    simp only [kV, setV] at *
    go_enter Tryz.func80, Tryz.ntmps80
    go_wp2_with (first | (go_at_call 77; (with_reducible refine (cV _ (hrt _ (by (repeat (first | with_reducible exact Up.refl _ | with_reducible assumption | with_reducible refine Up.set ?_ (by first | exact Nat.le_refl _ | (simp only []; omega) | (simp; omega)) _ | with_reducible refine Up.alloc ?_ _ | with_reducible refine Up.drew ?_ | refine Up.trans ?_ (by with_reducible assumption)))))).mono ?_); rintro e w1 ⟨rfl, U1⟩; have B1 := bcell U1; have Z1 := U1.size; (try simp at Z1); (try rw [Nat.add_one_le_iff] at Z1)) | (go_at_call 81; (with_reducible refine (cF _).mono ?_); rintro e w2 ⟨rfl, U2⟩; have B2 := bcell U2; have Z2 := U2.size; (try simp at Z2); (try rw [Nat.add_one_le_iff] at Z2)) | (go_at_call 121; (with_reducible refine (cB _).mono ?_); rintro e w' ⟨rfl, rfl⟩) | fail)
    go_ret
    refine ⟨rfl, ?_⟩
    (repeat (first | with_reducible exact Up.refl _ | with_reducible assumption | with_reducible refine Up.set ?_ (by first | exact Nat.le_refl _ | (simp only []; omega) | (simp; omega)) _ | with_reducible refine Up.alloc ?_ _ | with_reducible refine Up.drew ?_ | refine Up.trans ?_ (by with_reducible assumption)))
  case pos =>
    have h4' : ¬ ((x.bits.length : Nat) : Int) > 7 := by omega
    rw [wrvB_all h1 h2 h3 h4]
    obtain ⟨hk, hv⟩ := ok_of_valid h1
    obtain ⟨f1, f2, f3⟩ := fitsB_lits h2
    obtain ⟨k, pend, bits, beg⟩ := x
    dsimp only at *
    by_cases hpe : pend = []
    · subst hpe
      simp only [show bs ([] : List UInt8) = (⟨#[]⟩ : ByteArray) from rfl] at *
      by_cases hbe : bits = []
      · subst hbe
        simp only [show bs ([] : List UInt8) = (⟨#[]⟩ : ByteArray) from rfl] at *
        cases beg
        all_goals
          rw [show wrsB (⟨k, [], [], _⟩ : WrD) = true from rfl]
          clear h1 h2 h3 hr hk hv f3
          simp only [kV, setV] at *
          go_enter Tryz.func80, Tryz.ntmps80
          go_wp2_with (first | (go_at_call 77; (with_reducible refine (cV _ (hrt _ (by (repeat (first | with_reducible exact Up.refl _ | with_reducible assumption | with_reducible refine Up.set ?_ (by first | exact Nat.le_refl _ | (simp only []; omega) | (simp; omega)) _ | with_reducible refine Up.alloc ?_ _ | with_reducible refine Up.drew ?_ | refine Up.trans ?_ (by with_reducible assumption)))))).mono ?_); rintro e w1 ⟨rfl, U1⟩; have B1 := bcell U1; have Z1 := U1.size; (try simp at Z1); (try rw [Nat.add_one_le_iff] at Z1)) | (go_at_call 81; (with_reducible refine (cF _).mono ?_); rintro e w2 ⟨rfl, U2⟩; have B2 := bcell U2; have Z2 := U2.size; (try simp at Z2); (try rw [Nat.add_one_le_iff] at Z2)) | (go_at_call 121; (with_reducible refine (cB _).mono ?_); rintro e w' ⟨rfl, rfl⟩) | fail)
          go_ret
          refine ⟨rfl, ?_⟩
          (repeat (first | with_reducible exact Up.refl _ | with_reducible assumption | with_reducible refine Up.set ?_ (by first | exact Nat.le_refl _ | (simp only []; omega) | (simp; omega)) _ | with_reducible refine Up.alloc ?_ _ | with_reducible refine Up.drew ?_ | refine Up.trans ?_ (by with_reducible assumption)))
      · have HBE := isEmpty_bs hbe
        cases beg
        · have HW : Hid (wrsB (⟨k, [], bits, false⟩ : WrD) = false) := by unfold Hid wrsB; simp [hbe]
          rw [HW.out]
          clear h1 h2 h3 hr hk hv f3 hbe
          simp only [kV, setV] at *
          go_enter Tryz.func80, Tryz.ntmps80
          go_wp2_with (first | (go_at_call 77; (with_reducible refine (cV _ (hrt _ (by (repeat (first | with_reducible exact Up.refl _ | with_reducible assumption | with_reducible refine Up.set ?_ (by first | exact Nat.le_refl _ | (simp only []; omega) | (simp; omega)) _ | with_reducible refine Up.alloc ?_ _ | with_reducible refine Up.drew ?_ | refine Up.trans ?_ (by with_reducible assumption)))))).mono ?_); rintro e w1 ⟨rfl, U1⟩; have B1 := bcell U1; have Z1 := U1.size; (try simp at Z1); (try rw [Nat.add_one_le_iff] at Z1)) | (go_at_call 81; (with_reducible refine (cF _).mono ?_); rintro e w2 ⟨rfl, U2⟩; have B2 := bcell U2; have Z2 := U2.size; (try simp at Z2); (try rw [Nat.add_one_le_iff] at Z2)) | (go_at_call 121; (with_reducible refine (cB _).mono ?_); rintro e w' ⟨rfl, rfl⟩) | fail)
          go_ret
          refine ⟨rfl, ?_⟩
          (repeat (first | with_reducible exact Up.refl _ | with_reducible assumption | with_reducible refine Up.set ?_ (by first | exact Nat.le_refl _ | (simp only []; omega) | (simp; omega)) _ | with_reducible refine Up.alloc ?_ _ | with_reducible refine Up.drew ?_ | refine Up.trans ?_ (by with_reducible assumption)))
        · have HW : Hid (wrsB (⟨k, [], bits, true⟩ : WrD) = true) := by unfold Hid wrsB; simp
          rw [HW.out]
          clear h1 h2 h3 hr hk hv f3 hbe
          simp only [kV, setV] at *
          go_enter Tryz.func80, Tryz.ntmps80
          go_wp2_with (first | (go_at_call 77; (with_reducible refine (cV _ (hrt _ (by (repeat (first | with_reducible exact Up.refl _ | with_reducible assumption | with_reducible refine Up.set ?_ (by first | exact Nat.le_refl _ | (simp only []; omega) | (simp; omega)) _ | with_reducible refine Up.alloc ?_ _ | with_reducible refine Up.drew ?_ | refine Up.trans ?_ (by with_reducible assumption)))))).mono ?_); rintro e w1 ⟨rfl, U1⟩; have B1 := bcell U1; have Z1 := U1.size; (try simp at Z1); (try rw [Nat.add_one_le_iff] at Z1)) | (go_at_call 81; (with_reducible refine (cF _).mono ?_); rintro e w2 ⟨rfl, U2⟩; have B2 := bcell U2; have Z2 := U2.size; (try simp at Z2); (try rw [Nat.add_one_le_iff] at Z2)) | (go_at_call 121; (with_reducible refine (cB _).mono ?_); rintro e w' ⟨rfl, rfl⟩) | fail)
          go_ret
          refine ⟨rfl, ?_⟩
          (repeat (first | with_reducible exact Up.refl _ | with_reducible assumption | with_reducible refine Up.set ?_ (by first | exact Nat.le_refl _ | (simp only []; omega) | (simp; omega)) _ | with_reducible refine Up.alloc ?_ _ | with_reducible refine Up.drew ?_ | refine Up.trans ?_ (by with_reducible assumption)))
    · have HPE := isEmpty_bs hpe
      have hpos := List.length_pos_iff.2 hpe
      cases beg
      · have HW : Hid (wrsB (⟨k, pend, bits, false⟩ : WrD) = false) := by unfold Hid wrsB; simp [hpe]
        rw [HW.out]
        clear h1 h2 h3 hr hk hv f3 hpe
        simp only [kV, setV] at *
        go_enter Tryz.func80, Tryz.ntmps80
        go_wp2_with (first | (go_at_call 77; (with_reducible refine (cV _ (hrt _ (by (repeat (first | with_reducible exact Up.refl _ | with_reducible assumption | with_reducible refine Up.set ?_ (by first | exact Nat.le_refl _ | (simp only []; omega) | (simp; omega)) _ | with_reducible refine Up.alloc ?_ _ | with_reducible refine Up.drew ?_ | refine Up.trans ?_ (by with_reducible assumption)))))).mono ?_); rintro e w1 ⟨rfl, U1⟩; have B1 := bcell U1; have Z1 := U1.size; (try simp at Z1); (try rw [Nat.add_one_le_iff] at Z1)) | (go_at_call 81; (with_reducible refine (cF _).mono ?_); rintro e w2 ⟨rfl, U2⟩; have B2 := bcell U2; have Z2 := U2.size; (try simp at Z2); (try rw [Nat.add_one_le_iff] at Z2)) | (go_at_call 121; (with_reducible refine (cB _).mono ?_); rintro e w' ⟨rfl, rfl⟩) | fail)
        go_ret
        refine ⟨rfl, ?_⟩
        (repeat (first | with_reducible exact Up.refl _ | with_reducible assumption | with_reducible refine Up.set ?_ (by first | exact Nat.le_refl _ | (simp only []; omega) | (simp; omega)) _ | with_reducible refine Up.alloc ?_ _ | with_reducible refine Up.drew ?_ | refine Up.trans ?_ (by with_reducible assumption)))
      · have cC := fun wq hr => l2Find_any k (.slice a k.ps.length cap) lo (bs pend) wq hk hr (by omega)
        rw [bs_data] at cC
        have HW : Hid (wrsB (⟨k, pend, bits, true⟩ : WrD) = decide (k.find pend ≥ 0)) := by
          unfold Hid wrsB
          have : (k.longest pend = pend) ↔ k.find pend ≥ 0 := ⟨KnD.word_find hk hpe f3, KnD.find_word hpe⟩
          simp [hpe, this]
        rw [HW.out]
        generalize k.find pend = cd at *
        clear h1 h2 h3 hr hk hv f3 hpe HW
        simp only [kV, setV] at *
        go_enter Tryz.func80, Tryz.ntmps80
        go_wp2_with (first | (go_at_call 77; (with_reducible refine (cV _ (hrt _ (by (repeat (first | with_reducible exact Up.refl _ | with_reducible assumption | with_reducible refine Up.set ?_ (by first | exact Nat.le_refl _ | (simp only []; omega) | (simp; omega)) _ | with_reducible refine Up.alloc ?_ _ | with_reducible refine Up.drew ?_ | refine Up.trans ?_ (by with_reducible assumption)))))).mono ?_); rintro e w1 ⟨rfl, U1⟩; have B1 := bcell U1; have Z1 := U1.size; (try simp at Z1); (try rw [Nat.add_one_le_iff] at Z1)) | (go_at_call 81; (with_reducible refine (cF _).mono ?_); rintro e w2 ⟨rfl, U2⟩; have B2 := bcell U2; have Z2 := U2.size; (try simp at Z2); (try rw [Nat.add_one_le_iff] at Z2)) | (go_at_call 121; (with_reducible refine (cB _).mono ?_); rintro e w' ⟨rfl, rfl⟩) | (go_at_call 86; (with_reducible refine (cC _ (hrt _ (by (repeat (first | with_reducible exact Up.refl _ | with_reducible assumption | with_reducible refine Up.set ?_ (by first | exact Nat.le_refl _ | (simp only []; omega) | (simp; omega)) _ | with_reducible refine Up.alloc ?_ _ | with_reducible refine Up.drew ?_ | refine Up.trans ?_ (by with_reducible assumption)))))).mono ?_); rintro e w4 ⟨rfl, U4⟩; have B4 := bcell U4; have Z4 := U4.size; (try simp at Z4); (try rw [Nat.add_one_le_iff] at Z4)) | fail)
        go_ret
        refine ⟨rfl, ?_⟩
        (repeat (first | with_reducible exact Up.refl _ | with_reducible assumption | with_reducible refine Up.set ?_ (by first | exact Nat.le_refl _ | (simp only []; omega) | (simp; omega)) _ | with_reducible refine Up.alloc ?_ _ | with_reducible refine Up.drew ?_ | refine Up.trans ?_ (by with_reducible assumption)))
set_option maxRecDepth 100000 in
set_option maxHeartbeats 8000000 in
theorem nwS_any (k : KnD) (v : Value) (lo : Nat) (w : World) (hr : RdP lo w v k.ps) (hps : k.ps.length ≤ 1048576) :
    Calls Tryz.prog 34  #[kV k v] w (NwPost k w) := by
  have cV := fun wq hr => kvS_gen k v lo wq hr (by omega)
  have cY := fun wx hr => copyS_any k v lo wx hr (by omega)
  have hrt := fun (wq : World) (hu : Up w wq) => hr.up hu
  obtain ⟨a, cap, rfl, -, -, -, -⟩ := id hr
  unfold NwPost
  cases h1 : validK k
  · simp only [Bool.false_eq_true, if_false]
    rw [h1] at cV
    clear h1 hr
    simp only [kV] at *
    go_enter Tryz.func34, Tryz.ntmps34
    go_wp2_with (first | ((go_at_call 77; (with_reducible refine (cV _ (hrt _ (by (repeat (first | with_reducible exact Up.refl _ | with_reducible assumption | with_reducible refine Up.set ?_ (by first | exact Nat.le_refl _ | (simp only []; omega) | (simp; omega)) _ | with_reducible refine Up.alloc ?_ _ | with_reducible refine Up.drew ?_ | refine Up.trans ?_ (by with_reducible assumption)))))).mono ?_); rintro e w1 ⟨rfl, U1⟩; have B1 := bcell U1; have Z1 := U1.size; (try simp at Z1); (try rw [Nat.add_one_le_iff] at Z1)); obtain ⟨hbz, q0, q1, q2, q3, q4, q5, q6, q7, q8⟩ := WrAt.cells (WrAt.zero (box_up U1 (alloc2 w _ _))); simp only [wr0] at q0 q1 q2 q3 q4 q5 q6 q7 q8; have hfz := box_free (box_up U1 (alloc2 w _ _))) | fail)
    obtain ⟨hbz, q0, q1, q2, q3, q4, q5, q6, q7, q8⟩ := WrAt.cells (WrAt.zero (box_up U1 (alloc2 w _ _)))
    simp only [wr0] at q0 q1 q2 q3 q4 q5 q6 q7 q8
    refine bodyPost_ret (v := .tuple #[noWr, .bool false]) (by simp [results, Tryz.results34, go_sem, q0, q1, q2, q3, q4, q5, q6, q7, q8]; rfl) rfl ⟨rfl, ?_⟩
    (repeat (first | with_reducible exact Up.refl _ | with_reducible assumption | with_reducible refine Up.set ?_ (by first | exact Nat.le_refl _ | (simp only []; omega) | (simp; omega)) _ | with_reducible refine Up.alloc ?_ _ | with_reducible refine Up.drew ?_ | refine Up.trans ?_ (by with_reducible assumption)))
  · simp only [if_true]
    rw [h1] at cV
    clear h1 hr
    simp only [kV] at *
    go_enter Tryz.func34, Tryz.ntmps34
    go_wp2_with (first | ((go_at_call 77; (with_reducible refine (cV _ (hrt _ (by (repeat (first | with_reducible exact Up.refl _ | with_reducible assumption | with_reducible refine Up.set ?_ (by first | exact Nat.le_refl _ | (simp only []; omega) | (simp; omega)) _ | with_reducible refine Up.alloc ?_ _ | with_reducible refine Up.drew ?_ | refine Up.trans ?_ (by with_reducible assumption)))))).mono ?_); rintro e w1 ⟨rfl, U1⟩; have B1 := bcell U1; have Z1 := U1.size; (try simp at Z1); (try rw [Nat.add_one_le_iff] at Z1))) | (go_at_call 78; (with_reducible refine (cY _ (hrt _ (by (repeat (first | with_reducible exact Up.refl _ | with_reducible assumption | with_reducible refine Up.set ?_ (by first | exact Nat.le_refl _ | (simp only []; omega) | (simp; omega)) _ | with_reducible refine Up.alloc ?_ _ | with_reducible refine Up.drew ?_ | refine Up.trans ?_ (by with_reducible assumption)))))).mono ?_); rintro e w2 ⟨v2, rfl, ho2, U2⟩; obtain ⟨a2, c2, rfl⟩ := ownsRow_shape ho2; simp only [kV]; have HZ := Lib.hid (WrAt.zero (box_up (U1.trans U2) (alloc2 w _ _))); obtain ⟨hbz, q0, q1, q2, q3, q4, q5, q6, q7, q8⟩ := WrAt.cells HZ.out; simp only [wr0] at q0 q1 q2 q3 q4 q5 q6 q7 q8; have hfz := box_free HZ.out; have HO := Lib.hid ho2; have hs1 := U1.size; simp at hs1; have HU := Lib.hid (show Up w w2 by (repeat (first | with_reducible exact Up.refl _ | with_reducible assumption | with_reducible refine Up.set ?_ (by first | exact Nat.le_refl _ | (simp only []; omega) | (simp; omega)) _ | with_reducible refine Up.alloc ?_ _ | with_reducible refine Up.drew ?_ | refine Up.trans ?_ (by with_reducible assumption)))); clear ho2) | fail)
    refine bodyPost_ret (v := .tuple #[wrV ⟨k, [], [], false⟩ (.slice a2 k.ps.length c2), .bool true]) (by simp [results, Tryz.results34, go_sem, q0, q1, q2, q3, q4, q5, q6, q7, q8]; rfl) rfl ⟨_, rfl, ?_, ?_⟩
    · exact WrW.own (b := w.heap.size + 1) (x := ⟨k, [], [], false⟩) (ownsRow_base HO.out (by omega)) (fun e => by have := (HO.out.lt _ e.symm).1; omega) _
    · exact WrW.up HU.out (Nat.le_succ _) ⟨k, [], [], false⟩ (.slice a2 k.ps.length c2)
end Go.Proofs.YtgbakgaegldomaaGreat

