/- Texts joined into one: the walks and laws that the last text leans on. Conditions: as each says. -/
import Derived.Test.YtekogcjdaolcbaaGreatDoorMFnWriterResumeLawG
import Derived.Test.YtekogcjdaolcbaaGreatDoorMFnWriterResumeLawC
import Derived.Test.YtekogcjdaolcbaaGreatDoorMFnWriterResumeLawD
import Derived.Test.YtekogcjdaolcbaaGreatDoorMFnWriterResumeLawF
import Derived.Test.YtekogcjdaolcbaaGreatDoorSets
import Derived.Test.YtekogcjdaolcbaaGreatDoorBa

set_option linter.unusedVariables false
set_option linter.unusedSimpArgs false
/- Walks of the reference's l9OwnKnown, l3Copy, l9OwnWriter, BitsValid, WriterValid, NewWriter. Conditions: the pairs can be read. -/
namespace Go.Proofs.YtekogcjdaolcbaaGreatDoor
open Go Go.RowKit
theorem wpList_copyE {ops : Array Oper} {rest : List Oper} {o : Oper} {a : Act} {w : World} {Q : Exit → Act → World → Prop} (hgd : o.guard = none) (s x : Operand)
    (ho : o.op = .call { callee := .builtin .append, args := #[s, x], argTypes := #[25, 25] }) (base lo : Nat) {vs vx : Value} (hs : a.eval s = vs) (hx : a.eval x = vx) {g : Nat} (hvs : vs = .slice (some ⟨g, 0, none⟩) 0 0) (hown : w.ownsRow base 133 2 vs 0 []) (ps : List PairD) (hr : RdP lo w vx ps) (hl : ps.length ≤ 1048576) (hbase : base ≤ w.heap.size)
    (h : ∀ v' w', ownPr w' base v' ps → Up w w' → wpList Tryz.prog ops Q rest (a.put o.dst v') w') : wpList Tryz.prog ops Q (o :: rest) a w :=
  wpList_plain hgd fun _ hK => (gAt_up (upAt_copy s x ho base lo hs hx hvs hown ps hr hl hbase)).wp (fun v' w' hu hD => hK _ _ (h v' w' hD hu))
theorem own_empty2 (w : World) (A B : Obj) : (((w.alloc A).alloc B).alloc (.cells #[] 133)).ownsRow (w.heap.size + 2) 133 2 (.slice (some ⟨w.heap.size + 1 + 1, 0, none⟩) 0 0) 0 [] := by
  have h := World.ownsRow_made (base := w.heap.size + 2) (e := 133) (size := 2) ((w.alloc A).alloc B) #[] 0 (by simp) (by unfold maxLen; omega) (by simp)
  simpa using h
theorem own_empty3 (w : World) (A B C : Obj) : ((((w.alloc A).alloc B).alloc C).alloc (.cells #[] 133)).ownsRow (w.heap.size + 3) 133 2 (.slice (some ⟨w.heap.size + 1 + 1 + 1, 0, none⟩) 0 0) 0 [] := by
  have h := World.ownsRow_made (base := w.heap.size + 3) (e := 133) (size := 2) (((w.alloc A).alloc B).alloc C) #[] 0 (by simp) (by unfold maxLen; omega) (by simp)
  simpa using h
set_option maxRecDepth 100000 in
set_option maxHeartbeats 4000000 in
theorem ownKS_any (k : KnD) (v : Value) (lo : Nat) (w : World) (hr : RdP lo w v k.ps) (hl : k.ps.length ≤ 1048576) :
    Calls Tryz.prog 99  #[kV k v] w (KnPost k w) := by
  have hrt := fun (wq : World) (hu : Up w wq) => hr.up hu
  obtain ⟨a, cap, rfl, -, -, -, -⟩ := hr
  simp only [kV]
  have hn2 : w.heap.size + 2 ≤ ((w.alloc (.cells #[.int .i64 k.set.ord, .int .i64 k.set.lit, .int .i64 k.set.most, .slice a k.ps.length cap, .int .i64 k.base, .int .i64 k.last] 27)).alloc (.cells #[.int .i64 0, .int .i64 0, .int .i64 0, .slice none 0 0, .int .i64 0, .int .i64 0] 27)).heap.size := by simp
  go_enter Tryz.func99, Tryz.ntmps99
  go_wp2_with (at_builtin; refine wpList_copyE rfl _ _ rfl (w.heap.size + 2) lo rfl rfl rfl (own_empty2 w _ _) k.ps (hrt _ (by (repeat (first | with_reducible exact Up.refl _ | with_reducible assumption | with_reducible refine Up.set ?_ (by first | exact Nat.le_refl _ | (simp only []; omega) | (simp; omega)) _ | with_reducible refine Up.alloc ?_ _ | with_reducible refine Up.drew ?_ | refine Up.trans ?_ (by with_reducible assumption))))) hl (by simp) ?_; rintro v2 w2 hv2 hU2; obtain ⟨a2, c2, rfl⟩ := ownsRow_shape hv2; obtain ⟨hb0, r0, r1, r2, r3, r4, r5⟩ := KnAt.cells (b := w.heap.size) (k := k) (v := .slice a k.ps.length cap) (box_up hU2 (box_up (((Up.refl _).alloc _).alloc _) (MapKept.heap_alloc w _).1)); have hf0 := box_free (box_up hU2 (box_up (((Up.refl _).alloc _).alloc _) (MapKept.heap_alloc w _).1)); obtain ⟨hb1, q0, q1, q2, q3, q4, q5⟩ := KnAt.cells (b := w.heap.size + 1) (k := ⟨⟨0, 0, 0⟩, [], 0, 0⟩) (v := .slice none 0 0) (box_up hU2 (alloc3 w _ _ _)); have hf1 := box_free (box_up hU2 (alloc3 w _ _ _)); have HV := Lib.hid hv2; clear hv2)
  refine bodyPost_ret (v := kV k (.slice a2 k.ps.length c2)) (by simp [results, Tryz.results99, go_sem, q0, q1, q2, q3, q4, q5]) rfl ⟨_, rfl, ?_, ?_⟩
  · refine ownsRow_base (base := w.heap.size + 2) ?_ (by omega)
    repeat (with_reducible refine ownsRow_setne ?_ (by omega) _ _)
    exact HV.out
  · (repeat (first | with_reducible exact Up.refl _ | with_reducible assumption | with_reducible refine Up.set ?_ (by first | exact Nat.le_refl _ | (simp only []; omega) | (simp; omega)) _ | with_reducible refine Up.alloc ?_ _ | with_reducible refine Up.drew ?_ | refine Up.trans ?_ (by with_reducible assumption)))
theorem alloc3c (w : World) (A B C : Obj) : (((w.alloc A).alloc B).alloc C).heap[w.heap.size + 1 + 1]? = some C := by
  have h := (MapKept.heap_alloc ((w.alloc A).alloc B) C).1
  rw [size_alloc, size_alloc] at h
  exact h
set_option maxRecDepth 100000 in
set_option maxHeartbeats 4000000 in
theorem copyS_any (k : KnD) (v : Value) (lo : Nat) (w : World) (hr : RdP lo w v k.ps) (hl : k.ps.length ≤ 1048576) :
    Calls Tryz.prog 45  #[kV k v] w (KnPost k w) := by
  have hrt := fun (wq : World) (hu : Up w wq) => hr.up hu
  obtain ⟨a, cap, rfl, -, -, -, -⟩ := hr
  simp only [kV]
  have hn2 : w.heap.size + 2 ≤ ((w.alloc (.cells #[.int .i64 k.set.ord, .int .i64 k.set.lit, .int .i64 k.set.most, .slice a k.ps.length cap, .int .i64 k.base, .int .i64 k.last] 27)).alloc (.cells #[.int .i64 0, .int .i64 0, .int .i64 0, .slice none 0 0, .int .i64 0, .int .i64 0] 27)).heap.size := by simp
  go_enter Tryz.func45, Tryz.ntmps45
  go_wp2_with (at_builtin; refine wpList_copyE rfl _ _ rfl (w.heap.size + 3) lo rfl rfl rfl (own_empty3 w _ _ _) k.ps (hrt _ (by (repeat (first | with_reducible exact Up.refl _ | with_reducible assumption | with_reducible refine Up.set ?_ (by first | exact Nat.le_refl _ | (simp only []; omega) | (simp; omega)) _ | with_reducible refine Up.alloc ?_ _ | with_reducible refine Up.drew ?_ | refine Up.trans ?_ (by with_reducible assumption))))) hl (by simp) ?_; rintro v2 w2 hv2 hU2; obtain ⟨a2, c2, rfl⟩ := ownsRow_shape hv2; obtain ⟨hb1, q0, q1, q2, q3, q4, q5⟩ := KnAt.cells (b := w.heap.size + 1) (k := ⟨⟨0, 0, 0⟩, [], 0, 0⟩) (v := .slice none 0 0) (box_up hU2 (box_up ((Up.refl _).alloc _) (alloc3 w _ _ _))); have hf1 := box_free (box_up hU2 (box_up ((Up.refl _).alloc _) (alloc3 w _ _ _))); obtain ⟨hb2, s0, s1, s2, s3, s4, s5⟩ := KnAt.cells (b := w.heap.size + 1 + 1) (k := k) (v := .slice a k.ps.length cap) (box_up hU2 (box_up ((Up.refl _).alloc _) (alloc3c w _ _ _))); have hf2 := box_free (box_up hU2 (box_up ((Up.refl _).alloc _) (alloc3c w _ _ _))); have HV := Lib.hid hv2; clear hv2)
  refine bodyPost_ret (v := kV k (.slice a2 k.ps.length c2)) (by simp [results, Tryz.results45, go_sem, q0, q1, q2, q3, q4, q5]) rfl ⟨_, rfl, ?_, ?_⟩
  · refine ownsRow_base (base := w.heap.size + 3) ?_ (by omega)
    repeat (with_reducible refine ownsRow_setne ?_ (by omega) _ _)
    exact HV.out
  · (repeat (first | with_reducible exact Up.refl _ | with_reducible assumption | with_reducible refine Up.set ?_ (by first | exact Nat.le_refl _ | (simp only []; omega) | (simp; omega)) _ | with_reducible refine Up.alloc ?_ _ | with_reducible refine Up.drew ?_ | refine Up.trans ?_ (by with_reducible assumption)))
def WoPost (x : WrD) (w : World) (e : Ending) (w' : World) : Prop := ∃ v, e = .returned (wrV x v) ∧ ownPr w' w.heap.size v x.k.ps ∧ Up w w'
set_option maxRecDepth 100000 in
set_option maxHeartbeats 4000000 in
theorem ownWS_any (x : WrD) (v : Value) (lo : Nat) (w : World) (hr : RdP lo w v x.k.ps) (hl : x.k.ps.length ≤ 1048576) :
    Calls Tryz.prog 42  #[wrV x v] w (WoPost x w) := by
  have hrt := fun (wq : World) (hu : Up w wq) => hr.up hu
  have cO := fun wq hr => ownKS_any x.k v lo wq hr hl
  obtain ⟨a, cap, rfl, -, -, -, -⟩ := hr
  unfold wrV
  simp only [kV] at *
  go_enter Tryz.func42, Tryz.ntmps42
  go_wp2_with (first | (go_at_call 99; (with_reducible refine (cO _ (hrt _ (by (repeat (first | with_reducible exact Up.refl _ | with_reducible assumption | with_reducible refine Up.set ?_ (by first | exact Nat.le_refl _ | (simp only []; omega) | (simp; omega)) _ | with_reducible refine Up.alloc ?_ _ | with_reducible refine Up.drew ?_ | refine Up.trans ?_ (by with_reducible assumption)))))).mono ?_); rintro e w2 ⟨v2, rfl, ho2, U2⟩; obtain ⟨a2, c2, rfl⟩ := ownsRow_shape ho2; simp only [kV]; obtain ⟨hbz, q0, q1, q2, q3, q4, q5, q6, q7, q8⟩ := WrAt.cells (WrAt.zero (box_up U2 (alloc2 w _ _))); simp only [wr0] at q0 q1 q2 q3 q4 q5 q6 q7 q8; have hfz := box_free (box_up U2 (alloc2 w _ _)); have hx2 : WrAt w.heap.size x (.slice a x.k.ps.length cap) w2 := box_up U2 (box_up ((Up.refl _).alloc _) (MapKept.heap_alloc w _).1); obtain ⟨hbx, r0, r1, r2, r3, r4, r5, r6, r7, r8⟩ := WrAt.cells hx2; have hfx := box_free hx2; have HO := Lib.hid ho2; have HU := Lib.hid (show Up w w2 by (repeat (first | with_reducible exact Up.refl _ | with_reducible assumption | with_reducible refine Up.set ?_ (by first | exact Nat.le_refl _ | (simp only []; omega) | (simp; omega)) _ | with_reducible refine Up.alloc ?_ _ | with_reducible refine Up.drew ?_ | refine Up.trans ?_ (by with_reducible assumption)))); clear ho2 hx2) | fail)
  refine bodyPost_ret (v := wrV x (.slice a2 x.k.ps.length c2)) (by simp [results, Tryz.results42, go_sem, q0, q1, q2, q3, q4, q5, q6, q7, q8]; rfl) rfl ⟨_, rfl, ?_, ?_⟩
  · have ho := ownsRow_base (base' := w.heap.size + 2) HO.out (by simp)
    refine ownsRow_base (base := w.heap.size + 2) ?_ (by omega)
    repeat (with_reducible refine ownsRow_setne ?_ (by omega) _ _)
    exact ho
  · exact WrW.up (KnW.up HU.out (Nat.le_refl _) x.k _) (Nat.le_succ _) x _
set_option maxRecDepth 100000 in
set_option maxHeartbeats 1000000 in
theorem bvS_any (s : ByteArray) (w : World) (hs : s.size ≤ 1073741824) :
    Calls Tryz.prog 101  #[.string s] w (fun e w' => e = .returned (.bool (bvB s.data.toList)) ∧ w = w') := by
  have hlen := ba_len s
  go_enter Tryz.func101, Tryz.ntmps101
  go_wp2
  go_loopw [3] (fun i wr => RelBg s i w wr) (fun i _ => s.size - (intOf i).toNat)
  case atStart => exact ⟨0, rfl, Nat.zero_le _, fun q _ h => absurd h (Nat.not_lt_zero _), rfl⟩
  case round =>
    obtain ⟨j, rfl, hj, hall, rfl⟩ := hrel
    have HA := Lib.hid hall
    clear hall
    by_cases hlt : j < s.size
    · have HN : Hid ((s[j].toNat = 48 ∨ s[j].toNat = 49) → ∀ q (hq : q < s.size), q < j + 1 → s[q].toNat = 48 ∨ s[q].toNat = 49) := fun h q hq hqj => by
        rcases Nat.lt_or_ge q j with h' | h'
        · exact HA.out q hq h'
        · have : q = j := by omega
          subst this; exact h
      by_cases h1 : s[j].toNat = 48
      · have HN' := Lib.hid (HN.out (.inl h1))
        clear HN HA
        go_wp2
        go_roundw
        case rel => exact ⟨j + 1, by go_num, by omega, HN'.out, rfl⟩
        case measure => simp [intOf]; omega
      · by_cases h2 : s[j].toNat = 49
        · have HN' := Lib.hid (HN.out (.inr h2))
          clear HN HA
          go_wp2
          go_roundw
          case rel => exact ⟨j + 1, by go_num, by omega, HN'.out, rfl⟩
          case measure => simp [intOf]; omega
        · have HB : Hid (bitsB s.data.toList = false) := bitsB_no hlt (fun h => h.elim h1 h2)
          have HV : Hid (bvB s.data.toList = false) := by unfold Hid bvB; rw [HB.out, Bool.and_false]
          have hb1 : ((s[j].toNat : Int) != 48) = true := by simp; omega
          have hb2 : ((s[j].toNat : Int) != 49) = true := by simp; omega
          clear HN HA
          go_wp2
          go_ret
          exact ⟨ret_bool HV.out.symm, rfl⟩
    · have HB : Hid (bitsB s.data.toList = true) := bitsB_yes fun q hq => HA.out q hq (by omega)
      have HV : Hid (bvB s.data.toList = decide ((s.size : Int) ≤ 32000)) := by
        unfold Hid bvB
        rw [HB.out, hlen, Bool.and_true]
        by_cases h4 : s.size ≤ 32000
        · rw [decide_eq_true h4, decide_eq_true (by omega)]
        · rw [decide_eq_false h4, decide_eq_false (by omega)]
      go_wp2
      go_ret
      exact ⟨ret_bool HV.out.symm, rfl⟩
set_option maxRecDepth 100000 in
set_option maxHeartbeats 8000000 in
theorem wvS_any (x : WrD) (v : Value) (lo : Nat) (w : World) (hr : RdP lo w v x.k.ps) (hps : x.k.ps.length ≤ 1073741824) (hp : x.pend.length ≤ 1073741824) (hb : x.bits.length ≤ 1073741824) :
    Calls Tryz.prog 43  #[wrV x v] w (Same (.bool (wrvB x)) w) := by
  have cV := fun wq hr => kvS_gen x.k v lo wq hr hps
  have hrt := fun (wq : World) (hu : Up w wq) => hr.up hu
  have hsp := bs_size x.pend
  have hsb := bs_size x.bits
  have cF := fun wq => fitsS_any x.k.set (bs x.pend) wq (by omega)
  have cB := fun wq => bvS_any (bs x.bits) wq (by omega)
  rw [bs_data] at cF cB
  obtain ⟨a, cap, rfl, -, -, -, -⟩ := id hr
  unfold wrV
  cases h1 : validK x.k
  · rw [wrvB_k h1]
    rw [h1] at cV
    clear h1 hr
    simp only [kV] at *
    go_enter Tryz.func43, Tryz.ntmps43
    go_wp2_with (first | (go_at_call 100; (with_reducible refine (cV _ (hrt _ (by (repeat (first | with_reducible exact Up.refl _ | with_reducible assumption | with_reducible refine Up.set ?_ (by first | exact Nat.le_refl _ | (simp only []; omega) | (simp; omega)) _ | with_reducible refine Up.alloc ?_ _ | with_reducible refine Up.drew ?_ | refine Up.trans ?_ (by with_reducible assumption)))))).mono ?_); rintro e w1 ⟨rfl, U1⟩; have B1 := bcell U1; have Z1 := U1.size; (try simp at Z1); (try rw [Nat.add_one_le_iff] at Z1)) | (go_at_call 44; (with_reducible refine (cF _).mono ?_); rintro e w2 ⟨rfl, U2⟩; have B2 := bcell U2; have Z2 := U2.size; (try simp at Z2); (try rw [Nat.add_one_le_iff] at Z2)) | (go_at_call 101; (with_reducible refine (cB _).mono ?_); rintro e w' ⟨rfl, rfl⟩) | fail)
    go_ret
    refine ⟨rfl, ?_⟩
    (repeat (first | with_reducible exact Up.refl _ | with_reducible assumption | with_reducible refine Up.set ?_ (by first | exact Nat.le_refl _ | (simp only []; omega) | (simp; omega)) _ | with_reducible refine Up.alloc ?_ _ | with_reducible refine Up.drew ?_ | refine Up.trans ?_ (by with_reducible assumption)))
  rw [h1] at cV
  cases h2 : fitsB x.k.set x.pend
  · rw [wrvB_f h2]
    rw [h2] at cF
    clear h1 h2 hr
    simp only [kV, setV] at *
    go_enter Tryz.func43, Tryz.ntmps43
    go_wp2_with (first | (go_at_call 100; (with_reducible refine (cV _ (hrt _ (by (repeat (first | with_reducible exact Up.refl _ | with_reducible assumption | with_reducible refine Up.set ?_ (by first | exact Nat.le_refl _ | (simp only []; omega) | (simp; omega)) _ | with_reducible refine Up.alloc ?_ _ | with_reducible refine Up.drew ?_ | refine Up.trans ?_ (by with_reducible assumption)))))).mono ?_); rintro e w1 ⟨rfl, U1⟩; have B1 := bcell U1; have Z1 := U1.size; (try simp at Z1); (try rw [Nat.add_one_le_iff] at Z1)) | (go_at_call 44; (with_reducible refine (cF _).mono ?_); rintro e w2 ⟨rfl, U2⟩; have B2 := bcell U2; have Z2 := U2.size; (try simp at Z2); (try rw [Nat.add_one_le_iff] at Z2)) | (go_at_call 101; (with_reducible refine (cB _).mono ?_); rintro e w' ⟨rfl, rfl⟩) | fail)
    go_ret
    refine ⟨rfl, ?_⟩
    (repeat (first | with_reducible exact Up.refl _ | with_reducible assumption | with_reducible refine Up.set ?_ (by first | exact Nat.le_refl _ | (simp only []; omega) | (simp; omega)) _ | with_reducible refine Up.alloc ?_ _ | with_reducible refine Up.drew ?_ | refine Up.trans ?_ (by with_reducible assumption)))
  rw [h2] at cF
  cases h3 : bvB x.bits
  · rw [wrvB_b h3]
    rw [h3] at cB
    clear h1 h2 h3 hr
    simp only [kV, setV] at *
    go_enter Tryz.func43, Tryz.ntmps43
    go_wp2_with (first | (go_at_call 100; (with_reducible refine (cV _ (hrt _ (by (repeat (first | with_reducible exact Up.refl _ | with_reducible assumption | with_reducible refine Up.set ?_ (by first | exact Nat.le_refl _ | (simp only []; omega) | (simp; omega)) _ | with_reducible refine Up.alloc ?_ _ | with_reducible refine Up.drew ?_ | refine Up.trans ?_ (by with_reducible assumption)))))).mono ?_); rintro e w1 ⟨rfl, U1⟩; have B1 := bcell U1; have Z1 := U1.size; (try simp at Z1); (try rw [Nat.add_one_le_iff] at Z1)) | (go_at_call 44; (with_reducible refine (cF _).mono ?_); rintro e w2 ⟨rfl, U2⟩; have B2 := bcell U2; have Z2 := U2.size; (try simp at Z2); (try rw [Nat.add_one_le_iff] at Z2)) | (go_at_call 101; (with_reducible refine (cB _).mono ?_); rintro e w' ⟨rfl, rfl⟩) | fail)
    go_ret
    refine ⟨rfl, ?_⟩
    (repeat (first | with_reducible exact Up.refl _ | with_reducible assumption | with_reducible refine Up.set ?_ (by first | exact Nat.le_refl _ | (simp only []; omega) | (simp; omega)) _ | with_reducible refine Up.alloc ?_ _ | with_reducible refine Up.drew ?_ | refine Up.trans ?_ (by with_reducible assumption)))
  rw [h3] at cB
  by_cases h4 : x.bits.length ≤ 7
  case neg =>
    rw [wrvB_7 h4]
    clear h1 h2 h3 hr
    have h4' : ((x.bits.length : Nat) : Int) > 7 := by omega
    simp only [kV, setV] at *
    go_enter Tryz.func43, Tryz.ntmps43
    go_wp2_with (first | (go_at_call 100; (with_reducible refine (cV _ (hrt _ (by (repeat (first | with_reducible exact Up.refl _ | with_reducible assumption | with_reducible refine Up.set ?_ (by first | exact Nat.le_refl _ | (simp only []; omega) | (simp; omega)) _ | with_reducible refine Up.alloc ?_ _ | with_reducible refine Up.drew ?_ | refine Up.trans ?_ (by with_reducible assumption)))))).mono ?_); rintro e w1 ⟨rfl, U1⟩; have B1 := bcell U1; have Z1 := U1.size; (try simp at Z1); (try rw [Nat.add_one_le_iff] at Z1)) | (go_at_call 44; (with_reducible refine (cF _).mono ?_); rintro e w2 ⟨rfl, U2⟩; have B2 := bcell U2; have Z2 := U2.size; (try simp at Z2); (try rw [Nat.add_one_le_iff] at Z2)) | (go_at_call 101; (with_reducible refine (cB _).mono ?_); rintro e w' ⟨rfl, rfl⟩) | fail)
    go_ret
    refine ⟨rfl, ?_⟩
    (repeat (first | with_reducible exact Up.refl _ | with_reducible assumption | with_reducible refine Up.set ?_ (by first | exact Nat.le_refl _ | (simp only []; omega) | (simp; omega)) _ | with_reducible refine Up.alloc ?_ _ | with_reducible refine Up.drew ?_ | refine Up.trans ?_ (by with_reducible assumption)))
  case pos =>
    have h4' : ¬ ((x.bits.length : Nat) : Int) > 7 := by omega
    rw [wrvB_all h1 h2 h3 h4]
    obtain ⟨hk, hv⟩ := ok_of_valid h1
    obtain ⟨f1, f2, f3⟩ := fitsB_lits h2
    obtain ⟨k, pend, bits, beg⟩ := x
    dsimp only at *
    by_cases hpe : pend = []
    · subst hpe
      simp only [show bs ([] : List UInt8) = (⟨#[]⟩ : ByteArray) from rfl] at *
      by_cases hbe : bits = []
      · subst hbe
        simp only [show bs ([] : List UInt8) = (⟨#[]⟩ : ByteArray) from rfl] at *
        cases beg
        all_goals
          rw [show wrsB (⟨k, [], [], _⟩ : WrD) = true from rfl]
          clear h1 h2 h3 hr hk hv f3
          simp only [kV, setV] at *
          go_enter Tryz.func43, Tryz.ntmps43
          go_wp2_with (first | (go_at_call 100; (with_reducible refine (cV _ (hrt _ (by (repeat (first | with_reducible exact Up.refl _ | with_reducible assumption | with_reducible refine Up.set ?_ (by first | exact Nat.le_refl _ | (simp only []; omega) | (simp; omega)) _ | with_reducible refine Up.alloc ?_ _ | with_reducible refine Up.drew ?_ | refine Up.trans ?_ (by with_reducible assumption)))))).mono ?_); rintro e w1 ⟨rfl, U1⟩; have B1 := bcell U1; have Z1 := U1.size; (try simp at Z1); (try rw [Nat.add_one_le_iff] at Z1)) | (go_at_call 44; (with_reducible refine (cF _).mono ?_); rintro e w2 ⟨rfl, U2⟩; have B2 := bcell U2; have Z2 := U2.size; (try simp at Z2); (try rw [Nat.add_one_le_iff] at Z2)) | (go_at_call 101; (with_reducible refine (cB _).mono ?_); rintro e w' ⟨rfl, rfl⟩) | fail)
          go_ret
          refine ⟨rfl, ?_⟩
          (repeat (first | with_reducible exact Up.refl _ | with_reducible assumption | with_reducible refine Up.set ?_ (by first | exact Nat.le_refl _ | (simp only []; omega) | (simp; omega)) _ | with_reducible refine Up.alloc ?_ _ | with_reducible refine Up.drew ?_ | refine Up.trans ?_ (by with_reducible assumption)))
      · have HBE := isEmpty_bs hbe
        cases beg
        · have HW : Hid (wrsB (⟨k, [], bits, false⟩ : WrD) = false) := by unfold Hid wrsB; simp [hbe]
          rw [HW.out]
          clear h1 h2 h3 hr hk hv f3 hbe
          simp only [kV, setV] at *
          go_enter Tryz.func43, Tryz.ntmps43
          go_wp2_with (first | (go_at_call 100; (with_reducible refine (cV _ (hrt _ (by (repeat (first | with_reducible exact Up.refl _ | with_reducible assumption | with_reducible refine Up.set ?_ (by first | exact Nat.le_refl _ | (simp only []; omega) | (simp; omega)) _ | with_reducible refine Up.alloc ?_ _ | with_reducible refine Up.drew ?_ | refine Up.trans ?_ (by with_reducible assumption)))))).mono ?_); rintro e w1 ⟨rfl, U1⟩; have B1 := bcell U1; have Z1 := U1.size; (try simp at Z1); (try rw [Nat.add_one_le_iff] at Z1)) | (go_at_call 44; (with_reducible refine (cF _).mono ?_); rintro e w2 ⟨rfl, U2⟩; have B2 := bcell U2; have Z2 := U2.size; (try simp at Z2); (try rw [Nat.add_one_le_iff] at Z2)) | (go_at_call 101; (with_reducible refine (cB _).mono ?_); rintro e w' ⟨rfl, rfl⟩) | fail)
          go_ret
          refine ⟨rfl, ?_⟩
          (repeat (first | with_reducible exact Up.refl _ | with_reducible assumption | with_reducible refine Up.set ?_ (by first | exact Nat.le_refl _ | (simp only []; omega) | (simp; omega)) _ | with_reducible refine Up.alloc ?_ _ | with_reducible refine Up.drew ?_ | refine Up.trans ?_ (by with_reducible assumption)))
        · have HW : Hid (wrsB (⟨k, [], bits, true⟩ : WrD) = true) := by unfold Hid wrsB; simp
          rw [HW.out]
          clear h1 h2 h3 hr hk hv f3 hbe
          simp only [kV, setV] at *
          go_enter Tryz.func43, Tryz.ntmps43
          go_wp2_with (first | (go_at_call 100; (with_reducible refine (cV _ (hrt _ (by (repeat (first | with_reducible exact Up.refl _ | with_reducible assumption | with_reducible refine Up.set ?_ (by first | exact Nat.le_refl _ | (simp only []; omega) | (simp; omega)) _ | with_reducible refine Up.alloc ?_ _ | with_reducible refine Up.drew ?_ | refine Up.trans ?_ (by with_reducible assumption)))))).mono ?_); rintro e w1 ⟨rfl, U1⟩; have B1 := bcell U1; have Z1 := U1.size; (try simp at Z1); (try rw [Nat.add_one_le_iff] at Z1)) | (go_at_call 44; (with_reducible refine (cF _).mono ?_); rintro e w2 ⟨rfl, U2⟩; have B2 := bcell U2; have Z2 := U2.size; (try simp at Z2); (try rw [Nat.add_one_le_iff] at Z2)) | (go_at_call 101; (with_reducible refine (cB _).mono ?_); rintro e w' ⟨rfl, rfl⟩) | fail)
          go_ret
          refine ⟨rfl, ?_⟩
          (repeat (first | with_reducible exact Up.refl _ | with_reducible assumption | with_reducible refine Up.set ?_ (by first | exact Nat.le_refl _ | (simp only []; omega) | (simp; omega)) _ | with_reducible refine Up.alloc ?_ _ | with_reducible refine Up.drew ?_ | refine Up.trans ?_ (by with_reducible assumption)))
    · have HPE := isEmpty_bs hpe
      have hpos := List.length_pos_iff.2 hpe
      cases beg
      · have HW : Hid (wrsB (⟨k, pend, bits, false⟩ : WrD) = false) := by unfold Hid wrsB; simp [hpe]
        rw [HW.out]
        clear h1 h2 h3 hr hk hv f3 hpe
        simp only [kV, setV] at *
        go_enter Tryz.func43, Tryz.ntmps43
        go_wp2_with (first | (go_at_call 100; (with_reducible refine (cV _ (hrt _ (by (repeat (first | with_reducible exact Up.refl _ | with_reducible assumption | with_reducible refine Up.set ?_ (by first | exact Nat.le_refl _ | (simp only []; omega) | (simp; omega)) _ | with_reducible refine Up.alloc ?_ _ | with_reducible refine Up.drew ?_ | refine Up.trans ?_ (by with_reducible assumption)))))).mono ?_); rintro e w1 ⟨rfl, U1⟩; have B1 := bcell U1; have Z1 := U1.size; (try simp at Z1); (try rw [Nat.add_one_le_iff] at Z1)) | (go_at_call 44; (with_reducible refine (cF _).mono ?_); rintro e w2 ⟨rfl, U2⟩; have B2 := bcell U2; have Z2 := U2.size; (try simp at Z2); (try rw [Nat.add_one_le_iff] at Z2)) | (go_at_call 101; (with_reducible refine (cB _).mono ?_); rintro e w' ⟨rfl, rfl⟩) | fail)
        go_ret
        refine ⟨rfl, ?_⟩
        (repeat (first | with_reducible exact Up.refl _ | with_reducible assumption | with_reducible refine Up.set ?_ (by first | exact Nat.le_refl _ | (simp only []; omega) | (simp; omega)) _ | with_reducible refine Up.alloc ?_ _ | with_reducible refine Up.drew ?_ | refine Up.trans ?_ (by with_reducible assumption)))
      · have cC := fun wq hr => l2Find_any k (.slice a k.ps.length cap) lo (bs pend) wq hk hr (by omega)
        rw [bs_data] at cC
        have HW : Hid (wrsB (⟨k, pend, bits, true⟩ : WrD) = decide (k.find pend ≥ 0)) := by
          unfold Hid wrsB
          have : (k.longest pend = pend) ↔ k.find pend ≥ 0 := ⟨KnD.word_find hk hpe f3, KnD.find_word hpe⟩
          simp [hpe, this]
        rw [HW.out]
        generalize k.find pend = cd at *
        clear h1 h2 h3 hr hk hv f3 hpe HW
        simp only [kV, setV] at *
        go_enter Tryz.func43, Tryz.ntmps43
        go_wp2_with (first | (go_at_call 100; (with_reducible refine (cV _ (hrt _ (by (repeat (first | with_reducible exact Up.refl _ | with_reducible assumption | with_reducible refine Up.set ?_ (by first | exact Nat.le_refl _ | (simp only []; omega) | (simp; omega)) _ | with_reducible refine Up.alloc ?_ _ | with_reducible refine Up.drew ?_ | refine Up.trans ?_ (by with_reducible assumption)))))).mono ?_); rintro e w1 ⟨rfl, U1⟩; have B1 := bcell U1; have Z1 := U1.size; (try simp at Z1); (try rw [Nat.add_one_le_iff] at Z1)) | (go_at_call 44; (with_reducible refine (cF _).mono ?_); rintro e w2 ⟨rfl, U2⟩; have B2 := bcell U2; have Z2 := U2.size; (try simp at Z2); (try rw [Nat.add_one_le_iff] at Z2)) | (go_at_call 101; (with_reducible refine (cB _).mono ?_); rintro e w' ⟨rfl, rfl⟩) | (go_at_call 102; (with_reducible refine (cC _ (hrt _ (by (repeat (first | with_reducible exact Up.refl _ | with_reducible assumption | with_reducible refine Up.set ?_ (by first | exact Nat.le_refl _ | (simp only []; omega) | (simp; omega)) _ | with_reducible refine Up.alloc ?_ _ | with_reducible refine Up.drew ?_ | refine Up.trans ?_ (by with_reducible assumption)))))).mono ?_); rintro e w4 ⟨rfl, U4⟩; have B4 := bcell U4; have Z4 := U4.size; (try simp at Z4); (try rw [Nat.add_one_le_iff] at Z4)) | fail)
        go_ret
        refine ⟨rfl, ?_⟩
        (repeat (first | with_reducible exact Up.refl _ | with_reducible assumption | with_reducible refine Up.set ?_ (by first | exact Nat.le_refl _ | (simp only []; omega) | (simp; omega)) _ | with_reducible refine Up.alloc ?_ _ | with_reducible refine Up.drew ?_ | refine Up.trans ?_ (by with_reducible assumption)))
set_option maxRecDepth 100000 in
set_option maxHeartbeats 8000000 in
theorem nwS_any (k : KnD) (v : Value) (lo : Nat) (w : World) (hr : RdP lo w v k.ps) (hps : k.ps.length ≤ 1048576) :
    Calls Tryz.prog 77  #[kV k v] w (NwPost k w) := by
  have cV := fun wq hr => kvS_gen k v lo wq hr (by omega)
  have cY := fun wx hr => copyS_any k v lo wx hr (by omega)
  have hrt := fun (wq : World) (hu : Up w wq) => hr.up hu
  obtain ⟨a, cap, rfl, -, -, -, -⟩ := id hr
  unfold NwPost
  cases h1 : validK k
  · simp only [Bool.false_eq_true, if_false]
    rw [h1] at cV
    clear h1 hr
    simp only [kV] at *
    go_enter Tryz.func77, Tryz.ntmps77
    go_wp2_with (first | ((go_at_call 100; (with_reducible refine (cV _ (hrt _ (by (repeat (first | with_reducible exact Up.refl _ | with_reducible assumption | with_reducible refine Up.set ?_ (by first | exact Nat.le_refl _ | (simp only []; omega) | (simp; omega)) _ | with_reducible refine Up.alloc ?_ _ | with_reducible refine Up.drew ?_ | refine Up.trans ?_ (by with_reducible assumption)))))).mono ?_); rintro e w1 ⟨rfl, U1⟩; have B1 := bcell U1; have Z1 := U1.size; (try simp at Z1); (try rw [Nat.add_one_le_iff] at Z1)); obtain ⟨hbz, q0, q1, q2, q3, q4, q5, q6, q7, q8⟩ := WrAt.cells (WrAt.zero (box_up U1 (alloc2 w _ _))); simp only [wr0] at q0 q1 q2 q3 q4 q5 q6 q7 q8; have hfz := box_free (box_up U1 (alloc2 w _ _))) | fail)
    obtain ⟨hbz, q0, q1, q2, q3, q4, q5, q6, q7, q8⟩ := WrAt.cells (WrAt.zero (box_up U1 (alloc2 w _ _)))
    simp only [wr0] at q0 q1 q2 q3 q4 q5 q6 q7 q8
    refine bodyPost_ret (v := .tuple #[noWr, .bool false]) (by simp [results, Tryz.results77, go_sem, q0, q1, q2, q3, q4, q5, q6, q7, q8]; rfl) rfl ⟨rfl, ?_⟩
    (repeat (first | with_reducible exact Up.refl _ | with_reducible assumption | with_reducible refine Up.set ?_ (by first | exact Nat.le_refl _ | (simp only []; omega) | (simp; omega)) _ | with_reducible refine Up.alloc ?_ _ | with_reducible refine Up.drew ?_ | refine Up.trans ?_ (by with_reducible assumption)))
  · simp only [if_true]
    rw [h1] at cV
    clear h1 hr
    simp only [kV] at *
    go_enter Tryz.func77, Tryz.ntmps77
    go_wp2_with (first | ((go_at_call 100; (with_reducible refine (cV _ (hrt _ (by (repeat (first | with_reducible exact Up.refl _ | with_reducible assumption | with_reducible refine Up.set ?_ (by first | exact Nat.le_refl _ | (simp only []; omega) | (simp; omega)) _ | with_reducible refine Up.alloc ?_ _ | with_reducible refine Up.drew ?_ | refine Up.trans ?_ (by with_reducible assumption)))))).mono ?_); rintro e w1 ⟨rfl, U1⟩; have B1 := bcell U1; have Z1 := U1.size; (try simp at Z1); (try rw [Nat.add_one_le_iff] at Z1))) | (go_at_call 45; (with_reducible refine (cY _ (hrt _ (by (repeat (first | with_reducible exact Up.refl _ | with_reducible assumption | with_reducible refine Up.set ?_ (by first | exact Nat.le_refl _ | (simp only []; omega) | (simp; omega)) _ | with_reducible refine Up.alloc ?_ _ | with_reducible refine Up.drew ?_ | refine Up.trans ?_ (by with_reducible assumption)))))).mono ?_); rintro e w2 ⟨v2, rfl, ho2, U2⟩; obtain ⟨a2, c2, rfl⟩ := ownsRow_shape ho2; simp only [kV]; have HZ := Lib.hid (WrAt.zero (box_up (U1.trans U2) (alloc2 w _ _))); obtain ⟨hbz, q0, q1, q2, q3, q4, q5, q6, q7, q8⟩ := WrAt.cells HZ.out; simp only [wr0] at q0 q1 q2 q3 q4 q5 q6 q7 q8; have hfz := box_free HZ.out; have HO := Lib.hid ho2; have hs1 := U1.size; simp at hs1; have HU := Lib.hid (show Up w w2 by (repeat (first | with_reducible exact Up.refl _ | with_reducible assumption | with_reducible refine Up.set ?_ (by first | exact Nat.le_refl _ | (simp only []; omega) | (simp; omega)) _ | with_reducible refine Up.alloc ?_ _ | with_reducible refine Up.drew ?_ | refine Up.trans ?_ (by with_reducible assumption)))); clear ho2) | fail)
    refine bodyPost_ret (v := .tuple #[wrV ⟨k, [], [], false⟩ (.slice a2 k.ps.length c2), .bool true]) (by simp [results, Tryz.results77, go_sem, q0, q1, q2, q3, q4, q5, q6, q7, q8]; rfl) rfl ⟨_, rfl, ?_, ?_⟩
    · exact WrW.own (b := w.heap.size + 1) (x := ⟨k, [], [], false⟩) (ownsRow_base HO.out (by omega)) (fun e => by have := (HO.out.lt _ e.symm).1; omega) _
    · exact WrW.up HU.out (Nat.le_succ _) ⟨k, [], [], false⟩ (.slice a2 k.ps.length c2)
end Go.Proofs.YtekogcjdaolcbaaGreatDoor

/- Walks of the reference's l3Put, l3Begin, l3Write. Conditions: what is known is valid, the pairs can be read, the code can be written. -/
namespace Go.Proofs.YtekogcjdaolcbaaGreatDoor
open Go Go.RowKit
def PutPost (y : WrD) (ps : List PairD) (v : Value) (w : World) (e : Ending) (w' : World) : Prop := ∃ v', e = .returned (wrV y v') ∧ ((v' = v ∧ y.k.ps = ps) ∨ ownPr w' w.heap.size v' y.k.ps) ∧ Up w w'
def putW (x : WrD) (n : Nat) : WrD := ⟨x.k.thru n, x.pend, x.bits ++ codeL x.k.set.ord n x.k.width, x.beg⟩
theorem wr_second (x : WrD) (v : Value) (w : World) (A B : Obj) : WrAt (w.heap.size + 1 + 1) x v (((w.alloc A).alloc B).alloc (.cells #[.int .i64 x.k.set.ord, .int .i64 x.k.set.lit, .int .i64 x.k.set.most, v, .int .i64 x.k.base, .int .i64 x.k.last, .string (bs x.pend), .string (bs x.bits), .bool x.beg] 29)) := alloc3c w _ _ _
set_option maxRecDepth 100000 in
set_option maxHeartbeats 8000000 in
theorem put_any (x : WrD) (v : Value) (lo : Nat) (n : Nat) (w : World) (hk : x.k.Ok) (hr : RdP lo w v x.k.ps) (hn : n ≤ 1048576) (hb : x.bits.length ≤ 900000) (hf : x.k.puts n) :
    Calls Tryz.prog 107  #[wrV x v, .int .i64 n] w (PutPost (putW x n) x.k.ps v w) := by
  have hrt := fun (wq : World) (hu : Up w wq) => hr.up hu
  have hwd := KnD.width_bd hk
  have cW := fun wq hr => l2Width_any x.k v lo wq hk hr
  have cC := fun wq => l1Code_any x.k.set.ord n x.k.width wq hn (by omega)
  have cE := fun wq => l1End_any x.k.set wq hk.set
  have hcat : bs x.bits ++ bs (codeL x.k.set.ord n x.k.width) = bs (x.bits ++ codeL x.k.set.ord n x.k.width) := bs_app _ _
  have HR := Lib.hid hr
  obtain ⟨a, cap, rfl, -, -, -, -⟩ := id hr
  have HF := Lib.hid hf
  have HK := Lib.hid hk
  have ec : x.k.c = clr x.k.set := rfl
  have hs1 := bs_size x.bits
  have hs2 := bs_size (codeL x.k.set.ord n x.k.width)
  rw [codeL_length] at hs2
  unfold wrV
  simp only [kV] at *
  clear hr hf hk
  go_enter Tryz.func107, Tryz.ntmps107
  go_wp2
  have hX0 := wr_first x (.slice a x.k.ps.length cap) w (.cells #[.int .i64 0, .int .i64 0, .int .i64 0, .slice none 0 0, .int .i64 0, .int .i64 0, .string ⟨#[]⟩, .string ⟨#[]⟩, .bool false] 29) (.cells #[.int .i64 x.k.set.ord, .int .i64 x.k.set.lit, .int .i64 x.k.set.most, .slice a x.k.ps.length cap, .int .i64 x.k.base, .int .i64 x.k.last, .string (bs x.pend), .string (bs x.bits), .bool x.beg] 29)
  have hX1 := WrAt.zero (alloc3 w (.cells #[.int .i64 x.k.set.ord, .int .i64 x.k.set.lit, .int .i64 x.k.set.most, .slice a x.k.ps.length cap, .int .i64 x.k.base, .int .i64 x.k.last, .string (bs x.pend), .string (bs x.bits), .bool x.beg] 29) (.cells #[.int .i64 0, .int .i64 0, .int .i64 0, .slice none 0 0, .int .i64 0, .int .i64 0, .string ⟨#[]⟩, .string ⟨#[]⟩, .bool false] 29) (.cells #[.int .i64 x.k.set.ord, .int .i64 x.k.set.lit, .int .i64 x.k.set.most, .slice a x.k.ps.length cap, .int .i64 x.k.base, .int .i64 x.k.last, .string (bs x.pend), .string (bs x.bits), .bool x.beg] 29))
  have hX2 := wr_second x (.slice a x.k.ps.length cap) w (.cells #[.int .i64 x.k.set.ord, .int .i64 x.k.set.lit, .int .i64 x.k.set.most, .slice a x.k.ps.length cap, .int .i64 x.k.base, .int .i64 x.k.last, .string (bs x.pend), .string (bs x.bits), .bool x.beg] 29) (.cells #[.int .i64 0, .int .i64 0, .int .i64 0, .slice none 0 0, .int .i64 0, .int .i64 0, .string ⟨#[]⟩, .string ⟨#[]⟩, .bool false] 29)
  have hU1 : Up w (((w.alloc (.cells #[.int .i64 x.k.set.ord, .int .i64 x.k.set.lit, .int .i64 x.k.set.most, .slice a x.k.ps.length cap, .int .i64 x.k.base, .int .i64 x.k.last, .string (bs x.pend), .string (bs x.bits), .bool x.beg] 29)).alloc (.cells #[.int .i64 0, .int .i64 0, .int .i64 0, .slice none 0 0, .int .i64 0, .int .i64 0, .string ⟨#[]⟩, .string ⟨#[]⟩, .bool false] 29)).alloc (.cells #[.int .i64 x.k.set.ord, .int .i64 x.k.set.lit, .int .i64 x.k.set.most, .slice a x.k.ps.length cap, .int .i64 x.k.base, .int .i64 x.k.last, .string (bs x.pend), .string (bs x.bits), .bool x.beg] 29)) := by (repeat (first | with_reducible exact Up.refl _ | with_reducible assumption | with_reducible refine Up.set ?_ (by first | exact Nat.le_refl _ | (simp only []; omega) | (simp; omega)) _ | with_reducible refine Up.alloc ?_ _ | with_reducible refine Up.drew ?_ | refine Up.trans ?_ (by with_reducible assumption)))
  have hW3 : w.heap.size + 3 ≤ (((w.alloc (.cells #[.int .i64 x.k.set.ord, .int .i64 x.k.set.lit, .int .i64 x.k.set.most, .slice a x.k.ps.length cap, .int .i64 x.k.base, .int .i64 x.k.last, .string (bs x.pend), .string (bs x.bits), .bool x.beg] 29)).alloc (.cells #[.int .i64 0, .int .i64 0, .int .i64 0, .slice none 0 0, .int .i64 0, .int .i64 0, .string ⟨#[]⟩, .string ⟨#[]⟩, .bool false] 29)).alloc (.cells #[.int .i64 x.k.set.ord, .int .i64 x.k.set.lit, .int .i64 x.k.set.most, .slice a x.k.ps.length cap, .int .i64 x.k.base, .int .i64 x.k.last, .string (bs x.pend), .string (bs x.bits), .bool x.beg] 29)).heap.size := by simp
  generalize (((w.alloc (.cells #[.int .i64 x.k.set.ord, .int .i64 x.k.set.lit, .int .i64 x.k.set.most, .slice a x.k.ps.length cap, .int .i64 x.k.base, .int .i64 x.k.last, .string (bs x.pend), .string (bs x.bits), .bool x.beg] 29)).alloc (.cells #[.int .i64 0, .int .i64 0, .int .i64 0, .slice none 0 0, .int .i64 0, .int .i64 0, .string ⟨#[]⟩, .string ⟨#[]⟩, .bool false] 29)).alloc (.cells #[.int .i64 x.k.set.ord, .int .i64 x.k.set.lit, .int .i64 x.k.set.most, .slice a x.k.ps.length cap, .int .i64 x.k.base, .int .i64 x.k.last, .string (bs x.pend), .string (bs x.bits), .bool x.beg] 29)) = W1 at *
  have HX := Lib.hid (And.intro hX0 (And.intro hX1 (And.intro hX2 hU1)))
  clear hX0 hX1 hX2 hU1
  refine wp_region_up 12 (by kernel_rfl) (by kernel_rfl) ?_
  simp only [List.take, List.drop]
  repeat (refine wpUp_step (fun K hK => ?_); go_simp; (try simp only [↓IntWalk.iteOmega]); first
    | (refine hK _ _ ?_; clear hK K)
    | (apply stepU_c
       · intro wq hwq; (have hbq := bcell hwq; (repeat (first | refine fills_no (by rfl) ?_ | refine fills_yes (by rfl) (fun vq hvq => ?_))); simp only [List.filter_nil, fills]; unfold upAt; (try ((obtain ⟨-, r0, r1, r2, r3, r4, r5, r6, r7, r8⟩ := (HX.out.1.up hwq).cells))); go_simp; (try go_bits); (try simp only [↓IntWalk.iteOmega]); (try (rw [dif_pos (by omega)]; go_simp; try go_bits)); first | exact upOut_value | (apply upOut_call; (go_at_call 151; exact cW _ (hrt _ (HX.out.2.2.2.trans hwq)))) | (apply upOut_eq; (go_at_call 151; exact cW _ (hrt _ (HX.out.2.2.2.trans hwq)))) | (apply upOut_call; (go_at_call 150; exact cC _)) | (apply upOut_eq; (go_at_call 150; exact cC _)))
       go_simp; refine hK _ _ ?_; clear hK K))
  refine wpUp_nil (fun wq hwq => ?_)
  simp only [fills]
  have HQ := Lib.hid (And.intro (HX.out.1.up hwq) (And.intro (HX.out.2.1.up hwq) (And.intro (HX.out.2.2.1.up hwq) (HX.out.2.2.2.trans hwq))))
  have hzq := hwq.size
  clear hwq HX
  obtain ⟨hbx, r0, r1, r2, r3, r4, r5, r6, r7, r8⟩ := HQ.out.1.cells
  obtain ⟨hby, s0, s1, s2, s3, s4, s5, s6, s7, s8⟩ := HQ.out.2.2.1.cells
  have hfy := box_free HQ.out.2.2.1
  obtain ⟨hbz, q0, q1, q2, q3, q4, q5, q6, q7, q8⟩ := HQ.out.2.1.cells
  simp only [wr0] at q0 q1 q2 q3 q4 q5 q6 q7 q8
  have hfz := box_free HQ.out.2.1
  go_wp2_with fail
  have hyput : ∀ y, WrAt (w.heap.size + 1 + 1) ⟨x.k, x.pend, x.bits ++ y, x.beg⟩ (.slice a x.k.ps.length cap) (wq.setCell ⟨w.heap.size + 1 + 1, 7, none⟩ (.string (bs (x.bits ++ y)))) := fun y => by
    have := box_set HQ.out.2.2.1 7 (.string (bs (x.bits ++ y)))
    unfold WrAt
    simpa using this
  have HY := Lib.hid (hyput (codeL x.k.set.ord n x.k.width))
  have HZ : Hid (WrAt (w.heap.size + 1) wr0 (.slice none 0 0) (wq.setCell ⟨w.heap.size + 1 + 1, 7, none⟩ (.string (bs (x.bits ++ codeL x.k.set.ord n x.k.width))))) := (Below.heap_setCell _ _ _ _ (show w.heap.size + 1 ≠ w.heap.size + 1 + 1 by omega)).trans HQ.out.2.1
  have HX : Hid (WrAt w.heap.size x (.slice a x.k.ps.length cap) (wq.setCell ⟨w.heap.size + 1 + 1, 7, none⟩ (.string (bs (x.bits ++ codeL x.k.set.ord n x.k.width))))) := (Below.heap_setCell _ _ _ _ (show w.heap.size ≠ w.heap.size + 1 + 1 by omega)).trans HQ.out.1
  have HUW : Hid (Up w (wq.setCell ⟨w.heap.size + 1 + 1, 7, none⟩ (.string (bs (x.bits ++ codeL x.k.set.ord n x.k.width))))) := HQ.out.2.2.2.set (p := ⟨w.heap.size + 1 + 1, 7, none⟩) (by show w.heap.size ≤ w.heap.size + 1 + 1; omega) _
  have hz9 : wq.heap.size ≤ (wq.setCell ⟨w.heap.size + 1 + 1, 7, none⟩ (.string (bs (x.bits ++ codeL x.k.set.ord n x.k.width)))).heap.size := by simp [World.setCell]
  have hfin : ∀ kk, kk = x.k.thru n → putW x n = ⟨kk, x.pend, x.bits ++ codeL x.k.set.ord n x.k.width, x.beg⟩ := fun kk e => by unfold putW; rw [e]
  have HFIN := Lib.hid hfin
  clear hyput hcat hfin cC cW
  generalize x.bits ++ codeL x.k.set.ord n x.k.width = b9 at *
  clear r0 r1 r2 r3 r4 r5 r6 r7 r8 q0 q1 q2 q3 q4 q5 q6 q7 q8 s0 s1 s2 s3 s4 s5 s6 s7 s8 hfy hfz HQ
  generalize wq.setCell ⟨w.heap.size + 1 + 1, 7, none⟩ (.string (bs b9)) = W2 at *
  have hl2 : w.heap.size + 3 ≤ W2.heap.size := by omega
  obtain ⟨hbx, r0, r1, r2, r3, r4, r5, r6, r7, r8⟩ := HX.out.cells
  obtain ⟨hby, s0, s1, s2, s3, s4, s5, s6, s7, s8⟩ := HY.out.cells
  obtain ⟨hbz, q0, q1, q2, q3, q4, q5, q6, q7, q8⟩ := HZ.out.cells
  simp only [wr0] at q0 q1 q2 q3 q4 q5 q6 q7 q8
  have hfy := box_free HY.out
  have hfz := box_free HZ.out
  rcases HF.out with hx | hx
  · have hth : Hid (x.k = x.k.thru n) := by unfold Hid KnD.thru; rw [if_pos hx]
    have hxe : ((n : Int) != ((clr x.k.set : Nat) : Int) + 1) = false := by rw [← ec]; simpa using hx
    have HFI := Lib.hid (HFIN.out x.k hth.out)
    clear hx HF hth HFIN
    with_reducible refine (cE _).mono ?_
    rintro e w3 ⟨rfl, U3⟩
    have B3 := bcell U3
    have hl3 := U3.size
    go_wp2_with fail
    have HU3 := Lib.hid (HUW.out.trans U3)
    obtain ⟨-, q0, q1, q2, q3, q4, q5, q6, q7, q8⟩ := (HZ.out.up U3).cells
    simp only [wr0] at q0 q1 q2 q3 q4 q5 q6 q7 q8
    refine bodyPost_ret (v := wrV ⟨x.k, x.pend, b9, x.beg⟩ (.slice a x.k.ps.length cap)) (by simp [results, Tryz.results107, go_sem, q0, q1, q2, q3, q4, q5, q6, q7, q8]; rfl) rfl ?_
    rw [HFI.out]
    exact ⟨_, rfl, .inl ⟨rfl, rfl⟩, WrW.up HU3.out (Nat.le_succ _) ⟨x.k, x.pend, b9, x.beg⟩ (.slice a x.k.ps.length cap)⟩
  · have hnc : (n : Int) ≠ (x.k.c : Int) + 1 := by rcases hx with hx | ⟨_, hx, _⟩ <;> omega
    have hsf : (n : Int) ≠ (x.k.c : Int) → x.k.follows n = true := fun h => by rcases hx with hx | ⟨_, _, hx⟩; exact absurd hx h; exact hx
    have hth : Hid (x.k.step n = x.k.thru n) := by
      unfold Hid KnD.step KnD.thru
      rw [if_neg hnc]
    have cS := fun wq hr => l2Step_any x.k (.slice a x.k.ps.length cap) lo n wq HK.out hr hsf
    have hst : (x.k.step n).set = x.k.set := by unfold KnD.step; split <;> rfl
    have HST := Lib.hid hst
    have HFI := Lib.hid (HFIN.out (x.k.step n) hth.out)
    have hxe : ((n : Int) != ((clr x.k.set : Nat) : Int) + 1) = true := by rw [← ec]; simpa using hnc
    clear hx HF hth HFIN hnc hsf hst
    generalize x.k.step n = kk at *
    simp only [kV] at cS
    with_reducible refine (cE _).mono ?_
    rintro e w3 ⟨rfl, U3⟩
    have B3 := bcell U3
    have hl3 := U3.size
    go_wp2_with (first | (go_at_call 152; (with_reducible refine (cS _ (hrt _ (HUW.out.trans U3))).mono ?_); rintro e w4 ⟨v4, rfl, ho4, U4⟩; obtain ⟨a4, c4, rfl⟩ := ownsRow_shape ho4; simp only [kV]; obtain ⟨hbz, q0, q1, q2, q3, q4, q5, q6, q7, q8⟩ := ((HZ.out.up U3).up U4).cells; simp only [wr0] at q0 q1 q2 q3 q4 q5 q6 q7 q8; have hfz := box_free ((HZ.out.up U3).up U4); obtain ⟨hby, s0, s1, s2, s3, s4, s5, s6, s7, s8⟩ := ((HY.out.up U3).up U4).cells; have hfy := box_free ((HY.out.up U3).up U4); have HO := Lib.hid ho4; have HU4 := Lib.hid ((HUW.out.trans U3).trans U4); clear ho4) | fail)
    refine bodyPost_ret (v := wrV ⟨kk, x.pend, b9, x.beg⟩ (.slice a4 kk.ps.length c4)) (by simp [results, Tryz.results107, go_sem, q0, q1, q2, q3, q4, q5, q6, q7, q8]; rfl) rfl ?_
    rw [HFI.out]
    have hlo := fun b e => (HO.out.lt b e).1
    refine ⟨_, rfl, .inr ?_, ?_⟩
    · exact WrW.own (b := w.heap.size + 1) (KnW.own (ownsRow_base HO.out (by omega)) (b := w.heap.size + 1 + 1) (fun e => by have := hlo _ e.symm; omega) kk _) (fun e => by have := hlo _ e.symm; omega) ⟨kk, x.pend, b9, x.beg⟩ _
    · exact WrW.up (KnW.up HU4.out (show w.heap.size ≤ w.heap.size + 1 + 1 by omega) kk _) (Nat.le_succ _) ⟨kk, x.pend, b9, x.beg⟩ _
def PutO (base : Nat) (y : WrD) (ps : List PairD) (v : Value) (u : Value) (w : World) : Prop := ∃ v', u = wrV y v' ∧ ((v' = v ∧ y.k.ps = ps) ∨ ownPr w base v' y.k.ps)
theorem putO_closed (base : Nat) (y : WrD) (ps : List PairD) (v : Value) : ∀ u, UpClosed (PutO base y ps v u) := fun u w w' ⟨v', h1, h2⟩ hu => ⟨v', h1, h2.imp id (fun h => ownsRow_up h hu)⟩
theorem upOut_put {f : FuncId} {args : Array Value} {w : World} {y : WrD} {ps : List PairD} {v : Value} {base : Nat} (h : Calls Tryz.prog f args w (PutPost y ps v w)) (hb : base ≤ w.heap.size) : upOut Tryz.prog (PutO base y ps v) w (.ok (.enter f args) w) :=
  ⟨rfl, h.mono fun e w' ⟨v', he, h2, hu⟩ => ⟨_, he, hu, v', rfl, h2.imp id (fun h => ownsRow_base h hb)⟩⟩
theorem put_shape {w : World} {base : Nat} {ps qs : List PairD} {a : Option Addr} {cap : Nat} {v' : Value} (h : (v' = .slice a ps.length cap ∧ qs = ps) ∨ ownPr w base v' qs) : ∃ a' c', v' = .slice a' qs.length c' := by
  rcases h with ⟨rfl, e⟩ | h
  · rw [e]; exact ⟨_, _, rfl⟩
  · exact ownsRow_shape h
def begW (x : WrD) : WrD := ⟨x.open.2, x.pend, x.open.1, true⟩
set_option maxRecDepth 100000 in
set_option maxHeartbeats 8000000 in
theorem begin_any (x : WrD) (v : Value) (lo : Nat) (w : World) (hk : x.k.Ok) (hr : RdP lo w v x.k.ps) (hb : x.bits.length ≤ 900000) :
    Calls Tryz.prog 105  #[wrV x v] w (PutPost (begW x) x.k.ps v w) := by
  have hrt := fun (wq : World) (hu : Up w wq) => hr.up hu
  have cK := fun wq => l1Clear_any x.k.set wq hk.set
  have hc := (hk.nums)
  have cP := fun wq hr => put_any x v lo (clr x.k.set) wq hk hr (by omega) hb (.inr (.inl rfl))
  obtain ⟨a, cap, rfl, -, -, -, -⟩ := id hr
  have hpw : putW x (clr x.k.set) = ⟨x.k.cleared, x.pend, x.bits ++ codeL x.k.set.ord x.k.c x.k.width, x.beg⟩ := by
    unfold putW
    rw [show ((clr x.k.set : Nat) : Int) = (x.k.c : Int) from rfl, thru_clear]
    rfl
  rw [hpw] at cP
  have HK := Lib.hid hk
  clear hpw hr hk
  obtain ⟨k, pend, bits, beg⟩ := x
  dsimp only at *
  cases beg
  · have HO : Hid (begW ⟨k, pend, bits, false⟩ = ⟨k.cleared, pend, bits ++ codeL k.set.ord k.c k.width, true⟩) := rfl
    unfold wrV at *
    simp only [kV, setV] at *
    go_enter Tryz.func105, Tryz.ntmps105
    go_wp2_with fail
    have hX0 : WrAt w.heap.size ⟨k, pend, bits, false⟩ (.slice a k.ps.length cap) ((w.alloc (.cells #[.int .i64 k.set.ord, .int .i64 k.set.lit, .int .i64 k.set.most, .slice a k.ps.length cap, .int .i64 k.base, .int .i64 k.last, .string (bs pend), .string (bs bits), .bool false] 29)).alloc (.cells #[.int .i64 0, .int .i64 0, .int .i64 0, .slice none 0 0, .int .i64 0, .int .i64 0, .string ⟨#[]⟩, .string ⟨#[]⟩, .bool false] 29)) := box_up ((Up.refl _).alloc _) (MapKept.heap_alloc w _).1
    have hX1 := WrAt.zero (alloc2 w (.cells #[.int .i64 k.set.ord, .int .i64 k.set.lit, .int .i64 k.set.most, .slice a k.ps.length cap, .int .i64 k.base, .int .i64 k.last, .string (bs pend), .string (bs bits), .bool false] 29) (.cells #[.int .i64 0, .int .i64 0, .int .i64 0, .slice none 0 0, .int .i64 0, .int .i64 0, .string ⟨#[]⟩, .string ⟨#[]⟩, .bool false] 29))
    have hU1 : Up w ((w.alloc (.cells #[.int .i64 k.set.ord, .int .i64 k.set.lit, .int .i64 k.set.most, .slice a k.ps.length cap, .int .i64 k.base, .int .i64 k.last, .string (bs pend), .string (bs bits), .bool false] 29)).alloc (.cells #[.int .i64 0, .int .i64 0, .int .i64 0, .slice none 0 0, .int .i64 0, .int .i64 0, .string ⟨#[]⟩, .string ⟨#[]⟩, .bool false] 29)) := by (repeat (first | with_reducible exact Up.refl _ | with_reducible assumption | with_reducible refine Up.set ?_ (by first | exact Nat.le_refl _ | (simp only []; omega) | (simp; omega)) _ | with_reducible refine Up.alloc ?_ _ | with_reducible refine Up.drew ?_ | refine Up.trans ?_ (by with_reducible assumption)))
    have hW2 : w.heap.size + 2 ≤ ((w.alloc (.cells #[.int .i64 k.set.ord, .int .i64 k.set.lit, .int .i64 k.set.most, .slice a k.ps.length cap, .int .i64 k.base, .int .i64 k.last, .string (bs pend), .string (bs bits), .bool false] 29)).alloc (.cells #[.int .i64 0, .int .i64 0, .int .i64 0, .slice none 0 0, .int .i64 0, .int .i64 0, .string ⟨#[]⟩, .string ⟨#[]⟩, .bool false] 29)).heap.size := by simp
    generalize ((w.alloc (.cells #[.int .i64 k.set.ord, .int .i64 k.set.lit, .int .i64 k.set.most, .slice a k.ps.length cap, .int .i64 k.base, .int .i64 k.last, .string (bs pend), .string (bs bits), .bool false] 29)).alloc (.cells #[.int .i64 0, .int .i64 0, .int .i64 0, .slice none 0 0, .int .i64 0, .int .i64 0, .string ⟨#[]⟩, .string ⟨#[]⟩, .bool false] 29)) = W1 at *
    have HX := Lib.hid (And.intro hX0 (And.intro hX1 hU1))
    clear hX0 hX1 hU1
    refine wp_region_up 7 (by kernel_rfl) (by kernel_rfl) ?_
    simp only [List.take, List.drop]
    repeat (refine wpUp_step (fun K hK => ?_); go_simp; (try simp only [↓IntWalk.iteOmega]); first
      | (refine hK _ _ ?_; clear hK K)
      | (apply stepU_c
         · intro wq hwq; (have hbq := bcell hwq; (repeat (first | refine fills_no (by rfl) ?_ | refine fills_yes (by rfl) (fun vq hvq => ?_))); simp only [List.filter_nil, fills]; unfold upAt; (try ((obtain ⟨-, r0, r1, r2, r3, r4, r5, r6, r7, r8⟩ := (HX.out.1.up hwq).cells))); go_simp; (try go_bits); (try simp only [↓IntWalk.iteOmega]); (try (rw [dif_pos (by omega)]; go_simp; try go_bits)); first | exact upOut_value | (apply upOut_call; (go_at_call 86; exact cK _)) | (apply upOut_eq; (go_at_call 86; exact cK _)))
         go_simp; refine hK _ _ ?_; clear hK K)
      | (refine stepU_m (by kernel_rfl) (PutO W1.heap.size ⟨k.cleared, pend, bits ++ codeL k.set.ord k.c k.width, false⟩ k.ps (.slice a k.ps.length cap)) (putO_closed _ _ _ _) (fun wq hwq => ?_) ?_
         · (have hbq := bcell hwq; (repeat (first | refine fills_no (by rfl) ?_ | refine fills_yes (by rfl) (fun vq hvq => ?_))); simp only [List.filter_nil, fills]; unfold upAt; (try ((obtain ⟨-, r0, r1, r2, r3, r4, r5, r6, r7, r8⟩ := (HX.out.1.up hwq).cells))); go_simp; (try go_bits); (try simp only [↓IntWalk.iteOmega]); (try (rw [dif_pos (by omega)]; go_simp; try go_bits)); ((with_reducible refine upOut_put ?_ hwq.size); go_at_call 107; exact cP _ (hrt _ (HX.out.2.2.trans hwq))))
         refine hK _ _ ?_; clear hK K)
      | (refine stepU_m (by kernel_rfl) (Boxed W1.heap.size #[.int .i64 0, .int .i64 0, .int .i64 0, .slice none 0 0, .int .i64 0, .int .i64 0, .string ⟨#[]⟩, .string ⟨#[]⟩, .bool false] 29) (boxed_closed _ _ _) (fun wq hwq => ?_) ?_
         · (have hbq := bcell hwq; (repeat (first | refine fills_no (by rfl) ?_ | refine fills_yes (by rfl) (fun vq hvq => ?_))); simp only [List.filter_nil, fills]; unfold upAt; (try ((obtain ⟨-, r0, r1, r2, r3, r4, r5, r6, r7, r8⟩ := (HX.out.1.up hwq).cells))); go_simp; (try go_bits); (try simp only [↓IntWalk.iteOmega]); (try (rw [dif_pos (by omega)]; go_simp; try go_bits)); exact upOut_make ((Up.refl _).alloc _) (boxed_new hwq.size))
         refine hK _ _ ?_; clear hK K))
    refine wpUp_nil (fun wq hwq => ?_)
    simp only [fills]
    rintro v3 ⟨pb, rfl, hpb, hbox⟩ u ⟨v9, rfl, h9⟩
    generalize bits ++ codeL k.set.ord k.c k.width = b9 at *
    obtain ⟨a9, c9, rfl⟩ := put_shape h9
    dsimp only at h9
    have H9 := Lib.hid h9
    have HB := Lib.hid hbox
    obtain ⟨hbz, q0, q1, q2, q3, q4, q5, q6, q7, q8⟩ := WrAt.cells (HX.out.2.1.up hwq)
    simp only [wr0] at q0 q1 q2 q3 q4 q5 q6 q7 q8
    have hfz := box_free (HX.out.2.1.up hwq)
    obtain ⟨hby, s0, s1, s2, s3, s4, s5, s6, s7, s8⟩ := WrAt.cells (WrAt.zero hbox)
    simp only [wr0] at s0 s1 s2 s3 s4 s5 s6 s7 s8
    have hfy := box_free hbox
    have HU := Lib.hid (HX.out.2.2.trans hwq)
    have hn1 : ¬ w.heap.size + 1 = pb := by omega
    have hn2 : ¬ pb = w.heap.size + 1 := by omega
    have hkc : k.cleared.set = k.set := rfl
    generalize k.cleared = kk at *
    clear h9 hbox hkc cP cK hrt
    have hY : WrAt pb ⟨kk, pend, b9, true⟩ (.slice a9 kk.ps.length c9) ((((((((((wq.setCell ⟨pb, 0, none⟩ (.int .i64 kk.set.ord)).setCell ⟨pb, 1, none⟩ (.int .i64 kk.set.lit)).setCell ⟨pb, 2, none⟩ (.int .i64 kk.set.most)).setCell ⟨pb, 3, none⟩ (.slice a9 kk.ps.length c9)).setCell ⟨pb, 4, none⟩ (.int .i64 kk.base)).setCell ⟨pb, 5, none⟩ (.int .i64 kk.last)).setCell ⟨pb, 6, none⟩ (.string (bs pend))).setCell ⟨pb, 7, none⟩ (.string (bs b9))).setCell ⟨pb, 8, none⟩ (.bool false)).setCell ⟨pb, 8, none⟩ (.bool true)) := by
      have h0 := WrAt.store (WrAt.zero HB.out) ⟨kk, pend, b9, false⟩ (.slice a9 kk.ps.length c9)
      unfold WrAt at h0
      have h1 := box_set h0 8 (.bool true)
      unfold WrAt
      simpa [WrW, KnW] using h1
    have hZ : WrAt (w.heap.size + 1) wr0 (.slice none 0 0) ((((((((((wq.setCell ⟨pb, 0, none⟩ (.int .i64 kk.set.ord)).setCell ⟨pb, 1, none⟩ (.int .i64 kk.set.lit)).setCell ⟨pb, 2, none⟩ (.int .i64 kk.set.most)).setCell ⟨pb, 3, none⟩ (.slice a9 kk.ps.length c9)).setCell ⟨pb, 4, none⟩ (.int .i64 kk.base)).setCell ⟨pb, 5, none⟩ (.int .i64 kk.last)).setCell ⟨pb, 6, none⟩ (.string (bs pend))).setCell ⟨pb, 7, none⟩ (.string (bs b9))).setCell ⟨pb, 8, none⟩ (.bool false)).setCell ⟨pb, 8, none⟩ (.bool true)) := (Below.heap_setCell _ _ _ _ hn1).trans ((WrW.other hn1 ⟨kk, pend, b9, false⟩ (.slice a9 kk.ps.length c9)).trans (HX.out.2.1.up hwq))
    have hU5 : Up w ((((((((((wq.setCell ⟨pb, 0, none⟩ (.int .i64 kk.set.ord)).setCell ⟨pb, 1, none⟩ (.int .i64 kk.set.lit)).setCell ⟨pb, 2, none⟩ (.int .i64 kk.set.most)).setCell ⟨pb, 3, none⟩ (.slice a9 kk.ps.length c9)).setCell ⟨pb, 4, none⟩ (.int .i64 kk.base)).setCell ⟨pb, 5, none⟩ (.int .i64 kk.last)).setCell ⟨pb, 6, none⟩ (.string (bs pend))).setCell ⟨pb, 7, none⟩ (.string (bs b9))).setCell ⟨pb, 8, none⟩ (.bool false)).setCell ⟨pb, 8, none⟩ (.bool true)) := by
      have hU := HU.out
      (repeat (first | with_reducible exact Up.refl _ | with_reducible assumption | with_reducible refine Up.set ?_ (by first | exact Nat.le_refl _ | (simp only []; omega) | (simp; omega)) _ | with_reducible refine Up.alloc ?_ _ | with_reducible refine Up.drew ?_ | refine Up.trans ?_ (by with_reducible assumption)))
    have hO5 : (.slice a9 kk.ps.length c9 = Value.slice a k.ps.length cap ∧ kk.ps = k.ps) ∨ ownPr ((((((((((wq.setCell ⟨pb, 0, none⟩ (.int .i64 kk.set.ord)).setCell ⟨pb, 1, none⟩ (.int .i64 kk.set.lit)).setCell ⟨pb, 2, none⟩ (.int .i64 kk.set.most)).setCell ⟨pb, 3, none⟩ (.slice a9 kk.ps.length c9)).setCell ⟨pb, 4, none⟩ (.int .i64 kk.base)).setCell ⟨pb, 5, none⟩ (.int .i64 kk.last)).setCell ⟨pb, 6, none⟩ (.string (bs pend))).setCell ⟨pb, 7, none⟩ (.string (bs b9))).setCell ⟨pb, 8, none⟩ (.bool false)).setCell ⟨pb, 8, none⟩ (.bool true)) W1.heap.size (.slice a9 kk.ps.length c9) kk.ps := by
      refine H9.out.imp id (fun h => ?_)
      have hne1 : some pb ≠ Value.ownBlock (.slice a9 kk.ps.length c9) := box_ne HB.out h (by decide)
      repeat (with_reducible refine ownsRow_setb ?_ hne1 _ _)
      exact h
    have HALL := Lib.hid (And.intro hY (And.intro hZ (And.intro hU5 hO5)))
    clear hY hZ hU5 hO5 hwq HX
    unfold wrV
    go_simp
    iterate 17 go_step
    clear q0 q1 q2 q3 q4 q5 q6 q7 q8 s0 s1 s2 s3 s4 s5 s6 s7 s8 hfy hfz HU HB H9
    generalize ((((((((((wq.setCell ⟨pb, 0, none⟩ (.int .i64 kk.set.ord)).setCell ⟨pb, 1, none⟩ (.int .i64 kk.set.lit)).setCell ⟨pb, 2, none⟩ (.int .i64 kk.set.most)).setCell ⟨pb, 3, none⟩ (.slice a9 kk.ps.length c9)).setCell ⟨pb, 4, none⟩ (.int .i64 kk.base)).setCell ⟨pb, 5, none⟩ (.int .i64 kk.last)).setCell ⟨pb, 6, none⟩ (.string (bs pend))).setCell ⟨pb, 7, none⟩ (.string (bs b9))).setCell ⟨pb, 8, none⟩ (.bool false)).setCell ⟨pb, 8, none⟩ (.bool true)) = W5 at HALL ⊢
    obtain ⟨hY, hZ, hU5, hO5⟩ := HALL.out
    obtain ⟨hby, s0, s1, s2, s3, s4, s5, s6, s7, s8⟩ := hY.cells
    obtain ⟨hbz, q0, q1, q2, q3, q4, q5, q6, q7, q8⟩ := hZ.cells
    simp only [wr0] at q0 q1 q2 q3 q4 q5 q6 q7 q8
    have hfz := box_free hZ
    clear hY hZ hO5
    go_wp2_with fail
    refine bodyPost_ret (v := wrV ⟨kk, pend, b9, true⟩ (.slice a9 kk.ps.length c9)) (by simp [results, Tryz.results105, go_sem, q0, q1, q2, q3, q4, q5, q6, q7, q8]; rfl) rfl ?_
    rw [HO.out]
    refine ⟨.slice a9 kk.ps.length c9, rfl, ?_, ?_⟩
    · refine HALL.out.2.2.2.imp id (fun h => ?_)
      have hne2 : some (w.heap.size + 1) ≠ Value.ownBlock (.slice a9 kk.ps.length c9) := fun e => by have := (h.lt _ e.symm).1; omega
      have h' := ownsRow_base (base' := w.heap.size) h (by omega)
      repeat (with_reducible refine ownsRow_setb ?_ hne2 _ _)
      exact h'
    · (repeat (first | with_reducible exact Up.refl _ | with_reducible assumption | with_reducible refine Up.set ?_ (by first | exact Nat.le_refl _ | (simp only []; omega) | (simp; omega)) _ | with_reducible refine Up.alloc ?_ _ | with_reducible refine Up.drew ?_ | refine Up.trans ?_ (by with_reducible assumption)))
  · have HO : Hid (begW ⟨k, pend, bits, true⟩ = ⟨k, pend, bits, true⟩) := rfl
    unfold wrV at *
    clear cP cK
    simp only [kV, setV] at *
    go_enter Tryz.func105, Tryz.ntmps105
    go_wp2_with fail
    obtain ⟨-, q0, q1, q2, q3, q4, q5, q6, q7, q8⟩ := WrAt.cells (WrAt.zero (alloc2 w (.cells #[.int .i64 k.set.ord, .int .i64 k.set.lit, .int .i64 k.set.most, .slice a k.ps.length cap, .int .i64 k.base, .int .i64 k.last, .string (bs pend), .string (bs bits), .bool true] 29) (.cells #[.int .i64 0, .int .i64 0, .int .i64 0, .slice none 0 0, .int .i64 0, .int .i64 0, .string ⟨#[]⟩, .string ⟨#[]⟩, .bool false] 29)))
    simp only [wr0] at q0 q1 q2 q3 q4 q5 q6 q7 q8
    refine bodyPost_ret (v := wrV ⟨k, pend, bits, true⟩ (.slice a k.ps.length cap)) (by simp [results, Tryz.results105, go_sem, q0, q1, q2, q3, q4, q5, q6, q7, q8]; rfl) rfl ?_
    rw [HO.out]
    refine ⟨.slice a k.ps.length cap, rfl, .inl ⟨rfl, rfl⟩, ?_⟩
    (repeat (first | with_reducible exact Up.refl _ | with_reducible assumption | with_reducible refine Up.set ?_ (by first | exact Nat.le_refl _ | (simp only []; omega) | (simp; omega)) _ | with_reducible refine Up.alloc ?_ _ | with_reducible refine Up.drew ?_ | refine Up.trans ?_ (by with_reducible assumption)))
def plenC (b : Nat) (w : World) : Nat := match w.cell? ⟨b, 6, none⟩ with
  | some (.string s) => s.size
  | _ => 0
theorem plenC_at {b : Nat} {x : WrD} {v : Value} {w : World} (h : WrAt b x v w) : plenC b w = x.pend.length := by
  obtain ⟨-, -, -, -, -, -, -, h6, -⟩ := h.cells
  unfold plenC
  rw [h6]
  exact bs_size _
theorem bs_ne {a b : List UInt8} (h : a ≠ b) : ((bs a).toList == (bs b).toList) = false := by
  rw [Lib.toList_data, Lib.toList_data, bs_data, bs_data]
  simpa using h
structure LwAt (T : List UInt8 × KnD × List UInt8) (s : SetD) (v0 : Value) (ps0 : List PairD) (w : World) (ob m : Nat) (k : KnD) (d b : List UInt8) (v : Value) (wr : World) : Prop where
  dat : WlD T s m k d b
  box : WrAt ob ⟨k, d, b, true⟩ v wr
  res : WrAt (w.heap.size + 1) wr0 (.slice none 0 0) wr
  up : Up w wr
  pr : (v = v0 ∧ k.ps = ps0) ∨ ownPr wr w.heap.size v k.ps
def RelLw (T : List UInt8 × KnD × List UInt8) (s : SetD) (v0 : Value) (ps0 : List PairD) (w : World) (ob : Nat) (wr : World) : Prop := ∃ m k d b v, LwAt T s v0 ps0 w ob m k d b v wr
theorem LwAt.rd {T : List UInt8 × KnD × List UInt8} {s : SetD} {v0 v : Value} {ps0 : List PairD} {w wr : World} {ob m lo : Nat} {k : KnD} {d b : List UInt8} (h : LwAt T s v0 ps0 w ob m k d b v wr) (hr : RdP lo w v0 ps0) : RdP 0 wr v k.ps := by
  rcases h.pr with ⟨rfl, e⟩ | h1
  · rw [e]; exact (hr.up h.up).low (Nat.zero_le _)
  · exact (RdP.of_own h1).low (Nat.zero_le _)
set_option maxRecDepth 100000 in
set_option maxHeartbeats 16000000 in
theorem l3Write_any (x : WrD) (v : Value) (lo : Nat) (d : List UInt8) (w : World) (hx : wrOk x) (hd0 : d ≠ []) (hl : ∀ b ∈ d, b.toNat < clr x.k.set) (hn : (x.pend ++ d).length ≤ 2000) (hr : RdP lo w v x.k.ps) :
    Calls Tryz.prog 46  #[wrV x v, .string (bs d)] w (PutPost ⟨(x.codes d).2.1, (x.codes d).2.2, x.all d, true⟩ x.k.ps v w) := by
  have HST := Lib.hid (WlD.start hx hd0 hl hn)
  have hb7 := hx.2.2.2.2.2.1
  have cB := fun wq hr => begin_any x v lo wq hx.1 hr (by omega)
  have hrt := fun (wq : World) (hu : Up w wq) => hr.up hu
  have HR := Lib.hid hr
  obtain ⟨T1, hT1⟩ : ∃ T1, Hid (T1 = x.all d) := ⟨_, rfl⟩
  obtain ⟨T2, hT2⟩ : ∃ T2, Hid (T2 = x.codes d) := ⟨_, rfl⟩
  rw [← hT1.out, ← hT2.out] at HST ⊢
  have hcat : bs x.pend ++ bs d = bs (x.pend ++ d) := bs_app _ _
  have hsp := bs_size x.pend
  have hsd := bs_size d
  have hdl : d.length ≤ 2000 := by rw [List.length_append] at hn; omega
  have hn2 : x.pend.length + d.length ≤ 2000 := by rw [List.length_append] at hn; omega
  have hbw : begW x = ⟨x.open.2, x.pend, x.open.1, true⟩ := rfl
  rw [hbw] at cB
  obtain ⟨a, cap, rfl, -, -, -, -⟩ := id hr
  have hos := Lib.hid (WrD.open_ok hx.1).2
  clear hx hr hT1 hT2 hl hbw
  generalize x.open.2 = ko at *
  generalize x.open.1 = bo at *
  unfold wrV at *
  go_enter Tryz.func46, Tryz.ntmps46
  go_wp2_with fail
  with_reducible refine (cB _ (hrt _ (by (repeat (first | with_reducible exact Up.refl _ | with_reducible assumption | with_reducible refine Up.set ?_ (by first | exact Nat.le_refl _ | (simp only []; omega) | (simp; omega)) _ | with_reducible refine Up.alloc ?_ _ | with_reducible refine Up.drew ?_ | refine Up.trans ?_ (by with_reducible assumption)))))).mono ?_
  rintro e w2 ⟨v2, rfl, hp2, U2⟩
  obtain ⟨a2, c2, rfl⟩ := put_shape hp2
  dsimp only at hp2
  have hX2 : WrAt w.heap.size x (.slice a x.k.ps.length cap) w2 := box_up U2 (box_up ((Up.refl _).alloc _) (MapKept.heap_alloc w _).1)
  have hZ2 := WrAt.zero (box_up U2 (alloc2 w _ _))
  have hU2 : Up w w2 := by (repeat (first | with_reducible exact Up.refl _ | with_reducible assumption | with_reducible refine Up.set ?_ (by first | exact Nat.le_refl _ | (simp only []; omega) | (simp; omega)) _ | with_reducible refine Up.alloc ?_ _ | with_reducible refine Up.drew ?_ | refine Up.trans ?_ (by with_reducible assumption)))
  have hl2 : w.heap.size + 2 ≤ w2.heap.size := by have := U2.size; simp at this; exact this
  obtain ⟨hbx, r0, r1, r2, r3, r4, r5, r6, r7, r8⟩ := hX2.cells
  have HH := Lib.hid (And.intro hX2 (And.intro hZ2 (And.intro hU2 hp2)))
  clear hX2 hZ2 hU2 hp2 U2 cB
  unfold wrV
  go_wp2_with fail
  have hA : WrAt w2.heap.size ⟨ko, x.pend ++ d, bo, true⟩ (.slice a2 ko.ps.length c2) (w2.alloc (.cells #[.int .i64 ko.set.ord, .int .i64 ko.set.lit, .int .i64 ko.set.most, .slice a2 ko.ps.length c2, .int .i64 ko.base, .int .i64 ko.last, .string (bs (x.pend ++ d)), .string (bs bo), .bool true] 29)) := (MapKept.heap_alloc w2 _).1
  have hL0 : RelLw (T1, T2.2) x.k.set (.slice a x.k.ps.length cap) x.k.ps w w2.heap.size (w2.alloc (.cells #[.int .i64 ko.set.ord, .int .i64 ko.set.lit, .int .i64 ko.set.most, .slice a2 ko.ps.length c2, .int .i64 ko.base, .int .i64 ko.last, .string (bs (x.pend ++ d)), .string (bs bo), .bool true] 29)) :=
    ⟨_, ko, x.pend ++ d, bo, .slice a2 ko.ps.length c2, HST.out, hA, HH.out.2.1.up ((Up.refl _).alloc _), HH.out.2.2.1.alloc _, HH.out.2.2.2.imp id (fun h => ownsRow_base (ownsRow_up h ((Up.refl _).alloc _)) (by simp; omega))⟩
  have HL0 := Lib.hid hL0
  clear hA hL0 HST HH r0 r1 r2 r3 r4 r5 r6 r7 r8
  go_loopw [6] (fun _ wr => RelLw (T1, T2.2) x.k.set (.slice a x.k.ps.length cap) x.k.ps w w2.heap.size wr) (fun _ wr => plenC w2.heap.size wr)
  case atStart => exact HL0.out
  case round =>
    clear HL0 hcat hsp hsd hn hn2 hb7 hd0 hos
    obtain ⟨m, k, e, b, v1, hL⟩ := hrel
    have hok := hL.dat.ok
    have HSET := Lib.hid hL.dat.set
    have hne := hL.dat.ne
    have hle2 := hL.dat.le
    have hsum := hL.dat.sum
    have hpos := List.length_pos_iff.2 hne
    have hse := bs_size e
    have hpl := hok.nums.2.2.2.1
    obtain ⟨a1, c1, rfl⟩ := put_shape hL.pr
    have hrd := fun (wq : World) (hu : Up wr wq) => (hL.rd HR.out).up hu
    have cL := fun wq hr => l2Longest_any k (.slice a1 k.ps.length c1) 0 (bs e) wq hok hr (by rw [bs_size]; exact hpos) (by rw [bs_size]; omega)
    rw [bs_data] at cL
    obtain ⟨hbx, r0, r1, r2, r3, r4, r5, r6, r7, r8⟩ := hL.box.cells
    obtain ⟨hbz, q0, q1, q2, q3, q4, q5, q6, q7, q8⟩ := hL.res.cells
    simp only [wr0] at q0 q1 q2 q3 q4 q5 q6 q7 q8
    have hszr := hL.up.size
    have hfz := box_free hL.res
    have hfx := box_free hL.box
    simp only [kV] at cL
    have HM := Lib.hid (plenC_at hL.box)
    by_cases hle : k.longest e = e
    · have hT := hL.dat.stop hle
      simp only [Prod.mk.injEq] at hT
      obtain ⟨hT1, hT2⟩ := hT
      have HT2 := Lib.hid (And.intro (show T2.2.1 = k by rw [hT2]) (show T2.2.2 = e by rw [hT2]))
      subst hT1
      rw [hle] at cL
      have HL := Lib.hid hL
      clear hL hT2 hle hne hok HM
      go_wp2_with (first | ((go_at_call 106; (with_reducible refine (cL _ (hrd _ (Up.refl _))).mono ?_); rintro e w4 ⟨rfl, U4⟩; have B4 := bcell U4; have Z4 := U4.size; (try simp at Z4); (try rw [Nat.add_one_le_iff] at Z4))) | fail)
      have HU4 := Lib.hid U4
      obtain ⟨-, q0, q1, q2, q3, q4, q5, q6, q7, q8⟩ := (HL.out.res.up U4).cells
      simp only [wr0] at q0 q1 q2 q3 q4 q5 q6 q7 q8
      refine bodyPost_ret (v := wrV ⟨k, e, T1, true⟩ (.slice a1 k.ps.length c1)) (by simp [results, Tryz.results46, go_sem, q0, q1, q2, q3, q4, q5, q6, q7, q8]; rfl) rfl ?_
      rw [HT2.out.1, HT2.out.2]
      refine ⟨.slice a1 k.ps.length c1, rfl, ?_, ?_⟩
      · refine HL.out.pr.imp id (fun h => ?_)
        have hne2 : some (w.heap.size + 1) ≠ Value.ownBlock (.slice a1 k.ps.length c1) := box_ne HL.out.res h (by decide)
        have h' := ownsRow_up h HU4.out
        repeat (with_reducible refine ownsRow_setb ?_ hne2 _ _)
        exact h'
      · have hU := HL.out.up.trans HU4.out
        (repeat (first | with_reducible exact Up.refl _ | with_reducible assumption | with_reducible refine Up.set ?_ (by first | exact Nat.le_refl _ | (simp only []; omega) | (simp; omega)) _ | with_reducible refine Up.alloc ?_ _ | with_reducible refine Up.drew ?_ | refine Up.trans ?_ (by with_reducible assumption)))
    · have hne1 := bs_ne hle
      obtain ⟨⟨hfw, hxc, hxe, hlp, hlt⟩, hfull, hmore⟩ := hL.dat.step hle
      have hfb := KnD.find_bd hok hfw
      have hc := c_of HSET.out
      obtain ⟨n, hn⟩ := Int.eq_ofNat_of_zero_le hfb.1
      have hka := KnD.after_ok hok hfw
      have hth := KnD.thru_fol hok hfw
      have hwd := KnD.width_bd hok
      obtain ⟨k9, hk9⟩ : ∃ k9, Hid (k9 = k.after (k.find (k.longest e))) := ⟨_, rfl⟩
      rw [← hk9.out] at hfull hmore hka hth
      have cF := fun wq hr => l2Find_any k (.slice a1 k.ps.length c1) 0 (bs (k.longest e)) wq hok hr (by rw [bs_size]; omega)
      rw [bs_data] at cF
      rw [hn] at hfull hmore hth hxc hxe hfw cF
      rw [Int.toNat_natCast] at hfull hmore
      have hs9 : k9.set = x.k.set := by rw [hk9.out]; exact HSET.out
      have cP := fun wq hr => put_any ⟨k, e, b, true⟩ (.slice a1 k.ps.length c1) 0 n wq hok hr (by omega) (by show b.length ≤ 900000; omega) (.inr (.inr ⟨hxc, hxe, hfw⟩))
      have hpw : putW ⟨k, e, b, true⟩ n = ⟨k9, e, b ++ codeL x.k.set.ord n k.width, true⟩ := by
        unfold putW
        dsimp only
        rw [hth, HSET.out]
      rw [hpw] at cP
      have hbd : (bs e).extract (k.longest e).length e.length = bs (e.drop (k.longest e).length) := by rw [bs_ext]; congr 1; exact List.take_of_length_le (by rw [List.length_drop]; omega)
      have HBD := Lib.hid hbd
      have hlen9 : (b ++ codeL x.k.set.ord n k.width).length ≤ 800000 := by rw [List.length_append, codeL_length]; omega
      have HX9 := Lib.hid (And.intro hfull hmore)
      have HK9 := Lib.hid hka
      have HS9 := Lib.hid hs9
      have hdl9 : (e.drop (k.longest e).length).length < e.length := by rw [List.length_drop]; omega
      have hlw := bs_size (k.longest e)
      have HL := Lib.hid hL
      clear hfull hmore hth hxc hxe hfw hn hk9 hbd hle hL hok hs9 hc hka hpw
      generalize b ++ codeL x.k.set.ord n k.width = b9 at *
      generalize e.drop (k.longest e).length = e9 at *
      generalize hwl : k.longest e = wl at *
      have HWL := Lib.hid hwl
      clear hwl
      unfold wrV at cP
      go_wp2_with (first | ((go_at_call 106; (with_reducible refine (cL _ (hrd _ (Up.refl _))).mono ?_); rintro e w4 ⟨rfl, U4⟩; have B4 := bcell U4; have Z4 := U4.size; (try simp at Z4); (try rw [Nat.add_one_le_iff] at Z4))) | fail)
      have HL4 := Lib.hid (And.intro (HL.out.box.up U4) (And.intro (HL.out.res.up U4) (HL.out.up.trans U4)))
      have HU4 := Lib.hid U4
      have hz4 := U4.size
      clear U4 B4 cL r0 r1 r2 r3 r4 r5 r6 r7 r8 q0 q1 q2 q3 q4 q5 q6 q7 q8 hfz hfx
      refine wp_region_up 6 (by kernel_rfl) (by kernel_rfl) ?_
      simp only [List.take, List.drop]
      repeat (refine wpUp_step (fun K hK => ?_); go_simp; (try simp only [↓IntWalk.iteOmega]); first
        | (refine hK _ _ ?_; clear hK K)
        | (apply stepU_c
           · intro wq hwq; (have hbq := bcell hwq; (repeat (first | refine fills_no (by rfl) ?_ | refine fills_yes (by rfl) (fun vq hvq => ?_))); simp only [List.filter_nil, fills]; unfold upAt; (try ((obtain ⟨-, r0, r1, r2, r3, r4, r5, r6, r7, r8⟩ := (HL4.out.1.up hwq).cells))); go_simp; (try go_bits); (try simp only [↓IntWalk.iteOmega]); (try (rw [dif_pos (by omega)]; go_simp; try go_bits)); first | exact upOut_value | (apply upOut_call; (go_at_call 102; exact cF _ (hrd _ (HU4.out.trans hwq)))) | (apply upOut_eq; (go_at_call 102; exact cF _ (hrd _ (HU4.out.trans hwq)))))
           go_simp; refine hK _ _ ?_; clear hK K)
        | (refine stepU_m (by kernel_rfl) (PutO w4.heap.size ⟨k9, e, b9, true⟩ k.ps (.slice a1 k.ps.length c1)) (putO_closed _ _ _ _) (fun wq hwq => ?_) ?_
           · (have hbq := bcell hwq; (repeat (first | refine fills_no (by rfl) ?_ | refine fills_yes (by rfl) (fun vq hvq => ?_))); simp only [List.filter_nil, fills]; unfold upAt; (try ((obtain ⟨-, r0, r1, r2, r3, r4, r5, r6, r7, r8⟩ := (HL4.out.1.up hwq).cells))); go_simp; (try go_bits); (try simp only [↓IntWalk.iteOmega]); (try (rw [dif_pos (by omega)]; go_simp; try go_bits)); ((with_reducible refine upOut_put ?_ hwq.size); go_at_call 107; exact cP _ (hrd _ (HU4.out.trans hwq))))
           refine hK _ _ ?_; clear hK K))
      refine wpUp_nil (fun wq hwq => ?_)
      simp only [fills]
      rintro u ⟨v9, rfl, h9⟩
      obtain ⟨a9, c9, rfl⟩ := put_shape h9
      dsimp only at h9
      have H9 := Lib.hid h9
      have HQ := Lib.hid (And.intro (HL4.out.1.up hwq) (And.intro (HL4.out.2.1.up hwq) (HL4.out.2.2.trans hwq)))
      have HUQ := Lib.hid (HU4.out.trans hwq)
      obtain ⟨hbx, r0, r1, r2, r3, r4, r5, r6, r7, r8⟩ := HQ.out.1.cells
      have hfx := box_free HQ.out.1
      have hzq := hwq.size
      clear hwq h9 HL4 HU4 cF cP
      unfold wrV
      go_wp2_with fail
      rw [HBD.out]
      have hne3 : w.heap.size + 1 ≠ w2.heap.size := by omega
      have hY : WrAt w2.heap.size ⟨k9, e9, b9, true⟩ (.slice a9 k9.ps.length c9) ((((((((((wq.setCell ⟨w2.heap.size, 0, none⟩ (.int .i64 k9.set.ord)).setCell ⟨w2.heap.size, 1, none⟩ (.int .i64 k9.set.lit)).setCell ⟨w2.heap.size, 2, none⟩ (.int .i64 k9.set.most)).setCell ⟨w2.heap.size, 3, none⟩ (.slice a9 k9.ps.length c9)).setCell ⟨w2.heap.size, 4, none⟩ (.int .i64 k9.base)).setCell ⟨w2.heap.size, 5, none⟩ (.int .i64 k9.last)).setCell ⟨w2.heap.size, 6, none⟩ (.string (bs e))).setCell ⟨w2.heap.size, 7, none⟩ (.string (bs b9))).setCell ⟨w2.heap.size, 8, none⟩ (.bool true)).setCell ⟨w2.heap.size, 6, none⟩ (.string (bs e9))) := by
        have h0 := WrAt.store HQ.out.1 ⟨k9, e, b9, true⟩ (.slice a9 k9.ps.length c9)
        unfold WrAt at h0
        have h1 := box_set h0 6 (.string (bs e9))
        unfold WrAt
        simpa [WrW, KnW] using h1
      have hZ : WrAt (w.heap.size + 1) wr0 (.slice none 0 0) ((((((((((wq.setCell ⟨w2.heap.size, 0, none⟩ (.int .i64 k9.set.ord)).setCell ⟨w2.heap.size, 1, none⟩ (.int .i64 k9.set.lit)).setCell ⟨w2.heap.size, 2, none⟩ (.int .i64 k9.set.most)).setCell ⟨w2.heap.size, 3, none⟩ (.slice a9 k9.ps.length c9)).setCell ⟨w2.heap.size, 4, none⟩ (.int .i64 k9.base)).setCell ⟨w2.heap.size, 5, none⟩ (.int .i64 k9.last)).setCell ⟨w2.heap.size, 6, none⟩ (.string (bs e))).setCell ⟨w2.heap.size, 7, none⟩ (.string (bs b9))).setCell ⟨w2.heap.size, 8, none⟩ (.bool true)).setCell ⟨w2.heap.size, 6, none⟩ (.string (bs e9))) := (Below.heap_setCell _ _ _ _ hne3).trans ((WrW.other hne3 ⟨k9, e, b9, true⟩ (.slice a9 k9.ps.length c9)).trans HQ.out.2.1)
      have hU5 : Up w ((((((((((wq.setCell ⟨w2.heap.size, 0, none⟩ (.int .i64 k9.set.ord)).setCell ⟨w2.heap.size, 1, none⟩ (.int .i64 k9.set.lit)).setCell ⟨w2.heap.size, 2, none⟩ (.int .i64 k9.set.most)).setCell ⟨w2.heap.size, 3, none⟩ (.slice a9 k9.ps.length c9)).setCell ⟨w2.heap.size, 4, none⟩ (.int .i64 k9.base)).setCell ⟨w2.heap.size, 5, none⟩ (.int .i64 k9.last)).setCell ⟨w2.heap.size, 6, none⟩ (.string (bs e))).setCell ⟨w2.heap.size, 7, none⟩ (.string (bs b9))).setCell ⟨w2.heap.size, 8, none⟩ (.bool true)).setCell ⟨w2.heap.size, 6, none⟩ (.string (bs e9))) := by
        have hU := HQ.out.2.2
        (repeat (first | with_reducible exact Up.refl _ | with_reducible assumption | with_reducible refine Up.set ?_ (by first | exact Nat.le_refl _ | (simp only []; omega) | (simp; omega)) _ | with_reducible refine Up.alloc ?_ _ | with_reducible refine Up.drew ?_ | refine Up.trans ?_ (by with_reducible assumption)))
      have hown : ∀ (vv : Value) (ps : List PairD), ownPr wq w.heap.size vv ps → ownPr ((((((((((wq.setCell ⟨w2.heap.size, 0, none⟩ (.int .i64 k9.set.ord)).setCell ⟨w2.heap.size, 1, none⟩ (.int .i64 k9.set.lit)).setCell ⟨w2.heap.size, 2, none⟩ (.int .i64 k9.set.most)).setCell ⟨w2.heap.size, 3, none⟩ (.slice a9 k9.ps.length c9)).setCell ⟨w2.heap.size, 4, none⟩ (.int .i64 k9.base)).setCell ⟨w2.heap.size, 5, none⟩ (.int .i64 k9.last)).setCell ⟨w2.heap.size, 6, none⟩ (.string (bs e))).setCell ⟨w2.heap.size, 7, none⟩ (.string (bs b9))).setCell ⟨w2.heap.size, 8, none⟩ (.bool true)).setCell ⟨w2.heap.size, 6, none⟩ (.string (bs e9))) w.heap.size vv ps := fun vv ps h => by
        have hne1 : some w2.heap.size ≠ Value.ownBlock vv := box_ne HQ.out.1 h (by decide)
        repeat (with_reducible refine ownsRow_setb ?_ hne1 _ _)
        exact h
      have HALL0 := Lib.hid (And.intro hY (And.intro hZ (And.intro hU5 hown)))
      clear hY hZ hU5 hown hne3 HBD HWL r0 r1 r2 r3 r4 r5 r6 r7 r8 hfx
      generalize ((((((((((wq.setCell ⟨w2.heap.size, 0, none⟩ (.int .i64 k9.set.ord)).setCell ⟨w2.heap.size, 1, none⟩ (.int .i64 k9.set.lit)).setCell ⟨w2.heap.size, 2, none⟩ (.int .i64 k9.set.most)).setCell ⟨w2.heap.size, 3, none⟩ (.slice a9 k9.ps.length c9)).setCell ⟨w2.heap.size, 4, none⟩ (.int .i64 k9.base)).setCell ⟨w2.heap.size, 5, none⟩ (.int .i64 k9.last)).setCell ⟨w2.heap.size, 6, none⟩ (.string (bs e))).setCell ⟨w2.heap.size, 7, none⟩ (.string (bs b9))).setCell ⟨w2.heap.size, 8, none⟩ (.bool true)).setCell ⟨w2.heap.size, 6, none⟩ (.string (bs e9))) = W5 at HALL0 ⊢
      have hO5 : (.slice a9 k9.ps.length c9 = Value.slice a x.k.ps.length cap ∧ k9.ps = x.k.ps) ∨ ownPr W5 w.heap.size (.slice a9 k9.ps.length c9) k9.ps := by
        rcases H9.out with ⟨h1, h2⟩ | h
        · rw [h1, h2]
          exact HL.out.pr.imp id (fun h => HALL0.out.2.2.2 _ _ (ownsRow_up h HUQ.out))
        · exact .inr (HALL0.out.2.2.2 _ _ (ownsRow_base h (by have := HL.out.up.size; omega)))
      have HALL := Lib.hid (And.intro HALL0.out.1 (And.intro HALL0.out.2.1 (And.intro HALL0.out.2.2.1 hO5)))
      clear hO5 HALL0 H9 HQ HUQ HL
      clear hzq hbx
      obtain ⟨hbx, r0, r1, r2, r3, r4, r5, r6, r7, r8⟩ := HALL.out.1.cells
      have hok9 := HK9.out
      have hpl9 := hok9.nums.2.2.2.1
      have hrd9 := fun (wq : World) (hu : Up W5 wq) => (show RdP 0 W5 (.slice a9 k9.ps.length c9) k9.ps by
        rcases HALL.out.2.2.2 with ⟨h1, h2⟩ | h
        · rw [h1, h2]; exact (HR.out.up HALL.out.2.2.1).low (Nat.zero_le _)
        · exact (RdP.of_own h).low (Nat.zero_le _)).up hu
      have cN := fun wx hr => l2Next_any k9 (.slice a9 k9.ps.length c9) 0 wx hok9 hr
      have cLa := fun wx => l1Last_any k9.set wx hok9.set
      have hnx := KnD.next_bd hok9
      have hlb := hok9.nums.2.2.1
      simp only [kV, setV] at cN cLa
      have hlw2 : Up w W5 := HALL.out.2.2.1
      have hlz := hlw2.size
      by_cases e1 : lastC k9.set < k9.next
      · by_cases e2 : k9.base < k9.ps.length
        · have hf : k9.full = true := by unfold KnD.full; rw [decide_eq_true e1, decide_eq_true e2]; rfl
          have HN := Lib.hid (HX9.out.1 hf)
          clear hf
          generalize k9.next = nx9 at *
          generalize lastC k9.set = lc9 at *
          refine wp_region_up 18 (by kernel_rfl) (by kernel_rfl) ?_
          simp only [List.take, List.drop]
          repeat (refine wpUp_step (fun K hK => ?_); go_simp; (try simp only [↓IntWalk.iteOmega]); first
            | (refine hK _ _ ?_; clear hK K)
            | (apply stepU_c
               · intro wq hwq; (have hbq := bcell hwq; (repeat (first | refine fills_no (by rfl) ?_ | refine fills_yes (by rfl) (fun vq hvq => ?_))); simp only [List.filter_nil, fills]; unfold upAt; (try ((obtain ⟨-, r0, r1, r2, r3, r4, r5, r6, r7, r8⟩ := (HALL.out.1.up hwq).cells))); go_simp; (try go_bits); (try simp only [↓IntWalk.iteOmega]); (try (rw [dif_pos (by omega)]; go_simp; try go_bits)); first | exact upOut_value | (apply upOut_call; (go_at_call 108; exact cN _ (hrd9 _ hwq))) | (apply upOut_eq; (go_at_call 108; exact cN _ (hrd9 _ hwq))) | (apply upOut_call; (go_at_call 109; exact cLa _)) | (apply upOut_eq; (go_at_call 109; exact cLa _)))
               go_simp; refine hK _ _ ?_; clear hK K))
          refine wpUp_nil (fun wq hwq => ?_)
          simp only [fills]
          go_wp2_with fail
          have HA := Lib.hid (And.intro (HALL.out.1.up hwq) (And.intro (HALL.out.2.1.up hwq) (And.intro (HALL.out.2.2.1.trans hwq) (HALL.out.2.2.2.imp id (fun h => ownsRow_up h hwq)))))
          have hrd8 := fun (wx : World) (hu : Up wq wx) => hrd9 wx (hwq.trans hu)
          clear hwq HALL hrd9 r0 r1 r2 r3 r4 r5 r6 r7 r8 cN cLa hbx
          generalize wq = W6 at *
          have hclr := (clr_bd hok9.set).2.1
          have cK := fun wx => l1Clear_any k9.set wx hok9.set
          have cP9 := fun wq hr => put_any ⟨k9, e9, b9, true⟩ (.slice a9 k9.ps.length c9) 0 (clr k9.set) wq hok9 hr (by omega) (by show b9.length ≤ 900000; omega) (.inr (.inl rfl))
          have hpw9 : putW ⟨k9, e9, b9, true⟩ (clr k9.set) = ⟨k9.cleared, e9, b9 ++ codeL x.k.set.ord (clr x.k.set) k9.width, true⟩ := by
            unfold putW
            dsimp only
            rw [show ((clr k9.set : Nat) : Int) = (k9.c : Int) from rfl, thru_clear, HS9.out]
          rw [hpw9] at cP9
          clear hpw9
          generalize b9 ++ codeL x.k.set.ord (clr x.k.set) k9.width = b10 at *
          unfold wrV at cP9
          simp only [setV] at cK
          refine wp_region_up 6 (by kernel_rfl) (by kernel_rfl) ?_
          simp only [List.take, List.drop]
          repeat (refine wpUp_step (fun K hK => ?_); go_simp; (try simp only [↓IntWalk.iteOmega]); first
            | (refine hK _ _ ?_; clear hK K)
            | (apply stepU_c
               · intro wq hwq; (have hbq := bcell hwq; (repeat (first | refine fills_no (by rfl) ?_ | refine fills_yes (by rfl) (fun vq hvq => ?_))); simp only [List.filter_nil, fills]; unfold upAt; (try ((obtain ⟨-, r0, r1, r2, r3, r4, r5, r6, r7, r8⟩ := (HA.out.1.up hwq).cells))); go_simp; (try go_bits); (try simp only [↓IntWalk.iteOmega]); (try (rw [dif_pos (by omega)]; go_simp; try go_bits)); first | exact upOut_value | (apply upOut_call; (go_at_call 86; exact cK _)) | (apply upOut_eq; (go_at_call 86; exact cK _)))
               go_simp; refine hK _ _ ?_; clear hK K)
            | (refine stepU_m (by kernel_rfl) (PutO W6.heap.size ⟨k9.cleared, e9, b10, true⟩ k9.ps (.slice a9 k9.ps.length c9)) (putO_closed _ _ _ _) (fun wq hwq => ?_) ?_
               · (have hbq := bcell hwq; (repeat (first | refine fills_no (by rfl) ?_ | refine fills_yes (by rfl) (fun vq hvq => ?_))); simp only [List.filter_nil, fills]; unfold upAt; (try ((obtain ⟨-, r0, r1, r2, r3, r4, r5, r6, r7, r8⟩ := (HA.out.1.up hwq).cells))); go_simp; (try go_bits); (try simp only [↓IntWalk.iteOmega]); (try (rw [dif_pos (by omega)]; go_simp; try go_bits)); ((with_reducible refine upOut_put ?_ hwq.size); go_at_call 107; exact cP9 _ (hrd8 _ hwq)))
               refine hK _ _ ?_; clear hK K))
          refine wpUp_nil (fun wq hwq => ?_)
          simp only [fills]
          rintro u ⟨v10, rfl, h10⟩
          obtain ⟨a10, c10, rfl⟩ := put_shape h10
          dsimp only at h10
          have H10 := Lib.hid h10
          have HQ := Lib.hid (And.intro (HA.out.1.up hwq) (And.intro (HA.out.2.1.up hwq) (HA.out.2.2.1.trans hwq)))
          have HUQ := Lib.hid hwq
          obtain ⟨hbx, r0, r1, r2, r3, r4, r5, r6, r7, r8⟩ := HQ.out.1.cells
          have hfx := box_free HQ.out.1
          have hzq := hwq.size
          have hz6 := HA.out.2.2.1.size
          clear hwq h10 cP9 cK
          generalize k9.cleared = kc at *
          have hne3 : w.heap.size + 1 ≠ w2.heap.size := by omega
          have hY : WrAt w2.heap.size ⟨kc, e9, b10, true⟩ (.slice a10 kc.ps.length c10) (((((((((wq.setCell ⟨w2.heap.size, 0, none⟩ (.int .i64 kc.set.ord)).setCell ⟨w2.heap.size, 1, none⟩ (.int .i64 kc.set.lit)).setCell ⟨w2.heap.size, 2, none⟩ (.int .i64 kc.set.most)).setCell ⟨w2.heap.size, 3, none⟩ (.slice a10 kc.ps.length c10)).setCell ⟨w2.heap.size, 4, none⟩ (.int .i64 kc.base)).setCell ⟨w2.heap.size, 5, none⟩ (.int .i64 kc.last)).setCell ⟨w2.heap.size, 6, none⟩ (.string (bs e9))).setCell ⟨w2.heap.size, 7, none⟩ (.string (bs b10))).setCell ⟨w2.heap.size, 8, none⟩ (.bool true)) := by
            have h0 := WrAt.store HQ.out.1 ⟨kc, e9, b10, true⟩ (.slice a10 kc.ps.length c10)
            simpa [WrW, KnW] using h0
          have hZ : WrAt (w.heap.size + 1) wr0 (.slice none 0 0) (((((((((wq.setCell ⟨w2.heap.size, 0, none⟩ (.int .i64 kc.set.ord)).setCell ⟨w2.heap.size, 1, none⟩ (.int .i64 kc.set.lit)).setCell ⟨w2.heap.size, 2, none⟩ (.int .i64 kc.set.most)).setCell ⟨w2.heap.size, 3, none⟩ (.slice a10 kc.ps.length c10)).setCell ⟨w2.heap.size, 4, none⟩ (.int .i64 kc.base)).setCell ⟨w2.heap.size, 5, none⟩ (.int .i64 kc.last)).setCell ⟨w2.heap.size, 6, none⟩ (.string (bs e9))).setCell ⟨w2.heap.size, 7, none⟩ (.string (bs b10))).setCell ⟨w2.heap.size, 8, none⟩ (.bool true)) := (WrW.other hne3 ⟨kc, e9, b10, true⟩ (.slice a10 kc.ps.length c10)).trans HQ.out.2.1
          have hU5 : Up w (((((((((wq.setCell ⟨w2.heap.size, 0, none⟩ (.int .i64 kc.set.ord)).setCell ⟨w2.heap.size, 1, none⟩ (.int .i64 kc.set.lit)).setCell ⟨w2.heap.size, 2, none⟩ (.int .i64 kc.set.most)).setCell ⟨w2.heap.size, 3, none⟩ (.slice a10 kc.ps.length c10)).setCell ⟨w2.heap.size, 4, none⟩ (.int .i64 kc.base)).setCell ⟨w2.heap.size, 5, none⟩ (.int .i64 kc.last)).setCell ⟨w2.heap.size, 6, none⟩ (.string (bs e9))).setCell ⟨w2.heap.size, 7, none⟩ (.string (bs b10))).setCell ⟨w2.heap.size, 8, none⟩ (.bool true)) := by
            have hU := HQ.out.2.2
            (repeat (first | with_reducible exact Up.refl _ | with_reducible assumption | with_reducible refine Up.set ?_ (by first | exact Nat.le_refl _ | (simp only []; omega) | (simp; omega)) _ | with_reducible refine Up.alloc ?_ _ | with_reducible refine Up.drew ?_ | refine Up.trans ?_ (by with_reducible assumption)))
          have hown : ∀ (vv : Value) (ps : List PairD), ownPr wq w.heap.size vv ps → ownPr (((((((((wq.setCell ⟨w2.heap.size, 0, none⟩ (.int .i64 kc.set.ord)).setCell ⟨w2.heap.size, 1, none⟩ (.int .i64 kc.set.lit)).setCell ⟨w2.heap.size, 2, none⟩ (.int .i64 kc.set.most)).setCell ⟨w2.heap.size, 3, none⟩ (.slice a10 kc.ps.length c10)).setCell ⟨w2.heap.size, 4, none⟩ (.int .i64 kc.base)).setCell ⟨w2.heap.size, 5, none⟩ (.int .i64 kc.last)).setCell ⟨w2.heap.size, 6, none⟩ (.string (bs e9))).setCell ⟨w2.heap.size, 7, none⟩ (.string (bs b10))).setCell ⟨w2.heap.size, 8, none⟩ (.bool true)) w.heap.size vv ps := fun vv ps h => by
            have hne1 : some w2.heap.size ≠ Value.ownBlock vv := box_ne HQ.out.1 h (by decide)
            repeat (with_reducible refine ownsRow_setb ?_ hne1 _ _)
            exact h
          have HALL0 := Lib.hid (And.intro hY (And.intro hZ (And.intro hU5 hown)))
          clear hY hZ hU5 hown hne3
          unfold wrV
          go_wp2_with fail
          clear r0 r1 r2 r3 r4 r5 r6 r7 r8 hfx
          generalize (((((((((wq.setCell ⟨w2.heap.size, 0, none⟩ (.int .i64 kc.set.ord)).setCell ⟨w2.heap.size, 1, none⟩ (.int .i64 kc.set.lit)).setCell ⟨w2.heap.size, 2, none⟩ (.int .i64 kc.set.most)).setCell ⟨w2.heap.size, 3, none⟩ (.slice a10 kc.ps.length c10)).setCell ⟨w2.heap.size, 4, none⟩ (.int .i64 kc.base)).setCell ⟨w2.heap.size, 5, none⟩ (.int .i64 kc.last)).setCell ⟨w2.heap.size, 6, none⟩ (.string (bs e9))).setCell ⟨w2.heap.size, 7, none⟩ (.string (bs b10))).setCell ⟨w2.heap.size, 8, none⟩ (.bool true)) = W9 at HALL0 ⊢
          have hO9 : (.slice a10 kc.ps.length c10 = Value.slice a x.k.ps.length cap ∧ kc.ps = x.k.ps) ∨ ownPr W9 w.heap.size (.slice a10 kc.ps.length c10) kc.ps := by
            rcases H10.out with ⟨h1, h2⟩ | h
            · rw [h1, h2]
              exact HA.out.2.2.2.imp id (fun h => HALL0.out.2.2.2 _ _ (ownsRow_up h HUQ.out))
            · exact .inr (HALL0.out.2.2.2 _ _ (ownsRow_base h (by omega)))
          have HO9 := Lib.hid hO9
          clear hO9
          go_roundw
          case rel => exact ⟨m - 1, kc, e9, b10, _, HN.out, HALL0.out.1, HALL0.out.2.1, HALL0.out.2.2.1, HO9.out⟩
          case measure => rw [HM.out, plenC_at HALL0.out.1]; exact hdl9
        · have hf : k9.full = false := by unfold KnD.full; rw [decide_eq_false e2, Bool.and_false]
          have HN := Lib.hid (HX9.out.2 hf)
          clear hf
          generalize k9.next = nx9 at *
          generalize lastC k9.set = lc9 at *
          refine wp_region_up 18 (by kernel_rfl) (by kernel_rfl) ?_
          simp only [List.take, List.drop]
          repeat (refine wpUp_step (fun K hK => ?_); go_simp; (try simp only [↓IntWalk.iteOmega]); first
            | (refine hK _ _ ?_; clear hK K)
            | (apply stepU_c
               · intro wq hwq; (have hbq := bcell hwq; (repeat (first | refine fills_no (by rfl) ?_ | refine fills_yes (by rfl) (fun vq hvq => ?_))); simp only [List.filter_nil, fills]; unfold upAt; (try ((obtain ⟨-, r0, r1, r2, r3, r4, r5, r6, r7, r8⟩ := (HALL.out.1.up hwq).cells))); go_simp; (try go_bits); (try simp only [↓IntWalk.iteOmega]); (try (rw [dif_pos (by omega)]; go_simp; try go_bits)); first | exact upOut_value | (apply upOut_call; (go_at_call 108; exact cN _ (hrd9 _ hwq))) | (apply upOut_eq; (go_at_call 108; exact cN _ (hrd9 _ hwq))) | (apply upOut_call; (go_at_call 109; exact cLa _)) | (apply upOut_eq; (go_at_call 109; exact cLa _)))
               go_simp; refine hK _ _ ?_; clear hK K))
          refine wpUp_nil (fun wq hwq => ?_)
          simp only [fills]
          go_wp2_with fail
          go_roundw
          case rel => exact ⟨m - 1, k9, e9, b9, _, HN.out, HALL.out.1.up hwq, HALL.out.2.1.up hwq, HALL.out.2.2.1.trans hwq, HALL.out.2.2.2.imp id (fun h => ownsRow_up h hwq)⟩
          case measure => rw [HM.out, plenC_at (HALL.out.1.up hwq)]; exact hdl9
      · have hf : k9.full = false := by unfold KnD.full; rw [decide_eq_false e1, Bool.false_and]
        have HN := Lib.hid (HX9.out.2 hf)
        clear hf
        generalize k9.next = nx9 at *
        generalize lastC k9.set = lc9 at *
        refine wp_region_up 18 (by kernel_rfl) (by kernel_rfl) ?_
        simp only [List.take, List.drop]
        repeat (refine wpUp_step (fun K hK => ?_); go_simp; (try simp only [↓IntWalk.iteOmega]); first
          | (refine hK _ _ ?_; clear hK K)
          | (apply stepU_c
             · intro wq hwq; (have hbq := bcell hwq; (repeat (first | refine fills_no (by rfl) ?_ | refine fills_yes (by rfl) (fun vq hvq => ?_))); simp only [List.filter_nil, fills]; unfold upAt; (try ((obtain ⟨-, r0, r1, r2, r3, r4, r5, r6, r7, r8⟩ := (HALL.out.1.up hwq).cells))); go_simp; (try go_bits); (try simp only [↓IntWalk.iteOmega]); (try (rw [dif_pos (by omega)]; go_simp; try go_bits)); first | exact upOut_value | (apply upOut_call; (go_at_call 108; exact cN _ (hrd9 _ hwq))) | (apply upOut_eq; (go_at_call 108; exact cN _ (hrd9 _ hwq))) | (apply upOut_call; (go_at_call 109; exact cLa _)) | (apply upOut_eq; (go_at_call 109; exact cLa _)))
             go_simp; refine hK _ _ ?_; clear hK K))
        refine wpUp_nil (fun wq hwq => ?_)
        simp only [fills]
        go_wp2_with fail
        go_roundw
        case rel => exact ⟨m - 1, k9, e9, b9, _, HN.out, HALL.out.1.up hwq, HALL.out.2.1.up hwq, HALL.out.2.2.1.trans hwq, HALL.out.2.2.2.imp id (fun h => ownsRow_up h hwq)⟩
        case measure => rw [HM.out, plenC_at (HALL.out.1.up hwq)]; exact hdl9
end Go.Proofs.YtekogcjdaolcbaaGreatDoor

/- Walks of the reference's WriteData and CloseWriter, for writers of any kind. Conditions: the pairs can be read, the texts are no longer than 2^20 bytes. -/
namespace Go.Proofs.YtekogcjdaolcbaaGreatDoor
open Go Go.RowKit
theorem WlD.outs {T : List UInt8 × KnD × List UInt8} {s : SetD} : ∀ (m : Nat) (k : KnD) (d b : List UInt8), WlD T s m k d b → isBits T.1 ∧ T.1.length ≤ 41000 := by
  intro m
  induction m with
  | zero => intro k d b h; have h1 := h.len; have h2 := List.length_pos_iff.2 h.ne; omega
  | succ m ih =>
    intro k d b h
    by_cases hl : k.longest d = d
    · rw [h.stop hl]; exact ⟨h.bit, by have := h.sum; show b.length ≤ 41000; omega⟩
    · obtain ⟨_, h1, h2⟩ := h.step hl
      cases hf : (k.after (k.find (k.longest d))).full
      · exact ih _ _ _ (h2 hf)
      · exact ih _ _ _ (h1 hf)
theorem wdS_pre (x : WrD) (v1 : Value) (a : Option Addr) (cap : Nat) (w w1 : World) (ho : ownPr w1 (w.heap.size + 2) v1 x.k.ps) (hx : WrAt w.heap.size x (.slice a x.k.ps.length cap) w1) (hz : WrAt (w.heap.size + 1) wr0 (.slice none 0 0) w1) (hu : Up w w1) :
    WrAt w.heap.size x v1 (WrW w1 w.heap.size x v1) ∧ WrAt (w.heap.size + 1) wr0 (.slice none 0 0) (WrW w1 w.heap.size x v1) ∧ Up w (WrW w1 w.heap.size x v1) ∧ ownPr (WrW w1 w.heap.size x v1) (w.heap.size + 2) v1 x.k.ps :=
  ⟨WrAt.store hx x v1, (WrW.other (by omega) x v1).trans hz, WrW.up hu (Nat.le_refl _) x v1, WrW.own ho (fun e => by have := (ho.lt _ e.symm).1; omega) x v1⟩
set_option maxRecDepth 100000 in
set_option maxHeartbeats 16000000 in
theorem wdS_any (x : WrD) (v : Value) (lo : Nat) (d : List UInt8) (w : World) (hr : RdP lo w v x.k.ps) (hps : x.k.ps.length ≤ 1048576) (hp : x.pend.length ≤ 1048576) (hb : x.bits.length ≤ 1048576) (hd : d.length ≤ 1048576) :
    Calls Tryz.prog 8  #[wrV x v, .string (bs d)] w (WdPost (wdO x d) w) := by
  have cO := fun wq hr => ownWS_any x v lo wq hr hps
  have hrt := fun (wq : World) (hu : Up w wq) => hr.up hu
  have hsp := bs_size x.pend
  have hsd := bs_size d
  have hn2 : (bs x.pend).size + (bs d).size ≤ 2097152 := by omega
  have hcat : bs x.pend ++ bs d = bs (x.pend ++ d) := bs_app _ _
  obtain ⟨a, cap, rfl, -, -, -, -⟩ := id hr
  clear hr
  unfold wrV at *
  go_enter Tryz.func8, Tryz.ntmps8
  go_wp2_with fail
  with_reducible refine (cO _ (hrt _ (by (repeat (first | with_reducible exact Up.refl _ | with_reducible assumption | with_reducible refine Up.set ?_ (by first | exact Nat.le_refl _ | (simp only []; omega) | (simp; omega)) _ | with_reducible refine Up.alloc ?_ _ | with_reducible refine Up.drew ?_ | refine Up.trans ?_ (by with_reducible assumption)))))).mono ?_
  rintro e w1 ⟨v1, rfl, ho1, U1⟩
  obtain ⟨a1, c1, rfl⟩ := ownsRow_shape ho1
  have hX := WrAt.up (show WrAt w.heap.size x (.slice a x.k.ps.length cap) _ from box_up ((Up.refl _).alloc _) (MapKept.heap_alloc w _).1) U1
  have hZ := WrAt.zero (box_up U1 (alloc2 w _ _))
  have hU1 : Up w w1 := by (repeat (first | with_reducible exact Up.refl _ | with_reducible assumption | with_reducible refine Up.set ?_ (by first | exact Nat.le_refl _ | (simp only []; omega) | (simp; omega)) _ | with_reducible refine Up.alloc ?_ _ | with_reducible refine Up.drew ?_ | refine Up.trans ?_ (by with_reducible assumption)))
  have hl1 : w.heap.size + 2 ≤ w1.heap.size := by have := U1.size; simp at this; exact this
  have HP := Lib.hid (wdS_pre x (.slice a1 x.k.ps.length c1) a cap w w1 (ownsRow_base ho1 (by simp)) hX hZ hU1)
  have hlz : w1.heap.size ≤ (WrW w1 w.heap.size x (.slice a1 x.k.ps.length c1)).heap.size := by unfold WrW KnW; simp [World.setCell]
  obtain ⟨hbx, r0, r1, r2, r3, r4, r5, r6, r7, r8⟩ := hX.cells
  have hfx := box_free hX
  clear ho1 hX hZ hU1 U1 cO hrt
  unfold wrV
  go_wp2_with fail
  rw [show (((((((((w1.setCell ⟨w.heap.size, 0, none⟩ (.int .i64 x.k.set.ord)).setCell ⟨w.heap.size, 1, none⟩ (.int .i64 x.k.set.lit)).setCell ⟨w.heap.size, 2, none⟩ (.int .i64 x.k.set.most)).setCell ⟨w.heap.size, 3, none⟩ (.slice a1 x.k.ps.length c1)).setCell ⟨w.heap.size, 4, none⟩ (.int .i64 x.k.base)).setCell ⟨w.heap.size, 5, none⟩ (.int .i64 x.k.last)).setCell ⟨w.heap.size, 6, none⟩ (.string (bs x.pend))).setCell ⟨w.heap.size, 7, none⟩ (.string (bs x.bits))).setCell ⟨w.heap.size, 8, none⟩ (.bool x.beg)) = WrW w1 w.heap.size x (.slice a1 x.k.ps.length c1) from rfl]
  clear r0 r1 r2 r3 r4 r5 r6 r7 r8 hbx hfx
  generalize WrW w1 w.heap.size x (.slice a1 x.k.ps.length c1) = W1 at HP hlz ⊢
  have hlW : w.heap.size + 2 ≤ W1.heap.size := by omega
  clear hlz hl1
  have hrt := fun (wq : World) (hu : Up W1 wq) => (RdP.of_own HP.out.2.2.2).up hu
  have cV := fun wq hr => wvS_any x (.slice a1 x.k.ps.length c1) (w.heap.size + 2) wq hr (by omega) (by omega) (by omega)
  unfold wrV at cV
  obtain ⟨hbx, r0, r1, r2, r3, r4, r5, r6, r7, r8⟩ := HP.out.1.cells
  have hfx := box_free HP.out.1
  obtain ⟨hbz, q0, q1, q2, q3, q4, q5, q6, q7, q8⟩ := HP.out.2.1.cells
  simp only [wr0] at q0 q1 q2 q3 q4 q5 q6 q7 q8
  have hfz := box_free HP.out.2.1
  cases hok : wrvB x
  · have HNO := Lib.hid (wdO_none (w := x) (d := d) (by rw [hok]; rfl))
    rw [hok] at cV
    clear hok
    with_reducible refine (cV _ (hrt _ (Up.refl _))).mono ?_
    rintro e w3 ⟨rfl, U3⟩
    have B3 := bcell U3
    have hl3 := U3.size
    have HU3 := Lib.hid (HP.out.2.2.1.trans U3)
    go_wp2_with fail
    obtain ⟨-, q0, q1, q2, q3, q4, q5, q6, q7, q8⟩ := (HP.out.2.1.up U3).cells
    simp only [wr0] at q0 q1 q2 q3 q4 q5 q6 q7 q8
    refine bodyPost_ret (v := .tuple #[noWr, .string ⟨#[]⟩, .bool false]) (by simp [results, Tryz.results8, go_sem, q0, q1, q2, q3, q4, q5, q6, q7, q8]; rfl) rfl ?_
    rw [HNO.out]
    refine wdP_none rfl ?_
    have hU := HU3.out
    (repeat (first | with_reducible exact Up.refl _ | with_reducible assumption | with_reducible refine Up.set ?_ (by first | exact Nat.le_refl _ | (simp only []; omega) | (simp; omega)) _ | with_reducible refine Up.alloc ?_ _ | with_reducible refine Up.drew ?_ | refine Up.trans ?_ (by with_reducible assumption)))
  · rw [hok] at cV
    have cF := fun wq => fitsS_any x.k.set (bs (x.pend ++ d)) wq (by rw [bs_size, List.length_append]; omega)
    rw [bs_data] at cF
    simp only [setV] at cF
    cases hfit : fitsB x.k.set (x.pend ++ d)
    · have HNO := Lib.hid (wdO_none (w := x) (d := d) (by rw [hok, hfit]; rfl))
      rw [hfit] at cF
      clear hok hfit
      with_reducible refine (cV _ (hrt _ (Up.refl _))).mono ?_
      rintro e w3 ⟨rfl, U3⟩
      have B3 := bcell U3
      have hl3 := U3.size
      go_wp2_with (first | (go_at_call 44; (with_reducible refine (cF _).mono ?_); rintro e w4 ⟨rfl, U4⟩; have B4 := bcell U4; have hl4 := U4.size; obtain ⟨hbz, q0, q1, q2, q3, q4, q5, q6, q7, q8⟩ := ((HP.out.2.1.up U3).up U4).cells; simp only [wr0] at q0 q1 q2 q3 q4 q5 q6 q7 q8; have hfz := box_free ((HP.out.2.1.up U3).up U4); obtain ⟨hbx, r0, r1, r2, r3, r4, r5, r6, r7, r8⟩ := ((HP.out.1.up U3).up U4).cells; have hfx := box_free ((HP.out.1.up U3).up U4)) | fail)
      have HU3 := Lib.hid ((HP.out.2.2.1.trans U3).trans U4)
      refine bodyPost_ret (v := .tuple #[noWr, .string ⟨#[]⟩, .bool false]) (by simp [results, Tryz.results8, go_sem, q0, q1, q2, q3, q4, q5, q6, q7, q8]; rfl) rfl ?_
      rw [HNO.out]
      refine wdP_none rfl ?_
      have hU := HU3.out
      (repeat (first | with_reducible exact Up.refl _ | with_reducible assumption | with_reducible refine Up.set ?_ (by first | exact Nat.le_refl _ | (simp only []; omega) | (simp; omega)) _ | with_reducible refine Up.alloc ?_ _ | with_reducible refine Up.drew ?_ | refine Up.trans ?_ (by with_reducible assumption)))
    · have HYES := Lib.hid (wdO_some (w := x) (d := d) (by rw [hok, hfit]; rfl))
      rw [hfit] at cF
      have hwok := wrvB_ok hok
      have hfits := fitsB_lits hfit
      clear hok hfit
      with_reducible refine (cV _ (hrt _ (Up.refl _))).mono ?_
      rintro e w3 ⟨rfl, U3⟩
      have B3 := bcell U3
      have hl3 := U3.size
      by_cases hd0 : d = []
      · subst hd0
        have HDE := isEmpty_nil
        rw [List.append_nil] at cF
        have cY := fun wx hr => copyS_any x.k (.slice a1 x.k.ps.length c1) (w.heap.size + 2) wx hr (by omega)
        simp only [kV] at cY
        go_wp2_with (first | (go_at_call 44; (with_reducible refine (cF _).mono ?_); rintro e w4 ⟨rfl, U4⟩; have B4 := bcell U4; have hl4 := U4.size; obtain ⟨hbz, q0, q1, q2, q3, q4, q5, q6, q7, q8⟩ := ((HP.out.2.1.up U3).up U4).cells; simp only [wr0] at q0 q1 q2 q3 q4 q5 q6 q7 q8; have hfz := box_free ((HP.out.2.1.up U3).up U4); obtain ⟨hbx, r0, r1, r2, r3, r4, r5, r6, r7, r8⟩ := ((HP.out.1.up U3).up U4).cells; have hfx := box_free ((HP.out.1.up U3).up U4)) | fail)
        have hUa : Up w4 (w4.alloc (.cells #[.int .i64 x.k.set.ord, .int .i64 x.k.set.lit, .int .i64 x.k.set.most, .slice a1 x.k.ps.length c1, .int .i64 x.k.base, .int .i64 x.k.last, .string (bs x.pend), .string (bs x.bits), .bool x.beg] 29)) := (Up.refl _).alloc _
        have hA : WrAt w4.heap.size x (.slice a1 x.k.ps.length c1) (w4.alloc (.cells #[.int .i64 x.k.set.ord, .int .i64 x.k.set.lit, .int .i64 x.k.set.most, .slice a1 x.k.ps.length c1, .int .i64 x.k.base, .int .i64 x.k.last, .string (bs x.pend), .string (bs x.bits), .bool x.beg] 29)) := (MapKept.heap_alloc w4 _).1
        have HA := Lib.hid (And.intro hA (And.intro (((HP.out.2.1.up U3).up U4).up hUa) (((HP.out.2.2.1.trans U3).trans U4).trans hUa)))
        have hzA : w4.heap.size < (w4.alloc (.cells #[.int .i64 x.k.set.ord, .int .i64 x.k.set.lit, .int .i64 x.k.set.most, .slice a1 x.k.ps.length c1, .int .i64 x.k.base, .int .i64 x.k.last, .string (bs x.pend), .string (bs x.bits), .bool x.beg] 29)).heap.size := by simp
        with_reducible refine (cY _ (hrt _ ((U3.trans U4).trans hUa))).mono ?_
        clear hA hUa
        generalize w4.alloc (.cells #[.int .i64 x.k.set.ord, .int .i64 x.k.set.lit, .int .i64 x.k.set.most, .slice a1 x.k.ps.length c1, .int .i64 x.k.base, .int .i64 x.k.last, .string (bs x.pend), .string (bs x.bits), .bool x.beg] 29) = W6 at *
        rintro e w5 ⟨v5, rfl, ho5, U5⟩
        obtain ⟨a5, c5, rfl⟩ := ownsRow_shape ho5
        have HQ := Lib.hid (And.intro (HA.out.1.up U5) (And.intro (HA.out.2.1.up U5) (And.intro (HA.out.2.2.trans U5) ho5)))
        have hzq := U5.size
        have HW := Lib.hid (HYES.out.trans (congrArg some (show x.write [] = (x, []) by unfold WrD.write; rw [if_pos rfl])))
        clear ho5 U5 HA HYES HP U3 U4 cY cF cV hrt r0 r1 r2 r3 r4 r5 r6 r7 r8 q0 q1 q2 q3 q4 q5 q6 q7 q8 hbx hbz hfx hfz B3 B4
        obtain ⟨hby, s0, s1, s2, s3, s4, s5, s6, s7, s8⟩ := HQ.out.1.cells
        have hfy := box_free HQ.out.1
        obtain ⟨hbz, q0, q1, q2, q3, q4, q5, q6, q7, q8⟩ := HQ.out.2.1.cells
        simp only [wr0] at q0 q1 q2 q3 q4 q5 q6 q7 q8
        have hfz := box_free HQ.out.2.1
        simp only [kV]
        go_wp2_with fail
        refine bodyPost_ret (v := .tuple #[wrV x (.slice a5 x.k.ps.length c5), .string ⟨#[]⟩, .bool true]) (by simp [results, Tryz.results8, go_sem, q0, q1, q2, q3, q4, q5, q6, q7, q8]; rfl) rfl ?_
        rw [HW.out]
        refine ⟨.slice a5 x.k.ps.length c5, rfl, ?_, ?_⟩
        · have ho := ownsRow_base HQ.out.2.2.2 (show w.heap.size ≤ W6.heap.size by omega)
          have hlo := fun b e => (HQ.out.2.2.2.lt b e).1
          have hne1 : some (w.heap.size + 1) ≠ Value.ownBlock (.slice a5 x.k.ps.length c5) := fun e => by have := hlo _ e.symm; omega
          have hne2 : some w4.heap.size ≠ Value.ownBlock (.slice a5 x.k.ps.length c5) := fun e => by have := hlo _ e.symm; omega
          repeat (first | with_reducible refine ownsRow_setb ?_ hne1 _ _ | with_reducible refine ownsRow_setb ?_ hne2 _ _)
          exact ho
        · have hU := HQ.out.2.2.1
          (repeat (first | with_reducible exact Up.refl _ | with_reducible assumption | with_reducible refine Up.set ?_ (by first | exact Nat.le_refl _ | (simp only []; omega) | (simp; omega)) _ | with_reducible refine Up.alloc ?_ _ | with_reducible refine Up.drew ?_ | refine Up.trans ?_ (by with_reducible assumption)))
      · have HDE := isEmpty_bs hd0
        have cL := fun wq hr => l3Write_any x (.slice a1 x.k.ps.length c1) (w.heap.size + 2) d wq hwok hd0 (fun b hb => hfits.2.2 b (List.mem_append_right _ hb)) hfits.2.1 hr
        have hsx := WlD.outs _ _ _ _ (WlD.start hwok hd0 (fun b hb => hfits.2.2 b (List.mem_append_right _ hb)) hfits.2.1)
        have hso := Lib.hid hwok.1.set
        have hwr : Hid (x.write d = (⟨(x.codes d).2.1, (x.codes d).2.2, (x.all d).drop ((x.all d).length / 8 * 8), true⟩, packL x.k.set.ord ((x.all d).take ((x.all d).length / 8 * 8)))) := by
          unfold Hid WrD.write
          rw [if_neg hd0]
        have HW := Lib.hid (HYES.out.trans (congrArg some hwr.out))
        clear hwr HYES
        dsimp only at hsx
        generalize x.all d = b5 at *
        generalize (x.codes d).2.1 = k5 at *
        generalize (x.codes d).2.2 = p5 at *
        unfold wrV at cL
        clear hwok hfits
        go_wp2_with (first | (go_at_call 44; (with_reducible refine (cF _).mono ?_); rintro e w4 ⟨rfl, U4⟩; have B4 := bcell U4; have hl4 := U4.size; obtain ⟨hbz, q0, q1, q2, q3, q4, q5, q6, q7, q8⟩ := ((HP.out.2.1.up U3).up U4).cells; simp only [wr0] at q0 q1 q2 q3 q4 q5 q6 q7 q8; have hfz := box_free ((HP.out.2.1.up U3).up U4); obtain ⟨hbx, r0, r1, r2, r3, r4, r5, r6, r7, r8⟩ := ((HP.out.1.up U3).up U4).cells; have hfx := box_free ((HP.out.1.up U3).up U4)) | fail)
        have HH := Lib.hid (And.intro ((HP.out.1.up U3).up U4) (And.intro ((HP.out.2.1.up U3).up U4) (And.intro ((HP.out.2.2.1.trans U3).trans U4) (ownsRow_up (ownsRow_up HP.out.2.2.2 U3) U4))))
        with_reducible refine (cL _ (hrt _ (U3.trans U4))).mono ?_
        rintro e w5 ⟨v5, rfl, h5, U5⟩
        obtain ⟨a5, c5, rfl⟩ := put_shape h5
        dsimp only at h5
        have ho5 : ownPr w5 (w.heap.size + 2) (.slice a5 k5.ps.length c5) k5.ps := by
          rcases h5 with ⟨h1, h2⟩ | h
          · rw [h1, h2]; exact ownsRow_up HH.out.2.2.2 U5
          · exact ownsRow_base h (by omega)
        have HG := Lib.hid (And.intro (HH.out.1.up U5) (And.intro (HH.out.2.1.up U5) (And.intro (HH.out.2.2.1.trans U5) ho5)))
        have hl5 := U5.size
        have hb5 := bs_size b5
        obtain ⟨hbx, r0, r1, r2, r3, r4, r5, r6, r7, r8⟩ := HG.out.1.cells
        clear HH HP U3 U4 U5 h5 ho5 cL cV cF hrt q0 q1 q2 q3 q4 q5 q6 q7 q8 hfx hfz hbz B3 B4
        unfold wrV
        go_simp
        iterate 17 go_step
        have hA : WrAt w5.heap.size ⟨k5, p5, b5, true⟩ (.slice a5 k5.ps.length c5) (w5.alloc (.cells #[.int .i64 k5.set.ord, .int .i64 k5.set.lit, .int .i64 k5.set.most, .slice a5 k5.ps.length c5, .int .i64 k5.base, .int .i64 k5.last, .string (bs p5), .string (bs b5), .bool true] 29)) := (MapKept.heap_alloc w5 _).1
        have hUa : Up w5 (w5.alloc (.cells #[.int .i64 k5.set.ord, .int .i64 k5.set.lit, .int .i64 k5.set.most, .slice a5 k5.ps.length c5, .int .i64 k5.base, .int .i64 k5.last, .string (bs p5), .string (bs b5), .bool true] 29)) := (Up.refl _).alloc _
        have HA := Lib.hid (And.intro hA (And.intro (HG.out.1.up hUa) (And.intro (HG.out.2.1.up hUa) (And.intro (HG.out.2.2.1.trans hUa) (ownsRow_up HG.out.2.2.2 hUa)))))
        have hzA : w5.heap.size < (w5.alloc (.cells #[.int .i64 k5.set.ord, .int .i64 k5.set.lit, .int .i64 k5.set.most, .slice a5 k5.ps.length c5, .int .i64 k5.base, .int .i64 k5.last, .string (bs p5), .string (bs b5), .bool true] 29)).heap.size := by simp
        clear hA hUa HG r0 r1 r2 r3 r4 r5 r6 r7 r8 hbx
        generalize w5.alloc (.cells #[.int .i64 k5.set.ord, .int .i64 k5.set.lit, .int .i64 k5.set.most, .slice a5 k5.ps.length c5, .int .i64 k5.base, .int .i64 k5.last, .string (bs p5), .string (bs b5), .bool true] 29) = W6 at *
        obtain ⟨hbx, r0, r1, r2, r3, r4, r5, r6, r7, r8⟩ := HA.out.2.1.cells
        obtain ⟨hby, s0, s1, s2, s3, s4, s5, s6, s7, s8⟩ := HA.out.1.cells
        go_wp2_with fail
        have hnb : b5.length / 8 * 8 ≤ b5.length := by omega
        rw [show ((b5.length : Int) / 8 * 8) = ((b5.length / 8 * 8 : Nat) : Int) by omega]
        have hdr : (bs b5).extract (b5.length / 8 * 8) b5.length = bs (b5.drop (b5.length / 8 * 8)) := by rw [bs_ext]; congr 1; exact List.take_of_length_le (by rw [List.length_drop]; omega)
        have htk : (bs b5).extract 0 (b5.length / 8 * 8) = bs (b5.take (b5.length / 8 * 8)) := by rw [bs_ext, List.drop_zero, Nat.sub_zero]
        have hibt : isBits (b5.take (b5.length / 8 * 8)) := fun b hb => hsx.1 b (List.mem_of_mem_take hb)
        have cK := fun wx => l1Pack_any x.k.set.ord (bs (b5.take (b5.length / 8 * 8))) wx (by rw [bs_data]; exact hibt) (by rw [bs_size, List.length_take]; omega)
        rw [bs_data] at cK
        generalize b5.take (b5.length / 8 * 8) = t5 at *
        generalize b5.drop (b5.length / 8 * 8) = u5 at *
        generalize b5.length / 8 * 8 = n5 at *
        have HDR := Lib.hid hdr
        have HTK := Lib.hid htk
        clear hdr htk hibt
        refine wp_region_up 9 (by kernel_rfl) (by kernel_rfl) ?_
        simp only [List.take, List.drop]
        repeat (refine wpUp_step (fun K hK => ?_); go_simp; (try simp only [↓IntWalk.iteOmega]); first
          | (refine hK _ _ ?_; clear hK K)
          | (apply stepU_c
             · intro wq hwq; (have hbq := bcell hwq; (repeat (first | refine fills_no (by rfl) ?_ | refine fills_yes (by rfl) (fun vq hvq => ?_))); simp only [List.filter_nil, fills]; unfold upAt; (try ((obtain ⟨-, r0, r1, r2, r3, r4, r5, r6, r7, r8⟩ := (HA.out.2.1.up hwq).cells; obtain ⟨hby, s0, s1, s2, s3, s4, s5, s6, s7, s8⟩ := (HA.out.1.up hwq).cells))); go_simp; (try go_bits); (try simp only [↓IntWalk.iteOmega]); (try (rw [dif_pos (by omega)]; go_simp; try go_bits)); first | exact upOut_value | (apply upOut_call; (rw [HTK.out]; go_at_call 47; exact cK _)) | (apply upOut_eq; (rw [HTK.out]; go_at_call 47; exact cK _)) | (apply upOut_call; (go_at_call 47; exact cK _)) | (apply upOut_eq; (go_at_call 47; exact cK _)))
             go_simp; refine hK _ _ ?_; clear hK K))
        refine wpUp_nil (fun wq hwq => ?_)
        simp only [fills]
        have HQ := Lib.hid (And.intro (HA.out.1.up hwq) (And.intro (HA.out.2.2.1.up hwq) (And.intro (HA.out.2.2.2.1.trans hwq) (ownsRow_up HA.out.2.2.2.2 hwq))))
        have hzq := hwq.size
        clear hwq HA cK r0 r1 r2 r3 r4 r5 r6 r7 r8 s0 s1 s2 s3 s4 s5 s6 s7 s8 hbx hby
        obtain ⟨hby, s0, s1, s2, s3, s4, s5, s6, s7, s8⟩ := HQ.out.1.cells
        have hfy := box_free HQ.out.1
        obtain ⟨hbz, q0, q1, q2, q3, q4, q5, q6, q7, q8⟩ := HQ.out.2.1.cells
        simp only [wr0] at q0 q1 q2 q3 q4 q5 q6 q7 q8
        have hfz := box_free HQ.out.2.1
        generalize packL x.k.set.ord t5 = y5 at *
        go_wp2_with fail
        refine bodyPost_ret (v := .tuple #[wrV ⟨k5, p5, u5, true⟩ (.slice a5 k5.ps.length c5), .string (bs y5), .bool true]) (by simp [results, Tryz.results8, go_sem, q0, q1, q2, q3, q4, q5, q6, q7, q8, HDR.out]; rfl) rfl ?_
        rw [HW.out]
        refine ⟨.slice a5 k5.ps.length c5, rfl, ?_, ?_⟩
        · have ho := ownsRow_base HQ.out.2.2.2 (show w.heap.size ≤ w.heap.size + 2 by omega)
          have hlo := fun b e => (HQ.out.2.2.2.lt b e).1
          have hne1 : some (w.heap.size + 1) ≠ Value.ownBlock (.slice a5 k5.ps.length c5) := fun e => by have := hlo _ e.symm; omega
          have hne2 : some w5.heap.size ≠ Value.ownBlock (.slice a5 k5.ps.length c5) := box_ne HQ.out.1 HQ.out.2.2.2 (by decide)
          repeat (first | with_reducible refine ownsRow_setb ?_ hne1 _ _ | with_reducible refine ownsRow_setb ?_ hne2 _ _)
          exact ho
        · have hU := HQ.out.2.2.1
          (repeat (first | with_reducible exact Up.refl _ | with_reducible assumption | with_reducible refine Up.set ?_ (by first | exact Nat.le_refl _ | (simp only []; omega) | (simp; omega)) _ | with_reducible refine Up.alloc ?_ _ | with_reducible refine Up.drew ?_ | refine Up.trans ?_ (by with_reducible assumption)))
end Go.Proofs.YtekogcjdaolcbaaGreatDoor

/- Walks of the draws of writers: a reader's string, l3BadWriter. Conditions: the reader is readable, the writer is valid. -/
namespace Go.Proofs.YtekogcjdaolcbaaGreatDoor
open Go Go.RowKit
def RdStrs (rb : Nat) (w : World) (v : Value) (l : List ByteArray) : Prop := ∃ b off cap, v = .slice (some ⟨b, off, none⟩) l.length cap ∧ l.length ≤ cap ∧ cap ≤ maxLen ∧ b < w.heap.size ∧ b ≠ rb ∧ ∀ i x, l[i]? = some x → w.cell? ⟨b, off + i, none⟩ = some (.string x)
def oneStr (l : List ByteArray) (v : Value) : Prop := ∃ s : ByteArray, v = .string s ∧ s ∈ l
set_option maxRecDepth 100000 in
set_option maxHeartbeats 2000000 in
theorem of_any (rb : Nat) (B : Value) (l : List ByteArray) (v : Value) (w : World) (N : Nat) (h : Rdr rb B w N) (hN : N ≤ 1099511627776) (hr : RdStrs rb w v l) (hl : 0 < l.length) :
    Calls Tryz.prog 88  #[.pointer (some ⟨rb, 0, none⟩), v] w (Drawn rb B 1 (oneStr l) w) := by
  obtain ⟨b, off, cap, rfl, h1, h2, h3, h4, h5⟩ := hr
  have cP := fun wx h => pick_any rb B (l.length : Int) wx N h hN
  unfold maxLen at h2
  go_enter Tryz.func88, Tryz.ntmps88
  go_wp2_with (go_at_call 31; (with_reducible refine (cP _ h).mono ?_); rintro e w1 ⟨v1, rfl, ⟨i, rfl, hi0, hi1⟩, U1⟩; obtain ⟨j, rfl⟩ := Int.eq_ofNat_of_zero_le hi0; have hjl : j < l.length := (by omega); have hx := ((gcell U1.1).1 b (off + j) h3 (fun e => h4 (Option.some.inj e))).trans (h5 j l[j] (List.getElem?_eq_getElem hjl)))
  go_ret
  exact ⟨_, rfl, ⟨_, rfl, List.getElem_mem hjl⟩, U1⟩
theorem of_at {rb : Nat} {B : Value} {c N : Nat} {w0 w : World} {g n cap : Nat} {cs : Array Value} {T : TypeId} (l : List ByteArray) (h : Rdr rb B w0 N) {w1 : World} (hU1 : RdUp rb B c w0 w1) (hx : ∀ c, RdUp rb B c w0 w1 → RdUp rb B c w0 w) (hN : N + c ≤ 1099511627776) (hg : g = w.heap.size) (hn : n = l.length) (hc : cap = n) (hl : 0 < l.length) (hl2 : l.length ≤ 100) (hcs : cs = (l.map Value.string).toArray) :
    Calls Tryz.prog 88  #[.pointer (some ⟨rb, 0, none⟩), .slice (some ⟨g, 0, none⟩) n cap] (w.alloc (.cells cs T)) (fun e w' => ∃ i : ByteArray, e = .returned (.string i) ∧ i ∈ l ∧ RdUp rb B (c + 1) w0 w' ∧ RdUp rb B 1 (w.alloc (.cells cs T)) w') := by
  subst hg hn hc hcs
  have hU := hx c hU1
  have hr := hU.2 N h
  have hlt := hr.lt
  refine (of_any rb B l (.slice (some ⟨w.heap.size, 0, none⟩) l.length l.length) (w.alloc (.cells (l.map Value.string).toArray T)) (N + c) ((hU.alloc _).2 N h) hN ⟨w.heap.size, 0, l.length, rfl, Nat.le_refl _, by unfold maxLen; omega, by simp, by omega, fun i x hi => ?_⟩ hl).mono fun e w' ⟨v, he, ⟨i, hv, h1⟩, hu⟩ => ⟨i, by rw [he, hv], h1, (hU.alloc _).trans hu, hu⟩
  rw [box_cell (MapKept.heap_alloc w _).1, Nat.zero_add]
  simp [hi]
def DrawnW (rb : Nat) (B : Value) (c : Nat) (D : WrD → Prop) (w : World) (e : Ending) (w' : World) : Prop := ∃ x v, e = .returned (wrV x v) ∧ D x ∧ RdP (rb + 1) w' v x.k.ps ∧ RdUp rb B c w w'
def BadW (x : WrD) : Prop := (-9223372036854775808 ≤ x.k.set.lit ∧ x.k.set.lit ≤ 9223372036854775807) ∧ x.k.ps.length ≤ 1100 ∧ x.pend.length ≤ 2000 ∧ x.bits.length ≤ 8
theorem badW_of {x : WrD} (h : wrOk x) : BadW x := ⟨(badK_of h.1).1, (badK_of h.1).2, h.2.2.2.1, by have := h.2.2.2.2.2.1; omega⟩
theorem rdUp_r {rb : Nat} {B : Value} {c N : Nat} {w w' : World} (h : RdUp rb B c w w') (hr : Rdr rb B w N) : Rdr rb B w' (N + c) := h.2 _ hr
theorem rdUp_g {rb : Nat} {B : Value} {c : Nat} {w w' : World} (h : RdUp rb B c w w') : w.grownBy w' (some rb) := h.1
theorem badp_shape {w' : World} {ps qs : List PairD} {a : Option Addr} {cap : Nat} {v' : Value} {lo : Nat} (h : (v' = .slice a ps.length cap ∧ qs = ps) ∨ RdP lo w' v' qs) : ∃ a' c', v' = .slice a' qs.length c' := by
  rcases h with ⟨rfl, e⟩ | ⟨a', c', e, -⟩
  · rw [e]; exact ⟨_, _, rfl⟩
  · exact ⟨a', c', e⟩
set_option maxRecDepth 100000 in
set_option maxHeartbeats 8000000 in
theorem l3Bad_any (x : WrD) (v : Value) (rb : Nat) (B : Value) (w : World) (N : Nat) (h : Rdr rb B w N) (hN : N ≤ 800000000) (hx : wrOk x) (hr : RdP (rb + 1) w v x.k.ps) :
    Calls Tryz.prog 33  #[.pointer (some ⟨rb, 0, none⟩), wrV x v] w (DrawnW rb B 3100 BadW w) := by
  obtain ⟨p, hp, h, HM⟩ := h.least
  have hlt := h.lt
  have HR := Lib.hid h
  have hne0 : ¬ w.heap.size = rb := by omega
  have hne1 : ¬ w.heap.size + 1 = rb := by omega
  have hU := RdUp.refl rb B 0 w
  have e1 : w.heap.size < w.heap.size + 1 := by omega
  have e2 : w.heap.size < w.heap.size + 1 + 1 := by omega
  have e3 : w.heap.size + 1 < w.heap.size + 1 + 1 := by omega
  have hrt := fun (wq : World) (hg : w.grownBy wq (some rb)) => hr.gr hg (Nat.lt_succ_self rb)
  have hbw := badW_of hx
  have hk := hx.1
  have hks := hk.set
  have cD := fun w N h hN => l1Data_as 8 8 rfl rb B x.k.set w N h hN (by omega) hks
  have cL := fun wx M h hM hr => l2BadB_any x.k v rb B wx M h hM hk hr
  obtain ⟨a, cap, rfl, hc1, hc2, hc3, -⟩ := id hr
  have hKB := WrAt.up (show WrAt w.heap.size x (.slice a x.k.ps.length cap) _ from (MapKept.heap_alloc w (.cells #[.int .i64 x.k.set.ord, .int .i64 x.k.set.lit, .int .i64 x.k.set.most, .slice a x.k.ps.length cap, .int .i64 x.k.base, .int .i64 x.k.last, .string (bs x.pend), .string (bs x.bits), .bool x.beg] 29)).1) ((Up.refl _).alloc (.cells #[.int .i64 0, .int .i64 0, .int .i64 0, .slice none 0 0, .int .i64 0, .int .i64 0, .string ⟨#[]⟩, .string ⟨#[]⟩, .bool false] 29))
  have hRB := WrAt.zero (alloc2 w (.cells #[.int .i64 x.k.set.ord, .int .i64 x.k.set.lit, .int .i64 x.k.set.most, .slice a x.k.ps.length cap, .int .i64 x.k.base, .int .i64 x.k.last, .string (bs x.pend), .string (bs x.bits), .bool x.beg] 29) (.cells #[.int .i64 0, .int .i64 0, .int .i64 0, .slice none 0 0, .int .i64 0, .int .i64 0, .string ⟨#[]⟩, .string ⟨#[]⟩, .bool false] 29))
  unfold wrV at *
  simp only [kV, setV] at *
  have hr0 := hr
  clear hk hr hx
  go_enter Tryz.func33, Tryz.ntmps33
  go_wp2_with (first | (go_at_call 31; ((with_reducible refine (pick_at (n := 40) HR.out hU (by intro c hU; (repeat (first | with_reducible assumption | refine RdUp.ups ?_ (by with_reducible assumption) | with_reducible refine RdUp.set ?_ (by first | exact Nat.le_refl _ | (simp only []; omega) | (simp; omega)) _ | with_reducible refine RdUp.alloc ?_ _ | with_reducible refine RdUp.drew ?_ | with_reducible exact RdUp.of (Up.refl _)))) (by omega)).mono ?_); rintro e w' ⟨i, rfl, i0, i1, hU, U⟩; have D := gcell U.1; have Z := U.1.size; (try simp at Z); (try have Y0 : w.heap.size < w'.heap.size := (by omega)); (try have Y1 : w.heap.size + 1 < w'.heap.size := (by omega)); (try have Y2 : w.heap.size + 1 + 1 < w'.heap.size := (by omega)); (try have X0 : w.heap.size < w'.heap.size + 1 := (by omega)); (try have X1 : w.heap.size + 1 < w'.heap.size + 1 := (by omega)); (try have X2 : w.heap.size + 1 + 1 < w'.heap.size + 1 := (by omega)); ((have hKB := gbox U.1 hKB (by simp; omega); have hRB := gbox U.1 hRB (by simp; omega); obtain ⟨hb1, q0, q1, q2, q3, q4, q5, q6, q7, q8⟩ := WrAt.cells hKB; obtain ⟨hb0, s0, s1, s2, s3, s4, s5, s6, s7, s8⟩ := WrAt.cells hRB; simp only [wr0] at s0 s1 s2 s3 s4 s5 s6 s7 s8; have hfr := box_free hRB; have hfk := box_free hKB)))) | ((go_at_call 30; ((with_reducible refine (draw_at (cD) HR.out hU (by intro c hU; (repeat (first | with_reducible assumption | refine RdUp.ups ?_ (by with_reducible assumption) | with_reducible refine RdUp.set ?_ (by first | exact Nat.le_refl _ | (simp only []; omega) | (simp; omega)) _ | with_reducible refine RdUp.alloc ?_ _ | with_reducible refine RdUp.drew ?_ | with_reducible exact RdUp.of (Up.refl _)))) (by omega)).mono ?_); rintro e w' ⟨v, rfl, ⟨s9, rfl, hs9⟩, hU, U⟩; have D := gcell U.1; have Z := U.1.size; (try simp at Z); (try have Y0 : w.heap.size < w'.heap.size := (by omega)); (try have Y1 : w.heap.size + 1 < w'.heap.size := (by omega)); (try have Y2 : w.heap.size + 1 + 1 < w'.heap.size := (by omega)); (try have X0 : w.heap.size < w'.heap.size + 1 := (by omega)); (try have X1 : w.heap.size + 1 < w'.heap.size + 1 := (by omega)); (try have X2 : w.heap.size + 1 + 1 < w'.heap.size + 1 := (by omega)))); clear q0 q1 q2 q3 q4 q5 q6 q7 q8 hb1 s0 s1 s2 s3 s4 s5 s6 s7 s8 hb0 hfr hfk; have hKB := gbox U.1 hKB (by simp; omega); have hRB := gbox U.1 hRB (by simp; omega); obtain ⟨hb1, q0, q1, q2, q3, q4, q5, q6, q7, q8⟩ := WrAt.cells hKB; obtain ⟨hb0, s0, s1, s2, s3, s4, s5, s6, s7, s8⟩ := WrAt.cells hRB; simp only [wr0] at s0 s1 s2 s3 s4 s5 s6 s7 s8; have hfr := box_free hRB; have hfk := box_free hKB) | (go_at_call 88; ((with_reducible refine (of_at [⟨#[48, 48, 48, 48, 48, 48, 48, 48]⟩, ⟨#[50]⟩, ⟨#[49]⟩] HR.out hU (by intro c hU; (repeat (first | with_reducible assumption | refine RdUp.ups ?_ (by with_reducible assumption) | with_reducible refine RdUp.set ?_ (by first | exact Nat.le_refl _ | (simp only []; omega) | (simp; omega)) _ | with_reducible refine RdUp.alloc ?_ _ | with_reducible refine RdUp.drew ?_ | with_reducible exact RdUp.of (Up.refl _)))) (by omega) (by first | rfl | (simp; done) | fail) (by first | rfl | (simp; done) | fail) (by first | rfl | (simp; done) | fail) (by simp) (by simp) (by first | rfl | (simp; done) | fail)).mono ?_); rintro e w' ⟨z8, rfl, hz8, hU, U⟩; have D := gcell U.1; have Z := U.1.size; (try simp at Z); clear q0 q1 q2 q3 q4 q5 q6 q7 q8 hb1 s0 s1 s2 s3 s4 s5 s6 s7 s8 hb0 hfr hfk; have hKB := gbox U.1 (box_up ((Up.refl _).alloc _) hKB) (by simp; omega); have hRB := gbox U.1 (box_up ((Up.refl _).alloc _) hRB) (by simp; omega); obtain ⟨hb1, q0, q1, q2, q3, q4, q5, q6, q7, q8⟩ := WrAt.cells hKB; obtain ⟨hb0, s0, s1, s2, s3, s4, s5, s6, s7, s8⟩ := WrAt.cells hRB; simp only [wr0] at s0 s1 s2 s3 s4 s5 s6 s7 s8; have hfr := box_free hRB; have hfk := box_free hKB)) | (go_at_call 74; (with_reducible refine (cL _ _ (rdUp_r hU h) (by omega) (hrt _ (rdUp_g hU))).mono ?_); have hwz : w.heap.size + 2 ≤ w'.heap.size := (by first | omega | (have := U.1.size; simp at this; omega)); rintro e w9 ⟨k9, u9, rfl, hb9, hr9, U⟩; obtain ⟨a9, c9, rfl⟩ := badp_shape hr9; simp only [kV]; have hU := RdUp.trans hU U; have D := gcell U.1; have Z := U.1.size; (try simp at Z); clear q0 q1 q2 q3 q4 q5 q6 q7 q8 hb1 s0 s1 s2 s3 s4 s5 s6 s7 s8 hb0 hfr hfk; have hKB := gbox U.1 hKB (by simp; omega); have hRB := gbox U.1 hRB (by simp; omega); obtain ⟨hb1, q0, q1, q2, q3, q4, q5, q6, q7, q8⟩ := WrAt.cells hKB; obtain ⟨hb0, s0, s1, s2, s3, s4, s5, s6, s7, s8⟩ := WrAt.cells hRB; simp only [wr0] at s0 s1 s2 s3 s4 s5 s6 s7 s8; have hfr := box_free hRB; have hfk := box_free hKB) | fail)
  · refine bodyPost_ret (v := _) (by simp [results, Tryz.results33, go_sem, hb0, s0, s1, s2, s3, s4, s5, s6, s7, s8]; rfl) rfl ?_
    refine ⟨⟨k9, x.pend, x.bits, x.beg⟩, .slice a9 k9.ps.length c9, rfl, ⟨hb9.1, hb9.2, hbw.2.2⟩, ?_, ?_⟩
    · rcases hr9 with ⟨h1, h2⟩ | h
      · have h3 : RdP (rb + 1) w (.slice a9 k9.ps.length c9) k9.ps := by rw [h1, h2]; exact hr0
        refine h3.gr (RdUp.g (B := B) (c := 3100) ?_) (Nat.lt_succ_self rb)
        exact RdUp.fin hU (by intro c hU; (repeat (first | with_reducible assumption | refine RdUp.ups ?_ (by with_reducible assumption) | with_reducible refine RdUp.set ?_ (by first | exact Nat.le_refl _ | (simp only []; omega) | (simp; omega)) _ | with_reducible refine RdUp.alloc ?_ _ | with_reducible refine RdUp.drew ?_ | with_reducible exact RdUp.of (Up.refl _)))) (by omega)
      · refine RdP.low (lo := w'.heap.size) ?_ (by omega)
        (repeat (with_reducible refine RdP.set ?_ (by omega) _ _)); exact h
    · exact RdUp.fin hU (by intro c hU; (repeat (first | with_reducible assumption | refine RdUp.ups ?_ (by with_reducible assumption) | with_reducible refine RdUp.set ?_ (by first | exact Nat.le_refl _ | (simp only []; omega) | (simp; omega)) _ | with_reducible refine RdUp.alloc ?_ _ | with_reducible refine RdUp.drew ?_ | with_reducible exact RdUp.of (Up.refl _)))) (by omega)
  · refine bodyPost_ret (v := _) (by simp [results, Tryz.results33, go_sem, hb0, s0, s1, s2, s3, s4, s5, s6, s7, s8]; rfl) rfl ?_
    refine ⟨⟨x.k, x.pend, x.bits, !x.beg⟩, .slice a x.k.ps.length cap, rfl, ⟨hbw.1, hbw.2.1, hbw.2.2⟩, hrt _ (RdUp.g (B := B) (c := 3100) ?_), ?_⟩ <;> exact RdUp.fin hU (by intro c hU; (repeat (first | with_reducible assumption | refine RdUp.ups ?_ (by with_reducible assumption) | with_reducible refine RdUp.set ?_ (by first | exact Nat.le_refl _ | (simp only []; omega) | (simp; omega)) _ | with_reducible refine RdUp.alloc ?_ _ | with_reducible refine RdUp.drew ?_ | with_reducible exact RdUp.of (Up.refl _)))) (by omega)
  · refine bodyPost_ret (v := _) (by simp [results, Tryz.results33, go_sem, hb0, s0, s1, s2, s3, s4, s5, s6, s7, s8]; rfl) rfl ?_
    refine ⟨⟨x.k, x.pend, z8.data.toList, x.beg⟩, .slice a x.k.ps.length cap, rfl, ⟨hbw.1, hbw.2.1, hbw.2.2.1, ?_⟩, hrt _ (RdUp.g (B := B) (c := 3100) ?_), ?_⟩
    · simp only [List.mem_cons, List.mem_nil_iff, or_false] at hz8
      rcases hz8 with rfl | rfl | rfl <;> (dsimp only; decide)
    · exact RdUp.fin hU (by intro c hU; (repeat (first | with_reducible assumption | refine RdUp.ups ?_ (by with_reducible assumption) | with_reducible refine RdUp.set ?_ (by first | exact Nat.le_refl _ | (simp only []; omega) | (simp; omega)) _ | with_reducible refine RdUp.alloc ?_ _ | with_reducible refine RdUp.drew ?_ | with_reducible exact RdUp.of (Up.refl _)))) (by omega)
    · exact RdUp.fin hU (by intro c hU; (repeat (first | with_reducible assumption | refine RdUp.ups ?_ (by with_reducible assumption) | with_reducible refine RdUp.set ?_ (by first | exact Nat.le_refl _ | (simp only []; omega) | (simp; omega)) _ | with_reducible refine RdUp.alloc ?_ _ | with_reducible refine RdUp.drew ?_ | with_reducible exact RdUp.of (Up.refl _)))) (by omega)
  · refine bodyPost_ret (v := _) (by simp [results, Tryz.results33, go_sem, hb0, s0, s1, s2, s3, s4, s5, s6, s7, s8]; rfl) rfl ?_
    refine ⟨⟨x.k, s9.data.toList, x.bits, x.beg⟩, .slice a x.k.ps.length cap, rfl, ⟨hbw.1, hbw.2.1, ?_, hbw.2.2.2⟩, hrt _ (RdUp.g (B := B) (c := 3100) ?_), ?_⟩
    · have : s9.data.toList.length = s9.size := rfl
      show s9.data.toList.length ≤ 2000
      omega
    · exact RdUp.fin hU (by intro c hU; (repeat (first | with_reducible assumption | refine RdUp.ups ?_ (by with_reducible assumption) | with_reducible refine RdUp.set ?_ (by first | exact Nat.le_refl _ | (simp only []; omega) | (simp; omega)) _ | with_reducible refine RdUp.alloc ?_ _ | with_reducible refine RdUp.drew ?_ | with_reducible exact RdUp.of (Up.refl _)))) (by omega)
    · exact RdUp.fin hU (by intro c hU; (repeat (first | with_reducible assumption | refine RdUp.ups ?_ (by with_reducible assumption) | with_reducible refine RdUp.set ?_ (by first | exact Nat.le_refl _ | (simp only []; omega) | (simp; omega)) _ | with_reducible refine RdUp.alloc ?_ _ | with_reducible refine RdUp.drew ?_ | with_reducible exact RdUp.of (Up.refl _)))) (by omega)
  · refine bodyPost_ret (v := _) (by simp [results, Tryz.results33, go_sem, hb0, s0, s1, s2, s3, s4, s5, s6, s7, s8]; rfl) rfl ?_
    refine ⟨x, .slice a x.k.ps.length cap, rfl, hbw, hrt _ (RdUp.g (B := B) (c := 3100) ?_), ?_⟩ <;> exact RdUp.fin hU (by intro c hU; (repeat (first | with_reducible assumption | refine RdUp.ups ?_ (by with_reducible assumption) | with_reducible refine RdUp.set ?_ (by first | exact Nat.le_refl _ | (simp only []; omega) | (simp; omega)) _ | with_reducible refine RdUp.alloc ?_ _ | with_reducible refine RdUp.drew ?_ | with_reducible exact RdUp.of (Up.refl _)))) (by omega)
end Go.Proofs.YtekogcjdaolcbaaGreatDoor

/- Walk of the reference's l2Draw: what it draws is valid. Conditions: the reader is one, its place is bounded. (Printed by gen/kdv.py.) -/
namespace Go.Proofs.YtekogcjdaolcbaaGreatDoor
open Go Go.RowKit
def RelDv (rb : Nat) (B : Value) (c : Nat) (w : World) (b : Nat) (i : Value) (wr : World) : Prop := ∃ (n : Nat) (k : KnD) (v : Value), i = .int .i64 n ∧ n ≤ 13 ∧ k.Ok ∧ KnAt b k v wr ∧ RdP (b + 1) wr v k.ps ∧ RdUp rb B (c + 40 * (13 - n)) w wr ∧ KnAt w.heap.size kn0 (.slice none 0 0) wr ∧ (k.last = -1 → k.ps = [])
theorem vl_of {k : KnD} (h : k.Ok) (hj : k.last = -1 → k.ps = []) : k.vl := fun e => by
  have h0 := h.base0
  have h1 := h.base1
  have h2 : k.ps.length = 0 := by rw [hj e]; rfl
  omega
set_option maxRecDepth 100000 in
set_option maxHeartbeats 8000000 in
theorem l2DrawV_any (rb : Nat) (B : Value) (w : World) (N : Nat) (h : Rdr rb B w N) (hN : N ≤ 800000000) :
    Calls Tryz.prog 72  #[.pointer (some ⟨rb, 0, none⟩)] w (DrawnK rb B 800 (fun k => k.Ok ∧ k.vl) w) := by
  obtain ⟨p, hp, h, HM⟩ := h.least
  have hlt := h.lt
  have HR := Lib.hid h
  have hne0 : ¬ w.heap.size = rb := by omega
  have hU := RdUp.refl rb B 0 w
  have e1 : w.heap.size < w.heap.size + 1 := by omega
  have cS := fun w N h hN => l1Some_any rb B w N h hN
  have hRB : KnAt w.heap.size kn0 (.slice none 0 0) (w.alloc (.cells #[.int .i64 0, .int .i64 0, .int .i64 0, .slice none 0 0, .int .i64 0, .int .i64 0] 27)) := (MapKept.heap_alloc w _).1
  go_enter Tryz.func72, Tryz.ntmps72
  go_wp2_with (first | ((go_at_call 126; ((with_reducible refine (draw_at (cS) HR.out hU (by intro c hU; (repeat (first | with_reducible assumption | refine RdUp.ups ?_ (by with_reducible assumption) | with_reducible refine RdUp.set ?_ (by first | exact Nat.le_refl _ | (simp only []; omega) | (simp; omega)) _ | with_reducible refine RdUp.alloc ?_ _ | with_reducible refine RdUp.drew ?_ | with_reducible exact RdUp.of (Up.refl _)))) (by omega)).mono ?_); rintro e w' ⟨v, rfl, ⟨s, rfl, hs⟩, hU, U⟩; have D := gcell U.1; have Z := U.1.size; (try simp at Z); (try have Y0 : w.heap.size < w'.heap.size := (by omega)); (try have Y1 : w.heap.size + 1 < w'.heap.size := (by omega)); (try have Y2 : w.heap.size + 1 + 1 < w'.heap.size := (by omega)); (try have X0 : w.heap.size < w'.heap.size + 1 := (by omega)); (try have X1 : w.heap.size + 1 < w'.heap.size + 1 := (by omega)); (try have X2 : w.heap.size + 1 + 1 < w'.heap.size + 1 := (by omega)))); have hRB := gbox U.1 hRB (by simp; omega)) | (go_at_call 125; (with_reducible refine (startS_any s _ hs).mono ?_); rintro e w2 ⟨rfl, U2⟩; have hU := hU.ups U2; have hRB := box_up U2 hRB; clear D U cS))
  have hKB : KnAt w2.heap.size ⟨s, [], 0, -1⟩ (.slice none 0 0) (w2.alloc (.cells #[.int .i64 s.ord, .int .i64 s.lit, .int .i64 s.most, .slice none 0 0, .int .i64 0, .int .i64 (-1)] 27)) := (MapKept.heap_alloc w2 _).1
  have hRB : KnAt w.heap.size kn0 (.slice none 0 0) (w2.alloc (.cells #[.int .i64 s.ord, .int .i64 s.lit, .int .i64 s.most, .slice none 0 0, .int .i64 0, .int .i64 (-1)] 27)) := box_up ((Up.refl _).alloc _) hRB
  have hU : RdUp rb B 5 w (w2.alloc (.cells #[.int .i64 s.ord, .int .i64 s.lit, .int .i64 s.most, .slice none 0 0, .int .i64 0, .int .i64 (-1)] 27)) := by exact RdUp.fin hU (by intro c hU; (repeat (first | with_reducible assumption | refine RdUp.ups ?_ (by with_reducible assumption) | with_reducible refine RdUp.set ?_ (by first | exact Nat.le_refl _ | (simp only []; omega) | (simp; omega)) _ | with_reducible refine RdUp.alloc ?_ _ | with_reducible refine RdUp.drew ?_ | with_reducible exact RdUp.of (Up.refl _)))) (by omega)
  have hs2 : w.heap.size < w2.heap.size := by have := U2.size; omega
  have hbr : ¬ w2.heap.size = rb := by omega
  have hbr2 : rb < w2.heap.size := by omega
  have hbr3 : rb < w2.heap.size + 1 := by omega
  have hk0 : (⟨s, [], 0, -1⟩ : KnD).Ok := startK_ok hs
  generalize (w2.alloc (.cells #[.int .i64 s.ord, .int .i64 s.lit, .int .i64 s.most, .slice none 0 0, .int .i64 0, .int .i64 (-1)] 27)) = W at *
  generalize w2.heap.size = b at *
  clear U2 Z Y0 X0 hs
  simp only [kV, setV]
  go_wp2_with ((go_at_call 31; ((with_reducible refine (pick_at (n := 14) HR.out hU (by intro c hU; (repeat (first | with_reducible assumption | refine RdUp.ups ?_ (by with_reducible assumption) | with_reducible refine RdUp.set ?_ (by first | exact Nat.le_refl _ | (simp only []; omega) | (simp; omega)) _ | with_reducible refine RdUp.alloc ?_ _ | with_reducible refine RdUp.drew ?_ | with_reducible exact RdUp.of (Up.refl _)))) (by omega)).mono ?_); rintro e w' ⟨n, rfl, n0, n1, hU, U⟩; have D := gcell U.1; have Z := U.1.size; (try simp at Z); (try have Y0 : w.heap.size < w'.heap.size := (by omega)); (try have Y1 : w.heap.size + 1 < w'.heap.size := (by omega)); (try have Y2 : w.heap.size + 1 + 1 < w'.heap.size := (by omega)); (try have X0 : w.heap.size < w'.heap.size + 1 := (by omega)); (try have X1 : w.heap.size + 1 < w'.heap.size + 1 := (by omega)); (try have X2 : w.heap.size + 1 + 1 < w'.heap.size + 1 := (by omega)); ((have hKB := gbox U.1 hKB (by simp; omega); have hRB := gbox U.1 hRB (by simp; omega))))))
  obtain ⟨n, rfl⟩ := Int.eq_ofNat_of_zero_le n0
  have hn14 : n ≤ 13 := by omega
  have hU0 := RdUp.mono hU (show 5 + 1 ≤ 6 by omega)
  clear hU U D
  go_loopw [5] (fun i wr => RelDv rb B 6 w b i wr) (fun i _ => (intOf i).toNat)
  case atStart => exact ⟨n, _, _, rfl, hn14, hk0, hKB, rdP_none _ _, hU0.mono (by omega), hRB, fun _ => rfl⟩
  case round =>
    clear hKB hRB hU0 hk0
    obtain ⟨n, k, v, rfl, hn, hk, hKB, hr, hU, hRB, hJ⟩ := hrel
    have HJ := Lib.hid hJ
    clear hJ
    have hwz := hU.1.size
    obtain ⟨a, cap, rfl, hc1, hc2, hc3, -⟩ := id hr
    unfold maxLen at hc2
    have hpl := hk.nums.2.2.2.1
    have hfw := box_free hKB
    by_cases hp0 : 0 < n
    · go_wp2
      have hr2 := hU.2 _ h
      refine wp_region_rd 5 rb B 8 _ (by kernel_rfl) (by kernel_rfl) hr2 ?_
      simp only [List.take, List.drop]
      repeat (refine wpR_step (fun K hK => ?_); go_simp; (try simp only [↓IntWalk.iteOmega]); first
        | (refine hK _ _ ?_; clear hK K)
        | (refine stepR_c ?_ ?_ ?_
           rotate_left
           · intro wq hwq hrq; (have hbq := gcell hwq; (repeat (first | refine fills_no (by rfl) ?_ | (refine fills_yes (by rfl) (fun vq hvq => ?_); (try ((obtain ⟨x, rfl, hx⟩ := hvq)))))); simp only [List.filter_nil, fills]; unfold upAt; (try ((obtain ⟨-, r0, r1, r2, r3, r4, r5⟩ := KnAt.cells (gbox hwq hKB (by simp; omega))))); go_simp; (try go_bits); (try simp only [↓IntWalk.iteOmega]); (try (rw [dif_pos (by omega)]; go_simp; try go_bits)); first | exact upOut_value)
           go_simp; refine hK _ _ ?_; clear hK K)
        | (refine stepR_m (by kernel_rfl) ?_ ?_ (fun wq hwq hrq => ?_) ?_
           rotate_left 2
           · (have hbq := gcell hwq; (repeat (first | refine fills_no (by rfl) ?_ | (refine fills_yes (by rfl) (fun vq hvq => ?_); (try ((obtain ⟨x, rfl, hx⟩ := hvq)))))); simp only [List.filter_nil, fills]; unfold upAt; (try ((obtain ⟨-, r0, r1, r2, r3, r4, r5⟩ := KnAt.cells (gbox hwq hKB (by simp; omega))))); go_simp; (try go_bits); (try simp only [↓IntWalk.iteOmega]); (try (rw [dif_pos (by omega)]; go_simp; try go_bits)); first | ((with_reducible refine upOut_D (AftP (b + 1) k) ?_); (((with_reducible refine upOut_aft ?_ hx ?_); (go_at_call 127; exact l2After_any k _ (b + 1) x wq hk (hr.gr hwq (by omega)) hx); (have := (Array.getElem?_eq_some_iff.1 hKB).1; have := hwq.size; omega)))))
           rotate_left
           · (first | exact (fun _ _ _ h _ => h) | exact (aftP_closed (by omega)))
           refine hK _ _ ?_; clear hK K)
        | (refine stepR_d (by rfl) (by kernel_rfl) (fun v _ => IsFol k v) (fun _ _ _ h _ => h) (fun wq hwq hrq => ?_) ?_
           · (have hbq := gcell hwq; (repeat (first | refine fills_no (by rfl) ?_ | (refine fills_yes (by rfl) (fun vq hvq => ?_); (try ((obtain ⟨x, rfl, hx⟩ := hvq)))))); simp only [List.filter_nil, fills]; unfold gAt; (try ((obtain ⟨-, r0, r1, r2, r3, r4, r5⟩ := KnAt.cells (gbox hwq hKB (by simp; omega))))); go_simp; (try go_bits); (try simp only [↓IntWalk.iteOmega]); (try (rw [dif_pos (by omega)]; go_simp; try go_bits)); (with_reducible refine gOut_drawn ((l2Pick_any k _ rb B wq _ hrq (by omega) hk ((hr.gr hwq (by omega)).low (by omega)))) ?_); decide)
           refine hK _ _ ?_; clear hK K))
      refine wpR_nil (fun wq hwq hrq => ?_)
      simp only [fills]
      rintro u ⟨x, v', hx, rfl, hr'⟩
      intros
      obtain ⟨a', c', rfl, -⟩ := id hr'
      generalize hvv : Value.slice a' (k.after x).ps.length c' = v' at *
      have hU := RdUp.made (C := 6 + 40 * (13 - (n - 1))) HM (grownBy_trans hU.1 hwq) hrq (by omega)
      have hK2 := KnAt.store (gbox hwq hKB (by simp; omega)) (k.after x) v'
      have hR2 : KnAt w.heap.size kn0 (.slice none 0 0) (KnW wq b (k.after x) v') := (KnW.other (by omega) _ _).trans (gbox hwq hRB (by simp; omega))
      have hr2' : RdP (b + 1) (KnW wq b (k.after x) v') v' (k.after x).ps := by unfold KnW; exact (((((hr'.set (Nat.lt_succ_self b) _ _).set (Nat.lt_succ_self b) _ _).set (Nat.lt_succ_self b) _ _).set (Nat.lt_succ_self b) _ _).set (Nat.lt_succ_self b) _ _).set (Nat.lt_succ_self b) _ _
      have hU2 : RdUp rb B (6 + 40 * (13 - (n - 1))) w (KnW wq b (k.after x) v') := by unfold KnW; (repeat (first | with_reducible assumption | refine RdUp.ups ?_ (by with_reducible assumption) | with_reducible refine RdUp.set ?_ (by first | exact Nat.le_refl _ | (simp only []; omega) | (simp; omega)) _ | with_reducible refine RdUp.alloc ?_ _ | with_reducible refine RdUp.drew ?_ | with_reducible exact RdUp.of (Up.refl _)))
      have hK := KnD.after_ok hk hx
      have hJ2 : (k.after x).last = -1 → (k.after x).ps = [] := fun e => by have e : x = -1 := e; have := (KnD.find_bd hk hx).1; omega
      have HH := Lib.hid (And.intro hK (And.intro hK2 (And.intro hr2' (And.intro hU2 (And.intro hR2 hJ2)))))
      obtain ⟨hb1, q0, q1, q2, q3, q4, q5⟩ := KnAt.cells (gbox hwq hKB (by simp; omega))
      have hfr := box_free (gbox hwq hKB (by simp; omega))
      clear hK2 hR2 hr2' hU2 hK hJ2 hr' hU hKB hRB hr
      generalize k.after x = k2 at *
      subst hvv
      simp only [kV]
      go_wp2
      rw [onlyN_normal]
      go_wp2
      rw [show (World.setCell (World.setCell (World.setCell (World.setCell (World.setCell (World.setCell wq ⟨b, 0, none⟩ (.int .i64 k2.set.ord)) ⟨b, 1, none⟩ (.int .i64 k2.set.lit)) ⟨b, 2, none⟩ (.int .i64 k2.set.most)) ⟨b, 3, none⟩ (.slice a' k2.ps.length c')) ⟨b, 4, none⟩ (.int .i64 k2.base)) ⟨b, 5, none⟩ (.int .i64 k2.last)) = KnW wq b k2 (.slice a' k2.ps.length c') from rfl]
      obtain ⟨hK, hK2, hr2', hU2, hR2, hJ2⟩ := HH.out
      clear HH q0 q1 q2 q3 q4 q5 hfr
      go_roundw
      case rel => exact ⟨n - 1, k2, _, by go_num, by omega, hK, hK2, hr2', hU2, hR2, hJ2⟩
      case measure => simp [intOf]; omega
    · have e : n = 0 := by omega
      subst e
      obtain ⟨hb1, q0, q1, q2, q3, q4, q5⟩ := KnAt.cells hKB
      go_wp2_with (first | (go_at_call 31; ((with_reducible refine (pick_at (n := 5) HR.out hU (by intro c hU; (repeat (first | with_reducible assumption | refine RdUp.ups ?_ (by with_reducible assumption) | with_reducible refine RdUp.set ?_ (by first | exact Nat.le_refl _ | (simp only []; omega) | (simp; omega)) _ | with_reducible refine RdUp.alloc ?_ _ | with_reducible refine RdUp.drew ?_ | with_reducible exact RdUp.of (Up.refl _)))) (by omega)).mono ?_); rintro e w' ⟨y, rfl, y0, y1, hU, U⟩; have D := gcell U.1; have Z := U.1.size; (try simp at Z); (try have Y0 : w.heap.size < w'.heap.size := (by omega)); (try have Y1 : w.heap.size + 1 < w'.heap.size := (by omega)); (try have Y2 : w.heap.size + 1 + 1 < w'.heap.size := (by omega)); (try have X0 : w.heap.size < w'.heap.size + 1 := (by omega)); (try have X1 : w.heap.size + 1 < w'.heap.size + 1 := (by omega)); (try have X2 : w.heap.size + 1 + 1 < w'.heap.size + 1 := (by omega)); (((first | (have hKB := gbox U.1 hKB (by simp; omega); have hr := RdP.gr hr U.1 (by omega)) | (have hKB : KnAt b ⟨k.set, k.ps, m, k.last⟩ (.slice a k.ps.length cap) w' := gbox U.1 (box_set hKB 4 (.int .i64 m)) (by simp; omega); have hr := RdP.gr (hr.set (Nat.lt_succ_self b) 4 (.int .i64 m)) U.1 (by omega))); (first | (have hRB := gbox U.1 hRB (by simp; omega)) | (have hRB : KnAt w.heap.size kn0 (.slice none 0 0) w' := gbox U.1 ((Below.heap_setCell _ _ _ _ (show w.heap.size ≠ b by omega)).trans hRB) (by simp; omega)))); (obtain ⟨hb1, q0, q1, q2, q3, q4, q5⟩ := KnAt.cells hKB; obtain ⟨hb0, s0, s1, s2, s3, s4, s5⟩ := KnAt.cells hRB; have hfr := box_free hRB; have hfk := box_free hKB)))) | (go_at_call 31; ((with_reducible refine (pick_at (n := (k.ps.length : Int) + 1) HR.out hU (by intro c hU; (repeat (first | with_reducible assumption | refine RdUp.ups ?_ (by with_reducible assumption) | with_reducible refine RdUp.set ?_ (by first | exact Nat.le_refl _ | (simp only []; omega) | (simp; omega)) _ | with_reducible refine RdUp.alloc ?_ _ | with_reducible refine RdUp.drew ?_ | with_reducible exact RdUp.of (Up.refl _)))) (by omega)).mono ?_); rintro e w' ⟨m, rfl, m0, m1, hU, U⟩; have D := gcell U.1; have Z := U.1.size; (try simp at Z); (try have Y0 : w.heap.size < w'.heap.size := (by omega)); (try have Y1 : w.heap.size + 1 < w'.heap.size := (by omega)); (try have Y2 : w.heap.size + 1 + 1 < w'.heap.size := (by omega)); (try have X0 : w.heap.size < w'.heap.size + 1 := (by omega)); (try have X1 : w.heap.size + 1 < w'.heap.size + 1 := (by omega)); (try have X2 : w.heap.size + 1 + 1 < w'.heap.size + 1 := (by omega)); ((have hKB := gbox U.1 hKB (by simp; omega); have hRB := gbox U.1 hRB (by simp; omega); have hr := RdP.gr hr U.1 (by omega); (obtain ⟨hb1, q0, q1, q2, q3, q4, q5⟩ := KnAt.cells hKB; obtain ⟨hb0, s0, s1, s2, s3, s4, s5⟩ := KnAt.cells hRB; have hfr := box_free hRB; have hfk := box_free hKB))))) | (go_at_call 129; (first | (with_reducible refine (l2Cleared_any k _ (b + 1) _ hk hr).mono ?_) | (with_reducible refine (l2Cleared_any ⟨k.set, k.ps, m, k.last⟩ _ (b + 1) _ (hk.rebase (by omega) (by omega)) hr).mono ?_)); rintro e w9 ⟨v9, rfl, ho9, U9⟩; have hr9 := (RdP.of_own ho9).low (show b + 1 ≤ _ by omega); have hU := hU.ups U9; have hKB := box_up U9 hKB; have hRB := box_up U9 hRB; obtain ⟨a9, c9, rfl⟩ := ownsRow_shape ho9; clear q0 q1 q2 q3 q4 q5 hfr hfk s0 s1 s2 s3 s4 s5; obtain ⟨hb1, q0, q1, q2, q3, q4, q5⟩ := KnAt.cells hKB; obtain ⟨hb0, s0, s1, s2, s3, s4, s5⟩ := KnAt.cells hRB; have hfr := box_free hRB; have hfk := box_free hKB))
      all_goals
        refine bodyPost_ret (v := _) (by simp [results, Tryz.results72, go_sem, hb0, s0, s1, s2, s3, s4, s5]; rfl) rfl ?_
        first
          | (refine ⟨k, .slice a k.ps.length cap, rfl, ⟨hk, vl_of hk HJ.out⟩, RdP.low (lo := b + 1) ?_ (by omega), ?_⟩; (repeat (with_reducible refine RdP.set ?_ (by omega) _ _)); exact hr; exact RdUp.fin hU (by intro c hU; (repeat (first | with_reducible assumption | refine RdUp.ups ?_ (by with_reducible assumption) | with_reducible refine RdUp.set ?_ (by first | exact Nat.le_refl _ | (simp only []; omega) | (simp; omega)) _ | with_reducible refine RdUp.alloc ?_ _ | with_reducible refine RdUp.drew ?_ | with_reducible exact RdUp.of (Up.refl _)))) (by omega))
          | (refine ⟨⟨k.set, k.ps, m, k.last⟩, .slice a k.ps.length cap, rfl, ⟨hk.rebase (by omega) (by omega), fun e => (by have h1 := HJ.out e; have h2 : k.ps.length = 0 := (by rw [h1]; rfl); show m = (k.ps.length : Int); omega)⟩, RdP.low (lo := b + 1) ?_ (by omega), ?_⟩; (repeat (with_reducible refine RdP.set ?_ (by omega) _ _)); exact hr; exact RdUp.fin hU (by intro c hU; (repeat (first | with_reducible assumption | refine RdUp.ups ?_ (by with_reducible assumption) | with_reducible refine RdUp.set ?_ (by first | exact Nat.le_refl _ | (simp only []; omega) | (simp; omega)) _ | with_reducible refine RdUp.alloc ?_ _ | with_reducible refine RdUp.drew ?_ | with_reducible exact RdUp.of (Up.refl _)))) (by omega))
          | (refine ⟨k.cleared, .slice a9 _ c9, rfl, ⟨KnD.cleared_ok hk, vl_cleared hk⟩, RdP.low (lo := b + 1) ?_ (by omega), ?_⟩; (repeat (with_reducible refine RdP.set ?_ (by omega) _ _)); exact hr9; exact RdUp.fin hU (by intro c hU; (repeat (first | with_reducible assumption | refine RdUp.ups ?_ (by with_reducible assumption) | with_reducible refine RdUp.set ?_ (by first | exact Nat.le_refl _ | (simp only []; omega) | (simp; omega)) _ | with_reducible refine RdUp.alloc ?_ _ | with_reducible refine RdUp.drew ?_ | with_reducible exact RdUp.of (Up.refl _)))) (by omega))
          | (refine ⟨(⟨k.set, k.ps, m, k.last⟩ : KnD).cleared, .slice a9 _ c9, rfl, ⟨KnD.cleared_ok (hk.rebase (by omega) (by omega)), vl_cleared (hk.rebase (by omega) (by omega))⟩, RdP.low (lo := b + 1) ?_ (by omega), ?_⟩; (repeat (with_reducible refine RdP.set ?_ (by omega) _ _)); exact hr9; exact RdUp.fin hU (by intro c hU; (repeat (first | with_reducible assumption | refine RdUp.ups ?_ (by with_reducible assumption) | with_reducible refine RdUp.set ?_ (by first | exact Nat.le_refl _ | (simp only []; omega) | (simp; omega)) _ | with_reducible refine RdUp.alloc ?_ _ | with_reducible refine RdUp.drew ?_ | with_reducible exact RdUp.of (Up.refl _)))) (by omega))
end Go.Proofs.YtekogcjdaolcbaaGreatDoor

/- Walks of the reference's l3Writer and DrawWriteData. Conditions: the reader is one, its place is bounded; the argument can be read. -/
namespace Go.Proofs.YtekogcjdaolcbaaGreatDoor
open Go Go.RowKit
def GW (n : Nat) (y : WrD) : Prop := wrOk y ∧ y.pend.length ≤ n
theorem fits_of {x : WrD} {d : List UInt8} (hx : wrOk x) (hl : ∀ b ∈ d, b.toNat < clr x.k.set) (hn : x.pend.length + d.length ≤ 2000) : fitsB x.k.set (x.pend ++ d) = true := by
  rw [fitsB_iff hx.1.set (by rw [List.length_append]; omega)]
  refine litsL_yes fun k hk => ?_
  rcases List.mem_append.1 (List.getElem_mem hk) with h | h
  · exact hx.2.2.1 _ h
  · exact hl _ h
theorem write_gw {x : WrD} {d : List UInt8} {n m : Nat} (hx : GW n x) (hl : ∀ b ∈ d, b.toNat < clr x.k.set) (hd : d.length ≤ m) (hn : n + m ≤ 2000) : GW (n + m) (x.write d).1 := by
  have h2 := hx.2
  obtain ⟨h1, -, -, p, hp⟩ := wrOk_write hx.1 hl (by rw [List.length_append]; omega)
  refine ⟨h1, ?_⟩
  have := congrArg List.length hp
  rw [List.length_append, List.length_append] at this
  omega
def WdM (lo n : Nat) (u : Value) (w : World) : Prop := ∃ (y : WrD) (v : Value) (b : ByteArray), u = .tuple #[wrV y v, .string b, .bool true] ∧ GW n y ∧ RdP lo w v y.k.ps
theorem wdM_closed {rb lo n : Nat} (hl : rb < lo) : ∀ u w w', WdM lo n u w → w.grownBy w' (some rb) → WdM lo n u w' := fun u w w' ⟨y, v, b, h1, h2, h3⟩ hg => ⟨y, v, b, h1, h2, h3.gr hg hl⟩
def WrM (lo n : Nat) (u : Value) (w : World) : Prop := ∃ (y : WrD) (v : Value), u = wrV y v ∧ GW n y ∧ RdP lo w v y.k.ps
theorem wrM_closed {rb lo n : Nat} (hl : rb < lo) : ∀ u w w', WrM lo n u w → w.grownBy w' (some rb) → WrM lo n u w' := fun u w w' ⟨y, v, h1, h2, h3⟩ hg => ⟨y, v, h1, h2, h3.gr hg hl⟩
theorem upOut_wd {lo n m : Nat} {x : WrD} {v : Value} {d : List UInt8} {w : World} (hx : GW n x) (hl : ∀ b ∈ d, b.toNat < clr x.k.set) (hd : d.length ≤ m) (hn : n + m ≤ 2000) (hr : RdP 0 w v x.k.ps) (hb : lo ≤ w.heap.size) :
    upOut Tryz.prog (WdM lo (n + m)) w (.ok (.enter 8 #[wrV x v, .string (bs d)]) w) := by
  have h2 := hx.2
  have hc := wdS_any x v 0 d w hr (by have := hx.1.1.nums; omega) (by omega) (by have := hx.1.2.2.2.2.2.1; omega) (by omega)
  rw [wdO_some (by rw [wrvB_of hx.1, fits_of hx.1 hl (by omega)]; rfl)] at hc
  exact ⟨rfl, hc.mono fun e w' ⟨v', he, ho, hu⟩ => ⟨_, he, hu, _, v', _, rfl, write_gw hx hl hd hn, (RdP.of_own ho).low hb⟩⟩
theorem nwPost_yes {k : KnD} {w w' : World} {e : Ending} (hv : validK k = true) (h : NwPost k w e w') : ∃ v, e = .returned (.tuple #[wrV ⟨k, [], [], false⟩ v, .bool true]) ∧ ownPr w' w.heap.size v k.ps ∧ Up w w' := by
  unfold NwPost at h
  rw [if_pos hv] at h
  exact h
theorem gw_new {k : KnD} (hk : k.Ok) (hv : k.vl) : GW 0 ⟨k, [], [], false⟩ :=
  ⟨⟨hk, hv, fun b hb => absurd hb (List.not_mem_nil), Nat.zero_le _, fun b hb => absurd hb (List.not_mem_nil), Nat.zero_le _, .inl rfl, fun _ => ⟨rfl, rfl⟩⟩, Nat.le_refl _⟩
def RelLr (rb : Nat) (B : Value) (c : Nat) (w : World) (b : Nat) (i : Value) (wr : World) : Prop := ∃ (n : Nat) (y : WrD) (v : Value), i = .int .i64 n ∧ n ≤ 3 ∧ GW (12 * (3 - n)) y ∧ WrAt b y v wr ∧ RdP (w.heap.size + 1) wr v y.k.ps ∧ RdUp rb B (c + 33200 * (3 - n)) w wr ∧ WrAt w.heap.size wr0 (.slice none 0 0) wr
set_option maxRecDepth 100000 in
set_option maxHeartbeats 8000000 in
theorem l3Writer_any (rb : Nat) (B : Value) (w : World) (N : Nat) (h : Rdr rb B w N) (hN : N ≤ 700000000) :
    Calls Tryz.prog 29  #[.pointer (some ⟨rb, 0, none⟩)] w (DrawnW rb B 101000 (GW 36) w) := by
  obtain ⟨p, hp, h, HM⟩ := h.least
  have hlt := h.lt
  have HR := Lib.hid h
  have hne0 : ¬ w.heap.size = rb := by omega
  have hU := RdUp.refl rb B 0 w
  have e1 : w.heap.size < w.heap.size + 1 := by omega
  have hRB := WrAt.zero (MapKept.heap_alloc w (.cells #[.int .i64 0, .int .i64 0, .int .i64 0, .slice none 0 0, .int .i64 0, .int .i64 0, .string ⟨#[]⟩, .string ⟨#[]⟩, .bool false] 29)).1
  have hU0 : RdUp rb B 0 w (w.alloc (.cells #[.int .i64 0, .int .i64 0, .int .i64 0, .slice none 0 0, .int .i64 0, .int .i64 0, .string ⟨#[]⟩, .string ⟨#[]⟩, .bool false] 29)) := by (repeat (first | with_reducible assumption | refine RdUp.ups ?_ (by with_reducible assumption) | with_reducible refine RdUp.set ?_ (by first | exact Nat.le_refl _ | (simp only []; omega) | (simp; omega)) _ | with_reducible refine RdUp.alloc ?_ _ | with_reducible refine RdUp.drew ?_ | with_reducible exact RdUp.of (Up.refl _)))
  go_enter Tryz.func29, Tryz.ntmps29
  go_wp2_with fail
  with_reducible refine (l2DrawV_any rb B _ _ (rdUp_r hU0 h) (by omega)).mono ?_
  rintro e w1 ⟨k, u, rfl, ⟨hk, hvl⟩, hrk, hU1⟩
  have hU := RdUp.trans hU0 hU1
  have hval := valid_of_ok hk hvl
  have hRB := gbox hU1.1 hRB (by simp; omega)
  have hz1 := hU1.1.size
  simp at hz1
  have hnw := nwS_any k u (rb + 1) w1 hrk (by have := hk.nums; omega)
  obtain ⟨a, cap, rfl, -, -, -, -⟩ := id hrk
  simp only [kV] at hnw ⊢
  go_wp2_with fail
  with_reducible refine hnw.mono ?_
  rintro e w2 hpost
  obtain ⟨v2, rfl, ho2, U2⟩ := nwPost_yes hval hpost
  obtain ⟨a2, c2, rfl⟩ := ownsRow_shape ho2
  have hRB := box_up U2 hRB
  have hU := hU.ups U2
  have hr2 : RdP (w.heap.size + 1) w2 (.slice a2 k.ps.length c2) k.ps := (RdP.of_own ho2).low (by omega)
  have hz2 := U2.size
  have hgw := gw_new hk hvl
  clear ho2 U2 hnw hval hpost hrk hU1 hvl hU0
  unfold wrV
  go_wp2_with fail
  have hKB : WrAt w2.heap.size ⟨k, [], [], false⟩ (.slice a2 k.ps.length c2) (w2.alloc (.cells #[.int .i64 k.set.ord, .int .i64 k.set.lit, .int .i64 k.set.most, .slice a2 k.ps.length c2, .int .i64 k.base, .int .i64 k.last, .string (bs []), .string (bs []), .bool false] 29)) := (MapKept.heap_alloc w2 _).1
  have hUa : Up w2 (w2.alloc (.cells #[.int .i64 k.set.ord, .int .i64 k.set.lit, .int .i64 k.set.most, .slice a2 k.ps.length c2, .int .i64 k.base, .int .i64 k.last, .string (bs []), .string (bs []), .bool false] 29)) := (Up.refl _).alloc _
  have hRB := box_up hUa hRB
  have hr2 := hr2.up hUa
  have hU := RdUp.mono (hU.ups hUa) (show 0 + 800 ≤ 801 by omega)
  have hbw : w.heap.size < w2.heap.size := by omega
  have hbr : ¬ w2.heap.size = rb := by omega
  have hbr2 : rb < w2.heap.size := by omega
  clear hUa
  generalize w2.alloc (.cells #[.int .i64 k.set.ord, .int .i64 k.set.lit, .int .i64 k.set.most, .slice a2 k.ps.length c2, .int .i64 k.base, .int .i64 k.last, .string (bs []), .string (bs []), .bool false] 29) = W at *
  generalize w2.heap.size = b at *
  clear hz1 hz2
  go_wp2_with ((go_at_call 31; ((with_reducible refine (pick_at (n := 4) HR.out hU (by intro c hU; (repeat (first | with_reducible assumption | refine RdUp.ups ?_ (by with_reducible assumption) | with_reducible refine RdUp.set ?_ (by first | exact Nat.le_refl _ | (simp only []; omega) | (simp; omega)) _ | with_reducible refine RdUp.alloc ?_ _ | with_reducible refine RdUp.drew ?_ | with_reducible exact RdUp.of (Up.refl _)))) (by omega)).mono ?_); rintro e w' ⟨n, rfl, n0, n1, hU, U⟩; have D := gcell U.1; have Z := U.1.size; (try simp at Z); (try have Y0 : w.heap.size < w'.heap.size := (by omega)); (try have Y1 : w.heap.size + 1 < w'.heap.size := (by omega)); (try have Y2 : w.heap.size + 1 + 1 < w'.heap.size := (by omega)); (try have X0 : w.heap.size < w'.heap.size + 1 := (by omega)); (try have X1 : w.heap.size + 1 < w'.heap.size + 1 := (by omega)); (try have X2 : w.heap.size + 1 + 1 < w'.heap.size + 1 := (by omega)); ((have hKB := gbox U.1 hKB (by simp; omega); have hRB := gbox U.1 hRB (by simp; omega); have hr2 := hr2.gr U.1 (by omega))))))
  obtain ⟨n, rfl⟩ := Int.eq_ofNat_of_zero_le n0
  have hn3 : n ≤ 3 := by omega
  have hU0 := RdUp.mono hU (show 801 + 1 ≤ 802 by omega)
  clear hU U D
  go_loopw [5] (fun i wr => RelLr rb B 802 w b i wr) (fun i _ => (intOf i).toNat)
  case atStart => exact ⟨n, _, _, rfl, hn3, ⟨hgw.1, Nat.zero_le _⟩, hKB, hr2, hU0.mono (by omega), hRB⟩
  case round =>
    clear hKB hRB hU0 hgw hr2
    obtain ⟨n, y, v, rfl, hn, hy, hKB, hr, hU, hRB⟩ := hrel
    have hwz := hU.1.size
    obtain ⟨a, cap, rfl, hc1, hc2, hc3, -⟩ := id hr
    unfold maxLen at hc2
    by_cases hp0 : 0 < n
    · go_wp2_with fail
      have hr2 := hU.2 _ h
      have hbz := Lib.hid (Array.getElem?_eq_some_iff.1 hKB).1
      have hyp := hy.2
      have hys := hy.1.1.set
      refine wp_region_rd 11 rb B 3010 _ (by kernel_rfl) (by kernel_rfl) hr2 ?_
      simp only [List.take, List.drop]
      repeat (refine wpR_step (fun K hK => ?_); go_simp; (try simp only [↓IntWalk.iteOmega]); first
        | (refine hK _ _ ?_; clear hK K)
        | (refine stepR_c ?_ ?_ ?_
           rotate_left
           · intro wq hwq hrq; (have hbq := gcell hwq; (repeat (first | refine fills_no (by rfl) ?_ | (refine fills_yes (by rfl) (fun vq hvq => ?_); (try ((first | (obtain ⟨s9, rfl, hs9, hl9⟩ := hvq) | (obtain ⟨y', v', b', rfl, hy', hr'⟩ := hvq))))))); simp only [List.filter_nil, fills]; unfold upAt; (try ((obtain ⟨-, r0, r1, r2, r3, r4, r5, r6, r7, r8⟩ := WrAt.cells (gbox hwq hKB (by simp; omega))))); go_simp; (try go_bits); (try simp only [↓IntWalk.iteOmega]); (try (rw [dif_pos (by omega)]; go_simp; try go_bits)); first | exact upOut_value)
           go_simp; refine hK _ _ ?_; clear hK K)
        | (refine stepR_m (by kernel_rfl) ?_ ?_ (fun wq hwq hrq => ?_) ?_
           rotate_left 2
           · (have hbq := gcell hwq; (repeat (first | refine fills_no (by rfl) ?_ | (refine fills_yes (by rfl) (fun vq hvq => ?_); (try ((first | (obtain ⟨s9, rfl, hs9, hl9⟩ := hvq) | (obtain ⟨y', v', b', rfl, hy', hr'⟩ := hvq))))))); simp only [List.filter_nil, fills]; unfold upAt; (try ((obtain ⟨-, r0, r1, r2, r3, r4, r5, r6, r7, r8⟩ := WrAt.cells (gbox hwq hKB (by simp; omega))))); go_simp; (try go_bits); (try simp only [↓IntWalk.iteOmega]); (try (rw [dif_pos (by omega)]; go_simp; try go_bits)); first | ((with_reducible refine upOut_D (WdM (b + 1) (12 * (3 - n) + 12)) ?_); ((exact upOut_wd (d := s9.data.toList) hy hl9 hs9 (by omega) ((hr.gr hwq (by omega)).low (by omega)) (by have := hwq.size; have := hbz.out; omega)))) | ((with_reducible refine upOut_D (WdM (b + 1) (12 * (3 - n) + 12)) ?_); ((exact ⟨Up.refl _, y', v', b', rfl, hy', hr'⟩))) | ((with_reducible refine upOut_D (WrM (b + 1) (12 * (3 - n) + 12)) ?_); ((exact ⟨Up.refl _, y', v', rfl, hy', hr'⟩))) | ((with_reducible refine upOut_D ((fun _ _ => True)) ?_); ((exact ⟨Up.refl _, trivial⟩))))
           rotate_left
           · (first | exact (fun _ _ _ h _ => h) | exact (wdM_closed (by omega)) | exact (wdM_closed (by omega)) | exact (wrM_closed (by omega)) | exact ((fun _ _ _ _ _ => trivial)))
           refine hK _ _ ?_; clear hK K)
        | (refine stepR_d (by rfl) (by kernel_rfl) (fun v _ => IsStrB 12 (clr y.k.set) v) (fun _ _ _ h _ => h) (fun wq hwq hrq => ?_) ?_
           · (have hbq := gcell hwq; (repeat (first | refine fills_no (by rfl) ?_ | (refine fills_yes (by rfl) (fun vq hvq => ?_); (try ((first | (obtain ⟨s9, rfl, hs9, hl9⟩ := hvq) | (obtain ⟨y', v', b', rfl, hy', hr'⟩ := hvq))))))); simp only [List.filter_nil, fills]; unfold gAt; (try ((obtain ⟨-, r0, r1, r2, r3, r4, r5, r6, r7, r8⟩ := WrAt.cells (gbox hwq hKB (by simp; omega))))); go_simp; (try go_bits); (try simp only [↓IntWalk.iteOmega]); (try (rw [dif_pos (by omega)]; go_simp; try go_bits)); (with_reducible refine gOut_drawn ((l1DataB_as 12 12 rfl rb B y.k.set wq _ hrq (by omega) (by omega) hys)) ?_); decide)
           refine hK _ _ ?_; clear hK K))
      refine wpR_nil (fun wq hwq hrq => ?_)
      simp only [fills]
      rintro u1 - u2 ⟨y2, v2, rfl, hy2, hr2'⟩ u3 ⟨y3, v3, b3, rfl, -, -⟩ u4 ⟨y4, v4, b4, rfl, -, -⟩ u5 ⟨s9, rfl, -, -⟩
      obtain ⟨a2, c2, rfl, -⟩ := id hr2'
      have hU := RdUp.made (C := 802 + 33200 * (3 - (n - 1))) HM (grownBy_trans hU.1 hwq) hrq (by omega)
      have hK2 := WrAt.store (gbox hwq hKB (by simp; omega)) y2 (.slice a2 y2.k.ps.length c2)
      have hR2 : WrAt w.heap.size wr0 (.slice none 0 0) (WrW wq b y2 (.slice a2 y2.k.ps.length c2)) := (WrW.other (by omega) _ _).trans (gbox hwq hRB (by simp; omega))
      have hr3 : RdP (w.heap.size + 1) (WrW wq b y2 (.slice a2 y2.k.ps.length c2)) (.slice a2 y2.k.ps.length c2) y2.k.ps := by
        unfold WrW KnW
        refine RdP.low (lo := b + 1) ?_ (by omega)
        (repeat (with_reducible refine RdP.set ?_ (Nat.lt_succ_self b) _ _)); exact hr2'
      have hU2 : RdUp rb B (802 + 33200 * (3 - (n - 1))) w (WrW wq b y2 (.slice a2 y2.k.ps.length c2)) := by unfold WrW KnW; (repeat (first | with_reducible assumption | refine RdUp.ups ?_ (by with_reducible assumption) | with_reducible refine RdUp.set ?_ (by first | exact Nat.le_refl _ | (simp only []; omega) | (simp; omega)) _ | with_reducible refine RdUp.alloc ?_ _ | with_reducible refine RdUp.drew ?_ | with_reducible exact RdUp.of (Up.refl _)))
      have hg2 : GW (12 * (3 - (n - 1))) y2 := ⟨hy2.1, by have := hy2.2; omega⟩
      have HH := Lib.hid (And.intro hg2 (And.intro hK2 (And.intro hr3 (And.intro hU2 hR2))))
      obtain ⟨hb1, q0, q1, q2, q3, q4, q5, q6, q7, q8⟩ := WrAt.cells (gbox hwq hKB (by simp; omega))
      have hfr := box_free (gbox hwq hKB (by simp; omega))
      clear hK2 hR2 hr3 hU2 hr2' hU hKB hRB hr hg2
      unfold wrV
      go_wp2_with fail
      rw [onlyN_normal]
      rw [show (((((((((wq.setCell ⟨b, 0, none⟩ (.int .i64 y2.k.set.ord)).setCell ⟨b, 1, none⟩ (.int .i64 y2.k.set.lit)).setCell ⟨b, 2, none⟩ (.int .i64 y2.k.set.most)).setCell ⟨b, 3, none⟩ (.slice a2 y2.k.ps.length c2)).setCell ⟨b, 4, none⟩ (.int .i64 y2.k.base)).setCell ⟨b, 5, none⟩ (.int .i64 y2.k.last)).setCell ⟨b, 6, none⟩ (.string (bs y2.pend))).setCell ⟨b, 7, none⟩ (.string (bs y2.bits))).setCell ⟨b, 8, none⟩ (.bool y2.beg)) = WrW wq b y2 (.slice a2 y2.k.ps.length c2) from rfl]
      obtain ⟨hg2, hK2, hr3, hU2, hR2⟩ := HH.out
      clear HH q0 q1 q2 q3 q4 q5 q6 q7 q8 hfr
      generalize WrW wq b y2 (.slice a2 y2.k.ps.length c2) = W9 at *
      go_wp2_with fail
      go_roundw
      case rel => exact ⟨n - 1, y2, _, by go_num, by omega, hg2, hK2, hr3, hU2, hR2⟩
      case measure => simp [intOf]; omega
    · have e : n = 0 := by omega
      subst e
      obtain ⟨hb1, q0, q1, q2, q3, q4, q5, q6, q7, q8⟩ := WrAt.cells hKB
      obtain ⟨hb0, s0, s1, s2, s3, s4, s5, s6, s7, s8⟩ := WrAt.cells hRB
      simp only [wr0] at s0 s1 s2 s3 s4 s5 s6 s7 s8
      have hfr := box_free hRB
      go_wp2_with fail
      refine bodyPost_ret (v := _) (by simp [results, Tryz.results29, go_sem, hb0, s0, s1, s2, s3, s4, s5, s6, s7, s8]; rfl) rfl ?_
      refine ⟨y, .slice a y.k.ps.length cap, rfl, ⟨hy.1, by have := hy.2; omega⟩, RdP.low (lo := w.heap.size + 1) ?_ (by omega), ?_⟩
      · (repeat (with_reducible refine RdP.set ?_ (by omega) _ _)); exact hr
      · exact RdUp.fin hU (by intro c hU; (repeat (first | with_reducible assumption | refine RdUp.ups ?_ (by with_reducible assumption) | with_reducible refine RdUp.set ?_ (by first | exact Nat.le_refl _ | (simp only []; omega) | (simp; omega)) _ | with_reducible refine RdUp.alloc ?_ _ | with_reducible refine RdUp.drew ?_ | with_reducible exact RdUp.of (Up.refl _)))) (by omega)
def IsWD (v : Value) (w : World) : Prop := ∃ (x : WrD) (u : Value) (d : ByteArray), v = .tuple #[wrV x u, .string d] ∧ RdP 0 w u x.k.ps ∧ BadW x ∧ d.size ≤ 2001
set_option maxRecDepth 100000 in
set_option maxHeartbeats 8000000 in
theorem drawWrite_any (v : Value) (l : List UInt8) (w : World) (h : ArgU w v l) :
    Calls Tryz.prog 6  #[v] w (fun e w' => ∃ v, e = .returned v ∧ IsWD v w' ∧ Up w w') := by
  have cO := fun w' hu => open_at (h.up (w' := w') hu)
  clear h
  go_enter Tryz.func6, Tryz.ntmps6
  go_wp2_with (go_at_call 28; (with_reducible refine (cO _ (by (repeat (first | with_reducible exact Up.refl _ | with_reducible assumption | with_reducible refine Up.set ?_ (by first | exact Nat.le_refl _ | (simp only []; omega) | (simp; omega)) _ | with_reducible refine Up.alloc ?_ _ | with_reducible refine Up.drew ?_ | refine Up.trans ?_ (by with_reducible assumption))))).mono ?_); rintro e w1 ⟨B, rfl, hr, U1⟩)
  have hRB : WrAt w.heap.size wr0 (.slice none 0 0) w1 := WrAt.zero (box_up U1 (MapKept.heap_alloc w _).1)
  have hUp : Up w w1 := by (repeat (first | with_reducible exact Up.refl _ | with_reducible assumption | with_reducible refine Up.set ?_ (by first | exact Nat.le_refl _ | (simp only []; omega) | (simp; omega)) _ | with_reducible refine Up.alloc ?_ _ | with_reducible refine Up.drew ?_ | refine Up.trans ?_ (by with_reducible assumption)))
  rw [size_alloc] at hr
  have hrw : w.heap.size < w.heap.size + 1 := by omega
  generalize w.heap.size + 1 = rb at *
  obtain ⟨p, hp, hr, HM⟩ := hr.least
  have hlt := hr.lt
  have HR := Lib.hid hr
  have hU := RdUp.refl rb B 0 w1
  have hne0 : ¬ w.heap.size = rb := by omega
  clear cO U1
  go_wp2_with (go_at_call 29; (with_reducible refine (l3Writer_any rb B _ _ hr (by omega)).mono ?_); rintro e w2 ⟨x, u, rfl, hx, hrk, hU⟩; obtain ⟨a, cap, rfl, hc1, hc2, hc3, -⟩ := id hrk; unfold wrV; have D := gcell hU.1; have Z := hU.1.size)
  have hKB : WrAt w2.heap.size x (.slice a x.k.ps.length cap) (w2.alloc (.cells #[.int .i64 x.k.set.ord, .int .i64 x.k.set.lit, .int .i64 x.k.set.most, .slice a x.k.ps.length cap, .int .i64 x.k.base, .int .i64 x.k.last, .string (bs x.pend), .string (bs x.bits), .bool x.beg] 29)) := (MapKept.heap_alloc w2 _).1
  have hUa : Up w2 (w2.alloc (.cells #[.int .i64 x.k.set.ord, .int .i64 x.k.set.lit, .int .i64 x.k.set.most, .slice a x.k.ps.length cap, .int .i64 x.k.base, .int .i64 x.k.last, .string (bs x.pend), .string (bs x.bits), .bool x.beg] 29)) := (Up.refl _).alloc _
  have hRB : WrAt w.heap.size wr0 (.slice none 0 0) (w2.alloc (.cells #[.int .i64 x.k.set.ord, .int .i64 x.k.set.lit, .int .i64 x.k.set.most, .slice a x.k.ps.length cap, .int .i64 x.k.base, .int .i64 x.k.last, .string (bs x.pend), .string (bs x.bits), .bool x.beg] 29)) := box_up hUa (gbox hU.1 hRB (by simp; omega))
  have hrk := hrk.up hUa
  have hU := RdUp.ups hU hUa
  have hbr : ¬ w2.heap.size = rb := by omega
  have hbw : w.heap.size < w2.heap.size := by omega
  clear hUa
  generalize (w2.alloc (.cells #[.int .i64 x.k.set.ord, .int .i64 x.k.set.lit, .int .i64 x.k.set.most, .slice a x.k.ps.length cap, .int .i64 x.k.base, .int .i64 x.k.last, .string (bs x.pend), .string (bs x.bits), .bool x.beg] 29)) = W at *
  generalize w2.heap.size = b at *
  clear D Z
  obtain ⟨hb1, q0, q1, q2, q3, q4, q5, q6, q7, q8⟩ := WrAt.cells hKB; obtain ⟨hb0, s0, s1, s2, s3, s4, s5, s6, s7, s8⟩ := WrAt.cells hRB; simp only [wr0] at s0 s1 s2 s3 s4 s5 s6 s7 s8; have hfr := box_free hRB
  have hks := hx.1.1.set
  have c16 := fun w N h hN => l1Data_as 16 16 rfl rb B x.k.set w N h hN (by omega) hks
  have cW := fun d hd w N h hN => l1Wild_any rb B d w N h hN hd
  have cB := fun wx N h hN hr => l3Bad_any x (.slice a x.k.ps.length cap) rb B wx N h hN hx.1 hr
  unfold wrV at cB
  simp only [setV] at c16
  go_wp2_with (first | (go_at_call 31; ((with_reducible refine (pick_at (n := 12) HR.out hU (by intro c hU; (repeat (first | with_reducible assumption | refine RdUp.ups ?_ (by with_reducible assumption) | with_reducible refine RdUp.set ?_ (by first | exact Nat.le_refl _ | (simp only []; omega) | (simp; omega)) _ | with_reducible refine RdUp.alloc ?_ _ | with_reducible refine RdUp.drew ?_ | with_reducible exact RdUp.of (Up.refl _)))) (by omega)).mono ?_); rintro e w' ⟨y, rfl, y0, y1, hU, U⟩; have D := gcell U.1; have Z := U.1.size; (try simp at Z); (try have Y0 : w.heap.size < w'.heap.size := (by omega)); (try have Y1 : w.heap.size + 1 < w'.heap.size := (by omega)); (try have Y2 : w.heap.size + 1 + 1 < w'.heap.size := (by omega)); (try have X0 : w.heap.size < w'.heap.size + 1 := (by omega)); (try have X1 : w.heap.size + 1 < w'.heap.size + 1 := (by omega)); (try have X2 : w.heap.size + 1 + 1 < w'.heap.size + 1 := (by omega)); ((have hKB := gbox U.1 hKB (by simp; omega); have hRB := gbox U.1 hRB (by simp; omega); have hrk := hrk.gr U.1 (Nat.lt_succ_self rb); clear q0 q1 q2 q3 q4 q5 q6 q7 q8 hb1 s0 s1 s2 s3 s4 s5 s6 s7 s8 hb0 hfr; obtain ⟨hb1, q0, q1, q2, q3, q4, q5, q6, q7, q8⟩ := WrAt.cells hKB; obtain ⟨hb0, s0, s1, s2, s3, s4, s5, s6, s7, s8⟩ := WrAt.cells hRB; simp only [wr0] at s0 s1 s2 s3 s4 s5 s6 s7 s8; have hfr := box_free hRB)))) | ((go_at_call 30; ((with_reducible refine (draw_atM (c16) HR.out hU (by intro c hU; (repeat (first | with_reducible assumption | refine RdUp.ups ?_ (by with_reducible assumption) | with_reducible refine RdUp.set ?_ (by first | exact Nat.le_refl _ | (simp only []; omega) | (simp; omega)) _ | with_reducible refine RdUp.alloc ?_ _ | with_reducible refine RdUp.drew ?_ | with_reducible exact RdUp.of (Up.refl _)))) (by omega)).mono ?_); rintro e w' ⟨v, rfl, ⟨d, rfl, hd⟩, hU, U⟩; have D := gcell U.1; have Z := U.1.size; (try simp at Z); (try have Y0 : w.heap.size < w'.heap.size := (by omega)); (try have Y1 : w.heap.size + 1 < w'.heap.size := (by omega)); (try have Y2 : w.heap.size + 1 + 1 < w'.heap.size := (by omega)); (try have X0 : w.heap.size < w'.heap.size + 1 := (by omega)); (try have X1 : w.heap.size + 1 < w'.heap.size + 1 := (by omega)); (try have X2 : w.heap.size + 1 + 1 < w'.heap.size + 1 := (by omega)))); have hKB := gbox U.1 hKB (by simp; omega); have hRB := gbox U.1 hRB (by simp; omega); have hrk := hrk.gr U.1 (Nat.lt_succ_self rb); clear q0 q1 q2 q3 q4 q5 q6 q7 q8 hb1 s0 s1 s2 s3 s4 s5 s6 s7 s8 hb0 hfr; obtain ⟨hb1, q0, q1, q2, q3, q4, q5, q6, q7, q8⟩ := WrAt.cells hKB; obtain ⟨hb0, s0, s1, s2, s3, s4, s5, s6, s7, s8⟩ := WrAt.cells hRB; simp only [wr0] at s0 s1 s2 s3 s4 s5 s6 s7 s8; have hfr := box_free hRB) | ((go_at_call 32; ((with_reducible refine (draw_atM (cW _ (by omega)) HR.out hU (by intro c hU; (repeat (first | with_reducible assumption | refine RdUp.ups ?_ (by with_reducible assumption) | with_reducible refine RdUp.set ?_ (by first | exact Nat.le_refl _ | (simp only []; omega) | (simp; omega)) _ | with_reducible refine RdUp.alloc ?_ _ | with_reducible refine RdUp.drew ?_ | with_reducible exact RdUp.of (Up.refl _)))) (by omega)).mono ?_); rintro e w' ⟨v, rfl, ⟨d2, rfl, hd2⟩, hU, U⟩; have D := gcell U.1; have Z := U.1.size; (try simp at Z); (try have Y0 : w.heap.size < w'.heap.size := (by omega)); (try have Y1 : w.heap.size + 1 < w'.heap.size := (by omega)); (try have Y2 : w.heap.size + 1 + 1 < w'.heap.size := (by omega)); (try have X0 : w.heap.size < w'.heap.size + 1 := (by omega)); (try have X1 : w.heap.size + 1 < w'.heap.size + 1 := (by omega)); (try have X2 : w.heap.size + 1 + 1 < w'.heap.size + 1 := (by omega)))); have hKB := gbox U.1 hKB (by simp; omega); have hRB := gbox U.1 hRB (by simp; omega); have hrk := hrk.gr U.1 (Nat.lt_succ_self rb); clear q0 q1 q2 q3 q4 q5 q6 q7 q8 hb1 s0 s1 s2 s3 s4 s5 s6 s7 s8 hb0 hfr; obtain ⟨hb1, q0, q1, q2, q3, q4, q5, q6, q7, q8⟩ := WrAt.cells hKB; obtain ⟨hb0, s0, s1, s2, s3, s4, s5, s6, s7, s8⟩ := WrAt.cells hRB; simp only [wr0] at s0 s1 s2 s3 s4 s5 s6 s7 s8; have hfr := box_free hRB) | (go_at_call 33; (with_reducible refine (cB _ _ (rdUp_r hU hr) (by omega) hrk).mono ?_); rintro e w9 ⟨x9, u9, rfl, hb9, hr9, hU9⟩; obtain ⟨a9, c9, rfl, -⟩ := id hr9; unfold wrV; have hRB := gbox hU9.1 hRB (by simp; omega); have hU := RdUp.trans hU hU9; clear q0 q1 q2 q3 q4 q5 q6 q7 q8 hb1 s0 s1 s2 s3 s4 s5 s6 s7 s8 hb0 hfr; obtain ⟨hb0, s0, s1, s2, s3, s4, s5, s6, s7, s8⟩ := WrAt.cells hRB; simp only [wr0] at s0 s1 s2 s3 s4 s5 s6 s7 s8; have hfr := box_free hRB) | fail)
  all_goals
    have hUw := up_grownR hUp (rdUp_g hU) (by omega)
    refine bodyPost_ret (v := _) (by simp [results, Tryz.results6, go_sem, s0, s1, s2, s3, s4, s5, s6, s7, s8, hb0, hne0]; rfl) rfl ?_
    refine ⟨_, rfl, ⟨x9, .slice a9 x9.k.ps.length c9, _, rfl, RdP.low (lo := rb + 1) ?_ (Nat.zero_le _), hb9, by omega⟩, ?_⟩
    · repeat (with_reducible refine RdP.set ?_ (by omega) _ _)
      exact hr9
    · (repeat (first | with_reducible exact Up.refl _ | with_reducible assumption | with_reducible refine Up.set ?_ (by first | exact Nat.le_refl _ | (simp only []; omega) | (simp; omega)) _ | with_reducible refine Up.alloc ?_ _ | with_reducible refine Up.drew ?_ | refine Up.trans ?_ (by with_reducible assumption)))
end Go.Proofs.YtekogcjdaolcbaaGreatDoor

/- Texts joined into one: Eqb, Law. Conditions: as each says. -/
/- Walks of the laws' helpers that take a setting over and compare blocks. Conditions: none. -/
namespace Go.Proofs.YtekogcjdaolcbaaGreatDoor
open Go Go.RowKit
end Go.Proofs.YtekogcjdaolcbaaGreatDoor
/- The end of every law's row: the call answers true and nothing that was there has turned. Conditions: those of post_law. -/
namespace Go.Proofs.YtekogcjdaolcbaaGreatDoor
open Go.ChangeShapes Go.WideShapes Go.ChangeAt Go.RowKit
theorem TryzlaidOut : laidOutB Tryz.prog = true := by kernel_rfl
theorem own : ownKnob Tryz.prog.godebug = none := by kernel_rfl
theorem trodAll_up {H : Type} {enc : TypeId × Value → H} {P : Program} (hl : laidOutB P = true) {W W' : World} (hb : Below W.heap.size W W') : ∀ (ts : List TypeId) (vs : List Value) (ds : List (DataW H)) (ps : List MemPlace),
    (∀ t ∈ ts, P.readableRec t = true ∧ t < P.types.size) → (∀ x ∈ ps, x.block < W.heap.size) → DataW.TrodAll enc P W 0 (fun _ => true) true ts vs ds ps → DataW.TrodAll enc P W' 0 (fun b => decide (b < W.heap.size)) true ts vs ds ps
  | [], [], [], _, _, _, h => h
  | t :: ts, v :: vs, d :: ds, ps, ht, hp, h => by
    obtain ⟨p, q, h1, h2, rfl⟩ := h
    refine ⟨p, q, Below.trod hl (ht t (List.mem_cons_self ..)).1 (ht t (List.mem_cons_self ..)).2 h1 hb fun x hx => hp x (List.mem_append_left _ hx), ?_, rfl⟩
    exact trodAll_up hl hb ts vs ds q (fun t h => ht t (List.mem_cons_of_mem _ h)) (fun x hx => hp x (List.mem_append_right _ hx)) h2
  | [], _ :: _, _, _, _, _, h => h.elim
  | _ :: _, [], _, _, _, _, h => h.elim
  | [], [], _ :: _, _, _, _, h => h.elim
  | _ :: _, _ :: _, [], _, _, _, h => h.elim
theorem post_law {H : Type} {enc : TypeId × Value → H} {P : Program} {f : Func} {s : ChangeSpec} {W W' : World} {args : Array Value} {ds gs : List (DataW H)} {before : List MemPlace} {tb : TypeId}
    (hl : laidOutB P = true) (hp : (f.params.all fun t => P.readableRec t && decide (t < P.types.size)) = true) (hrt : f.resultTypes = #[tb]) (htb : P.underlying tb = some .bool) (hvars : s.vars = [])
    (hW : DataW.Whole enc P f.params.toList s.vars false W args.toList ds gs before) (hs : ∀ ds' : List (DataW H), ds' = ds → (s.fn H ds').results = [.lit (.bool true)] ∧ (s.fn H ds').args = ds ∧ (s.fn H ds').vars = []) (hb : Up W W') :
    s.post enc P f false true false false W args (.bool true) W' := by
  have hlt := fun p hp => hW.lt (p := p) hp
  obtain ⟨p, q, hA, hV, rfl, hz, hn⟩ := id hW
  rw [hvars] at hV
  obtain ⟨rfl, rfl⟩ := trodVars_none hV
  obtain ⟨e1, e2, e3⟩ := hs (ds ++ []) (by simp)
  refine ⟨ds, [], p ++ [], [], p, [], hW, ?_, ?_, ?_, ?_, fun h => by cases h⟩
  · rw [e1, hrt]
    exact trodAll_mk1 (shut_bool htb true)
  · rw [e2]
    refine trodAll_up hl hb _ _ _ _ (fun t ht => ?_) (fun x hx => hlt x (by simpa using hx)) hA
    have := Array.all_eq_true_iff_forall_mem.1 hp t (by simpa using ht)
    simpa using this
  · rw [e3, hvars]
    rfl
  · exact hb.frame _
end Go.Proofs.YtekogcjdaolcbaaGreatDoor

/- Arguments that are slices of bytes, and a string repeated. Conditions: as each says. -/
namespace Go.Proofs.YtekogcjdaolcbaaGreatDoor
open Go.ChangeShapes Go.WideShapes Go.ChangeAt Go.RowKit Go.Joins
open Go.ChangeMaps (open_string shut_string)
theorem open_argU {H : Type} {enc : TypeId × Value → H} {W : World} {fuel : Nat} {a0 : Option Addr} {len cap : Nat} {d : DataW H} {p : List MemPlace}
    (h : DataW.trod enc Tryz.prog W 0 (fun _ => true) true fuel 22 [.slice a0 len cap] = some (d, p)) (hlt : ∀ x ∈ p, x.block < W.heap.size) : ∃ l, ArgU W (.slice a0 len cap) l := by
  rcases open_ints Tryz.underlying22 Tryz.underlying5 (by kernel_rfl) h with ⟨hcs, hx⟩ | ⟨a, len', cap', zs, hcs, _, hl, hm, hz, hx, hcell, hwz⟩
  · simp only [List.cons.injEq, and_true] at hcs
    cases hcs
    exact ⟨[], none, 0, rfl, Nat.le_refl _, by unfold maxLen; omega, fun h => absurd h (Nat.lt_irrefl _)⟩
  · simp only [List.cons.injEq, and_true] at hcs
    cases hcs
    simp only [Prod.mk.injEq] at hx
    obtain ⟨rfl, rfl⟩ := hx
    simp only [if_true] at hz
    have hlen : ((zs.take len).map fun n => UInt8.ofNat n.toNat).length = len := by simp; omega
    refine ⟨(zs.take len).map fun n => UInt8.ofNat n.toNat, some a, cap, by rw [hlen], by rw [hlen]; exact hl, hm, fun hp => ?_⟩
    rw [hlen] at hp
    obtain ⟨b, off, spot⟩ := a
    have hspot : spot = none := by simpa [Addr.add] using World.cell?_spot (hcell 0 (by omega))
    subst hspot
    refine ⟨b, off, rfl, hlt (.cell b off) (by simp only [MemPlace.row, List.mem_map, List.mem_range]; exact ⟨0, by omega, rfl⟩), fun i x hi => ?_⟩
    have hil : i < len := by
      have := (List.getElem?_eq_some_iff.1 hi).1
      rw [hlen] at this; exact this
    have hcj := hcell i (by omega)
    rw [Addr.add_lit] at hcj
    rw [hcj]
    have hb := range_u8 hwz i
    have e : zs.getD i 0 = zs[i]'(by omega) := by simp [List.getD, List.getElem?_eq_getElem (show i < zs.length by omega)]
    rw [List.getD_eq_getElem?_getD] at e ⊢
    rw [e] at hb ⊢
    have hx : x = UInt8.ofNat (zs[i]'(by omega)).toNat := by
      have : i < zs.length := by omega
      simp [List.getElem?_take, hil, this] at hi
      exact hi.symm
    rw [hx]
    congr 2
    simp only [UInt8.toNat_ofNat']
    omega
end Go.Proofs.YtekogcjdaolcbaaGreatDoor

/- Walks of the laws' soKnown and soWriters at writers that are the same, and of soCut. Conditions: the pairs can be read. -/
namespace Go.Proofs.YtekogcjdaolcbaaGreatDoor
open Go Go.RowKit
def RelSk (k : KnD) (v v' : Value) (w : World) (i : Value) (wr : World) : Prop := ∃ j : Nat, j ≤ k.ps.length ∧ i = .int .i64 j ∧ Up w wr ∧ KnAt w.heap.size k v wr ∧ KnAt (w.heap.size + 1) k v' wr
set_option maxRecDepth 100000 in
set_option maxHeartbeats 4000000 in
theorem soKnown_same (k : KnD) (v v' : Value) (lo lo' : Nat) (w : World) (hr : RdP lo w v k.ps) (hr' : RdP lo' w v' k.ps) :
    Calls Tryz.prog 48  #[kV k v, kV k v'] w (Same (.bool true) w) := by
  obtain ⟨a, cap, rfl, hc1, hc2, hc3, hsome⟩ := hr
  obtain ⟨a', cap', rfl, hc1', hc2', hc3', hsome'⟩ := hr'
  unfold maxLen at hc2 hc2'
  have hX0 : KnAt w.heap.size k (.slice a k.ps.length cap) ((w.alloc (.cells #[.int .i64 k.set.ord, .int .i64 k.set.lit, .int .i64 k.set.most, .slice a k.ps.length cap, .int .i64 k.base, .int .i64 k.last] 27)).alloc (.cells #[.int .i64 k.set.ord, .int .i64 k.set.lit, .int .i64 k.set.most, .slice a' k.ps.length cap', .int .i64 k.base, .int .i64 k.last] 27)) := box_up ((Up.refl _).alloc _) (MapKept.heap_alloc w _).1
  have hX1 : KnAt (w.heap.size + 1) k (.slice a' k.ps.length cap') ((w.alloc (.cells #[.int .i64 k.set.ord, .int .i64 k.set.lit, .int .i64 k.set.most, .slice a k.ps.length cap, .int .i64 k.base, .int .i64 k.last] 27)).alloc (.cells #[.int .i64 k.set.ord, .int .i64 k.set.lit, .int .i64 k.set.most, .slice a' k.ps.length cap', .int .i64 k.base, .int .i64 k.last] 27)) := alloc2 w _ _
  have hU0 : Up w ((w.alloc (.cells #[.int .i64 k.set.ord, .int .i64 k.set.lit, .int .i64 k.set.most, .slice a k.ps.length cap, .int .i64 k.base, .int .i64 k.last] 27)).alloc (.cells #[.int .i64 k.set.ord, .int .i64 k.set.lit, .int .i64 k.set.most, .slice a' k.ps.length cap', .int .i64 k.base, .int .i64 k.last] 27)) := by (repeat (first | with_reducible exact Up.refl _ | with_reducible assumption | with_reducible refine Up.set ?_ (by first | exact Nat.le_refl _ | (simp only []; omega) | (simp; omega)) _ | with_reducible refine Up.alloc ?_ _ | with_reducible refine Up.drew ?_ | refine Up.trans ?_ (by with_reducible assumption)))
  simp only [kV]
  go_enter Tryz.func48, Tryz.ntmps48
  go_wp2_with fail
  go_loopw [5] (fun i wr => RelSk k (.slice a k.ps.length cap) (.slice a' k.ps.length cap') w i wr) (fun i _ => k.ps.length - (intOf i).toNat)
  case atStart => exact ⟨0, Nat.zero_le _, rfl, hU0, hX0, hX1⟩
  case round =>
    clear hX0 hX1 hU0
    obtain ⟨j, hj, rfl, hup, hkn, hkn'⟩ := hrel
    obtain ⟨b0, r0, r1, r2, r3, r4, r5⟩ := hkn.cells
    obtain ⟨b1, s0, s1, s2, s3, s4, s5⟩ := hkn'.cells
    have HK := Lib.hid (And.intro hkn hkn')
    clear hkn hkn'
    by_cases hlt : j < k.ps.length
    · obtain ⟨b, off, rfl, hlo, hbl, hcells⟩ := hsome (by omega)
      obtain ⟨b', off', rfl, hlo', hbl', hcells'⟩ := hsome' (by omega)
      obtain ⟨q0, q1⟩ := hcells j k.ps[j] (List.getElem?_eq_getElem hlt)
      obtain ⟨t0, t1⟩ := hcells' j k.ps[j] (List.getElem?_eq_getElem hlt)
      clear hcells hcells'
      have p0 := (hup.cell (p := ⟨b, off + j * 2, none⟩) hbl).trans q0
      have p1 := (hup.cell (p := ⟨b, off + j * 2 + 1, none⟩) hbl).trans q1
      have u0 := (hup.cell (p := ⟨b', off' + j * 2, none⟩) hbl').trans t0
      have u1 := (hup.cell (p := ⟨b', off' + j * 2 + 1, none⟩) hbl').trans t1
      go_wp2_with fail
      go_region
      go_wp2_with fail
      go_roundw
      case rel => exact ⟨j + 1, by omega, by go_num, by (repeat (first | with_reducible exact Up.refl _ | with_reducible assumption | with_reducible refine Up.set ?_ (by first | exact Nat.le_refl _ | (simp only []; omega) | (simp; omega)) _ | with_reducible refine Up.alloc ?_ _ | with_reducible refine Up.drew ?_ | refine Up.trans ?_ (by with_reducible assumption))), HK.out.1, HK.out.2⟩
      case measure => simp [intOf]; omega
    · have e : j = k.ps.length := by omega
      subst e
      go_wp2_with fail
      go_ret
      exact ⟨rfl, hup⟩
set_option maxRecDepth 100000 in
set_option maxHeartbeats 4000000 in
theorem soWriters_same (x : WrD) (v v' : Value) (lo lo' : Nat) (w : World) (hr : RdP lo w v x.k.ps) (hr' : RdP lo' w v' x.k.ps) :
    Calls Tryz.prog 9  #[wrV x v, wrV x v'] w (Same (.bool true) w) := by
  have cK := fun wq h1 h2 => soKnown_same x.k v v' lo lo' wq h1 h2
  have hrt := fun (wq : World) (hu : Up w wq) => hr.up hu
  have hrt' := fun (wq : World) (hu : Up w wq) => hr'.up hu
  obtain ⟨a, cap, rfl, -⟩ := id hr
  obtain ⟨a', cap', rfl, -⟩ := id hr'
  clear hr hr'
  have hX0 := WrAt.up (show WrAt w.heap.size x (.slice a x.k.ps.length cap) _ from (MapKept.heap_alloc w (.cells #[.int .i64 x.k.set.ord, .int .i64 x.k.set.lit, .int .i64 x.k.set.most, .slice a x.k.ps.length cap, .int .i64 x.k.base, .int .i64 x.k.last, .string (bs x.pend), .string (bs x.bits), .bool x.beg] 29)).1) ((Up.refl _).alloc (.cells #[.int .i64 x.k.set.ord, .int .i64 x.k.set.lit, .int .i64 x.k.set.most, .slice a' x.k.ps.length cap', .int .i64 x.k.base, .int .i64 x.k.last, .string (bs x.pend), .string (bs x.bits), .bool x.beg] 29))
  have hX1 : WrAt (w.heap.size + 1) x (.slice a' x.k.ps.length cap') _ := alloc2 w (.cells #[.int .i64 x.k.set.ord, .int .i64 x.k.set.lit, .int .i64 x.k.set.most, .slice a x.k.ps.length cap, .int .i64 x.k.base, .int .i64 x.k.last, .string (bs x.pend), .string (bs x.bits), .bool x.beg] 29) (.cells #[.int .i64 x.k.set.ord, .int .i64 x.k.set.lit, .int .i64 x.k.set.most, .slice a' x.k.ps.length cap', .int .i64 x.k.base, .int .i64 x.k.last, .string (bs x.pend), .string (bs x.bits), .bool x.beg] 29)
  unfold wrV at *
  simp only [kV] at cK
  go_enter Tryz.func9, Tryz.ntmps9
  go_wp2_with (first | ((go_at_call 48; (with_reducible refine (cK _ (hrt _ (by (repeat (first | with_reducible exact Up.refl _ | with_reducible assumption | with_reducible refine Up.set ?_ (by first | exact Nat.le_refl _ | (simp only []; omega) | (simp; omega)) _ | with_reducible refine Up.alloc ?_ _ | with_reducible refine Up.drew ?_ | refine Up.trans ?_ (by with_reducible assumption))))) (hrt' _ (by (repeat (first | with_reducible exact Up.refl _ | with_reducible assumption | with_reducible refine Up.set ?_ (by first | exact Nat.le_refl _ | (simp only []; omega) | (simp; omega)) _ | with_reducible refine Up.alloc ?_ _ | with_reducible refine Up.drew ?_ | refine Up.trans ?_ (by with_reducible assumption)))))).mono ?_); rintro e w1 ⟨rfl, U1⟩; have B1 := bcell U1; have Z1 := U1.size; (try simp at Z1); (try rw [Nat.add_one_le_iff] at Z1)); obtain ⟨b0, r0, r1, r2, r3, r4, r5, r6, r7, r8⟩ := (hX0.up U1).cells; obtain ⟨b1, s0, s1, s2, s3, s4, s5, s6, s7, s8⟩ := (hX1.up U1).cells) | fail)
  go_ret
  refine ⟨rfl, ?_⟩
  (repeat (first | with_reducible exact Up.refl _ | with_reducible assumption | with_reducible refine Up.set ?_ (by first | exact Nat.le_refl _ | (simp only []; omega) | (simp; omega)) _ | with_reducible refine Up.alloc ?_ _ | with_reducible refine Up.drew ?_ | refine Up.trans ?_ (by with_reducible assumption)))
end Go.Proofs.YtekogcjdaolcbaaGreatDoor

/- Plain: a valid writer's data written in parts. No program in sight. -/
namespace Go.Proofs.YtekogcjdaolcbaaGreatDoor
open Go Go.RowKit
theorem wd_ok {x : WrD} {d : List UInt8} (h : (wrvB x && fitsB x.k.set (x.pend ++ d)) = true) : wrOk x ∧ (∀ b ∈ d, b.toNat < clr x.k.set) ∧ x.pend.length + d.length ≤ 2000 := by
  obtain ⟨h1, h2⟩ := Bool.and_eq_true_iff.1 h
  obtain ⟨-, h3, h4⟩ := fitsB_lits h2
  rw [List.length_append] at h3
  exact ⟨wrvB_ok h1, fun b hb => h4 b (List.mem_append_right _ hb), h3⟩
theorem write_len {x : WrD} {d : List UInt8} (hx : wrOk x) (hl : ∀ b ∈ d, b.toNat < clr x.k.set) (hn : x.pend.length + d.length ≤ 2000) : (x.write d).2.length ≤ 41000 := by
  unfold WrD.write
  split
  · exact Nat.zero_le _
  · rename_i h
    have hs := (WlD.outs _ _ _ _ (WlD.start hx h hl (by rw [List.length_append]; omega))).2
    show (packL _ _).length ≤ 41000
    rw [packL_length, List.length_take]
    have hs' : (x.all d).length ≤ 41000 := hs
    omega
theorem write_end {x : WrD} {d : List UInt8} (hx : wrOk x) (hl : ∀ b ∈ d, b.toNat < clr x.k.set) (hn : x.pend.length + d.length ≤ 2000) : wrOk (x.write d).1 ∧ (x.write d).1.k.set = x.k.set ∧ (x.write d).1.pend.length ≤ x.pend.length + d.length := by
  obtain ⟨h1, h2, -, p, hp⟩ := wrOk_write hx hl (by rw [List.length_append]; omega)
  refine ⟨h1, h2, ?_⟩
  have := congrArg List.length hp
  rw [List.length_append, List.length_append] at this
  omega
theorem wdP_no {w w' : World} {e : Ending} (h : WdPost none w e w') : e = .returned (.tuple #[noWr, .string ⟨#[]⟩, .bool false]) ∧ Up w w' := h
theorem wdP_yes {y : WrD} {b : List UInt8} {w w' : World} {e : Ending} (h : WdPost (some (y, b)) w e w') : ∃ v, e = .returned (.tuple #[wrV y v, .string (bs b), .bool true]) ∧ ownPr w' w.heap.size v y.k.ps ∧ Up w w' := h
end Go.Proofs.YtekogcjdaolcbaaGreatDoor

/- Walks of the program's CloseWriter and LongestWord. Conditions: the pairs can be read. -/
namespace Go.Proofs.YtekogcjdaolcbaaGreatDoor
open Go Go.RowKit
theorem wcO_none {x : WrD} (h : wrvB x = false) : wcO x = none := by unfold wcO; rw [h]; rfl
theorem wcO_some {x : WrD} (h : wrvB x = true) : wcO x = some x.close := by unfold wcO; rw [h]; rfl
theorem optS_no : optS none = .tuple #[.string ⟨#[]⟩, .bool false] := rfl
theorem close_nil {x : WrD} (h : x.pend = []) : x.close = packL x.k.set.ord (x.open.1 ++ codeL x.k.set.ord (clr x.k.set + 1) x.open.2.width) := by
  unfold WrD.close
  rw [if_pos h, List.nil_append]
  show packL _ (_ ++ (codeL _ ((x.k.c : Int) + 1).toNat _ ++ [])) = _
  rw [List.append_nil]
  rfl
theorem close_word {x : WrD} {n : Nat} (h : x.pend ≠ []) (ho : x.open = (x.bits, x.k)) (hn : x.k.find x.pend = n) (hth : x.k.thru n = x.k.after n) : x.close = packL x.k.set.ord ((x.bits ++ codeL x.k.set.ord n x.k.width) ++ codeL x.k.set.ord (clr x.k.set + 1) (x.k.after n).width) := by
  unfold WrD.close
  rw [if_neg h, ho]
  dsimp only
  rw [hn]
  show packL _ (_ ++ (codeL _ (n : Int).toNat _ ++ (codeL _ ((x.k.c : Int) + 1).toNat (x.k.thru n).width ++ []))) = _
  rw [List.append_nil, hth, Int.toNat_natCast, List.append_assoc]
  rfl
set_option maxRecDepth 100000 in
set_option maxHeartbeats 16000000 in
theorem wcI_any (x : WrD) (v : Value) (lo : Nat) (w : World) (hl : -9223372036854775808 ≤ x.k.set.lit ∧ x.k.set.lit ≤ 9223372036854775807) (hr : RdP lo w v x.k.ps) (hps : x.k.ps.length ≤ 1048576) (hp : x.pend.length ≤ 1048576) (hb : x.bits.length ≤ 1048576) :
    Calls Tryz.prog 12  #[wrV x v] w (Same (optS (wcO x)) w) := by
  have cV := fun wq hr => wvI_any x v lo wq hl hr (by omega) (by omega) (by omega)
  have hrt := fun (wq : World) (hu : Up w wq) => hr.up hu
  cases hok : wrvB x
  · rw [wcO_none hok, optS_no]
    rw [hok] at cV
    obtain ⟨a, cap, rfl, -, -, -, -⟩ := id hr
    clear hr hok
    unfold wrV at *
    go_enter Tryz.func12, Tryz.ntmps12
    go_wp2_with (first | (go_at_call 15; (with_reducible refine (cV _ (hrt _ (by (repeat (first | with_reducible exact Up.refl _ | with_reducible assumption | with_reducible refine Up.set ?_ (by first | exact Nat.le_refl _ | (simp only []; omega) | (simp; omega)) _ | with_reducible refine Up.alloc ?_ _ | with_reducible refine Up.drew ?_ | refine Up.trans ?_ (by with_reducible assumption)))))).mono ?_); rintro e w1 ⟨rfl, U1⟩; have B1 := bcell U1; have Z1 := U1.size; (try simp at Z1); (try rw [Nat.add_one_le_iff] at Z1)) | fail)
    go_ret2
    refine ⟨rfl, ?_⟩
    (repeat (first | with_reducible exact Up.refl _ | with_reducible assumption | with_reducible refine Up.set ?_ (by first | exact Nat.le_refl _ | (simp only []; omega) | (simp; omega)) _ | with_reducible refine Up.alloc ?_ _ | with_reducible refine Up.drew ?_ | refine Up.trans ?_ (by with_reducible assumption)))
  · rw [wcO_some hok]
    rw [hok] at cV
    have hwo := wrvB_ok hok
    have hk := hwo.1
    have hb7 := hwo.2.2.2.2.2.1
    have hbit := hwo.2.2.2.2.1
    have hp2 := hwo.2.2.2.1
    have cO := fun wq hr => coderOf_any x v lo wq hk hr (by omega)
    have cE := fun wq => endI_any x.k.set wq hk.set
    have ho := (setOk_bd hk.set).1
    have hcb := (clr_bd hk.set).2.1
    have hsp := bs_size x.pend
    obtain ⟨hob1, hob2⟩ := open_len hwo
    obtain ⟨hok1, hos1⟩ := WrD.open_ok hk
    unfold optS
    simp only [Option.getD_some, Option.isSome_some]
    obtain ⟨a, cap, rfl, -, -, -, -⟩ := id hr
    by_cases hpe : x.pend = []
    · have HC := Lib.hid (close_nil hpe)
      have hw9 := KnD.width_bd hok1
      have cWe := fun (a0 : World) cb wx hx => write_any a0 cb x.open.2 x.open.1 (clr x.k.set + 1) wx hx hok1 (by omega) (by omega) (.inl (by unfold KnD.c; rw [hos1]; omega))
      have hth : x.open.2.thru ((clr x.k.set + 1 : Nat) : Int) = x.open.2 := by
        unfold KnD.thru
        rw [if_pos (by unfold KnD.c; rw [hos1]; omega)]
      rw [hth, hos1, show ((clr x.k.set + 1 : Nat) : Int) = (clr x.k.set : Int) + 1 from by omega] at cWe
      rw [HC.out]
      have hbits : isBits (x.open.1 ++ codeL x.k.set.ord (clr x.k.set + 1) x.open.2.width) := hob2.app (isBits_code _ _ _)
      have hbl : (x.open.1 ++ codeL x.k.set.ord (clr x.k.set + 1) x.open.2.width).length ≤ 100 := by rw [List.length_append, codeL_length]; omega
      generalize x.open.1 ++ codeL x.k.set.ord (clr x.k.set + 1) x.open.2.width = b9 at *
      have cPk := fun wq => packI_any x.k.set.ord (bs b9) wq ho (by rw [bs_data]; exact hbits) (by rw [bs_size]; omega)
      rw [bs_data] at cPk
      have HPE : Hid (bs x.pend = ⟨#[]⟩) := by unfold Hid; rw [hpe]; rfl
      clear hok hwo hk hth hr hpe HC hob2 hbit hok1
      unfold wrV at *
      simp only [setV] at cE
      go_enter Tryz.func12, Tryz.ntmps12
      go_wp2_with (first | (go_at_call 15; (with_reducible refine (cV _ (hrt _ (by (repeat (first | with_reducible exact Up.refl _ | with_reducible assumption | with_reducible refine Up.set ?_ (by first | exact Nat.le_refl _ | (simp only []; omega) | (simp; omega)) _ | with_reducible refine Up.alloc ?_ _ | with_reducible refine Up.drew ?_ | refine Up.trans ?_ (by with_reducible assumption)))))).mono ?_); rintro e w1 ⟨rfl, U1⟩; have B1 := bcell U1; have Z1 := U1.size; (try simp at Z1); (try rw [Nat.add_one_le_iff] at Z1)) | fail)
      with_reducible refine (cO _ (hrt _ (by (repeat (first | with_reducible exact Up.refl _ | with_reducible assumption | with_reducible refine Up.set ?_ (by first | exact Nat.le_refl _ | (simp only []; omega) | (simp; omega)) _ | with_reducible refine Up.alloc ?_ _ | with_reducible refine Up.drew ?_ | refine Up.trans ?_ (by with_reducible assumption)))))).mono ?_
      rintro e w2 ⟨cb, rfl, hC⟩
      have U2 := hC.1
      have hX : WrAt w.heap.size x (.slice a x.k.ps.length cap) w2 := box_up (U1.trans U2) (MapKept.heap_alloc w _).1
      have HX := Lib.hid (show WrAt w.heap.size x (.slice a x.k.ps.length cap) w1 from box_up U1 (MapKept.heap_alloc w _).1)
      have HU1 := Lib.hid (show Up w w1 by (repeat (first | with_reducible exact Up.refl _ | with_reducible assumption | with_reducible refine Up.set ?_ (by first | exact Nat.le_refl _ | (simp only []; omega) | (simp; omega)) _ | with_reducible refine Up.alloc ?_ _ | with_reducible refine Up.drew ?_ | refine Up.trans ?_ (by with_reducible assumption))))
      obtain ⟨hbx, r0, r1, r2, r3, r4, r5, r6, r7, r8⟩ := hX.cells
      have HC := Lib.hid hC
      have HU := Lib.hid (show Up w w2 by (repeat (first | with_reducible exact Up.refl _ | with_reducible assumption | with_reducible refine Up.set ?_ (by first | exact Nat.le_refl _ | (simp only []; omega) | (simp; omega)) _ | with_reducible refine Up.alloc ?_ _ | with_reducible refine Up.drew ?_ | refine Up.trans ?_ (by with_reducible assumption))))
      clear hX hC U2 U1 B1 Z1
      rw [HPE.out] at r6
      go_wp2_with (first | (go_at_call 58; (with_reducible refine (cE _).mono ?_); rintro e w3 ⟨rfl, U3⟩; have B3 := bcell U3; have Z3 := U3.size; (try simp at Z3); (try rw [Nat.add_one_le_iff] at Z3)) | fail)
      with_reducible refine (cWe w1 cb _ (HC.out.up U3)).mono ?_
      rintro e w4 ⟨⟨v4, rfl⟩, hC4⟩
      obtain ⟨hU4, tb, vp, vn, vi, vb, hA⟩ := hC4
      obtain ⟨gv, cv, hvb⟩ := hA.own.shape
      subst hvb
      have HA := Lib.hid hA
      have HX4 := Lib.hid (And.intro (HX.out.up hU4) (HU1.out.trans hU4))
      clear hA hU4 HC HU U3 B3 Z3 r0 r1 r2 r3 r4 r5 r6 r7 r8 hbx cWe cO
      go_wp2_with fail
      refine wp_region_up 10 (by kernel_rfl) (by kernel_rfl) ?_
      simp only [List.take, List.drop]
      repeat (refine wpUp_step (fun K hK => ?_); go_simp; (try simp only [↓IntWalk.iteOmega]); first
        | (refine hK _ _ ?_; clear hK K)
        | (apply stepU_c
           · intro wq hwq; (have hbq := bcell hwq; (repeat (first | refine fills_no (by rfl) ?_ | refine fills_yes (by rfl) (fun vq hvq => ?_))); simp only [List.filter_nil, fills]; unfold upAt; (try ((have d1 := box_cell (HA.out.up hwq).box 1; simp at d1; obtain ⟨-, r0, r1, r2, r3, r4, r5, r6, r7, r8⟩ := (HX4.out.1.up hwq).cells; have hconv := conv_M (m := b9.length) (c := cv) (HA.out.up hwq).own (Nat.le_refl _); rw [List.take_length] at hconv))); go_simp; (try go_bits); (try simp only [↓IntWalk.iteOmega]); (try (rw [dif_pos (by omega)]; go_simp; try go_bits)); first | exact upOut_value | (apply upOut_call; (go_at_call 41; exact cPk _)) | (apply upOut_eq; (go_at_call 41; exact cPk _)))
           go_simp; refine hK _ _ ?_; clear hK K))
      refine wpUp_nil (fun wq hwq => ?_)
      simp only [fills]
      go_wp2
      go_ret2
      exact ⟨rfl, HX4.out.2.trans hwq⟩
    · have HPE := isEmpty_bs hpe
      have hpos := List.length_pos_iff.2 hpe
      have hbeg : x.beg = true := by
        cases h : x.beg
        · exact absurd (hwo.2.2.2.2.2.2.2 h).1 hpe
        · rfl
      have hopen : x.open = (x.bits, x.k) := by unfold WrD.open; rw [hbeg]; rfl
      have hlg : x.k.longest x.pend = x.pend := (hwo.2.2.2.2.2.2.1).resolve_left hpe
      have hlit := hwo.2.2.1
      obtain ⟨hfw, -⟩ := KnD.find_any hk hpe hlit
      rw [hlg] at hfw
      have hfb := KnD.find_bd hk hfw
      have hne := KnD.fol_ne hk hfw
      obtain ⟨n, hn⟩ := Int.eq_ofNat_of_zero_le hfb.1
      have hth := KnD.thru_fol hk hfw
      have hka := KnD.after_ok hk hfw
      have hwd := KnD.width_bd hk
      have hwa := KnD.width_bd hka
      have cC := fun B tb vp vn vi wq hT => codeOf_any B tb x.k vp vn vi (bs x.pend) wq hT hk (by rw [bs_size]; exact hpos) (by rw [bs_size]; omega) (by rw [bs_data]; exact hlit)
      rw [bs_data] at cC
      simp only [hlg, if_true] at cC
      rw [hn] at hth hne hka hwa hfw cC hfb
      have HC := Lib.hid (close_word hpe hopen hn hth)
      rw [HC.out]
      rw [hopen] at cO
      have hs9 : (x.k.after n).set = x.k.set := rfl
      have cWn := fun (a0 : World) cb wx hx => write_any a0 cb x.k x.bits n wx hx hk (by omega) (by omega) (.inr (.inr ⟨hne.1, hne.2, hfw⟩))
      rw [hth] at cWn
      have hbl : (x.bits ++ codeL x.k.set.ord n x.k.width).length ≤ 100 := by rw [List.length_append, codeL_length]; omega
      have hbits : isBits (x.bits ++ codeL x.k.set.ord n x.k.width) := hbit.app (isBits_code _ _ _)
      generalize x.bits ++ codeL x.k.set.ord n x.k.width = b8 at *
      generalize x.k.after n = k9 at *
      have cWe := fun (a0 : World) cb wx hx => write_any a0 cb k9 b8 (clr x.k.set + 1) wx hx hka (by omega) (by omega) (.inl (by unfold KnD.c; rw [hs9]; omega))
      have hth9 : k9.thru ((clr x.k.set + 1 : Nat) : Int) = k9 := by
        unfold KnD.thru
        rw [if_pos (by unfold KnD.c; rw [hs9]; omega)]
      rw [hth9, hs9, show ((clr x.k.set + 1 : Nat) : Int) = (clr x.k.set : Int) + 1 from by omega] at cWe
      have hbits9 : isBits (b8 ++ codeL x.k.set.ord (clr x.k.set + 1) k9.width) := hbits.app (isBits_code _ _ _)
      have hbl9 : (b8 ++ codeL x.k.set.ord (clr x.k.set + 1) k9.width).length ≤ 200 := by rw [List.length_append, codeL_length]; omega
      generalize b8 ++ codeL x.k.set.ord (clr x.k.set + 1) k9.width = b9 at *
      have cPk := fun wq => packI_any x.k.set.ord (bs b9) wq ho (by rw [bs_data]; exact hbits9) (by rw [bs_size]; omega)
      rw [bs_data] at cPk
      clear hok hwo hk hth hr hpe HC hob2 hbit hok1 hlg hlit hfw hne hn hka hs9 hth9 hbeg hopen
      unfold wrV at *
      simp only [setV] at cE
      go_enter Tryz.func12, Tryz.ntmps12
      go_wp2_with (first | (go_at_call 15; (with_reducible refine (cV _ (hrt _ (by (repeat (first | with_reducible exact Up.refl _ | with_reducible assumption | with_reducible refine Up.set ?_ (by first | exact Nat.le_refl _ | (simp only []; omega) | (simp; omega)) _ | with_reducible refine Up.alloc ?_ _ | with_reducible refine Up.drew ?_ | refine Up.trans ?_ (by with_reducible assumption)))))).mono ?_); rintro e w1 ⟨rfl, U1⟩; have B1 := bcell U1; have Z1 := U1.size; (try simp at Z1); (try rw [Nat.add_one_le_iff] at Z1)) | fail)
      with_reducible refine (cO _ (hrt _ (by (repeat (first | with_reducible exact Up.refl _ | with_reducible assumption | with_reducible refine Up.set ?_ (by first | exact Nat.le_refl _ | (simp only []; omega) | (simp; omega)) _ | with_reducible refine Up.alloc ?_ _ | with_reducible refine Up.drew ?_ | refine Up.trans ?_ (by with_reducible assumption)))))).mono ?_
      rintro e w2 ⟨cb, rfl, hC⟩
      have U2 := hC.1
      have hX : WrAt w.heap.size x (.slice a x.k.ps.length cap) w2 := box_up (U1.trans U2) (MapKept.heap_alloc w _).1
      have HX := Lib.hid (show WrAt w.heap.size x (.slice a x.k.ps.length cap) w1 from box_up U1 (MapKept.heap_alloc w _).1)
      have HU1 := Lib.hid (show Up w w1 by (repeat (first | with_reducible exact Up.refl _ | with_reducible assumption | with_reducible refine Up.set ?_ (by first | exact Nat.le_refl _ | (simp only []; omega) | (simp; omega)) _ | with_reducible refine Up.alloc ?_ _ | with_reducible refine Up.drew ?_ | refine Up.trans ?_ (by with_reducible assumption))))
      obtain ⟨hbx, r0, r1, r2, r3, r4, r5, r6, r7, r8⟩ := hX.cells
      have HC := Lib.hid hC
      clear hX hC U2 U1 B1 Z1
      go_wp2_with fail
      obtain ⟨hU2, tb2, vp2, vn2, vi2, vb2, hA2⟩ := id HC.out
      have HA2 := Lib.hid hA2
      have HXX := Lib.hid (HX.out.up hU2)
      clear hA2 hU2
      refine wp_region_up 11 (by kernel_rfl) (by kernel_rfl) ?_
      simp only [List.take, List.drop]
      repeat (refine wpUp_step (fun K hK => ?_); go_simp; (try simp only [↓IntWalk.iteOmega]); first
        | (refine hK _ _ ?_; clear hK K)
        | (apply stepU_c
           · intro wq hwq; (have hbq := bcell hwq; (repeat (first | refine fills_no (by rfl) ?_ | refine fills_yes (by rfl) (fun vq hvq => ?_))); simp only [List.filter_nil, fills]; unfold upAt; (try ((have d0 := box_cell (HA2.out.up hwq).box 0; simp at d0; obtain ⟨-, r0, r1, r2, r3, r4, r5, r6, r7, r8⟩ := (HXX.out.up hwq).cells))); go_simp; (try go_bits); (try simp only [↓IntWalk.iteOmega]); (try (rw [dif_pos (by omega)]; go_simp; try go_bits)); first | exact upOut_value | (apply upOut_call; (go_at_call 57; exact cC _ _ _ _ _ _ (HA2.out.up hwq).tree)) | (apply upOut_eq; (go_at_call 57; exact cC _ _ _ _ _ _ (HA2.out.up hwq).tree)))
           go_simp; refine hK _ _ ?_; clear hK K))
      refine wpUp_nil (fun wq hwq => ?_)
      simp only [fills]
      go_wp2_with fail
      with_reducible refine (cWn w1 cb _ (HC.out.up hwq)).mono ?_
      rintro e w3 ⟨⟨v3, rfl⟩, hC3⟩
      have HC3 := Lib.hid hC3
      obtain ⟨hbx, r0, r1, r2, r3, r4, r5, r6, r7, r8⟩ := (HX.out.up hC3.1).cells
      clear hC3 HC HA2 HXX hwq
      go_wp2_with (first | (go_at_call 58; (with_reducible refine (cE _).mono ?_); rintro e w3 ⟨rfl, U3⟩; have B3 := bcell U3; have Z3 := U3.size; (try simp at Z3); (try rw [Nat.add_one_le_iff] at Z3)) | fail)
      with_reducible refine (cWe w1 cb _ (HC3.out.up U3)).mono ?_
      rintro e w4 ⟨⟨v4, rfl⟩, hC4⟩
      obtain ⟨hU4, tb, vp, vn, vi, vb, hA⟩ := hC4
      obtain ⟨gv, cv, hvb⟩ := hA.own.shape
      subst hvb
      have HA := Lib.hid hA
      have HX4 := Lib.hid (And.intro (HX.out.up hU4) (HU1.out.trans hU4))
      clear hA hU4 HC3 U3 B3 Z3 r0 r1 r2 r3 r4 r5 r6 r7 r8 hbx cWe cO
      go_wp2_with fail
      refine wp_region_up 10 (by kernel_rfl) (by kernel_rfl) ?_
      simp only [List.take, List.drop]
      repeat (refine wpUp_step (fun K hK => ?_); go_simp; (try simp only [↓IntWalk.iteOmega]); first
        | (refine hK _ _ ?_; clear hK K)
        | (apply stepU_c
           · intro wq hwq; (have hbq := bcell hwq; (repeat (first | refine fills_no (by rfl) ?_ | refine fills_yes (by rfl) (fun vq hvq => ?_))); simp only [List.filter_nil, fills]; unfold upAt; (try ((have d1 := box_cell (HA.out.up hwq).box 1; simp at d1; obtain ⟨-, r0, r1, r2, r3, r4, r5, r6, r7, r8⟩ := (HX4.out.1.up hwq).cells; have hconv := conv_M (m := b9.length) (c := cv) (HA.out.up hwq).own (Nat.le_refl _); rw [List.take_length] at hconv))); go_simp; (try go_bits); (try simp only [↓IntWalk.iteOmega]); (try (rw [dif_pos (by omega)]; go_simp; try go_bits)); first | exact upOut_value | (apply upOut_call; (go_at_call 41; exact cPk _)) | (apply upOut_eq; (go_at_call 41; exact cPk _)))
           go_simp; refine hK _ _ ?_; clear hK K))
      refine wpUp_nil (fun wq hwq => ?_)
      simp only [fills]
      go_wp2
      go_ret2
      exact ⟨rfl, HX4.out.2.trans hwq⟩
end Go.Proofs.YtekogcjdaolcbaaGreatDoor

/- Walks of the laws' own functions that copy places that came in. Conditions: they can be read, and are at most 2^20. -/
namespace Go.Proofs.YtekogcjdaolcbaaGreatDoor
open Go.RowKit
def ArgP (w : World) (v : Value) (ps : List PlaceD) : Prop := ∃ a cap, v = .slice a ps.length cap ∧ ps.length ≤ maxLen ∧ (0 < ps.length → ∃ b off, a = some ⟨b, off, none⟩ ∧ ps.length ≤ cap ∧ cap ≤ maxLen ∧ b < w.heap.size ∧ ∀ i p, ps[i]? = some p → w.cell? ⟨b, off + i * 2, none⟩ = some (.int .i64 p.place) ∧ w.cell? ⟨b, off + i * 2 + 1, none⟩ = some (.int .i64 p.start))
theorem ArgP.up {w w' : World} {v : Value} {ps : List PlaceD} (h : ArgP w v ps) (hu : Up w w') : ArgP w' v ps := by
  obtain ⟨a, cap, h1, h2, h3⟩ := h
  refine ⟨a, cap, h1, h2, fun hp => ?_⟩
  obtain ⟨b, off, e1, e2, e3, e4, e5⟩ := h3 hp
  exact ⟨b, off, e1, e2, e3, Nat.lt_of_lt_of_le e4 hu.size, fun i p hi => ⟨(hu.cell (p := ⟨b, _, none⟩) e4).trans (e5 i p hi).1, (hu.cell (p := ⟨b, _, none⟩) e4).trans (e5 i p hi).2⟩⟩
end Go.Proofs.YtekogcjdaolcbaaGreatDoor

