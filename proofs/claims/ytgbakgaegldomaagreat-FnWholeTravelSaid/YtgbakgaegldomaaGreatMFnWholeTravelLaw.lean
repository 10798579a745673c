/- A sealed stream is what a writer with the dictionary writes for the data in parts, a reader with it restores the data from any parts, and in the other order of bits the same codes are the stream of the other setting. Conditions: none. -/
import Derived.Test.YtgbakgaegldomaaGreatMFnWholeTravelLawA
import Derived.Test.YtgbakgaegldomaaGreatMFnWholeTravelLawB
import Derived.Test.YtgbakgaegldomaaGreatMFnWholeTravelLawC
import Derived.Test.YtgbakgaegldomaaGreatMFnWholeTravelLawD
import Derived.Test.YtgbakgaegldomaaGreatMFnWholeTravelLawE
import Derived.Test.YtgbakgaegldomaaGreatMFnWholeTravelLawF
import Derived.Test.YtgbakgaegldomaaGreatMFnWholeTravelLawG
import Derived.Test.YtgbakgaegldomaaGreatMFnWholeTravelLawH
import Derived.Test.YtgbakgaegldomaaGreatMFnWholeTravelLawI
import Derived.Test.YtgbakgaegldomaaGreatMFnWholeTravelLawJ
import Derived.Test.YtgbakgaegldomaaGreatMFnWholeTravelLawK
import Derived.Test.YtgbakgaegldomaaGreatMFnWholeTravelLawL
namespace Go.Proofs.YtgbakgaegldomaaGreat.lawFnWholeTravel
set_option linter.unusedVariables false
set_option linter.unusedSimpArgs false
open Go.ChangeShapes Go.WideShapes Go.ChangeAt Go.RowKit Go.Joins
open Go.ChangeMaps (open_string shut_string)

set_option maxRecDepth 100000 in
set_option maxHeartbeats 4000000 in
theorem drawSeal_any (v : Value) (l : List UInt8) (w : World) (h : ArgU w v l) :
    Calls Tryz.prog 16  #[v] w (fun e w' => ∃ v, e = .returned v ∧ isL4 v ∧ Up w w') := by
  have cO := fun w' hu => drawCompressWith_any v l w' (h.up (w' := w') hu)
  clear h
  go_enter Tryz.func16, Tryz.ntmps16
  go_wp2_with (go_at_call 54; (with_reducible refine (cO _ (by (repeat (first | with_reducible exact Up.refl _ | with_reducible assumption | with_reducible refine Up.set ?_ (by first | exact Nat.le_refl _ | (simp only []; omega) | (simp; omega)) _ | with_reducible refine Up.alloc ?_ _ | with_reducible refine Up.drew ?_ | refine Up.trans ?_ (by with_reducible assumption))))).mono ?_); rintro e w1 ⟨v1, rfl, ⟨s, dict, d, rfl, hs, hdi, hd⟩, U1⟩; simp only [setV]; have hRB : SetAt w.heap.size 0 0 0 w1 := box_up U1 (MapKept.heap_alloc w _).1; obtain ⟨hb0, q0, q1, q2⟩ := SetAt.cells hRB; have hfr := box_free hRB)
  (try simp only [Exit.inBlock, Exit.then])
  refine bodyPost_ret (v := .tuple #[setV s, .string dict, .string d]) (by simp [results, Tryz.results16, go_sem, q0, q1, q2, hb0]) rfl ⟨_, rfl, ⟨s, dict, d, rfl, hs, hdi, hd⟩, ?_⟩
  (repeat (first | with_reducible exact Up.refl _ | with_reducible assumption | with_reducible refine Up.set ?_ (by first | exact Nat.le_refl _ | (simp only []; omega) | (simp; omega)) _ | with_reducible refine Up.alloc ?_ _ | with_reducible refine Up.drew ?_ | refine Up.trans ?_ (by with_reducible assumption)))

/-- The parts that soCut gives. -/
def CutA (s : ByteArray) (u : Value) (w : World) : Prop := ∃ ps, ArgS w u ps ∧ ps.length = 3 ∧ joinL ps = s.data.toList ∧ ∀ t ∈ ps, t.size ≤ s.size
theorem cutA_closed {s : ByteArray} : ∀ u, UpClosed (CutA s u) := fun u w w' ⟨ps, h1, h2⟩ hu => ⟨ps, h1.up hu, h2⟩
theorem cut_arg {s : ByteArray} {w w' : World} {e : Ending} (hs : s.size ≤ 1048576) (h : CutP s w e w') : ∃ v, e = .returned v ∧ CutA s v w' ∧ Up w w' := by
  obtain ⟨g, i, j, rfl, h1, h2, h3, h4, h5, h6, h7, hu⟩ := h
  have hz : ∀ a b, (s.extract a b).size ≤ s.size := fun a b => by rw [ByteArray.size_extract]; omega
  have hs' : s.data.toList.length = s.size := rfl
  refine ⟨_, rfl, ⟨[s.extract 0 i, s.extract i j, s.extract j s.size], ⟨some ⟨g, 0, none⟩, 3, rfl, by unfold maxLen; simp, ?_, fun _ => ⟨g, 0, rfl, Nat.le_refl _, by unfold maxLen; omega, h4, ?_⟩⟩, rfl, ?_, ?_⟩, hu⟩
  · intro t ht
    simp only [List.mem_cons, List.not_mem_nil, or_false] at ht
    unfold maxLen
    rcases ht with rfl | rfl | rfl
    · have := hz 0 i; omega
    · have := hz i j; omega
    · have := hz j s.size; omega
  · intro q t hq
    match q, hq with
    | 0, hq => simp at hq; subst hq; exact h5
    | 1, hq => simp at hq; subst hq; exact h6
    | 2, hq => simp at hq; subst hq; exact h7
    | q + 3, hq => simp at hq
  · have e : ∀ a b, (s.extract a b).data.toList = (s.data.toList.drop a).take (b - a) := fun a b => by
      have := congrArg (fun t => t.data.toList) (bs_ext s.data.toList a b)
      simp only [bs_data, bs_self] at this
      exact this
    show ((s.extract 0 i).data.toList ++ ((s.extract i j).data.toList ++ ((s.extract j s.size).data.toList ++ []))) = _
    rw [e, e, e, List.append_nil, List.drop_zero, Nat.sub_zero, List.take_of_length_le (l := s.data.toList.drop j) (by rw [List.length_drop]; omega)]
    have e2 : (s.data.toList.drop i).take (j - i) ++ s.data.toList.drop j = s.data.toList.drop i := by
      have := List.take_append_drop (j - i) (s.data.toList.drop i)
      rw [List.drop_drop, show i + (j - i) = j from by omega] at this
      exact this
    rw [e2, List.take_append_drop]
  · intro t ht
    simp only [List.mem_cons, List.not_mem_nil, or_false] at ht
    rcases ht with rfl | rfl | rfl <;> exact hz _ _
theorem upOut_cut {f : FuncId} {args : Array Value} {w : World} {s : ByteArray} (hs : s.size ≤ 1048576) (h : Calls Tryz.prog f args w (CutP s w)) : upOut Tryz.prog (CutA s) w (.ok (.enter f args) w) :=
  ⟨rfl, h.mono fun e w' hP => by obtain ⟨v, he, hc, hu⟩ := cut_arg hs hP; exact ⟨v, he, hu, hc⟩⟩

set_option maxRecDepth 100000 in
set_option maxHeartbeats 16000000 in
theorem walk (vc vm : Value) (lc lm : List UInt8) (w : World) (hc : ArgU w vc lc) (hm : ArgU w vm lm) :
    Calls Tryz.prog 5  #[vc, vm] w (Same (.bool true) w) := by
  have cD := fun w' hu => drawSeal_any vc lc w' (hc.up (w' := w') hu)
  have hmu := fun (wq : World) (hu : Up w wq) => hm.up hu
  obtain ⟨ac, cc, rfl, hc1, hc2, -⟩ := hc
  obtain ⟨am, cm, rfl, hm1, hm2, -⟩ := id hm
  unfold maxLen at hc2 hm2
  by_cases h1 : 1048576 < lc.length ∨ 1048576 < lm.length
  · go_enter Tryz.func5, Tryz.ntmps5
    rcases Nat.lt_or_ge 1048576 lc.length with h2 | h2
    · go_wp2_with fail
      go_ret
      exact ⟨rfl, by (repeat (first | with_reducible exact Up.refl _ | with_reducible assumption | with_reducible refine Up.set ?_ (by first | exact Nat.le_refl _ | (simp only []; omega) | (simp; omega)) _ | with_reducible refine Up.alloc ?_ _ | with_reducible refine Up.drew ?_ | refine Up.trans ?_ (by with_reducible assumption)))⟩
    · have h3 : 1048576 < lm.length := by omega
      go_wp2_with fail
      go_ret
      exact ⟨rfl, by (repeat (first | with_reducible exact Up.refl _ | with_reducible assumption | with_reducible refine Up.set ?_ (by first | exact Nat.le_refl _ | (simp only []; omega) | (simp; omega)) _ | with_reducible refine Up.alloc ?_ _ | with_reducible refine Up.drew ?_ | refine Up.trans ?_ (by with_reducible assumption)))⟩
  obtain ⟨h2, h3⟩ : lc.length ≤ 1048576 ∧ lm.length ≤ 1048576 := by omega
  clear h1 hm
  have d1 : decide ((1048576 : Int) < (lc.length : Int)) = false := by simp; omega
  have d2 : decide ((1048576 : Int) < (lm.length : Int)) = false := by simp; omega
  go_enter Tryz.func5, Tryz.ntmps5
  go_wp2_with fail
  (with_reducible refine (cD _ (by (repeat (first | with_reducible exact Up.refl _ | with_reducible assumption | with_reducible refine Up.set ?_ (by first | exact Nat.le_refl _ | (simp only []; omega) | (simp; omega)) _ | with_reducible refine Up.alloc ?_ _ | with_reducible refine Up.drew ?_ | refine Up.trans ?_ (by with_reducible assumption))))).mono ?_); rintro e w1 ⟨v1, rfl, ⟨s, dict, d, rfl, hs, hdi, hd⟩, U1⟩
  simp only [setV]
  have hUw : Up w w1 := by (repeat (first | with_reducible exact Up.refl _ | with_reducible assumption | with_reducible refine Up.set ?_ (by first | exact Nat.le_refl _ | (simp only []; omega) | (simp; omega)) _ | with_reducible refine Up.alloc ?_ _ | with_reducible refine Up.drew ?_ | refine Up.trans ?_ (by with_reducible assumption)))
  have cI := fun wq => sealI_any s dict d wq hs (by omega) (by omega)
  have cS := fun wq => sealS_any s dict d wq (by omega) (by omega)
  clear cD U1
  simp only [setV] at cI cS
  go_wp2_with fail
  have hX := (MapKept.heap_alloc w1 (.cells #[.int .i64 s.ord, .int .i64 s.lit, .int .i64 s.most] 24)).1
  have hX : SetAt w1.heap.size s.ord s.lit s.most (w1.alloc (.cells #[.int .i64 s.ord, .int .i64 s.lit, .int .i64 s.most] 24)) := hX
  have hUw2 : Up w (w1.alloc (.cells #[.int .i64 s.ord, .int .i64 s.lit, .int .i64 s.most] 24)) := hUw.alloc _
  generalize (w1.alloc (.cells #[.int .i64 s.ord, .int .i64 s.lit, .int .i64 s.most] 24)) = W at *
  generalize w1.heap.size = b5 at *
  cases hf : (fitsB s dict.data.toList && fitsB s d.data.toList)
  · have hE : sealO s dict d = .tuple #[.string ByteArray.empty, .bool false] := by unfold sealO; rw [compW_no hf]
    rw [hE] at cI cS
    clear hf hE
    (with_reducible refine (cI _).mono ?_); rintro e w2 ⟨rfl, U2⟩
    have hX2 := box_up U2 hX
    obtain ⟨hbx, r0, r1, r2⟩ := SetAt.cells hX2
    go_wp2_with fail
    (with_reducible refine (cS _).mono ?_); rintro e w3 ⟨rfl, U3⟩
    go_wp2_with fail
    go_ret
    exact ⟨ret_bool (by simp; try rfl), (hUw2.trans U2).trans U3⟩
  · obtain ⟨hf1, hf2⟩ := Bool.and_eq_true_iff.1 hf
    obtain ⟨hsk, -, hl1⟩ := fitsB_lits hf1
    obtain ⟨-, hd2k, hl2⟩ := fitsB_lits hf2
    have hk : (learnK (startK s) dict.data.toList).Ok := learnK_ok (startK_ok hsk) hl1
    have hv : (learnK (startK s) dict.data.toList).vl := fun _ => rfl
    have hfk : fitsB (learnK (startK s) dict.data.toList).set d.data.toList = true := hf2
    have hov := (setOk_bd hsk).1
    have hov' : 1 - s.ord = 0 ∨ 1 - s.ord = 1 := by rcases hov with e | e <;> rw [e] <;> simp
    have h40 := compL_4000 hk hl2 hd2k
    have hdc := dec_comp hk hl2 hd2k h40
    have hE : sealO s dict d = .tuple #[.string (two (sumOf dict) ++ bs (compL (learnK (startK s) dict.data.toList) d.data.toList)), .bool true] := by unfold sealO; rw [compW_some hf1 hf2]
    have hOther := ord_compW (s := s) (d := d.data.toList) hov' hf1 hf2
    have hcmp : compG (learnK (startK s) dict.data.toList) d.data.toList = some (compL (learnK (startK s) dict.data.toList) d.data.toList) := compG_some (valid_of_ok hk hv) hfk
    have cT := fun wq => startWI_any s dict wq hs (by omega)
    rw [hf1] at cT
    simp only [if_true] at cT
    have hps := hk.nums.2.2.2.1
    have hki : -9223372036854775808 ≤ (learnK (startK s) dict.data.toList).set.lit ∧ (learnK (startK s) dict.data.toList).set.lit ≤ 9223372036854775807 := hs
    have cW := fun wq v u ps h h' hn hz => waI_any (learnK (startK s) dict.data.toList) v u 0 ps wq hki h (by omega) h' hn hz
    have cA := fun wq v u ps h h' hn hz => raI_any (learnK (startK s) dict.data.toList) v u 0 ps wq hk hv h h' hn hz
    have cR := fun wq v h => repackI_any (learnK (startK s) dict.data.toList) v 0 d.data.toList wq hk hv h hfk
    have cX := fun wq => compWI_any ⟨1 - s.ord, s.lit, s.most⟩ dict d wq hs (by omega) (by omega)
    rw [hOther] at cX
    have hlen := ord_compL_len (learnK (startK s) dict.data.toList) (1 - s.ord) d.data.toList
    have hso : (learnK (startK s) dict.data.toList).set = s := rfl
    rw [hso] at cR
    rw [hE] at cI cS
    unfold decK at hdc
    rw [if_pos h40] at hdc
    have hdc1 : (readS (learnK (startK s) dict.data.toList) (compL (learnK (startK s) dict.data.toList) d.data.toList)).data = d.data.toList := congrArg DecR.data hdc
    have hdc2 : (readS (learnK (startK s) dict.data.toList) (compL (learnK (startK s) dict.data.toList) d.data.toList)).fin = 0 := congrArg DecR.fin hdc
    have hdc3 : usedS (compL (learnK (startK s) dict.data.toList) d.data.toList) (readS (learnK (startK s) dict.data.toList) (compL (learnK (startK s) dict.data.toList) d.data.toList)) = (compL (learnK (startK s) dict.data.toList) d.data.toList).length := congrArg DecR.used hdc
    clear hE hOther hf hdc hfk hso
    generalize learnK (startK s) dict.data.toList = K at *
    have cW' : ∀ wq v u, RdP 0 wq v K.ps → CutA d u wq → Calls Tryz.prog 7  #[kV K v, u] wq (Same (.tuple #[.string (bs (compL K d.data.toList)), .bool true]) wq) := fun wq v u h ⟨ps, g1, g2, g3, g4⟩ => by
      have := cW wq v u ps h g1 (by omega) (fun t ht => by have := g4 t ht; omega)
      rw [waG_comp K ps (by rw [g3]; exact hd2k), g3, hcmp] at this
      exact this
    have cA' : ∀ wq v u, RdP 0 wq v K.ps → CutA (bs (compL K d.data.toList)) u wq → Calls Tryz.prog 21  #[kV K v, u] wq (Same (.tuple #[.string d, .int .i64 0, .int .i64 ((compL K d.data.toList).length : Nat)]) wq) := fun wq v u h ⟨ps, g1, g2, g3, g4⟩ => by
      have := cA wq v u ps h g1 (by omega) (fun t ht => by have := g4 t ht; rw [bs_size] at this; omega)
      rw [g3, bs_data, hdc1, hdc2, hdc3, bs_self] at this
      exact this
    clear cW cA hcmp hdc1 hdc2 hdc3 hl1 hl2 hsk
    generalize hCC : compL K d.data.toList = C at *
    generalize hCO : compL (K.withOrd (1 - s.ord)) d.data.toList = CO at *
    clear hCC hCO
    have hzc := bs_size C
    have hzo := bs_size CO
    have hzt := two_size (sumOf dict)
    generalize two (sumOf dict) = TT at *
    unfold optS at cX
    simp only [Option.getD_some, Option.isSome_some, setV, kV] at cX cR cW' cA' cT
    have cC1 := fun wq h => soCut_any d (.slice am lm.length cm) lm wq (by omega) h h3
    have cC2 := fun wq h => soCut_any (bs C) (.slice am lm.length cm) lm wq (by omega) h h3
    (with_reducible refine (cI _).mono ?_); rintro e w2 ⟨rfl, U2⟩
    obtain ⟨hbx, r0, r1, r2⟩ := SetAt.cells (box_up U2 hX)
    go_wp2_with fail
    (with_reducible refine (cS _).mono ?_); rintro e w3 ⟨rfl, U3⟩
    have hX3 := box_up (U2.trans U3) hX
    have hU3 := (hUw2.trans U2).trans U3
    clear r0 r1 r2 hbx U2 U3 hX cI cS
    obtain ⟨hbx, r0, r1, r2⟩ := SetAt.cells hX3
    have hex : (TT ++ bs C).extract 2 (2 + C.length) = bs C := by
      have e1 : TT ++ bs C = bs (TT.data.toList ++ C) := by rw [← bs_app, bs_self]
      have e2 : TT.data.toList.length = 2 := hzt
      rw [e1, bs_ext, List.drop_append_of_le_length (by omega), List.drop_eq_nil_of_le (by omega), List.nil_append, Nat.add_sub_cancel_left, List.take_length]
    go_wp2_with fail
    (with_reducible refine (cT _).mono ?_); rintro e w4 ⟨v4, rfl, ho4, U4⟩
    obtain ⟨a4, c4, rfl⟩ := ownsRow_shape ho4
    clear r0 r1 r2 hbx
    simp only [kV]
    go_wp2_with fail
    have hUa := (Up.refl w4).alloc (.cells #[.int .i64 K.set.ord, .int .i64 K.set.lit, .int .i64 K.set.most, .slice a4 K.ps.length c4, .int .i64 K.base, .int .i64 K.last] 27)
    have hT := (MapKept.heap_alloc w4 (.cells #[.int .i64 K.set.ord, .int .i64 K.set.lit, .int .i64 K.set.most, .slice a4 K.ps.length c4, .int .i64 K.base, .int .i64 K.last] 27)).1
    have hrK : RdP 0 (w4.alloc (.cells #[.int .i64 K.set.ord, .int .i64 K.set.lit, .int .i64 K.set.most, .slice a4 K.ps.length c4, .int .i64 K.base, .int .i64 K.last] 27)) (.slice a4 K.ps.length c4) K.ps := ((RdP.of_own ho4).low (Nat.zero_le _)).up hUa
    have hX5 := box_up (U4.trans hUa) hX3
    have hU5 := hU3.trans (U4.trans hUa)
    clear hUa U4 ho4 hX3 hU3 cT
    generalize w4.alloc (.cells #[.int .i64 K.set.ord, .int .i64 K.set.lit, .int .i64 K.set.most, .slice a4 K.ps.length c4, .int .i64 K.base, .int .i64 K.last] 27) = W5 at *
    generalize w4.heap.size = b12 at *
    (with_reducible refine (cC1 _ (hmu _ hU5)).mono ?_); rintro e w5 hP; obtain ⟨v5, rfl, hcut, U5⟩ := cut_arg (by omega) hP
    have hT := box_up U5 hT
    have hX5 := box_up U5 hX5
    have hrK := hrK.up U5
    have hU6 := hU5.trans U5
    clear hP U5 hU5 cC1
    obtain ⟨k0, k1, k2, k3, k4, k5⟩ := And.intro (box_cell hT 0) (And.intro (box_cell hT 1) (And.intro (box_cell hT 2) (And.intro (box_cell hT 3) (And.intro (box_cell hT 4) (box_cell hT 5))))); simp at k0 k1 k2 k3 k4 k5
    go_wp2_with fail
    (with_reducible refine (cW' _ _ _ hrK hcut).mono ?_); rintro e w6 ⟨rfl, U6⟩
    have hT := box_up U6 hT
    have hX5 := box_up U6 hX5
    have hrK := hrK.up U6
    have hU7 := hU6.trans U6
    clear U6 hU6 k0 k1 k2 k3 k4 k5 hcut cW'
    go_wp2_with fail
    refine wp_region_up 11 (by kernel_rfl) (by kernel_rfl) ?_
    simp only [List.take, List.drop]
    repeat (refine wpUp_step (fun K hK => ?_); go_simp; (try simp only [↓IntWalk.iteOmega]); first
      | (refine hK _ _ ?_; clear hK K)
      | (apply stepU_c
         · intro wq hwq; (have hbq := bcell hwq; (repeat (first | refine fills_no (by rfl) ?_ | refine fills_yes (by rfl) (fun vq hvq => ?_))); simp only [List.filter_nil, fills]; unfold upAt; (try ((have hTq := box_up hwq hT; obtain ⟨k0, k1, k2, k3, k4, k5⟩ := And.intro (box_cell hTq 0) (And.intro (box_cell hTq 1) (And.intro (box_cell hTq 2) (And.intro (box_cell hTq 3) (And.intro (box_cell hTq 4) (box_cell hTq 5))))); simp at k0 k1 k2 k3 k4 k5))); go_simp; (try go_bits); (try simp only [↓IntWalk.iteOmega]); (try (rw [dif_pos (by omega)]; go_simp; try go_bits)); first | exact upOut_value | (apply upOut_call; (go_at_call 21; with_reducible exact cA' _ _ _ (hrK.up hwq) hvq)) | (apply upOut_eq; (go_at_call 21; with_reducible exact cA' _ _ _ (hrK.up hwq) hvq)))
         go_simp; refine hK _ _ ?_; clear hK K)
      | (refine stepU_m (by kernel_rfl) (CutA (bs C)) (cutA_closed) (fun wq hwq => ?_) ?_
         · (have hbq := bcell hwq; (repeat (first | refine fills_no (by rfl) ?_ | refine fills_yes (by rfl) (fun vq hvq => ?_))); simp only [List.filter_nil, fills]; unfold upAt; (try ((have hTq := box_up hwq hT; obtain ⟨k0, k1, k2, k3, k4, k5⟩ := And.intro (box_cell hTq 0) (And.intro (box_cell hTq 1) (And.intro (box_cell hTq 2) (And.intro (box_cell hTq 3) (And.intro (box_cell hTq 4) (box_cell hTq 5))))); simp at k0 k1 k2 k3 k4 k5))); go_simp; (try go_bits); (try simp only [↓IntWalk.iteOmega]); (try (rw [dif_pos (by omega)]; go_simp; try go_bits)); ((with_reducible refine upOut_cut (by rw [bs_size]; omega) ?_); go_at_call 20; exact cC2 _ (hmu _ (hU7.trans hwq))))
         refine hK _ _ ?_; clear hK K))
    refine wpUp_nil (fun wq hwq => ?_)
    simp only [fills]
    rintro u92 -
    have hT := box_up hwq hT
    have hX5 := box_up hwq hX5
    have hrK := hrK.up hwq
    have hU8 := hU7.trans hwq
    clear hwq hU7 cA' cC2
    obtain ⟨k0, k1, k2, k3, k4, k5⟩ := And.intro (box_cell hT 0) (And.intro (box_cell hT 1) (And.intro (box_cell hT 2) (And.intro (box_cell hT 3) (And.intro (box_cell hT 4) (box_cell hT 5))))); simp at k0 k1 k2 k3 k4 k5
    go_wp2_with fail
    (with_reducible refine (cR _ _ hrK).mono ?_); rintro e w8 ⟨rfl, U8⟩
    have hX5 := box_up U8 hX5
    have hU9 := hU8.trans U8
    clear k0 k1 k2 k3 k4 k5 hT hrK U8 hU8 cR
    obtain ⟨hbx, r0, r1, r2⟩ := SetAt.cells hX5
    go_wp2_with fail
    (with_reducible refine (cX _).mono ?_); rintro e w9 ⟨rfl, U9⟩
    have hUf : Up w w9 := by
      refine Up.trans ?_ U9
      (repeat (first | with_reducible exact Up.refl _ | with_reducible assumption | with_reducible refine Up.set ?_ (by first | exact Nat.le_refl _ | (simp only []; omega) | (simp; omega)) _ | with_reducible refine Up.alloc ?_ _ | with_reducible refine Up.drew ?_ | refine Up.trans ?_ (by with_reducible assumption)))
    clear U9 hX5 cX
    go_wp2_with fail
    all_goals
      go_ret
      exact ⟨ret_bool (by simp; try rfl), hUf⟩

set_option maxRecDepth 100000 in
theorem lifted (os : Os) (started : os.Started) (H : Type) (enc : TypeId × Value → H) :
    ReturnsInHanded {} Tryz.checked os 5 .any (Rows.fnWholeTravelSpec.pre6 enc Tryz.prog Tryz.f5 Rows.fnWholeTravelRow.domain false) (Rows.fnWholeTravelSpec.post enc Tryz.prog Tryz.f5 false true false false) := by
  refine returnsInHanded_of_change (C := Tryz.checked) own started (by kernel_rfl) Tryz.func5
    (ChangeSpec.witness6 (enc := enc) (C := Tryz.checked) false ⟨#[], #[.slice none 0 0, .slice none 0 0], []⟩ 8 (by kernel_rfl) (by kernel_rfl) (by kernel_rfl) (by kernel_rfl)) ?_
  intro W base args ds gs before hval0 hW hcnd _
  have hval : ∀ (j : Nat) t v, Tryz.f5.params[j]? = some t → args[j]? = some v → Value.okWide Tryz.prog W .any base t v := hval0
  have hW' := hW
  obtain ⟨p, q, hA0, hV, rfl, hfz, hnd⟩ := hW
  have hA : DataW.TrodAll enc Tryz.prog W 0 (fun _ => true) true Tryz.f5.params.toList args.toList ds p := hA0
  rw [Tryz.params5] at hA hval
  obtain ⟨v0, v1, d0, d1, p0, p1, rfl, rfl, rfl, h0, h1⟩ := trodAll_two hA
  obtain ⟨a0, n0, c0, rfl⟩ := okWide_slice Tryz.underlying22 (hval 0 22 v0 rfl rfl)
  have hlt0 : ∀ x ∈ p0, x.block < W.heap.size := fun x hx => by simpa using hW'.lt x (by simp [hx])
  obtain ⟨fuel0, hf0⟩ := h0
  obtain ⟨lcode, hcode⟩ := open_argU (by simpa [Value.cells] using hf0) hlt0
  obtain ⟨a1, n1, c1, rfl⟩ := okWide_slice Tryz.underlying22 (hval 1 22 v1 rfl rfl)
  have hlt1 : ∀ x ∈ p1, x.block < W.heap.size := fun x hx => by simpa using hW'.lt x (by simp [hx])
  obtain ⟨fuel1, hf1⟩ := h1
  obtain ⟨lmore, hmore⟩ := open_argU (by simpa [Value.cells] using hf1) hlt1
  obtain ⟨rfl, rfl⟩ := trodVars_none hV
  refine (walk _ _ _ _ W hcode hmore).mono fun e W' ⟨he, hu⟩ => ?_
  subst he
  exact ⟨_, rfl, post_law (f := Tryz.f5) TryzlaidOut (by kernel_rfl) rfl Tryz.underlying4 rfl hW' (fun ds' h => by subst h; exact ⟨rfl, rfl, rfl⟩) hu⟩

set_option maxHeartbeats 80000000 in
theorem closed : joinedFacts Tryz.checked.prog 5 Tryz.f5 Rows.fnWholeTravelSpec Rows.fnWholeTravelRow = true := by
  unfold joinedFacts
  repeat' (with_reducible refine (Bool.and_eq_true_iff.2 ⟨?_, ?_⟩))
  all_goals (as_aux_lemma => kernel_rfl)

theorem holds : Rows.FnWholeTravelSaid :=
  OpenClaim.holds_of_wide 5 Tryz.f5 rfl rfl rfl rfl rfl rfl rfl ⟨rfl, rfl, rfl, rfl, rfl⟩ rfl rfl rfl rfl rfl (by as_aux_lemma => kernel_rfl) Tryz.func5 closed
    (of_decide_eq_true (by as_aux_lemma => kernel_rfl)) (by unfold Func.isWrapper; first | (rw [if_pos (by decide +kernel)]; kernel_rfl) | (rw [if_neg (by decide +kernel)]; exact ⟨rfl, rfl⟩))
    (fun os started H enc _ => lifted os started H enc)

end Go.Proofs.YtgbakgaegldomaaGreat.lawFnWholeTravel
