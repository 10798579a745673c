/- What is read with places does not depend on the blocks that are not touched. Conditions: none. -/
import Derived.Lib.ConvBytes
import Derived.Lib.SlBytesRow
import Derived.Test.YtekbbnkkninolaaGreatMFnReadIndexedLawA
import Derived.Test.YtekbbnkkninolaaGreatMFnReadIndexedLawB
import Derived.Test.YtekbbnkkninolaaGreatMFnReadIndexedLawC
import Derived.Test.YtekbbnkkninolaaGreatMFnReadIndexedLawD
import Derived.Test.YtekbbnkkninolaaGreatMFnReadIndexedLawE
import Derived.Test.YtekbbnkkninolaaGreatMFnReadIndexedLawF
import Derived.Test.YtekbbnkkninolaaGreatMFnReadIndexedLawG
namespace Go.Proofs.YtekbbnkkninolaaGreat
set_option linter.unusedVariables false
set_option linter.unusedSimpArgs false
open Go Go.RowKit

theorem byte_ag {a b : ByteArray} {j : Nat} (h : a.data.toList[j]? = b.data.toList[j]?) : byteAt a j = byteAt b j := by
  unfold byteAt
  rw [List.getD_eq_getElem?_getD, List.getD_eq_getElem?_getD, h]
theorem ext_ag {a b : ByteArray} {i k : Nat} (h : ∀ j, i ≤ j → j < k → a.data.toList[j]? = b.data.toList[j]?) : a.extract i k = b.extract i k := ba_ext (by
  rw [Lib.extract_data, Lib.extract_data]
  apply List.ext_getElem?
  intro j
  rw [List.getElem?_take, List.getElem?_take]
  split
  · rw [List.getElem?_drop, List.getElem?_drop]
    exact h _ (by omega) (by omega)
  · rfl)
theorem num_ag {a b : ByteArray} {j : Nat} (h : a.data.toList[j]? = b.data.toList[j]?) (h' : a.data.toList[j + 1]? = b.data.toList[j + 1]?) : numAt a j = numAt b j := by
  unfold numAt
  rw [byte_ag h, byte_ag h']
/-- A block's text that did not turn parses alike. -/
theorem parse_ag {a b : ByteArray} {p : Nat} (hs : a.size = b.size) (h : ∀ j, p ≤ j → j < endAt b p + 2 → a.data.toList[j]? = b.data.toList[j]?) : parseOk a p = parseOk b p ∧ blkAt a p = blkAt b p ∧ numAt a (p + 2) = numAt b (p + 2) := by
  have he : p + 8 ≤ endAt b p := by unfold endAt; omega
  have n2 : numAt a (p + 2) = numAt b (p + 2) := num_ag (h _ (by omega) (by omega)) (h _ (by omega) (by omega))
  have n4 : numAt a (p + 4) = numAt b (p + 4) := num_ag (h _ (by omega) (by omega)) (h _ (by omega) (by omega))
  have n6 : numAt a (p + 6) = numAt b (p + 6) := num_ag (h _ (by omega) (by omega)) (h _ (by omega) (by omega))
  have b0 : byteAt a p = byteAt b p := byte_ag (h _ (by omega) (by omega))
  have b1 : byteAt a (p + 1) = byteAt b (p + 1) := byte_ag (h _ (by omega) (by omega))
  have ee : endAt a p = endAt b p := by unfold endAt; rw [n6]
  have eb : bodyAt a p = bodyAt b p := by
    unfold bodyAt
    rw [n6]
    exact ext_ag fun j h1 h2 => h j (by omega) (by unfold endAt; omega)
  have ne : numAt a (endAt b p) = numAt b (endAt b p) := num_ag (h _ (by omega) (by omega)) (h _ (by omega) (by omega))
  have ex : a.extract (p + 1) (endAt b p) = b.extract (p + 1) (endAt b p) := ext_ag fun j h1 h2 => h j (by omega) (by omega)
  refine ⟨?_, ?_, n2⟩
  · unfold parseOk headOk
    rw [ee, n2, n4, b0, b1, eb, ne, ex, hs]
  · unfold blkAt
    rw [n2, n4, b1, eb]
theorem blkIdx_dmg {st st' : ByteArray} {l : List BlkD} (hb : contBlocks st = some l) (hs : st'.size = st.size) {i : Nat} (hi : i < l.length) (h : ∀ j : Nat, bytesSum (l.take i) ≤ j → (j : Int) < bytesSum (l.take (i + 1)) → st'.data.toList[j]? = st.data.toList[j]?) :
    blkIdx st' (placesK l l.length) i (sizeSum (l.take i)) = some l[i] := by
  have h0 := blkIdx_lies hb hi
  obtain ⟨q, q1, q2, q3, q4, q5, q6, -⟩ := (cont_lies hb).2.2 i l[i] (List.getElem?_eq_getElem hi)
  obtain ⟨e1, e2, e3⟩ := parse_ag (p := q) hs fun j h1 h2 => h j (by omega) (by omega)
  have hp := placesK_get l l.length i hi
  unfold blkIdx at h0 ⊢
  rw [hp] at h0 ⊢
  simp only [← q1, Int.toNat_natCast] at h0 ⊢
  rw [e1, e2, e3]
  exact h0
/-- What is read of it. -/
theorem idx_dmg {f : BlkD → Option (List UInt8)} {st st' : ByteArray} {l : List BlkD} {D : List UInt8} {a b : Int} (hb : contBlocks st = some l) (hL : LenOk f l) (hD : allF f l = some D) (h0 : 0 ≤ a) (hab : a ≤ b) (hbD : b ≤ D.length) (hs : st'.size = st.size)
    (h : ∀ i, i < l.length → hitB l a b i = true → ∀ j : Nat, bytesSum (l.take i) ≤ j → (j : Int) < bytesSum (l.take (i + 1)) → st'.data.toList[j]? = st.data.toList[j]?) :
    idxO f true st' (placesK l l.length) a b = some ((D.drop a.toNat).take (b.toNat - a.toNat)) := by
  have hok := contBlocks_ok hb
  obtain ⟨z1, z2, -⟩ := cont_lies hb
  have hDl := allF_len l D hL hD
  have hbb := bytesSum_bd hok
  have hl40 := hok.1
  have hpl := placesK_length l l.length
  have hok2 : idxOk true st' (placesK l l.length) a b = true := by
    unfold idxOk
    rw [places_valid hok z2, inB_iff.2 ⟨h0, hab⟩, inB_iff.2 ⟨by omega, by omega⟩, decide_eq_true (by omega)]; rfl
  unfold idxO
  rw [if_pos hok2]
  unfold idxR
  by_cases he : a = b
  · subst he
    rw [if_pos rfl, Nat.sub_self, List.take_zero]
  · rw [if_neg he]
    obtain ⟨k, k1, k2, k3⟩ := find_block hok h0 l.length (Nat.le_refl _) (by rw [List.take_length]; omega)
    have hsk : seekK (placesK l l.length) a (placesK l l.length).length = k := by
      rw [hpl]; exact seekK_at hok k2 k3 l.length k1 (Nat.le_refl _)
    have hst : ((placesK l l.length).getD k ⟨0, 0⟩).start = sizeSum (l.take k) := by
      rw [List.getD_eq_getElem?_getD, placesK_get l l.length k k1]; rfl
    rw [hsk, if_neg (by omega), Int.toNat_natCast, hst]
    unfold fromN
    obtain ⟨m, m1, m2, m3⟩ := need_full (st := st') (ps := placesK l l.length) hL hD hbD k (fun i hi hki hib => blkIdx_dmg hb hs hi (h i hi (hitB_iff.2 ⟨hib, by
      have := sums_le hok (show k + 1 ≤ i + 1 by omega) (by omega); omega, by omega⟩))) (l.length - k) k (Nat.le_refl _) (by omega) (by omega)
    rw [hpl, m1, Option.map_some]
    have hz0 : 0 ≤ sizeSum (l.take k) := (sizeSum_bd (accOk_take hok k)).1
    generalize sizeSum (l.take k) = Z at *
    rw [List.drop_take, List.drop_drop, List.take_take]
    congr 2
    · omega
    · congr 1
      omega

theorem cont_len2 {s : SetD} {dict : List UInt8} {st : ByteArray} {l : List BlkD} (hb : contBlocks st = some l) : LenOk (dataO s dict) l := by
  intro b hm x hx
  obtain ⟨i, hi, rfl⟩ := List.mem_iff_getElem.1 hm
  obtain ⟨q, q1, q2, q3, q4, q5, -⟩ := (cont_lies hb).2.2 i l[i] (List.getElem?_eq_getElem hi)
  rw [← q4] at hx ⊢
  exact len_dataO (b := blkAt st q) (parseOk_form q3).2.2 hx
theorem conO_some2 {s : SetD} {dict : List UInt8} {st : ByteArray} {D : List UInt8} (h : conO s dict st = some D) : ∃ l, contBlocks st = some l ∧ allF (dataO s dict) l = some D ∧ fitsB s dict = true := by
  unfold conO at h
  split at h
  · next hf =>
    cases hb : contBlocks st with
    | none => rw [hb] at h; cases h
    | some l => rw [hb] at h; exact ⟨l, rfl, h, hf⟩
  · cases h

/-- A buffer of bytes that a conversion made. -/
def BufAt (g : Nat) (L : List UInt8) (w : World) : Prop := ∃ C : Array Value, w.heap[g]? = some (.cells C 5 (C.size, C.size + 1)) ∧ L.length ≤ C.size ∧ ∀ (i : Nat) (b : UInt8), L[i]? = some b → C[i]? = some (Value.int .u8 (b.toNat : Int))
theorem BufAt.lt {g : Nat} {L : List UInt8} {w : World} (h : BufAt g L w) : g < w.heap.size := by
  obtain ⟨C, h1, -⟩ := h
  exact (Array.getElem?_eq_some_iff.1 h1).1
theorem BufAt.cell {g : Nat} {L : List UInt8} {w : World} (h : BufAt g L w) {i : Nat} {b : UInt8} (hi : L[i]? = some b) : w.cell? ⟨g, i, none⟩ = some (.int .u8 (b.toNat : Int)) := by
  obtain ⟨C, h1, h2, h3⟩ := h
  simp [World.cell?, h1, h3 i b hi]
theorem BufAt.free {g : Nat} {L : List UInt8} {w : World} (h : BufAt g L w) {i : Nat} (hi : i < L.length) : w.frozen? ⟨g, i, none⟩ = false := by
  obtain ⟨C, h1, h2, -⟩ := h
  simp [World.frozen?, h1]
  try omega
theorem BufAt.up {g : Nat} {L : List UInt8} {w w' : World} (h : BufAt g L w) (hu : Up w w') : BufAt g L w' := by
  obtain ⟨C, h1, h2⟩ := h
  exact ⟨C, box_up hu h1, h2⟩
theorem BufAt.new (w : World) (st : ByteArray) : BufAt w.heap.size st.data.toList (Lib.bytesWorld w 5 st) := by
  refine ⟨_, Lib.bytesWorld_at_new w _ st, ?_, fun i b hi => ?_⟩
  · unfold Lib.bytesCells
    simp
  · unfold Lib.bytesCells
    have hlt := (List.getElem?_eq_some_iff.1 hi).1
    simp at hlt
    rw [Array.getElem?_append_left (by simpa using hlt)]
    simp at hi
    simp [hi]
theorem BufAt.set {g : Nat} {L : List UInt8} {w : World} (h : BufAt g L w) (p : Nat) (b : UInt8) : BufAt g (L.set p b) (w.setCell ⟨g, p, none⟩ (.int .u8 (b.toNat : Int))) := by
  obtain ⟨C, h1, h2, h3⟩ := h
  refine ⟨C.setIfInBounds p (.int .u8 (b.toNat : Int)), ?_, by simpa using h2, fun i x hi => ?_⟩
  · simp [World.setCell, Array.getElem?_modify, h1]
  · rw [List.getElem?_set] at hi
    rw [Array.getElem?_setIfInBounds]
    split at hi
    · next e =>
      subst e
      split at hi
      · cases hi
        rw [if_pos rfl, if_pos (by omega)]
      · cases hi
    · next e => rw [if_neg e]; exact h3 i x hi
theorem BufAt.conv {g cap : Nat} {L : List UInt8} {w : World} (h : BufAt g L w) {n : Nat} (hn : n = L.length) : (convert 38 9 (.slice (some ⟨g, 0, none⟩) n cap)).run Tryz.prog w = .ok (.string (bs L)) w := by
  have hb : Lib.Bytes w g 0 (bs L) := fun i hi => by
    rw [Nat.zero_add]
    refine h.cell ?_
    have hi' : i < L.length := by rw [bs_size] at hi; exact hi
    rw [List.getElem?_eq_getElem hi']
    congr 1
  have := Lib.run_convert_whole (P := Tryz.prog) w 38 5 9 Tryz.underlying38 Tryz.underlying5 Tryz.underlying9 g 0 (bs L) hb cap
  rw [hn, ← bs_size]
  exact this

/-- Outside the blocks that are not touched the bytes are those of the stream. -/
def Agree (l : List BlkD) (a b : Int) (st L : List UInt8) : Prop := ∀ i, i < l.length → hitB l a b i = true → ∀ j : Nat, bytesSum (l.take i) ≤ j → (j : Int) < bytesSum (l.take (i + 1)) → L[j]? = st[j]?
theorem Agree.set {l : List BlkD} {a b : Int} {st L : List UInt8} (h : Agree l a b st L) {i p : Nat} (hi : i < l.length) (hh : hitB l a b i = false) (hp : (p : Int) = bytesSum (l.take i)) (x : UInt8) : Agree l a b st (L.set p x) := by
  intro q hq hhq j h1 h2
  rw [List.getElem?_set, if_neg, h q hq hhq j h1 h2]
  intro e
  subst e
  rcases Nat.lt_trichotomy i q with h' | h' | h'
  · have e1 := bytes_lt hi
    have e2 := bytes_mono (l := l) (show i + 1 ≤ q by omega) (by omega)
    omega
  · subst h'; rw [hh] at hhq; cases hhq
  · have e2 := bytes_mono (l := l) (show q + 1 ≤ i by omega) (by omega)
    omega
theorem any_hit {l : List BlkD} {a b : Int} {i : Nat} (hi : i < l.length) : (touchK l a b l.length).any (fun x => x == (i : Int)) = hitB l a b i := by
  unfold touchK
  cases h : hitB l a b i
  · rw [List.any_eq_false]
    intro x hx
    simp only [List.mem_map, List.mem_filter, List.mem_range] at hx
    obtain ⟨y, ⟨h1, h2⟩, rfl⟩ := hx
    intro e
    have e2 : (y : Int) = i := by simpa using e
    have : y = i := by omega
    subst this
    rw [h] at h2; cases h2
  · rw [List.any_eq_true]
    exact ⟨(i : Int), by simp only [List.mem_map, List.mem_filter, List.mem_range]; exact ⟨i, ⟨hi, h⟩, rfl⟩, by simp⟩
theorem any_take {T : List Int} {k : Nat} (h : k < T.length) (i : Int) : (T.take (k + 1)).any (fun x => x == i) = ((T.take k).any (fun x => x == i) || (T[k] == i)) := by
  rw [List.take_succ_eq_append_getElem h, List.any_append]
  simp

end Go.Proofs.YtekbbnkkninolaaGreat
namespace Go.Proofs.YtekbbnkkninolaaGreat.lawFnReadIndexed
set_option linter.unusedVariables false
set_option linter.unusedSimpArgs false
open Go.ChangeShapes Go.WideShapes Go.ChangeAt Go.RowKit Go.Joins
open Go.ChangeMaps (open_string shut_string)

def RelIn (T : List Int) (i : Nat) (w : World) (u k : Value) (wr : World) : Prop := ∃ q : Nat, q ≤ T.length ∧ k = .int .i64 q ∧ u = .bool ((T.take q).any (fun x => x == (i : Int))) ∧ Up w wr
def RelOut (l : List BlkD) (a b : Int) (st : List UInt8) (g : Nat) (w : World) (i : Value) (wr : World) : Prop := ∃ (q : Nat) (L : List UInt8), q ≤ l.length ∧ i = .int .i64 q ∧ L.length = st.length ∧ Agree l a b st L ∧ BufAt g L wr ∧ Up w wr

set_option maxRecDepth 100000 in
set_option maxHeartbeats 16000000 in
theorem walk (vc : Value) (lc : List UInt8) (vm : Value) (lm : List UInt8) (w : World) (hc : ArgU w vc lc) (hm : ArgU w vm lm) :
    Calls Tryz.prog 15  #[vc, vm] w (Same (.bool true) w) := by
  have cD := fun w' hu => drawReadRange_any vc lc w' (hc.up (w' := w') hu)
  obtain ⟨ac, cc, rfl, hc1, hc2, -⟩ := hc
  obtain ⟨am, cm, rfl, hm1, hm2, -⟩ := hm
  unfold maxLen at hc2 hm2
  by_cases h1 : 1048576 < lc.length
  · go_enter Tryz.func15, Tryz.ntmps15
    go_wp2
    go_ret
    exact ⟨rfl, by (repeat (first | with_reducible exact Up.refl _ | with_reducible assumption | with_reducible refine Up.set ?_ (by first | exact Nat.le_refl _ | (simp only []; omega) | (simp; omega)) _ | with_reducible refine Up.alloc ?_ _ | with_reducible refine Up.drew ?_ | refine Up.trans ?_ (by with_reducible assumption)))⟩
  by_cases h2 : 1048576 < lm.length
  · go_enter Tryz.func15, Tryz.ntmps15
    go_wp2
    go_ret
    exact ⟨rfl, by (repeat (first | with_reducible exact Up.refl _ | with_reducible assumption | with_reducible refine Up.set ?_ (by first | exact Nat.le_refl _ | (simp only []; omega) | (simp; omega)) _ | with_reducible refine Up.alloc ?_ _ | with_reducible refine Up.drew ?_ | refine Up.trans ?_ (by with_reducible assumption)))⟩
  go_enter Tryz.func15, Tryz.ntmps15
  go_wp2_with (go_at_call 57; (with_reducible refine (cD _ (by (repeat (first | with_reducible exact Up.refl _ | with_reducible assumption | with_reducible refine Up.set ?_ (by first | exact Nat.le_refl _ | (simp only []; omega) | (simp; omega)) _ | with_reducible refine Up.alloc ?_ _ | with_reducible refine Up.drew ?_ | refine Up.trans ?_ (by with_reducible assumption))))).mono ?_); rintro e w1 ⟨s, dict, st, a, b, rfl, hs, hdi, hst, U1⟩; have B1 := bcell U1; have Z1 := U1.size; (try simp at Z1); (try rw [Nat.add_one_le_iff] at Z1))
  have cI := fun w => rangeI_any s dict st a b w hs (by omega) (by omega)
  have cS := fun w => rangeS_any s dict st a b w (by omega) (by omega)
  clear cD
  cases hco : rngO (conO s dict.data.toList st) a b with
  | none =>
    rw [hco, optS_none] at cI cS
    simp only [setV] at cI cS
    clear hco
    go_wp2_with (first | ((go_at_call 21; (with_reducible refine (cI _).mono ?_); rintro e w2 ⟨rfl, U2⟩; have B2 := bcell U2; have Z2 := U2.size; (try simp at Z2); (try rw [Nat.add_one_le_iff] at Z2)); (try have V2a : w1.heap.size < w2.heap.size := (by omega)); (try have V2b : w1.heap.size + 1 < w2.heap.size := (by omega)); (try have V2c : w2.heap.size < w2.heap.size := (by omega)); (try have V2d : w3.heap.size < w2.heap.size := (by omega)); (try have V2e : w4.heap.size < w2.heap.size := (by omega)); skip) | ((go_at_call 20; (with_reducible refine (cS _).mono ?_); rintro e w3 ⟨rfl, U3⟩; have B3 := bcell U3; have Z3 := U3.size; (try simp at Z3); (try rw [Nat.add_one_le_iff] at Z3)); (try have V3a : w1.heap.size < w3.heap.size := (by omega)); (try have V3b : w1.heap.size + 1 < w3.heap.size := (by omega)); (try have V3c : w2.heap.size < w3.heap.size := (by omega)); (try have V3d : w3.heap.size < w3.heap.size := (by omega)); (try have V3e : w4.heap.size < w3.heap.size := (by omega)); skip))
    go_ret
    refine ⟨ret_bool (by simp; try rfl), ?_⟩
    (repeat (first | with_reducible exact Up.refl _ | with_reducible assumption | with_reducible refine Up.set ?_ (by first | exact Nat.le_refl _ | (simp only []; omega) | (simp; omega)) _ | with_reducible refine Up.alloc ?_ _ | with_reducible refine Up.drew ?_ | refine Up.trans ?_ (by with_reducible assumption)))
  | some R =>
    obtain ⟨D, l, hcb, hall, hfit, h0, hab, hbD, hR⟩ : ∃ D l, contBlocks st = some l ∧ allF (dataO s dict.data.toList) l = some D ∧ fitsB s dict.data.toList = true ∧ 0 ≤ a ∧ a ≤ b ∧ b ≤ D.length ∧ R = (D.drop a.toNat).take (b.toNat - a.toNat) := by
      cases hcc : conO s dict.data.toList st with
      | none => rw [hcc] at hco; cases hco
      | some D =>
        obtain ⟨l, g1, g2, g3⟩ := conO_some2 hcc
        rw [hcc] at hco
        unfold rngO at hco
        rw [Option.bind_some] at hco
        split at hco
        · next h => exact ⟨D, l, g1, g2, g3, h.1, h.2.1, h.2.2, (Option.some.inj hco).symm⟩
        · cases hco
    have hl40 := (contBlocks_ok hcb).1
    have hstb : st.size ≤ 4000 := by
      have := (cont_lies hcb).1; have := bytesSum_bd (contBlocks_ok hcb); omega
    have cX := fun wx => indexI_any st wx (by omega)
    have cT := fun wx => touchI_any st a b wx (by omega)
    unfold IndexPost at cX
    unfold TouchPost contTouch at cT
    rw [hcb] at cX cT
    rw [hco] at cI cS
    unfold optS at cI cS
    simp only [Option.getD_some, Option.isSome_some] at cI cS cX cT
    have HPL : Hid ((placesK l l.length).length = l.length) := placesK_length l l.length
    have hpv : (placesK l l.length).length ≤ 1048576 := by rw [HPL.out]; omega
    have cR := fun (st' : ByteArray) (v : Value) (base : Nat) wx hz h => idxI_any s dict st' (placesK l l.length) v base a b wx hs (by omega) hz h hpv
    have HDM : Hid (∀ L : List UInt8, L.length = st.data.toList.length → Agree l a b st.data.toList L → idxO (dataO s dict.data.toList) (fitsB s dict.data.toList) (bs L) (placesK l l.length) a b = some R) := fun L hl hA => by
      rw [hfit, hR]
      exact idx_dmg hcb (cont_len2 hcb) hall h0 hab hbD (by rw [bs_size, hl, ba_len]) (fun i hi hh j h1 h2 => by rw [bs_data]; exact hA i hi hh j h1 h2)
    have HLI : Hid (∀ i, i < l.length → ∃ p : Nat, (p : Int) = bytesSum (l.take i) ∧ p < st.size) := fun i hi => by
      obtain ⟨q, q1, q2, -⟩ := (cont_lies hcb).2.2 i l[i] (List.getElem?_eq_getElem hi)
      exact ⟨q, q1, q2⟩
    have HPG : Hid (∀ q, q < l.length → (placesK l l.length)[q]? = some ⟨bytesSum (l.take q), sizeSum (l.take q)⟩) := fun q hq => placesK_get l l.length q hq
    have HAH : Hid (∀ i, i < l.length → (touchK l a b l.length).any (fun x => x == (i : Int)) = hitB l a b i) := fun i hi => any_hit hi
    have htl := touchK_length l a b l.length
    have hcv := fun w => Lib.run_convert_string_bytes (P := Tryz.prog) w 9 38 5 st Tryz.underlying9 Tryz.underlying38 Tryz.underlying5
    clear hco hcb hall hR hfit
    generalize placesK l l.length = P at *
    generalize touchK l a b l.length = T at *
    simp only [setV] at *
    go_wp2_with (first | ((go_at_call 21; (with_reducible refine (cI _).mono ?_); rintro e w2 ⟨rfl, U2⟩; have B2 := bcell U2; have Z2 := U2.size; (try simp at Z2); (try rw [Nat.add_one_le_iff] at Z2)); (try have V2a : w1.heap.size < w2.heap.size := (by omega)); (try have V2b : w1.heap.size + 1 < w2.heap.size := (by omega)); (try have V2c : w2.heap.size < w2.heap.size := (by omega)); (try have V2d : w3.heap.size < w2.heap.size := (by omega)); (try have V2e : w4.heap.size < w2.heap.size := (by omega)); skip) | ((go_at_call 20; (with_reducible refine (cS _).mono ?_); rintro e w3 ⟨rfl, U3⟩; have B3 := bcell U3; have Z3 := U3.size; (try simp at Z3); (try rw [Nat.add_one_le_iff] at Z3)); (try have V3a : w1.heap.size < w3.heap.size := (by omega)); (try have V3b : w1.heap.size + 1 < w3.heap.size := (by omega)); (try have V3c : w2.heap.size < w3.heap.size := (by omega)); (try have V3d : w3.heap.size < w3.heap.size := (by omega)); (try have V3e : w4.heap.size < w3.heap.size := (by omega)); skip) | (go_at_call 56; (with_reducible refine (cX _).mono ?_); rintro e w4 ⟨v4, rfl, h4, U4⟩; rw [HPL.out] at h4; obtain ⟨a4, c4, rfl⟩ := ownsRow_shape h4) | (go_at_call 58; (with_reducible refine (cT _).mono ?_); rintro e w5 ⟨v5, rfl, h5, U5⟩; obtain ⟨a5, c5, rfl⟩ := ownsRow_shape h5))
    have hXu : Up w5 (Lib.bytesWorld w5 5 st) := ⟨rfl, rfl, rfl, by rw [Lib.bytesWorld_size]; omega, fun k hk => Lib.bytesWorld_at_old w5 _ st k hk⟩
    have hXb : BufAt w5.heap.size st.data.toList (Lib.bytesWorld w5 5 st) := BufAt.new w5 st
    have hU3 : Up (w1.alloc (.cells #[.int .i64 s.ord, .int .i64 s.lit, .int .i64 s.most] 26)) w5 := ((U2.trans U3).trans U4).trans U5
    have HSB : Hid (SetAt w1.heap.size s.ord s.lit s.most w5) := box_up hU3 (MapKept.heap_alloc w1 _).1
    have HUW : Hid (Up w w5) := (U1.alloc _).trans hU3
    have H4 := Lib.hid (ownsRow_up h4 U5)
    have H5 := Lib.hid h5
    clear cI cS cX cT hcv B1 B2 B3 U1 U2 U3 U4 U5 hU3 h4 h5
    generalize Lib.bytesWorld w5 5 st = X at *
    generalize grownCap w5 st.size 0 5 = cap at *
    go_loopw [18] (fun i wr => RelOut l a b st.data.toList w5.heap.size w5 i wr) (fun i _ => l.length - (intOf i).toNat)
    case atStart => exact ⟨0, st.data.toList, Nat.zero_le _, rfl, rfl, fun i _ _ j _ _ => rfl, hXb, hXu⟩
    case round =>
      obtain ⟨q, L, hq, rfl, hLl, hAg, hBf, hup⟩ := hrel
      have HLL := Lib.hid hLl
      have HAG := Lib.hid hAg
      have HBF := Lib.hid hBf
      have HUP := Lib.hid hup
      have hLz : L.length = st.size := by rw [hLl, ba_len]
      have HLZ := Lib.hid hLz
      clear hXu hXb hLl hAg hLz
      by_cases hlt : q < l.length
      · obtain ⟨W, rfl⟩ : ∃ W, W = wr := ⟨_, rfl⟩
        clear hup hBf
        go_wp2
        go_loopw [19, 20] (fun u k wr => RelIn T q W u k wr) (fun _ k _ => T.length - (intOf k).toNat)
        case atStart => exact ⟨0, Nat.zero_le _, rfl, by simp, Up.refl _⟩
        case round =>
          obtain ⟨k, hk, rfl, rfl, huq⟩ := hrel
          have hupW := HUP.out.trans huq
          by_cases hkt : k < T.length
          · obtain ⟨g2, rfl, hn1, hn2, -, hg2⟩ := ownsRow_slot H5.out (by omega)
            have c0 := (hupW.cell (p := ⟨g2, k, none⟩) hg2).trans (ownsRow_cell H5.out (j := k) (u := .int .i64 T[k]) (by simp [cellsI, List.getElem?_eq_getElem hkt]))
            have hgr := Nat.lt_of_lt_of_le hg2 hupW.size
            have HA := Lib.hid (any_take hkt (q : Int))
            unfold maxLen at hn2
            generalize T[k] = tk at *
            generalize (T.take k).any (fun x => x == (q : Int)) = Y at *
            cases Y
            · go_wp2
              go_roundw
              case rel => exact ⟨k + 1, by omega, by go_num, by rw [HA.out]; rfl, by (repeat (first | with_reducible exact Up.refl _ | with_reducible assumption | with_reducible refine Up.set ?_ (by first | exact Nat.le_refl _ | (simp only []; omega) | (simp; omega)) _ | with_reducible refine Up.alloc ?_ _ | with_reducible refine Up.drew ?_ | refine Up.trans ?_ (by with_reducible assumption)))⟩
              case measure => simp [intOf]; omega
            · go_wp2
              go_roundw
              case rel => exact ⟨k + 1, by omega, by go_num, by rw [HA.out]; rfl, by (repeat (first | with_reducible exact Up.refl _ | with_reducible assumption | with_reducible refine Up.set ?_ (by first | exact Nat.le_refl _ | (simp only []; omega) | (simp; omega)) _ | with_reducible refine Up.alloc ?_ _ | with_reducible refine Up.drew ?_ | refine Up.trans ?_ (by with_reducible assumption)))⟩
              case measure => simp [intOf]; omega
          · have e : k = T.length := by omega
            subst e
            rw [List.take_length, HAH.out q hlt]
            cases hh : hitB l a b q
            · obtain ⟨p, hp1, hp2⟩ := HLI.out q hlt
              obtain ⟨g1, rfl, hn1, hn2, -, hg1⟩ := ownsRow_slot H4.out (by omega)
              obtain ⟨d0, d1⟩ := plc_cells (w := wr) (fun j u hj => (hupW.cell (p := ⟨g1, j, none⟩) hg1).trans (ownsRow_cell H4.out hj)) (HPG.out q hlt)
              simp only at d0 d1
              rw [← hp1] at d0
              have HP1 := Lib.hid hp1
              have HH := Lib.hid hh
              have hB := HBF.out.up huq
              have f0 := hB.free (i := p) (by have := HLZ.out; omega)
              have e0 := hB.cell (List.getElem?_eq_getElem (show p < L.length by have := HLZ.out; omega))
              have hgB := hB.lt
              have hgr := Nat.lt_of_lt_of_le hg1 hupW.size
              have hby : (lm.length : Int) % 256 = ((UInt8.ofNat lm.length).toNat : Int) := by simp
              have HB2 := Lib.hid hB
              unfold maxLen at hn2
              generalize L[p]'_ = bp at *
              generalize UInt8.ofNat lm.length = nb at *
              clear hp1 hh hB
              go_wp2
              go_roundw
              case rel => exact ⟨q + 1, L.set p nb, by omega, by go_num, by rw [List.length_set]; exact HLL.out, HAG.out.set hlt HH.out HP1.out _, HB2.out.set p _, by (repeat (first | with_reducible exact Up.refl _ | with_reducible assumption | with_reducible refine Up.set ?_ (by first | exact Nat.le_refl _ | (simp only []; omega) | (simp; omega)) _ | with_reducible refine Up.alloc ?_ _ | with_reducible refine Up.drew ?_ | refine Up.trans ?_ (by with_reducible assumption)))⟩
              case measure => simp [intOf]; omega
            · go_wp2
              go_roundw
              case rel => exact ⟨q + 1, L, by omega, by go_num, HLL.out, HAG.out, HBF.out.up huq, by (repeat (first | with_reducible exact Up.refl _ | with_reducible assumption | with_reducible refine Up.set ?_ (by first | exact Nat.le_refl _ | (simp only []; omega) | (simp; omega)) _ | with_reducible refine Up.alloc ?_ _ | with_reducible refine Up.drew ?_ | refine Up.trans ?_ (by with_reducible assumption)))⟩
              case measure => simp [intOf]; omega
      · have e : q = l.length := by omega
        subst e
        have c1 := fun wx h => cR st (.slice a4 l.length c4) w3.heap.size wx (by omega) h
        have c2 := fun wx h => cR (bs L) (.slice a4 l.length c4) w3.heap.size wx (by rw [bs_size, HLZ.out]; omega) h
        have k1 := HDM.out st.data.toList rfl (fun i _ _ j _ _ => rfl)
        rw [bs_self] at k1
        rw [k1] at c1
        rw [HDM.out L HLL.out HAG.out] at c2
        unfold optS at c1 c2
        simp only [Option.getD_some, Option.isSome_some, HPL.out] at c1 c2
        obtain ⟨hbs, t0, t1, t2⟩ := SetAt.cells (box_up hup HSB.out)
        clear k1 hBf cR
        go_wp2_with fail
        (with_reducible refine (c1 _ (ownsRow_up H4.out HUP.out)).mono ?_); rintro e w7 ⟨rfl, U7⟩
        have HU7 := Lib.hid (HUP.out.trans U7)
        have hcv := (HBF.out.up U7).conv (cap := cap) (n := st.size) (by rw [HLZ.out])
        clear hbs t0 t1 t2 U7 hup
        obtain ⟨hbs, t0, t1, t2⟩ := SetAt.cells (box_up HU7.out HSB.out)
        go_wp2_with fail
        (with_reducible refine (c2 _ (ownsRow_up H4.out HU7.out)).mono ?_); rintro e w8 ⟨rfl, U8⟩
        go_wp2
        go_ret
        refine ⟨ret_bool (by simp; try rfl), ?_⟩
        exact (HUW.out.trans HU7.out).trans U8

set_option maxRecDepth 100000 in
theorem lifted (os : Os) (started : os.Started) (H : Type) (enc : TypeId × Value → H) :
    ReturnsInHanded {} Tryz.checked os 15 .any (Rows.fnReadIndexedSpec.pre6 enc Tryz.prog Tryz.f15 Rows.fnReadIndexedRow.domain false) (Rows.fnReadIndexedSpec.post enc Tryz.prog Tryz.f15 false true false false) := by
  refine returnsInHanded_of_change (C := Tryz.checked) own started (by kernel_rfl) Tryz.func15
    (ChangeSpec.witness6 (enc := enc) (C := Tryz.checked) false ⟨#[], #[.slice none 0 0, .slice none 0 0], []⟩ 8 (by kernel_rfl) (by kernel_rfl) (by kernel_rfl) (by kernel_rfl)) ?_
  intro W base args ds gs before hval0 hW hcnd _
  have hval : ∀ (j : Nat) t v, Tryz.f15.params[j]? = some t → args[j]? = some v → Value.okWide Tryz.prog W .any base t v := hval0
  have hW' := hW
  obtain ⟨p, q, hA0, hV, rfl, hfz, hnd⟩ := hW
  have hA : DataW.TrodAll enc Tryz.prog W 0 (fun _ => true) true Tryz.f15.params.toList args.toList ds p := hA0
  rw [Tryz.params15] at hA hval
  obtain ⟨v0, v1, d0, d1, p0, p1, rfl, rfl, rfl, h0, h1⟩ := trodAll_two hA
  obtain ⟨a0, n0, c0, rfl⟩ := okWide_slice Tryz.underlying38 (hval 0 38 v0 rfl rfl)
  have hlt0 : ∀ x ∈ p0, x.block < W.heap.size := fun x hx => by simpa using hW'.lt x (by simp [hx])
  obtain ⟨fuel0, hf0⟩ := h0
  obtain ⟨lcode, hcode⟩ := open_argU (by simpa [Value.cells] using hf0) hlt0
  obtain ⟨a1, n1, c1, rfl⟩ := okWide_slice Tryz.underlying38 (hval 1 38 v1 rfl rfl)
  have hlt1 : ∀ x ∈ p1, x.block < W.heap.size := fun x hx => by simpa using hW'.lt x (by simp [hx])
  obtain ⟨fuel1, hf1⟩ := h1
  obtain ⟨lmore, hmore⟩ := open_argU (by simpa [Value.cells] using hf1) hlt1
  obtain ⟨rfl, rfl⟩ := trodVars_none hV
  refine (walk _ _ _ _ W hcode hmore).mono fun e W' ⟨he, hu⟩ => ?_
  subst he
  exact ⟨_, rfl, post_law (f := Tryz.f15) TryzlaidOut (by kernel_rfl) rfl Tryz.underlying4 rfl hW' (fun ds' h => by subst h; exact ⟨rfl, rfl, rfl⟩) hu⟩

set_option maxHeartbeats 80000000 in
theorem closed : joinedFacts Tryz.checked.prog 15 Tryz.f15 Rows.fnReadIndexedSpec Rows.fnReadIndexedRow = true := by
  unfold joinedFacts
  repeat' (with_reducible refine (Bool.and_eq_true_iff.2 ⟨?_, ?_⟩))
  all_goals (as_aux_lemma => kernel_rfl)

theorem holds : Rows.FnReadIndexedSaid :=
  OpenClaim.holds_of_wide 15 Tryz.f15 rfl rfl rfl rfl rfl rfl rfl ⟨rfl, rfl, rfl, rfl, rfl⟩ rfl rfl rfl rfl rfl (by as_aux_lemma => kernel_rfl) Tryz.func15 closed
    (of_decide_eq_true (by as_aux_lemma => kernel_rfl)) (by unfold Func.isWrapper; first | (rw [if_pos (by decide +kernel)]; kernel_rfl) | (rw [if_neg (by decide +kernel)]; exact ⟨rfl, rfl⟩))
    (fun os started H enc _ => lifted os started H enc)

end Go.Proofs.YtekbbnkkninolaaGreat.lawFnReadIndexed
